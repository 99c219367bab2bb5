import Derived.Test.YtclgbpneokeaeaaVfG1
import Derived.Test.YtclgbpneokeaeaaProg
import Derived.Test.YtclgbpneokeaeaaVaG
import Derived.KernelRfl
open Go Go.VS
set_option maxRecDepth 8000
set_option maxHeartbeats 4000000
namespace Go.Hm
theorem Qq {a0:FK} {i0:Nat} {w0:Nat} {r:(FD×FK)} (h:Kj a0=some r) {F:List It} {H:J} (hS:aC H (⟨.ptr i0 w0 0 0,3,[.agg [.fz (a0.Code.map (AV.int .u8)),.int .i64 a0.At,.int .u64 a0.F2]]⟩::F)) {P:AV→J→Prop} (hP: ∀H',aC H' (⟨.ptr i0 w0 0 0,3,[.agg [.fz (r.2.Code.map (AV.int .u8)),.int .i64 r.2.At,.int .u64 r.2.F2]]⟩::F)→P (.agg [.int .i64 r.1.Id,.int .i64 r.1.Fw,.str r.1.Text,.fz (r.1.Has.map Fx)]) H'):aq C 102 [.ptr i0 w0 0 0] H P:=by
 refine Dk gC (res:=[.cell 2 55]) (n:=62) rfl rfl rfl rfl fun K0 Fy=> ?_;simp only [W,Nat.reduceSub,Nat.reduceAdd,List.replicate];unfold Kj at h;refine CZ fun K1 FA=> ?_;refine Dh gC ?_;try simp only [W,Nat.reduceAdd]
 refine Dr hS rfl rfl fun FB FC H hS=> ?_;try simp only [W]
 refine C6 FA ?_;refine CZ fun K4 FG=> ?_;refine Dh gC ?_;try simp only [W,Nat.reduceAdd]
 refine DC h fun FP Hp h=> ?_;obtain ⟨F7,FT⟩:=FP;try dsimp only at h
 refine Kv Hp (hS.D0 2 [1,0] (by decide)) fun H hS=> ?_
 try simp only [W]
 refine DC h fun F0 JO h=> ?_;obtain ⟨FN,Gm⟩:=F0;try dsimp only at h
 refine PX JO hS fun H hS=> ?_;try simp only [W]
 refine DC h fun FE IN h=> ?_;obtain ⟨F8,LF⟩:=FE;try dsimp only at h
 refine N5 IN hS fun Ib L4 H hS=> ?_;try simp only [W]
 refine C6 FG ?_;refine CZ fun Io GC=> ?_;refine CZ fun HA F5=> ?_;refine Dh gC ?_;try simp only [W,Nat.reduceAdd]
 refine C6 F5 ?_;obtain ⟨N2,h,g22⟩:=Option.bind_eq_some_iff.1 h;refine DI gC (fun s H=> ∃Gg:List Part,N2=(Gg)∧ ∃Gy:AV,bG Gy∧s=(.ptr i0 w0 0 0::u:: .ptr FB FC 0 0::Gy::u::u::u::u::u::u::u::u::u::u::u::u::u::u::u::u::u::u::u::u::u::u::u::u::u::u::u::u::u::u::u::u::u::u::u::u::u::u::u::u::u::u::u::u::u::u::u::u::u::u::u::u::u::u::u::u::u::u::[])∧aC H (⟨Gy,4,Gg.map GB⟩::⟨.ptr i0 w0 0 0,3,[.agg [.fz (Gm.Code.map (AV.int .u8)),.int .i64 Gm.At,.int .u64 Gm.F2]]⟩::⟨.ptr FB FC 0 0,4,[.agg [.int .i64 0,.int .i64 0,.str ([]),.nil]]⟩::F)) (fun M3 HS=> ?_) (fun s H hq=> ?_)
 ·refine CZ fun JP Hb=> ?_;refine C4 ?_;simp only [W];refine Dg h (fun hc h=> ?_) (fun hc h=> ?_)
  ·refine Dh gC ?_;try simp only [W,Nat.reduceAdd]
   refine DC h fun J6 TJ h=> ?_;obtain ⟨Pk,JC⟩:=J6;try dsimp only at h
   refine N5 TJ hS fun v28 N4 H hS=> ?_;try simp only [W]
   refine C6 Hb ?_;refine EQ (s' :=(.ptr i0 w0 0 0::u:: .ptr FB FC 0 0::v28::u::u::u::u::u::u::u::u::u::u::u::u::u::u::u::u::u::u::u::u::u::u::u::u::u::u::u::u::u::u::u::u::u::u::u::u::u::u::u::u::u::u::u::u::u::u::u::u::u::u::u::u::u::u::u::u::u::u::[])) rfl ?_
   exact DJ HS ⟨_,(Option.some.inj h).symm,_,N4,rfl,(hS.D0 4 [0,2,3] (by decide))⟩
  ·refine C1 ?_;refine C6 Hb ?_;refine EQ (s' :=(.ptr i0 w0 0 0::u:: .ptr FB FC 0 0::Ib::u::u::u::u::u::u::u::u::u::u::u::u::u::u::u::u::u::u::u::u::u::u::u::u::u::u::u::u::u::u::u::u::u::u::u::u::u::u::u::u::u::u::u::u::u::u::u::u::u::u::u::u::u::u::u::u::u::u::[])) rfl ?_
   exact DJ HS ⟨_,(Option.some.inj h).symm,_,L4,rfl,hS⟩
 ·obtain ⟨Gg,FI,Gy,Hq,rfl,hS⟩:=hq;obtain rfl:=FI.symm;replace h:=g22;try dsimp only at h
  refine C6 GC ?_;refine CZ fun Me If=> ?_;refine D6 gC [(10,[])] (by kernel_rfl) rfl (by kernel_rfl) ?_
  try simp only [W,Fv,reduceIte,Nat.reduceAdd,jl,l7,Nat.reduceEqDiff]
  refine Dw 0 hS rfl rfl rfl rfl rfl h (fun I_ X9 X_ Ya P6 h TK=> ?_) Hq.ne;obtain ⟨Yb,TL,TM⟩:=hS.elem 0 rfl TK P6;try simp only [W,Fv,F3,Nat.reduceAdd,Nat.reduceBEq,TL,TM]
  refine Dw 0 hS rfl rfl rfl rfl rfl h (fun NW Yc Yd Ye TN h TO=> ?_) Hq.ne;obtain ⟨Yf,TP,TQ⟩:=hS.elem 0 rfl TO TN;try simp only [W,Fv,F3,Nat.reduceAdd,Nat.reduceBEq,TP,TQ]
  refine Ey (bT:=[[.sc,.sc,.sc,.sl [.sc,.sc]]]) (ys:=[.int .i64 I_.Id,.int .i64 NW.Fw]) h rfl (by rfl) fun F1 Na h=>⟨.agg [.int .i64 F1.Id,.int .i64 F1.Fw,.str F1.Text,.own 2 (F1.Has.map Fx)],Qj Na (aC.nil _) fun L3 OA H hS=>En rfl (Em (DX rfl (DX rfl (DX rfl (DY 0 hS rfl OA (fun _ _=>by simp [a_,aR,cu,dA,Fx]) fun H hS=>DW (Ej rfl)))))),?_⟩
  simp only [W,vP (c:=Fx) (fun _=>rfl)];try simp only [W,Fv,F3,reduceIte,Nat.reduceAdd,Nat.reduceLeDiff,Nat.reduceBEq,Nat.reduceMul,Bool.false_eq_true,jl,l7,Nat.reduceEqDiff]
  refine Dr hS rfl rfl fun GR GS H hS=> ?_;try simp only [W]
  refine Ds (a:= .agg [.int .i64 F1.Id,.int .i64 F1.Fw,.str F1.Text,.fz (F1.Has.map Fx)]) (y' := .agg [.int .i64 F1.Id,.int .i64 F1.Fw,.str F1.Text,.fz (F1.Has.map Fx)]) 0 hS rfl rfl rfl rfl rfl rfl rfl rfl fun H hS=> ?_
  try simp only [W]
  refine C6 If ?_;refine CZ fun N_ Jm=> ?_;refine CZ fun Nb IU=> ?_;refine Dh gC ?_;try simp only [W,Fv,Nat.reduceAdd]
  refine Dz 1 hS rfl Hq rfl ?_;try simp only [W]
  refine C6 IU ?_;obtain ⟨TR,TS,TT⟩:=Option.bind_eq_some_iff.1 h;refine DI gC (fun s H=> ∃H7:List Int,∃LG:Int,∃LH:Int,∃IG:Int,∃II:Int,∃JK:List UInt8,∃IJ:List Span,TR=(H7,LG,LH,IG,II,JK,IJ)∧s=(.ptr i0 w0 0 0::u:: .ptr FB FC 0 0::u::u:: .ptr GR GS 0 0::u::u::u::u::u::u::u::u::u::u::u::u::u::u::u::u::u::u::u::u::u::u::u::u::u::u::u::u::u::u::u::u::u::u::u::u::u::u::u::u::u::u::u::u::u::u::u::u::u::u::u::u::u::u::u::u::[])∧aC H (⟨.ptr i0 w0 0 0,3,[.agg [.fz (H7.map (AV.int .u8)),.int .i64 LG,.int .u64 LH]]⟩::⟨.ptr FB FC 0 0,4,[.agg [.int .i64 0,.int .i64 0,.str ([]),.nil]]⟩::⟨.ptr GR GS 0 0,4,[.agg [.int .i64 IG,.int .i64 II,.str JK,.fz (IJ.map Fx)]]⟩::F)) (fun TU OG=> ?_) (fun s H hq=> ?_)
  ·refine C0 fun SQ Nh=> ?_;refine DE gC TS (fun x s H=>match x with|(Gp,Gz,GW,Hu,Hh,Hi,IE,IF)=>s=(.ptr i0 w0 0 0::u:: .ptr FB FC 0 0::u::u:: .ptr GR GS 0 0::u::u::u::u::u::u::u::u::u::u::u::u::u::u::u::u::u::u::u::u::u::u::u::u::u::u::u::u::Gy:: .int .i64 (Gg.length:Int):: .int .i64 Gp::u::u::u::u::u::u::u::u::u::u::u::u::u::u::u::u::u::u::u::u::u::u::u::u::u::[])∧aC H (⟨Gy,4,Gg.map GB⟩::⟨.ptr i0 w0 0 0,3,[.agg [.fz (Gz.map (AV.int .u8)),.int .i64 GW,.int .u64 Hu]]⟩::⟨.ptr FB FC 0 0,4,[.agg [.int .i64 0,.int .i64 0,.str ([]),.nil]]⟩::⟨.ptr GR GS 0 0,4,[.agg [.int .i64 Hh,.int .i64 Hi,.str IE,.fz (IF.map Fx)]]⟩::F)) ⟨rfl,(hS.D0 4 [1,2,3,0] (by decide))⟩ (fun x Yg s H h TW hi Qh Jq=> ?_)
   obtain ⟨Gp,Gz,GW,Hu,Hh,Hi,IE,IF⟩:=x;try dsimp only at hi
   obtain ⟨rfl,hS⟩:=hi;simp only [NU] at h;refine CZ fun Tn OD=> ?_;refine Dh gC ?_;try simp only [W,Fv,Nat.reduceAdd]
   refine C6 OD ?_;refine CZ fun Yh Qr=> ?_;refine C4 ?_;simp only [W];refine Dg h (fun hc h=> ?_) (fun hc h=> ?_)
   ·refine C1 ?_;refine C6 Qr ?_;refine CZ fun SR Ou=> ?_;obtain ⟨TX,h,TY⟩:=Option.bind_eq_some_iff.1 h;refine DI gC (fun s H=> ∃Ly:List Int,∃Lz:Int,∃LA:Int,∃LB:Int,∃LC:Int,∃LD:List UInt8,∃ID:List Span,TX=(Ly,Lz,LA,LB,LC,LD,ID)∧s=(.ptr i0 w0 0 0::u:: .ptr FB FC 0 0::u::u:: .ptr GR GS 0 0::u::u::u::u::u::u::u::u::u::u::u::u::u::u::u::u::u::u::u::u::u::u::u::u::u::u::u::u::Gy:: .int .i64 (Gg.length:Int):: .int .i64 Gp::u::u::u::u::u::u::u::u::u::u::u::u::u::u::u::u::u::u::u::u::u::u::u::u::u::[])∧aC H (⟨Gy,4,Gg.map GB⟩::⟨.ptr i0 w0 0 0,3,[.agg [.fz (Ly.map (AV.int .u8)),.int .i64 Lz,.int .u64 LA]]⟩::⟨.ptr FB FC 0 0,4,[.agg [.int .i64 0,.int .i64 0,.str ([]),.nil]]⟩::⟨.ptr GR GS 0 0,4,[.agg [.int .i64 LB,.int .i64 LC,.str LD,.fz (ID.map Fx)]]⟩::F)) (fun Tv OE=> ?_) (fun s H hq=> ?_)
    ·refine C0 fun Yi TZ=> ?_;refine CZ fun Yj T1=> ?_;refine Dh gC ?_;try simp only [W,Fv,Nat.reduceAdd]
     refine Dw 0 hS rfl rfl rfl rfl rfl h (fun Il Yk Yl Ym T2 h T3=> ?_) Hq.ne;obtain ⟨Yn,T4,T5⟩:=hS.elem 0 rfl T3 T2;try simp only [W,Fv,F3,reduceIte,Nat.reduceAdd,Nat.reduceLeDiff,T4,T5]
     refine Dr hS rfl rfl fun Yo Yp H hS=> ?_;try simp only [W]
     refine Ds (a:= .agg [.int .i64 Il.Id,.int .i64 Il.At,.int .i64 Il.Fw,.str Il.Text]) (y' := .agg [.int .i64 Il.Id,.int .i64 Il.At,.int .i64 Il.Fw,.str Il.Text]) 0 hS rfl rfl rfl rfl rfl rfl rfl rfl fun H hS=> ?_
     try simp only [W]
     refine C6 T1 ?_;refine CZ fun Yq T6=> ?_;refine Dh gC ?_;try simp only [W,Fv,reduceIte,Nat.reduceAdd,Nat.reduceLeDiff,hS.var 4 rfl,hS.var 0 rfl]
     refine DC h fun T7 T8 h=> ?_;obtain ⟨GG,Yr,Pj⟩:=T7;try dsimp only at h
     refine Qp T8 hS fun Nl Qs H hS=> ?_;try simp only [W]
     refine Dr hS rfl rfl fun Nn Np H hS=> ?_;try simp only [W]
     refine Ds (a:= .agg [.int .i64 GG.Id,.int .i64 GG.Fw,.str GG.Text,Nl]) (y' := .agg [.int .i64 GG.Id,.int .i64 GG.Fw,.str GG.Text,Nl]) 0 hS rfl rfl rfl rfl rfl (by simp only [dP,List.all_cons,List.all_nil,Qs.q8];rfl) rfl rfl fun H hS=> ?_
     try simp only [W]
     refine C6 T6 ?_;refine CZ fun Ys T9=> ?_;obtain ⟨T_,h,Ua⟩:=Option.bind_eq_some_iff.1 h;refine DI gC (fun s H=> ∃Ls:Bool,∃Kg:List Int,∃Kh:Int,∃Ki:Int,T_=(Ls,Kg,Kh,Ki)∧s=(.ptr i0 w0 0 0::u:: .ptr FB FC 0 0::u::u:: .ptr GR GS 0 0::u::u:: .ptr Nn Np 0 0::u::u::u::u::u::u::u::u::u::u::u::u::u::u::u::u::u::u::u::u::u::u::u::u::u::Gy:: .int .i64 (Gg.length:Int):: .int .i64 Gp::u::u::u::u::u::u::u::u::u::u::u::u::u::u:: .bool Ls::u::u::u::u::u::u::u::u::u::u::[])∧aC H (⟨Gy,4,Gg.map GB⟩::⟨Nl,2,GG.Has.map Fx⟩::⟨.ptr i0 w0 0 0,3,[.agg [.fz (Kg.map (AV.int .u8)),.int .i64 Kh,.int .u64 Ki]]⟩::⟨.ptr FB FC 0 0,4,[.agg [.int .i64 0,.int .i64 0,.str ([]),.nil]]⟩::⟨.ptr GR GS 0 0,4,[.agg [.int .i64 Hh,.int .i64 Hi,.str IE,.fz (IF.map Fx)]]⟩::⟨.ptr Nn Np 0 0,4,[.agg [.int .i64 GG.Id,.int .i64 GG.Fw,.str GG.Text,Nl]]⟩::F)) (fun Yt Qt=> ?_) (fun s H hq=> ?_)
     ·refine CZ fun Yu Qu=> ?_;refine Dh gC ?_;try simp only [W,Nat.reduceAdd]
      refine D4 h (fun hc h=> ?_) (fun hc h=> ?_)
      ·try simp only [W,hc]
       refine DC h fun Ub Uc h=> ?_;obtain ⟨NV,MF⟩:=Ub;try dsimp only at h
       refine M0 Uc (hS.D0 7 [4,0,1,2,3,5,6] (by decide)) fun H hS=> ?_
       try simp only [W,reduceIte]
       refine C6 Qu ?_;refine EQ (s' :=(.ptr i0 w0 0 0::u:: .ptr FB FC 0 0::u::u:: .ptr GR GS 0 0::u::u:: .ptr Nn Np 0 0::u::u::u::u::u::u::u::u::u::u::u::u::u::u::u::u::u::u::u::u::u::u::u::u::u::Gy:: .int .i64 (Gg.length:Int):: .int .i64 Gp::u::u::u::u::u::u::u::u::u::u::u::u::u::u:: .bool NV::u::u::u::u::u::u::u::u::u::u::[])) rfl ?_
       exact DJ Qt ⟨_,_,_,_,(Option.some.inj h).symm,rfl,(hS.D0 7 [4,2,0,5,6,1] (by decide))⟩
      ·try simp only [W,hc]
       refine C6 Qu ?_;refine EQ (s' :=(.ptr i0 w0 0 0::u:: .ptr FB FC 0 0::u::u:: .ptr GR GS 0 0::u::u:: .ptr Nn Np 0 0::u::u::u::u::u::u::u::u::u::u::u::u::u::u::u::u::u::u::u::u::u::u::u::u::u::Gy:: .int .i64 (Gg.length:Int):: .int .i64 Gp::u::u::u::u::u::u::u::u::u::u::u::u::u::u:: .bool false::u::u::u::u::u::u::u::u::u::u::[])) rfl ?_
       exact DJ Qt ⟨_,_,_,_,(Option.some.inj h).symm,rfl,(hS.D0 7 [3,1,4,5,6,0] (by decide))⟩
     ·obtain ⟨Ls,Kg,Kh,Ki,rfl,rfl,hS⟩:=hq;replace h:=Ua;try dsimp only at h
      refine C6 T9 ?_;obtain ⟨Ud,h,Ue⟩:=Option.bind_eq_some_iff.1 h;refine DI gC (fun s H=> ∃Lt:Int,∃Lu:Int,∃Lv:List UInt8,∃Lw:List Span,Ud=(Lt,Lu,Lv,Lw)∧s=(.ptr i0 w0 0 0::u:: .ptr FB FC 0 0::u::u:: .ptr GR GS 0 0::u::u::u::u::u::u::u::u::u::u::u::u::u::u::u::u::u::u::u::u::u::u::u::u::u::u::u::u::Gy:: .int .i64 (Gg.length:Int):: .int .i64 Gp::u::u::u::u::u::u::u::u::u::u::u::u::u::u::u::u::u::u::u::u::u::u::u::u::u::[])∧aC H (⟨Gy,4,Gg.map GB⟩::⟨.ptr i0 w0 0 0,3,[.agg [.fz (Kg.map (AV.int .u8)),.int .i64 Kh,.int .u64 Ki]]⟩::⟨.ptr FB FC 0 0,4,[.agg [.int .i64 0,.int .i64 0,.str ([]),.nil]]⟩::⟨.ptr GR GS 0 0,4,[.agg [.int .i64 Lt,.int .i64 Lu,.str Lv,.fz (Lw.map Fx)]]⟩::F)) (fun Uf Nq=> ?_) (fun s H hq=> ?_)
      ·refine CZ fun Yv Qv=> ?_;refine C4 ?_;simp only [W];refine Dg h (fun hc h=> ?_) (fun hc h=> ?_)
       ·refine Di (fz:=[(1,[([52],[.sc,.sc,.sc,.sl [.sc,.sc]])])]) gC ?_;try simp only [W,Fv,reduceIte,Nat.reduceAdd,Nat.reduceLeDiff,Nat.reduceBEq,hS.var 5 rfl]
        refine DZ rfl ?_;refine DX rfl ?_;refine DX rfl ?_;refine DX rfl ?_;refine DY 1 hS rfl Qs (fun _ _=>by simp [a_,aR,cu,dA,Fx]) fun H hS=> ?_
        refine DW ?_;simp only [W,vP (c:=Fx) (fun _=>rfl)];try simp only [W,Fv,F3,reduceIte,Nat.reduceAdd,Nat.reduceLeDiff,Nat.reduceBEq,Nat.reduceMul,Bool.false_eq_true]
        refine Ds (a:= .agg [.int .i64 GG.Id,.int .i64 GG.Fw,.str GG.Text,.fz (GG.Has.map Fx)]) (y' := .agg [.int .i64 GG.Id,.int .i64 GG.Fw,.str GG.Text,.fz (GG.Has.map Fx)]) 3 hS rfl rfl rfl rfl rfl rfl rfl rfl fun H hS=> ?_
        try simp only [W,Nat.reduceAdd]
        refine C6 Qv ?_;refine EQ (s' :=(.ptr i0 w0 0 0::u:: .ptr FB FC 0 0::u::u:: .ptr GR GS 0 0::u::u::u::u::u::u::u::u::u::u::u::u::u::u::u::u::u::u::u::u::u::u::u::u::u::u::u::u::Gy:: .int .i64 (Gg.length:Int):: .int .i64 Gp::u::u::u::u::u::u::u::u::u::u::u::u::u::u::u::u::u::u::u::u::u::u::u::u::u::[])) rfl ?_
        exact DJ Nq ⟨_,_,_,_,(Option.some.inj h).symm,rfl,(hS.D0 5 [0,1,2,3] (by decide))⟩
       ·refine C1 ?_;refine C6 Qv ?_;refine EQ (s' :=(.ptr i0 w0 0 0::u:: .ptr FB FC 0 0::u::u:: .ptr GR GS 0 0::u::u::u::u::u::u::u::u::u::u::u::u::u::u::u::u::u::u::u::u::u::u::u::u::u::u::u::u::Gy:: .int .i64 (Gg.length:Int):: .int .i64 Gp::u::u::u::u::u::u::u::u::u::u::u::u::u::u::u::u::u::u::u::u::u::u::u::u::u::[])) rfl ?_
        exact DJ Nq ⟨_,_,_,_,(Option.some.inj h).symm,rfl,(hS.D0 6 [0,2,3,4] (by decide))⟩
      ·obtain ⟨Lt,Lu,Lv,Lw,rfl,rfl,hS⟩:=hq;replace h:=Ue;try dsimp only at h
       refine C9 TZ ?_;exact DJ OE ⟨_,_,_,_,_,_,_,(Option.some.inj h).symm,rfl,hS⟩
    ·obtain ⟨Ly,Lz,LA,LB,LC,LD,ID,rfl,rfl,hS⟩:=hq;replace h:=TY;try dsimp only at h
     refine C6 Ou ?_;refine Dh gC ?_;try simp only [W,Fv,Nat.reduceAdd]
     exact DF Jq h ⟨rfl,hS⟩
   ·refine C3 ?_;refine C8 Qr ?_;try obtain rfl:=Option.some.inj h
    obtain rfl:=TW _ rfl;have h:(some (Gz,GW,Hu,Hh,Hi,IE,IF):Option ((List Int)×Int×Int×Int×Int×(List UInt8)×(List Span)))=some (Gz,GW,Hu,Hh,Hi,IE,IF):=rfl;refine DG Jq ?_;refine Da Nh ?_;exact DJ OG ⟨_,_,_,_,_,_,_,(Option.some.inj h).symm,rfl,(hS.D0 4 [1,2,3] (by decide))⟩
  ·obtain ⟨H7,LG,LH,IG,II,JK,IJ,rfl,rfl,hS⟩:=hq;replace h:=TT;try dsimp only at h
   refine C6 Jm ?_;refine CZ fun Yw Ug=> ?_;refine CZ fun Yx Uh=> ?_;refine Dh gC ?_;try simp only [W,Nat.reduceAdd]
   refine DC h fun MK Ui h=> ?_;obtain ⟨LI,LJ⟩:=MK;try dsimp only at h
   refine M0 Ui hS fun H hS=> ?_;try simp only [W]
   refine C6 Uh ?_;obtain ⟨Uj,h,Uk⟩:=Option.bind_eq_some_iff.1 h;refine DI gC (fun s H=> ∃JL:List UInt8,Uj=(JL)∧s=(u::u:: .ptr FB FC 0 0::u::u:: .ptr GR GS 0 0::u::u::u::u::u::u::u::u::u::u::u::u::u::u::u::u::u::u::u::u::u::u::u::u::u::u::u::u::u::u::u::u::u::u::u::u::u::u::u::u::u::u::u::u::u::u::u::u::u::u::u::u::u::u::u::u::[])∧aC H (⟨.ptr i0 w0 0 0,3,[.agg [.fz (LJ.Code.map (AV.int .u8)),.int .i64 LJ.At,.int .u64 LJ.F2]]⟩::⟨.ptr FB FC 0 0,4,[.agg [.int .i64 0,.int .i64 0,.str ([]),.nil]]⟩::⟨.ptr GR GS 0 0,4,[.agg [.int .i64 IG,.int .i64 II,.str JL,.fz (IJ.map Fx)]]⟩::F)) (fun Yy Qw=> ?_) (fun s H hq=> ?_)
   ·refine CZ fun Ul Mk=> ?_;refine C4 ?_;simp only [W];refine Dg h (fun hc h=> ?_) (fun hc h=> ?_)
    ·refine Dh gC ?_;try simp only [W,Fv,Nat.reduceAdd,Nat.reduceBEq,hS.var 2 rfl]
     refine DP rfl rfl h fun Pl Yz h=> ?_;try simp only [W,Fv]
     refine Dp h fun Im YA h=> ?_;try simp only [W,Fv,Nat.reduceAdd,Nat.reduceBEq,hS.var 2 rfl]
     refine Ds (a:= .str Im) (y' := .agg [.int .i64 IG,.int .i64 II,.str Im,.fz (IJ.map Fx)]) 2 hS rfl rfl rfl rfl rfl rfl rfl rfl fun H hS=> ?_
     try simp only [W]
     refine C6 Mk ?_;refine EQ (s' :=(u::u:: .ptr FB FC 0 0::u::u:: .ptr GR GS 0 0::u::u::u::u::u::u::u::u::u::u::u::u::u::u::u::u::u::u::u::u::u::u::u::u::u::u::u::u::u::u::u::u::u::u::u::u::u::u::u::u::u::u::u::u::u::u::u::u::u::u::u::u::u::u::u::u::[])) rfl ?_
     exact DJ Qw ⟨_,(Option.some.inj h).symm,rfl,hS⟩
    ·refine C1 ?_;refine C6 Mk ?_;refine EQ (s' :=(u::u:: .ptr FB FC 0 0::u::u:: .ptr GR GS 0 0::u::u::u::u::u::u::u::u::u::u::u::u::u::u::u::u::u::u::u::u::u::u::u::u::u::u::u::u::u::u::u::u::u::u::u::u::u::u::u::u::u::u::u::u::u::u::u::u::u::u::u::u::u::u::u::u::[])) rfl ?_
     exact DJ Qw ⟨_,(Option.some.inj h).symm,rfl,hS⟩
   ·obtain ⟨JL,FI,rfl,hS⟩:=hq;obtain rfl:=FI.symm;replace h:=Uk;try dsimp only at h
    refine C6 Ug ?_;refine CZ fun YB Um=> ?_;refine Dh gC ?_;try simp only [W,Fv,reduceIte,Nat.reduceAdd,Nat.reduceLeDiff,hS.var 2 rfl]
    refine Ds (a:= .agg [.int .i64 IG,.int .i64 II,.str JL,.fz (IJ.map Fx)]) (y' := .agg [.int .i64 IG,.int .i64 II,.str JL,.fz (IJ.map Fx)]) 1 hS rfl rfl rfl rfl rfl rfl rfl rfl fun H hS=> ?_
    try simp only [W]
    refine C6 Um ?_;refine C2 ?_;refine Dc Fy (D2 rfl rfl (hS.var 1 rfl) rfl rfl) ?_;try obtain rfl:=Option.some.inj h
    exact hP _ (hS.D0 3 [0] (by decide))
theorem Un {a0:FK} {a1:List (List UInt8)} {i0:Nat} {w0:Nat} {m10:AV} {r:(List UInt8×FK)} (h:I4 a0 a1=some r) {F:List It} {H:J} (hS:aC H (⟨.ptr i0 w0 0 0,3,[.agg [.fz (a0.Code.map (AV.int .u8)),.int .i64 a0.At,.int .u64 a0.F2]]⟩::⟨m10,1,a1.map AV.str⟩::F)) (Qx:bG m10) {P:AV→J→Prop} (hP: ∀H',aC H' (⟨.ptr i0 w0 0 0,3,[.agg [.fz (r.2.Code.map (AV.int .u8)),.int .i64 r.2.At,.int .u64 r.2.F2]]⟩::⟨m10,1,a1.map AV.str⟩::F)→P (.str r.1) H'):aq C 103 [.ptr i0 w0 0 0,m10] H P:=by
 refine Dk gC (res:=[.tmp 4]) (n:=12) rfl rfl rfl rfl fun K0 Fy=> ?_;simp only [W,Nat.reduceSub,Nat.reduceAdd,List.replicate];unfold I4 at h;refine CZ fun K1 FA=> ?_;refine Dh gC ?_;try simp only [W,Nat.reduceAdd]
 refine C6 FA ?_;refine CZ fun K2 Bc=> ?_;refine Dh gC ?_;try simp only [W,Fv,Nat.reduceAdd]
 refine Dz 1 hS rfl Qx rfl ?_;try simp only [W]
 refine DC h fun b3 lj h=> ?_;obtain ⟨Gk,FP⟩:=b3;try dsimp only at h
 refine Kv lj hS fun H hS=> ?_;try simp only [W,Fv]
 refine Dw 1 hS rfl rfl rfl rfl rfl h (fun F7 YC YD YE G3 h Uo=> ?_) Qx.ne;obtain ⟨YF,Uq,Ur⟩:=hS.elem 1 rfl Uo G3;try simp only [W,Fv,Uq,Ur]
 refine C6 Bc ?_;refine C2 ?_;refine Dd Fy rfl ?_;try obtain rfl:=Option.some.inj h
 exact hP _ hS
theorem Us {a0:List Int} {r:(FD×Part)} (h:LK a0=some r) {F:List It} {H:J} (hS:aC H (F)) {P:AV→J→Prop} (hP: ∀H',aC H' (F)→P (.aA [.agg [.int .i64 r.1.Id,.int .i64 r.1.Fw,.str r.1.Text,.fz (r.1.Has.map Fx)],.agg [.int .i64 r.2.Id,.int .i64 r.2.At,.int .i64 r.2.Fw,.str r.2.Text]]) H'):aq C 42 [.fz (a0.map (AV.int .u8))] H P:=by
 refine Dk gC (res:=[.cell 2 55,.cell 3 52]) (n:=32) rfl rfl rfl rfl fun K0 Fy=> ?_;simp only [W,Nat.reduceSub,Nat.reduceAdd,List.replicate];unfold LK at h;refine CZ fun K1 FA=> ?_;refine Dh gC ?_;try simp only [W,Nat.reduceAdd]
 refine Dr hS rfl rfl fun FB FC H hS=> ?_;try simp only [W]
 refine Dr hS rfl rfl fun Ga Gb H hS=> ?_;try simp only [W]
 refine C6 FA ?_;refine CZ fun K6 G7=> ?_;refine Dh gC ?_;try simp only [W,Fv,Nat.reduceAdd]
 refine D5 rfl rfl rfl rfl rfl ?_;try simp only [W]
 refine Dq hS rfl rfl rfl rfl fun YG YH H hS=> ?_;try simp only [W]
 refine C6 G7 ?_;refine CZ fun K9 FW=> ?_;refine Dh gC ?_;try simp only [W,Nat.reduceAdd]
 refine DC h fun Gm Kt h=> ?_;obtain ⟨FE,F8⟩:=Gm;try dsimp only at h
 refine Qq Kt hS fun H hS=> ?_;try simp only [W]
 refine Dr hS rfl rfl fun Qy Qz H hS=> ?_;try simp only [W]
 refine Ds (a:= .agg [.int .i64 FE.Id,.int .i64 FE.Fw,.str FE.Text,.fz (FE.Has.map Fx)]) (y' := .agg [.int .i64 FE.Id,.int .i64 FE.Fw,.str FE.Text,.fz (FE.Has.map Fx)]) 0 hS rfl rfl rfl rfl rfl rfl rfl rfl fun H hS=> ?_
 try simp only [W]
 refine C6 FW ?_;refine CZ fun JM G6=> ?_;refine D6 gC [(8,[0,1,5,6,7]),(10,[0,1,5,6]),(13,[])] (by kernel_rfl) rfl (by kernel_rfl) ?_
 try simp only [W,Fv,reduceIte,Nat.reduceAdd,Nat.reduceBEq,hS.var 0 rfl,jl,l7,Nat.reduceEqDiff,D_,Ea,Eb,Ec,Ed,Nat.reduceEqDiff]
 refine DC h fun IB JU h=> ?_;obtain ⟨Ha,GF⟩:=IB;try dsimp only at h
 refine Kv JU (hS.D0 4 [1,0,2,3] (by decide)) fun H hS=> ?_
 refine D7 ?_;refine D8 (by first|rfl|(simp [h_,aO,W,Fv,AV.cells,Eb,hS.var 1 rfl];done)) ?_
 refine D8 (by first|rfl|(simp [h_,aO,W,Fv,bR,jW,aG,AV.cells,Eb,hS.var 1 rfl];done)) ?_
 refine D8 (by first|rfl|(simp [h_,aO,W,Fv,AV.cells,Eb,hS.var 1 rfl];done)) ?_
 refine D8 (by first|rfl|(simp [h_,aO,W,Fv,bR,jW,aG,AV.cells,Eb,hS.var 1 rfl];done)) ?_
 refine D8 (by first|rfl|(simp [h_,aO,dm,lenOf,W,Fv,F3,bR,jW,aG,AV.cells,Eb,Ea,Ec,hS.var 0 rfl,hS.var 1 rfl,hS.var 2 rfl,hS.var 3 rfl];done)) ?_
 refine D9 ?_;try simp only [W]
 refine DB (el:=([[97],[98,99],[100,101,102,103]]:List (List UInt8)).map AV.str) hS rfl rfl rfl rfl rfl rfl rfl fun Gy H Hq hS=> ?_;try simp only [W]
 refine DC h fun FL L8 h=> ?_;obtain ⟨G5,Je⟩:=FL;try dsimp only at h
 refine Un L8 (hS.D0 5 [1,0,2,3,4] (by decide)) Hq fun H hS=> ?_
 refine D7 ?_;refine D8 (by first|rfl|(simp [h_,aO,W,Fv,AV.cells,Eb,hS.var 2 rfl];done)|exact EG 1 hS rfl Hq rfl rfl rfl rfl rfl) ?_
 refine D8 (by first|rfl|(simp [h_,aO,W,Fv,bR,jW,aG,AV.cells,Eb,hS.var 2 rfl];done)|exact EG 1 hS rfl Hq rfl rfl rfl rfl rfl) ?_
 refine D8 (by first|rfl|(simp [h_,aO,W,Fv,AV.cells,Eb,hS.var 2 rfl];done)|exact EG 1 hS rfl Hq rfl rfl rfl rfl rfl) ?_
 refine D8 (by first|rfl|(simp [h_,aO,W,Fv,bR,jW,aG,AV.cells,Eb,hS.var 2 rfl];done)|exact EG 1 hS rfl Hq rfl rfl rfl rfl rfl) ?_
 refine D9 ?_;try simp only [W,Fv]
 refine D5 rfl rfl rfl rfl rfl ?_;try simp only [W]
 refine Dr hS rfl rfl fun QA QB H hS=> ?_;try simp only [W]
 refine Ds (a:= .agg [.int .i64 FE.Id,.int .i64 Ha,.int .i64 FE.Fw,.str G5]) (y' := .agg [.int .i64 FE.Id,.int .i64 Ha,.int .i64 FE.Fw,.str G5]) 0 hS rfl rfl rfl rfl rfl rfl rfl rfl fun H hS=> ?_
 try simp only [W]
 refine C6 G6 ?_;refine CZ fun Ic Gr=> ?_;refine CZ fun Jo GI=> ?_;refine Dh gC ?_;try simp only [W,Nat.reduceAdd]
 refine DC h fun Ke Ng h=> ?_;obtain ⟨HZ,Iy⟩:=Ke;try dsimp only at h
 refine M0 Ng (hS.D0 6 [1,0,2,3,4,5] (by decide)) fun H hS=> ?_
 try simp only [W]
 refine C6 GI ?_;obtain ⟨Mf,h,Ob⟩:=Option.bind_eq_some_iff.1 h;refine DI gC (fun s H=> ∃Gn:Int,Mf=(Gn)∧s=[u,u,.ptr FB FC 0 0,.ptr Ga Gb 0 0,u,.ptr Qy Qz 0 0,.ptr QA QB 0 0,u,u,u,u,u,u,u,u,u,u,u,u,u,u,u,u,u,u,u,u,u,u,u,u,u]∧aC H (⟨.ptr FB FC 0 0,4,[.agg [.int .i64 0,.int .i64 0,.str ([]),.nil]]⟩::⟨.ptr Ga Gb 0 0,4,[.agg [.int .i64 0,.int .i64 0,.int .i64 0,.str ([])]]⟩::⟨.ptr Qy Qz 0 0,4,[.agg [.int .i64 FE.Id,.int .i64 FE.Fw,.str FE.Text,.fz (FE.Has.map Fx)]]⟩::⟨.ptr QA QB 0 0,4,[.agg [.int .i64 FE.Id,.int .i64 Ha,.int .i64 Gn,.str G5]]⟩::F)) (fun KA Hc=> ?_) (fun s H hq=> ?_)
 ·refine CZ fun L5 HC=> ?_;refine C4 ?_;simp only [W];refine Dg h (fun hc h=> ?_) (fun hc h=> ?_)
  ·refine Dh gC ?_;try simp only [W,Fv,Nat.reduceAdd,Nat.reduceBEq,hS.var 1 rfl]
   refine Ds (a:= .int .i64 (IntKind.i64.wrap (FE.Fw+1))) (y' := .agg [.int .i64 FE.Id,.int .i64 Ha,.int .i64 (IntKind.i64.wrap (FE.Fw+1)),.str G5]) 1 hS rfl rfl rfl rfl rfl rfl rfl rfl fun H hS=> ?_
   try simp only [W]
   refine C6 HC ?_;refine C5 ?_;exact DJ Hc ⟨_,(Option.some.inj h).symm,rfl,(hS.D0 6 [5,4,3,1] (by decide))⟩
  ·refine C1 ?_;refine C6 HC ?_;refine C5 ?_;exact DJ Hc ⟨_,(Option.some.inj h).symm,rfl,(hS.D0 6 [5,4,3,1] (by decide))⟩
 ·obtain ⟨Gn,FI,rfl,hS⟩:=hq;obtain rfl:=FI.symm;replace h:=Ob;try dsimp only at h
  refine C6 Gr ?_;refine CZ fun L7 HF=> ?_;refine D6 gC [(2,[1]),(3,[])] (by kernel_rfl) rfl (by kernel_rfl) ?_
  try simp only [W,Fv,reduceIte,Nat.reduceAdd,Nat.reduceLeDiff,hS.var 2 rfl,hS.var 3 rfl,jl,l7,Nat.reduceEqDiff]
  refine Ds (a:= .agg [.int .i64 FE.Id,.int .i64 FE.Fw,.str FE.Text,.fz (FE.Has.map Fx)]) (y' := .agg [.int .i64 FE.Id,.int .i64 FE.Fw,.str FE.Text,.fz (FE.Has.map Fx)]) 0 hS rfl rfl rfl rfl rfl rfl rfl rfl fun H hS=> ?_
  refine D7 ?_;refine D8 (by first|rfl|(simp [h_,aO,W,Fv,bR,jW,aG,AV.cells,hS.var 3 rfl];done)) ?_
  refine D9 ?_;try simp only [W]
  refine Ds (a:= .agg [.int .i64 FE.Id,.int .i64 Ha,.int .i64 Gn,.str G5]) (y' := .agg [.int .i64 FE.Id,.int .i64 Ha,.int .i64 Gn,.str G5]) 1 hS rfl rfl rfl rfl rfl rfl rfl rfl fun H hS=> ?_
  try simp only [W]
  refine C6 HF ?_;refine C2 ?_;refine Dc Fy (D2 rfl rfl (hS.var 0 rfl) rfl (D2 rfl rfl (hS.var 1 rfl) rfl rfl)) ?_;try obtain rfl:=Option.some.inj h
  exact hP _ (hS.D0 4 [] (by decide))
theorem Ut {a0:List Int} {r:(FD)} (h:MH a0=some r) {F:List It} {H:J} (hS:aC H (F)) {P:AV→J→Prop} (hP: ∀H',aC H' (F)→P (.agg [.int .i64 r.Id,.int .i64 r.Fw,.str r.Text,.fz (r.Has.map Fx)]) H'):aq C 106 [.fz (a0.map (AV.int .u8))] H P:=by
 refine Dk gC (res:=[.cell 2 55]) (n:=9) rfl rfl rfl rfl fun K0 Fy=> ?_;simp only [W,Nat.reduceSub,Nat.reduceAdd,List.replicate];unfold MH at h;refine CZ fun K1 FA=> ?_;refine Dh gC ?_;try simp only [W,Nat.reduceAdd]
 refine Dr hS rfl rfl fun FB FC H hS=> ?_;try simp only [W]
 refine C6 FA ?_;refine CZ fun K4 FG=> ?_;refine Dh gC ?_;try simp only [W,Fv,Nat.reduceAdd]
 refine D5 rfl rfl rfl rfl rfl ?_;try simp only [W]
 refine Dq hS rfl rfl rfl rfl fun YI YJ H hS=> ?_;try simp only [W]
 refine C6 FG ?_;refine CZ fun K7 GK=> ?_;refine Dh gC ?_;try simp only [W,Nat.reduceAdd]
 refine DC h fun F0 JO h=> ?_;obtain ⟨FN,Gm⟩:=F0;try dsimp only at h
 refine Qq JO hS fun H hS=> ?_;try simp only [W]
 refine Ds (a:= .agg [.int .i64 FN.Id,.int .i64 FN.Fw,.str FN.Text,.fz (FN.Has.map Fx)]) (y' := .agg [.int .i64 FN.Id,.int .i64 FN.Fw,.str FN.Text,.fz (FN.Has.map Fx)]) 1 hS rfl rfl rfl rfl rfl rfl rfl rfl fun H hS=> ?_
 try simp only [W]
 refine C6 GK ?_;refine C2 ?_;refine Dc Fy (D2 rfl rfl (hS.var 1 rfl) rfl rfl) ?_;try obtain rfl:=Option.some.inj h
 exact hP _ (hS.D0 2 [] (by decide))
theorem Uu {a0:List Int} {r:(FD)} (h:LL a0=some r) {F:List It} {H:J} (hS:aC H (F)) {P:AV→J→Prop} (hP: ∀H',aC H' (F)→P (.agg [.int .i64 r.Id,.int .i64 r.Fw,.str r.Text,.fz (r.Has.map Fx)]) H'):aq C 44 [.fz (a0.map (AV.int .u8))] H P:=by
 refine Dk gC (res:=[.cell 2 55]) (n:=5) rfl rfl rfl rfl fun K0 Fy=> ?_;simp only [W,Nat.reduceSub,Nat.reduceAdd,List.replicate];unfold LL at h;refine CZ fun K1 FA=> ?_;refine Dh gC ?_;try simp only [W,Nat.reduceAdd]
 refine Dr hS rfl rfl fun FB FC H hS=> ?_;try simp only [W]
 refine C6 FA ?_;refine CZ fun K4 FG=> ?_;refine Dh gC ?_;try simp only [W,Nat.reduceAdd]
 refine DC h fun FP Hp h=> ?_;refine Ut Hp hS fun H hS=> ?_;try simp only [W]
 refine Ds (a:= .agg [.int .i64 FP.Id,.int .i64 FP.Fw,.str FP.Text,.fz (FP.Has.map Fx)]) (y' := .agg [.int .i64 FP.Id,.int .i64 FP.Fw,.str FP.Text,.fz (FP.Has.map Fx)]) 0 hS rfl rfl rfl rfl rfl rfl rfl rfl fun H hS=> ?_
 try simp only [W]
 refine C6 FG ?_;refine C2 ?_;refine Dc Fy (D2 rfl rfl (hS.var 0 rfl) rfl rfl) ?_;try obtain rfl:=Option.some.inj h
 exact hP _ (hS.D0 1 [] (by decide))
theorem Uv {a0:List Span} {r:(Int)} (h:MI a0=some r) {F:List It} {H:J} (hS:aC H (F)) {P:AV→J→Prop} (hP: ∀H',aC H' (F)→P (.int .i64 r) H'):aq C 136 [.fz (a0.map Fx)] H P:=by
 refine Dk gC (res:=[.tmp 2]) (n:=21) rfl rfl rfl rfl fun K0 Fy=> ?_;simp only [W,Nat.reduceSub,Nat.reduceAdd,List.replicate];unfold MI at h;refine CZ fun K1 FA=> ?_;refine Dh gC ?_;try simp only [W,Nat.reduceAdd]
 refine C6 FA ?_;refine CZ fun K2 Bc=> ?_;refine Dh gC ?_;try simp only [W,Nat.reduceAdd]
 refine C6 Bc ?_;refine CZ fun K3 Gf=> ?_;refine CZ fun K4 FG=> ?_;refine Dh gC ?_;try simp only [W,Fv,Nat.reduceAdd]
 refine C6 FG ?_;obtain ⟨IQ,IS,g15⟩:=Option.bind_eq_some_iff.1 h;refine DI gC (fun s H=> ∃FM:Int,IQ=(FM)∧s=[u,u,u,.int .i64 FM,u,u,u,u,u,u,u,u,u,u,u,u,u,u,u,u,u]∧aC H (F)) (fun Ji GD=> ?_) (fun s H hq=> ?_)
 ·refine C0 fun LX HE=> ?_;refine DE gC IS (fun x s H=>match x with|(FQ,FU)=>s=[u,u,u,.int .i64 FQ,u,u,.fz (a0.map Fx),.int .i64 (a0.length:Int),.int .i64 FU,u,u,u,u,u,u,u,u,u,u,u,u]∧aC H (F)) ⟨rfl,hS⟩ (fun x Kx s H h Ie hi Ku GY=> ?_)
  obtain ⟨FQ,FU⟩:=x;try dsimp only at hi
  obtain ⟨rfl,hS⟩:=hi;simp only [Pm] at h;refine CZ fun Io GC=> ?_;refine Dh gC ?_;try simp only [W,Fv,Nat.reduceAdd]
  refine C6 GC ?_;refine CZ fun HA F5=> ?_;refine C4 ?_;simp only [W];refine Dg h (fun hc h=> ?_) (fun hc h=> ?_)
  ·refine C1 ?_;refine C6 F5 ?_;refine CZ fun HR Gl=> ?_;refine C0 fun Ip Gq=> ?_;refine CZ fun Jk GP=> ?_;refine Dh gC ?_;try simp only [W,Fv,Nat.reduceAdd]
   refine Dv rfl rfl rfl (fun _=>rfl) h fun FL L8 h=> ?_;try simp only [W,Fv,F3,reduceIte,Nat.reduceAdd,Nat.reduceLeDiff]
   refine Dr hS rfl rfl fun P3 P4 H hS=> ?_;try simp only [W]
   refine Ds (a:= .agg [.int .i64 FL.Fz,.int .i64 FL.To]) (y' := .agg [.int .i64 FL.Fz,.int .i64 FL.To]) 0 hS rfl rfl rfl rfl rfl rfl rfl rfl fun H hS=> ?_
   try simp only [W]
   refine C6 GP ?_;refine Dh gC ?_;try simp only [W,Fv,Nat.reduceAdd,Nat.reduceBEq,hS.var 0 rfl]
   refine C_ Gq ?_;refine C6 Gl ?_;refine Dh gC ?_;try simp only [W,Fv,Nat.reduceAdd]
   exact DF GY h ⟨rfl,(hS.D0 1 [] (by decide))⟩
  ·refine C3 ?_;refine C8 F5 ?_;try obtain rfl:=Option.some.inj h
   obtain rfl:=Ie _ rfl;have h:(some (FQ):Option (Int))=some (FQ):=rfl;refine DG GY ?_;refine Da HE ?_;exact DJ GD ⟨_,(Option.some.inj h).symm,rfl,hS⟩
 ·obtain ⟨FM,FI,rfl,hS⟩:=hq;obtain rfl:=FI.symm;replace h:=g15;try dsimp only at h
  refine C6 Gf ?_;refine CZ fun Ic Gr=> ?_;refine Dh gC ?_;try simp only [W,Nat.reduceAdd]
  refine C6 Gr ?_;refine C2 ?_;refine Dd Fy rfl ?_;try obtain rfl:=Option.some.inj h
  exact hP _ hS
theorem Uw {a0:FD} {r:(Bool)} (h:MJ a0=some r) {F:List It} {H:J} (hS:aC H (F)) {P:AV→J→Prop} (hP: ∀H',aC H' (F)→P (.bool r) H'):aq C 107 [.agg [.int .i64 a0.Id,.int .i64 a0.Fw,.str a0.Text,.fz (a0.Has.map Fx)]] H P:=by
 refine Dk gC (res:=[.tmp 2]) (n:=9) rfl rfl rfl rfl fun K0 Fy=> ?_;simp only [W,Nat.reduceSub,Nat.reduceAdd,List.replicate];unfold MJ at h;refine CZ fun K1 FA=> ?_;refine Dh gC ?_;try simp only [W,Nat.reduceAdd]
 refine Dq hS rfl rfl rfl rfl fun FB FC H hS=> ?_;try simp only [W]
 refine C6 FA ?_;refine CZ fun K4 FG=> ?_;refine Dj gC (by kernel_rfl) ?_
 try simp only [W,Fv,Nat.reduceAdd,Nat.reduceBEq,hS.var 0 rfl]
 refine Ev (bT:=[[.sc]]) (ys:=[.fz (a0.Has.map Fx)]) h rfl (by rfl) fun FP Hp h=>⟨.int .i64 FP,Uv Hp (aC.nil _) fun H hS=>En rfl (Ek rfl (Ej rfl)),⟨rfl,rfl,fun _=>rfl⟩,?_⟩
 try simp only [W,Fv,Nat.reduceAdd,Nat.reduceBEq,hS.var 0 rfl]
 refine C6 FG ?_;refine C2 ?_;refine Dd Fy rfl ?_;try obtain rfl:=Option.some.inj h
 exact hP _ (hS.D0 1 [] (by decide))
theorem Ux {a0:FD} {r:(Bool×Bool)} (h:Kk a0=some r) {F:List It} {H:J} (hS:aC H (F)) {P:AV→J→Prop} (hP: ∀H',aC H' (F)→P (.aA [.bool r.1,.bool r.2]) H'):aq C 45 [.agg [.int .i64 a0.Id,.int .i64 a0.Fw,.str a0.Text,.fz (a0.Has.map Fx)]] H P:=by
 refine Dk gC (res:=[.tmp 2,.tmp 3]) (n:=9) rfl rfl rfl rfl fun K0 Fy=> ?_;simp only [W,Nat.reduceSub,Nat.reduceAdd,List.replicate];unfold Kk at h;refine CZ fun K1 FA=> ?_;refine Dh gC ?_;try simp only [W,Nat.reduceAdd]
 refine Dq hS rfl rfl rfl rfl fun FB FC H hS=> ?_;try simp only [W]
 refine C6 FA ?_;refine CZ fun K4 FG=> ?_;refine CZ fun K5 FX=> ?_;refine Dh gC ?_;try simp only [W,Fv,reduceIte,Nat.reduceAdd,Nat.reduceLeDiff,hS.var 0 rfl]
 refine DC h fun F7 G3 h=> ?_;refine Oy G3 hS fun H hS=> ?_;try simp only [W]
 refine C6 FX ?_;refine C4 ?_;simp only [W];refine Dg h (fun hc h=> ?_) (fun hc h=> ?_)
 ·refine CZ fun K7 GK=> ?_;refine Dh gC ?_;try simp only [W,Nat.reduceAdd]
  refine C6 GK ?_;refine C2 ?_;refine C7 FG ?_;refine De Fy rfl rfl ?_;try obtain rfl:=Option.some.inj h
  exact hP _ (hS.D0 1 [] (by decide))
 ·refine C1 ?_;refine C6 FG ?_;refine CZ fun K8 F4=> ?_;refine Dh gC ?_;try simp only [W,Fv,reduceIte,Nat.reduceAdd,Nat.reduceLeDiff,hS.var 0 rfl]
  refine DC h fun FN JR h=> ?_;refine Uw JR hS fun H hS=> ?_;try simp only [W]
  refine C6 F4 ?_;refine C2 ?_;refine De Fy rfl rfl ?_;try obtain rfl:=Option.some.inj h
  exact hP _ (hS.D0 1 [] (by decide))
theorem Uy {a0:List Int} {r:(Int×Int)} (h:LM a0=some r) {F:List It} {H:J} (hS:aC H (F)) {P:AV→J→Prop} (hP: ∀H',aC H' (F)→P (.aA [.int .i64 r.1,.int .i64 r.2]) H'):aq C 46 [.fz (a0.map (AV.int .u8))] H P:=by
 refine Dk gC (res:=[.tmp 2,.tmp 3]) (n:=14) rfl rfl rfl rfl fun K0 Fy=> ?_;simp only [W,Nat.reduceSub,Nat.reduceAdd,List.replicate];unfold LM at h;refine CZ fun K1 FA=> ?_;refine Dh gC ?_;try simp only [W,Nat.reduceAdd]
 refine C6 FA ?_;refine CZ fun K2 Bc=> ?_;refine Dh gC ?_;try simp only [W,Fv,Nat.reduceAdd]
 refine D5 rfl rfl rfl rfl rfl ?_;try simp only [W]
 refine Dq hS rfl rfl rfl rfl fun RP RQ H hS=> ?_;try simp only [W]
 refine C6 Bc ?_;refine CZ fun K5 FX=> ?_;refine Di (fz:=[(2,[([9],[.sl [.sc]])]),(5,[([12],[.sl [.sc]])])]) gC ?_;try simp only [W,Nat.reduceAdd,Nat.reduceBEq]
 refine DB (el:=([-1,0,7,1000,1001]:List Int).map (AV.int .i64)) hS rfl rfl rfl rfl rfl rfl rfl fun v6 H N0 hS=> ?_;try simp only [W,Nat.reduceAdd]
 refine DV 0 hS rfl N0 rfl (fun _ _=>by simp [a_,aR,dA]) (fun _=>rfl) fun H sL hS=> ?_
 try simp only [W]
 refine DC h fun F0 JO h=> ?_;obtain ⟨FN,Gm⟩:=F0;try dsimp only at h
 refine MZ JO hS fun H hS=> ?_;try simp only [W,Nat.reduceAdd,Nat.reduceBEq]
 refine DB (el:=([0,1,40,41]:List Int).map (AV.int .i64)) hS rfl rfl rfl rfl rfl rfl rfl fun v11 H IT hS=> ?_;try simp only [W,Nat.reduceAdd,Nat.reduceBEq]
 refine DV 0 hS rfl IT rfl (fun _ _=>by simp [a_,aR,dA]) (fun _=>rfl) fun H sL hS=> ?_
 try simp only [W]
 refine DC h fun LF Uz h=> ?_;obtain ⟨Pn,HY⟩:=LF;try dsimp only at h
 refine MZ Uz hS fun H hS=> ?_;try simp only [W,Nat.reduceAdd,Nat.reduceBEq]
 refine C6 FX ?_;refine C2 ?_;refine De Fy rfl rfl ?_;try obtain rfl:=Option.some.inj h
 exact hP _ (hS.D0 1 [] (by decide))
theorem UA {a0:Int} {a1:Int} {r:(FD×Bool)} (h:Kl a0 a1=some r) {F:List It} {H:J} (hS:aC H (F)) {P:AV→J→Prop} (hP: ∀v12:AV,bG v12→ ∀H',aC H' (⟨v12,2,r.1.Has.map Fx⟩::F)→P (.aA [.agg [.int .i64 r.1.Id,.int .i64 r.1.Fw,.str r.1.Text,v12],.bool r.2]) H'):aq C 47 [.int .i64 a0,.int .i64 a1] H P:=by
 refine Dk gC (res:=[.cell 4 55,.tmp 5]) (n:=14) rfl rfl rfl rfl fun K0 Fy=> ?_;simp only [W,Nat.reduceSub,Nat.reduceAdd,List.replicate];unfold Kl at h;refine CZ fun K1 FA=> ?_;refine Dh gC ?_;try simp only [W,Nat.reduceAdd]
 refine Dr hS rfl rfl fun FB FC H hS=> ?_;try simp only [W]
 refine C6 FA ?_;refine CZ fun K4 FG=> ?_;refine CZ fun K5 FX=> ?_;refine Dh gC ?_;try simp only [W,Nat.reduceAdd]
 refine DC h fun F7 G3 h=> ?_;refine M6 G3 hS fun H hS=> ?_;try simp only [W]
 refine C6 FX ?_;refine C4 ?_;simp only [W];refine Dg h (fun hc h=> ?_) (fun hc h=> ?_)
 ·refine CZ fun K7 GK=> ?_;refine Dh gC ?_;try simp only [W,Fv,Nat.reduceAdd]
  refine D5 rfl rfl rfl rfl rfl ?_;try simp only [W]
  refine Ds (a:= .agg [.int .i64 0,.int .i64 0,.str ([]),.nil]) (y' := .agg [.int .i64 0,.int .i64 0,.str ([]),.nil]) 0 hS rfl rfl rfl rfl rfl rfl rfl rfl fun H hS=> ?_
  try simp only [W]
  refine C6 GK ?_;refine C2 ?_;refine C7 FG ?_;refine Dc Fy (D2 rfl rfl (hS.var 0 rfl) rfl (D3 rfl rfl)) ?_;try obtain rfl:=Option.some.inj h
  exact hP _ Bn _ ((hS.DT 2).D0 2 [0] (by decide))
 ·refine C1 ?_;refine C6 FG ?_;refine CZ fun K8 F4=> ?_;refine Dh gC ?_;try simp only [W,Nat.reduceAdd]
  refine DC h fun FN JR h=> ?_;refine Qj JR hS fun v10 HB H hS=> ?_;try simp only [W]
  refine Ds (a:= .agg [.int .i64 FN.Id,.int .i64 FN.Fw,.str FN.Text,v10]) (y' := .agg [.int .i64 FN.Id,.int .i64 FN.Fw,.str FN.Text,v10]) 1 hS rfl rfl rfl rfl rfl (by simp only [dP,List.all_cons,List.all_nil,HB.q8];rfl) rfl rfl fun H hS=> ?_
  try simp only [W]
  refine C6 F4 ?_;refine C2 ?_;refine Dc Fy (D2 rfl rfl (hS.var 1 rfl) rfl (D3 rfl rfl)) ?_;try obtain rfl:=Option.some.inj h
  exact hP _ HB _ (hS.D0 2 [0] (by decide))
theorem UB {a0:List Int} {a1:List Int} {r:(Bool)} (h:LP a0 a1=some r) {F:List It} {H:J} (hS:aC H (F)) {P:AV→J→Prop} (hP: ∀H',aC H' (F)→P (.bool r) H'):aq C 5 [.fz (a0.map (AV.int .u8)),.fz (a1.map (AV.int .u8))] H P:=by
 refine Dk gC (res:=[.tmp 4]) (n:=296) rfl rfl rfl rfl fun K0 Fy=> ?_;simp only [W,Nat.reduceSub,Nat.reduceAdd,List.replicate];unfold LP at h;refine CZ fun K1 FA=> ?_;refine Dh gC ?_;try simp only [W,Nat.reduceAdd]
 refine C6 FA ?_;refine CZ fun K2 Bc=> ?_;refine CZ fun K3 Gf=> ?_;refine Dh gC ?_;try simp only [W,Fv,Nat.reduceAdd]
 refine C6 Gf ?_;refine C4 ?_;simp only [W];refine Dg h (fun hc h=> ?_) (fun hc h=> ?_)
 ·refine CZ fun K4 FG=> ?_;refine Dh gC ?_;try simp only [W,Nat.reduceAdd]
  refine C6 FG ?_;refine C2 ?_;refine C7 Bc ?_;refine Dd Fy rfl ?_;try obtain rfl:=Option.some.inj h
  exact hP _ hS
 ·refine C1 ?_;refine C6 Bc ?_;refine CZ fun K5 FX=> ?_;refine Dh gC ?_;try simp only [W,Nat.reduceAdd]
  refine DC h fun F7 G3 h=> ?_;obtain ⟨FT,F0⟩:=F7;try dsimp only at h
  refine RO G3 hS fun H hS=> ?_;try simp only [W]
  refine C6 FX ?_;refine CZ fun K9 FW=> ?_;refine Dh gC ?_;try simp only [W,Nat.reduceAdd]
  refine DC h fun Gm Kt h=> ?_;obtain ⟨FE,F8⟩:=Gm;try dsimp only at h
  refine RR Kt hS fun GM Hr H hS=> ?_;try simp only [W]
  refine C6 FW ?_;refine CZ fun JM G6=> ?_;refine Dh gC ?_;try simp only [W,Nat.reduceAdd]
  refine DC h fun IB JU h=> ?_;obtain ⟨Ha,GF⟩:=IB;try dsimp only at h
  refine N5 JU hS fun Gy Hq H hS=> ?_;try simp only [W]
  refine C6 G6 ?_;refine CZ fun Kz G8=> ?_;refine CZ fun NZ Jj=> ?_;obtain ⟨UC,h,UE⟩:=Option.bind_eq_some_iff.1 h;refine DI gC (fun s H=> ∃I3:Bool,UC=(I3)∧s=(u:: .fz (a1.map (AV.int .u8))::u::u::u:: .int .i64 FT:: .str F0::GM:: .bool F8::Gy::u::u::u::u::u::u::u::u::u::u::u::u::u::u::u::u::u::u::u::u::u::u::u::u::u::u::u::u::u::u::u::u::u::u::u::u::u::u::u::u::u::u::u::u::u::u::u::u::u::u::u::u::u::u::u::u::u::u::u::u::u::u::u::u::u::u::u:: .bool I3::u::u::u::u::u::u::u::u::u::u::u::u::u::u::u::u::u::u::u::u::u::u::u::u::u::u::u::u::u::u::u::u::u::u::u::u::u::u::u::u::u::u::u::u::u::u::u::u::u::u::u::u::u::u::u::u::u::u::u::u::u::u::u::u::u::u::u::u::u::u::u::u::u::u::u::u::u::u::u::u::u::u::u::u::u::u::u::u::u::u::u::u::u::u::u::u::u::u::u::u::u::u::u::u::u::u::u::u::u::u::u::u::u::u::u::u::u::u::u::u::u::u::u::u::u::u::u::u::u::u::u::u::u::u::u::u::u::u::u::u::u::u::u::u::u::u::u::u::u::u::u::u::u::u::u::u::u::u::u::u::u::u::u::u::u::u::u::u::u::u::u::u::u::u::u::u::u::u::u::u::u::u::u::u::u::u::u::u::u::u::u::u::u::u::u::u::u::u::u::u::u::u::u::u::u::u::u::u::u::u::u::u::u::u::u::u::u::u::[])∧aC H (⟨GM,4,FE.map GB⟩::⟨Gy,4,Ha.map GB⟩::F)) (fun Ic Gr=> ?_) (fun s H hq=> ?_)
  ·refine CZ fun Jo GI=> ?_;refine Dh gC ?_;try simp only [W,Fv,Nat.reduceAdd]
   rw [Dn _ _ _ _ (h:=rfl) rfl,ur];try simp only [W]
   refine D4 h (fun hc h=> ?_) (fun hc h=> ?_)
   ·try simp only [W,hc]
    refine C6 GI ?_;refine EQ (s' :=(u:: .fz (a1.map (AV.int .u8))::u::u::u:: .int .i64 FT:: .str F0::GM:: .bool F8::Gy::u::u::u::u::u::u::u::u::u::u::u::u::u::u::u::u::u::u::u::u::u::u::u::u::u::u::u::u::u::u::u::u::u::u::u::u::u::u::u::u::u::u::u::u::u::u::u::u::u::u::u::u::u::u::u::u::u::u::u::u::u::u::u::u::u::u::u:: .bool true::u::u::u::u::u::u::u::u::u::u::u::u::u::u::u::u::u::u::u::u::u::u::u::u::u::u::u::u::u::u::u::u::u::u::u::u::u::u::u::u::u::u::u::u::u::u::u::u::u::u::u::u::u::u::u::u::u::u::u::u::u::u::u::u::u::u::u::u::u::u::u::u::u::u::u::u::u::u::u::u::u::u::u::u::u::u::u::u::u::u::u::u::u::u::u::u::u::u::u::u::u::u::u::u::u::u::u::u::u::u::u::u::u::u::u::u::u::u::u::u::u::u::u::u::u::u::u::u::u::u::u::u::u::u::u::u::u::u::u::u::u::u::u::u::u::u::u::u::u::u::u::u::u::u::u::u::u::u::u::u::u::u::u::u::u::u::u::u::u::u::u::u::u::u::u::u::u::u::u::u::u::u::u::u::u::u::u::u::u::u::u::u::u::u::u::u::u::u::u::u::u::u::u::u::u::u::u::u::u::u::u::u::u::u::u::u::u::u::[])) rfl ?_
    exact DJ Gr ⟨_,(Option.some.inj h).symm,rfl,(hS.D0 2 [1,0] (by decide))⟩
   ·try simp only [W,Fv,hc]
    refine Dz 1 hS rfl Hr rfl ?_;try simp only [W,Fv]
    refine Dz 0 hS rfl Hq rfl ?_;try simp only [W,Fv,reduceIte,Bool.false_eq_true]
    refine C6 GI ?_;refine EQ (s' :=(u:: .fz (a1.map (AV.int .u8))::u::u::u:: .int .i64 FT:: .str F0::GM:: .bool F8::Gy::u::u::u::u::u::u::u::u::u::u::u::u::u::u::u::u::u::u::u::u::u::u::u::u::u::u::u::u::u::u::u::u::u::u::u::u::u::u::u::u::u::u::u::u::u::u::u::u::u::u::u::u::u::u::u::u::u::u::u::u::u::u::u::u::u::u::u:: .bool ((FE.length:Int) !=(Ha.length:Int))::u::u::u::u::u::u::u::u::u::u::u::u::u::u::u::u::u::u::u::u::u::u::u::u::u::u::u::u::u::u::u::u::u::u::u::u::u::u::u::u::u::u::u::u::u::u::u::u::u::u::u::u::u::u::u::u::u::u::u::u::u::u::u::u::u::u::u::u::u::u::u::u::u::u::u::u::u::u::u::u::u::u::u::u::u::u::u::u::u::u::u::u::u::u::u::u::u::u::u::u::u::u::u::u::u::u::u::u::u::u::u::u::u::u::u::u::u::u::u::u::u::u::u::u::u::u::u::u::u::u::u::u::u::u::u::u::u::u::u::u::u::u::u::u::u::u::u::u::u::u::u::u::u::u::u::u::u::u::u::u::u::u::u::u::u::u::u::u::u::u::u::u::u::u::u::u::u::u::u::u::u::u::u::u::u::u::u::u::u::u::u::u::u::u::u::u::u::u::u::u::u::u::u::u::u::u::u::u::u::u::u::u::u::u::u::u::u::u::[])) rfl ?_
    exact DJ Gr ⟨_,(Option.some.inj h).symm,rfl,(hS.D0 2 [1,0] (by decide))⟩
  ·obtain ⟨I3,FI,rfl,hS⟩:=hq;obtain rfl:=FI.symm;replace h:=UE;try dsimp only at h
   refine C6 Jj ?_;refine C4 ?_;simp only [W];refine Dg h (fun hc h=> ?_) (fun hc h=> ?_)
   ·refine CZ fun Jl GL=> ?_;refine Dh gC ?_;try simp only [W,Nat.reduceAdd]
    refine C6 GL ?_;refine C2 ?_;refine C7 G8 ?_;refine Dd Fy rfl ?_;try obtain rfl:=Option.some.inj h
    exact hP _ (hS.D0 2 [] (by decide))
   ·refine C1 ?_;refine C6 G8 ?_;refine CZ fun JN G4=> ?_;refine CZ fun Me If=> ?_;refine Dh gC ?_;try simp only [W,Fv,Nat.reduceAdd]
    refine Dz 0 hS rfl Hr rfl ?_;try simp only [W]
    refine C6 If ?_;obtain ⟨Mf,UF,QC⟩:=Option.bind_eq_some_iff.1 h;refine DI gC (fun s H=>Mf=LR.next ()∧s=(u:: .fz (a1.map (AV.int .u8))::u::u::u:: .int .i64 FT:: .str F0::GM:: .bool F8::u::u::u::u::u::u::u::u::u::u::u::u::u::u::u::u::u::u::u::u::u::u::u::u::u::u::u::u::u::u::u::u::u::u::u::u::u::u::u::u::u::u::u::u::u::u::u::u::u::u::u::u::u::u::u::u::u::u::u::u::u::u::u::u::u::u::u::u::u::u::u::u::u::u::u::u::u::u::u::u::u::u::u::u::u::u::u::u::u::u::u::u::u::u::u::u::u::u::u::u::u::u::u::u::u::u::u::u::u::u::u::u::u::u::u::u::u::u::u::u::u::u::u::u::u::u::u::u::u::u::u::u::u::u::u::u::u::u::u::u::u::u::u::u::u::u::u::u::u::u::u::u::u::u::u::u::u::u::u::u::u::u::u::u::u::u::u::u::u::u::u::u::u::u::u::u::u::u::u::u::u::u::u::u::u::u::u::u::u::u::u::u::u::u::u::u::u::u::u::u::u::u::u::u::u::u::u::u::u::u::u::u::u::u::u::u::u::u::u::u::u::u::u::u::u::u::u::u::u::u::u::u::u::u::u::u::u::u::u::u::u::u::u::u::u::u::u::u::u::u::u::u::u::u::u::u::u::u::u::u::u::u::u::u::u::u::u::u::u::u::u::u::u::u::u::u::u::u::u::u::u::u::u::u::u::u::u::[])∧aC H (⟨GM,4,FE.map GB⟩::F)) (fun KA Hc=> ?_) (fun s H hq=> ?_)
    ·refine C0 fun L5 HC=> ?_;refine DE gC UF (fun x s H=>s=(u:: .fz (a1.map (AV.int .u8))::u::u::u:: .int .i64 FT:: .str F0::GM:: .bool F8::Gy::u::u::u::u::u::u::u::u::u::u::u::u::u::u::u::u::u::u::u::u::u::u::u::u::u::u::u::u::u::u::u::u::u::u::u::u::u::u::u::u::u::u::u::u::u::u::u::u::u::u::u::u::u::u::u::u::u::u::u::u::u::u::u::u::u::u::u::u::u:: .int .i64 (FE.length:Int):: .int .i64 x::u::u::u::u::u::u::u::u::u::u::u::u::u::u::u::u::u::u::u::u::u::u::u::u::u::u::u::u::u::u::u::u::u::u::u::u::u::u::u::u::u::u::u::u::u::u::u::u::u::u::u::u::u::u::u::u::u::u::u::u::u::u::u::u::u::u::u::u::u::u::u::u::u::u::u::u::u::u::u::u::u::u::u::u::u::u::u::u::u::u::u::u::u::u::u::u::u::u::u::u::u::u::u::u::u::u::u::u::u::u::u::u::u::u::u::u::u::u::u::u::u::u::u::u::u::u::u::u::u::u::u::u::u::u::u::u::u::u::u::u::u::u::u::u::u::u::u::u::u::u::u::u::u::u::u::u::u::u::u::u::u::u::u::u::u::u::u::u::u::u::u::u::u::u::u::u::u::u::u::u::u::u::u::u::u::u::u::u::u::u::u::u::u::u::u::u::u::u::u::u::u::u::u::u::u::u::u::u::u::u::u::u::u::u::u::[])∧aC H (⟨GM,4,FE.map GB⟩::⟨Gy,4,Ha.map GB⟩::F)) ⟨rfl,hS⟩ (fun Gn YK s H h QD hi L7 HF=> ?_)
     skip
     try dsimp only at hi
     obtain ⟨rfl,hS⟩:=hi;simp only [Km] at h;refine CZ fun Nb IU=> ?_;refine Dh gC ?_;try simp only [W,Fv,Nat.reduceAdd]
     refine C6 IU ?_;refine CZ fun Qa JT=> ?_;refine C4 ?_;simp only [W];refine Dg h (fun hc h=> ?_) (fun hc h=> ?_)
     ·refine C1 ?_;refine C6 JT ?_;refine CZ fun YL QE=> ?_;refine C0 fun TG Mi=> ?_;refine CZ fun Ql KB=> ?_;refine Dh gC ?_;try simp only [W,Nat.reduceAdd]
      refine C6 KB ?_;refine CZ fun M8 Iq=> ?_;refine Dj gC (by kernel_rfl) ?_
      try simp only [W,Fv,Nat.reduceAdd]
      refine Dw 0 hS rfl rfl rfl rfl rfl h (fun Ik YM YN YO Qo h UG=> ?_) Hr.ne;obtain ⟨YP,UH,UI⟩:=hS.elem 0 rfl UG Qo;try simp only [W,Fv,F3,reduceIte,Nat.reduceAdd,Nat.reduceLeDiff,UH,UI]
      refine Dw 1 hS rfl rfl rfl rfl rfl h (fun LN YQ YR YS UJ h UK=> ?_) Hq.ne;obtain ⟨YT,UL,UM⟩:=hS.elem 1 rfl UK UJ;try simp only [W,Fv,F3,reduceIte,Nat.reduceAdd,Nat.reduceLeDiff,UL,UM]
      refine C6 Iq ?_;refine C4 ?_;simp only [W];refine Dg h (fun hc h=> ?_) (fun hc h=> ?_)
      ·refine CZ fun Tf OB=> ?_;refine Dh gC ?_;try simp only [W,Nat.reduceAdd]
       refine C6 OB ?_;refine C2 ?_;refine Db Mi ?_;refine C7 QE ?_;try obtain rfl:=Option.some.inj h
       obtain rfl:=QD _ rfl;have h:(some (LR.done false):Option (LR Unit (Bool)))=some (LR.done false):=rfl;refine DH HF ?_;refine Db HC ?_;try obtain rfl:=Option.some.inj h
       obtain rfl:=Option.some.inj QC;have h:(some false:Option (Bool))=some false:=rfl;refine DK Hc ?_;refine C7 G4 ?_;refine Dd Fy rfl ?_;try obtain rfl:=Option.some.inj h
       exact hP _ (hS.D0 2 [] (by decide))
      ·refine C1 ?_;refine C_ Mi ?_;refine C6 QE ?_;refine Dh gC ?_;try simp only [W,Fv,Nat.reduceAdd]
       exact DF HF h ⟨rfl,hS⟩
     ·refine C3 ?_;refine C8 JT ?_;try obtain rfl:=Option.some.inj h
      obtain rfl:=QD _ rfl;have h:(some (LR.next ()):Option (LR Unit (Bool)))=some (LR.next ()):=rfl
      refine DG HF ?_;refine Da HC ?_;exact DJ Hc ⟨(Option.some.inj h).symm,rfl,(hS.D0 2 [0] (by decide))⟩
    ·obtain ⟨rfl,rfl,hS⟩:=hq;replace h:=QC;try dsimp only at h
     refine C6 G4 ?_;refine CZ fun YU Ml=> ?_;refine CZ fun TU OG=> ?_;refine Dh gC ?_;try simp only [W,Nat.reduceAdd]
     refine C6 OG ?_;obtain ⟨UN,h,Mm⟩:=Option.bind_eq_some_iff.1 h;refine DI gC (fun s H=>UN=LR.next ()∧s=(u:: .fz (a1.map (AV.int .u8))::u::u::u::u::u::u::u::u::u::u::u::u::u::u::u::u::u::u::u::u::u::u::u::u::u::u::u::u::u::u::u::u::u::u::u::u::u::u::u::u::u::u::u::u::u::u::u::u::u::u::u::u::u::u::u::u::u::u::u::u::u::u::u::u::u::u::u::u::u::u::u::u::u::u::u::u::u::u::u::u::u::u::u::u::u::u::u::u::u::u::u::u::u::u::u::u::u::u::u::u::u::u::u::u::u::u::u::u::u::u::u::u::u::u::u::u::u::u::u::u::u::u::u::u::u::u::u::u::u::u::u::u::u::u::u::u::u::u::u::u::u::u::u::u::u::u::u::u::u::u::u::u::u::u::u::u::u::u::u::u::u::u::u::u::u::u::u::u::u::u::u::u::u::u::u::u::u::u::u::u::u::u::u::u::u::u::u::u::u::u::u::u::u::u::u::u::u::u::u::u::u::u::u::u::u::u::u::u::u::u::u::u::u::u::u::u::u::u::u::u::u::u::u::u::u::u::u::u::u::u::u::u::u::u::u::u::u::u::u::u::u::u::u::u::u::u::u::u::u::u::u::u::u::u::u::u::u::u::u::u::u::u::u::u::u::u::u::u::u::u::u::u::u::u::u::u::u::u::u::u::u::u::u::u::u::u::u::u::u::u::u::u::u::u::[])∧aC H (F)) (fun Qf Ig=> ?_) (fun s H hq=> ?_)
     ·refine CZ fun YV KC=> ?_;refine C4 ?_;simp only [W];refine Dg h (fun hc h=> ?_) (fun hc h=> ?_)
      ·refine CZ fun Tm OC=> ?_;refine Dh gC ?_;try simp only [W,Fv,Nat.reduceAdd]
       refine DC h fun UO UP h=> ?_;obtain ⟨Ho,Jg⟩:=UO;try dsimp only at h
       refine P0 UP hS fun v67 QF H hS=> ?_;try simp only [W]
       refine Dr hS rfl rfl fun Hj Hk H hS=> ?_;try simp only [W]
       refine Ds (a:= .agg [.int .i64 Ho.Id,.int .i64 Ho.Fw,.str Ho.Text,v67]) (y' := .agg [.int .i64 Ho.Id,.int .i64 Ho.Fw,.str Ho.Text,v67]) 0 hS rfl rfl rfl rfl rfl (by simp only [dP,List.all_cons,List.all_nil,QF.q8];rfl) rfl rfl fun H hS=> ?_
       try simp only [W]
       refine C6 OC ?_;refine CZ fun Ts Nk=> ?_;refine CZ fun YW UQ=> ?_;refine Dh gC ?_;try simp only [W,Nat.reduceAdd]
       refine C6 UQ ?_;refine C4 ?_;simp only [W];refine Dg h (fun hc h=> ?_) (fun hc h=> ?_)
       ·refine CZ fun YX UR=> ?_;refine Dh gC ?_;try simp only [W,Nat.reduceAdd]
        refine C6 UR ?_;refine C2 ?_;refine C7 Nk ?_;refine C7 KC ?_;try obtain rfl:=Option.some.inj h
        obtain rfl:=Option.some.inj Mm;have h:(some false:Option (Bool))=some false:=rfl;refine DK Ig ?_;refine C7 Ml ?_;refine Dd Fy rfl ?_;try obtain rfl:=Option.some.inj h
        exact hP _ (hS.D0 3 [] (by decide))
       ·refine C1 ?_;refine C6 Nk ?_;refine CZ fun YY US=> ?_;refine Dh gC ?_;try simp only [W,Nat.reduceAdd]
        refine DC h fun Pw UT h=> ?_;refine RV UT hS fun H hS=> ?_;try simp only [W,Fv]
        refine Dz 2 hS rfl Hr rfl ?_;try simp only [W,Fv]
        refine w_num _ h fun GX Tw h=> ?_;try simp only [W]
        refine C6 US ?_;refine CZ fun YZ OH=> ?_;refine CZ fun Y0 UU=> ?_;refine Dh gC ?_;try simp only [W,Fv,Nat.reduceAdd]
        refine Dz 2 hS rfl Hr rfl ?_;try simp only [W]
        refine C6 UU ?_;obtain ⟨UW,UX,OI⟩:=Option.bind_eq_some_iff.1 h;refine DI gC (fun s H=> ∃Kq:Int,∃Kr:Int,∃Jh:List UInt8,∃Ks:List Span,UW=LR.next (Kq,Kr,Jh,Ks)∧ ∃Nr:AV,bG Nr∧s=(u:: .fz (a1.map (AV.int .u8))::u::u::u::u:: .str F0::u::u::u::u::u:: .ptr Hj Hk 0 0::u::u::u::u::u::u::u::u::u::u::u::u::u::u::u::u::u::u::u::u::u::u::u::u::u::u::u::u::u::u::u::u::u::u::u::u::u::u::u::u::u::u::u::u::u::u::u::u::u::u::u::u::u::u::u::u::u::u::u::u::u::u::u::u::u::u::u::u::u::u::u::u::u::u::u::u::u::u::u::u::u::u::u::u::u::u::u::u::u::u::u::u::u::u::u::u::u::u::u::u::u::u::u::u::u::u::u::u::u::u::u::u::u::u::u::u::u::u::u::u::u::u::u::u::u::u::u::u::u::u::u::u::u::u::u::u::u::u::u::u::u::u::u::u::u::u::u::u::u::u::u::u::u::u::u::u::u::u::u::u::u::u::u::u::u::u::u::u::u::u::u::u::u::u::u::u::u::u::u::u::u::u::u::u::u::u::u::u::u::u::u::u::u::u::u::u::u::u::u::u::u::u::u::u::u::u::u::u::u::u::u::u::u::u::u::u::u::u::u::u::u::u::u::u::u::u::u::u::u::u::u::u::u::u::u::u::u::u::u::u::u::u::u::u::u::u::u::u::u::u::u::u::u::u::u::u::u::u::u::u::u::u::u::u::u::u::u::u::u::u::u::u::u::u::u::u::u::u::u::u::u::u::u::[])∧aC H (⟨Nr,2,Ks.map Fx⟩::⟨.ptr Hj Hk 0 0,4,[.agg [.int .i64 Kq,.int .i64 Kr,.str Jh,Nr]]⟩::F)) (fun Y1 OJ=> ?_) (fun s H hq=> ?_)
        ·refine C0 fun Y2 OK=> ?_;refine DE gC UX (fun x s H=>match x with|(GA,HM,HN,HO,HP)=> ∃Jr:AV,bG Jr∧s=(u:: .fz (a1.map (AV.int .u8))::u::u::u::u:: .str F0::GM::u::u::u::u:: .ptr Hj Hk 0 0::u:: .int .i64 GX::u::u::u::u::u::u::u::u::u::u::u::u::u::u::u::u::u::u::u::u::u::u::u::u::u::u::u::u::u::u::u::u::u::u::u::u::u::u::u::u::u::u::u::u::u::u::u::u::u::u::u::u::u::u::u::u::u::u::u::u::u::u::u::u::u::u::u::u::u::u::u::u::u::u::u::u::u::u::u::u::u::u::u::u::u::u::u::u::u::u::u::u::u::u:: .int .i64 (FE.length:Int):: .int .i64 GA::u::u::u::u::u::u::u::u::u::u::u::u::u::u::u::u::u::u::u::u::u::u::u::u::u::u::u::u::u::u::u::u::u::u::u::u::u::u::u::u::u::u::u::u::u::u::u::u::u::u::u::u::u::u::u::u::u::u::u::u::u::u::u::u::u::u::u::u::u::u::u::u::u::u::u::u::u::u::u::u::u::u::u::u::u::u::u::u::u::u::u::u::u::u::u::u::u::u::u::u::u::u::u::u::u::u::u::u::u::u::u::u::u::u::u::u::u::u::u::u::u::u::u::u::u::u::u::u::u::u::u::u::u::u::u::u::u::u::u::u::u::u::u::u::u::u::u::u::u::u::u::u::u::u::u::u::u::u::u::u::u::u::u::u::u::u::u::u::u::u::u::u::u::u::u::u::u::u::u::u::u::u::u::u::u::[])∧aC H (⟨GM,4,FE.map GB⟩::⟨Jr,2,HP.map Fx⟩::⟨.ptr Hj Hk 0 0,4,[.agg [.int .i64 HM,.int .i64 HN,.str HO,Jr]]⟩::F)) ⟨_,QF,rfl,(hS.D0 3 [2,1,0] (by decide))⟩ (fun x Y3 s H h OL hi Y4 Ns=> ?_)
         obtain ⟨GA,HM,HN,HO,HP⟩:=x;try dsimp only at hi
         obtain ⟨Jr,JV,rfl,hS⟩:=hi;simp only [Kn] at h;refine CZ fun Y5 UY=> ?_;refine Dh gC ?_;try simp only [W,Fv,Nat.reduceAdd]
         refine C6 UY ?_;refine CZ fun Y6 QH=> ?_;refine C4 ?_;simp only [W];refine Dg h (fun hc h=> ?_) (fun hc h=> ?_)
         ·refine C1 ?_;refine C6 QH ?_;refine CZ fun Y7 OM=> ?_;refine C0 fun Y8 ON=> ?_;refine CZ fun Y9 UZ=> ?_;refine Dh gC ?_;try simp only [W,Nat.reduceAdd]
          refine C6 UZ ?_;refine CZ fun Y_ U0=> ?_;refine Dh gC ?_;try simp only [W,Fv,reduceIte,Nat.reduceAdd,Nat.reduceLeDiff,hS.var 2 rfl]
          refine Ev (bT:=[[.sc],[.sc]]) (ys:=[.agg [.int .i64 HM,.int .i64 HN,.str HO,.fz (HP.map Fx)]]) h rfl (Ei (Ef (BG rfl (BG rfl (BG rfl (BG (Eg hS 1 rfl JV (fun _=>rfl)) (Ee _)))))) Eh) fun OO U1 h=>⟨.aA [.bool OO.1,.bool OO.2],Oe U1 (aC.nil _) fun H hS=>En rfl (Ek rfl (Ek rfl (Ej rfl))),⟨rfl,rfl,fun _=>rfl⟩,?_⟩;obtain ⟨Po,Pp⟩:=OO;try dsimp only at h
          try simp only [W]
          refine C6 U0 ?_;refine CZ fun Uf Nq=> ?_;refine D6 gC [(16,[13,14])] (by kernel_rfl) rfl (by kernel_rfl) ?_
          try simp only [W,Fv,reduceIte,Nat.reduceAdd,Nat.reduceLeDiff,Nat.reduceBEq,hS.var 2 rfl,jl,l7,Nat.reduceEqDiff,List.contains_cons,Nat.reduceBEq,Bool.or_self]
          refine Dz 0 hS rfl Hr rfl ?_;try simp only [W,Fv]
          refine w_num _ h fun Pq Za h=> ?_;try simp only [W,Fv]
          refine Dw 0 hS rfl rfl rfl rfl rfl h (fun Ko Zb Zc Zd IV h IW=> ?_) Hr.ne;obtain ⟨Ze,U2,U3⟩:=hS.elem 0 rfl IW IV;try simp only [W,Fv,F3,reduceIte,Nat.reduceAdd,Nat.reduceLeDiff,U2,U3]
          refine Ew (bT:=[[.sc,.sc,.sc,.sl [.sc,.sc]],[.sc],[.sc]]) (ys:=[.agg [.int .i64 HM,.int .i64 HN,.str HO,.fz (HP.map Fx)],.agg [.int .i64 Ko.Id,.int .i64 Ko.At,.int .i64 Ko.Fw,.str Ko.Text]]) h rfl (Ei (Ef (BG rfl (BG rfl (BG rfl (BG (Eg hS 1 rfl JV (fun _=>rfl)) (Ee _)))))) (Ei rfl Eh)) fun JW U4 h=>⟨.aA [.agg [.int .i64 JW.1.Id,.int .i64 JW.1.Fw,.str JW.1.Text,.own 2 (JW.1.Has.map Fx)],.int .i64 JW.2.1,.bool JW.2.2],Oq U4 (aC.nil _) fun Zf U5 H hS=>En rfl (Em (DX rfl (DX rfl (DX rfl (DY 0 hS rfl U5 (fun _ _=>by simp [a_,aR,cu,dA,Fx]) fun H hS=>DW (Ek rfl (Ek rfl (Ej rfl)))))))),(ED (EB (EC (EB rfl (EB rfl (EB rfl (EB (Ez _ (fun _=>rfl) _) EA))))) (EB rfl (EB rfl EA)))),?_⟩
          refine Eu ?_;refine Es ?_;refine Ep (fun _=>rfl) ?_;refine Ep (fun _=>rfl) ?_;refine Ep (fun _=>rfl) ?_;refine Er hS (fun _ _=>rfl) (fun _=>rfl) fun Js H Is hS=> ?_;refine Eo ?_;refine Ep (fun _=>rfl) ?_;refine Ep (fun _=>rfl) ?_;refine Eo ?_;try simp only [List.headD_cons]
          obtain ⟨FV,MK,LI⟩:=JW;try dsimp only at h
          try simp only [W]
          refine Dr hS rfl rfl fun HU HV H hS=> ?_;try simp only [W]
          refine Ds (a:= .agg [.int .i64 FV.Id,.int .i64 FV.Fw,.str FV.Text,Js]) (y' := .agg [.int .i64 FV.Id,.int .i64 FV.Fw,.str FV.Text,Js]) 0 hS rfl rfl rfl rfl rfl (by simp only [dP,List.all_cons,List.all_nil,Is.q8];rfl) rfl rfl fun H hS=> ?_
          refine D7 ?_;refine D8 (by first|rfl|(simp [h_,aO,dm,lenOf,W,Fv,F3,bR,jW,aG,AV.cells,hS.var 0 rfl,hS.var 4 rfl];done)|exact EG 1 hS rfl Is rfl rfl rfl rfl rfl|exact EG 2 hS rfl Hr rfl rfl rfl rfl rfl|exact EG 3 hS rfl JV rfl rfl rfl rfl rfl|exact EH 2 hS rfl rfl rfl rfl rfl IW IV rfl rfl rfl rfl|exact EI 2 hS rfl rfl IW IV rfl rfl rfl) ?_
          refine D8 (by first|rfl|(simp [h_,aO,dm,lenOf,W,Fv,F3,bR,jW,aG,AV.cells,hS.var 0 rfl,hS.var 4 rfl];done)|exact EG 1 hS rfl Is rfl rfl rfl rfl rfl|exact EG 2 hS rfl Hr rfl rfl rfl rfl rfl|exact EG 3 hS rfl JV rfl rfl rfl rfl rfl|exact EH 2 hS rfl rfl rfl rfl rfl IW IV rfl rfl rfl rfl|exact EI 2 hS rfl rfl IW IV rfl rfl rfl) ?_
          refine D9 ?_;try simp only [W]
          refine C6 Nq ?_;refine CZ fun Ul Mk=> ?_;refine CZ fun Zg U6=> ?_;obtain ⟨U7,h,U8⟩:=Option.bind_eq_some_iff.1 h;refine DI gC (fun s H=> ∃Im:Bool,U7=(Im)∧s=(u:: .fz (a1.map (AV.int .u8))::u::u::u::u:: .str F0::GM::u::u::u::u:: .ptr Hj Hk 0 0::u:: .int .i64 GX:: .int .i64 GA::u::u:: .ptr HU HV 0 0::u::u::u::u::u::u::u::u::u::u::u::u::u::u::u::u::u::u::u::u::u::u::u::u::u::u::u::u::u::u::u::u::u::u::u::u::u::u::u::u::u::u::u::u::u::u::u::u::u::u::u::u::u::u::u::u::u::u::u::u::u::u::u::u::u::u::u::u::u::u::u::u::u::u::u::u::u::u::u::u::u::u::u::u::u::u::u::u::u::u:: .int .i64 (FE.length:Int):: .int .i64 GA::u::u::u::u::u::u::u::u::u::u::u::u::u::u::u::u::u::u::u::u::u::u::u::u::u::u::u::u::u::u::u::u::u::u::u::u::u::u::u::u::u::u::u::u::u::u::u::u::u::u:: .bool Im::u::u::u::u::u::u::u::u::u::u::u::u::u::u::u::u::u::u::u::u::u::u::u::u::u::u::u::u::u::u::u::u::u::u::u::u::u::u::u::u::u::u::u::u::u::u::u::u::u::u::u::u::u::u::u::u::u::u::u::u::u::u::u::u::u::u::u::u::u::u::u::u::u::u::u::u::u::u::u::u::u::u::u::u::u::u::u::u::u::u::u::u::u::u::u::u::u::u::u::u::u::u::u::u::u::u::u::u::u::u::u::u::u::u::u::u::u::u::u::u::u::u::u::u::u::u::u::u::u::u::u::u::u::u::[])∧aC H (⟨GM,4,FE.map GB⟩::⟨Jr,2,HP.map Fx⟩::⟨Js,2,FV.Has.map Fx⟩::⟨.ptr Hj Hk 0 0,4,[.agg [.int .i64 HM,.int .i64 HN,.str HO,Jr]]⟩::⟨.ptr HU HV 0 0,4,[.agg [.int .i64 FV.Id,.int .i64 FV.Fw,.str FV.Text,Js]]⟩::F)) (fun Zh Mn=> ?_) (fun s H hq=> ?_)
          ·refine CZ fun Zi Mo=> ?_;refine Dh gC ?_;try simp only [W,Nat.reduceAdd]
           refine D4 h (fun hc h=> ?_) (fun hc h=> ?_)
           ·try simp only [W,hc]
            refine C6 Mo ?_;refine EQ (s' :=(u:: .fz (a1.map (AV.int .u8))::u::u::u::u:: .str F0::GM::u::u::u::u:: .ptr Hj Hk 0 0::u:: .int .i64 GX:: .int .i64 GA::u::u:: .ptr HU HV 0 0::u::u::u::u::u::u::u::u::u::u::u::u::u::u::u::u::u::u::u::u::u::u::u::u::u::u::u::u::u::u::u::u::u::u::u::u::u::u::u::u::u::u::u::u::u::u::u::u::u::u::u::u::u::u::u::u::u::u::u::u::u::u::u::u::u::u::u::u::u::u::u::u::u::u::u::u::u::u::u::u::u::u::u::u::u::u::u::u::u::u:: .int .i64 (FE.length:Int):: .int .i64 GA::u::u::u::u::u::u::u::u::u::u::u::u::u::u::u::u::u::u::u::u::u::u::u::u::u::u::u::u::u::u::u::u::u::u::u::u::u::u::u::u::u::u::u::u::u::u::u::u::u::u:: .bool true::u::u::u::u::u::u::u::u::u::u::u::u::u::u::u::u::u::u::u::u::u::u::u::u::u::u::u::u::u::u::u::u::u::u::u::u::u::u::u::u::u::u::u::u::u::u::u::u::u::u::u::u::u::u::u::u::u::u::u::u::u::u::u::u::u::u::u::u::u::u::u::u::u::u::u::u::u::u::u::u::u::u::u::u::u::u::u::u::u::u::u::u::u::u::u::u::u::u::u::u::u::u::u::u::u::u::u::u::u::u::u::u::u::u::u::u::u::u::u::u::u::u::u::u::u::u::u::u::u::u::u::u::u::u::[])) rfl ?_
            exact DJ Mn ⟨_,(Option.some.inj h).symm,rfl,(hS.D0 5 [2,3,1,4,0] (by decide))⟩
           ·try simp only [W,reduceIte,Bool.false_eq_true,hc]
            refine D4 h (fun hc h=> ?_) (fun hc h=> ?_)
            ·try simp only [W,hc]
             refine C6 Mo ?_;refine EQ (s' :=(u:: .fz (a1.map (AV.int .u8))::u::u::u::u:: .str F0::GM::u::u::u::u:: .ptr Hj Hk 0 0::u:: .int .i64 GX:: .int .i64 GA::u::u:: .ptr HU HV 0 0::u::u::u::u::u::u::u::u::u::u::u::u::u::u::u::u::u::u::u::u::u::u::u::u::u::u::u::u::u::u::u::u::u::u::u::u::u::u::u::u::u::u::u::u::u::u::u::u::u::u::u::u::u::u::u::u::u::u::u::u::u::u::u::u::u::u::u::u::u::u::u::u::u::u::u::u::u::u::u::u::u::u::u::u::u::u::u::u::u::u:: .int .i64 (FE.length:Int):: .int .i64 GA::u::u::u::u::u::u::u::u::u::u::u::u::u::u::u::u::u::u::u::u::u::u::u::u::u::u::u::u::u::u::u::u::u::u::u::u::u::u::u::u::u::u::u::u::u::u::u::u::u::u:: .bool true::u::u::u::u::u::u::u::u::u::u::u::u::u::u::u::u::u::u::u::u::u::u::u::u::u::u::u::u::u::u::u::u::u::u::u::u::u::u::u::u::u::u::u::u::u::u::u::u::u::u::u::u::u::u::u::u::u::u::u::u::u::u::u::u::u::u::u::u::u::u::u::u::u::u::u::u::u::u::u::u::u::u::u::u::u::u::u::u::u::u::u::u::u::u::u::u::u::u::u::u::u::u::u::u::u::u::u::u::u::u::u::u::u::u::u::u::u::u::u::u::u::u::u::u::u::u::u::u::u::u::u::u::u::u::[])) rfl ?_
             exact DJ Mn ⟨_,(Option.some.inj h).symm,rfl,(hS.D0 5 [2,3,1,4,0] (by decide))⟩
            ·try simp only [W,reduceIte,Bool.false_eq_true,hc]
             refine D4 h (fun hc h=> ?_) (fun hc h=> ?_)
             ·try simp only [W,hc]
              refine C6 Mo ?_;refine EQ (s' :=(u:: .fz (a1.map (AV.int .u8))::u::u::u::u:: .str F0::GM::u::u::u::u:: .ptr Hj Hk 0 0::u:: .int .i64 GX:: .int .i64 GA::u::u:: .ptr HU HV 0 0::u::u::u::u::u::u::u::u::u::u::u::u::u::u::u::u::u::u::u::u::u::u::u::u::u::u::u::u::u::u::u::u::u::u::u::u::u::u::u::u::u::u::u::u::u::u::u::u::u::u::u::u::u::u::u::u::u::u::u::u::u::u::u::u::u::u::u::u::u::u::u::u::u::u::u::u::u::u::u::u::u::u::u::u::u::u::u::u::u::u:: .int .i64 (FE.length:Int):: .int .i64 GA::u::u::u::u::u::u::u::u::u::u::u::u::u::u::u::u::u::u::u::u::u::u::u::u::u::u::u::u::u::u::u::u::u::u::u::u::u::u::u::u::u::u::u::u::u::u::u::u::u::u:: .bool true::u::u::u::u::u::u::u::u::u::u::u::u::u::u::u::u::u::u::u::u::u::u::u::u::u::u::u::u::u::u::u::u::u::u::u::u::u::u::u::u::u::u::u::u::u::u::u::u::u::u::u::u::u::u::u::u::u::u::u::u::u::u::u::u::u::u::u::u::u::u::u::u::u::u::u::u::u::u::u::u::u::u::u::u::u::u::u::u::u::u::u::u::u::u::u::u::u::u::u::u::u::u::u::u::u::u::u::u::u::u::u::u::u::u::u::u::u::u::u::u::u::u::u::u::u::u::u::u::u::u::u::u::u::u::[])) rfl ?_
              exact DJ Mn ⟨_,(Option.some.inj h).symm,rfl,(hS.D0 5 [2,3,1,4,0] (by decide))⟩
             ·try simp only [W,Fv,hc]
              refine Dz 2 hS rfl Hr rfl ?_;try simp only [W,Fv]
              refine w_num _ h fun Pr Zj h=> ?_;try simp only [W,Fv]
              refine Dw 2 hS rfl rfl rfl rfl rfl h (fun Ps Zk Zl Zm U9 h U_=> ?_) Hr.ne;obtain ⟨Zn,Va,Vb⟩:=hS.elem 2 rfl U_ U9;try simp only [W,Fv,F3,reduceIte,Nat.reduceAdd,Nat.reduceBEq,Bool.false_eq_true,Va,Vb]
              refine D4 h (fun hc h=> ?_) (fun hc h=> ?_)
              ·try simp only [W,hc]
               refine C6 Mo ?_;refine EQ (s' :=(u:: .fz (a1.map (AV.int .u8))::u::u::u::u:: .str F0::GM::u::u::u::u:: .ptr Hj Hk 0 0::u:: .int .i64 GX:: .int .i64 GA::u::u:: .ptr HU HV 0 0::u::u::u::u::u::u::u::u::u::u::u::u::u::u::u::u::u::u::u::u::u::u::u::u::u::u::u::u::u::u::u::u::u::u::u::u::u::u::u::u::u::u::u::u::u::u::u::u::u::u::u::u::u::u::u::u::u::u::u::u::u::u::u::u::u::u::u::u::u::u::u::u::u::u::u::u::u::u::u::u::u::u::u::u::u::u::u::u::u::u:: .int .i64 (FE.length:Int):: .int .i64 GA::u::u::u::u::u::u::u::u::u::u::u::u::u::u::u::u::u::u::u::u::u::u::u::u::u::u::u::u::u::u::u::u::u::u::u::u::u::u::u::u::u::u::u::u::u::u::u::u::u::u:: .bool true::u::u::u::u::u::u::u::u::u::u::u::u::u::u::u::u::u::u::u::u::u::u::u::u::u::u::u::u::u::u::u::u::u::u::u::u::u::u::u::u::u::u::u::u::u::u::u::u::u::u::u::u::u::u::u::u::u::u::u::u::u::u::u::u::u::u::u::u::u::u::u::u::u::u::u::u::u::u::u::u::u::u::u::u::u::u::u::u::u::u::u::u::u::u::u::u::u::u::u::u::u::u::u::u::u::u::u::u::u::u::u::u::u::u::u::u::u::u::u::u::u::u::u::u::u::u::u::u::u::u::u::u::u::u::[])) rfl ?_
               exact DJ Mn ⟨_,(Option.some.inj h).symm,rfl,(hS.D0 5 [2,3,1,4,0] (by decide))⟩
              ·try simp only [W,Fv,reduceIte,Nat.reduceAdd,Nat.reduceLeDiff,hS.var 0 rfl,hc]
               refine Ev (bT:=[[.sc]]) (ys:=[.agg [.int .i64 FV.Id,.int .i64 FV.Fw,.str FV.Text,.fz (FV.Has.map Fx)]]) h rfl (Ei (Ef (BG rfl (BG rfl (BG rfl (BG (Eg hS 1 rfl Is (fun _=>rfl)) (Ee _)))))) Eh) fun ML Vc h=>⟨.bool ML,M7 Vc (aC.nil _) fun H hS=>En rfl (Ek rfl (Ej rfl)),⟨rfl,rfl,fun _=>rfl⟩,?_⟩;try simp only [W,reduceIte,Bool.false_eq_true]
               refine C6 Mo ?_;refine EQ (s' :=(u:: .fz (a1.map (AV.int .u8))::u::u::u::u:: .str F0::GM::u::u::u::u:: .ptr Hj Hk 0 0::u:: .int .i64 GX:: .int .i64 GA::u::u:: .ptr HU HV 0 0::u::u::u::u::u::u::u::u::u::u::u::u::u::u::u::u::u::u::u::u::u::u::u::u::u::u::u::u::u::u::u::u::u::u::u::u::u::u::u::u::u::u::u::u::u::u::u::u::u::u::u::u::u::u::u::u::u::u::u::u::u::u::u::u::u::u::u::u::u::u::u::u::u::u::u::u::u::u::u::u::u::u::u::u::u::u::u::u::u::u:: .int .i64 (FE.length:Int):: .int .i64 GA::u::u::u::u::u::u::u::u::u::u::u::u::u::u::u::u::u::u::u::u::u::u::u::u::u::u::u::u::u::u::u::u::u::u::u::u::u::u::u::u::u::u::u::u::u::u::u::u::u::u:: .bool (!ML)::u::u::u::u::u::u::u::u::u::u::u::u::u::u::u::u::u::u::u::u::u::u::u::u::u::u::u::u::u::u::u::u::u::u::u::u::u::u::u::u::u::u::u::u::u::u::u::u::u::u::u::u::u::u::u::u::u::u::u::u::u::u::u::u::u::u::u::u::u::u::u::u::u::u::u::u::u::u::u::u::u::u::u::u::u::u::u::u::u::u::u::u::u::u::u::u::u::u::u::u::u::u::u::u::u::u::u::u::u::u::u::u::u::u::u::u::u::u::u::u::u::u::u::u::u::u::u::u::u::u::u::u::u::u::[])) rfl ?_
               exact DJ Mn ⟨_,(Option.some.inj h).symm,rfl,(hS.D0 5 [2,3,1,4,0] (by decide))⟩
          ·obtain ⟨Im,FI,rfl,hS⟩:=hq;obtain rfl:=FI.symm;replace h:=U8;try dsimp only at h
           refine C6 U6 ?_;refine C4 ?_;simp only [W];refine Dg h (fun hc h=> ?_) (fun hc h=> ?_)
           ·refine CZ fun Zo Vd=> ?_;refine Dh gC ?_;try simp only [W,Nat.reduceAdd]
            refine C6 Vd ?_;refine C2 ?_;refine C7 Mk ?_;refine Db ON ?_;refine C7 OM ?_;try obtain rfl:=Option.some.inj h
            obtain rfl:=OL _ rfl;have h:(some (LR.done (LR.done false)):Option (LR (Int×Int×(List UInt8)×(List Span)) (LR Unit (Bool))))=some (LR.done (LR.done false)):=rfl;refine DH Ns ?_;refine Db OK ?_;try obtain rfl:=Option.some.inj h
            obtain rfl:=Option.some.inj OI;have h:(some (LR.done false):Option (LR Unit (Bool)))=some (LR.done false):=rfl;refine DK OJ ?_;refine C7 OH ?_;refine C7 KC ?_;try obtain rfl:=Option.some.inj h
            obtain rfl:=Option.some.inj Mm;have h:(some false:Option (Bool))=some false:=rfl;refine DK Ig ?_;refine C7 Ml ?_;refine Dd Fy rfl ?_;try obtain rfl:=Option.some.inj h
            exact hP _ (hS.D0 5 [] (by decide))
           ·refine C1 ?_;refine C6 Mk ?_;refine CZ fun Zp Ve=> ?_;refine D6 gC [(16,[13,14])] (by kernel_rfl) rfl (by kernel_rfl) ?_
            try simp only [W,Fv,reduceIte,Nat.reduceAdd,Nat.reduceLeDiff,Nat.reduceBEq,hS.var 4 rfl,jl,l7,Nat.reduceEqDiff,List.contains_cons,Nat.reduceBEq,Bool.or_self]
            refine Dz 0 hS rfl Hr rfl ?_;try simp only [W,Fv]
            refine w_num _ h fun Pt Zq h=> ?_;try simp only [W,Fv]
            refine Dw 0 hS rfl rfl rfl rfl rfl h (fun Kp Zr Zs Zt Mp h Mq=> ?_) Hr.ne;obtain ⟨Zu,Vf,Vg⟩:=hS.elem 0 rfl Mq Mp;try simp only [W,Fv,F3,reduceIte,Nat.reduceAdd,Nat.reduceLeDiff,Vf,Vg]
            refine Ew (bT:=[[.sc,.sc,.sc,.sl [.sc,.sc]],[.sc],[.sc]]) (ys:=[.agg [.int .i64 FV.Id,.int .i64 FV.Fw,.str FV.Text,.fz (FV.Has.map Fx)],.agg [.int .i64 Kp.Id,.int .i64 Kp.At,.int .i64 Kp.Fw,.str Kp.Text]]) h rfl (Ei (Ef (BG rfl (BG rfl (BG rfl (BG (Eg hS 2 rfl Is (fun _=>rfl)) (Ee _)))))) (Ei rfl Eh)) fun JX Vh h=>⟨.aA [.agg [.int .i64 JX.1.Id,.int .i64 JX.1.Fw,.str JX.1.Text,.own 2 (JX.1.Has.map Fx)],.int .i64 JX.2.1,.bool JX.2.2],Oq Vh (aC.nil _) fun Zv Vi H hS=>En rfl (Em (DX rfl (DX rfl (DX rfl (DY 0 hS rfl Vi (fun _ _=>by simp [a_,aR,cu,dA,Fx]) fun H hS=>DW (Ek rfl (Ek rfl (Ej rfl)))))))),(ED (EB (EC (EB rfl (EB rfl (EB rfl (EB (Ez _ (fun _=>rfl) _) EA))))) (EB rfl (EB rfl EA)))),?_⟩
            refine Eu ?_;refine Es ?_;refine Ep (fun _=>rfl) ?_;refine Ep (fun _=>rfl) ?_;refine Ep (fun _=>rfl) ?_;refine Er hS (fun _ _=>rfl) (fun _=>rfl) fun QI H Nt hS=> ?_;refine Eo ?_;refine Ep (fun _=>rfl) ?_;refine Ep (fun _=>rfl) ?_;refine Eo ?_;try simp only [List.headD_cons]
            obtain ⟨HQ,Pu,Pv⟩:=JX;try dsimp only at h
            try simp only [W]
            refine Dr hS rfl rfl fun Zw Zx H hS=> ?_;try simp only [W]
            refine Ds (a:= .agg [.int .i64 HQ.Id,.int .i64 HQ.Fw,.str HQ.Text,QI]) (y' := .agg [.int .i64 HQ.Id,.int .i64 HQ.Fw,.str HQ.Text,QI]) 0 hS rfl rfl rfl rfl rfl (by simp only [dP,List.all_cons,List.all_nil,Nt.q8];rfl) rfl rfl fun H hS=> ?_
            refine D7 ?_;refine D8 (by first|rfl|(simp [h_,aO,dm,lenOf,W,Fv,F3,bR,jW,aG,AV.cells,hS.var 0 rfl,hS.var 5 rfl,hS.var 6 rfl];done)|exact EG 1 hS rfl Nt rfl rfl rfl rfl rfl|exact EG 2 hS rfl Hr rfl rfl rfl rfl rfl|exact EG 3 hS rfl JV rfl rfl rfl rfl rfl|exact EG 4 hS rfl Is rfl rfl rfl rfl rfl|exact EH 2 hS rfl rfl rfl rfl rfl IW IV rfl rfl rfl rfl|exact EI 2 hS rfl rfl IW IV rfl rfl rfl|exact EH 2 hS rfl rfl rfl rfl rfl Mq Mp rfl rfl rfl rfl|exact EI 2 hS rfl rfl Mq Mp rfl rfl rfl) ?_
            refine D8 (by first|rfl|(simp [h_,aO,dm,lenOf,W,Fv,F3,bR,jW,aG,AV.cells,hS.var 0 rfl,hS.var 5 rfl,hS.var 6 rfl];done)|exact EG 1 hS rfl Nt rfl rfl rfl rfl rfl|exact EG 2 hS rfl Hr rfl rfl rfl rfl rfl|exact EG 3 hS rfl JV rfl rfl rfl rfl rfl|exact EG 4 hS rfl Is rfl rfl rfl rfl rfl|exact EH 2 hS rfl rfl rfl rfl rfl IW IV rfl rfl rfl rfl|exact EI 2 hS rfl rfl IW IV rfl rfl rfl|exact EH 2 hS rfl rfl rfl rfl rfl Mq Mp rfl rfl rfl rfl|exact EI 2 hS rfl rfl Mq Mp rfl rfl rfl) ?_
            refine D9 ?_;try simp only [W]
            refine C6 Ve ?_;refine CZ fun Zy QJ=> ?_;refine CZ fun Zz Vj=> ?_;obtain ⟨Vk,h,Vl⟩:=Option.bind_eq_some_iff.1 h;refine DI gC (fun s H=> ∃LO:Bool,Vk=(LO)∧s=(u:: .fz (a1.map (AV.int .u8))::u::u::u::u:: .str F0::GM::u::u::u::u:: .ptr Hj Hk 0 0::u:: .int .i64 GX::u::u::u:: .ptr HU HV 0 0::u::u::u::u::u::u::u::u::u::u::u::u::u::u::u::u::u::u::u::u::u::u::u::u::u::u::u::u::u::u::u::u::u::u::u::u::u::u::u::u::u::u::u::u::u::u::u::u::u::u::u::u::u::u::u::u::u::u::u::u::u::u::u::u::u::u::u::u::u::u::u::u::u::u::u::u::u::u::u::u::u::u::u::u::u::u::u::u::u::u:: .int .i64 (FE.length:Int):: .int .i64 GA::u::u::u::u::u::u::u::u::u::u::u::u::u::u::u::u::u::u::u::u::u::u::u::u::u::u::u::u::u::u::u::u::u::u::u::u::u::u::u::u::u::u::u::u::u::u::u::u::u::u::u::u::u::u::u::u::u::u::u::u::u::u::u::u::u::u::u::u::u::u::u::u::u::u::u::u::u:: .bool LO::u::u::u::u::u::u::u::u::u::u::u::u::u::u::u::u::u::u::u::u::u::u::u::u::u::u::u::u::u::u::u::u::u::u::u::u::u::u::u::u::u::u::u::u::u::u::u::u::u::u::u::u::u::u::u::u::u::u::u::u::u::u::u::u::u::u::u::u::u::u::u::u::u::u::u::u::u::u::u::u::u::u::u::u::u::u::u::u::u::u::u::u::u::u::u::u::u::u::u::u::u::u::u::u::u::u::u::[])∧aC H (⟨GM,4,FE.map GB⟩::⟨Jr,2,HP.map Fx⟩::⟨Js,2,FV.Has.map Fx⟩::⟨.ptr Hj Hk 0 0,4,[.agg [.int .i64 HM,.int .i64 HN,.str HO,Jr]]⟩::⟨.ptr HU HV 0 0,4,[.agg [.int .i64 FV.Id,.int .i64 FV.Fw,.str FV.Text,Js]]⟩::F)) (fun ZA OP=> ?_) (fun s H hq=> ?_)
            ·refine CZ fun ZB OQ=> ?_;refine Dh gC ?_;try simp only [W,Nat.reduceAdd]
             refine D4 h (fun hc h=> ?_) (fun hc h=> ?_)
             ·try simp only [W,hc]
              refine C6 OQ ?_;refine EQ (s' :=(u:: .fz (a1.map (AV.int .u8))::u::u::u::u:: .str F0::GM::u::u::u::u:: .ptr Hj Hk 0 0::u:: .int .i64 GX::u::u::u:: .ptr HU HV 0 0::u::u::u::u::u::u::u::u::u::u::u::u::u::u::u::u::u::u::u::u::u::u::u::u::u::u::u::u::u::u::u::u::u::u::u::u::u::u::u::u::u::u::u::u::u::u::u::u::u::u::u::u::u::u::u::u::u::u::u::u::u::u::u::u::u::u::u::u::u::u::u::u::u::u::u::u::u::u::u::u::u::u::u::u::u::u::u::u::u::u:: .int .i64 (FE.length:Int):: .int .i64 GA::u::u::u::u::u::u::u::u::u::u::u::u::u::u::u::u::u::u::u::u::u::u::u::u::u::u::u::u::u::u::u::u::u::u::u::u::u::u::u::u::u::u::u::u::u::u::u::u::u::u::u::u::u::u::u::u::u::u::u::u::u::u::u::u::u::u::u::u::u::u::u::u::u::u::u::u::u:: .bool true::u::u::u::u::u::u::u::u::u::u::u::u::u::u::u::u::u::u::u::u::u::u::u::u::u::u::u::u::u::u::u::u::u::u::u::u::u::u::u::u::u::u::u::u::u::u::u::u::u::u::u::u::u::u::u::u::u::u::u::u::u::u::u::u::u::u::u::u::u::u::u::u::u::u::u::u::u::u::u::u::u::u::u::u::u::u::u::u::u::u::u::u::u::u::u::u::u::u::u::u::u::u::u::u::u::u::u::[])) rfl ?_
              exact DJ OP ⟨_,(Option.some.inj h).symm,rfl,(hS.D0 7 [2,3,4,5,6] (by decide))⟩
             ·try simp only [W,Fv,reduceIte,Bool.false_eq_true,hc]
              refine D4 h (fun hc h=> ?_) (fun hc h=> ?_)
              ·try simp only [W,hc]
               refine C6 OQ ?_;refine EQ (s' :=(u:: .fz (a1.map (AV.int .u8))::u::u::u::u:: .str F0::GM::u::u::u::u:: .ptr Hj Hk 0 0::u:: .int .i64 GX::u::u::u:: .ptr HU HV 0 0::u::u::u::u::u::u::u::u::u::u::u::u::u::u::u::u::u::u::u::u::u::u::u::u::u::u::u::u::u::u::u::u::u::u::u::u::u::u::u::u::u::u::u::u::u::u::u::u::u::u::u::u::u::u::u::u::u::u::u::u::u::u::u::u::u::u::u::u::u::u::u::u::u::u::u::u::u::u::u::u::u::u::u::u::u::u::u::u::u::u:: .int .i64 (FE.length:Int):: .int .i64 GA::u::u::u::u::u::u::u::u::u::u::u::u::u::u::u::u::u::u::u::u::u::u::u::u::u::u::u::u::u::u::u::u::u::u::u::u::u::u::u::u::u::u::u::u::u::u::u::u::u::u::u::u::u::u::u::u::u::u::u::u::u::u::u::u::u::u::u::u::u::u::u::u::u::u::u::u::u:: .bool true::u::u::u::u::u::u::u::u::u::u::u::u::u::u::u::u::u::u::u::u::u::u::u::u::u::u::u::u::u::u::u::u::u::u::u::u::u::u::u::u::u::u::u::u::u::u::u::u::u::u::u::u::u::u::u::u::u::u::u::u::u::u::u::u::u::u::u::u::u::u::u::u::u::u::u::u::u::u::u::u::u::u::u::u::u::u::u::u::u::u::u::u::u::u::u::u::u::u::u::u::u::u::u::u::u::u::u::[])) rfl ?_
               exact DJ OP ⟨_,(Option.some.inj h).symm,rfl,(hS.D0 7 [2,3,4,5,6] (by decide))⟩
              ·try simp only [W,Fv,reduceIte,Nat.reduceAdd,Nat.reduceLeDiff,hS.var 6 rfl,hS.var 0 rfl,hc]
               refine Ev (bT:=[[.sc]]) (ys:=[.agg [.int .i64 HQ.Id,.int .i64 HQ.Fw,.str HQ.Text,.fz (HQ.Has.map Fx)],.agg [.int .i64 FV.Id,.int .i64 FV.Fw,.str FV.Text,.fz (FV.Has.map Fx)]]) h rfl (Ei (Ef (BG rfl (BG rfl (BG rfl (BG (Eg hS 1 rfl Nt (fun _=>rfl)) (Ee _)))))) (Ei (Ef (BG rfl (BG rfl (BG rfl (BG (Eg hS 4 rfl Is (fun _=>rfl)) (Ee _)))))) Eh)) fun MN Vm h=>⟨.bool MN,Ox Vm (aC.nil _) fun H hS=>En rfl (Ek rfl (Ej rfl)),⟨rfl,rfl,fun _=>rfl⟩,?_⟩;try simp only [W,reduceIte,Bool.false_eq_true]
               refine C6 OQ ?_;refine EQ (s' :=(u:: .fz (a1.map (AV.int .u8))::u::u::u::u:: .str F0::GM::u::u::u::u:: .ptr Hj Hk 0 0::u:: .int .i64 GX::u::u::u:: .ptr HU HV 0 0::u::u::u::u::u::u::u::u::u::u::u::u::u::u::u::u::u::u::u::u::u::u::u::u::u::u::u::u::u::u::u::u::u::u::u::u::u::u::u::u::u::u::u::u::u::u::u::u::u::u::u::u::u::u::u::u::u::u::u::u::u::u::u::u::u::u::u::u::u::u::u::u::u::u::u::u::u::u::u::u::u::u::u::u::u::u::u::u::u::u:: .int .i64 (FE.length:Int):: .int .i64 GA::u::u::u::u::u::u::u::u::u::u::u::u::u::u::u::u::u::u::u::u::u::u::u::u::u::u::u::u::u::u::u::u::u::u::u::u::u::u::u::u::u::u::u::u::u::u::u::u::u::u::u::u::u::u::u::u::u::u::u::u::u::u::u::u::u::u::u::u::u::u::u::u::u::u::u::u::u:: .bool (!MN)::u::u::u::u::u::u::u::u::u::u::u::u::u::u::u::u::u::u::u::u::u::u::u::u::u::u::u::u::u::u::u::u::u::u::u::u::u::u::u::u::u::u::u::u::u::u::u::u::u::u::u::u::u::u::u::u::u::u::u::u::u::u::u::u::u::u::u::u::u::u::u::u::u::u::u::u::u::u::u::u::u::u::u::u::u::u::u::u::u::u::u::u::u::u::u::u::u::u::u::u::u::u::u::u::u::u::u::[])) rfl ?_
               exact DJ OP ⟨_,(Option.some.inj h).symm,rfl,(hS.D0 7 [2,3,4,5,6] (by decide))⟩
            ·obtain ⟨LO,FI,rfl,hS⟩:=hq;obtain rfl:=FI.symm;replace h:=Vl;try dsimp only at h
             refine C6 Vj ?_;refine C4 ?_;simp only [W];refine Dg h (fun hc h=> ?_) (fun hc h=> ?_)
             ·refine CZ fun ZC Vn=> ?_;refine Dh gC ?_;try simp only [W,Nat.reduceAdd]
              refine C6 Vn ?_;refine C2 ?_;refine C7 QJ ?_;refine Db ON ?_;refine C7 OM ?_;try obtain rfl:=Option.some.inj h
              obtain rfl:=OL _ rfl;have h:(some (LR.done (LR.done false)):Option (LR (Int×Int×(List UInt8)×(List Span)) (LR Unit (Bool))))=some (LR.done (LR.done false)):=rfl;refine DH Ns ?_;refine Db OK ?_;try obtain rfl:=Option.some.inj h
              obtain rfl:=Option.some.inj OI;have h:(some (LR.done false):Option (LR Unit (Bool)))=some (LR.done false):=rfl;refine DK OJ ?_;refine C7 OH ?_;refine C7 KC ?_;try obtain rfl:=Option.some.inj h
              obtain rfl:=Option.some.inj Mm;have h:(some false:Option (Bool))=some false:=rfl;refine DK Ig ?_;refine C7 Ml ?_;refine Dd Fy rfl ?_;try obtain rfl:=Option.some.inj h
              exact hP _ (hS.D0 5 [] (by decide))
             ·refine C1 ?_;refine C6 QJ ?_;refine Dh gC ?_;try simp only [W,Fv,reduceIte,Nat.reduceAdd,Nat.reduceLeDiff,hS.var 4 rfl]
              refine Ds (a:= .agg [.int .i64 FV.Id,.int .i64 FV.Fw,.str FV.Text,Js]) (y' := .agg [.int .i64 FV.Id,.int .i64 FV.Fw,.str FV.Text,Js]) 3 hS rfl rfl rfl rfl rfl (by simp only [dP,List.all_cons,List.all_nil,Is.q8];rfl) rfl rfl fun H hS=> ?_
              try simp only [W]
              refine C_ ON ?_;refine C6 OM ?_;refine Dh gC ?_;try simp only [W,Fv,Nat.reduceAdd]
              exact DF Ns h ⟨_,Is,rfl,(hS.D0 5 [0,2,3] (by decide))⟩
         ·refine C3 ?_;refine C8 QH ?_;try obtain rfl:=Option.some.inj h
          obtain rfl:=OL _ rfl;have h:(some (LR.next (HM,HN,HO,HP)):Option (LR (Int×Int×(List UInt8)×(List Span)) (LR Unit (Bool))))=some (LR.next (HM,HN,HO,HP)):=rfl
          refine DG Ns ?_;refine Da OK ?_;exact DJ OJ ⟨_,_,_,_,(Option.some.inj h).symm,_,JV,rfl,(hS.D0 3 [1,2] (by decide))⟩
        ·obtain ⟨Kq,Kr,Jh,Ks,rfl,Nr,Vo,rfl,hS⟩:=hq;replace h:=OI;try dsimp only at h
         refine C6 OH ?_;refine CZ fun ZD Vp=> ?_;refine Dh gC ?_;try simp only [W,Fv,reduceIte,Nat.reduceAdd,Nat.reduceLeDiff,hS.var 1 rfl]
         refine Ev (bT:=[[.sc],[.sc]]) (ys:=[.agg [.int .i64 Kq,.int .i64 Kr,.str Jh,.fz (Ks.map Fx)]]) h rfl (Ei (Ef (BG rfl (BG rfl (BG rfl (BG (Eg hS 0 rfl Vo (fun _=>rfl)) (Ee _)))))) Eh) fun OR Vq h=>⟨.aA [.bool OR.1,.bool OR.2],Oe Vq (aC.nil _) fun H hS=>En rfl (Ek rfl (Ek rfl (Ej rfl))),⟨rfl,rfl,fun _=>rfl⟩,?_⟩;obtain ⟨Px,Py⟩:=OR;try dsimp only at h
         try simp only [W]
         refine C6 Vp ?_;refine CZ fun ZE Vr=> ?_;obtain ⟨Vs,h,Vt⟩:=Option.bind_eq_some_iff.1 h;refine DI gC (fun s H=> ∃LQ:Bool,Vs=(LQ)∧s=(u:: .fz (a1.map (AV.int .u8))::u::u::u::u::u::u::u::u::u::u::u::u::u::u::u::u::u::u::u::u::u::u::u::u::u::u::u::u::u::u::u::u::u::u::u::u::u::u::u::u::u::u::u::u::u::u::u::u::u::u::u::u::u::u::u::u::u::u::u::u::u::u::u::u::u::u::u::u::u::u::u::u::u::u::u::u::u::u::u::u::u::u::u::u::u::u::u::u::u::u::u::u::u::u::u::u::u::u::u::u::u::u::u::u::u::u::u::u::u::u::u::u::u::u::u::u::u::u::u::u::u::u::u::u::u::u::u::u::u::u::u::u::u::u::u::u::u::u::u::u::u::u::u::u::u::u::u::u::u::u::u::u::u::u::u::u::u::u::u::u::u::u::u::u::u::u::u::u::u::u::u::u::u::u::u::u::u::u::u::u::u::u::u::u::u::u::u::u::u::u::u::u::u::u::u::u::u::u::u::u::u::u::u::u::u:: .bool LQ::u::u::u::u::u::u::u::u::u::u::u::u::u::u::u::u::u::u::u::u::u::u::u::u::u::u::u::u::u::u::u::u::u::u::u::u::u::u::u::u::u::u::u::u::u::u::u::u::u::u::u::u::u::u::u::u::u::u::u::u::u::u::u::u::u::u::u::u::u::u::u::u::u::u::u::u::u::u::u::u::u::u::u::u::u::u::u::u::[])∧aC H (F)) (fun ZF OS=> ?_) (fun s H hq=> ?_)
         ·refine CZ fun ZG OT=> ?_;refine Dh gC ?_;try simp only [W,Nat.reduceAdd]
          refine D4 h (fun hc h=> ?_) (fun hc h=> ?_)
          ·try simp only [W,hc]
           refine C6 OT ?_;refine EQ (s' :=(u:: .fz (a1.map (AV.int .u8))::u::u::u::u::u::u::u::u::u::u::u::u::u::u::u::u::u::u::u::u::u::u::u::u::u::u::u::u::u::u::u::u::u::u::u::u::u::u::u::u::u::u::u::u::u::u::u::u::u::u::u::u::u::u::u::u::u::u::u::u::u::u::u::u::u::u::u::u::u::u::u::u::u::u::u::u::u::u::u::u::u::u::u::u::u::u::u::u::u::u::u::u::u::u::u::u::u::u::u::u::u::u::u::u::u::u::u::u::u::u::u::u::u::u::u::u::u::u::u::u::u::u::u::u::u::u::u::u::u::u::u::u::u::u::u::u::u::u::u::u::u::u::u::u::u::u::u::u::u::u::u::u::u::u::u::u::u::u::u::u::u::u::u::u::u::u::u::u::u::u::u::u::u::u::u::u::u::u::u::u::u::u::u::u::u::u::u::u::u::u::u::u::u::u::u::u::u::u::u::u::u::u::u::u::u:: .bool true::u::u::u::u::u::u::u::u::u::u::u::u::u::u::u::u::u::u::u::u::u::u::u::u::u::u::u::u::u::u::u::u::u::u::u::u::u::u::u::u::u::u::u::u::u::u::u::u::u::u::u::u::u::u::u::u::u::u::u::u::u::u::u::u::u::u::u::u::u::u::u::u::u::u::u::u::u::u::u::u::u::u::u::u::u::u::u::u::[])) rfl ?_
           exact DJ OS ⟨_,(Option.some.inj h).symm,rfl,(hS.D0 2 [] (by decide))⟩
          ·try simp only [W,reduceIte,Bool.false_eq_true,hc]
           refine D4 h (fun hc h=> ?_) (fun hc h=> ?_)
           ·try simp only [W,hc]
            refine C6 OT ?_;refine EQ (s' :=(u:: .fz (a1.map (AV.int .u8))::u::u::u::u::u::u::u::u::u::u::u::u::u::u::u::u::u::u::u::u::u::u::u::u::u::u::u::u::u::u::u::u::u::u::u::u::u::u::u::u::u::u::u::u::u::u::u::u::u::u::u::u::u::u::u::u::u::u::u::u::u::u::u::u::u::u::u::u::u::u::u::u::u::u::u::u::u::u::u::u::u::u::u::u::u::u::u::u::u::u::u::u::u::u::u::u::u::u::u::u::u::u::u::u::u::u::u::u::u::u::u::u::u::u::u::u::u::u::u::u::u::u::u::u::u::u::u::u::u::u::u::u::u::u::u::u::u::u::u::u::u::u::u::u::u::u::u::u::u::u::u::u::u::u::u::u::u::u::u::u::u::u::u::u::u::u::u::u::u::u::u::u::u::u::u::u::u::u::u::u::u::u::u::u::u::u::u::u::u::u::u::u::u::u::u::u::u::u::u::u::u::u::u::u::u:: .bool true::u::u::u::u::u::u::u::u::u::u::u::u::u::u::u::u::u::u::u::u::u::u::u::u::u::u::u::u::u::u::u::u::u::u::u::u::u::u::u::u::u::u::u::u::u::u::u::u::u::u::u::u::u::u::u::u::u::u::u::u::u::u::u::u::u::u::u::u::u::u::u::u::u::u::u::u::u::u::u::u::u::u::u::u::u::u::u::u::[])) rfl ?_
            exact DJ OS ⟨_,(Option.some.inj h).symm,rfl,(hS.D0 2 [] (by decide))⟩
           ·try simp only [W,Fv,reduceIte,Nat.reduceAdd,Nat.reduceBEq,Bool.false_eq_true,hS.var 1 rfl,hc]
            refine C6 OT ?_;refine EQ (s' :=(u:: .fz (a1.map (AV.int .u8))::u::u::u::u::u::u::u::u::u::u::u::u::u::u::u::u::u::u::u::u::u::u::u::u::u::u::u::u::u::u::u::u::u::u::u::u::u::u::u::u::u::u::u::u::u::u::u::u::u::u::u::u::u::u::u::u::u::u::u::u::u::u::u::u::u::u::u::u::u::u::u::u::u::u::u::u::u::u::u::u::u::u::u::u::u::u::u::u::u::u::u::u::u::u::u::u::u::u::u::u::u::u::u::u::u::u::u::u::u::u::u::u::u::u::u::u::u::u::u::u::u::u::u::u::u::u::u::u::u::u::u::u::u::u::u::u::u::u::u::u::u::u::u::u::u::u::u::u::u::u::u::u::u::u::u::u::u::u::u::u::u::u::u::u::u::u::u::u::u::u::u::u::u::u::u::u::u::u::u::u::u::u::u::u::u::u::u::u::u::u::u::u::u::u::u::u::u::u::u::u::u::u::u::u::u:: .bool (!(Jh==F0))::u::u::u::u::u::u::u::u::u::u::u::u::u::u::u::u::u::u::u::u::u::u::u::u::u::u::u::u::u::u::u::u::u::u::u::u::u::u::u::u::u::u::u::u::u::u::u::u::u::u::u::u::u::u::u::u::u::u::u::u::u::u::u::u::u::u::u::u::u::u::u::u::u::u::u::u::u::u::u::u::u::u::u::u::u::u::u::u::[])) rfl ?_
            exact DJ OS ⟨_,(Option.some.inj h).symm,rfl,(hS.D0 2 [] (by decide))⟩
         ·obtain ⟨LQ,FI,rfl,hS⟩:=hq;obtain rfl:=FI.symm;replace h:=Vt;try dsimp only at h
          refine C6 Vr ?_;refine C4 ?_;simp only [W];refine Dg h (fun hc h=> ?_) (fun hc h=> ?_)
          ·refine CZ fun ZH Vu=> ?_;refine Dh gC ?_;try simp only [W,Nat.reduceAdd]
           refine C6 Vu ?_;refine C2 ?_;refine C7 KC ?_;try obtain rfl:=Option.some.inj h
           obtain rfl:=Option.some.inj Mm;have h:(some false:Option (Bool))=some false:=rfl;refine DK Ig ?_;refine C7 Ml ?_;refine Dd Fy rfl ?_;try obtain rfl:=Option.some.inj h
           exact hP _ hS
          ·refine C1 ?_;refine C6 KC ?_;refine EQ (s' :=(u:: .fz (a1.map (AV.int .u8))::u::u::u::u::u::u::u::u::u::u::u::u::u::u::u::u::u::u::u::u::u::u::u::u::u::u::u::u::u::u::u::u::u::u::u::u::u::u::u::u::u::u::u::u::u::u::u::u::u::u::u::u::u::u::u::u::u::u::u::u::u::u::u::u::u::u::u::u::u::u::u::u::u::u::u::u::u::u::u::u::u::u::u::u::u::u::u::u::u::u::u::u::u::u::u::u::u::u::u::u::u::u::u::u::u::u::u::u::u::u::u::u::u::u::u::u::u::u::u::u::u::u::u::u::u::u::u::u::u::u::u::u::u::u::u::u::u::u::u::u::u::u::u::u::u::u::u::u::u::u::u::u::u::u::u::u::u::u::u::u::u::u::u::u::u::u::u::u::u::u::u::u::u::u::u::u::u::u::u::u::u::u::u::u::u::u::u::u::u::u::u::u::u::u::u::u::u::u::u::u::u::u::u::u::u::u::u::u::u::u::u::u::u::u::u::u::u::u::u::u::u::u::u::u::u::u::u::u::u::u::u::u::u::u::u::u::u::u::u::u::u::u::u::u::u::u::u::u::u::u::u::u::u::u::u::u::u::u::u::u::u::u::u::u::u::u::u::u::u::u::u::u::u::u::u::u::u::u::u::u::u::u::u::u::u::u::u::u::u::u::u::u::u::u::[])) rfl ?_
           exact DJ Ig ⟨(Option.some.inj h).symm,rfl,hS⟩
      ·refine C1 ?_;refine C6 KC ?_;refine EQ (s' :=(u:: .fz (a1.map (AV.int .u8))::u::u::u::u::u::u::u::u::u::u::u::u::u::u::u::u::u::u::u::u::u::u::u::u::u::u::u::u::u::u::u::u::u::u::u::u::u::u::u::u::u::u::u::u::u::u::u::u::u::u::u::u::u::u::u::u::u::u::u::u::u::u::u::u::u::u::u::u::u::u::u::u::u::u::u::u::u::u::u::u::u::u::u::u::u::u::u::u::u::u::u::u::u::u::u::u::u::u::u::u::u::u::u::u::u::u::u::u::u::u::u::u::u::u::u::u::u::u::u::u::u::u::u::u::u::u::u::u::u::u::u::u::u::u::u::u::u::u::u::u::u::u::u::u::u::u::u::u::u::u::u::u::u::u::u::u::u::u::u::u::u::u::u::u::u::u::u::u::u::u::u::u::u::u::u::u::u::u::u::u::u::u::u::u::u::u::u::u::u::u::u::u::u::u::u::u::u::u::u::u::u::u::u::u::u::u::u::u::u::u::u::u::u::u::u::u::u::u::u::u::u::u::u::u::u::u::u::u::u::u::u::u::u::u::u::u::u::u::u::u::u::u::u::u::u::u::u::u::u::u::u::u::u::u::u::u::u::u::u::u::u::u::u::u::u::u::u::u::u::u::u::u::u::u::u::u::u::u::u::u::u::u::u::u::u::u::u::u::u::u::u::u::u::u::[])) rfl ?_
       exact DJ Ig ⟨(Option.some.inj h).symm,rfl,(hS.D0 1 [] (by decide))⟩
     ·obtain ⟨rfl,rfl,hS⟩:=hq;replace h:=Mm;try dsimp only at h
      refine C6 Ml ?_;refine CZ fun ZI Vv=> ?_;refine Dh gC ?_;try simp only [W,Nat.reduceAdd]
      refine DC h fun Vw Vx h=> ?_;obtain ⟨GN,H_⟩:=Vw;try dsimp only at h
      refine Us Vx hS fun H hS=> ?_;try simp only [W]
      refine Dr hS rfl rfl fun ZJ ZK H hS=> ?_;try simp only [W]
      refine Dr hS rfl rfl fun ZL ZM H hS=> ?_;try simp only [W]
      refine Ds (a:= .agg [.int .i64 GN.Id,.int .i64 GN.Fw,.str GN.Text,.fz (GN.Has.map Fx)]) (y' := .agg [.int .i64 GN.Id,.int .i64 GN.Fw,.str GN.Text,.fz (GN.Has.map Fx)]) 1 hS rfl rfl rfl rfl rfl rfl rfl rfl fun H hS=> ?_
      try simp only [W]
      refine Ds (a:= .agg [.int .i64 H_.Id,.int .i64 H_.At,.int .i64 H_.Fw,.str H_.Text]) (y' := .agg [.int .i64 H_.Id,.int .i64 H_.At,.int .i64 H_.Fw,.str H_.Text]) 0 hS rfl rfl rfl rfl rfl rfl rfl rfl fun H hS=> ?_
      try simp only [W]
      refine C6 Vv ?_;refine CZ fun ZN Vy=> ?_;refine Dh gC ?_;try simp only [W,Fv,reduceIte,Nat.reduceAdd,Nat.reduceLeDiff,hS.var 1 rfl,hS.var 0 rfl]
      refine DC h fun Vz VA h=> ?_;obtain ⟨Hv,MO,MP⟩:=Vz;try dsimp only at h
      refine Oq VA hS fun QK QL H hS=> ?_;try simp only [W]
      refine Dr hS rfl rfl fun ZO ZP H hS=> ?_;try simp only [W]
      refine Ds (a:= .agg [.int .i64 Hv.Id,.int .i64 Hv.Fw,.str Hv.Text,QK]) (y' := .agg [.int .i64 Hv.Id,.int .i64 Hv.Fw,.str Hv.Text,QK]) 0 hS rfl rfl rfl rfl rfl (by simp only [dP,List.all_cons,List.all_nil,QL.q8];rfl) rfl rfl fun H hS=> ?_
      try simp only [W]
      refine C6 Vy ?_;refine CZ fun ZQ VB=> ?_;refine Dh gC ?_;try simp only [W,Fv,reduceIte,Nat.reduceAdd,Nat.reduceLeDiff,hS.var 3 rfl,hS.var 2 rfl]
      refine DC h fun VC VD h=> ?_;obtain ⟨Hw,MQ,MR⟩:=VC;try dsimp only at h
      refine Qp VD hS fun v206 QM H hS=> ?_;try simp only [W]
      refine Dr hS rfl rfl fun ZS ZT H hS=> ?_;try simp only [W]
      refine Ds (a:= .agg [.int .i64 Hw.Id,.int .i64 Hw.Fw,.str Hw.Text,v206]) (y' := .agg [.int .i64 Hw.Id,.int .i64 Hw.Fw,.str Hw.Text,v206]) 0 hS rfl rfl rfl rfl rfl (by simp only [dP,List.all_cons,List.all_nil,QM.q8];rfl) rfl rfl fun H hS=> ?_
      try simp only [W]
      refine C6 VB ?_;refine CZ fun ZU VE=> ?_;refine Dh gC ?_;try simp only [W,Nat.reduceAdd]
      refine DC h fun Ia VF h=> ?_;refine Uu VF hS fun H hS=> ?_;try simp only [W]
      refine Dr hS rfl rfl fun ZV ZW H hS=> ?_;try simp only [W]
      refine Ds (a:= .agg [.int .i64 Ia.Id,.int .i64 Ia.Fw,.str Ia.Text,.fz (Ia.Has.map Fx)]) (y' := .agg [.int .i64 Ia.Id,.int .i64 Ia.Fw,.str Ia.Text,.fz (Ia.Has.map Fx)]) 0 hS rfl rfl rfl rfl rfl rfl rfl rfl fun H hS=> ?_
      try simp only [W]
      refine C6 VE ?_;refine CZ fun ZX VG=> ?_;refine Dh gC ?_;try simp only [W,Fv,reduceIte,Nat.reduceAdd,Nat.reduceLeDiff,hS.var 0 rfl]
      refine DC h fun VH VI h=> ?_;obtain ⟨MS,MT⟩:=VH;try dsimp only at h
      refine Oe VI hS fun H hS=> ?_;try simp only [W]
      refine C6 VG ?_;refine CZ fun ZY VJ=> ?_;refine Dh gC ?_;try simp only [W,Fv,reduceIte,Nat.reduceAdd,Nat.reduceLeDiff,hS.var 0 rfl]
      refine DC h fun VK VL h=> ?_;obtain ⟨MU,MV⟩:=VK;try dsimp only at h
      refine Ux VL hS fun H hS=> ?_;try simp only [W]
      refine C6 VJ ?_;refine CZ fun ZZ VM=> ?_;refine Dh gC ?_;try simp only [W,Nat.reduceAdd]
      refine DC h fun VN VO h=> ?_;obtain ⟨NX,NY⟩:=VN;try dsimp only at h
      refine Uy VO hS fun H hS=> ?_;try simp only [W]
      refine C6 VM ?_;refine CZ fun Z0 VP=> ?_;refine Dh gC ?_;try simp only [W,Nat.reduceAdd]
      refine DC h fun VQ VR h=> ?_;obtain ⟨Hy,MW⟩:=VQ;try dsimp only at h
      refine P0 VR hS fun QN QO H hS=> ?_;try simp only [W]
      refine Dr hS rfl rfl fun Z1 Z2 H hS=> ?_;try simp only [W]
      refine Ds (a:= .agg [.int .i64 Hy.Id,.int .i64 Hy.Fw,.str Hy.Text,QN]) (y' := .agg [.int .i64 Hy.Id,.int .i64 Hy.Fw,.str Hy.Text,QN]) 0 hS rfl rfl rfl rfl rfl (by simp only [dP,List.all_cons,List.all_nil,QO.q8];rfl) rfl rfl fun H hS=> ?_
      try simp only [W]
      refine C6 VP ?_;refine CZ fun Z3 VT=> ?_;refine Dh gC ?_;try simp only [W,Nat.reduceAdd]
      refine DC h fun VU VV h=> ?_;obtain ⟨Hz,MX⟩:=VU;try dsimp only at h
      refine UA VV hS fun QP QQ H hS=> ?_;try simp only [W]
      refine Dr hS rfl rfl fun Z4 Z5 H hS=> ?_;try simp only [W]
      refine Ds (a:= .agg [.int .i64 Hz.Id,.int .i64 Hz.Fw,.str Hz.Text,QP]) (y' := .agg [.int .i64 Hz.Id,.int .i64 Hz.Fw,.str Hz.Text,QP]) 0 hS rfl rfl rfl rfl rfl (by simp only [dP,List.all_cons,List.all_nil,QQ.q8];rfl) rfl rfl fun H hS=> ?_
      try simp only [W]
      refine C6 VT ?_;refine CZ fun Z6 Jt=> ?_;refine Dj gC (by kernel_rfl) ?_
      try simp only [W,Fv,Nat.reduceAdd]
      rw [Dm _ _ _ _ (h:=rfl) rfl,ur];try simp only [W]
      refine D4 h (fun hc h=> ?_) (fun hc h=> ?_)
      ·try simp only [W,Fv,reduceIte,hc]
       refine D4 h (fun hc h=> ?_) (fun hc h=> ?_)
       ·try simp only [W,Fv,reduceIte,Nat.reduceAdd,Nat.reduceLeDiff,hS.var 7 rfl,hS.var 5 rfl,hc]
        refine Ev (bT:=[[.sc]]) (ys:=[.agg [.int .i64 Hv.Id,.int .i64 Hv.Fw,.str Hv.Text,.fz (Hv.Has.map Fx)],.agg [.int .i64 Hw.Id,.int .i64 Hw.Fw,.str Hw.Text,.fz (Hw.Has.map Fx)]]) h rfl (Ei (Ef (BG rfl (BG rfl (BG rfl (BG (Eg hS 8 rfl QL (fun _=>rfl)) (Ee _)))))) (Ei (Ef (BG rfl (BG rfl (BG rfl (BG (Eg hS 6 rfl QM (fun _=>rfl)) (Ee _)))))) Eh)) fun LS VW h=>⟨.bool LS,Ox VW (aC.nil _) fun H hS=>En rfl (Ek rfl (Ej rfl)),⟨rfl,rfl,fun _=>rfl⟩,?_⟩;try simp only [W,reduceIte]
        refine D4 h (fun hc h=> ?_) (fun hc h=> ?_)
        ·try simp only [W,Fv,hc]
         rw [Dm _ _ _ _ (h:=rfl) rfl,ur];try simp only [W,reduceIte]
         refine D4 h (fun hc h=> ?_) (fun hc h=> ?_)
         ·try simp only [W,Fv,hc]
          rw [Dm _ _ _ _ (h:=rfl) rfl,ur];try simp only [W,reduceIte]
          refine D4 h (fun hc h=> ?_) (fun hc h=> ?_)
          ·try simp only [W,Fv,hc]
           rw [Dm _ _ _ _ (h:=rfl) rfl,ur];try simp only [W,reduceIte]
           refine D4 h (fun hc h=> ?_) (fun hc h=> ?_)
           ·try simp only [W,Fv,reduceIte,Nat.reduceAdd,Nat.reduceLeDiff,hS.var 2 rfl,hS.var 0 rfl,hc]
            refine Ev (bT:=[[.sc]]) (ys:=[.agg [.int .i64 Hy.Id,.int .i64 Hy.Fw,.str Hy.Text,.fz (Hy.Has.map Fx)],.agg [.int .i64 Hz.Id,.int .i64 Hz.Fw,.str Hz.Text,.fz (Hz.Has.map Fx)]]) h rfl (Ei (Ef (BG rfl (BG rfl (BG rfl (BG (Eg hS 3 rfl QO (fun _=>rfl)) (Ee _)))))) (Ei (Ef (BG rfl (BG rfl (BG rfl (BG (Eg hS 1 rfl QQ (fun _=>rfl)) (Ee _)))))) Eh)) fun LU VX h=>⟨.bool LU,Ox VX (aC.nil _) fun H hS=>En rfl (Ek rfl (Ej rfl)),⟨rfl,rfl,fun _=>rfl⟩,?_⟩;try simp only [W,reduceIte]
            refine D4 h (fun hc h=> ?_) (fun hc h=> ?_)
            ·try simp only [W,Fv,reduceIte,Nat.reduceAdd,Nat.reduceLeDiff,hS.var 10 rfl,hc]
             refine Ev (bT:=[[.sc]]) (ys:=[.agg [.int .i64 GN.Id,.int .i64 GN.Fw,.str GN.Text,.fz (GN.Has.map Fx)]]) h rfl (by rfl) fun LV VY h=>⟨.bool LV,M7 VY (aC.nil _) fun H hS=>En rfl (Ek rfl (Ej rfl)),⟨rfl,rfl,fun _=>rfl⟩,?_⟩
             try simp only [W,Fv,reduceIte,Nat.reduceAdd,Nat.reduceLeDiff,hS.var 10 rfl]
             refine Ev (bT:=[[.sc]]) (ys:=[.agg [.int .i64 GN.Id,.int .i64 GN.Fw,.str GN.Text,.fz (GN.Has.map Fx)]]) h rfl (by rfl) fun LW VZ h=>⟨.bool LW,Oy VZ (aC.nil _) fun H hS=>En rfl (Ek rfl (Ej rfl)),⟨rfl,rfl,fun _=>rfl⟩,?_⟩
             try simp only [W,Fv]
             rw [Dm _ _ _ _ (h:=rfl) rfl,ur];try simp only [W,reduceIte]
             refine C6 Jt ?_;refine C2 ?_;refine Dd Fy rfl ?_;try obtain rfl:=Option.some.inj h
             exact hP _ (hS.D0 11 [] (by decide))
            ·try simp only [W,hc]
             refine C6 Jt ?_;refine C2 ?_;refine Dd Fy rfl ?_;try obtain rfl:=Option.some.inj h
             exact hP _ (hS.D0 11 [] (by decide))
           ·try simp only [W,hc]
            refine C6 Jt ?_;refine C2 ?_;refine Dd Fy rfl ?_;try obtain rfl:=Option.some.inj h
            exact hP _ (hS.D0 11 [] (by decide))
          ·try simp only [W,hc]
           refine C6 Jt ?_;refine C2 ?_;refine Dd Fy rfl ?_;try obtain rfl:=Option.some.inj h
           exact hP _ (hS.D0 11 [] (by decide))
         ·try simp only [W,hc]
          refine C6 Jt ?_;refine C2 ?_;refine Dd Fy rfl ?_;try obtain rfl:=Option.some.inj h
          exact hP _ (hS.D0 11 [] (by decide))
        ·try simp only [W,hc]
         refine C6 Jt ?_;refine C2 ?_;refine Dd Fy rfl ?_;try obtain rfl:=Option.some.inj h
         exact hP _ (hS.D0 11 [] (by decide))
       ·try simp only [W,hc]
        refine C6 Jt ?_;refine C2 ?_;refine Dd Fy rfl ?_;try obtain rfl:=Option.some.inj h
        exact hP _ (hS.D0 11 [] (by decide))
      ·try simp only [W,hc]
       refine C6 Jt ?_;refine C2 ?_;refine Dd Fy rfl ?_;try obtain rfl:=Option.some.inj h
       exact hP _ (hS.D0 11 [] (by decide))
end Go.Hm
