import Derived.Test.YtmmomohapflagaaVjG2
import Derived.Test.YtmmomohapflagaaProg
import Derived.Test.YtmmomohapflagaaVaE
import Derived.KernelRfl
open Go Go.VS
set_option maxRecDepth 8000
set_option maxHeartbeats 4000000
namespace Go.Gq
theorem N3 {a0:List Hello} {a1:List Hello} {r:(Bool)} (h:IK a0 a1=some r) {F:List It} {H:J} (hS:ay H (F)) {P:AV→J→Prop} (hP: ∀H',ay H' (F)→P (.bool r) H'):au C 73 [.fz (a0.map CV),.fz (a1.map CV)] H P:=by
 refine AW gC (res:=[.tmp 4]) (n:=26) rfl rfl rfl rfl fun K0 C8=> ?_;simp only [W,Nat.reduceSub,Nat.reduceAdd,List.replicate];unfold IK at h;refine Aw fun K1 Da=> ?_;refine AS gC ?_;try simp only [W,Nat.reduceAdd]
 refine AE Da ?_;refine Aw fun K2 yP=> ?_;refine Aw fun K3 FG=> ?_;refine AS gC ?_;try simp only [W,EE,Nat.reduceAdd]
 refine AE FG ?_;refine AB ?_;simp only [W];refine AR h (fun hc h=> ?_) (fun hc h=> ?_)
 ·refine Aw fun K4 Df=> ?_;refine AS gC ?_;try simp only [W,Nat.reduceAdd]
  refine AE Df ?_;refine Az ?_;refine AF yP ?_;refine AO C8 rfl ?_;try obtain rfl:=Option.some.inj h
  exact hP _ hS
 ·refine Ay ?_;refine AE yP ?_;refine Aw fun K5 D7=> ?_;refine Aw fun K6 Dx=> ?_;refine AS gC ?_;try simp only [W,EE,Nat.reduceAdd]
  refine AE Dx ?_;obtain ⟨Rh,Ri,LI⟩:=Option.bind_eq_some_iff.1 h;refine Bm gC (fun s H=>Rh=LR.next ()∧s=[u,u,u,u,u,u,u,u,u,u,u,u,u,u,u,u,u,u,u,u,u,u,u,u,u,u]∧ay H (F)) (fun HS DG=> ?_) (fun s H hq=> ?_)
  ·refine Ax fun Js Fv=> ?_;refine Bi gC Ri (fun x s H=>s=[.fz (a0.map CV),.fz (a1.map CV),u,u,u,u,u,u,u,u,u,u,.int .i64 (a0.length:Int),.int .i64 x,u,u,u,u,u,u,u,u,u,u,u,u]∧ay H (F)) ⟨rfl,hS⟩ (fun Gy Rf s H h Pr hi Lb FH=> ?_)
   skip
   try dsimp only at hi
   obtain ⟨rfl,hS⟩:=hi;simp only [Ox] at h;refine Aw fun Hk Ek=> ?_;refine AS gC ?_;try simp only [W,EE,Nat.reduceAdd]
   refine AE Ek ?_;refine Aw fun GX Ea=> ?_;refine AB ?_;simp only [W];refine AR h (fun hc h=> ?_) (fun hc h=> ?_)
   ·refine Ay ?_;refine AE Ea ?_;refine Aw fun Ij EB=> ?_;refine Ax fun Hl Es=> ?_;refine Aw fun J9 FK=> ?_;refine AS gC ?_;try simp only [W,Nat.reduceAdd]
    refine AE FK ?_;refine Aw fun IU E8=> ?_;refine AU gC (by kernel_rfl) ?_
    try simp only [W,EE,Nat.reduceAdd]
    refine Ba rfl rfl rfl (fun _=>rfl) h fun DK To h=> ?_;try simp only [W,EE,EN,reduceIte,Nat.reduceAdd,Nat.reduceLeDiff]
    refine Ba rfl rfl rfl (fun _=>rfl) h fun EW N1 h=> ?_;try simp only [W,EE,EN,reduceIte,Nat.reduceAdd,Nat.reduceLeDiff]
    refine AE E8 ?_;refine AB ?_;simp only [W];refine AR h (fun hc h=> ?_) (fun hc h=> ?_)
    ·refine Aw fun NC HX=> ?_;refine AS gC ?_;try simp only [W,Nat.reduceAdd]
     refine AE HX ?_;refine Az ?_;refine AM Es ?_;refine AF EB ?_;try obtain rfl:=Option.some.inj h
     obtain rfl:=Pr _ rfl;have h:(some (LR.done false):Option (LR Unit (Bool)))=some (LR.done false):=rfl;refine Bl FH ?_;refine AM Fv ?_;try obtain rfl:=Option.some.inj h
     obtain rfl:=Option.some.inj LI;have h:(some false:Option (Bool))=some false:=rfl;refine Bo DG ?_;refine AF D7 ?_;refine AO C8 rfl ?_;try obtain rfl:=Option.some.inj h
     exact hP _ hS
    ·refine Ay ?_;refine AJ Es ?_;refine AE EB ?_;refine AS gC ?_;try simp only [W,EE,Nat.reduceAdd]
     exact Bj FH h ⟨rfl,hS⟩
   ·refine AA ?_;refine AG Ea ?_;try obtain rfl:=Option.some.inj h
    obtain rfl:=Pr _ rfl;have h:(some (LR.next ()):Option (LR Unit (Bool)))=some (LR.next ()):=rfl
    refine Bk FH ?_;refine AK Fv ?_;exact Bn DG ⟨(Option.some.inj h).symm,rfl,hS⟩
  ·obtain ⟨rfl,rfl,hS⟩:=hq;replace h:=LI;try dsimp only at h
   refine AE D7 ?_;refine Aw fun Ps H_=> ?_;refine AS gC ?_;try simp only [W,Nat.reduceAdd]
   refine AE H_ ?_;refine Az ?_;refine AO C8 rfl ?_;try obtain rfl:=Option.some.inj h
   exact hP _ hS
theorem RO {a0:C5} {a1:C5} {r:(Bool)} (h:IL a0 a1=some r) {F:List It} {H:J} (hS:ay H (F)) {P:AV→J→Prop} (hP: ∀H',ay H' (F)→P (.bool r) H'):au C 70 [.agg [.int .i64 a0.C0,.int .i64 a0.CY,.int .i64 a0.X,.int .i64 a0.Y,.int .i64 a0.C1,.int .i64 a0.CZ,.int .i64 a0.CW,.int .i64 a0.CX,.fz (a0.C2.map CV),.fz (a0.C3.map CV),.fz (a0.C4.map CV)],.agg [.int .i64 a1.C0,.int .i64 a1.CY,.int .i64 a1.X,.int .i64 a1.Y,.int .i64 a1.C1,.int .i64 a1.CZ,.int .i64 a1.CW,.int .i64 a1.CX,.fz (a1.C2.map CV),.fz (a1.C3.map CV),.fz (a1.C4.map CV)]] H P:=by
 refine AW gC (res:=[.tmp 4]) (n:=80) rfl rfl rfl rfl fun K0 C8=> ?_;simp only [W,Nat.reduceSub,Nat.reduceAdd,List.replicate];unfold IL at h;refine Aw fun K1 Da=> ?_;refine AS gC ?_;try simp only [W,Nat.reduceAdd]
 refine A7 hS rfl rfl rfl rfl fun C6 C7 H hS=> ?_;try simp only [W]
 refine A7 hS rfl rfl rfl rfl fun Dz DA H hS=> ?_;try simp only [W]
 refine AE Da ?_;refine Aw fun K6 Dx=> ?_;refine AS gC ?_;try simp only [W,EE,Nat.reduceAdd,Nat.reduceBEq,hS.var 1 rfl,hS.var 0 rfl,List.append_eq]
 refine BE h (fun hc h=> ?_) (fun hc h=> ?_)
 ·try simp only [W,EE,reduceIte,Nat.reduceAdd,Nat.reduceBEq,hS.var 1 rfl,hS.var 0 rfl,hc]
  refine BE h (fun hc h=> ?_) (fun hc h=> ?_)
  ·try simp only [W,EE,reduceIte,Nat.reduceAdd,Nat.reduceBEq,hS.var 1 rfl,hS.var 0 rfl,hc]
   refine BE h (fun hc h=> ?_) (fun hc h=> ?_)
   ·try simp only [W,EE,reduceIte,Nat.reduceAdd,Nat.reduceBEq,hS.var 1 rfl,hS.var 0 rfl,hc]
    refine BE h (fun hc h=> ?_) (fun hc h=> ?_)
    ·try simp only [W,EE,reduceIte,Nat.reduceAdd,Nat.reduceBEq,hS.var 1 rfl,hS.var 0 rfl,hc]
     refine BE h (fun hc h=> ?_) (fun hc h=> ?_)
     ·try simp only [W,EE,reduceIte,Nat.reduceAdd,Nat.reduceBEq,hS.var 1 rfl,hS.var 0 rfl,hc]
      refine BE h (fun hc h=> ?_) (fun hc h=> ?_)
      ·try simp only [W,EE,reduceIte,Nat.reduceAdd,Nat.reduceBEq,hS.var 1 rfl,hS.var 0 rfl,hc]
       refine BE h (fun hc h=> ?_) (fun hc h=> ?_)
       ·try simp only [W,EE,reduceIte,Nat.reduceAdd,Nat.reduceBEq,hS.var 1 rfl,hS.var 0 rfl,hc]
        refine BE h (fun hc h=> ?_) (fun hc h=> ?_)
        ·try simp only [W,EE,Nat.reduceAdd,Nat.reduceBEq,hS.var 1 rfl,hS.var 0 rfl,hc]
         refine Bh h fun C9 H9 h=> ?_;refine N3 H9 hS fun H hS=> ?_;try simp only [W,reduceIte]
         refine BE h (fun hc h=> ?_) (fun hc h=> ?_)
         ·try simp only [W,EE,Nat.reduceAdd,Nat.reduceBEq,hS.var 1 rfl,hS.var 0 rfl,hc]
          refine Bh h fun Dr G4 h=> ?_;refine N3 G4 hS fun H hS=> ?_;try simp only [W,reduceIte]
          refine BE h (fun hc h=> ?_) (fun hc h=> ?_)
          ·try simp only [W,EE,Nat.reduceAdd,Nat.reduceBEq,hS.var 1 rfl,hS.var 0 rfl,hc]
           refine Bh h fun Db HU h=> ?_;refine N3 HU hS fun H hS=> ?_;try simp only [W,reduceIte]
           refine AE Dx ?_;refine Az ?_;refine AO C8 rfl ?_;try obtain rfl:=Option.some.inj h
           exact hP _ (hS.BA 2 [] (by decide))
          ·try simp only [W,hc]
           refine AE Dx ?_;refine Az ?_;refine AO C8 rfl ?_;try obtain rfl:=Option.some.inj h
           exact hP _ (hS.BA 2 [] (by decide))
         ·try simp only [W,hc]
          refine AE Dx ?_;refine Az ?_;refine AO C8 rfl ?_;try obtain rfl:=Option.some.inj h
          exact hP _ (hS.BA 2 [] (by decide))
        ·try simp only [W,hc]
         refine AE Dx ?_;refine Az ?_;refine AO C8 rfl ?_;try obtain rfl:=Option.some.inj h
         exact hP _ (hS.BA 2 [] (by decide))
       ·try simp only [W,hc]
        refine AE Dx ?_;refine Az ?_;refine AO C8 rfl ?_;try obtain rfl:=Option.some.inj h
        exact hP _ (hS.BA 2 [] (by decide))
      ·try simp only [W,hc]
       refine AE Dx ?_;refine Az ?_;refine AO C8 rfl ?_;try obtain rfl:=Option.some.inj h
       exact hP _ (hS.BA 2 [] (by decide))
     ·try simp only [W,hc]
      refine AE Dx ?_;refine Az ?_;refine AO C8 rfl ?_;try obtain rfl:=Option.some.inj h
      exact hP _ (hS.BA 2 [] (by decide))
    ·try simp only [W,hc]
     refine AE Dx ?_;refine Az ?_;refine AO C8 rfl ?_;try obtain rfl:=Option.some.inj h
     exact hP _ (hS.BA 2 [] (by decide))
   ·try simp only [W,hc]
    refine AE Dx ?_;refine Az ?_;refine AO C8 rfl ?_;try obtain rfl:=Option.some.inj h
    exact hP _ (hS.BA 2 [] (by decide))
  ·try simp only [W,hc]
   refine AE Dx ?_;refine Az ?_;refine AO C8 rfl ?_;try obtain rfl:=Option.some.inj h
   exact hP _ (hS.BA 2 [] (by decide))
 ·try simp only [W,hc]
  refine AE Dx ?_;refine Az ?_;refine AO C8 rfl ?_;try obtain rfl:=Option.some.inj h
  exact hP _ (hS.BA 2 [] (by decide))
theorem Yd {a0:List Int} {r:(C5)} (h:Oy a0=some r) {F:List It} {H:J} (hS:ay H (F)) {P:AV→J→Prop} (hP: ∀Hq:AV,bm Hq→ ∀Hp:AV,bm Hp→ ∀FV:AV,bm FV→ ∀H',ay H' (⟨Hq,3,r.C2.map CV⟩::⟨Hp,3,r.C3.map CV⟩::⟨FV,3,r.C4.map CV⟩::F)→P (.agg [.int .i64 r.C0,.int .i64 r.CY,.int .i64 r.X,.int .i64 r.Y,.int .i64 r.C1,.int .i64 r.CZ,.int .i64 r.CW,.int .i64 r.CX,Hq,Hp,FV]) H'):au C 221 [.fz (a0.map (AV.int .u8))] H P:=by
 refine AW gC (res:=[.cell 2 73]) (n:=9) rfl rfl rfl rfl fun K0 C8=> ?_;simp only [W,Nat.reduceSub,Nat.reduceAdd,List.replicate];unfold Oy at h;refine Aw fun K1 Da=> ?_;refine AS gC ?_;try simp only [W,Nat.reduceAdd]
 refine A8 hS rfl rfl fun C6 C7 H hS=> ?_;try simp only [W]
 refine AE Da ?_;refine Aw fun K4 Df=> ?_;refine AS gC ?_;try simp only [W,EE,Nat.reduceAdd]
 refine BF rfl rfl rfl rfl rfl ?_;try simp only [W]
 refine A7 hS rfl rfl rfl rfl fun FW FX H hS=> ?_;try simp only [W]
 refine AE Df ?_;refine Aw fun K7 Ez=> ?_;refine AS gC ?_;try simp only [W,Nat.reduceAdd]
 refine Bh h fun Dr G4 h=> ?_;obtain ⟨Db,DP⟩:=Dr;try dsimp only at h
 refine Q4 G4 hS fun v11 Fw EX EP FM Gb H hS=> ?_;try simp only [W]
 refine A9 (a:= .agg [.int .i64 Db.C0,.int .i64 Db.CY,.int .i64 Db.X,.int .i64 Db.Y,.int .i64 Db.C1,.int .i64 Db.CZ,.int .i64 Db.CW,.int .i64 Db.CX,v11,EX,FM]) (y' := .agg [.int .i64 Db.C0,.int .i64 Db.CY,.int .i64 Db.X,.int .i64 Db.Y,.int .i64 Db.C1,.int .i64 Db.CZ,.int .i64 Db.CW,.int .i64 Db.CX,v11,EX,FM]) 4 hS rfl rfl rfl rfl rfl (by simp only [dB,List.all_cons,List.all_nil,Fw.pF,EP.pF,Gb.pF];rfl) rfl rfl fun H hS=> ?_
 try simp only [W]
 refine AE Ez ?_;refine Az ?_;refine AN C8 (BC rfl rfl (hS.var 4 rfl) rfl rfl) ?_;try obtain rfl:=Option.some.inj h
 exact hP _ Fw _ EP _ Gb _ (hS.BA 5 [0,1,2] (by decide))
theorem Ye {a0:List Int} {r:(C5)} (h:KT a0=some r) {F:List It} {H:J} (hS:ay H (F)) {P:AV→J→Prop} (hP: ∀Fi:AV,bm Fi→ ∀EJ:AV,bm EJ→ ∀I4:AV,bm I4→ ∀H',ay H' (⟨Fi,3,r.C2.map CV⟩::⟨EJ,3,r.C3.map CV⟩::⟨I4,3,r.C4.map CV⟩::F)→P (.agg [.int .i64 r.C0,.int .i64 r.CY,.int .i64 r.X,.int .i64 r.Y,.int .i64 r.C1,.int .i64 r.CZ,.int .i64 r.CW,.int .i64 r.CX,Fi,EJ,I4]) H'):au C 74 [.fz (a0.map (AV.int .u8))] H P:=by
 refine AW gC (res:=[.cell 2 73]) (n:=5) rfl rfl rfl rfl fun K0 C8=> ?_;simp only [W,Nat.reduceSub,Nat.reduceAdd,List.replicate];unfold KT at h;refine Aw fun K1 Da=> ?_;refine AS gC ?_;try simp only [W,Nat.reduceAdd]
 refine A8 hS rfl rfl fun C6 C7 H hS=> ?_;try simp only [W]
 refine AE Da ?_;refine Aw fun K4 Df=> ?_;refine AS gC ?_;try simp only [W,Nat.reduceAdd]
 refine Bh h fun DQ H7 h=> ?_;refine Yd H7 hS fun v6 OZ Ix Gn v10 Gi H hS=> ?_;try simp only [W]
 refine A9 (a:= .agg [.int .i64 DQ.C0,.int .i64 DQ.CY,.int .i64 DQ.X,.int .i64 DQ.Y,.int .i64 DQ.C1,.int .i64 DQ.CZ,.int .i64 DQ.CW,.int .i64 DQ.CX,v6,Ix,v10]) (y' := .agg [.int .i64 DQ.C0,.int .i64 DQ.CY,.int .i64 DQ.X,.int .i64 DQ.Y,.int .i64 DQ.C1,.int .i64 DQ.CZ,.int .i64 DQ.CW,.int .i64 DQ.CX,v6,Ix,v10]) 3 hS rfl rfl rfl rfl rfl (by simp only [dB,List.all_cons,List.all_nil,OZ.pF,Gn.pF,Gi.pF];rfl) rfl rfl fun H hS=> ?_
 try simp only [W]
 refine AE Df ?_;refine Az ?_;refine AN C8 (BC rfl rfl (hS.var 3 rfl) rfl rfl) ?_;try obtain rfl:=Option.some.inj h
 exact hP _ OZ _ Gn _ Gi _ (hS.BA 4 [0,1,2] (by decide))
theorem Yf {a0:C5} {r:(C5×Bool)} (h:KU a0=some r) {F:List It} {H:J} (hS:ay H (F)) {P:AV→J→Prop} (hP: ∀Pf:AV,bm Pf→ ∀HT:AV,bm HT→ ∀Hv:AV,bm Hv→ ∀H',ay H' (⟨Pf,3,r.1.C2.map CV⟩::⟨HT,3,r.1.C3.map CV⟩::⟨Hv,3,r.1.C4.map CV⟩::F)→P (.aC [.agg [.int .i64 r.1.C0,.int .i64 r.1.CY,.int .i64 r.1.X,.int .i64 r.1.Y,.int .i64 r.1.C1,.int .i64 r.1.CZ,.int .i64 r.1.CW,.int .i64 r.1.CX,Pf,HT,Hv],.bool r.2]) H'):au C 75 [.agg [.int .i64 a0.C0,.int .i64 a0.CY,.int .i64 a0.X,.int .i64 a0.Y,.int .i64 a0.C1,.int .i64 a0.CZ,.int .i64 a0.CW,.int .i64 a0.CX,.fz (a0.C2.map CV),.fz (a0.C3.map CV),.fz (a0.C4.map CV)]] H P:=by
 refine AW gC (res:=[.cell 2 73,.tmp 3]) (n:=40) rfl rfl rfl rfl fun K0 C8=> ?_;simp only [W,Nat.reduceSub,Nat.reduceAdd,List.replicate];unfold KU at h;refine Aw fun K1 Da=> ?_;refine AS gC ?_;try simp only [W,Nat.reduceAdd]
 refine A7 hS rfl rfl rfl rfl fun C6 C7 H hS=> ?_;try simp only [W]
 refine A8 hS rfl rfl fun Dz DA H hS=> ?_;try simp only [W]
 refine AE Da ?_;refine Aw fun K6 Dx=> ?_;refine AS gC ?_;try simp only [W,EE,reduceIte,Nat.reduceAdd,Nat.reduceLeDiff,hS.var 1 rfl]
 refine Bh h fun C9 H9 h=> ?_;refine Tp H9 hS fun Ix Gn v10 Gi Fi GJ H hS=> ?_;try simp only [W]
 refine A8 hS rfl rfl fun LY LZ H hS=> ?_;try simp only [W]
 refine A9 (a:= .agg [.int .i64 C9.C0,.int .i64 C9.CY,.int .i64 C9.X,.int .i64 C9.Y,.int .i64 C9.C1,.int .i64 C9.CZ,.int .i64 C9.CW,.int .i64 C9.CX,Ix,v10,Fi]) (y' := .agg [.int .i64 C9.C0,.int .i64 C9.CY,.int .i64 C9.X,.int .i64 C9.Y,.int .i64 C9.C1,.int .i64 C9.CZ,.int .i64 C9.CW,.int .i64 C9.CX,Ix,v10,Fi]) 0 hS rfl rfl rfl rfl rfl (by simp only [dB,List.all_cons,List.all_nil,Gn.pF,Gi.pF,GJ.pF];rfl) rfl rfl fun H hS=> ?_
 try simp only [W]
 refine AE Dx ?_;refine Aw fun Hk Ek=> ?_;refine Aw fun GX Ea=> ?_;obtain ⟨Yg,h,Yh⟩:=Option.bind_eq_some_iff.1 h;refine Bm gC (fun s H=> ∃Ef:Bool,∃IF:Int,∃En:Int,∃F5:Int,∃GA:Int,∃Ed:Int,∃DL:Int,∃D1:Int,∃Eu:Int,∃D5:List Hello,∃DS:List Hello,∃DM:List Hello,Yg=(Ef,IF,En,F5,GA,Ed,DL,D1,Eu,D5,DS,DM)∧ ∃Gg:AV,bm Gg∧ ∃v30:AV,bm v30∧ ∃Fg:AV,bm Fg∧s=[u,u,.ptr Dz DA 0 0,u,.ptr LY LZ 0 0,u,u,u,u,u,u,u,u,u,u,u,u,u,u,u,u,.bool Ef,u,u,u,u,u,u,u,u,u,u,u,u,u,u,u,u,u,u]∧ay H (⟨Gg,3,D5.map CV⟩::⟨v30,3,DS.map CV⟩::⟨Fg,3,DM.map CV⟩::⟨.ptr Dz DA 0 0,11,[.agg [.int .i64 0,.int .i64 0,.int .i64 0,.int .i64 0,.int .i64 0,.int .i64 0,.int .i64 0,.int .i64 0,.nil,.nil,.nil]]⟩::⟨.ptr LY LZ 0 0,11,[.agg [.int .i64 IF,.int .i64 En,.int .i64 F5,.int .i64 GA,.int .i64 Ed,.int .i64 DL,.int .i64 D1,.int .i64 Eu,Gg,v30,Fg]]⟩::F)) (fun T1 I_=> ?_) (fun s H hq=> ?_)
 ·refine Aw fun Yc N2=> ?_;refine AS gC ?_;try simp only [W,EE,reduceIte,Nat.reduceAdd,Nat.reduceLeDiff,hS.var 5 rfl]
  refine Bh h fun Jo Ry h=> ?_;refine NS Ry hS fun H hS=> ?_;try simp only [W]
  refine BE h (fun hc h=> ?_) (fun hc h=> ?_)
  ·try simp only [W,hc]
   refine AE N2 ?_;refine AD ?_;exact Bn I_ ⟨_,_,_,_,_,_,_,_,_,_,_,_,(Option.some.inj h).symm,_,Gn,_,Gi,_,GJ,rfl,(hS.BA 6 [1,2,3,4,0] (by decide))⟩
  ·try simp only [W,EE,hc]
   refine BF rfl rfl rfl rfl rfl ?_;try simp only [W]
   refine Bh h fun Eo RN h=> ?_;obtain ⟨Ni,Gl⟩:=Eo;try dsimp only at h
   refine Py RN hS Gn Gi GJ fun LK Ks EQ Iw FL F8 H hS=> ?_;try simp only [W,reduceIte,Bool.false_eq_true]
   refine BE h (fun hc h=> ?_) (fun hc h=> ?_)
   ·try simp only [W,hc]
    refine AE N2 ?_;refine AD ?_;exact Bn I_ ⟨_,_,_,_,_,_,_,_,_,_,_,_,(Option.some.inj h).symm,_,Ks,_,Iw,_,F8,rfl,(hS.BA 6 [1,2,3,4,0] (by decide))⟩
   ·try simp only [W,EE,hc]
    refine BF rfl rfl rfl rfl rfl ?_;try simp only [W]
    refine Bh h fun Gd Pu h=> ?_;obtain ⟨F6,Hj⟩:=Gd;try dsimp only at h
    refine Py Pu hS Ks Iw F8 fun Lq Kd G7 Rz SR Nx H hS=> ?_;try simp only [W,reduceIte,Bool.false_eq_true]
    refine AE N2 ?_;refine AD ?_;exact Bn I_ ⟨_,_,_,_,_,_,_,_,_,_,_,_,(Option.some.inj h).symm,_,Kd,_,Rz,_,Nx,rfl,(hS.BA 6 [1,2,3,4,0] (by decide))⟩
 ·obtain ⟨Ef,IF,En,F5,GA,Ed,DL,D1,Eu,D5,DS,DM,rfl,Gg,Hr,v30,G0,Fg,Io,rfl,hS⟩:=hq;replace h:=Yh;try dsimp only at h
  refine AE Ea ?_;refine AB ?_;simp only [W];refine AR h (fun hc h=> ?_) (fun hc h=> ?_)
  ·refine Aw fun Ll FT=> ?_;refine AS gC ?_;try simp only [W,EE,Nat.reduceAdd]
   refine BF rfl rfl rfl rfl rfl ?_;try simp only [W]
   refine A9 (a:= .agg [.int .i64 0,.int .i64 0,.int .i64 0,.int .i64 0,.int .i64 0,.int .i64 0,.int .i64 0,.int .i64 0,.nil,.nil,.nil]) (y' := .agg [.int .i64 0,.int .i64 0,.int .i64 0,.int .i64 0,.int .i64 0,.int .i64 0,.int .i64 0,.int .i64 0,.nil,.nil,.nil]) 3 hS rfl rfl rfl rfl rfl rfl rfl rfl fun H hS=> ?_
   try simp only [W]
   refine AE FT ?_;refine Az ?_;refine AF Ek ?_;refine AN C8 (BC rfl rfl (hS.var 3 rfl) rfl (BD rfl rfl)) ?_;try obtain rfl:=Option.some.inj h
   exact hP _ mQ _ mQ _ mQ _ ((((hS.za 3).za 3).za 3).BA 8 [0,1,2] (by decide))
  ·refine Ay ?_;refine AE Ek ?_;refine Aw fun S6 NI=> ?_;refine AS gC ?_;try simp only [W,EE,Nat.reduceAdd,Nat.reduceBEq,hS.var 4 rfl]
   refine A9 (a:= .nil) (y' := .agg [.int .i64 IF,.int .i64 En,.int .i64 F5,.int .i64 GA,.int .i64 Ed,.int .i64 DL,.int .i64 D1,.int .i64 Eu,.nil,v30,Fg]) 4 hS rfl rfl rfl rfl rfl rfl rfl rfl fun H hS=> ?_
   try simp only [W]
   refine AE NI ?_;refine Aw fun QL Iu=> ?_;refine Aw fun QM Hz=> ?_;refine AS gC ?_;try simp only [W,EE,Nat.reduceAdd]
   refine BF rfl rfl rfl rfl rfl ?_;try simp only [W,EE]
   refine BF rfl rfl rfl rfl rfl ?_;try simp only [W,EE]
   refine BF rfl rfl rfl rfl rfl ?_;try simp only [W,EE]
   refine BF rfl rfl rfl rfl rfl ?_;try simp only [W]
   refine Bg (el:=([(⟨1,0⟩:Dc),(⟨2,0⟩:Dc),(⟨2,0⟩:Dc),(⟨2,0⟩:Dc)]:List Dc).map Ge) hS rfl rfl rfl rfl rfl rfl rfl fun Iv H Ko hS=> ?_;try simp only [W,EE]
   refine Be 0 hS rfl Ko rfl ?_;try simp only [W,EN,Nat.reduceAdd]
   refine AE Hz ?_;obtain ⟨Yi,Yj,T5⟩:=Option.bind_eq_some_iff.1 h;refine Bm gC (fun s H=> ∃Et:Int,∃Fo:Int,∃FA:Int,∃DV:Int,∃FF:Int,∃D0:Int,∃EV:Int,∃E6:Int,∃F4:List Hello,∃HO:List Hello,∃HP:List Hello,Yi=LR.next (Et,Fo,FA,DV,FF,D0,EV,E6,F4,HO,HP)∧ ∃HD:AV,bm HD∧ ∃GZ:AV,bm GZ∧ ∃L3:AV,bm L3∧s=[u,u,.ptr Dz DA 0 0,u,.ptr LY LZ 0 0,u,u,u,u,u,u,u,u,u,u,u,u,u,u,u,u,u,u,u,u,u,u,u,u,u,u,u,u,u,u,u,u,u,u,u]∧ay H (⟨HD,3,F4.map CV⟩::⟨GZ,3,HO.map CV⟩::⟨L3,3,HP.map CV⟩::⟨.ptr Dz DA 0 0,11,[.agg [.int .i64 0,.int .i64 0,.int .i64 0,.int .i64 0,.int .i64 0,.int .i64 0,.int .i64 0,.int .i64 0,.nil,.nil,.nil]]⟩::⟨.ptr LY LZ 0 0,11,[.agg [.int .i64 Et,.int .i64 Fo,.int .i64 FA,.int .i64 DV,.int .i64 FF,.int .i64 D0,.int .i64 EV,.int .i64 E6,HD,GZ,L3]]⟩::F)) (fun T4 JQ=> ?_) (fun s H hq=> ?_)
   ·refine Ax fun S5 Lp=> ?_;refine Bi gC Yj (fun x s H=>match x with|(FC,Ff,Gz,EU,DR,EY,Ej,Fk,EI,DX,Ev,Fq)=> ∃JL:AV,bm JL∧ ∃I8:AV,bm I8∧ ∃PK:AV,bm PK∧s=[u,u,.ptr Dz DA 0 0,u,.ptr LY LZ 0 0,u,u,u,u,u,u,u,u,u,u,u,u,u,u,u,u,u,u,u,u,u,u,u,Iv,.int .i64 (([(⟨1,0⟩:Dc),(⟨2,0⟩:Dc),(⟨2,0⟩:Dc),(⟨2,0⟩:Dc)]:List Dc).length:Int),.int .i64 FC,u,u,u,u,u,u,u,u,u]∧ay H (⟨Iv,2,([(⟨1,0⟩:Dc),(⟨2,0⟩:Dc),(⟨2,0⟩:Dc),(⟨2,0⟩:Dc)]:List Dc).map Ge⟩::⟨JL,3,DX.map CV⟩::⟨I8,3,Ev.map CV⟩::⟨PK,3,Fq.map CV⟩::⟨.ptr Dz DA 0 0,11,[.agg [.int .i64 0,.int .i64 0,.int .i64 0,.int .i64 0,.int .i64 0,.int .i64 0,.int .i64 0,.int .i64 0,.nil,.nil,.nil]]⟩::⟨.ptr LY LZ 0 0,11,[.agg [.int .i64 Ff,.int .i64 Gz,.int .i64 EU,.int .i64 DR,.int .i64 EY,.int .i64 Ej,.int .i64 Fk,.int .i64 EI,JL,I8,PK]]⟩::F)) ⟨_,mQ,_,G0,_,Io,rfl,((hS.za 3).BA 7 [1,0,3,4,5,6] (by decide))⟩ (fun x y92 s H h T6 hi Qx Ho=> ?_)
    obtain ⟨FC,Ff,Gz,EU,DR,EY,Ej,Fk,EI,DX,Ev,Fq⟩:=x;try dsimp only at hi
    obtain ⟨JL,T7,I8,LU,PK,T8,rfl,hS⟩:=hi;simp only [IM] at h;refine Aw fun W4 RD=> ?_;refine AS gC ?_;try simp only [W,EE,Nat.reduceAdd]
    refine AE RD ?_;refine Aw fun QT JG=> ?_;refine AB ?_;simp only [W];refine AR h (fun hc h=> ?_) (fun hc h=> ?_)
    ·refine Ay ?_;refine AE JG ?_;refine Aw fun Te LA=> ?_;refine Ax fun Ya PJ=> ?_;refine Aw fun Vf OW=> ?_;refine AS gC ?_;try simp only [W,EE,Nat.reduceAdd]
     refine Bb 0 hS rfl rfl rfl rfl rfl h (fun HR abQ abR abS Yk h Yl=> ?_) Ko.ne;obtain ⟨abT,Ym,Yn⟩:=hS.elem 0 rfl Yl Yk;try simp only [W,EE,EN,reduceIte,Nat.reduceAdd,Nat.reduceLeDiff,Ym,Yn]
     refine A8 hS rfl rfl fun abU abV H hS=> ?_;try simp only [W]
     refine A9 (a:= .agg [.int .i64 HR.Kind,.int .i64 HR.K]) (y' := .agg [.int .i64 HR.Kind,.int .i64 HR.K]) 0 hS rfl rfl rfl rfl rfl rfl rfl rfl fun H hS=> ?_
     try simp only [W]
     refine AE OW ?_;refine Aw fun VW Pn=> ?_;refine AS gC ?_;try simp only [W,EE,reduceIte,Nat.reduceAdd,Nat.reduceLeDiff,hS.var 0 rfl]
     refine Bh h fun Q9 Q_ h=> ?_;obtain ⟨JZ,F3⟩:=Q9;try dsimp only at h
     refine Py Q_ (hS.BA 7 [6,2,3,4,0,1,5] (by decide)) T7 LU T8 fun NK JH RP PM NM Q2 H hS=> ?_
     try simp only [W]
     refine AE Pn ?_;refine AB ?_;simp only [W];refine AR h (fun hc h=> ?_) (fun hc h=> ?_)
     ·refine Aw fun SX Le=> ?_;refine AS gC ?_;try simp only [W,EE,Nat.reduceAdd]
      refine BF rfl rfl rfl rfl rfl ?_;try simp only [W]
      refine A9 (a:= .agg [.int .i64 0,.int .i64 0,.int .i64 0,.int .i64 0,.int .i64 0,.int .i64 0,.int .i64 0,.int .i64 0,.nil,.nil,.nil]) (y' := .agg [.int .i64 0,.int .i64 0,.int .i64 0,.int .i64 0,.int .i64 0,.int .i64 0,.int .i64 0,.int .i64 0,.nil,.nil,.nil]) 6 hS rfl rfl rfl rfl rfl rfl rfl rfl fun H hS=> ?_
      try simp only [W]
      refine AE Le ?_;refine Az ?_;refine AM PJ ?_;refine AF LA ?_;try obtain rfl:=Option.some.inj h
      obtain rfl:=T6 _ rfl;have h:(some (LR.done ((⟨0,0,0,0,0,0,0,0,[],[],[]⟩:C5),false)):Option (LR (Int×Int×Int×Int×Int×Int×Int×Int×(List Hello)×(List Hello)×(List Hello)) (C5×Bool)))=some (LR.done ((⟨0,0,0,0,0,0,0,0,[],[],[]⟩:C5),false)):=rfl;refine Bl Ho ?_;refine AM Lp ?_;try obtain rfl:=Option.some.inj h
      obtain rfl:=Option.some.inj T5;have h:(some ((⟨0,0,0,0,0,0,0,0,[],[],[]⟩:C5),false):Option (C5×Bool))=some ((⟨0,0,0,0,0,0,0,0,[],[],[]⟩:C5),false):=rfl;refine Bo JQ ?_;refine AF Iu ?_;refine AN C8 (BC rfl rfl (hS.var 6 rfl) rfl (BD rfl rfl)) ?_;try obtain rfl:=Option.some.inj h
      exact hP _ mQ _ mQ _ mQ _ ((((hS.za 3).za 3).za 3).BA 10 [0,1,2] (by decide))
     ·refine Ay ?_;refine AJ PJ ?_;refine AE LA ?_;refine AS gC ?_;try simp only [W,EE,Nat.reduceAdd]
      exact Bj Ho h ⟨_,JH,_,PM,_,Q2,rfl,(hS.BA 7 [5,1,2,3,6,0] (by decide))⟩
    ·refine AA ?_;refine AG JG ?_;try obtain rfl:=Option.some.inj h
     obtain rfl:=T6 _ rfl;have h:(some (LR.next (Ff,Gz,EU,DR,EY,Ej,Fk,EI,DX,Ev,Fq)):Option (LR (Int×Int×Int×Int×Int×Int×Int×Int×(List Hello)×(List Hello)×(List Hello)) (C5×Bool)))=some (LR.next (Ff,Gz,EU,DR,EY,Ej,Fk,EI,DX,Ev,Fq)):=rfl
     refine Bk Ho ?_;refine AK Lp ?_;exact Bn JQ ⟨_,_,_,_,_,_,_,_,_,_,_,(Option.some.inj h).symm,_,T7,_,LU,_,T8,rfl,(hS.BA 6 [1,2,3,4,5] (by decide))⟩
   ·obtain ⟨Et,Fo,FA,DV,FF,D0,EV,E6,F4,HO,HP,rfl,HD,Lz,GZ,Jv,L3,T9,rfl,hS⟩:=hq;replace h:=T5;try dsimp only at h
    refine AE Iu ?_;refine Aw fun Tf Km=> ?_;refine AS gC ?_;try simp only [W,EE,reduceIte,Nat.reduceAdd,Nat.reduceLeDiff,hS.var 4 rfl]
    refine A9 (a:= .agg [.int .i64 Et,.int .i64 Fo,.int .i64 FA,.int .i64 DV,.int .i64 FF,.int .i64 D0,.int .i64 EV,.int .i64 E6,HD,GZ,L3]) (y' := .agg [.int .i64 Et,.int .i64 Fo,.int .i64 FA,.int .i64 DV,.int .i64 FF,.int .i64 D0,.int .i64 EV,.int .i64 E6,HD,GZ,L3]) 3 hS rfl rfl rfl rfl rfl (by simp only [dB,List.all_cons,List.all_nil,Lz.pF,Jv.pF,T9.pF];rfl) rfl rfl fun H hS=> ?_
    try simp only [W]
    refine AE Km ?_;refine Az ?_;refine AN C8 (BC rfl rfl (hS.var 3 rfl) rfl (BD rfl rfl)) ?_;try obtain rfl:=Option.some.inj h
    exact hP _ Lz _ Jv _ T9 _ (hS.BA 5 [0,1,2] (by decide))
theorem Yo {a0:C5} {r:(C5×Bool)} (h:KV a0=some r) {F:List It} {H:J} (hS:ay H (F)) {P:AV→J→Prop} (hP: ∀Kc:AV,bm Kc→ ∀RQ:AV,bm RQ→ ∀Ph:AV,bm Ph→ ∀H',ay H' (⟨Kc,3,r.1.C2.map CV⟩::⟨RQ,3,r.1.C3.map CV⟩::⟨Ph,3,r.1.C4.map CV⟩::F)→P (.aC [.agg [.int .i64 r.1.C0,.int .i64 r.1.CY,.int .i64 r.1.X,.int .i64 r.1.Y,.int .i64 r.1.C1,.int .i64 r.1.CZ,.int .i64 r.1.CW,.int .i64 r.1.CX,Kc,RQ,Ph],.bool r.2]) H'):au C 76 [.agg [.int .i64 a0.C0,.int .i64 a0.CY,.int .i64 a0.X,.int .i64 a0.Y,.int .i64 a0.C1,.int .i64 a0.CZ,.int .i64 a0.CW,.int .i64 a0.CX,.fz (a0.C2.map CV),.fz (a0.C3.map CV),.fz (a0.C4.map CV)]] H P:=by
 refine AW gC (res:=[.cell 2 73,.tmp 3]) (n:=48) rfl rfl rfl rfl fun K0 C8=> ?_;simp only [W,Nat.reduceSub,Nat.reduceAdd,List.replicate];unfold KV at h;refine Aw fun K1 Da=> ?_;refine AS gC ?_;try simp only [W,Nat.reduceAdd]
 refine A7 hS rfl rfl rfl rfl fun C6 C7 H hS=> ?_;try simp only [W]
 refine A8 hS rfl rfl fun Dz DA H hS=> ?_;try simp only [W]
 refine AE Da ?_;refine Aw fun K6 Dx=> ?_;refine Aw fun K7 Ez=> ?_;refine AS gC ?_;try simp only [W,EE,reduceIte,Nat.reduceAdd,Nat.reduceLeDiff,hS.var 1 rfl]
 refine Bh h fun Dr G4 h=> ?_;refine PI G4 hS fun H hS=> ?_;try simp only [W]
 refine AE Ez ?_;refine AB ?_;simp only [W];refine AR h (fun hc h=> ?_) (fun hc h=> ?_)
 ·refine Aw fun K9 Dy=> ?_;refine AS gC ?_;try simp only [W,EE,Nat.reduceAdd]
  refine BF rfl rfl rfl rfl rfl ?_;try simp only [W]
  refine A9 (a:= .agg [.int .i64 0,.int .i64 0,.int .i64 0,.int .i64 0,.int .i64 0,.int .i64 0,.int .i64 0,.int .i64 0,.nil,.nil,.nil]) (y' := .agg [.int .i64 0,.int .i64 0,.int .i64 0,.int .i64 0,.int .i64 0,.int .i64 0,.int .i64 0,.int .i64 0,.nil,.nil,.nil]) 0 hS rfl rfl rfl rfl rfl rfl rfl rfl fun H hS=> ?_
  try simp only [W]
  refine AE Dy ?_;refine Az ?_;refine AF Dx ?_;refine AN C8 (BC rfl rfl (hS.var 0 rfl) rfl (BD rfl rfl)) ?_;try obtain rfl:=Option.some.inj h
  exact hP _ mQ _ mQ _ mQ _ ((((hS.za 3).za 3).za 3).BA 5 [0,1,2] (by decide))
 ·refine Ay ?_;refine AE Dx ?_;refine Aw fun HS DG=> ?_;refine AS gC ?_;try simp only [W,EE,reduceIte,Nat.reduceAdd,Nat.reduceLeDiff,hS.var 1 rfl]
  refine Bh h fun C_ Kq h=> ?_;refine Lf Kq hS fun Fi GJ EJ Fh I4 JK H hS=> ?_;try simp only [W]
  refine A8 hS rfl rfl fun PN PO H hS=> ?_;try simp only [W]
  refine A9 (a:= .agg [.int .i64 C_.C0,.int .i64 C_.CY,.int .i64 C_.X,.int .i64 C_.Y,.int .i64 C_.C1,.int .i64 C_.CZ,.int .i64 C_.CW,.int .i64 C_.CX,Fi,EJ,I4]) (y' := .agg [.int .i64 C_.C0,.int .i64 C_.CY,.int .i64 C_.X,.int .i64 C_.Y,.int .i64 C_.C1,.int .i64 C_.CZ,.int .i64 C_.CW,.int .i64 C_.CX,Fi,EJ,I4]) 0 hS rfl rfl rfl rfl rfl (by simp only [dB,List.all_cons,List.all_nil,GJ.pF,Fh.pF,JK.pF];rfl) rfl rfl fun H hS=> ?_
  try simp only [W]
  refine AE DG ?_;refine Aw fun J9 FK=> ?_;refine AS gC ?_;try simp only [W,EE,reduceIte,Nat.reduceAdd,Nat.reduceLeDiff,hS.var 0 rfl]
  refine BF rfl rfl rfl rfl rfl ?_;try simp only [W]
  refine Bh h fun De T_ h=> ?_;obtain ⟨DK,EW⟩:=De;try dsimp only at h
  refine NH T_ (hS.BA 6 [1,2,3,0,4,5] (by decide)) GJ Fh JK fun HW PP Gm HY Gg Hr H hS=> ?_
  try simp only [W]
  refine A9 (a:= .agg [.int .i64 DK.C0,.int .i64 DK.CY,.int .i64 DK.X,.int .i64 DK.Y,.int .i64 DK.C1,.int .i64 DK.CZ,.int .i64 DK.CW,.int .i64 DK.CX,HW,Gm,Gg]) (y' := .agg [.int .i64 DK.C0,.int .i64 DK.CY,.int .i64 DK.X,.int .i64 DK.Y,.int .i64 DK.C1,.int .i64 DK.CZ,.int .i64 DK.CW,.int .i64 DK.CX,HW,Gm,Gg]) 3 hS rfl rfl rfl rfl rfl (by simp only [dB,List.all_cons,List.all_nil,PP.pF,HY.pF,Hr.pF];rfl) rfl rfl fun H hS=> ?_
  try simp only [W]
  refine AE FK ?_;refine Aw fun Pp IB=> ?_;refine AS gC ?_;try simp only [W,EE,reduceIte,Nat.reduceAdd,Nat.reduceLeDiff,hS.var 3 rfl]
  refine BF rfl rfl rfl rfl rfl ?_;try simp only [W]
  refine Bh h fun Jk I6 h=> ?_;obtain ⟨DY,Qo⟩:=Jk;try dsimp only at h
  refine NH I6 hS PP HY Hr fun I9 PH I2 JJ NU LN H hS=> ?_;try simp only [W]
  refine A9 (a:= .agg [.int .i64 DY.C0,.int .i64 DY.CY,.int .i64 DY.X,.int .i64 DY.Y,.int .i64 DY.C1,.int .i64 DY.CZ,.int .i64 DY.CW,.int .i64 DY.CX,I9,I2,NU]) (y' := .agg [.int .i64 DY.C0,.int .i64 DY.CY,.int .i64 DY.X,.int .i64 DY.Y,.int .i64 DY.C1,.int .i64 DY.CZ,.int .i64 DY.CW,.int .i64 DY.CX,I9,I2,NU]) 3 hS rfl rfl rfl rfl rfl (by simp only [dB,List.all_cons,List.all_nil,PH.pF,JJ.pF,LN.pF];rfl) rfl rfl fun H hS=> ?_
  try simp only [W]
  refine AE IB ?_;refine Aw fun OO Hm=> ?_;refine AS gC ?_;try simp only [W,EE,Nat.reduceAdd,Nat.reduceBEq,hS.var 3 rfl]
  refine A9 (a:= .nil) (y' := .agg [.int .i64 DY.C0,.int .i64 DY.CY,.int .i64 DY.X,.int .i64 DY.Y,.int .i64 DY.C1,.int .i64 DY.CZ,.int .i64 DY.CW,.int .i64 DY.CX,.nil,I2,NU]) 3 hS rfl rfl rfl rfl rfl rfl rfl rfl fun H hS=> ?_
  try simp only [W]
  refine AE Hm ?_;refine Aw fun O5 Hw=> ?_;refine Aw fun Rt Ia=> ?_;refine AS gC ?_;try simp only [W,Nat.reduceAdd]
  refine Bg (el:=([1,2,2,2]:List Int).map (AV.int .i64)) hS rfl rfl rfl rfl rfl rfl rfl fun FL H F8 hS=> ?_;try simp only [W,EE]
  refine Be 0 hS rfl F8 rfl ?_;try simp only [W,Nat.reduceAdd]
  refine AE Ia ?_;obtain ⟨Yp,Yq,Pm⟩:=Option.bind_eq_some_iff.1 h;refine Bm gC (fun s H=> ∃Fk:Int,∃EI:Int,∃DX:Int,∃Fu:Int,∃Gx:Int,∃Ev:Int,∃FO:Int,∃Fq:Int,∃KW:List Hello,∃Fo:List Hello,∃DV:List Hello,Yp=LR.next (Fk,EI,DX,Fu,Gx,Ev,FO,Fq,KW,Fo,DV)∧ ∃PQ:AV,bm PQ∧ ∃PR:AV,bm PR∧ ∃Ly:AV,bm Ly∧s=[u,u,.ptr Dz DA 0 0,u,.ptr PN PO 0 0,u,u,u,u,u,u,u,u,u,u,u,u,u,u,u,u,u,u,u,u,u,u,u,u,u,u,u,u,u,u,u,u,u,u,u,u,u,u,u,u,u,u,u]∧ay H (⟨PQ,3,KW.map CV⟩::⟨PR,3,Fo.map CV⟩::⟨Ly,3,DV.map CV⟩::⟨.ptr Dz DA 0 0,11,[.agg [.int .i64 0,.int .i64 0,.int .i64 0,.int .i64 0,.int .i64 0,.int .i64 0,.int .i64 0,.int .i64 0,.nil,.nil,.nil]]⟩::⟨.ptr PN PO 0 0,11,[.agg [.int .i64 Fk,.int .i64 EI,.int .i64 DX,.int .i64 Fu,.int .i64 Gx,.int .i64 Ev,.int .i64 FO,.int .i64 Fq,PQ,PR,Ly]]⟩::F)) (fun U_ Nz=> ?_) (fun s H hq=> ?_)
  ·refine Ax fun Wy NT=> ?_;refine Bi gC Yq (fun x s H=>match x with|(GQ,E2,Gt,Gu,Gv,Gw,Fs,J0,Ft,J1,Ff,DR)=> ∃PS:AV,bm PS∧ ∃PT:AV,bm PT∧ ∃JD:AV,bm JD∧s=[u,u,.ptr Dz DA 0 0,u,.ptr PN PO 0 0,u,u,u,u,u,u,u,u,u,u,u,u,u,u,u,u,u,u,u,u,u,u,u,FL,.int .i64 (([1,2,2,2]:List Int).length:Int),.int .i64 GQ,u,u,u,u,u,u,u,u,u,u,u,u,u,u,u,u,u]∧ay H (⟨FL,1,([1,2,2,2]:List Int).map (AV.int .i64)⟩::⟨PS,3,J1.map CV⟩::⟨PT,3,Ff.map CV⟩::⟨JD,3,DR.map CV⟩::⟨.ptr Dz DA 0 0,11,[.agg [.int .i64 0,.int .i64 0,.int .i64 0,.int .i64 0,.int .i64 0,.int .i64 0,.int .i64 0,.int .i64 0,.nil,.nil,.nil]]⟩::⟨.ptr PN PO 0 0,11,[.agg [.int .i64 E2,.int .i64 Gt,.int .i64 Gu,.int .i64 Gv,.int .i64 Gw,.int .i64 Fs,.int .i64 J0,.int .i64 Ft,PS,PT,JD]]⟩::F)) ⟨_,mQ,_,JJ,_,LN,rfl,((hS.za 3).BA 8 [1,0,3,4,6,5] (by decide))⟩ (fun x Tk s H h Ua hi Wz LM=> ?_)
   obtain ⟨GQ,E2,Gt,Gu,Gv,Gw,Fs,J0,Ft,J1,Ff,DR⟩:=x;try dsimp only at hi
   obtain ⟨PS,Ub,PT,Uc,JD,Ke,rfl,hS⟩:=hi;simp only [IN] at h;refine Aw fun QI JC=> ?_;refine AS gC ?_;try simp only [W,EE,Nat.reduceAdd]
   refine AE JC ?_;refine Aw fun QS I1=> ?_;refine AB ?_;simp only [W];refine AR h (fun hc h=> ?_) (fun hc h=> ?_)
   ·refine Ay ?_;refine AE I1 ?_;refine Aw fun S9 Kg=> ?_;refine Ax fun T4 JQ=> ?_;refine Aw fun S5 Lp=> ?_;refine AS gC ?_;try simp only [W,EE,Nat.reduceAdd]
    refine Bb 0 hS rfl rfl rfl rfl rfl h (fun JX abW abX abY Yr h Ys=> ?_) F8.ne;obtain ⟨abZ,Yt,Yu⟩:=hS.elem 0 rfl Ys Yr;try simp only [W,EE,Yt,Yu]
    refine AE Lp ?_;refine Aw fun Tl H8=> ?_;refine AS gC ?_;try simp only [W,EE,reduceIte,Nat.reduceAdd,Nat.reduceLeDiff,hS.var 5 rfl]
    refine BF rfl rfl rfl rfl rfl ?_;try simp only [W]
    refine Bh h fun Yv Yw h=> ?_;obtain ⟨DJ,Sn⟩:=Yv;try dsimp only at h
    refine NH Yw (hS.BA 6 [1,2,3,0,4,5] (by decide)) Ub Uc Ke fun PU RR I5 NQ Ls Ki H hS=> ?_
    try simp only [W]
    refine A8 hS rfl rfl fun ab0 ab1 H hS=> ?_;try simp only [W]
    refine A9 (a:= .agg [.int .i64 DJ.C0,.int .i64 DJ.CY,.int .i64 DJ.X,.int .i64 DJ.Y,.int .i64 DJ.C1,.int .i64 DJ.CZ,.int .i64 DJ.CW,.int .i64 DJ.CX,PU,I5,Ls]) (y' := .agg [.int .i64 DJ.C0,.int .i64 DJ.CY,.int .i64 DJ.X,.int .i64 DJ.Y,.int .i64 DJ.C1,.int .i64 DJ.CZ,.int .i64 DJ.CW,.int .i64 DJ.CX,PU,I5,Ls]) 0 hS rfl rfl rfl rfl rfl (by simp only [dB,List.all_cons,List.all_nil,RR.pF,NQ.pF,Ki.pF];rfl) rfl rfl fun H hS=> ?_
    try simp only [W]
    refine AE H8 ?_;refine Aw fun ab2 Ud=> ?_;refine Aw fun ab3 Yx=> ?_;refine AS gC ?_;try simp only [W,Nat.reduceAdd]
    refine AE Yx ?_;refine AB ?_;simp only [W];refine AR h (fun hc h=> ?_) (fun hc h=> ?_)
    ·refine Aw fun W_ RE=> ?_;refine AS gC ?_;try simp only [W,EE,Nat.reduceAdd]
     refine BF rfl rfl rfl rfl rfl ?_;try simp only [W]
     refine A9 (a:= .agg [.int .i64 0,.int .i64 0,.int .i64 0,.int .i64 0,.int .i64 0,.int .i64 0,.int .i64 0,.int .i64 0,.nil,.nil,.nil]) (y' := .agg [.int .i64 0,.int .i64 0,.int .i64 0,.int .i64 0,.int .i64 0,.int .i64 0,.int .i64 0,.int .i64 0,.nil,.nil,.nil]) 5 hS rfl rfl rfl rfl rfl rfl rfl rfl fun H hS=> ?_
     try simp only [W]
     refine AE RE ?_;refine Az ?_;refine AF Ud ?_;refine AM JQ ?_;refine AF Kg ?_;try obtain rfl:=Option.some.inj h
     obtain rfl:=Ua _ rfl;have h:(some (LR.done ((⟨0,0,0,0,0,0,0,0,[],[],[]⟩:C5),false)):Option (LR (Int×Int×Int×Int×Int×Int×Int×Int×(List Hello)×(List Hello)×(List Hello)) (C5×Bool)))=some (LR.done ((⟨0,0,0,0,0,0,0,0,[],[],[]⟩:C5),false)):=rfl;refine Bl LM ?_;refine AM NT ?_;try obtain rfl:=Option.some.inj h
     obtain rfl:=Option.some.inj Pm;have h:(some ((⟨0,0,0,0,0,0,0,0,[],[],[]⟩:C5),false):Option (C5×Bool))=some ((⟨0,0,0,0,0,0,0,0,[],[],[]⟩:C5),false):=rfl;refine Bo Nz ?_;refine AF Hw ?_;refine AN C8 (BC rfl rfl (hS.var 5 rfl) rfl (BD rfl rfl)) ?_;try obtain rfl:=Option.some.inj h
     exact hP _ mQ _ mQ _ mQ _ ((((hS.za 3).za 3).za 3).BA 10 [0,1,2] (by decide))
    ·refine Ay ?_;refine AE Ud ?_;refine AS gC ?_;try simp only [W,EE,reduceIte,Nat.reduceAdd,Nat.reduceLeDiff,hS.var 0 rfl]
     refine A9 (a:= .agg [.int .i64 DJ.C0,.int .i64 DJ.CY,.int .i64 DJ.X,.int .i64 DJ.Y,.int .i64 DJ.C1,.int .i64 DJ.CZ,.int .i64 DJ.CW,.int .i64 DJ.CX,PU,I5,Ls]) (y' := .agg [.int .i64 DJ.C0,.int .i64 DJ.CY,.int .i64 DJ.X,.int .i64 DJ.Y,.int .i64 DJ.C1,.int .i64 DJ.CZ,.int .i64 DJ.CW,.int .i64 DJ.CX,PU,I5,Ls]) 6 hS rfl rfl rfl rfl rfl (by simp only [dB,List.all_cons,List.all_nil,RR.pF,NQ.pF,Ki.pF];rfl) rfl rfl fun H hS=> ?_
     try simp only [W]
     refine AJ JQ ?_;refine AE Kg ?_;refine AS gC ?_;try simp only [W,EE,Nat.reduceAdd]
     exact Bj LM h ⟨_,RR,_,NQ,_,Ki,rfl,(hS.BA 7 [4,1,2,3,5,6] (by decide))⟩
   ·refine AA ?_;refine AG I1 ?_;try obtain rfl:=Option.some.inj h
    obtain rfl:=Ua _ rfl;have h:(some (LR.next (E2,Gt,Gu,Gv,Gw,Fs,J0,Ft,J1,Ff,DR)):Option (LR (Int×Int×Int×Int×Int×Int×Int×Int×(List Hello)×(List Hello)×(List Hello)) (C5×Bool)))=some (LR.next (E2,Gt,Gu,Gv,Gw,Fs,J0,Ft,J1,Ff,DR)):=rfl
    refine Bk LM ?_;refine AK NT ?_;exact Bn Nz ⟨_,_,_,_,_,_,_,_,_,_,_,(Option.some.inj h).symm,_,Ub,_,Uc,_,Ke,rfl,(hS.BA 6 [1,2,3,4,5] (by decide))⟩
  ·obtain ⟨Fk,EI,DX,Fu,Gx,Ev,FO,Fq,KW,Fo,DV,rfl,PQ,Yy,PR,Yz,Ly,NL,rfl,hS⟩:=hq;replace h:=Pm;try dsimp only at h
   refine AE Hw ?_;refine Aw fun ab4 YA=> ?_;refine AS gC ?_;try simp only [W,EE,reduceIte,Nat.reduceAdd,Nat.reduceLeDiff,Nat.reduceBEq,hS.var 4 rfl,List.contains_cons,Nat.reduceBEq,Bool.or_self]
   refine B9 (bO:=[[.sc,.sc,.sc,.sc,.sc,.sc,.sc,.sc,.sl [.sc,.sc,.sc],.sl [.sc,.sc,.sc],.sl [.sc,.sc,.sc]]]) (ys:=[.agg [.int .i64 Fk,.int .i64 EI,.int .i64 DX,.int .i64 Fu,.int .i64 Gx,.int .i64 Ev,.int .i64 FO,.int .i64 Fq,.fz (KW.map CV),.fz (Fo.map CV),.fz (DV.map CV)]]) h rfl (BW (BR (zk rfl (zk rfl (zk rfl (zk rfl (zk rfl (zk rfl (zk rfl (zk rfl (zk (BT hS 0 rfl Yy (fun _=>rfl)) (zk (BT hS 1 rfl Yz (fun _=>rfl)) (zk (BT hS 2 rfl NL (fun _=>rfl)) (BQ _))))))))))))) BV) fun D2 Qy h=>⟨.agg [.int .i64 D2.C0,.int .i64 D2.CY,.int .i64 D2.X,.int .i64 D2.Y,.int .i64 D2.C1,.int .i64 D2.CZ,.int .i64 D2.CW,.int .i64 D2.CX,.own 3 (D2.C2.map CV),.own 3 (D2.C3.map CV),.own 3 (D2.C4.map CV)],Lf Qy (ay.nil _) fun Pb Lv YB RS Pc Lw H hS=>B1 rfl (B0 (By rfl (By rfl (By rfl (By rfl (By rfl (By rfl (By rfl (By rfl (Bz 0 hS rfl Lv (fun _ _=>by simp [aX,aO,cg,dl,CV]) fun H hS=>Bz 0 hS rfl RS (fun _ _=>by simp [aX,aO,cg,dl,CV]) fun H hS=>Bz 0 hS rfl Lw (fun _ _=>by simp [aX,aO,cg,dl,CV]) fun H hS=>Bx (BX rfl))))))))))),(Cd (Cc rfl (Cc rfl (Cc rfl (Cc rfl (Cc rfl (Cc rfl (Cc rfl (Cc rfl (Cc (Ca _ (fun _=>rfl) _) (Cc (Ca _ (fun _=>rfl) _) (Cc (Ca _ (fun _=>rfl) _) Cb)))))))))))),?_⟩
   refine B6 ?_;refine B5 ?_;refine B3 (fun _=>rfl) ?_;refine B3 (fun _=>rfl) ?_;refine B3 (fun _=>rfl) ?_;refine B3 (fun _=>rfl) ?_;refine B3 (fun _=>rfl) ?_;refine B3 (fun _=>rfl) ?_;refine B3 (fun _=>rfl) ?_;refine B3 (fun _=>rfl) ?_;refine B4 hS (fun _ _=>rfl) (fun _=>rfl) fun N4 H N5 hS=> ?_;refine B4 hS (fun _ _=>rfl) (fun _=>rfl) fun LB H Kn hS=> ?_;refine B4 hS (fun _ _=>rfl) (fun _=>rfl) fun N6 H N7 hS=> ?_;refine B2 ?_;refine B2 ?_;try simp only [List.headD_cons]
   try simp only [W]
   refine A9 (a:= .agg [.int .i64 D2.C0,.int .i64 D2.CY,.int .i64 D2.X,.int .i64 D2.Y,.int .i64 D2.C1,.int .i64 D2.CZ,.int .i64 D2.CW,.int .i64 D2.CX,N4,LB,N6]) (y' := .agg [.int .i64 D2.C0,.int .i64 D2.CY,.int .i64 D2.X,.int .i64 D2.Y,.int .i64 D2.C1,.int .i64 D2.CZ,.int .i64 D2.CW,.int .i64 D2.CX,N4,LB,N6]) 6 hS rfl rfl rfl rfl rfl (by simp only [dB,List.all_cons,List.all_nil,N5.pF,Kn.pF,N7.pF];rfl) rfl rfl fun H hS=> ?_
   try simp only [W]
   refine AE YA ?_;refine Az ?_;refine AN C8 (BC rfl rfl (hS.var 6 rfl) rfl (BD rfl rfl)) ?_;try obtain rfl:=Option.some.inj h
   exact hP _ N5 _ Kn _ N7 _ (hS.BA 8 [2,1,0] (by decide))
theorem YC {a0:C5} {r:(Bool×Bool)} (h:KX a0=some r) {F:List It} {H:J} (hS:ay H (F)) {P:AV→J→Prop} (hP: ∀H',ay H' (F)→P (.aC [.bool r.1,.bool r.2]) H'):au C 77 [.agg [.int .i64 a0.C0,.int .i64 a0.CY,.int .i64 a0.X,.int .i64 a0.Y,.int .i64 a0.C1,.int .i64 a0.CZ,.int .i64 a0.CW,.int .i64 a0.CX,.fz (a0.C2.map CV),.fz (a0.C3.map CV),.fz (a0.C4.map CV)]] H P:=by
 refine AW gC (res:=[.tmp 2,.tmp 3]) (n:=29) rfl rfl rfl rfl fun K0 C8=> ?_;simp only [W,Nat.reduceSub,Nat.reduceAdd,List.replicate];unfold KX at h;refine Aw fun K1 Da=> ?_;refine AS gC ?_;try simp only [W,Nat.reduceAdd]
 refine A7 hS rfl rfl rfl rfl fun C6 C7 H hS=> ?_;try simp only [W]
 refine AE Da ?_;refine Aw fun K4 Df=> ?_;refine Aw fun K5 D7=> ?_;refine AS gC ?_;try simp only [W,EE,reduceIte,Nat.reduceAdd,Nat.reduceLeDiff,hS.var 0 rfl]
 refine Bh h fun Fb Ii h=> ?_;refine NS Ii hS fun H hS=> ?_;try simp only [W]
 refine AE D7 ?_;refine AB ?_;simp only [W];refine AR h (fun hc h=> ?_) (fun hc h=> ?_)
 ·refine Aw fun K7 Ez=> ?_;refine AS gC ?_;try simp only [W,Nat.reduceAdd]
  refine AE Ez ?_;refine Az ?_;refine AF Df ?_;refine AP C8 rfl rfl ?_;try obtain rfl:=Option.some.inj h
  exact hP _ (hS.BA 1 [] (by decide))
 ·refine Ay ?_;refine AE Df ?_;refine Aw fun K8 Dp=> ?_;refine AS gC ?_;try simp only [W,EE,Nat.reduceAdd,Nat.reduceBEq,hS.var 0 rfl]
  refine BE h (fun hc h=> ?_) (fun hc h=> ?_)
  ·try simp only [W,EE,reduceIte,Nat.reduceAdd,Nat.reduceBEq,hS.var 0 rfl,hc]
   refine BE h (fun hc h=> ?_) (fun hc h=> ?_)
   ·try simp only [W,EE,reduceIte,Nat.reduceAdd,Nat.reduceBEq,hS.var 0 rfl,hc]
    refine BE h (fun hc h=> ?_) (fun hc h=> ?_)
    ·try simp only [W,EE,reduceIte,Nat.reduceAdd,Nat.reduceBEq,hS.var 0 rfl,hc]
     refine AE Dp ?_;refine Az ?_;refine AP C8 rfl rfl ?_;try obtain rfl:=Option.some.inj h
     exact hP _ (hS.BA 1 [] (by decide))
    ·try simp only [W,hc]
     refine AE Dp ?_;refine Az ?_;refine AP C8 rfl rfl ?_;try obtain rfl:=Option.some.inj h
     exact hP _ (hS.BA 1 [] (by decide))
   ·try simp only [W,hc]
    refine AE Dp ?_;refine Az ?_;refine AP C8 rfl rfl ?_;try obtain rfl:=Option.some.inj h
    exact hP _ (hS.BA 1 [] (by decide))
  ·try simp only [W,hc]
   refine AE Dp ?_;refine Az ?_;refine AP C8 rfl rfl ?_;try obtain rfl:=Option.some.inj h
   exact hP _ (hS.BA 1 [] (by decide))
theorem YD {a0:C5} {r:(Bool×Bool)} (h:KY a0=some r) {F:List It} {H:J} (hS:ay H (F)) {P:AV→J→Prop} (hP: ∀H',ay H' (F)→P (.aC [.bool r.1,.bool r.2]) H'):au C 78 [.agg [.int .i64 a0.C0,.int .i64 a0.CY,.int .i64 a0.X,.int .i64 a0.Y,.int .i64 a0.C1,.int .i64 a0.CZ,.int .i64 a0.CW,.int .i64 a0.CX,.fz (a0.C2.map CV),.fz (a0.C3.map CV),.fz (a0.C4.map CV)]] H P:=by
 refine AW gC (res:=[.tmp 2,.tmp 3]) (n:=29) rfl rfl rfl rfl fun K0 C8=> ?_;simp only [W,Nat.reduceSub,Nat.reduceAdd,List.replicate];unfold KY at h;refine Aw fun K1 Da=> ?_;refine AS gC ?_;try simp only [W,Nat.reduceAdd]
 refine A7 hS rfl rfl rfl rfl fun C6 C7 H hS=> ?_;try simp only [W]
 refine AE Da ?_;refine Aw fun K4 Df=> ?_;refine Aw fun K5 D7=> ?_;refine AS gC ?_;try simp only [W,EE,reduceIte,Nat.reduceAdd,Nat.reduceLeDiff,hS.var 0 rfl]
 refine Bh h fun Fb Ii h=> ?_;refine PI Ii hS fun H hS=> ?_;try simp only [W]
 refine AE D7 ?_;refine AB ?_;simp only [W];refine AR h (fun hc h=> ?_) (fun hc h=> ?_)
 ·refine Aw fun K7 Ez=> ?_;refine AS gC ?_;try simp only [W,Nat.reduceAdd]
  refine AE Ez ?_;refine Az ?_;refine AF Df ?_;refine AP C8 rfl rfl ?_;try obtain rfl:=Option.some.inj h
  exact hP _ (hS.BA 1 [] (by decide))
 ·refine Ay ?_;refine AE Df ?_;refine Aw fun K8 Dp=> ?_;refine AS gC ?_;try simp only [W,EE,Nat.reduceAdd,Nat.reduceBEq,hS.var 0 rfl]
  refine BE h (fun hc h=> ?_) (fun hc h=> ?_)
  ·try simp only [W,EE,reduceIte,Nat.reduceAdd,Nat.reduceBEq,hS.var 0 rfl,hc]
   refine BE h (fun hc h=> ?_) (fun hc h=> ?_)
   ·try simp only [W,EE,reduceIte,Nat.reduceAdd,Nat.reduceBEq,hS.var 0 rfl,hc]
    refine BE h (fun hc h=> ?_) (fun hc h=> ?_)
    ·try simp only [W,EE,reduceIte,Nat.reduceAdd,Nat.reduceBEq,hS.var 0 rfl,hc]
     refine AE Dp ?_;refine Az ?_;refine AP C8 rfl rfl ?_;try obtain rfl:=Option.some.inj h
     exact hP _ (hS.BA 1 [] (by decide))
    ·try simp only [W,hc]
     refine AE Dp ?_;refine Az ?_;refine AP C8 rfl rfl ?_;try obtain rfl:=Option.some.inj h
     exact hP _ (hS.BA 1 [] (by decide))
   ·try simp only [W,hc]
    refine AE Dp ?_;refine Az ?_;refine AP C8 rfl rfl ?_;try obtain rfl:=Option.some.inj h
    exact hP _ (hS.BA 1 [] (by decide))
  ·try simp only [W,hc]
   refine AE Dp ?_;refine Az ?_;refine AP C8 rfl rfl ?_;try obtain rfl:=Option.some.inj h
   exact hP _ (hS.BA 1 [] (by decide))
theorem YE {a0:List Int} {r:(List Hello×Hello)} (h:KZ a0=some r) {F:List It} {H:J} (hS:ay H (F)) {P:AV→J→Prop} (hP: ∀G7:AV,bm G7→ ∀H',ay H' (⟨G7,3,r.1.map CV⟩::F)→P (.aC [G7,.agg [.int .i64 r.2.Kind,.int .i64 r.2.X,.int .i64 r.2.Y]]) H'):au C 79 [.fz (a0.map (AV.int .u8))] H P:=by
 refine AW gC (res:=[.tmp 2,.cell 3 87]) (n:=33) rfl rfl rfl rfl fun K0 C8=> ?_;simp only [W,Nat.reduceSub,Nat.reduceAdd,List.replicate];unfold KZ at h;refine Aw fun K1 Da=> ?_;refine AS gC ?_;try simp only [W,Nat.reduceAdd]
 refine A8 hS rfl rfl fun C6 C7 H hS=> ?_;try simp only [W]
 refine AE Da ?_;refine Aw fun K4 Df=> ?_;refine AS gC ?_;try simp only [W,EE,Nat.reduceAdd]
 refine BF rfl rfl rfl rfl rfl ?_;try simp only [W]
 refine A7 hS rfl rfl rfl rfl fun FW FX H hS=> ?_;try simp only [W]
 refine AE Df ?_;refine Aw fun K7 Ez=> ?_;refine AS gC ?_;try simp only [W,Nat.reduceAdd]
 refine Bh h fun Dr G4 h=> ?_;obtain ⟨Db,DP⟩:=Dr;try dsimp only at h
 refine Q4 G4 hS fun v11 Fw EX EP FM Gb H hS=> ?_;try simp only [W]
 refine A8 hS rfl rfl fun N8 N9 H hS=> ?_;try simp only [W]
 refine A9 (a:= .agg [.int .i64 Db.C0,.int .i64 Db.CY,.int .i64 Db.X,.int .i64 Db.Y,.int .i64 Db.C1,.int .i64 Db.CZ,.int .i64 Db.CW,.int .i64 Db.CX,v11,EX,FM]) (y' := .agg [.int .i64 Db.C0,.int .i64 Db.CY,.int .i64 Db.X,.int .i64 Db.Y,.int .i64 Db.C1,.int .i64 Db.CZ,.int .i64 Db.CW,.int .i64 Db.CX,v11,EX,FM]) 0 hS rfl rfl rfl rfl rfl (by simp only [dB,List.all_cons,List.all_nil,Fw.pF,EP.pF,Gb.pF];rfl) rfl rfl fun H hS=> ?_
 try simp only [W]
 refine AE Ez ?_;refine Aw fun Hl Es=> ?_;refine AS gC ?_;try simp only [W,EE,Nat.reduceAdd]
 refine BF rfl rfl rfl rfl rfl ?_;try simp only [W]
 refine A8 hS rfl rfl fun PV PW H hS=> ?_;try simp only [W]
 refine A9 (a:= .agg [.int .i64 3,.int .i64 101,.int .i64 1]) (y' := .agg [.int .i64 3,.int .i64 101,.int .i64 1]) 0 hS rfl rfl rfl rfl rfl rfl rfl rfl fun H hS=> ?_
 try simp only [W]
 refine AE Es ?_;refine Aw fun Ik E0=> ?_;refine Aw fun Nv GY=> ?_;obtain ⟨Rj,h,Rk⟩:=Option.bind_eq_some_iff.1 h;refine Bm gC (fun s H=> ∃DL:Bool,∃D1:List Int,∃Eu:Int,∃D5:Int,Rj=(DL,D1,Eu,D5)∧s=[u,u,u,.ptr C6 C7 0 0,.ptr FW FX 0 0,.ptr N8 N9 0 0,.ptr PV PW 0 0,u,u,u,u,u,u,u,u,u,u,u,u,u,.bool DL,u,u,u,u,u,u,u,u,u,u,u,u]∧ay H (⟨v11,3,Db.C2.map CV⟩::⟨EX,3,Db.C3.map CV⟩::⟨FM,3,Db.C4.map CV⟩::⟨.ptr C6 C7 0 0,3,[.agg [.int .i64 0,.int .i64 0,.int .i64 0]]⟩::⟨.ptr FW FX 0 0,3,[.agg [.fz (D1.map (AV.int .u8)),.int .i64 Eu,.int .u64 D5]]⟩::⟨.ptr N8 N9 0 0,11,[.agg [.int .i64 Db.C0,.int .i64 Db.CY,.int .i64 Db.X,.int .i64 Db.Y,.int .i64 Db.C1,.int .i64 Db.CZ,.int .i64 Db.CW,.int .i64 Db.CX,v11,EX,FM]]⟩::⟨.ptr PV PW 0 0,3,[.agg [.int .i64 3,.int .i64 101,.int .i64 1]]⟩::F)) (fun Pp IB=> ?_) (fun s H hq=> ?_)
 ·refine Aw fun Ps H_=> ?_;refine AS gC ?_;try simp only [W,EE,Nat.reduceAdd,Nat.reduceBEq,hS.var 1 rfl]
  refine Be 3 hS rfl EP rfl ?_;try simp only [W,EE]
  refine BE h (fun hc h=> ?_) (fun hc h=> ?_)
  ·try simp only [W,hc]
   refine Bh h fun DY YF h=> ?_;obtain ⟨Qo,Oz⟩:=DY;try dsimp only at h
   refine Qq YF (hS.BA 7 [5,0,1,2,3,4,6] (by decide)) fun H hS=> ?_
   try simp only [W,reduceIte]
   refine AE H_ ?_;refine AD ?_;exact Bn IB ⟨_,_,_,_,(Option.some.inj h).symm,rfl,(hS.BA 7 [3,4,5,6,0,2,1] (by decide))⟩
  ·try simp only [W,hc]
   refine AE H_ ?_;refine AD ?_;exact Bn IB ⟨_,_,_,_,(Option.some.inj h).symm,rfl,(hS.BA 7 [2,3,4,6,5,1,0] (by decide))⟩
 ·obtain ⟨DL,D1,Eu,D5,rfl,rfl,hS⟩:=hq;replace h:=Rk;try dsimp only at h
  refine AE GY ?_;obtain ⟨YG,h,YH⟩:=Option.bind_eq_some_iff.1 h;refine Bm gC (fun s H=> ∃Dt:Int,∃F2:Int,∃Fe:Int,YG=(Dt,F2,Fe)∧s=[u,u,u,.ptr C6 C7 0 0,u,.ptr N8 N9 0 0,.ptr PV PW 0 0,u,u,u,u,u,u,u,u,u,u,u,u,u,u,u,u,u,u,u,u,u,u,u,u,u,u]∧ay H (⟨v11,3,Db.C2.map CV⟩::⟨EX,3,Db.C3.map CV⟩::⟨FM,3,Db.C4.map CV⟩::⟨.ptr C6 C7 0 0,3,[.agg [.int .i64 0,.int .i64 0,.int .i64 0]]⟩::⟨.ptr N8 N9 0 0,11,[.agg [.int .i64 Db.C0,.int .i64 Db.CY,.int .i64 Db.X,.int .i64 Db.Y,.int .i64 Db.C1,.int .i64 Db.CZ,.int .i64 Db.CW,.int .i64 Db.CX,v11,EX,FM]]⟩::⟨.ptr PV PW 0 0,3,[.agg [.int .i64 Dt,.int .i64 F2,.int .i64 Fe]]⟩::F)) (fun OO Hm=> ?_) (fun s H hq=> ?_)
  ·refine Aw fun O5 Hw=> ?_;refine AB ?_;simp only [W];refine AR h (fun hc h=> ?_) (fun hc h=> ?_)
   ·refine BG gC [(6,[0,1]),(9,[])] (by kernel_rfl) rfl (by kernel_rfl) ?_
    try simp only [W,EE,reduceIte,Nat.reduceAdd,Nat.reduceBEq,hS.var 5 rfl,iC,lh,Nat.reduceEqDiff]
    refine Be 1 hS rfl EP rfl ?_;try simp only [W]
    refine Bh h fun Eg QK h=> ?_;obtain ⟨So,Gd⟩:=Eg;try dsimp only at h
    refine GB QK (hS.BA 7 [4,0,1,2,3,5,6] (by decide)) fun H hS=> ?_
    refine BH ?_;refine BI (by first|rfl|(simp [aL,W,EE,hS.var 5 rfl];done)) ?_
    refine BI (by first|rfl|(simp [aL,W,EE,bN,jl,aG,AV.cells,hS.var 5 rfl];done)) ?_
    refine BJ ?_;try simp only [W,EE]
    refine Bb 2 hS rfl rfl rfl rfl rfl h (fun F6 ab5 ab6 ab7 RB h YI=> ?_) EP.ne;obtain ⟨ab8,YJ,YK⟩:=hS.elem 2 rfl YI RB;try simp only [W,EE,EN,reduceIte,Nat.reduceAdd,Nat.reduceLeDiff,YJ,YK]
    refine A9 (a:= .agg [.int .i64 F6.Kind,.int .i64 F6.X,.int .i64 F6.Y]) (y' := .agg [.int .i64 F6.Kind,.int .i64 F6.X,.int .i64 F6.Y]) 6 hS rfl rfl rfl rfl rfl rfl rfl rfl fun H hS=> ?_
    try simp only [W]
    refine AE Hw ?_;refine AD ?_;exact Bn Hm ⟨_,_,_,(Option.some.inj h).symm,rfl,(hS.BA 7 [1,2,3,4,5,6] (by decide))⟩
   ·refine Ay ?_;refine AE Hw ?_;refine AD ?_;exact Bn Hm ⟨_,_,_,(Option.some.inj h).symm,rfl,(hS.BA 7 [0,1,2,3,5,6] (by decide))⟩
  ·obtain ⟨Dt,F2,Fe,rfl,rfl,hS⟩:=hq;replace h:=YH;try dsimp only at h
   refine AE E0 ?_;refine Aw fun OQ Il=> ?_;refine BG gC [(4,[])] (by kernel_rfl) rfl (by kernel_rfl) ?_
   try simp only [W,EE,reduceIte,Nat.reduceAdd,Nat.reduceLeDiff,Nat.reduceBEq,hS.var 4 rfl,hS.var 5 rfl,iC,lh,Nat.reduceEqDiff]
   refine A9 (a:= .agg [.int .i64 Dt,.int .i64 F2,.int .i64 Fe]) (y' := .agg [.int .i64 Dt,.int .i64 F2,.int .i64 Fe]) 3 hS rfl rfl rfl rfl rfl rfl rfl rfl fun H hS=> ?_
   try simp only [W]
   refine AE Il ?_;refine Az ?_;refine AN C8 (BD rfl (BC rfl rfl (hS.var 3 rfl) rfl rfl)) ?_;try obtain rfl:=Option.some.inj h
   exact hP _ EP _ (hS.BA 6 [1] (by decide))
theorem YL {a0:List Hello} {a1:Hello} {r:(Int)} (h:OB a0 a1=some r) {F:List It} {H:J} (hS:ay H (F)) {P:AV→J→Prop} (hP: ∀H',ay H' (F)→P (.int .i64 r) H'):au C 306 [.fz (a0.map CV),.agg [.int .i64 a1.Kind,.int .i64 a1.X,.int .i64 a1.Y]] H P:=by
 refine AW gC (res:=[.tmp 4]) (n:=19) rfl rfl rfl rfl fun K0 C8=> ?_;simp only [W,Nat.reduceSub,Nat.reduceAdd,List.replicate];unfold OB at h;refine Aw fun K1 Da=> ?_;refine AS gC ?_;try simp only [W,Nat.reduceAdd]
 refine A7 hS rfl rfl rfl rfl fun C6 C7 H hS=> ?_;try simp only [W]
 refine AE Da ?_;refine Aw fun K4 Df=> ?_;refine Aw fun K5 D7=> ?_;refine AS gC ?_;try simp only [W,EE,Nat.reduceAdd]
 refine AE D7 ?_;obtain ⟨Kt,YM,Lg⟩:=Option.bind_eq_some_iff.1 h;refine Bm gC (fun s H=>Kt=LR.next ()∧s=[u,u,u,u,u,u,u,u,u,u,u,u,u,u,u,u,u,u,u]∧ay H (F)) (fun K9 Dy=> ?_) (fun s H hq=> ?_)
 ·refine Ax fun HS DG=> ?_;refine Bi gC YM (fun x s H=>s=[.fz (a0.map CV),u,u,.ptr C6 C7 0 0,u,u,u,.int .i64 (a0.length:Int),.int .i64 x,u,u,u,u,u,u,u,u,u,u]∧ay H (⟨.ptr C6 C7 0 0,3,[.agg [.int .i64 a1.Kind,.int .i64 a1.X,.int .i64 a1.Y]]⟩::F)) ⟨rfl,hS⟩ (fun Ew OY s H h Ue hi Js Fv=> ?_)
  skip
  try dsimp only at hi
  obtain ⟨rfl,hS⟩:=hi;simp only [OA] at h;refine Aw fun J2 FI=> ?_;refine AS gC ?_;try simp only [W,EE,Nat.reduceAdd]
  refine AE FI ?_;refine Aw fun Hk Ek=> ?_;refine AB ?_;simp only [W];refine AR h (fun hc h=> ?_) (fun hc h=> ?_)
  ·refine Ay ?_;refine AE Ek ?_;refine Aw fun GX Ea=> ?_;refine Ax fun Ij EB=> ?_;refine Aw fun Hl Es=> ?_;refine AS gC ?_;try simp only [W,Nat.reduceAdd]
   refine AE Es ?_;refine Aw fun J9 FK=> ?_;refine AU gC (by kernel_rfl) ?_
   try simp only [W,EE,reduceIte,Nat.reduceAdd,Nat.reduceLeDiff,hS.var 0 rfl]
   refine Ba rfl rfl rfl (fun _=>rfl) h fun De T_ h=> ?_;try simp only [W,EE,EN,reduceIte,Nat.reduceAdd,Nat.reduceLeDiff,Bool.false_eq_true]
   refine AE FK ?_;refine AB ?_;simp only [W];refine AR h (fun hc h=> ?_) (fun hc h=> ?_)
   ·refine Aw fun Ik E0=> ?_;refine AS gC ?_;try simp only [W,Nat.reduceAdd]
    refine AE E0 ?_;refine Az ?_;refine AM EB ?_;refine AF Ea ?_;try obtain rfl:=Option.some.inj h
    obtain rfl:=Ue _ rfl;have h:(some (LR.done Ew):Option (LR Unit (Int)))=some (LR.done Ew):=rfl;refine Bl Fv ?_;refine AM DG ?_;try obtain rfl:=Option.some.inj h
    obtain rfl:=Option.some.inj Lg;have h:(some Ew:Option (Int))=some Ew:=rfl;refine Bo Dy ?_;refine AF Df ?_;refine AO C8 rfl ?_;try obtain rfl:=Option.some.inj h
    exact hP _ (hS.BA 1 [] (by decide))
   ·refine Ay ?_;refine AJ EB ?_;refine AE Ea ?_;refine AS gC ?_;try simp only [W,EE,Nat.reduceAdd]
    exact Bj Fv h ⟨rfl,hS⟩
  ·refine AA ?_;refine AG Ek ?_;try obtain rfl:=Option.some.inj h
   obtain rfl:=Ue _ rfl;have h:(some (LR.next ()):Option (LR Unit (Int)))=some (LR.next ()):=rfl
   refine Bk Fv ?_;refine AK DG ?_;exact Bn Dy ⟨(Option.some.inj h).symm,rfl,(hS.BA 1 [] (by decide))⟩
 ·obtain ⟨rfl,rfl,hS⟩:=hq;replace h:=Lg;try dsimp only at h
  refine AE Df ?_;refine Aw fun Pk IA=> ?_;refine AS gC ?_;try simp only [W,Nat.reduceAdd]
  refine AE IA ?_;refine Az ?_;refine AO C8 rfl ?_;try obtain rfl:=Option.some.inj h
  exact hP _ hS
theorem YN {a0:List Hello} {a1:Hello} {r:(Bool)} (h:Nk a0 a1=some r) {F:List It} {H:J} (hS:ay H (F)) {P:AV→J→Prop} (hP: ∀H',ay H' (F)→P (.bool r) H'):au C 222 [.fz (a0.map CV),.agg [.int .i64 a1.Kind,.int .i64 a1.X,.int .i64 a1.Y]] H P:=by
 refine AW gC (res:=[.tmp 4]) (n:=9) rfl rfl rfl rfl fun K0 C8=> ?_;simp only [W,Nat.reduceSub,Nat.reduceAdd,List.replicate];unfold Nk at h;refine Aw fun K1 Da=> ?_;refine AS gC ?_;try simp only [W,Nat.reduceAdd]
 refine A7 hS rfl rfl rfl rfl fun C6 C7 H hS=> ?_;try simp only [W]
 refine AE Da ?_;refine Aw fun K4 Df=> ?_;refine AS gC ?_;try simp only [W,EE,reduceIte,Nat.reduceAdd,Nat.reduceLeDiff,hS.var 0 rfl]
 refine Bh h fun DQ H7 h=> ?_;refine YL H7 hS fun H hS=> ?_;try simp only [W,EE]
 refine AE Df ?_;refine Az ?_;refine AO C8 rfl ?_;try obtain rfl:=Option.some.inj h
 exact hP _ (hS.BA 1 [] (by decide))
theorem YO {a0:List Hello} {a1:Hello} {r:(Bool×Bool)} (h:Jq a0 a1=some r) {F:List It} {H:J} (hS:ay H (F)) {P:AV→J→Prop} (hP: ∀H',ay H' (F)→P (.aC [.bool r.1,.bool r.2]) H'):au C 80 [.fz (a0.map CV),.agg [.int .i64 a1.Kind,.int .i64 a1.X,.int .i64 a1.Y]] H P:=by
 refine AW gC (res:=[.tmp 4,.tmp 5]) (n:=12) rfl rfl rfl rfl fun K0 C8=> ?_;simp only [W,Nat.reduceSub,Nat.reduceAdd,List.replicate];unfold Jq at h;refine Aw fun K1 Da=> ?_;refine AS gC ?_;try simp only [W,Nat.reduceAdd]
 refine A7 hS rfl rfl rfl rfl fun C6 C7 H hS=> ?_;try simp only [W]
 refine AE Da ?_;refine Aw fun K4 Df=> ?_;refine Aw fun K5 D7=> ?_;refine AS gC ?_;try simp only [W,EE,Nat.reduceAdd]
 refine AE D7 ?_;refine AB ?_;simp only [W];refine AR h (fun hc h=> ?_) (fun hc h=> ?_)
 ·refine Aw fun K6 Dx=> ?_;refine AS gC ?_;try simp only [W,Nat.reduceAdd]
  refine AE Dx ?_;refine Az ?_;refine AF Df ?_;refine AP C8 rfl rfl ?_;try obtain rfl:=Option.some.inj h
  exact hP _ (hS.BA 1 [] (by decide))
 ·refine Ay ?_;refine AE Df ?_;refine Aw fun K7 Ez=> ?_;refine AS gC ?_;try simp only [W,EE,reduceIte,Nat.reduceAdd,Nat.reduceLeDiff,hS.var 0 rfl]
  refine Bh h fun Dr G4 h=> ?_;refine YN G4 hS fun H hS=> ?_;try simp only [W]
  refine AE Ez ?_;refine Az ?_;refine AP C8 rfl rfl ?_;try obtain rfl:=Option.some.inj h
  exact hP _ (hS.BA 1 [] (by decide))
theorem YP {a0:List Hello} {a1:Hello} {r:(Bool×Bool)} (h:K_ a0 a1=some r) {F:List It} {H:J} (hS:ay H (F)) {P:AV→J→Prop} (hP: ∀H',ay H' (F)→P (.aC [.bool r.1,.bool r.2]) H'):au C 81 [.fz (a0.map CV),.agg [.int .i64 a1.Kind,.int .i64 a1.X,.int .i64 a1.Y]] H P:=by
 refine AW gC (res:=[.tmp 4,.tmp 5]) (n:=21) rfl rfl rfl rfl fun K0 C8=> ?_;simp only [W,Nat.reduceSub,Nat.reduceAdd,List.replicate];unfold K_ at h;refine Aw fun K1 Da=> ?_;refine AS gC ?_;try simp only [W,Nat.reduceAdd]
 refine A7 hS rfl rfl rfl rfl fun C6 C7 H hS=> ?_;try simp only [W]
 refine AE Da ?_;refine Aw fun K4 Df=> ?_;refine Aw fun K5 D7=> ?_;refine AS gC ?_;try simp only [W,EE,Nat.reduceAdd]
 refine AE D7 ?_;refine AB ?_;simp only [W];refine AR h (fun hc h=> ?_) (fun hc h=> ?_)
 ·refine Aw fun K6 Dx=> ?_;refine AS gC ?_;try simp only [W,Nat.reduceAdd]
  refine AE Dx ?_;refine Az ?_;refine AF Df ?_;refine AP C8 rfl rfl ?_;try obtain rfl:=Option.some.inj h
  exact hP _ (hS.BA 1 [] (by decide))
 ·refine Ay ?_;refine AE Df ?_;refine Aw fun K7 Ez=> ?_;refine Aw fun K8 Dp=> ?_;refine AS gC ?_;try simp only [W,EE,Nat.reduceAdd]
  refine AE Dp ?_;obtain ⟨YQ,YR,ON⟩:=Option.bind_eq_some_iff.1 h;refine Bm gC (fun s H=>YQ=LR.next ()∧s=[u,u,u,u,u,u,u,u,u,u,u,u,u,u,u,u,u,u,u,u,u]∧ay H (F)) (fun Lb FH=> ?_) (fun s H hq=> ?_)
  ·refine Ax fun Nq GU=> ?_;refine Bi gC YR (fun x s H=>s=[u,u,u,.ptr C6 C7 0 0,u,u,u,u,u,u,u,.fz (a0.map CV),.int .i64 (a0.length:Int),.int .i64 x,u,u,u,u,u,u,u]∧ay H (⟨.ptr C6 C7 0 0,3,[.agg [.int .i64 a1.Kind,.int .i64 a1.X,.int .i64 a1.Y]]⟩::F)) ⟨rfl,hS⟩ (fun OD SO s H h Uf hi OM GV=> ?_)
   skip
   try dsimp only at hi
   obtain ⟨rfl,hS⟩:=hi;simp only [OC] at h;refine Aw fun Ij EB=> ?_;refine AS gC ?_;try simp only [W,EE,Nat.reduceAdd]
   refine AE EB ?_;refine Aw fun Hl Es=> ?_;refine AB ?_;simp only [W];refine AR h (fun hc h=> ?_) (fun hc h=> ?_)
   ·refine Ay ?_;refine AE Es ?_;refine Aw fun J9 FK=> ?_;refine Ax fun IU E8=> ?_;refine Aw fun Ik E0=> ?_;refine AS gC ?_;try simp only [W,EE,Nat.reduceAdd]
    refine Ba rfl rfl rfl (fun _=>rfl) h fun EW N1 h=> ?_;try simp only [W,EE,EN,reduceIte,Nat.reduceAdd,Nat.reduceLeDiff]
    refine A8 hS rfl rfl fun ab9 ab_ H hS=> ?_;try simp only [W]
    refine A9 (a:= .agg [.int .i64 EW.Kind,.int .i64 EW.X,.int .i64 EW.Y]) (y' := .agg [.int .i64 EW.Kind,.int .i64 EW.X,.int .i64 EW.Y]) 0 hS rfl rfl rfl rfl rfl rfl rfl rfl fun H hS=> ?_
    try simp only [W]
    refine AE E0 ?_;refine Aw fun Tq LJ=> ?_;refine AS gC ?_;try simp only [W,EE,reduceIte,Nat.reduceAdd,Nat.reduceLeDiff,Bool.false_eq_true,hS.var 0 rfl,hS.var 1 rfl]
    refine AE LJ ?_;refine AB ?_;simp only [W];refine AR h (fun hc h=> ?_) (fun hc h=> ?_)
    ·refine Aw fun NR G6=> ?_;refine AS gC ?_;try simp only [W,Nat.reduceAdd]
     refine AE G6 ?_;refine Az ?_;refine AM E8 ?_;refine AF FK ?_;try obtain rfl:=Option.some.inj h
     obtain rfl:=Uf _ rfl;have h:(some (LR.done (true,true)):Option (LR Unit (Bool×Bool)))=some (LR.done (true,true)):=rfl;refine Bl GV ?_;refine AM GU ?_;try obtain rfl:=Option.some.inj h
     obtain rfl:=Option.some.inj ON;have h:(some (true,true):Option (Bool×Bool))=some (true,true):=rfl;refine Bo FH ?_;refine AF Ez ?_;refine AP C8 rfl rfl ?_;try obtain rfl:=Option.some.inj h
     exact hP _ (hS.BA 2 [] (by decide))
    ·refine Ay ?_;refine AJ E8 ?_;refine AE FK ?_;refine AS gC ?_;try simp only [W,EE,Nat.reduceAdd]
     exact Bj GV h ⟨rfl,(hS.BA 2 [1] (by decide))⟩
   ·refine AA ?_;refine AG Es ?_;try obtain rfl:=Option.some.inj h
    obtain rfl:=Uf _ rfl;have h:(some (LR.next ()):Option (LR Unit (Bool×Bool)))=some (LR.next ()):=rfl
    refine Bk GV ?_;refine AK GU ?_;exact Bn FH ⟨(Option.some.inj h).symm,rfl,(hS.BA 1 [] (by decide))⟩
  ·obtain ⟨rfl,rfl,hS⟩:=hq;replace h:=ON;try dsimp only at h
   refine AE Ez ?_;refine Aw fun J_ F7=> ?_;refine AS gC ?_;try simp only [W,Nat.reduceAdd]
   refine AE F7 ?_;refine Az ?_;refine AP C8 rfl rfl ?_;try obtain rfl:=Option.some.inj h
   exact hP _ hS
theorem YS {r:(C5)} (h:Nl=some r) {F:List It} {H:J} (hS:ay H (F)) {P:AV→J→Prop} (hP: ∀Jw:AV,bm Jw→ ∀J7:AV,bm J7→ ∀E7:AV,bm E7→ ∀H',ay H' (⟨Jw,3,r.C2.map CV⟩::⟨J7,3,r.C3.map CV⟩::⟨E7,3,r.C4.map CV⟩::F)→P (.agg [.int .i64 r.C0,.int .i64 r.CY,.int .i64 r.X,.int .i64 r.Y,.int .i64 r.C1,.int .i64 r.CZ,.int .i64 r.CW,.int .i64 r.CX,Jw,J7,E7]) H'):au C 82 [] H P:=by
 refine AW gC (res:=[.cell 0 73]) (n:=2) rfl rfl rfl rfl fun K0 C8=> ?_;simp only [W,Nat.reduceSub,List.replicate];unfold Nl at h;refine Aw fun K1 Da=> ?_;refine AS gC ?_;try simp only [W,Nat.reduceAdd]
 refine A8 hS rfl rfl fun C6 C7 H hS=> ?_;try simp only [W]
 refine AE Da ?_;refine Aw fun K4 Df=> ?_;refine AS gC ?_;try simp only [W,EE,Nat.reduceAdd]
 refine BF rfl rfl rfl rfl rfl ?_;try simp only [W]
 refine A9 (a:= .agg [.int .i64 0,.int .i64 0,.int .i64 0,.int .i64 0,.int .i64 0,.int .i64 0,.int .i64 100,.int .i64 0,.nil,.nil,.nil]) (y' := .agg [.int .i64 0,.int .i64 0,.int .i64 0,.int .i64 0,.int .i64 0,.int .i64 0,.int .i64 100,.int .i64 0,.nil,.nil,.nil]) 0 hS rfl rfl rfl rfl rfl rfl rfl rfl fun H hS=> ?_
 try simp only [W]
 refine AE Df ?_;refine Az ?_;refine AN C8 (BC rfl rfl (hS.var 0 rfl) rfl rfl) ?_;try obtain rfl:=Option.some.inj h
 exact hP _ mQ _ mQ _ mQ _ ((((hS.za 3).za 3).za 3).BA 4 [0,1,2] (by decide))
theorem YT {a0:List Int} {a1:List Int} {r:(Bool)} (h:Nm a0 a1=some r) {F:List It} {H:J} (hS:ay H (F)) {P:AV→J→Prop} (hP: ∀H',ay H' (F)→P (.bool r) H'):au C 8 [.fz (a0.map (AV.int .u8)),.fz (a1.map (AV.int .u8))] H P:=by
 refine AW gC (res:=[.tmp 4]) (n:=199) rfl rfl rfl rfl fun K0 C8=> ?_;simp only [W,Nat.reduceSub,Nat.reduceAdd,List.replicate];unfold Nm at h;refine Aw fun K1 Da=> ?_;refine AS gC ?_;try simp only [W,Nat.reduceAdd]
 refine AE Da ?_;refine Aw fun K2 yP=> ?_;refine Aw fun K3 FG=> ?_;refine AS gC ?_;try simp only [W,EE,Nat.reduceAdd]
 refine AE FG ?_;refine AB ?_;simp only [W];refine AR h (fun hc h=> ?_) (fun hc h=> ?_)
 ·refine Aw fun K4 Df=> ?_;refine AS gC ?_;try simp only [W,Nat.reduceAdd]
  refine AE Df ?_;refine Az ?_;refine AF yP ?_;refine AO C8 rfl ?_;try obtain rfl:=Option.some.inj h
  exact hP _ hS
 ·refine Ay ?_;refine AE yP ?_;refine Aw fun K5 D7=> ?_;refine AS gC ?_;try simp only [W,Nat.reduceAdd]
  refine Bh h fun Fb Ii h=> ?_;obtain ⟨C9,Dr⟩:=Fb;try dsimp only at h
  refine V5 Ii hS fun E7 Gf v11 Fw EX EP H hS=> ?_;try simp only [W]
  refine A8 hS rfl rfl fun HB HC H hS=> ?_;try simp only [W]
  refine A8 hS rfl rfl fun N8 N9 H hS=> ?_;try simp only [W]
  refine A9 (a:= .agg [.int .i64 C9.C0,.int .i64 C9.CY,.int .i64 C9.X,.int .i64 C9.Y,.int .i64 C9.C1,.int .i64 C9.CZ,.int .i64 C9.CW,.int .i64 C9.CX,E7,v11,EX]) (y' := .agg [.int .i64 C9.C0,.int .i64 C9.CY,.int .i64 C9.X,.int .i64 C9.Y,.int .i64 C9.C1,.int .i64 C9.CZ,.int .i64 C9.CW,.int .i64 C9.CX,E7,v11,EX]) 1 hS rfl rfl rfl rfl rfl (by simp only [dB,List.all_cons,List.all_nil,Gf.pF,Fw.pF,EP.pF];rfl) rfl rfl fun H hS=> ?_
  try simp only [W]
  refine A9 (a:= .agg [.int .i64 Dr.Kind,.int .i64 Dr.K]) (y' := .agg [.int .i64 Dr.Kind,.int .i64 Dr.K]) 0 hS rfl rfl rfl rfl rfl rfl rfl rfl fun H hS=> ?_
  try simp only [W]
  refine AE D7 ?_;refine Aw fun Hl Es=> ?_;refine AS gC ?_;try simp only [W,EE,reduceIte,Nat.reduceAdd,Nat.reduceLeDiff,Nat.reduceBEq,hS.var 1 rfl,hS.var 0 rfl,List.contains_cons,Nat.reduceBEq,Bool.or_self]
  refine B9 (bO:=[[.sc,.sc,.sc,.sc,.sc,.sc,.sc,.sc,.sl [.sc,.sc,.sc],.sl [.sc,.sc,.sc],.sl [.sc,.sc,.sc]],[.sc]]) (ys:=[.agg [.int .i64 C9.C0,.int .i64 C9.CY,.int .i64 C9.X,.int .i64 C9.Y,.int .i64 C9.C1,.int .i64 C9.CZ,.int .i64 C9.CW,.int .i64 C9.CX,.fz (C9.C2.map CV),.fz (C9.C3.map CV),.fz (C9.C4.map CV)],.agg [.int .i64 Dr.Kind,.int .i64 Dr.K]]) h rfl (BW (BR (zk rfl (zk rfl (zk rfl (zk rfl (zk rfl (zk rfl (zk rfl (zk rfl (zk (BT hS 2 rfl Gf (fun _=>rfl)) (zk (BT hS 3 rfl Fw (fun _=>rfl)) (zk (BT hS 4 rfl EP (fun _=>rfl)) (BQ _))))))))))))) (BW rfl BV)) fun Fj Nu h=>⟨.aC [.agg [.int .i64 Fj.1.C0,.int .i64 Fj.1.CY,.int .i64 Fj.1.X,.int .i64 Fj.1.Y,.int .i64 Fj.1.C1,.int .i64 Fj.1.CZ,.int .i64 Fj.1.CW,.int .i64 Fj.1.CX,.own 3 (Fj.1.C2.map CV),.own 3 (Fj.1.C3.map CV),.own 3 (Fj.1.C4.map CV)],.bool Fj.2],XU Nu (ay.nil _) fun J8 Pj HW PP FJ Ju H hS=>B1 rfl (B0 (By rfl (By rfl (By rfl (By rfl (By rfl (By rfl (By rfl (By rfl (Bz 0 hS rfl Pj (fun _ _=>by simp [aX,aO,cg,dl,CV]) fun H hS=>Bz 0 hS rfl PP (fun _ _=>by simp [aX,aO,cg,dl,CV]) fun H hS=>Bz 0 hS rfl Ju (fun _ _=>by simp [aX,aO,cg,dl,CV]) fun H hS=>Bx (BY rfl (BX rfl)))))))))))),(Ce (Cc (Cd (Cc rfl (Cc rfl (Cc rfl (Cc rfl (Cc rfl (Cc rfl (Cc rfl (Cc rfl (Cc (Ca _ (fun _=>rfl) _) (Cc (Ca _ (fun _=>rfl) _) (Cc (Ca _ (fun _=>rfl) _) Cb)))))))))))) (Cc rfl Cb))),?_⟩
  refine B7 ?_;refine B5 ?_;refine B3 (fun _=>rfl) ?_;refine B3 (fun _=>rfl) ?_;refine B3 (fun _=>rfl) ?_;refine B3 (fun _=>rfl) ?_;refine B3 (fun _=>rfl) ?_;refine B3 (fun _=>rfl) ?_;refine B3 (fun _=>rfl) ?_;refine B3 (fun _=>rfl) ?_;refine B4 hS (fun _ _=>rfl) (fun _=>rfl) fun Jx H RT hS=> ?_;refine B4 hS (fun _ _=>rfl) (fun _=>rfl) fun PX H N_ hS=> ?_;refine B4 hS (fun _ _=>rfl) (fun _=>rfl) fun PY H Oa hS=> ?_;refine B2 ?_;refine B3 (fun _=>rfl) ?_;refine B2 ?_;try simp only [List.headD_cons]
  obtain ⟨De,DK⟩:=Fj;try dsimp only at h
  try simp only [W]
  refine A8 hS rfl rfl fun LW LX H hS=> ?_;try simp only [W]
  refine A9 (a:= .agg [.int .i64 De.C0,.int .i64 De.CY,.int .i64 De.X,.int .i64 De.Y,.int .i64 De.C1,.int .i64 De.CZ,.int .i64 De.CW,.int .i64 De.CX,Jx,PX,PY]) (y' := .agg [.int .i64 De.C0,.int .i64 De.CY,.int .i64 De.X,.int .i64 De.Y,.int .i64 De.C1,.int .i64 De.CZ,.int .i64 De.CW,.int .i64 De.CX,Jx,PX,PY]) 0 hS rfl rfl rfl rfl rfl (by simp only [dB,List.all_cons,List.all_nil,RT.pF,N_.pF,Oa.pF];rfl) rfl rfl fun H hS=> ?_
  try simp only [W]
  refine AE Es ?_;refine Aw fun J_ F7=> ?_;refine AS gC ?_;try simp only [W,EE,reduceIte,Nat.reduceAdd,Nat.reduceLeDiff,Nat.reduceBEq,hS.var 5 rfl,hS.var 4 rfl,List.contains_cons,Nat.reduceBEq,Bool.or_self]
  refine B9 (bO:=[[.sc,.sc,.sc,.sc,.sc,.sc,.sc,.sc,.sl [.sc,.sc,.sc],.sl [.sc,.sc,.sc],.sl [.sc,.sc,.sc]],[.sc]]) (ys:=[.agg [.int .i64 C9.C0,.int .i64 C9.CY,.int .i64 C9.X,.int .i64 C9.Y,.int .i64 C9.C1,.int .i64 C9.CZ,.int .i64 C9.CW,.int .i64 C9.CX,.fz (C9.C2.map CV),.fz (C9.C3.map CV),.fz (C9.C4.map CV)],.agg [.int .i64 Dr.Kind,.int .i64 Dr.K]]) h rfl (BW (BR (zk rfl (zk rfl (zk rfl (zk rfl (zk rfl (zk rfl (zk rfl (zk rfl (zk (BT hS 6 rfl Gf (fun _=>rfl)) (zk (BT hS 7 rfl Fw (fun _=>rfl)) (zk (BT hS 8 rfl EP (fun _=>rfl)) (BQ _))))))))))))) (BW rfl BV)) fun Gc Rl h=>⟨.aC [.agg [.int .i64 Gc.1.C0,.int .i64 Gc.1.CY,.int .i64 Gc.1.X,.int .i64 Gc.1.Y,.int .i64 Gc.1.C1,.int .i64 Gc.1.CZ,.int .i64 Gc.1.CW,.int .i64 Gc.1.CX,.own 3 (Gc.1.C2.map CV),.own 3 (Gc.1.C3.map CV),.own 3 (Gc.1.C4.map CV)],.bool Gc.2],Yb Rl (ay.nil _) fun NU LN GF GG TD NV H hS=>B1 rfl (B0 (By rfl (By rfl (By rfl (By rfl (By rfl (By rfl (By rfl (By rfl (Bz 0 hS rfl LN (fun _ _=>by simp [aX,aO,cg,dl,CV]) fun H hS=>Bz 0 hS rfl GG (fun _ _=>by simp [aX,aO,cg,dl,CV]) fun H hS=>Bz 0 hS rfl NV (fun _ _=>by simp [aX,aO,cg,dl,CV]) fun H hS=>Bx (BY rfl (BX rfl)))))))))))),(Ce (Cc (Cd (Cc rfl (Cc rfl (Cc rfl (Cc rfl (Cc rfl (Cc rfl (Cc rfl (Cc rfl (Cc (Ca _ (fun _=>rfl) _) (Cc (Ca _ (fun _=>rfl) _) (Cc (Ca _ (fun _=>rfl) _) Cb)))))))))))) (Cc rfl Cb))),?_⟩
  refine B7 ?_;refine B5 ?_;refine B3 (fun _=>rfl) ?_;refine B3 (fun _=>rfl) ?_;refine B3 (fun _=>rfl) ?_;refine B3 (fun _=>rfl) ?_;refine B3 (fun _=>rfl) ?_;refine B3 (fun _=>rfl) ?_;refine B3 (fun _=>rfl) ?_;refine B3 (fun _=>rfl) ?_;refine B4 hS (fun _ _=>rfl) (fun _=>rfl) fun EQ H Iw hS=> ?_;refine B4 hS (fun _ _=>rfl) (fun _=>rfl) fun RL H PG hS=> ?_;refine B4 hS (fun _ _=>rfl) (fun _=>rfl) fun Ug H Uh hS=> ?_;refine B2 ?_;refine B3 (fun _=>rfl) ?_;refine B2 ?_;try simp only [List.headD_cons]
  obtain ⟨Ey,Jo⟩:=Gc;try dsimp only at h
  try simp only [W]
  refine A8 hS rfl rfl fun aca acb H hS=> ?_;try simp only [W]
  refine A9 (a:= .agg [.int .i64 Ey.C0,.int .i64 Ey.CY,.int .i64 Ey.X,.int .i64 Ey.Y,.int .i64 Ey.C1,.int .i64 Ey.CZ,.int .i64 Ey.CW,.int .i64 Ey.CX,EQ,RL,Ug]) (y' := .agg [.int .i64 Ey.C0,.int .i64 Ey.CY,.int .i64 Ey.X,.int .i64 Ey.Y,.int .i64 Ey.C1,.int .i64 Ey.CZ,.int .i64 Ey.CW,.int .i64 Ey.CX,EQ,RL,Ug]) 0 hS rfl rfl rfl rfl rfl (by simp only [dB,List.all_cons,List.all_nil,Iw.pF,PG.pF,Uh.pF];rfl) rfl rfl fun H hS=> ?_
  try simp only [W]
  refine AE F7 ?_;refine Aw fun Lk Gh=> ?_;refine Aw fun Ll FT=> ?_;obtain ⟨Ts,h,Rm⟩:=Option.bind_eq_some_iff.1 h;refine Bm gC (fun s H=> ∃Fs:Bool,Ts=(Fs)∧s=(u:: .fz (a1.map (AV.int .u8))::u::u::u:: .ptr HB HC 0 0::u:: .ptr LW LX 0 0:: .bool DK::u::u::u::u::u::u::u::u::u::u::u::u::u::u::u::u::u::u::u::u::u::u::u::u::u::u::u::u::u::u::u::u::u::u::u::u::u::u::u::u::u::u::u::u::u::u::u::u::u::u::u::u::u::u::u::u::u::u:: .bool Fs::u::u::u::u::u::u::u::u::u::u::u::u::u::u::u::u::u::u::u::u::u::u::u::u::u::u::u::u::u::u::u::u::u::u::u::u::u::u::u::u::u::u::u::u::u::u::u::u::u::u::u::u::u::u::u::u::u::u::u::u::u::u::u::u::u::u::u::u::u::u::u::u::u::u::u::u::u::u::u::u::u::u::u::u::u::u::u::u::u::u::u::u::u::u::u::u::u::u::u::u::u::u::u::u::u::u::u::u::u::u::u::u::u::u::u::u::u::u::u::u::u::u::u::u::u::u::u::u::u::u::u::[])∧ay H (⟨E7,3,C9.C2.map CV⟩::⟨v11,3,C9.C3.map CV⟩::⟨EX,3,C9.C4.map CV⟩::⟨Jx,3,De.C2.map CV⟩::⟨PX,3,De.C3.map CV⟩::⟨PY,3,De.C4.map CV⟩::⟨.ptr HB HC 0 0,11,[.agg [.int .i64 C9.C0,.int .i64 C9.CY,.int .i64 C9.X,.int .i64 C9.Y,.int .i64 C9.C1,.int .i64 C9.CZ,.int .i64 C9.CW,.int .i64 C9.CX,E7,v11,EX]]⟩::⟨.ptr LW LX 0 0,11,[.agg [.int .i64 De.C0,.int .i64 De.CY,.int .i64 De.X,.int .i64 De.Y,.int .i64 De.C1,.int .i64 De.CZ,.int .i64 De.CW,.int .i64 De.CX,Jx,PX,PY]]⟩::F)) (fun NE GD=> ?_) (fun s H hq=> ?_)
  ·refine Aw fun O1 F9=> ?_;refine AU gC (by kernel_rfl) ?_
   try simp only [W,EE,Nat.reduceAdd]
   rw [AY _ _ _ _ (h:=rfl) rfl,so];try simp only [W]
   refine BE h (fun hc h=> ?_) (fun hc h=> ?_)
   ·try simp only [W,hc]
    refine AE F9 ?_;refine CC (s' :=(u:: .fz (a1.map (AV.int .u8))::u::u::u:: .ptr HB HC 0 0::u:: .ptr LW LX 0 0:: .bool DK::u::u::u::u::u::u::u::u::u::u::u::u::u::u::u::u::u::u::u::u::u::u::u::u::u::u::u::u::u::u::u::u::u::u::u::u::u::u::u::u::u::u::u::u::u::u::u::u::u::u::u::u::u::u::u::u::u::u:: .bool true::u::u::u::u::u::u::u::u::u::u::u::u::u::u::u::u::u::u::u::u::u::u::u::u::u::u::u::u::u::u::u::u::u::u::u::u::u::u::u::u::u::u::u::u::u::u::u::u::u::u::u::u::u::u::u::u::u::u::u::u::u::u::u::u::u::u::u::u::u::u::u::u::u::u::u::u::u::u::u::u::u::u::u::u::u::u::u::u::u::u::u::u::u::u::u::u::u::u::u::u::u::u::u::u::u::u::u::u::u::u::u::u::u::u::u::u::u::u::u::u::u::u::u::u::u::u::u::u::u::u::u::[])) rfl ?_
    exact Bn GD ⟨_,(Option.some.inj h).symm,rfl,(hS.BA 13 [10,11,12,7,6,5,9,4] (by decide))⟩
   ·try simp only [W,EE,reduceIte,Nat.reduceAdd,Nat.reduceLeDiff,hS.var 4 rfl,hS.var 0 rfl,hc]
    refine B8 (bO:=[[.sc]]) (ys:=[.agg [.int .i64 De.C0,.int .i64 De.CY,.int .i64 De.X,.int .i64 De.Y,.int .i64 De.C1,.int .i64 De.CZ,.int .i64 De.CW,.int .i64 De.CX,.fz (De.C2.map CV),.fz (De.C3.map CV),.fz (De.C4.map CV)],.agg [.int .i64 Ey.C0,.int .i64 Ey.CY,.int .i64 Ey.X,.int .i64 Ey.Y,.int .i64 Ey.C1,.int .i64 Ey.CZ,.int .i64 Ey.CW,.int .i64 Ey.CX,.fz (Ey.C2.map CV),.fz (Ey.C3.map CV),.fz (Ey.C4.map CV)]]) h rfl (BW (BR (zk rfl (zk rfl (zk rfl (zk rfl (zk rfl (zk rfl (zk rfl (zk rfl (zk (BT hS 7 rfl RT (fun _=>rfl)) (zk (BT hS 6 rfl N_ (fun _=>rfl)) (zk (BT hS 5 rfl Oa (fun _=>rfl)) (BQ _))))))))))))) (BW (BR (zk rfl (zk rfl (zk rfl (zk rfl (zk rfl (zk rfl (zk rfl (zk rfl (zk (BT hS 3 rfl Iw (fun _=>rfl)) (zk (BT hS 2 rfl PG (fun _=>rfl)) (zk (BT hS 1 rfl Uh (fun _=>rfl)) (BQ _))))))))))))) BV)) fun Qp YU h=>⟨.bool Qp,RO YU (ay.nil _) fun H hS=>B1 rfl (BY rfl (BX rfl)),⟨rfl,rfl,fun _=>rfl⟩,?_⟩;try simp only [W,reduceIte,Bool.false_eq_true]
    refine BE h (fun hc h=> ?_) (fun hc h=> ?_)
    ·try simp only [W,hc]
     refine AE F9 ?_;refine CC (s' :=(u:: .fz (a1.map (AV.int .u8))::u::u::u:: .ptr HB HC 0 0::u:: .ptr LW LX 0 0:: .bool DK::u::u::u::u::u::u::u::u::u::u::u::u::u::u::u::u::u::u::u::u::u::u::u::u::u::u::u::u::u::u::u::u::u::u::u::u::u::u::u::u::u::u::u::u::u::u::u::u::u::u::u::u::u::u::u::u::u::u:: .bool true::u::u::u::u::u::u::u::u::u::u::u::u::u::u::u::u::u::u::u::u::u::u::u::u::u::u::u::u::u::u::u::u::u::u::u::u::u::u::u::u::u::u::u::u::u::u::u::u::u::u::u::u::u::u::u::u::u::u::u::u::u::u::u::u::u::u::u::u::u::u::u::u::u::u::u::u::u::u::u::u::u::u::u::u::u::u::u::u::u::u::u::u::u::u::u::u::u::u::u::u::u::u::u::u::u::u::u::u::u::u::u::u::u::u::u::u::u::u::u::u::u::u::u::u::u::u::u::u::u::u::u::[])) rfl ?_
     exact Bn GD ⟨_,(Option.some.inj h).symm,rfl,(hS.BA 13 [10,11,12,7,6,5,9,4] (by decide))⟩
    ·try simp only [W,EE,reduceIte,Nat.reduceAdd,Nat.reduceLeDiff,hS.var 9 rfl,hc]
     refine B8 (bO:=[[.sc]]) (ys:=[.agg [.int .i64 C9.C0,.int .i64 C9.CY,.int .i64 C9.X,.int .i64 C9.Y,.int .i64 C9.C1,.int .i64 C9.CZ,.int .i64 C9.CW,.int .i64 C9.CX,.fz (C9.C2.map CV),.fz (C9.C3.map CV),.fz (C9.C4.map CV)]]) h rfl (BW (BR (zk rfl (zk rfl (zk rfl (zk rfl (zk rfl (zk rfl (zk rfl (zk rfl (zk (BT hS 10 rfl Gf (fun _=>rfl)) (zk (BT hS 11 rfl Fw (fun _=>rfl)) (zk (BT hS 12 rfl EP (fun _=>rfl)) (BQ _))))))))))))) BV) fun OE YV h=>⟨.bool OE,NS YV (ay.nil _) fun H hS=>B1 rfl (BY rfl (BX rfl)),⟨rfl,rfl,fun _=>rfl⟩,?_⟩;try simp only [W,EE,reduceIte,Nat.reduceAdd,Nat.reduceLeDiff,hS.var 9 rfl]
     refine B8 (bO:=[[.sc]]) (ys:=[.agg [.int .i64 C9.C0,.int .i64 C9.CY,.int .i64 C9.X,.int .i64 C9.Y,.int .i64 C9.C1,.int .i64 C9.CZ,.int .i64 C9.CW,.int .i64 C9.CX,.fz (C9.C2.map CV),.fz (C9.C3.map CV),.fz (C9.C4.map CV)]]) h rfl (BW (BR (zk rfl (zk rfl (zk rfl (zk rfl (zk rfl (zk rfl (zk rfl (zk rfl (zk (BT hS 10 rfl Gf (fun _=>rfl)) (zk (BT hS 11 rfl Fw (fun _=>rfl)) (zk (BT hS 12 rfl EP (fun _=>rfl)) (BQ _))))))))))))) BV) fun JV Qs h=>⟨.bool JV,PI Qs (ay.nil _) fun H hS=>B1 rfl (BY rfl (BX rfl)),⟨rfl,rfl,fun _=>rfl⟩,?_⟩;try simp only [W,EE]
     rw [AY _ _ _ _ (h:=rfl) rfl,so];try simp only [W,reduceIte,Bool.false_eq_true]
     refine AE F9 ?_;refine CC (s' :=(u:: .fz (a1.map (AV.int .u8))::u::u::u:: .ptr HB HC 0 0::u:: .ptr LW LX 0 0:: .bool DK::u::u::u::u::u::u::u::u::u::u::u::u::u::u::u::u::u::u::u::u::u::u::u::u::u::u::u::u::u::u::u::u::u::u::u::u::u::u::u::u::u::u::u::u::u::u::u::u::u::u::u::u::u::u::u::u::u::u:: .bool (!(OE==JV))::u::u::u::u::u::u::u::u::u::u::u::u::u::u::u::u::u::u::u::u::u::u::u::u::u::u::u::u::u::u::u::u::u::u::u::u::u::u::u::u::u::u::u::u::u::u::u::u::u::u::u::u::u::u::u::u::u::u::u::u::u::u::u::u::u::u::u::u::u::u::u::u::u::u::u::u::u::u::u::u::u::u::u::u::u::u::u::u::u::u::u::u::u::u::u::u::u::u::u::u::u::u::u::u::u::u::u::u::u::u::u::u::u::u::u::u::u::u::u::u::u::u::u::u::u::u::u::u::u::u::u::[])) rfl ?_
     exact Bn GD ⟨_,(Option.some.inj h).symm,rfl,(hS.BA 13 [10,11,12,7,6,5,9,4] (by decide))⟩
  ·obtain ⟨Fs,Dg,rfl,hS⟩:=hq;obtain rfl:=Dg.symm;replace h:=Rm;try dsimp only at h
   refine AE FT ?_;refine AB ?_;simp only [W];refine AR h (fun hc h=> ?_) (fun hc h=> ?_)
   ·refine Aw fun NF G3=> ?_;refine AS gC ?_;try simp only [W,Nat.reduceAdd]
    refine AE G3 ?_;refine Az ?_;refine AF Gh ?_;refine AO C8 rfl ?_;try obtain rfl:=Option.some.inj h
    exact hP _ (hS.BA 8 [] (by decide))
   ·refine Ay ?_;refine AE Gh ?_;refine Aw fun S2 Jz=> ?_;refine Aw fun S3 Ln=> ?_;refine AS gC ?_;try simp only [W,Nat.reduceAdd]
    refine AE Ln ?_;obtain ⟨YW,h,Ui⟩:=Option.bind_eq_some_iff.1 h;refine Bm gC (fun s H=>YW=LR.next ()∧s=(u:: .fz (a1.map (AV.int .u8))::u::u::u::u::u::u::u::u::u::u::u::u::u::u::u::u::u::u::u::u::u::u::u::u::u::u::u::u::u::u::u::u::u::u::u::u::u::u::u::u::u::u::u::u::u::u::u::u::u::u::u::u::u::u::u::u::u::u::u::u::u::u::u::u::u::u::u::u::u::u::u::u::u::u::u::u::u::u::u::u::u::u::u::u::u::u::u::u::u::u::u::u::u::u::u::u::u::u::u::u::u::u::u::u::u::u::u::u::u::u::u::u::u::u::u::u::u::u::u::u::u::u::u::u::u::u::u::u::u::u::u::u::u::u::u::u::u::u::u::u::u::u::u::u::u::u::u::u::u::u::u::u::u::u::u::u::u::u::u::u::u::u::u::u::u::u::u::u::u::u::u::u::u::u::u::u::u::u::u::u::u::u::u::u::u::u::u::u::u::u::u::u::u::u::u::u::u::[])∧ay H (F)) (fun Wu LL=> ?_) (fun s H hq=> ?_)
    ·refine Aw fun Qu Im=> ?_;refine AB ?_;simp only [W];refine AR h (fun hc h=> ?_) (fun hc h=> ?_)
     ·refine Aw fun SU J6=> ?_;refine AS gC ?_;try simp only [W,EE,Nat.reduceAdd,Nat.reduceBEq,hS.var 6 rfl]
      refine Be 1 hS rfl Fw rfl ?_;try simp only [W]
      refine AE J6 ?_;refine Aw fun S7 NJ=> ?_;refine AS gC ?_;try simp only [W,EE,Nat.reduceAdd,Nat.reduceBEq,hS.var 6 rfl]
      refine Be 2 hS rfl EP rfl ?_;try simp only [W]
      refine AE NJ ?_;refine Aw fun O7 HA=> ?_;obtain ⟨RC,h,JO⟩:=Option.bind_eq_some_iff.1 h;refine Bm gC (fun s H=> ∃FO:Bool,RC=(FO)∧s=(u:: .fz (a1.map (AV.int .u8))::u::u::u::u::u::u::u::u::u::u::u::u::u::u::u::u::u::u::u::u::u::u::u::u::u::u::u::u::u::u::u::u::u::u::u::u::u::u::u::u::u::u::u::u::u::u::u::u::u::u::u::u::u::u::u::u::u::u::u::u::u::u::u::u::u::u::u::u::u::u::u::u::u::u::u::u::u::u::u::u::u::u::u::u::u::u::u::u::u::u::u::u::u::u::u::u::u::u::u::u::u::u::u::u::u::u::u::u::u::u::u::u::u::u::u::u::u::u::u::u::u::u::u:: .bool FO::u::u::u::u::u::u::u::u::u::u::u::u::u::u::u::u::u::u::u::u::u::u::u::u::u::u::u::u::u::u::u::u::u::u::u::u::u::u::u::u::u::u::u::u::u::u::u::u::u::u::u::u::u::u::u::u::u::u::u::u::u::u::u::u::u::u::u::u::u::u::u::u::u::[])∧ay H (F)) (fun W2 GK=> ?_) (fun s H hq=> ?_)
      ·refine Aw fun O8 Ga=> ?_;refine AU gC (by kernel_rfl) ?_
       try simp only [W,EE,reduceIte,Nat.reduceAdd,Nat.reduceLeDiff,hS.var 7 rfl]
       refine B8 (bO:=[[.sc]]) (ys:=[.agg [.int .i64 De.C0,.int .i64 De.CY,.int .i64 De.X,.int .i64 De.Y,.int .i64 De.C1,.int .i64 De.CZ,.int .i64 De.CW,.int .i64 De.CX,.fz (De.C2.map CV),.fz (De.C3.map CV),.fz (De.C4.map CV)]]) h rfl (BW (BR (zk rfl (zk rfl (zk rfl (zk rfl (zk rfl (zk rfl (zk rfl (zk rfl (zk (BT hS 3 rfl RT (fun _=>rfl)) (zk (BT hS 4 rfl N_ (fun _=>rfl)) (zk (BT hS 5 rfl Oa (fun _=>rfl)) (BQ _))))))))))))) BV) fun F1 QZ h=>⟨.bool F1,NS QZ (ay.nil _) fun H hS=>B1 rfl (BY rfl (BX rfl)),⟨rfl,rfl,fun _=>rfl⟩,?_⟩;try simp only [W]
       refine BE h (fun hc h=> ?_) (fun hc h=> ?_)
       ·try simp only [W,hc]
        refine AE Ga ?_;refine CC (s' :=(u:: .fz (a1.map (AV.int .u8))::u::u::u::u::u::u::u::u::u::u::u::u::u::u::u::u::u::u::u::u::u::u::u::u::u::u::u::u::u::u::u::u::u::u::u::u::u::u::u::u::u::u::u::u::u::u::u::u::u::u::u::u::u::u::u::u::u::u::u::u::u::u::u::u::u::u::u::u::u::u::u::u::u::u::u::u::u::u::u::u::u::u::u::u::u::u::u::u::u::u::u::u::u::u::u::u::u::u::u::u::u::u::u::u::u::u::u::u::u::u::u::u::u::u::u::u::u::u::u::u::u::u::u:: .bool true::u::u::u::u::u::u::u::u::u::u::u::u::u::u::u::u::u::u::u::u::u::u::u::u::u::u::u::u::u::u::u::u::u::u::u::u::u::u::u::u::u::u::u::u::u::u::u::u::u::u::u::u::u::u::u::u::u::u::u::u::u::u::u::u::u::u::u::u::u::u::u::u::u::[])) rfl ?_
        exact Bn GK ⟨_,(Option.some.inj h).symm,rfl,(hS.BA 8 [] (by decide))⟩
       ·try simp only [W,EE,reduceIte,Nat.reduceAdd,Nat.reduceBEq,Bool.false_eq_true,hS.var 6 rfl,hS.var 7 rfl,hc]
        refine BE h (fun hc h=> ?_) (fun hc h=> ?_)
        ·try simp only [W,hc]
         refine AE Ga ?_;refine CC (s' :=(u:: .fz (a1.map (AV.int .u8))::u::u::u::u::u::u::u::u::u::u::u::u::u::u::u::u::u::u::u::u::u::u::u::u::u::u::u::u::u::u::u::u::u::u::u::u::u::u::u::u::u::u::u::u::u::u::u::u::u::u::u::u::u::u::u::u::u::u::u::u::u::u::u::u::u::u::u::u::u::u::u::u::u::u::u::u::u::u::u::u::u::u::u::u::u::u::u::u::u::u::u::u::u::u::u::u::u::u::u::u::u::u::u::u::u::u::u::u::u::u::u::u::u::u::u::u::u::u::u::u::u::u::u:: .bool true::u::u::u::u::u::u::u::u::u::u::u::u::u::u::u::u::u::u::u::u::u::u::u::u::u::u::u::u::u::u::u::u::u::u::u::u::u::u::u::u::u::u::u::u::u::u::u::u::u::u::u::u::u::u::u::u::u::u::u::u::u::u::u::u::u::u::u::u::u::u::u::u::u::[])) rfl ?_
         exact Bn GK ⟨_,(Option.some.inj h).symm,rfl,(hS.BA 8 [] (by decide))⟩
        ·try simp only [W,EE,reduceIte,Nat.reduceAdd,Nat.reduceBEq,Bool.false_eq_true,hS.var 6 rfl,hS.var 7 rfl,hc]
         refine BE h (fun hc h=> ?_) (fun hc h=> ?_)
         ·try simp only [W,hc]
          refine AE Ga ?_;refine CC (s' :=(u:: .fz (a1.map (AV.int .u8))::u::u::u::u::u::u::u::u::u::u::u::u::u::u::u::u::u::u::u::u::u::u::u::u::u::u::u::u::u::u::u::u::u::u::u::u::u::u::u::u::u::u::u::u::u::u::u::u::u::u::u::u::u::u::u::u::u::u::u::u::u::u::u::u::u::u::u::u::u::u::u::u::u::u::u::u::u::u::u::u::u::u::u::u::u::u::u::u::u::u::u::u::u::u::u::u::u::u::u::u::u::u::u::u::u::u::u::u::u::u::u::u::u::u::u::u::u::u::u::u::u::u::u:: .bool true::u::u::u::u::u::u::u::u::u::u::u::u::u::u::u::u::u::u::u::u::u::u::u::u::u::u::u::u::u::u::u::u::u::u::u::u::u::u::u::u::u::u::u::u::u::u::u::u::u::u::u::u::u::u::u::u::u::u::u::u::u::u::u::u::u::u::u::u::u::u::u::u::u::[])) rfl ?_
          exact Bn GK ⟨_,(Option.some.inj h).symm,rfl,(hS.BA 8 [] (by decide))⟩
         ·try simp only [W,EE,Nat.reduceAdd,Nat.reduceBEq,hS.var 7 rfl,hc]
          refine Be 4 hS rfl N_ rfl ?_;try simp only [W,EE,reduceIte,Bool.false_eq_true]
          refine BE h (fun hc h=> ?_) (fun hc h=> ?_)
          ·try simp only [W,hc]
           refine AE Ga ?_;refine CC (s' :=(u:: .fz (a1.map (AV.int .u8))::u::u::u::u::u::u::u::u::u::u::u::u::u::u::u::u::u::u::u::u::u::u::u::u::u::u::u::u::u::u::u::u::u::u::u::u::u::u::u::u::u::u::u::u::u::u::u::u::u::u::u::u::u::u::u::u::u::u::u::u::u::u::u::u::u::u::u::u::u::u::u::u::u::u::u::u::u::u::u::u::u::u::u::u::u::u::u::u::u::u::u::u::u::u::u::u::u::u::u::u::u::u::u::u::u::u::u::u::u::u::u::u::u::u::u::u::u::u::u::u::u::u::u:: .bool true::u::u::u::u::u::u::u::u::u::u::u::u::u::u::u::u::u::u::u::u::u::u::u::u::u::u::u::u::u::u::u::u::u::u::u::u::u::u::u::u::u::u::u::u::u::u::u::u::u::u::u::u::u::u::u::u::u::u::u::u::u::u::u::u::u::u::u::u::u::u::u::u::u::[])) rfl ?_
           exact Bn GK ⟨_,(Option.some.inj h).symm,rfl,(hS.BA 8 [] (by decide))⟩
          ·try simp only [W,EE,Nat.reduceAdd,Nat.reduceBEq,hS.var 7 rfl,hc]
           refine Be 5 hS rfl Oa rfl ?_;try simp only [W,EE,reduceIte,Bool.false_eq_true]
           refine BE h (fun hc h=> ?_) (fun hc h=> ?_)
           ·try simp only [W,hc]
            refine AE Ga ?_;refine CC (s' :=(u:: .fz (a1.map (AV.int .u8))::u::u::u::u::u::u::u::u::u::u::u::u::u::u::u::u::u::u::u::u::u::u::u::u::u::u::u::u::u::u::u::u::u::u::u::u::u::u::u::u::u::u::u::u::u::u::u::u::u::u::u::u::u::u::u::u::u::u::u::u::u::u::u::u::u::u::u::u::u::u::u::u::u::u::u::u::u::u::u::u::u::u::u::u::u::u::u::u::u::u::u::u::u::u::u::u::u::u::u::u::u::u::u::u::u::u::u::u::u::u::u::u::u::u::u::u::u::u::u::u::u::u::u:: .bool true::u::u::u::u::u::u::u::u::u::u::u::u::u::u::u::u::u::u::u::u::u::u::u::u::u::u::u::u::u::u::u::u::u::u::u::u::u::u::u::u::u::u::u::u::u::u::u::u::u::u::u::u::u::u::u::u::u::u::u::u::u::u::u::u::u::u::u::u::u::u::u::u::u::[])) rfl ?_
            exact Bn GK ⟨_,(Option.some.inj h).symm,rfl,(hS.BA 8 [] (by decide))⟩
           ·try simp only [W,EE,Nat.reduceAdd,Nat.reduceBEq,hS.var 7 rfl,hc]
            refine Bt 4 hS rfl N_ rfl rfl rfl h fun Ly DV NL acd h hS=> ?_;try simp only [W,EE,Nat.reduceAdd,Nat.reduceBEq,hS.var 6 rfl]
            refine B8 (bO:=[[.sc]]) (ys:=[.fz (DV.map CV),.fz (C9.C3.map CV)]) h rfl (BW (BT hS 4 rfl NL (fun _=>rfl)) (BW (BT hS 1 rfl Fw (fun _=>rfl)) BV)) fun GN QQ h=>⟨.bool GN,N3 QQ (ay.nil _) fun H hS=>B1 rfl (BY rfl (BX rfl)),⟨rfl,rfl,fun _=>rfl⟩,?_⟩;try simp only [W,reduceIte,Bool.false_eq_true]
            refine BE h (fun hc h=> ?_) (fun hc h=> ?_)
            ·try simp only [W,hc]
             refine AE Ga ?_;refine CC (s' :=(u:: .fz (a1.map (AV.int .u8))::u::u::u::u::u::u::u::u::u::u::u::u::u::u::u::u::u::u::u::u::u::u::u::u::u::u::u::u::u::u::u::u::u::u::u::u::u::u::u::u::u::u::u::u::u::u::u::u::u::u::u::u::u::u::u::u::u::u::u::u::u::u::u::u::u::u::u::u::u::u::u::u::u::u::u::u::u::u::u::u::u::u::u::u::u::u::u::u::u::u::u::u::u::u::u::u::u::u::u::u::u::u::u::u::u::u::u::u::u::u::u::u::u::u::u::u::u::u::u::u::u::u::u:: .bool true::u::u::u::u::u::u::u::u::u::u::u::u::u::u::u::u::u::u::u::u::u::u::u::u::u::u::u::u::u::u::u::u::u::u::u::u::u::u::u::u::u::u::u::u::u::u::u::u::u::u::u::u::u::u::u::u::u::u::u::u::u::u::u::u::u::u::u::u::u::u::u::u::u::[])) rfl ?_
             exact Bn GK ⟨_,(Option.some.inj h).symm,rfl,(hS.BA 8 [] (by decide))⟩
            ·try simp only [W,EE,Nat.reduceAdd,Nat.reduceBEq,hS.var 7 rfl,hc]
             refine Bt 5 hS rfl Oa rfl rfl rfl h fun v80 E6 YX ace h hS=> ?_;try simp only [W,EE,Nat.reduceAdd,Nat.reduceBEq,hS.var 6 rfl]
             refine B8 (bO:=[[.sc]]) (ys:=[.fz (E6.map CV),.fz (C9.C4.map CV)]) h rfl (BW (BT hS 5 rfl YX (fun _=>rfl)) (BW (BT hS 2 rfl EP (fun _=>rfl)) BV)) fun Fz Rv h=>⟨.bool Fz,N3 Rv (ay.nil _) fun H hS=>B1 rfl (BY rfl (BX rfl)),⟨rfl,rfl,fun _=>rfl⟩,?_⟩;try simp only [W,reduceIte,Bool.false_eq_true]
             refine AE Ga ?_;refine CC (s' :=(u:: .fz (a1.map (AV.int .u8))::u::u::u::u::u::u::u::u::u::u::u::u::u::u::u::u::u::u::u::u::u::u::u::u::u::u::u::u::u::u::u::u::u::u::u::u::u::u::u::u::u::u::u::u::u::u::u::u::u::u::u::u::u::u::u::u::u::u::u::u::u::u::u::u::u::u::u::u::u::u::u::u::u::u::u::u::u::u::u::u::u::u::u::u::u::u::u::u::u::u::u::u::u::u::u::u::u::u::u::u::u::u::u::u::u::u::u::u::u::u::u::u::u::u::u::u::u::u::u::u::u::u::u:: .bool (!Fz)::u::u::u::u::u::u::u::u::u::u::u::u::u::u::u::u::u::u::u::u::u::u::u::u::u::u::u::u::u::u::u::u::u::u::u::u::u::u::u::u::u::u::u::u::u::u::u::u::u::u::u::u::u::u::u::u::u::u::u::u::u::u::u::u::u::u::u::u::u::u::u::u::u::[])) rfl ?_
             exact Bn GK ⟨_,(Option.some.inj h).symm,rfl,(hS.BA 8 [] (by decide))⟩
      ·obtain ⟨FO,Dg,rfl,hS⟩:=hq;obtain rfl:=Dg.symm;replace h:=JO;try dsimp only at h
       refine AE HA ?_;refine AB ?_;simp only [W];refine AR h (fun hc h=> ?_) (fun hc h=> ?_)
       ·refine Aw fun O3 Is=> ?_;refine AS gC ?_;try simp only [W,Nat.reduceAdd]
        refine AE Is ?_;refine Az ?_;refine AF Im ?_;try obtain rfl:=Option.some.inj h
        obtain rfl:=Option.some.inj Ui;have h:(some false:Option (Bool))=some false:=rfl;refine Bo LL ?_;refine AF Jz ?_;refine AO C8 rfl ?_;try obtain rfl:=Option.some.inj h
        exact hP _ hS
       ·refine Ay ?_;refine AE Im ?_;refine CC (s' :=(u:: .fz (a1.map (AV.int .u8))::u::u::u::u::u::u::u::u::u::u::u::u::u::u::u::u::u::u::u::u::u::u::u::u::u::u::u::u::u::u::u::u::u::u::u::u::u::u::u::u::u::u::u::u::u::u::u::u::u::u::u::u::u::u::u::u::u::u::u::u::u::u::u::u::u::u::u::u::u::u::u::u::u::u::u::u::u::u::u::u::u::u::u::u::u::u::u::u::u::u::u::u::u::u::u::u::u::u::u::u::u::u::u::u::u::u::u::u::u::u::u::u::u::u::u::u::u::u::u::u::u::u::u::u::u::u::u::u::u::u::u::u::u::u::u::u::u::u::u::u::u::u::u::u::u::u::u::u::u::u::u::u::u::u::u::u::u::u::u::u::u::u::u::u::u::u::u::u::u::u::u::u::u::u::u::u::u::u::u::u::u::u::u::u::u::u::u::u::u::u::u::u::u::u::u::u::u::[])) rfl ?_
        exact Bn LL ⟨(Option.some.inj h).symm,rfl,hS⟩
     ·refine Ay ?_;refine AE Im ?_;refine CC (s' :=(u:: .fz (a1.map (AV.int .u8))::u::u::u::u::u::u::u::u::u::u::u::u::u::u::u::u::u::u::u::u::u::u::u::u::u::u::u::u::u::u::u::u::u::u::u::u::u::u::u::u::u::u::u::u::u::u::u::u::u::u::u::u::u::u::u::u::u::u::u::u::u::u::u::u::u::u::u::u::u::u::u::u::u::u::u::u::u::u::u::u::u::u::u::u::u::u::u::u::u::u::u::u::u::u::u::u::u::u::u::u::u::u::u::u::u::u::u::u::u::u::u::u::u::u::u::u::u::u::u::u::u::u::u::u::u::u::u::u::u::u::u::u::u::u::u::u::u::u::u::u::u::u::u::u::u::u::u::u::u::u::u::u::u::u::u::u::u::u::u::u::u::u::u::u::u::u::u::u::u::u::u::u::u::u::u::u::u::u::u::u::u::u::u::u::u::u::u::u::u::u::u::u::u::u::u::u::u::[])) rfl ?_
      exact Bn LL ⟨(Option.some.inj h).symm,rfl,(hS.BA 8 [] (by decide))⟩
    ·obtain ⟨rfl,rfl,hS⟩:=hq;replace h:=Ui;try dsimp only at h
     refine AE Jz ?_;refine Aw fun QS I1=> ?_;refine AS gC ?_;try simp only [W,Nat.reduceAdd]
     refine Bh h fun Dk YY h=> ?_;refine Ye YY hS fun Kv Kw Lh Ob Li Oc H hS=> ?_;try simp only [W]
     refine A8 hS rfl rfl fun acf acg H hS=> ?_;try simp only [W]
     refine A9 (a:= .agg [.int .i64 Dk.C0,.int .i64 Dk.CY,.int .i64 Dk.X,.int .i64 Dk.Y,.int .i64 Dk.C1,.int .i64 Dk.CZ,.int .i64 Dk.CW,.int .i64 Dk.CX,Kv,Lh,Li]) (y' := .agg [.int .i64 Dk.C0,.int .i64 Dk.CY,.int .i64 Dk.X,.int .i64 Dk.Y,.int .i64 Dk.C1,.int .i64 Dk.CZ,.int .i64 Dk.CW,.int .i64 Dk.CX,Kv,Lh,Li]) 0 hS rfl rfl rfl rfl rfl (by simp only [dB,List.all_cons,List.all_nil,Kw.pF,Ob.pF,Oc.pF];rfl) rfl rfl fun H hS=> ?_
     try simp only [W]
     refine AE I1 ?_;refine Aw fun Te LA=> ?_;refine AS gC ?_;try simp only [W,EE,reduceIte,Nat.reduceAdd,Nat.reduceLeDiff,Nat.reduceBEq,hS.var 0 rfl,List.contains_cons,Nat.reduceBEq,Bool.or_self]
     refine B9 (bO:=[[.sc,.sc,.sc,.sc,.sc,.sc,.sc,.sc,.sl [.sc,.sc,.sc],.sl [.sc,.sc,.sc],.sl [.sc,.sc,.sc]],[.sc]]) (ys:=[.agg [.int .i64 Dk.C0,.int .i64 Dk.CY,.int .i64 Dk.X,.int .i64 Dk.Y,.int .i64 Dk.C1,.int .i64 Dk.CZ,.int .i64 Dk.CW,.int .i64 Dk.CX,.fz (Dk.C2.map CV),.fz (Dk.C3.map CV),.fz (Dk.C4.map CV)]]) h rfl (BW (BR (zk rfl (zk rfl (zk rfl (zk rfl (zk rfl (zk rfl (zk rfl (zk rfl (zk (BT hS 1 rfl Kw (fun _=>rfl)) (zk (BT hS 2 rfl Ob (fun _=>rfl)) (zk (BT hS 3 rfl Oc (fun _=>rfl)) (BQ _))))))))))))) BV) fun G8 YZ h=>⟨.aC [.agg [.int .i64 G8.1.C0,.int .i64 G8.1.CY,.int .i64 G8.1.X,.int .i64 G8.1.Y,.int .i64 G8.1.C1,.int .i64 G8.1.CZ,.int .i64 G8.1.CW,.int .i64 G8.1.CX,.own 3 (G8.1.C2.map CV),.own 3 (G8.1.C3.map CV),.own 3 (G8.1.C4.map CV)],.bool G8.2],Yf YZ (ay.nil _) fun Ls Ki ach Y0 aci Y1 H hS=>B1 rfl (B0 (By rfl (By rfl (By rfl (By rfl (By rfl (By rfl (By rfl (By rfl (Bz 0 hS rfl Ki (fun _ _=>by simp [aX,aO,cg,dl,CV]) fun H hS=>Bz 0 hS rfl Y0 (fun _ _=>by simp [aX,aO,cg,dl,CV]) fun H hS=>Bz 0 hS rfl Y1 (fun _ _=>by simp [aX,aO,cg,dl,CV]) fun H hS=>Bx (BY rfl (BX rfl)))))))))))),(Ce (Cc (Cd (Cc rfl (Cc rfl (Cc rfl (Cc rfl (Cc rfl (Cc rfl (Cc rfl (Cc rfl (Cc (Ca _ (fun _=>rfl) _) (Cc (Ca _ (fun _=>rfl) _) (Cc (Ca _ (fun _=>rfl) _) Cb)))))))))))) (Cc rfl Cb))),?_⟩
     refine B7 ?_;refine B5 ?_;refine B3 (fun _=>rfl) ?_;refine B3 (fun _=>rfl) ?_;refine B3 (fun _=>rfl) ?_;refine B3 (fun _=>rfl) ?_;refine B3 (fun _=>rfl) ?_;refine B3 (fun _=>rfl) ?_;refine B3 (fun _=>rfl) ?_;refine B3 (fun _=>rfl) ?_;refine B4 hS (fun _ _=>rfl) (fun _=>rfl) fun Pa H Lt hS=> ?_;refine B4 hS (fun _ _=>rfl) (fun _=>rfl) fun Kl H Pe hS=> ?_;refine B4 hS (fun _ _=>rfl) (fun _=>rfl) fun RP H PM hS=> ?_;refine B2 ?_;refine B3 (fun _=>rfl) ?_;refine B2 ?_;try simp only [List.headD_cons]
     obtain ⟨Ep,HR⟩:=G8;try dsimp only at h
     try simp only [W]
     refine A8 hS rfl rfl fun acj ack H hS=> ?_;try simp only [W]
     refine A9 (a:= .agg [.int .i64 Ep.C0,.int .i64 Ep.CY,.int .i64 Ep.X,.int .i64 Ep.Y,.int .i64 Ep.C1,.int .i64 Ep.CZ,.int .i64 Ep.CW,.int .i64 Ep.CX,Pa,Kl,RP]) (y' := .agg [.int .i64 Ep.C0,.int .i64 Ep.CY,.int .i64 Ep.X,.int .i64 Ep.Y,.int .i64 Ep.C1,.int .i64 Ep.CZ,.int .i64 Ep.CW,.int .i64 Ep.CX,Pa,Kl,RP]) 0 hS rfl rfl rfl rfl rfl (by simp only [dB,List.all_cons,List.all_nil,Lt.pF,Pe.pF,PM.pF];rfl) rfl rfl fun H hS=> ?_
     try simp only [W]
     refine AE LA ?_;refine Aw fun Tb Lu=> ?_;refine AS gC ?_;try simp only [W,EE,reduceIte,Nat.reduceAdd,Nat.reduceLeDiff,Nat.reduceBEq,hS.var 4 rfl,List.contains_cons,Nat.reduceBEq,Bool.or_self]
     refine B9 (bO:=[[.sc,.sc,.sc,.sc,.sc,.sc,.sc,.sc,.sl [.sc,.sc,.sc],.sl [.sc,.sc,.sc],.sl [.sc,.sc,.sc]],[.sc]]) (ys:=[.agg [.int .i64 Dk.C0,.int .i64 Dk.CY,.int .i64 Dk.X,.int .i64 Dk.Y,.int .i64 Dk.C1,.int .i64 Dk.CZ,.int .i64 Dk.CW,.int .i64 Dk.CX,.fz (Dk.C2.map CV),.fz (Dk.C3.map CV),.fz (Dk.C4.map CV)]]) h rfl (BW (BR (zk rfl (zk rfl (zk rfl (zk rfl (zk rfl (zk rfl (zk rfl (zk rfl (zk (BT hS 5 rfl Kw (fun _=>rfl)) (zk (BT hS 6 rfl Ob (fun _=>rfl)) (zk (BT hS 7 rfl Oc (fun _=>rfl)) (BQ _))))))))))))) BV) fun DW QU h=>⟨.aC [.agg [.int .i64 DW.1.C0,.int .i64 DW.1.CY,.int .i64 DW.1.X,.int .i64 DW.1.Y,.int .i64 DW.1.C1,.int .i64 DW.1.CZ,.int .i64 DW.1.CW,.int .i64 DW.1.CX,.own 3 (DW.1.C2.map CV),.own 3 (DW.1.C3.map CV),.own 3 (DW.1.C4.map CV)],.bool DW.2],Yo QU (ay.nil _) fun Pb Lv YB RS Pc Lw H hS=>B1 rfl (B0 (By rfl (By rfl (By rfl (By rfl (By rfl (By rfl (By rfl (By rfl (Bz 0 hS rfl Lv (fun _ _=>by simp [aX,aO,cg,dl,CV]) fun H hS=>Bz 0 hS rfl RS (fun _ _=>by simp [aX,aO,cg,dl,CV]) fun H hS=>Bz 0 hS rfl Lw (fun _ _=>by simp [aX,aO,cg,dl,CV]) fun H hS=>Bx (BY rfl (BX rfl)))))))))))),(Ce (Cc (Cd (Cc rfl (Cc rfl (Cc rfl (Cc rfl (Cc rfl (Cc rfl (Cc rfl (Cc rfl (Cc (Ca _ (fun _=>rfl) _) (Cc (Ca _ (fun _=>rfl) _) (Cc (Ca _ (fun _=>rfl) _) Cb)))))))))))) (Cc rfl Cb))),?_⟩
     refine B7 ?_;refine B5 ?_;refine B3 (fun _=>rfl) ?_;refine B3 (fun _=>rfl) ?_;refine B3 (fun _=>rfl) ?_;refine B3 (fun _=>rfl) ?_;refine B3 (fun _=>rfl) ?_;refine B3 (fun _=>rfl) ?_;refine B3 (fun _=>rfl) ?_;refine B3 (fun _=>rfl) ?_;refine B4 hS (fun _ _=>rfl) (fun _=>rfl) fun N4 H N5 hS=> ?_;refine B4 hS (fun _ _=>rfl) (fun _=>rfl) fun LB H Kn hS=> ?_;refine B4 hS (fun _ _=>rfl) (fun _=>rfl) fun N6 H N7 hS=> ?_;refine B2 ?_;refine B3 (fun _=>rfl) ?_;refine B2 ?_;try simp only [List.headD_cons]
     obtain ⟨D9,D2⟩:=DW;try dsimp only at h
     try simp only [W]
     refine A8 hS rfl rfl fun acm acn H hS=> ?_;try simp only [W]
     refine A9 (a:= .agg [.int .i64 D9.C0,.int .i64 D9.CY,.int .i64 D9.X,.int .i64 D9.Y,.int .i64 D9.C1,.int .i64 D9.CZ,.int .i64 D9.CW,.int .i64 D9.CX,N4,LB,N6]) (y' := .agg [.int .i64 D9.C0,.int .i64 D9.CY,.int .i64 D9.X,.int .i64 D9.Y,.int .i64 D9.C1,.int .i64 D9.CZ,.int .i64 D9.CW,.int .i64 D9.CX,N4,LB,N6]) 0 hS rfl rfl rfl rfl rfl (by simp only [dB,List.all_cons,List.all_nil,N5.pF,Kn.pF,N7.pF];rfl) rfl rfl fun H hS=> ?_
     try simp only [W]
     refine AE Lu ?_;refine Aw fun aco Y2=> ?_;refine AS gC ?_;try simp only [W,EE,reduceIte,Nat.reduceAdd,Nat.reduceLeDiff,hS.var 8 rfl]
     refine B8 (bO:=[[.sc],[.sc]]) (ys:=[.agg [.int .i64 Dk.C0,.int .i64 Dk.CY,.int .i64 Dk.X,.int .i64 Dk.Y,.int .i64 Dk.C1,.int .i64 Dk.CZ,.int .i64 Dk.CW,.int .i64 Dk.CX,.fz (Dk.C2.map CV),.fz (Dk.C3.map CV),.fz (Dk.C4.map CV)]]) h rfl (BW (BR (zk rfl (zk rfl (zk rfl (zk rfl (zk rfl (zk rfl (zk rfl (zk rfl (zk (BT hS 9 rfl Kw (fun _=>rfl)) (zk (BT hS 10 rfl Ob (fun _=>rfl)) (zk (BT hS 11 rfl Oc (fun _=>rfl)) (BQ _))))))))))))) BV) fun RU Y3 h=>⟨.aC [.bool RU.1,.bool RU.2],YC Y3 (ay.nil _) fun H hS=>B1 rfl (BY rfl (BY rfl (BX rfl))),⟨rfl,rfl,fun _=>rfl⟩,?_⟩;obtain ⟨OF,OG⟩:=RU;try dsimp only at h
     try simp only [W]
     refine AE Y2 ?_;refine Aw fun Xd JP=> ?_;refine AS gC ?_;try simp only [W,EE,reduceIte,Nat.reduceAdd,Nat.reduceLeDiff,hS.var 8 rfl]
     refine B8 (bO:=[[.sc],[.sc]]) (ys:=[.agg [.int .i64 Dk.C0,.int .i64 Dk.CY,.int .i64 Dk.X,.int .i64 Dk.Y,.int .i64 Dk.C1,.int .i64 Dk.CZ,.int .i64 Dk.CW,.int .i64 Dk.CX,.fz (Dk.C2.map CV),.fz (Dk.C3.map CV),.fz (Dk.C4.map CV)]]) h rfl (BW (BR (zk rfl (zk rfl (zk rfl (zk rfl (zk rfl (zk rfl (zk rfl (zk rfl (zk (BT hS 9 rfl Kw (fun _=>rfl)) (zk (BT hS 10 rfl Ob (fun _=>rfl)) (zk (BT hS 11 rfl Oc (fun _=>rfl)) (BQ _))))))))))))) BV) fun RV Y4 h=>⟨.aC [.bool RV.1,.bool RV.2],YD Y4 (ay.nil _) fun H hS=>B1 rfl (BY rfl (BY rfl (BX rfl))),⟨rfl,rfl,fun _=>rfl⟩,?_⟩;obtain ⟨OH,GS⟩:=RV;try dsimp only at h
     try simp only [W]
     refine AE JP ?_;refine Aw fun acp Y5=> ?_;refine AS gC ?_;try simp only [W,Nat.reduceAdd]
     refine Bh h fun Y6 Y7 h=> ?_;obtain ⟨Jr,FP⟩:=Y6;try dsimp only at h
     refine YE Y7 hS fun Pd Uj H hS=> ?_;try simp only [W]
     refine A8 hS rfl rfl fun acq acr H hS=> ?_;try simp only [W]
     refine A9 (a:= .agg [.int .i64 FP.Kind,.int .i64 FP.X,.int .i64 FP.Y]) (y' := .agg [.int .i64 FP.Kind,.int .i64 FP.X,.int .i64 FP.Y]) 0 hS rfl rfl rfl rfl rfl rfl rfl rfl fun H hS=> ?_
     try simp only [W]
     refine AE Y5 ?_;refine Aw fun acs Y8=> ?_;refine AS gC ?_;try simp only [W,EE,reduceIte,Nat.reduceAdd,Nat.reduceLeDiff,hS.var 0 rfl]
     refine B8 (bO:=[[.sc],[.sc]]) (ys:=[.fz (Jr.map CV),.agg [.int .i64 FP.Kind,.int .i64 FP.X,.int .i64 FP.Y]]) h rfl (BW (BT hS 1 rfl Uj (fun _=>rfl)) (BW rfl BV)) fun RW Y9 h=>⟨.aC [.bool RW.1,.bool RW.2],YO Y9 (ay.nil _) fun H hS=>B1 rfl (BY rfl (BY rfl (BX rfl))),⟨rfl,rfl,fun _=>rfl⟩,?_⟩;obtain ⟨OI,OJ⟩:=RW;try dsimp only at h
     try simp only [W]
     refine AE Y8 ?_;refine Aw fun acu Y_=> ?_;refine AS gC ?_;try simp only [W,EE,reduceIte,Nat.reduceAdd,Nat.reduceLeDiff,hS.var 0 rfl]
     refine B8 (bO:=[[.sc],[.sc]]) (ys:=[.fz (Jr.map CV),.agg [.int .i64 FP.Kind,.int .i64 FP.X,.int .i64 FP.Y]]) h rfl (BW (BT hS 1 rfl Uj (fun _=>rfl)) (BW rfl BV)) fun RX Za h=>⟨.aC [.bool RX.1,.bool RX.2],YP Za (ay.nil _) fun H hS=>B1 rfl (BY rfl (BY rfl (BX rfl))),⟨rfl,rfl,fun _=>rfl⟩,?_⟩;obtain ⟨OK,OL⟩:=RX;try dsimp only at h
     try simp only [W]
     refine AE Y_ ?_;refine Aw fun acv Zb=> ?_;refine AS gC ?_;try simp only [W,Nat.reduceAdd]
     refine Bh h fun Er Zc h=> ?_;refine YS Zc hS fun Uk Ul Um Un Uo Uq H hS=> ?_;try simp only [W]
     refine A8 hS rfl rfl fun acw acx H hS=> ?_;try simp only [W]
     refine A9 (a:= .agg [.int .i64 Er.C0,.int .i64 Er.CY,.int .i64 Er.X,.int .i64 Er.Y,.int .i64 Er.C1,.int .i64 Er.CZ,.int .i64 Er.CW,.int .i64 Er.CX,Uk,Um,Uo]) (y' := .agg [.int .i64 Er.C0,.int .i64 Er.CY,.int .i64 Er.X,.int .i64 Er.Y,.int .i64 Er.C1,.int .i64 Er.CZ,.int .i64 Er.CW,.int .i64 Er.CX,Uk,Um,Uo]) 0 hS rfl rfl rfl rfl rfl (by simp only [dB,List.all_cons,List.all_nil,Ul.pF,Un.pF,Uq.pF];rfl) rfl rfl fun H hS=> ?_
     try simp only [W]
     refine AE Zb ?_;refine Aw fun acy Kx=> ?_;refine AU gC (by kernel_rfl) ?_
     try simp only [W,EE,Nat.reduceAdd]
     rw [AX _ _ _ _ (h:=rfl) rfl,so];try simp only [W]
     refine BE h (fun hc h=> ?_) (fun hc h=> ?_)
     ·try simp only [W,EE,reduceIte,Nat.reduceAdd,Nat.reduceLeDiff,hS.var 10 rfl,hS.var 6 rfl,hc]
      refine B8 (bO:=[[.sc]]) (ys:=[.agg [.int .i64 Ep.C0,.int .i64 Ep.CY,.int .i64 Ep.X,.int .i64 Ep.Y,.int .i64 Ep.C1,.int .i64 Ep.CZ,.int .i64 Ep.CW,.int .i64 Ep.CX,.fz (Ep.C2.map CV),.fz (Ep.C3.map CV),.fz (Ep.C4.map CV)],.agg [.int .i64 D9.C0,.int .i64 D9.CY,.int .i64 D9.X,.int .i64 D9.Y,.int .i64 D9.C1,.int .i64 D9.CZ,.int .i64 D9.CW,.int .i64 D9.CX,.fz (D9.C2.map CV),.fz (D9.C3.map CV),.fz (D9.C4.map CV)]]) h rfl (BW (BR (zk rfl (zk rfl (zk rfl (zk rfl (zk rfl (zk rfl (zk rfl (zk rfl (zk (BT hS 13 rfl Lt (fun _=>rfl)) (zk (BT hS 12 rfl Pe (fun _=>rfl)) (zk (BT hS 11 rfl PM (fun _=>rfl)) (BQ _))))))))))))) (BW (BR (zk rfl (zk rfl (zk rfl (zk rfl (zk rfl (zk rfl (zk rfl (zk rfl (zk (BT hS 9 rfl N5 (fun _=>rfl)) (zk (BT hS 8 rfl Kn (fun _=>rfl)) (zk (BT hS 7 rfl N7 (fun _=>rfl)) (BQ _))))))))))))) BV)) fun Nn Zd h=>⟨.bool Nn,RO Zd (ay.nil _) fun H hS=>B1 rfl (BY rfl (BX rfl)),⟨rfl,rfl,fun _=>rfl⟩,?_⟩;try simp only [W,reduceIte]
      refine BE h (fun hc h=> ?_) (fun hc h=> ?_)
      ·try simp only [W,EE,hc]
       rw [AX _ _ _ _ (h:=rfl) rfl,so];try simp only [W,reduceIte]
       refine BE h (fun hc h=> ?_) (fun hc h=> ?_)
       ·try simp only [W,EE,hc]
        rw [AX _ _ _ _ (h:=rfl) rfl,so];try simp only [W,reduceIte]
        refine BE h (fun hc h=> ?_) (fun hc h=> ?_)
        ·try simp only [W,EE,hc]
         rw [AX _ _ _ _ (h:=rfl) rfl,so];try simp only [W,reduceIte]
         refine BE h (fun hc h=> ?_) (fun hc h=> ?_)
         ·try simp only [W,EE,hc]
          rw [AX _ _ _ _ (h:=rfl) rfl,so];try simp only [W,reduceIte]
          refine BE h (fun hc h=> ?_) (fun hc h=> ?_)
          ·try simp only [W,EE,reduceIte,Nat.reduceAdd,Nat.reduceLeDiff,hS.var 0 rfl,hc]
           refine B_ (bO:=[[.sc,.sc,.sc,.sc,.sc,.sc,.sc,.sc,.sl [.sc,.sc,.sc],.sl [.sc,.sc,.sc],.sl [.sc,.sc,.sc]]]) (ys:=[]) h rfl (by rfl) fun EO Ze h=>⟨.agg [.int .i64 EO.C0,.int .i64 EO.CY,.int .i64 EO.X,.int .i64 EO.Y,.int .i64 EO.C1,.int .i64 EO.CZ,.int .i64 EO.CW,.int .i64 EO.CX,.own 3 (EO.C2.map CV),.own 3 (EO.C3.map CV),.own 3 (EO.C4.map CV)],QA Ze (ay.nil _) fun Xq RF acz Zf acA Zg H hS=>B1 rfl (B0 (By rfl (By rfl (By rfl (By rfl (By rfl (By rfl (By rfl (By rfl (Bz 0 hS rfl RF (fun _ _=>by simp [aX,aO,cg,dl,CV]) fun H hS=>Bz 0 hS rfl Zf (fun _ _=>by simp [aX,aO,cg,dl,CV]) fun H hS=>Bz 0 hS rfl Zg (fun _ _=>by simp [aX,aO,cg,dl,CV]) fun H hS=>Bx (BX rfl))))))))))),?_⟩
           simp only [W,uj (c:=CV) (fun _=>rfl)];try simp only [W,EE,EN,reduceIte,Nat.reduceAdd,Nat.reduceLeDiff,Nat.reduceBEq,Nat.reduceMul,Bool.false_eq_true]
           refine B8 (bO:=[[.sc]]) (ys:=[.agg [.int .i64 Er.C0,.int .i64 Er.CY,.int .i64 Er.X,.int .i64 Er.Y,.int .i64 Er.C1,.int .i64 Er.CZ,.int .i64 Er.CW,.int .i64 Er.CX,.fz (Er.C2.map CV),.fz (Er.C3.map CV),.fz (Er.C4.map CV)],.agg [.int .i64 EO.C0,.int .i64 EO.CY,.int .i64 EO.X,.int .i64 EO.Y,.int .i64 EO.C1,.int .i64 EO.CZ,.int .i64 EO.CW,.int .i64 EO.CX,.fz (EO.C2.map CV),.fz (EO.C3.map CV),.fz (EO.C4.map CV)]]) h rfl (BW (BR (zk rfl (zk rfl (zk rfl (zk rfl (zk rfl (zk rfl (zk rfl (zk rfl (zk (BT hS 1 rfl Ul (fun _=>rfl)) (zk (BT hS 2 rfl Un (fun _=>rfl)) (zk (BT hS 3 rfl Uq (fun _=>rfl)) (BQ _))))))))))))) (BW rfl BV)) fun Np Zh h=>⟨.bool Np,RO Zh (ay.nil _) fun H hS=>B1 rfl (BY rfl (BX rfl)),⟨rfl,rfl,fun _=>rfl⟩,?_⟩;try simp only [W,reduceIte]
           refine AE Kx ?_;refine Az ?_;refine AO C8 rfl ?_;try obtain rfl:=Option.some.inj h
           exact hP _ (hS.BA 18 [] (by decide))
          ·try simp only [W,hc]
           refine AE Kx ?_;refine Az ?_;refine AO C8 rfl ?_;try obtain rfl:=Option.some.inj h
           exact hP _ (hS.BA 18 [] (by decide))
         ·try simp only [W,hc]
          refine AE Kx ?_;refine Az ?_;refine AO C8 rfl ?_;try obtain rfl:=Option.some.inj h
          exact hP _ (hS.BA 18 [] (by decide))
        ·try simp only [W,hc]
         refine AE Kx ?_;refine Az ?_;refine AO C8 rfl ?_;try obtain rfl:=Option.some.inj h
         exact hP _ (hS.BA 18 [] (by decide))
       ·try simp only [W,hc]
        refine AE Kx ?_;refine Az ?_;refine AO C8 rfl ?_;try obtain rfl:=Option.some.inj h
        exact hP _ (hS.BA 18 [] (by decide))
      ·try simp only [W,hc]
       refine AE Kx ?_;refine Az ?_;refine AO C8 rfl ?_;try obtain rfl:=Option.some.inj h
       exact hP _ (hS.BA 18 [] (by decide))
     ·try simp only [W,hc]
      refine AE Kx ?_;refine Az ?_;refine AO C8 rfl ?_;try obtain rfl:=Option.some.inj h
      exact hP _ (hS.BA 18 [] (by decide))
end Go.Gq
