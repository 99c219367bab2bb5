import Derived.Test.YtmbfhipfcjmhmaaGreatVgF
import Derived.Test.YtmbfhipfcjmhmaaGreatProg
import Derived.Test.YtmbfhipfcjmhmaaGreatVaG
import Derived.KernelRfl
open Go Go.VS
set_option maxRecDepth 8000
set_option maxHeartbeats 4000000
namespace Go.JN
def Hl (x:Span):AV:= .agg [.int .i64 x.Hk,.int .i64 x.To]
def Hp (x:Hj):AV:= .agg [.int .i64 x.Id,.int .i64 x.Hh,.str x.Text,.fz (x.Has.map Hl)]
def Zo (x:Ho):AV:= .agg [.fz (x.Hg.map Hp),.fz (x.Told.map (AV.int .i64))]
def HP (x:Part):AV:= .agg [.int .i64 x.Id,.int .i64 x.At,.int .i64 x.Hh,.str x.Text]
def Zp (x:HE):AV:= .agg [.fz (x.Code.map (AV.int .u8)),.int .i64 x.At,.int .u64 x.Ib]
def E:aK:=fun t=>match t with
 |3=>some {sz:=1,agg:=false,zero:=[AV.int IntKind.i64 0],bytes:=8,aw:=UD.it IntKind.i64,lP:=true}
 |4=>some {sz:=1,agg:=false,zero:=[AV.bool false],bytes:=1,aw:=UD.bl,lP:=true}
 |5=>some {sz:=1,agg:=false,zero:=[AV.int IntKind.u8 0],bytes:=1,aw:=UD.it IntKind.u8,lP:=true}
 |9=>some {sz:=1,agg:=false,zero:=[AV.str []],bytes:=16,aw:=UD.str,lP:=true}
 |22=>some {sz:=1,agg:=false,zero:=[AV.nil],bytes:=24,aw:=UD.sl 5,lP:=true}
 |23=>some {sz:=1,agg:=false,zero:=[AV.nil],bytes:=24,aw:=UD.sl 41,lP:=true}
 |25=>some {sz:=1,agg:=false,zero:=[AV.nil],bytes:=24,aw:=UD.sl 99,lP:=true}
 |26=>some {sz:=1,agg:=false,zero:=[AV.nil],bytes:=24,aw:=UD.sl 3,lP:=true}
 |28=>some {sz:=2,agg:=true,zero:=[AV.nil,AV.nil],bytes:=48,aw:=UD.st [(0,25),(1,26)],lP:=true}
 |29=>some {sz:=1,agg:=false,zero:=[AV.nil],bytes:=24,aw:=UD.sl 9,lP:=true}
 |41=>some {sz:=4,agg:=true,zero:=[AV.int IntKind.i64 0,AV.int IntKind.i64 0,AV.int IntKind.i64 0,AV.str []],bytes:=40,aw:=UD.st [(0,3),(1,3),(2,3),(3,9)],lP:=true}
 |89=>some {sz:=1,agg:=false,zero:=[AV.eb],bytes:=8,aw:=UD.pt,lP:=true}
 |90=>some {sz:=1,agg:=false,zero:=[AV.int IntKind.u64 0],bytes:=8,aw:=UD.it IntKind.u64,lP:=true}
 |92=>some {sz:=3,agg:=true,zero:=[AV.nil,AV.int IntKind.i64 0,AV.int IntKind.u64 0],bytes:=40,aw:=UD.st [(0,22),(1,3),(2,90)],lP:=true}
 |97=>some {sz:=1,agg:=false,zero:=[AV.nil],bytes:=24,aw:=UD.sl 153,lP:=true}
 |99=>some {sz:=4,agg:=true,zero:=[AV.int IntKind.i64 0,AV.int IntKind.i64 0,AV.str [],AV.nil],bytes:=56,aw:=UD.st [(0,3),(1,3),(2,9),(3,97)],lP:=true}
 |108=>some {sz:=1,agg:=false,zero:=[AV.undef],bytes:=8,aw:=UD.ot,lP:=true}
 |153=>some {sz:=2,agg:=true,zero:=[AV.int IntKind.i64 0,AV.int IntKind.i64 0],bytes:=16,aw:=UD.st [(0,3),(1,3)],lP:=true}
 |154=>some {sz:=1,agg:=false,zero:=[AV.int IntKind.u64 0],bytes:=8,aw:=UD.it IntKind.u64,lP:=true}
 |178=>some {sz:=1,agg:=false,zero:=[AV.undef],bytes:=8,aw:=UD.ot,lP:=true}
 |213=>some {sz:=1,agg:=false,zero:=[AV.undef],bytes:=8,aw:=UD.ot,lP:=true}
 |_=>none
def fU:FuncId→hJ:=fun f=>match f with
 |3=>{bS:=[[.sc]],loops:=[(0,{keep:=[1,16,17,19,20,133,134]})],blocks:=[(0,[1,16,20])],gB:=[(6,[],some [0,1,5,6,7,8,70]),(9,[],some [0,1,5,7,82]),(12,[],some [0,1,114]),(26,[],some [1,183]),(28,[([],[]),([26],[.sl [.sc,.sc,.sc,.sl [.sc,.sc]],.sc])],none)],fz:=[(4,[(1,[([45,5,43],[.sl [.sc,.sc,.sc,.sc]])])]),(11,[(5,[([88],[.sl [.sc,.sc,.sc,.sc]])])]),(25,[(1,[([153,20],[.sl [.sc,.sc,.sc,.sc]])])]),(28,[(7,[([187],[.sl [.sc,.sc,.sc,.sl [.sc,.sc]],.sl [.sc]])])])],zm:=[(71,[0,1]),(126,[1])]}
 |7=>{bS:=[[.sl [.sc,.sc,.sc,.sc]]]}
 |8=>{bS:=[[.sl [.sc,.sc,.sc,.sl [.sc,.sc]],.sl [.sc]],[.sl [.sc]],[.sc]],loops:=[(0,{keep:=[2,5,6,19,20,21]})],blocks:=[(1,[2,5,6,19,20,21]),(0,[2,5,6])],fz:=[(7,[(2,[([26],[.sl [.sc,.sc,.sc,.sl [.sc,.sc]],.sl [.sc]])])])],zm:=[(37,[2,5,6,19,20,21])]}
 |9=>{bS:=[[.sl [.sc,.sc,.sc,.sl [.sc,.sc]],.sl [.sc]],[.sl [.sc]],[.sc]],loops:=[(0,{keep:=[2,5,6,17,18,19]})],blocks:=[(1,[2,5,6,17,18,19]),(0,[2,5,6])],gB:=[(1,[([],[]),([5],[.sl [.sc,.sc,.sc,.sl [.sc,.sc]],.sl [.sc]])],none)],fz:=[(10,[(2,[([28],[.sl [.sc,.sc,.sc,.sl [.sc,.sc]],.sl [.sc]])])])],zm:=[(39,[2,5,6,17,18,19])]}
 |10=>{bS:=[[.sc]],loops:=[(0,{keep:=[0,1,12,13]})],blocks:=[(0,[])]}
 |11=>{bS:=[[.sc]],loops:=[(0,{keep:=[2,3,23,24]})],blocks:=[(0,[])],gB:=[(1,[],some [2,3,20])]}
 |12=>{bS:=[[.sc]],loops:=[(0,{keep:=[1,18,19,20]}),(2,{keep:=[1,56,57,58]})],blocks:=[(0,[1]),(2,[])],gB:=[(1,[],some [1,16]),(6,[],some [1,18,19,20,53]),(12,[],some [1,56,57,58,79])]}
 |13=>{bS:=[[.sc],[.sc]],fz:=[(2,[(2,[([9],[.sl [.sc]])])])]}
 |14=>{bS:=[[.sl [.sc,.sc,.sc,.sc]],[.sc]],loops:=[(0,{keep:=[0,1,6,7]})],blocks:=[(0,[6])]}
 |15=>{bS:=[[.sc]],loops:=[(0,{keep:=[3,6,7,8]})],blocks:=[(0,[3])]}
 |16=>{bS:=[[.sl [.sc,.sc,.sc,.sl [.sc,.sc]],.sl [.sc]],[.sc,.sc,.sc,.sc]],pu:=[(6,[4,5],[])]}
 |17=>{bS:=[[.sl [.sc,.sc,.sc,.sl [.sc,.sc]],.sl [.sc]],[.sc],[.sc],[.sc]],pu:=[(8,[9,11],[]),(9,[12],[]),(20,[3],[])],gB:=[(1,[],some [2,3,4,21]),(5,[],some [3,4,8,9,10,51])],zm:=[(54,[3,4,8,9]),(85,[4,8,11])]}
 |18=>{bS:=[[.sl [.sc,.sc,.sc,.sl [.sc,.sc]],.sl [.sc]],[.sc],[.sc],[.sc]],pu:=[(3,[10],[])],gB:=[(1,[],some [2,3,4,19])]}
 |19=>{bS:=[[.sc]],loops:=[(0,{keep:=[1,6,7,8]})],blocks:=[(0,[1])],gB:=[(4,[],some [1,6,7,8,42])]}
 |36=>{bS:=[[.sc]],loops:=[(0,{keep:=[0,1,12,13]})],blocks:=[(0,[])]}
 |50=>{bS:=[[.sl [.sc,.sc,.sc,.sc]]],loops:=[(0,{keep:=[0,3,4]}),(2,{keep:=[0,3,7]})],blocks:=[(0,[0,3]),(2,[0,3])],gB:=[(8,[],some [0,3,7,37]),(15,[],some [0,3,69]),(17,[],some [0,3,86]),(19,[],some [0,3,95])],fz:=[(20,[(3,[([98],[.sl [.sc]])])])],zm:=[(69,[0,3]),(86,[0,3]),(95,[3])]}
 |51=>{bS:=[[.sc]]}
 |52=>{bS:=[[.sl [.sc,.sc,.sc,.sl [.sc,.sc]],.sl [.sc]],[.sc],[.sc],[.sc]],loops:=[(0,{keep:=[2,3,4,8]})],blocks:=[(0,[2,3,4,8])],pu:=[(22,[8,11],[]),(24,[4,7],[]),(25,[5],[])],hM:=[(22,[0,1,3,4,5,6,9,10,2,7,8,11,12,13,14]),(24,[0,1,3,4,2,5,6,7])],gB:=[(4,[],some [2,3,4,8,38]),(6,[],some [2,3,4,8,9]),(22,[([],[]),([4],[.sl [.sc,.sc,.sc,.sl [.sc,.sc]],.sc])],none),(24,[([],[]),([16],[.sl [.sc,.sc,.sc,.sl [.sc,.sc]],.sc])],none)],fz:=[(7,[(6,[([61],[.sc,.sc,.sc,.sl [.sc,.sc]])])]),(12,[(8,[([78],[.sc,.sc,.sc,.sl [.sc,.sc]])])])],zm:=[(62,[2,3,4,8,9,10]),(94,[2,3,4,11,14,15])]}
 |53=>{bS:=[[.sl [.sc,.sc,.sc,.sl [.sc,.sc]],.sl [.sc]]],loops:=[(0,{keep:=[2,3,12,13,14]})],blocks:=[(0,[2,3])],fz:=[(5,[(5,[([21],[.sl [.sc,.sc]])])])]}
 |54=>{bS:=[[.sc]]}
 |55=>{bS:=[[.sc]],loops:=[(0,{keep:=[1,27,28]})],blocks:=[(0,[])],gB:=[(1,[],some [1,25]),(6,[],some [1,27,28,42])]}
 |56=>{bS:=[[.sc]]}
 |57=>{bS:=[[.sc]]}
 |58=>{bS:=[[.sc]]}
 |59=>{bS:=[[.sc]]}
 |60=>{bS:=[[.sc]],fz:=[(1,[(2,[([5],[.sl [.sc]])])]),(3,[(2,[([10],[.sl [.sc]])])])],zm:=[(8,[3])]}
 |61=>{bS:=[[.sc]]}
 |62=>{bS:=[[.sl [.sc,.sc,.sc,.sl [.sc,.sc]],.sl [.sc]]],pu:=[(5,[3,5,7],[])],fz:=[(1,[(2,[([8],[.sl [.sc,.sc,.sc,.sc]])])])],zm:=[(14,[0,2,3]),(18,[2,3])]}
 |63=>{bS:=[[.sc]]}
 |64=>{bS:=[[.sl [.sc,.sc,.sc,.sl [.sc,.sc]],.sl [.sc]]],loops:=[(0,{keep:=[2,3,14,15,16]})],blocks:=[(0,[2,3])],pu:=[(1,[8],[2,5]),(5,[8],[])]}
 |65=>{bS:=[[.sc],[.sc]],loops:=[(0,{keep:=[0,1,2,8,9,10]})],blocks:=[(1,[0,1,2,8,9,10]),(0,[0,1,2,8,9])],zm:=[(31,[0,1,2,8,9,10])]}
 |66=>{bS:=[[.sc]]}
 |67=>{bS:=[[.sl [.sc,.sc,.sc,.sl [.sc,.sc]]]]}
 |68=>{bS:=[[.sc,.sc,.sc,.sl [.sc,.sc]]]}
 |69=>{bS:=[[.sc,.sc,.sc,.sl [.sc,.sc]],[.sc],[.sc]],loops:=[(0,{keep:=[2,3,4,7,8,10,59,60]})],blocks:=[(1,[2,3,4,7,8,10,59,60]),(0,[2,4,7,8,10])],pu:=[(11,[10],[])],gB:=[(1,[],some [2,3,4,33])],zm:=[(70,[2,3,4,7,8,10,59,60])]}
 |70=>{bS:=[[.sl [.sc,.sc,.sc,.sl [.sc,.sc]]]],pu:=[(5,[6],[])]}
 |71=>{bS:=[]}
 |72=>{bS:=[[.sc]],loops:=[(0,{keep:=[1,3]})],blocks:=[(0,[])],gB:=[(1,[],some [1,25]),(6,[],some [1,3,43])]}
 |73=>{bS:=[[.sc]]}
 |74=>{bS:=[[.sc]],loops:=[(0,{keep:=[1,7,8,9]})],blocks:=[(0,[])]}
 |75=>{bS:=[[.sc]],loops:=[(0,{keep:=[0,1,7,8,9]})],blocks:=[(0,[])],gB:=[(4,[],some [0,1,7,8,9,31])]}
 |84=>{bS:=[[.sc]],zm:=[(11,[1,5])]}
 |92=>{bS:=[[.sc]]}
 |98=>{bS:=[[.sl [.sc,.sc,.sc,.sc]],[.sc]],loops:=[(0,{keep:=[0,1,6,7]})],blocks:=[(0,[6])]}
 |99=>{bS:=[[.sc]]}
 |100=>{bS:=[[.sc]]}
 |101=>{bS:=[[.sc,.sc,.sc,.sl [.sc,.sc]]]}
 |102=>{bS:=[[.sc,.sc,.sc,.sl [.sc,.sc]],[.sc],[.sc]],loops:=[(0,{keep:=[2,3,4,7,8,16]})],blocks:=[(1,[2,3,4,7,8,16]),(0,[2,3,4,7,8])],pu:=[(7,[10],[])],zn:=[3],zm:=[(27,[2,3,4,7,8,16])]}
 |103=>{bS:=[[.sl [.sc]]],loops:=[(0,{keep:=[0,1,5]})],blocks:=[(0,[0,1,5])],gB:=[(2,[],some [0,1,5,18])]}
 |104=>{bS:=[[.sc]],loops:=[(0,{keep:=[0,1,12,13]})],blocks:=[(0,[])]}
 |105=>{bS:=[[.sc]]}
 |106=>{bS:=[[.sc]]}
 |107=>{bS:=[[.sc]],loops:=[(0,{keep:=[3,6,7,8]})],blocks:=[(0,[3])]}
 |108=>{bS:=[[.sc]],loops:=[(0,{keep:=[0,1,7,8]})],blocks:=[(0,[])]}
 |109=>{bS:=[[.sc]]}
 |110=>{bS:=[[.sl [.sc,.sc,.sc,.sl [.sc,.sc]]]]}
 |111=>{bS:=[[.sl [.sc]]]}
 |112=>{bS:=[[.sl [.sc,.sc]]]}
 |115=>{bS:=[[.sc]]}
 |116=>{bS:=[[.sl [.sc,.sc]],[.sc],[.sc]],pu:=[(3,[4,6],[1,5])],gB:=[(1,[],some [0,3,16])]}
 |119=>{bS:=[[.sc]]}
 |120=>{bS:=[[.sc]],loops:=[(0,{keep:=[1,7,8,9]})],blocks:=[(0,[])],gB:=[(4,[],some [1,7,8,9,22])]}
 |121=>{bS:=[[.sc]],loops:=[(0,{keep:=[3,6,7,8]})],blocks:=[(0,[3])]}
 |132=>{bS:=[[.sc]],zm:=[(13,[0,3])]}
 |139=>{bS:=[[.sc]]}
 |140=>{bS:=[[.sl [.sc,.sc]]],loops:=[(0,{keep:=[0,3,5,6]}),(2,{keep:=[0,3,5,6]})],blocks:=[(0,[0,3,5,6]),(2,[0,3,5,6])],pu:=[(7,[17],[])],gB:=[(3,[],some [0,3,5,6,20]),(6,[],some [0,3,5,6,43])]}
 |141=>{bS:=[[.sc]],loops:=[(0,{keep:=[0,8,9,10]})],blocks:=[(0,[])],gB:=[(6,[],some [0,8,9,10,32])]}
 |142=>{bS:=[[.sc]]}
 |143=>{bS:=[[.sc]]}
 |151=>{bS:=[[.sc]]}
 |152=>{bS:=[[.sl [.sc,.sc]],[.sc]]}
 |153=>{bS:=[[.sl [.sc,.sc]]],loops:=[(0,{keep:=[4,13,14,15]})],blocks:=[(1,[4,13,14,15]),(0,[4])],pu:=[(8,[12],[])],gB:=[(7,[],some [4,6,7,13,14,15,33])]}
 |165=>{bS:=[[.sc]],loops:=[(0,{keep:=[0,5,6,7]})],blocks:=[(0,[0])],gB:=[(4,[],some [0,5,6,7,29])]}
 |169=>{bS:=[[.sc]]}
 |170=>{bS:=[[.sc]],loops:=[(0,{keep:=[0,1,7,8]})],blocks:=[(0,[])]}
 |177=>{bS:=[]}
 |185=>{bS:=[[.sc]]}
 |_=>{}
noncomputable def code:FuncId→Option Func:=fun f=>match f with
 |3=>some Go.Proofs.Tryz.f3
 |7=>some Go.Proofs.Tryz.f7
 |8=>some Go.Proofs.Tryz.f8
 |9=>some Go.Proofs.Tryz.f9
 |10=>some Go.Proofs.Tryz.f10
 |11=>some Go.Proofs.Tryz.f11
 |12=>some Go.Proofs.Tryz.f12
 |13=>some Go.Proofs.Tryz.f13
 |14=>some Go.Proofs.Tryz.f14
 |15=>some Go.Proofs.Tryz.f15
 |16=>some Go.Proofs.Tryz.f16
 |17=>some Go.Proofs.Tryz.f17
 |18=>some Go.Proofs.Tryz.f18
 |19=>some Go.Proofs.Tryz.f19
 |36=>some Go.Proofs.Tryz.f36
 |50=>some Go.Proofs.Tryz.f50
 |51=>some Go.Proofs.Tryz.f51
 |52=>some Go.Proofs.Tryz.f52
 |53=>some Go.Proofs.Tryz.f53
 |54=>some Go.Proofs.Tryz.f54
 |55=>some Go.Proofs.Tryz.f55
 |56=>some Go.Proofs.Tryz.f56
 |57=>some Go.Proofs.Tryz.f57
 |58=>some Go.Proofs.Tryz.f58
 |59=>some Go.Proofs.Tryz.f59
 |60=>some Go.Proofs.Tryz.f60
 |61=>some Go.Proofs.Tryz.f61
 |62=>some Go.Proofs.Tryz.f62
 |63=>some Go.Proofs.Tryz.f63
 |64=>some Go.Proofs.Tryz.f64
 |65=>some Go.Proofs.Tryz.f65
 |66=>some Go.Proofs.Tryz.f66
 |68=>some Go.Proofs.Tryz.f68
 |69=>some Go.Proofs.Tryz.f69
 |70=>some Go.Proofs.Tryz.f70
 |72=>some Go.Proofs.Tryz.f72
 |73=>some Go.Proofs.Tryz.f73
 |74=>some Go.Proofs.Tryz.f74
 |75=>some Go.Proofs.Tryz.f75
 |84=>some Go.Proofs.Tryz.f84
 |92=>some Go.Proofs.Tryz.f92
 |98=>some Go.Proofs.Tryz.f98
 |99=>some Go.Proofs.Tryz.f99
 |100=>some Go.Proofs.Tryz.f100
 |101=>some Go.Proofs.Tryz.f101
 |102=>some Go.Proofs.Tryz.f102
 |103=>some Go.Proofs.Tryz.f103
 |104=>some Go.Proofs.Tryz.f104
 |105=>some Go.Proofs.Tryz.f105
 |106=>some Go.Proofs.Tryz.f106
 |107=>some Go.Proofs.Tryz.f107
 |108=>some Go.Proofs.Tryz.f108
 |109=>some Go.Proofs.Tryz.f109
 |116=>some Go.Proofs.Tryz.f116
 |119=>some Go.Proofs.Tryz.f119
 |120=>some Go.Proofs.Tryz.f120
 |121=>some Go.Proofs.Tryz.f121
 |132=>some Go.Proofs.Tryz.f132
 |139=>some Go.Proofs.Tryz.f139
 |140=>some Go.Proofs.Tryz.f140
 |141=>some Go.Proofs.Tryz.f141
 |142=>some Go.Proofs.Tryz.f142
 |143=>some Go.Proofs.Tryz.f143
 |151=>some Go.Proofs.Tryz.f151
 |152=>some Go.Proofs.Tryz.f152
 |153=>some Go.Proofs.Tryz.f153
 |165=>some Go.Proofs.Tryz.f165
 |169=>some Go.Proofs.Tryz.f169
 |170=>some Go.Proofs.Tryz.f170
 |185=>some Go.Proofs.Tryz.f185
 |_=>none
def JG:nh:=[(67,pk 4 56),(71,pj),(110,sk 4 56),(111,sk 1 8),(112,sk 2 16),(115,sm),(177,ph 178 2)]
noncomputable def C:aJ:=⟨E,fU,code,jX JG⟩
theorem gC:Go.VS.Good C:=G8 (I:=JG) rfl
theorem V4:C.E=E:=rfl
theorem V5:E 3=some {sz:=1,agg:=false,zero:=[AV.int IntKind.i64 0],bytes:=8,aw:=UD.it IntKind.i64,lP:=true}:=rfl
theorem V6:E 4=some {sz:=1,agg:=false,zero:=[AV.bool false],bytes:=1,aw:=UD.bl,lP:=true}:=rfl
theorem V7:E 5=some {sz:=1,agg:=false,zero:=[AV.int IntKind.u8 0],bytes:=1,aw:=UD.it IntKind.u8,lP:=true}:=rfl
theorem V8:E 9=some {sz:=1,agg:=false,zero:=[AV.str []],bytes:=16,aw:=UD.str,lP:=true}:=rfl
theorem V9:E 22=some {sz:=1,agg:=false,zero:=[AV.nil],bytes:=24,aw:=UD.sl 5,lP:=true}:=rfl
theorem V_:E 23=some {sz:=1,agg:=false,zero:=[AV.nil],bytes:=24,aw:=UD.sl 41,lP:=true}:=rfl
theorem Wa:E 25=some {sz:=1,agg:=false,zero:=[AV.nil],bytes:=24,aw:=UD.sl 99,lP:=true}:=rfl
theorem Wb:E 26=some {sz:=1,agg:=false,zero:=[AV.nil],bytes:=24,aw:=UD.sl 3,lP:=true}:=rfl
theorem Wc:E 28=some {sz:=2,agg:=true,zero:=[AV.nil,AV.nil],bytes:=48,aw:=UD.st [(0,25),(1,26)],lP:=true}:=rfl
theorem Wd:E 29=some {sz:=1,agg:=false,zero:=[AV.nil],bytes:=24,aw:=UD.sl 9,lP:=true}:=rfl
theorem We:E 41=some {sz:=4,agg:=true,zero:=[AV.int IntKind.i64 0,AV.int IntKind.i64 0,AV.int IntKind.i64 0,AV.str []],bytes:=40,aw:=UD.st [(0,3),(1,3),(2,3),(3,9)],lP:=true}:=rfl
theorem Wf:E 89=some {sz:=1,agg:=false,zero:=[AV.eb],bytes:=8,aw:=UD.pt,lP:=true}:=rfl
theorem Wg:E 90=some {sz:=1,agg:=false,zero:=[AV.int IntKind.u64 0],bytes:=8,aw:=UD.it IntKind.u64,lP:=true}:=rfl
theorem Wh:E 92=some {sz:=3,agg:=true,zero:=[AV.nil,AV.int IntKind.i64 0,AV.int IntKind.u64 0],bytes:=40,aw:=UD.st [(0,22),(1,3),(2,90)],lP:=true}:=rfl
theorem Wi:E 97=some {sz:=1,agg:=false,zero:=[AV.nil],bytes:=24,aw:=UD.sl 153,lP:=true}:=rfl
theorem Wj:E 99=some {sz:=4,agg:=true,zero:=[AV.int IntKind.i64 0,AV.int IntKind.i64 0,AV.str [],AV.nil],bytes:=56,aw:=UD.st [(0,3),(1,3),(2,9),(3,97)],lP:=true}:=rfl
theorem Wk:E 108=some {sz:=1,agg:=false,zero:=[AV.undef],bytes:=8,aw:=UD.ot,lP:=true}:=rfl
theorem Wl:E 153=some {sz:=2,agg:=true,zero:=[AV.int IntKind.i64 0,AV.int IntKind.i64 0],bytes:=16,aw:=UD.st [(0,3),(1,3)],lP:=true}:=rfl
theorem Wm:E 154=some {sz:=1,agg:=false,zero:=[AV.int IntKind.u64 0],bytes:=8,aw:=UD.it IntKind.u64,lP:=true}:=rfl
theorem Wn:E 178=some {sz:=1,agg:=false,zero:=[AV.undef],bytes:=8,aw:=UD.ot,lP:=true}:=rfl
theorem Wo:E 213=some {sz:=1,agg:=false,zero:=[AV.undef],bytes:=8,aw:=UD.ot,lP:=true}:=rfl
theorem Hf:type_of% (And.intro @V4<|And.intro @V5<|And.intro @V6<|And.intro @V7<|And.intro @V8<|And.intro @V9<|And.intro @V_<|And.intro @Wa<|And.intro @Wb<|And.intro @Wc<|And.intro @Wd<|And.intro @We<|And.intro @Wf<|And.intro @Wg<|And.intro @Wh<|And.intro @Wi<|And.intro @Wj<|And.intro @Wk<|And.intro @Wl<|And.intro @Wm<|And.intro @Wn @Wo):=And.intro @V4<|And.intro @V5<|And.intro @V6<|And.intro @V7<|And.intro @V8<|And.intro @V9<|And.intro @V_<|And.intro @Wa<|And.intro @Wb<|And.intro @Wc<|And.intro @Wd<|And.intro @We<|And.intro @Wf<|And.intro @Wg<|And.intro @Wh<|And.intro @Wi<|And.intro @Wj<|And.intro @Wk<|And.intro @Wl<|And.intro @Wm<|And.intro @Wn @Wo
theorem Wp (x:Hj):Hp x= .agg [.int .i64 x.Id,.int .i64 x.Hh,.str x.Text,.fz (x.Has.map Hl)]:=rfl
theorem Wq (x:HE):Zp x= .agg [.fz (x.Code.map (AV.int .u8)),.int .i64 x.At,.int .u64 x.Ib]:=rfl
theorem Wr (x:Part):HP x= .agg [.int .i64 x.Id,.int .i64 x.At,.int .i64 x.Hh,.str x.Text]:=rfl
theorem Ws (x:Span):Hl x= .agg [.int .i64 x.Hk,.int .i64 x.To]:=rfl
theorem Wt (x:Ho):Zo x= .agg [.fz (x.Hg.map Hp),.fz (x.Told.map (AV.int .i64))]:=rfl
theorem HL:type_of% (And.intro @Wp<|And.intro @Wq<|And.intro @Wr<|And.intro @Ws<|And.intro @Wt<|And.intro @Gj @xa):=And.intro @Wp<|And.intro @Wq<|And.intro @Wr<|And.intro @Ws<|And.intro @Wt<|And.intro @Gj @xa
theorem Wu {a0:HE} {i0:Nat} {w0:Nat} {r:(Int×HE)} (h:OJ a0=some r) {F:List It} {H:J} (hS:aA H (⟨.ptr i0 w0 0 0,3,[.agg [.fz (a0.Code.map (AV.int .u8)),.int .i64 a0.At,.int .u64 a0.Ib]]⟩::F)) {P:AV→J→Prop} (hP: ∀H',aA H' (⟨.ptr i0 w0 0 0,3,[.agg [.fz (r.2.Code.map (AV.int .u8)),.int .i64 r.2.At,.int .u64 r.2.Ib]]⟩::F)→P (.int .i64 r.1) H'):aq C 132 [.ptr i0 w0 0 0] H P:=by
 refine EO gC (res:=[.tmp 2]) (n:=62) rfl rfl rfl rfl fun K0 Hi=> ?_;simp only [W,Nat.reduceSub,Nat.reduceAdd,List.replicate];unfold OJ at h;refine Er fun K1 Hq=> ?_;refine EL gC ?_;try simp only [W,Nat.reduceAdd]
 refine Ez Hq ?_;refine Er fun K2 Cu=> ?_;refine EL gC ?_;try simp only [W,Nat.reduceAdd]
 refine Ez Cu ?_;refine Er fun K3 HY=> ?_;refine Er fun K4 Hv=> ?_;refine EN gC (by kernel_rfl) ?_
 try simp only [W,Hf,Nat.reduceAdd,Nat.reduceBEq,hS.var 0 rfl]
 refine Ez Hv ?_;obtain ⟨TB,h,g7⟩:=Option.bind_eq_some_iff.1 h;refine E9 gC (fun s H=> ∃HI:Int,TB=(HI)∧s=(.ptr i0 w0 0 0::u::u:: .int .i64 HI::u::u::u::u::u::u::u::u::u::u::u::u::u::u::u::u::u::u::u::u::u::u::u::u::u::u::u::u::u::u::u::u::u::u::u::u::u::u::u::u::u::u::u::u::u::u::u::u::u::u::u::u::u::u::u::u::u::u::[])∧aA H (⟨.ptr i0 w0 0 0,3,[.agg [.fz (a0.Code.map (AV.int .u8)),.int .i64 a0.At,.int .u64 a0.Ib]]⟩::F)) (fun K8 HS=> ?_) (fun s H hq=> ?_)
 ·refine Er fun K9 HC=> ?_;refine Ew ?_;simp only [W];refine EK h (fun hc h=> ?_) (fun hc h=> ?_)
  ·refine EN gC (by kernel_rfl) ?_
   try simp only [W,Hf,Nat.reduceAdd,Nat.reduceBEq,hS.var 0 rfl]
   refine EX rfl rfl rfl (fun _=>rfl) h fun Jm L5 h=> ?_;try simp only [W,Hf]
   refine Ez HC ?_;refine Gw (s' :=(.ptr i0 w0 0 0::u::u:: .int .i64 (IntKind.i64.wrap Jm)::u::u::u::u::u::u::u::u::u::u::u::u::u::u::u::u::u::u::u::u::u::u::u::u::u::u::u::u::u::u::u::u::u::u::u::u::u::u::u::u::u::u::u::u::u::u::u::u::u::u::u::u::u::u::u::u::u::u::[])) rfl ?_
   exact E_ HS ⟨_,(Option.some.inj h).symm,rfl,hS⟩
  ·refine Et ?_;refine Ez HC ?_;refine Gw (s' :=(.ptr i0 w0 0 0::u::u:: .int .i64 0::u::u::u::u::u::u::u::u::u::u::u::u::u::u::u::u::u::u::u::u::u::u::u::u::u::u::u::u::u::u::u::u::u::u::u::u::u::u::u::u::u::u::u::u::u::u::u::u::u::u::u::u::u::u::u::u::u::u::[])) rfl ?_
   exact E_ HS ⟨_,(Option.some.inj h).symm,rfl,hS⟩
 ·obtain ⟨HI,Hr,rfl,hS⟩:=hq;obtain rfl:=Hr.symm;replace h:=g7;try dsimp only at h
  refine Ez HY ?_;refine Er fun Kx Iu=> ?_;refine EL gC ?_;try simp only [W,Hf,Nat.reduceAdd,Nat.reduceBEq,hS.var 0 rfl]
  refine EU (a:= .int .i64 (IntKind.i64.wrap (a0.At+1))) (y' := .agg [.fz (a0.Code.map (AV.int .u8)),.int .i64 (IntKind.i64.wrap (a0.At+1)),.int .u64 a0.Ib]) 0 hS rfl rfl rfl rfl rfl rfl rfl rfl fun H hS=> ?_
  try simp only [W]
  refine Ez Iu ?_;refine Er fun KN Ic=> ?_;refine EL gC ?_;try simp only [W,Hf,Nat.reduceAdd,Nat.reduceBEq,hS.var 0 rfl]
  refine EU (a:= .int .u64 (IntKind.u64.wrap ((IntKind.u64.wrap ((IntKind.u64.wrap (a0.Ib*6364136223846793005))+(IntKind.u64.wrap HI)))+1442695040888963407))) (y' := .agg [.fz (a0.Code.map (AV.int .u8)),.int .i64 (IntKind.i64.wrap (a0.At+1)),.int .u64 (IntKind.u64.wrap ((IntKind.u64.wrap ((IntKind.u64.wrap (a0.Ib*6364136223846793005))+(IntKind.u64.wrap HI)))+1442695040888963407))]) 0 hS rfl rfl rfl rfl rfl rfl rfl rfl fun H hS=> ?_
  try simp only [W]
  refine Ez Ic ?_;refine Er fun JS Ig=> ?_;refine Er fun J3 HZ=> ?_;refine EN gC (by kernel_rfl) ?_
  try simp only [W,Hf,Nat.reduceAdd,Nat.reduceBEq,hS.var 0 rfl]
  refine Ez HZ ?_;refine Ew ?_;simp only [W];refine EK h (fun hc h=> ?_) (fun hc h=> ?_)
  ·refine Er fun LJ IF=> ?_;refine EL gC ?_;try simp only [W,Nat.reduceAdd]
   refine Ez IF ?_;refine Eu ?_;refine EA Ig ?_;refine EH Hi rfl ?_;try obtain rfl:=Option.some.inj h
   exact hP _ hS
  ·refine Et ?_;refine Ez Ig ?_;refine Er fun JT Ie=> ?_;refine EL gC ?_;try simp only [W,Hf,Nat.reduceAdd,Nat.reduceBEq,hS.var 0 rfl]
   rw [Fc _ _ _ rfl,Option.map_some,vK];try simp only [W,Hf]
   refine Ez Ie ?_;refine Eu ?_;refine EH Hi rfl ?_;try obtain rfl:=Option.some.inj h
   exact hP _ hS
theorem L6 {a0:HE} {a1:Int} {i0:Nat} {w0:Nat} {r:(Int×HE)} (h:J_ a0 a1=some r) {F:List It} {H:J} (hS:aA H (⟨.ptr i0 w0 0 0,3,[.agg [.fz (a0.Code.map (AV.int .u8)),.int .i64 a0.At,.int .u64 a0.Ib]]⟩::F)) {P:AV→J→Prop} (hP: ∀H',aA H' (⟨.ptr i0 w0 0 0,3,[.agg [.fz (r.2.Code.map (AV.int .u8)),.int .i64 r.2.At,.int .u64 r.2.Ib]]⟩::F)→P (.int .i64 r.1) H'):aq C 84 [.ptr i0 w0 0 0,.int .i64 a1] H P:=by
 refine EO gC (res:=[.tmp 4]) (n:=20) rfl rfl rfl rfl fun K0 Hi=> ?_;simp only [W,Nat.reduceSub,Nat.reduceAdd,List.replicate];unfold J_ at h;refine Er fun K1 Hq=> ?_;refine EL gC ?_;try simp only [W,Nat.reduceAdd]
 refine Ez Hq ?_;refine Er fun K2 Cu=> ?_;refine Er fun K3 HY=> ?_;refine EL gC ?_;try simp only [W,Hf,Nat.reduceAdd]
 refine Ez HY ?_;refine Ew ?_;simp only [W];refine EK h (fun hc h=> ?_) (fun hc h=> ?_)
 ·refine Er fun K4 Hv=> ?_;refine EL gC ?_;try simp only [W,Nat.reduceAdd]
  refine Ez Hv ?_;refine Eu ?_;refine EA Cu ?_;refine EH Hi rfl ?_;try obtain rfl:=Option.some.inj h
  exact hP _ hS
 ·refine Et ?_;refine Ez Cu ?_;refine Er fun K5 H9=> ?_;refine EL gC ?_;try simp only [W,Nat.reduceAdd]
  refine E4 h fun Ip LK h=> ?_;obtain ⟨HT,MX⟩:=Ip;try dsimp only at h
  refine Wu LK hS fun H hS=> ?_;try simp only [W]
  refine Ez H9 ?_;refine Er fun K9 HC=> ?_;refine Er fun J4 H_=> ?_;refine EL gC ?_;try simp only [W,Hf,Nat.reduceAdd]
  refine Ez H_ ?_;obtain ⟨N4,h,g16⟩:=Option.bind_eq_some_iff.1 h;refine E9 gC (fun s H=> ∃Jn:Int,∃HX:List Int,∃H7:Int,∃HF:Int,N4=(Jn,HX,H7,HF)∧s=[u,.int .i64 a1,u,u,u,.int .i64 Jn,u,u,u,u,u,u,u,u,u,u,u,u,u,u]∧aA H (⟨.ptr i0 w0 0 0,3,[.agg [.fz (HX.map (AV.int .u8)),.int .i64 H7,.int .u64 HF]]⟩::F)) (fun Jb HJ=> ?_) (fun s H hq=> ?_)
  ·refine Er fun Jp HQ=> ?_;refine Ew ?_;simp only [W];refine EK h (fun hc h=> ?_) (fun hc h=> ?_)
   ·refine EL gC ?_;try simp only [W,Hf,Nat.reduceAdd]
    refine E4 h fun IE Mu h=> ?_;obtain ⟨Io,HU⟩:=IE;try dsimp only at h
    refine Wu Mu hS fun H hS=> ?_;try simp only [W,Hf]
    refine Ez HQ ?_;refine Ey ?_;exact E_ HJ ⟨_,_,_,_,(Option.some.inj h).symm,rfl,hS⟩
   ·refine Et ?_;refine Ez HQ ?_;refine Ey ?_;exact E_ HJ ⟨_,_,_,_,(Option.some.inj h).symm,rfl,hS⟩
  ·obtain ⟨Jn,HX,H7,HF,rfl,rfl,hS⟩:=hq;replace h:=g16;try dsimp only at h
   refine Ez HC ?_;refine Er fun N5 JH=> ?_;refine EL gC ?_;try simp only [W,Hf,Nat.reduceAdd]
   refine w_num _ h fun MY ae5 h=> ?_;try simp only [W]
   refine Ez JH ?_;refine Eu ?_;refine EH Hi rfl ?_;try obtain rfl:=Option.some.inj h
   exact hP _ hS
theorem Zq {a0:HE} {a1:List (List UInt8)} {i0:Nat} {w0:Nat} {r:(List UInt8×HE)} (h:PX a0 a1=some r) {F:List It} {H:J} (hS:aA H (⟨.ptr i0 w0 0 0,3,[.agg [.fz (a0.Code.map (AV.int .u8)),.int .i64 a0.At,.int .u64 a0.Ib]]⟩::F)) {P:AV→J→Prop} (hP: ∀H',aA H' (⟨.ptr i0 w0 0 0,3,[.agg [.fz (r.2.Code.map (AV.int .u8)),.int .i64 r.2.At,.int .u64 r.2.Ib]]⟩::F)→P (.str r.1) H'):aq C 109 [.ptr i0 w0 0 0,.fz (a1.map AV.str)] H P:=by
 refine EO gC (res:=[.tmp 4]) (n:=12) rfl rfl rfl rfl fun K0 Hi=> ?_;simp only [W,Nat.reduceSub,Nat.reduceAdd,List.replicate];unfold PX at h;refine Er fun K1 Hq=> ?_;refine EL gC ?_;try simp only [W,Nat.reduceAdd]
 refine Ez Hq ?_;refine Er fun K2 Cu=> ?_;refine EL gC ?_;try simp only [W,Hf,Nat.reduceAdd]
 refine E4 h fun b3 mc h=> ?_;obtain ⟨IG,Iz⟩:=b3;try dsimp only at h
 refine L6 mc hS fun H hS=> ?_;try simp only [W,Hf]
 refine EX rfl rfl rfl (fun _=>rfl) h fun Ip LK h=> ?_;try simp only [W,Hf]
 refine Ez Cu ?_;refine Eu ?_;refine EH Hi rfl ?_;try obtain rfl:=Option.some.inj h
 exact hP _ hS
theorem QX {a0:HE} {a1:Int} {i0:Nat} {w0:Nat} {r:(Bool×HE)} (h:LZ a0 a1=some r) {F:List It} {H:J} (hS:aA H (⟨.ptr i0 w0 0 0,3,[.agg [.fz (a0.Code.map (AV.int .u8)),.int .i64 a0.At,.int .u64 a0.Ib]]⟩::F)) {P:AV→J→Prop} (hP: ∀H',aA H' (⟨.ptr i0 w0 0 0,3,[.agg [.fz (r.2.Code.map (AV.int .u8)),.int .i64 r.2.At,.int .u64 r.2.Ib]]⟩::F)→P (.bool r.1) H'):aq C 99 [.ptr i0 w0 0 0,.int .i64 a1] H P:=by
 refine EO gC (res:=[.tmp 4]) (n:=9) rfl rfl rfl rfl fun K0 Hi=> ?_;simp only [W,Nat.reduceSub,Nat.reduceAdd,List.replicate];unfold LZ at h;refine Er fun K1 Hq=> ?_;refine EL gC ?_;try simp only [W,Nat.reduceAdd]
 refine Ez Hq ?_;refine Er fun K2 Cu=> ?_;refine EL gC ?_;try simp only [W,Nat.reduceAdd]
 refine E4 h fun b3 mc h=> ?_;obtain ⟨IG,Iz⟩:=b3;try dsimp only at h
 refine L6 mc hS fun H hS=> ?_;try simp only [W,Hf]
 refine Ez Cu ?_;refine Eu ?_;refine EH Hi rfl ?_;try obtain rfl:=Option.some.inj h
 exact hP _ hS
theorem TD {a0:HE} {a1:List Int} {i0:Nat} {w0:Nat} {r:(Int×HE)} (h:MZ a0 a1=some r) {F:List It} {H:J} (hS:aA H (⟨.ptr i0 w0 0 0,3,[.agg [.fz (a0.Code.map (AV.int .u8)),.int .i64 a0.At,.int .u64 a0.Ib]]⟩::F)) {P:AV→J→Prop} (hP: ∀H',aA H' (⟨.ptr i0 w0 0 0,3,[.agg [.fz (r.2.Code.map (AV.int .u8)),.int .i64 r.2.At,.int .u64 r.2.Ib]]⟩::F)→P (.int .i64 r.1) H'):aq C 59 [.ptr i0 w0 0 0,.fz (a1.map (AV.int .i64))] H P:=by
 refine EO gC (res:=[.tmp 4]) (n:=12) rfl rfl rfl rfl fun K0 Hi=> ?_;simp only [W,Nat.reduceSub,Nat.reduceAdd,List.replicate];unfold MZ at h;refine Er fun K1 Hq=> ?_;refine EL gC ?_;try simp only [W,Nat.reduceAdd]
 refine Ez Hq ?_;refine Er fun K2 Cu=> ?_;refine EL gC ?_;try simp only [W,Hf,Nat.reduceAdd]
 refine E4 h fun b3 mc h=> ?_;obtain ⟨IG,Iz⟩:=b3;try dsimp only at h
 refine L6 mc hS fun H hS=> ?_;try simp only [W,Hf]
 refine EX rfl rfl rfl (fun _=>rfl) h fun Ip LK h=> ?_;try simp only [W,Hf]
 refine Ez Cu ?_;refine Eu ?_;refine EH Hi rfl ?_;try obtain rfl:=Option.some.inj h
 exact hP _ hS
theorem Wv {a0:HE} {i0:Nat} {w0:Nat} {r:(List UInt8×HE)} (h:OK a0=some r) {F:List It} {H:J} (hS:aA H (⟨.ptr i0 w0 0 0,3,[.agg [.fz (a0.Code.map (AV.int .u8)),.int .i64 a0.At,.int .u64 a0.Ib]]⟩::F)) {P:AV→J→Prop} (hP: ∀H',aA H' (⟨.ptr i0 w0 0 0,3,[.agg [.fz (r.2.Code.map (AV.int .u8)),.int .i64 r.2.At,.int .u64 r.2.Ib]]⟩::F)→P (.str r.1) H'):aq C 60 [.ptr i0 w0 0 0] H P:=by
 refine EO gC (res:=[.tmp 2]) (n:=15) rfl rfl rfl rfl fun K0 Hi=> ?_;simp only [W,Nat.reduceSub,Nat.reduceAdd,List.replicate];unfold OK at h;refine Er fun K1 Hq=> ?_;refine EL gC ?_;try simp only [W,Nat.reduceAdd]
 refine Ez Hq ?_;refine Er fun K2 Cu=> ?_;refine EM (fz:=[(2,[([5],[.sl [.sc]])])]) gC ?_;try simp only [W,Nat.reduceAdd,Nat.reduceBEq]
 refine E3 (el:=([[97],[98,108,111,99,107],[97,32,108,111,110,103,101,114,32,98,108,111,99,107,32,111,102,32,98,121,116,101,115],[0,0],[97,98,99,100],[101,120,97,99,116,108,121,32,101,105,103,104,116]]:List (List UInt8)).map AV.str) hS rfl rfl rfl rfl rfl rfl rfl fun v3 H Zr hS=> ?_;try simp only [W,Nat.reduceAdd]
 refine Fo 0 hS rfl Zr rfl (fun _ _=>by simp [a8,aT,dT]) (fun _=>rfl) fun H uq hS=> ?_
 try simp only [W]
 refine E4 h fun Iz Ke h=> ?_;obtain ⟨Ip,HT⟩:=Iz;try dsimp only at h
 refine Zq Ke hS fun H hS=> ?_;try simp only [W,Nat.reduceAdd,Nat.reduceBEq]
 refine Ez Cu ?_;refine Er fun K8 HS=> ?_;refine Er fun K9 HC=> ?_;refine EL gC ?_;try simp only [W,Nat.reduceAdd]
 refine E4 h fun Jm L5 h=> ?_;obtain ⟨If,Iw⟩:=Jm;try dsimp only at h
 refine QX L5 hS fun H hS=> ?_;try simp only [W]
 refine Ez HC ?_;obtain ⟨N6,h,g18⟩:=Option.bind_eq_some_iff.1 h;refine E9 gC (fun s H=> ∃H7:List UInt8,∃HF:List Int,∃HM:Int,∃HN:Int,N6=(H7,HF,HM,HN)∧s=[u,u,u,.str H7,u,u,u,u,u,u,u,u,u,u,u]∧aA H (⟨.ptr i0 w0 0 0,3,[.agg [.fz (HF.map (AV.int .u8)),.int .i64 HM,.int .u64 HN]]⟩::F)) (fun JA HR=> ?_) (fun s H hq=> ?_)
 ·refine Er fun J5 Ii=> ?_;refine Ew ?_;simp only [W];refine EK h (fun hc h=> ?_) (fun hc h=> ?_)
  ·refine EM (fz:=[(2,[([10],[.sl [.sc]])])]) gC ?_;try simp only [W,Nat.reduceAdd,Nat.reduceBEq]
   refine E3 (el:=([0,40,41]:List Int).map (AV.int .i64)) hS rfl rfl rfl rfl rfl rfl rfl fun v21 H QY hS=> ?_;try simp only [W,Nat.reduceAdd]
   refine Fo 0 hS rfl QY rfl (fun _ _=>by simp [a8,aT,dT]) (fun _=>rfl) fun H uq hS=> ?_
   try simp only [W]
   refine E4 h fun Jx Pt h=> ?_;obtain ⟨Kq,Kr⟩:=Jx;try dsimp only at h
   refine TD Pt hS fun H hS=> ?_;try simp only [W,Nat.reduceAdd,Nat.reduceBEq]
   refine Fj (c:=(AV.int .u8)) hS rfl rfl rfl rfl rfl rfl h fun v26 H Jg Zs hm h hS=> ?_;try simp only [W,Hf,Nat.reduceAdd,Nat.reduceBEq]
   refine Ff rfl rfl rfl rfl rfl rfl rfl (hS.jl 0 rfl Zs) (hS.CG 0 rfl) ?_;try simp only [W,Nat.reduceAdd,Nat.reduceBEq]
   refine Ez Ii ?_;refine Ey ?_;exact E_ HR ⟨_,_,_,_,(Option.some.inj h).symm,rfl,(hS.Fz 2 [1] (by decide))⟩
  ·refine Et ?_;refine Ez Ii ?_;refine Ey ?_;exact E_ HR ⟨_,_,_,_,(Option.some.inj h).symm,rfl,hS⟩
 ·obtain ⟨H7,HF,HM,HN,rfl,rfl,hS⟩:=hq;replace h:=g18;try dsimp only at h
  refine Ez HS ?_;refine Er fun L7 IP=> ?_;refine EL gC ?_;try simp only [W,Nat.reduceAdd]
  refine Ez IP ?_;refine Eu ?_;refine EH Hi rfl ?_;try obtain rfl:=Option.some.inj h
  exact hP _ hS
theorem QZ {a0:Int} {a1:Int} {a2:Int} {r:(Bool)} (h:Ml a0 a1 a2=some r) {F:List It} {H:J} (hS:aA H (F)) {P:AV→J→Prop} (hP: ∀H',aA H' (F)→P (.bool r) H'):aq C 92 [.int .i64 a0,.int .i64 a1,.int .i64 a2] H P:=by
 refine EO gC (res:=[.tmp 6]) (n:=15) rfl rfl rfl rfl fun K0 Hi=> ?_;simp only [W,Nat.reduceSub,Nat.reduceAdd,List.replicate];unfold Ml at h;refine Er fun K1 Hq=> ?_;refine EL gC ?_;try simp only [W,Nat.reduceAdd]
 refine Ez Hq ?_;refine Er fun K2 Cu=> ?_;refine EL gC ?_;try simp only [W,Hf,Nat.reduceAdd]
 refine FD h (fun hc h=> ?_) (fun hc h=> ?_)
 ·try simp only [W,Hf,reduceIte,hc]
  refine Ez Cu ?_;refine Eu ?_;refine EH Hi rfl ?_;try obtain rfl:=Option.some.inj h
  exact hP _ hS
 ·try simp only [W,hc]
  refine Ez Cu ?_;refine Eu ?_;refine EH Hi rfl ?_;try obtain rfl:=Option.some.inj h
  exact hP _ hS
theorem TE {a0:Int} {a1:Int} {r:(Bool)} (h:NG a0 a1=some r) {F:List It} {H:J} (hS:aA H (F)) {P:AV→J→Prop} (hP: ∀H',aA H' (F)→P (.bool r) H'):aq C 100 [.int .i64 a0,.int .i64 a1] H P:=by
 refine EO gC (res:=[.tmp 4]) (n:=11) rfl rfl rfl rfl fun K0 Hi=> ?_;simp only [W,Nat.reduceSub,Nat.reduceAdd,List.replicate];unfold NG at h;refine Er fun K1 Hq=> ?_;refine EL gC ?_;try simp only [W,Nat.reduceAdd]
 refine Ez Hq ?_;refine Er fun K2 Cu=> ?_;refine EL gC ?_;try simp only [W,Nat.reduceAdd]
 refine E4 h fun b3 mc h=> ?_;refine QZ mc hS fun H hS=> ?_;try simp only [W]
 refine FD h (fun hc h=> ?_) (fun hc h=> ?_)
 ·try simp only [W,hc]
  refine E4 h fun IG hb4 h=> ?_;refine QZ hb4 hS fun H hS=> ?_;try simp only [W,reduceIte]
  refine Ez Cu ?_;refine Eu ?_;refine EH Hi rfl ?_;try obtain rfl:=Option.some.inj h
  exact hP _ hS
 ·try simp only [W,hc]
  refine Ez Cu ?_;refine Eu ?_;refine EH Hi rfl ?_;try obtain rfl:=Option.some.inj h
  exact hP _ hS
theorem Ww {a0:Int} {a1:Int} {r:(Int)} (h:OL a0 a1=some r) {F:List It} {H:J} (hS:aA H (F)) {P:AV→J→Prop} (hP: ∀H',aA H' (F)→P (.int .i64 r) H'):aq C 139 [.int .i64 a0,.int .i64 a1] H P:=by
 refine EO gC (res:=[.tmp 4]) (n:=10) rfl rfl rfl rfl fun K0 Hi=> ?_;simp only [W,Nat.reduceSub,Nat.reduceAdd,List.replicate];unfold OL at h;refine Er fun K1 Hq=> ?_;refine EL gC ?_;try simp only [W,Nat.reduceAdd]
 refine Ez Hq ?_;refine Er fun K2 Cu=> ?_;refine Er fun K3 HY=> ?_;refine EL gC ?_;try simp only [W,Hf,Nat.reduceAdd]
 refine Ez HY ?_;refine Ew ?_;simp only [W];refine EK h (fun hc h=> ?_) (fun hc h=> ?_)
 ·refine Er fun K4 Hv=> ?_;refine EL gC ?_;try simp only [W,Nat.reduceAdd]
  refine Ez Hv ?_;refine Eu ?_;refine EA Cu ?_;refine EH Hi rfl ?_;try obtain rfl:=Option.some.inj h
  exact hP _ hS
 ·refine Et ?_;refine Ez Cu ?_;refine Er fun K5 H9=> ?_;refine EL gC ?_;try simp only [W,Nat.reduceAdd]
  refine Ez H9 ?_;refine Eu ?_;refine EH Hi rfl ?_;try obtain rfl:=Option.some.inj h
  exact hP _ hS
theorem Zt {a0:Int} {a1:List UInt8} {r:(List Part×Bool)} (h:PY a0 a1=some r) {F:List It} {H:J} (hS:aA H (F)) {P:AV→J→Prop} (hP: ∀v37:AV,bj v37→ ∀H',aA H' (⟨v37,4,r.1.map HP⟩::F)→P (.aD [v37,.bool r.2]) H'):aq C 98 [.int .i64 a0,.str a1] H P:=by
 refine EO gC (res:=[.tmp 4,.tmp 5]) (n:=36) rfl rfl rfl rfl fun K0 Hi=> ?_;simp only [W,Nat.reduceSub,Nat.reduceAdd,List.replicate];unfold PY at h;refine Er fun K1 Hq=> ?_;refine EL gC ?_;try simp only [W,Nat.reduceAdd]
 refine Ez Hq ?_;refine Er fun K2 Cu=> ?_;refine Er fun K3 HY=> ?_;refine EL gC ?_;try simp only [W,Hf,Nat.reduceAdd]
 refine E4 h fun IG hb4 h=> ?_;refine TE hb4 hS fun H hS=> ?_;try simp only [W]
 refine Ez HY ?_;refine Ew ?_;simp only [W];refine EK h (fun hc h=> ?_) (fun hc h=> ?_)
 ·refine Er fun K5 H9=> ?_;refine EL gC ?_;try simp only [W,Nat.reduceAdd]
  refine Ez H9 ?_;refine Eu ?_;refine EA Cu ?_;refine EI Hi rfl rfl ?_;try obtain rfl:=Option.some.inj h
  exact hP _ rL _ (hS.Fl 4)
 ·refine Et ?_;refine Ez Cu ?_;refine Er fun K6 ID=> ?_;refine EL gC ?_;try simp only [W,Nat.reduceAdd]
  refine Ez ID ?_;refine Er fun K7 IJ=> ?_;refine Er fun K8 HS=> ?_;refine EL gC ?_;try simp only [W,Nat.reduceAdd]
  refine Ez HS ?_;obtain ⟨N4,Q0,g22⟩:=Option.bind_eq_some_iff.1 h;refine E9 gC (fun s H=> ∃H7:List Part,N4=(H7)∧ ∃IX:AV,bj IX∧s=[u,u,u,u,u,u,IX,u,u,u,u,u,u,u,u,u,u,u,u,u,u,u,u,u,u,u,u,u,u,u,u,u,u,u,u,u]∧aA H (⟨IX,4,H7.map HP⟩::F)) (fun Jb HJ=> ?_) (fun s H hq=> ?_)
  ·refine Es fun Jp HQ=> ?_;refine E5 gC Q0 (fun x s H=>match x with|(Js,HX)=> ∃v10:AV,bj v10∧s=[.int .i64 a0,.str a1,u,u,u,u,v10,.int .i64 HX,u,u,u,u,u,u,u,u,u,u,u,u,u,u,u,u,u,u,u,u,u,u,u,u,u,u,u,u]∧aA H (⟨v10,4,Js.map HP⟩::F)) ⟨_,rL,rfl,(hS.Fl 4)⟩ (fun x Nh s H h Pu hi JA HR=> ?_)
   obtain ⟨Js,HX⟩:=x;try dsimp only at hi
   obtain ⟨v10,JU,rfl,hS⟩:=hi;simp only [Ry] at h;refine Er fun L8 I1=> ?_;refine Er fun Kf Iq=> ?_;refine EL gC ?_;try simp only [W,Hf,Nat.reduceAdd]
   refine Ez Iq ?_;refine Ew ?_;simp only [W];refine EK h (fun hc h=> ?_) (fun hc h=> ?_)
   ·refine Et ?_;refine Ez I1 ?_;refine Er fun Ky Il=> ?_;refine Es fun Kg Ik=> ?_;refine EL gC ?_;try simp only [W,Hf,Nat.reduceAdd]
    refine E4 h fun KH N7 h=> ?_;refine Ww N7 hS fun H hS=> ?_;try simp only [W,Hf]
    refine Fg rfl rfl h fun Jg ae6 h=> ?_;try simp only [W,Hf]
    refine FE rfl rfl rfl rfl rfl ?_;try simp only [W]
    refine E3 (el:=([(⟨a0,HX,(a1.length:Int),Jg⟩:Part)]:List Part).map HP) hS rfl rfl rfl rfl rfl rfl rfl fun Mw H Ni hS=> ?_;try simp only [W,Hf]
    refine Fk (l:=Js) (c:=HP) 1 hS rfl JU rfl rfl rfl (hS.jl 0 rfl Ni) (fun _=>rfl) rfl h fun v32 H Ks TF hm h hS=> ?_;try simp only [W]
    refine ED Ik ?_;refine Ez Il ?_;refine EL gC ?_;try simp only [W,Hf,Nat.reduceAdd]
    exact E6 HR h ⟨_,TF,rfl,(hS.Fz 2 [1] (by decide))⟩
   ·refine Ev ?_;refine EB I1 ?_;try obtain rfl:=Option.some.inj h
    obtain rfl:=Pu _ rfl;have h:(some (Js):Option ((List Part)))=some (Js):=rfl;refine E7 HR ?_;refine EE HQ ?_;exact E_ HJ ⟨_,(Option.some.inj h).symm,_,JU,rfl,hS⟩
  ·obtain ⟨H7,Hr,IX,J6,rfl,hS⟩:=hq;obtain rfl:=Hr.symm;replace h:=g22;try dsimp only at h
   refine Ez IJ ?_;refine Er fun Mx IY=> ?_;refine EL gC ?_;try simp only [W,Nat.reduceAdd]
   refine Ez IY ?_;refine Eu ?_;refine EI Hi rfl rfl ?_;try obtain rfl:=Option.some.inj h
   exact hP _ J6 _ hS
theorem TG {a0:HE} {i0:Nat} {w0:Nat} {r:(List Part×HE)} (h:NH a0=some r) {F:List It} {H:J} (hS:aA H (⟨.ptr i0 w0 0 0,3,[.agg [.fz (a0.Code.map (AV.int .u8)),.int .i64 a0.At,.int .u64 a0.Ib]]⟩::F)) {P:AV→J→Prop} (hP: ∀TJ:AV,bj TJ→ ∀H',aA H' (⟨TJ,4,r.1.map HP⟩::⟨.ptr i0 w0 0 0,3,[.agg [.fz (r.2.Code.map (AV.int .u8)),.int .i64 r.2.At,.int .u64 r.2.Ib]]⟩::F)→P (TJ) H'):aq C 50 [.ptr i0 w0 0 0] H P:=by
 refine EO gC (res:=[.tmp 2]) (n:=103) rfl rfl rfl rfl fun K0 Hi=> ?_;simp only [W,Nat.reduceSub,Nat.reduceAdd,List.replicate];unfold NH at h;refine Er fun K1 Hq=> ?_;refine EL gC ?_;try simp only [W,Nat.reduceAdd]
 refine Ez Hq ?_;refine Er fun K2 Cu=> ?_;refine EL gC ?_;try simp only [W,Nat.reduceAdd]
 refine Ez Cu ?_;refine Er fun K3 HY=> ?_;refine Er fun K4 Hv=> ?_;refine EL gC ?_;try simp only [W,Nat.reduceAdd]
 refine E4 h fun Iz Ke h=> ?_;obtain ⟨Ip,HT⟩:=Iz;try dsimp only at h
 refine L6 Ke hS fun H hS=> ?_;try simp only [W,Hf]
 refine Ez Hv ?_;obtain ⟨R7,TK,Q1⟩:=Option.bind_eq_some_iff.1 h;refine E9 gC (fun s H=> ∃HM:List Part,∃IB:List Int,∃Jo:Int,∃HV:Int,R7=(HM,IB,Jo,HV)∧ ∃IZ:AV,bj IZ∧s=(.ptr i0 w0 0 0::u::u::IZ::u::u::u::u::u::u::u::u::u::u::u::u::u::u::u::u::u::u::u::u::u::u::u::u::u::u::u::u::u::u::u::u::u::u::u::u::u::u::u::u::u::u::u::u::u::u::u::u::u::u::u::u::u::u::u::u::u::u::u::u::u::u::u::u::u::u::u::u::u::u::u::u::u::u::u::u::u::u::u::u::u::u::u::u::u::u::u::u::u::u::u::u::u::u::u::u::u::u::u::[])∧aA H (⟨IZ,4,HM.map HP⟩::⟨.ptr i0 w0 0 0,3,[.agg [.fz (IB.map (AV.int .u8)),.int .i64 Jo,.int .u64 HV]]⟩::F)) (fun N5 JH=> ?_) (fun s H hq=> ?_)
 ·refine Es fun L8 I1=> ?_;refine E5 gC TK (fun x s H=>match x with|(Jy,Jn,HX,H7,HF)=> ∃v9:AV,bj v9∧s=(.ptr i0 w0 0 0::u::u::v9:: .int .i64 Jn::u::u::u::u::u::u::u::u::u::u::u::u::u::u::u::u::u::u::u::u::u::u::u::u::u::u::u::u::u::u::u::u::u::u::u::u::u::u::u::u::u::u::u::u::u::u::u::u::u::u::u::u::u::u::u::u::u::u::u::u::u::u::u::u::u::u::u::u::u::u::u::u::u::u::u::u::u::u::u::u::u::u::u::u::u::u::u::u::u::u::u::u::u::u::u::u::u::u::[])∧aA H (⟨v9,4,Jy.map HP⟩::⟨.ptr i0 w0 0 0,3,[.agg [.fz (HX.map (AV.int .u8)),.int .i64 H7,.int .u64 HF]]⟩::F)) ⟨_,rL,rfl,(hS.Fl 4)⟩ (fun x TL s H h TM hi Kf Iq=> ?_)
  obtain ⟨Jy,Jn,HX,H7,HF⟩:=x;try dsimp only at hi
  obtain ⟨v9,L9,rfl,hS⟩:=hi;simp only [Th] at h;refine Er fun LL Ir=> ?_;refine Er fun L7 IP=> ?_;refine EL gC ?_;try simp only [W,Hf,Nat.reduceAdd]
  refine Ez IP ?_;refine Ew ?_;simp only [W];refine EK h (fun hc h=> ?_) (fun hc h=> ?_)
  ·refine Et ?_;refine Ez Ir ?_;refine Er fun L_ I2=> ?_;refine Es fun Lf IQ=> ?_;refine Er fun Ma I3=> ?_;refine EL gC ?_;try simp only [W,Nat.reduceAdd]
   refine E4 h fun LF R8 h=> ?_;obtain ⟨IV,Ix⟩:=LF;try dsimp only at h
   refine L6 R8 (hS.Fz 2 [1,0] (by decide)) fun H hS=> ?_
   try simp only [W]
   refine E4 h fun NM R9 h=> ?_;obtain ⟨JZ,Jc⟩:=NM;try dsimp only at h
   refine Wv R9 hS fun H hS=> ?_;try simp only [W]
   refine E4 h fun JO Pv h=> ?_;obtain ⟨KI,Jh⟩:=JO;try dsimp only at h
   refine Zt Pv hS fun Q2 TN H hS=> ?_;try simp only [W]
   refine Ez I3 ?_;refine EL gC ?_;try simp only [W,Hf,Nat.reduceAdd]
   refine Fk (l:=Jy) (c:=HP) 2 hS rfl L9 rfl rfl rfl (hS.jl 0 rfl TN) (fun _=>rfl) rfl h fun v45 H IA JI hm h hS=> ?_;try simp only [W]
   refine ED IQ ?_;refine Ez I2 ?_;refine EL gC ?_;try simp only [W,Hf,Nat.reduceAdd]
   exact E6 Iq h ⟨_,JI,rfl,(hS.Fz 3 [2,1] (by decide))⟩
  ·refine Ev ?_;refine EB Ir ?_;try obtain rfl:=Option.some.inj h
   obtain rfl:=TM _ rfl;have h:(some (Jy,HX,H7,HF):Option ((List Part)×(List Int)×Int×Int))=some (Jy,HX,H7,HF):=rfl;refine E7 Iq ?_;refine EE I1 ?_;exact E_ JH ⟨_,_,_,_,(Option.some.inj h).symm,_,L9,rfl,hS⟩
 ·obtain ⟨HM,IB,Jo,HV,rfl,IZ,Jk,rfl,hS⟩:=hq;replace h:=Q1;try dsimp only at h
  refine Ez HY ?_;refine Er fun My I4=> ?_;refine Er fun Pw JJ=> ?_;refine EL gC ?_;try simp only [W,Nat.reduceAdd]
  refine E4 h fun Lz Q3 h=> ?_;obtain ⟨Ku,Mm⟩:=Lz;try dsimp only at h
  refine L6 Q3 (hS.Fz 2 [1,0] (by decide)) fun H hS=> ?_
  try simp only [W]
  refine Ez JJ ?_;obtain ⟨Zu,Zv,Zw⟩:=Option.bind_eq_some_iff.1 h;refine E9 gC (fun s H=> ∃Lu:List Part,∃OM:List Int,∃ON:Int,∃OO:Int,Zu=(Lu,OM,ON,OO)∧s=(.ptr i0 w0 0 0::u::u::IZ::u::u::u::u::u::u::u::u::u::u::u::u::u::u::u::u::u::u::u::u::u::u::u::u::u::u::u::u::u::u::u::u::u::u::u::u::u::u::u::u::u::u::u::u::u::u::u::u::u::u::u::u::u::u::u::u::u::u::u::u::u::u::u::u::u::u::u::u::u::u::u::u::u::u::u::u::u::u::u::u::u::u::u::u::u::u::u::u::u::u::u::u::u::u::u::u::u::u::u::[])∧aA H (⟨IZ,4,Lu.map HP⟩::⟨.ptr i0 w0 0 0,3,[.agg [.fz (OM.map (AV.int .u8)),.int .i64 ON,.int .u64 OO]]⟩::F)) (fun Wx N8=> ?_) (fun s H hq=> ?_)
  ·refine Es fun R_ Mz=> ?_;refine E5 gC Zv (fun x s H=>match x with|(J0,M0,Jt,Kt,M1)=>s=(.ptr i0 w0 0 0::u::u::IZ::u::u::u:: .int .i64 M0::u::u::u::u::u::u::u::u::u::u::u::u::u::u::u::u::u::u::u::u::u::u::u::u::u::u::u::u::u::u::u::u::u::u::u::u::u::u::u::u::u::u::u::u::u::u::u::u::u::u::u::u::u::u::u::u::u::u::u::u::u::u::u::u::u::u::u::u::u::u::u::u::u::u::u::u::u::u::u::u::u::u::u::u::u::u::u::u::u::u::u::u::u::u::u::[])∧aA H (⟨IZ,4,J0.map HP⟩::⟨.ptr i0 w0 0 0,3,[.agg [.fz (Jt.map (AV.int .u8)),.int .i64 Kt,.int .u64 M1]]⟩::F)) ⟨rfl,(hS.Fz 2 [1,0] (by decide))⟩ (fun x y69 s H h Zx hi Wy Px=> ?_)
   obtain ⟨J0,M0,Jt,Kt,M1⟩:=x;try dsimp only at hi
   obtain ⟨rfl,hS⟩:=hi;simp only [Ti] at h;refine Er fun Sa KO=> ?_;refine Er fun Zy TO=> ?_;obtain ⟨Zz,h,ZA⟩:=Option.bind_eq_some_iff.1 h;refine E9 gC (fun s H=> ∃PZ:Bool,Zz=(PZ)∧s=(.ptr i0 w0 0 0::u::u::IZ::u::u::u:: .int .i64 M0::u::u::u::u::u::u::u::u::u::u::u::u::u::u::u::u::u::u::u::u::u::u::u::u::u::u::u::u::u:: .bool PZ::u::u::u::u::u::u::u::u::u::u::u::u::u::u::u::u::u::u::u::u::u::u::u::u::u::u::u::u::u::u::u::u::u::u::u::u::u::u::u::u::u::u::u::u::u::u::u::u::u::u::u::u::u::u::u::u::u::u::u::u::u::u::u::u::u::[])∧aA H (⟨IZ,4,J0.map HP⟩::⟨.ptr i0 w0 0 0,3,[.agg [.fz (Jt.map (AV.int .u8)),.int .i64 Kt,.int .u64 M1]]⟩::F)) (fun K76 Wz=> ?_) (fun s H hq=> ?_)
   ·refine Er fun ZB Sb=> ?_;refine EL gC ?_;try simp only [W,Hf,Nat.reduceAdd]
    refine FD h (fun hc h=> ?_) (fun hc h=> ?_)
    ·try simp only [W,Hf,hc]
     refine E1 0 hS rfl Jk rfl ?_;try simp only [W,Hf,reduceIte]
     refine Ez Sb ?_;refine Gw (s' :=(.ptr i0 w0 0 0::u::u::IZ::u::u::u:: .int .i64 M0::u::u::u::u::u::u::u::u::u::u::u::u::u::u::u::u::u::u::u::u::u::u::u::u::u::u::u::u::u:: .bool (decide (1<(J0.length:Int)))::u::u::u::u::u::u::u::u::u::u::u::u::u::u::u::u::u::u::u::u::u::u::u::u::u::u::u::u::u::u::u::u::u::u::u::u::u::u::u::u::u::u::u::u::u::u::u::u::u::u::u::u::u::u::u::u::u::u::u::u::u::u::u::u::u::[])) rfl ?_
     exact E_ Wz ⟨_,(Option.some.inj h).symm,rfl,hS⟩
    ·try simp only [W,hc]
     refine Ez Sb ?_;refine Gw (s' :=(.ptr i0 w0 0 0::u::u::IZ::u::u::u:: .int .i64 M0::u::u::u::u::u::u::u::u::u::u::u::u::u::u::u::u::u::u::u::u::u::u::u::u::u::u::u::u::u:: .bool false::u::u::u::u::u::u::u::u::u::u::u::u::u::u::u::u::u::u::u::u::u::u::u::u::u::u::u::u::u::u::u::u::u::u::u::u::u::u::u::u::u::u::u::u::u::u::u::u::u::u::u::u::u::u::u::u::u::u::u::u::u::u::u::u::u::[])) rfl ?_
     exact E_ Wz ⟨_,(Option.some.inj h).symm,rfl,hS⟩
   ·obtain ⟨PZ,Hr,rfl,hS⟩:=hq;obtain rfl:=Hr.symm;replace h:=ZA;try dsimp only at h
    refine Ez TO ?_;refine Ew ?_;simp only [W];refine EK h (fun hc h=> ?_) (fun hc h=> ?_)
    ·refine Et ?_;refine Ez KO ?_;refine Er fun K78 ZC=> ?_;refine Es fun K79 ZD=> ?_;refine Er fun ZE TP=> ?_;refine EL gC ?_;try simp only [W,Hf,Nat.reduceAdd]
     refine E1 0 hS rfl Jk rfl ?_;try simp only [W]
     refine E4 h fun ZF ZG h=> ?_;obtain ⟨P0,VO⟩:=ZF;try dsimp only at h
     refine L6 ZG (hS.Fz 2 [1,0] (by decide)) fun H hS=> ?_
     try simp only [W]
     refine Ez TP ?_;refine Er fun K84 ZH=> ?_;refine EL gC ?_;try simp only [W,Hf,Nat.reduceAdd]
     refine E1 1 hS rfl Jk rfl ?_;try simp only [W]
     refine E4 h fun ZI ZJ h=> ?_;obtain ⟨Rz,RA⟩:=ZI;try dsimp only at h
     refine L6 ZJ hS fun H hS=> ?_;try simp only [W]
     refine Ez ZH ?_;refine Er fun ZK Sc=> ?_;refine EL gC ?_;try simp only [W,Hf,Nat.reduceAdd]
     refine EY 1 hS rfl rfl rfl rfl rfl h (fun Ka ae7 ae8 ae9 ZL h ZM=> ?_) Jk.ne;obtain ⟨ae_,ZN,ZO⟩:=hS.elem 1 rfl ZM ZL;try simp only [W,Hf,HL,reduceIte,Nat.reduceAdd,Nat.reduceLeDiff,ZN,ZO]
     refine ET hS rfl rfl fun afa afb H hS=> ?_;try simp only [W]
     refine EU (a:= .agg [.int .i64 Ka.Id,.int .i64 Ka.At,.int .i64 Ka.Hh,.str Ka.Text]) (y' := .agg [.int .i64 Ka.Id,.int .i64 Ka.At,.int .i64 Ka.Hh,.str Ka.Text]) 0 hS rfl rfl rfl rfl rfl rfl rfl rfl fun H hS=> ?_
     try simp only [W]
     refine Ez Sc ?_;refine Er fun WA Py=> ?_;refine EL gC ?_;try simp only [W,Hf,Nat.reduceAdd]
     refine EY 2 hS rfl rfl rfl rfl rfl h (fun M2 afc afd afe ZP h ZQ=> ?_) Jk.ne;obtain ⟨aff,ZS,ZT⟩:=hS.elem 2 rfl ZQ ZP;try simp only [W,Hf,HL,reduceIte,Nat.reduceAdd,Nat.reduceLeDiff,ZS,ZT]
     refine EY 2 hS rfl rfl rfl rfl rfl h (fun b96 afg afh afi WB h WC=> ?_) Jk.ne;obtain ⟨afj,afk,afl⟩:=hS.elem 2 rfl WC WB;try simp only [W]
     refine EZ (a:= .agg [.int .i64 M2.Id,.int .i64 M2.At,.int .i64 M2.Hh,.str M2.Text]) (y' :=M2) 2 hS rfl WC WB rfl rfl rfl rfl rfl rfl rfl fun H hS=> ?_
     try simp only [W]
     refine Ez Py ?_;refine EL gC ?_;try simp only [W,Hf,reduceIte,Nat.reduceAdd,Nat.reduceLeDiff,hS.var 0 rfl]
     refine EY 2 hS rfl rfl rfl rfl rfl h (fun QW afm afn afo WD h WE=> ?_) Jk.ne;obtain ⟨afp,afq,afr⟩:=hS.elem 2 rfl WE WD;try simp only [W]
     refine EZ (a:= .agg [.int .i64 Ka.Id,.int .i64 Ka.At,.int .i64 Ka.Hh,.str Ka.Text]) (y' :=Ka) 2 hS rfl WE WD rfl rfl rfl rfl rfl rfl rfl fun H hS=> ?_
     try simp only [W]
     refine ED ZD ?_;refine Ez ZC ?_;refine EL gC ?_;try simp only [W,Hf,Nat.reduceAdd]
     exact E6 Px h ⟨rfl,(hS.Fz 3 [2,1] (by decide))⟩
    ·refine Ev ?_;refine EB KO ?_;try obtain rfl:=Option.some.inj h
     obtain rfl:=Zx _ rfl;have h:(some (J0,Jt,Kt,M1):Option ((List Part)×(List Int)×Int×Int))=some (J0,Jt,Kt,M1):=rfl;refine E7 Px ?_;refine EE Mz ?_;exact E_ N8 ⟨_,_,_,_,(Option.some.inj h).symm,rfl,hS⟩
  ·obtain ⟨Lu,OM,ON,OO,rfl,rfl,hS⟩:=hq;replace h:=Zw;try dsimp only at h
   refine Ez I4 ?_;refine Er fun ZU Sd=> ?_;refine Er fun WG Q4=> ?_;obtain ⟨TQ,h,Se⟩:=Option.bind_eq_some_iff.1 h;refine E9 gC (fun s H=> ∃P1:Bool,∃OP:List Int,∃L3:Int,∃OQ:Int,TQ=(P1,OP,L3,OQ)∧s=(.ptr i0 w0 0 0::u::u::IZ::u::u::u::u::u::u::u::u::u::u::u::u::u::u::u::u::u::u::u::u::u::u::u::u::u::u::u::u::u::u::u::u::u::u::u::u::u::u::u::u::u::u::u::u::u::u::u::u::u::u::u::u::u::u::u::u::u::u::u::u::u::u::u::u::u:: .bool P1::u::u::u::u::u::u::u::u::u::u::u::u::u::u::u::u::u::u::u::u::u::u::u::u::u::u::u::u::u::u::u::u::u::[])∧aA H (⟨IZ,4,Lu.map HP⟩::⟨.ptr i0 w0 0 0,3,[.agg [.fz (OP.map (AV.int .u8)),.int .i64 L3,.int .u64 OQ]]⟩::F)) (fun WH Nj=> ?_) (fun s H hq=> ?_)
   ·refine Er fun ZV Pz=> ?_;refine EL gC ?_;try simp only [W,Hf,Nat.reduceAdd]
    refine E1 0 hS rfl Jk rfl ?_;try simp only [W,Hf]
    refine FD h (fun hc h=> ?_) (fun hc h=> ?_)
    ·try simp only [W,hc]
     refine E4 h fun ZW ZX h=> ?_;obtain ⟨M3,RB⟩:=ZW;try dsimp only at h
     refine QX ZX (hS.Fz 2 [1,0] (by decide)) fun H hS=> ?_
     try simp only [W,reduceIte]
     refine Ez Pz ?_;refine Gw (s' :=(.ptr i0 w0 0 0::u::u::IZ::u::u::u::u::u::u::u::u::u::u::u::u::u::u::u::u::u::u::u::u::u::u::u::u::u::u::u::u::u::u::u::u::u::u::u::u::u::u::u::u::u::u::u::u::u::u::u::u::u::u::u::u::u::u::u::u::u::u::u::u::u::u::u::u::u:: .bool M3::u::u::u::u::u::u::u::u::u::u::u::u::u::u::u::u::u::u::u::u::u::u::u::u::u::u::u::u::u::u::u::u::u::[])) rfl ?_
     exact E_ Nj ⟨_,_,_,_,(Option.some.inj h).symm,rfl,(hS.Fz 2 [1,0] (by decide))⟩
    ·try simp only [W,hc]
     refine Ez Pz ?_;refine Gw (s' :=(.ptr i0 w0 0 0::u::u::IZ::u::u::u::u::u::u::u::u::u::u::u::u::u::u::u::u::u::u::u::u::u::u::u::u::u::u::u::u::u::u::u::u::u::u::u::u::u::u::u::u::u::u::u::u::u::u::u::u::u::u::u::u::u::u::u::u::u::u::u::u::u::u::u::u::u:: .bool false::u::u::u::u::u::u::u::u::u::u::u::u::u::u::u::u::u::u::u::u::u::u::u::u::u::u::u::u::u::u::u::u::u::[])) rfl ?_
     exact E_ Nj ⟨_,_,_,_,(Option.some.inj h).symm,rfl,hS⟩
   ·obtain ⟨P1,OP,L3,OQ,rfl,rfl,hS⟩:=hq;replace h:=Se;try dsimp only at h
    refine Ez Q4 ?_;obtain ⟨ZY,h,ZZ⟩:=Option.bind_eq_some_iff.1 h;refine E9 gC (fun s H=> ∃Mn:List Part,∃Kb:List Int,∃OR:Int,∃OS:Int,ZY=(Mn,Kb,OR,OS)∧ ∃MA:AV,bj MA∧s=(.ptr i0 w0 0 0::u::u::MA::u::u::u::u::u::u::u::u::u::u::u::u::u::u::u::u::u::u::u::u::u::u::u::u::u::u::u::u::u::u::u::u::u::u::u::u::u::u::u::u::u::u::u::u::u::u::u::u::u::u::u::u::u::u::u::u::u::u::u::u::u::u::u::u::u::u::u::u::u::u::u::u::u::u::u::u::u::u::u::u::u::u::u::u::u::u::u::u::u::u::u::u::u::u::u::u::u::u::u::[])∧aA H (⟨MA,4,Mn.map HP⟩::⟨.ptr i0 w0 0 0,3,[.agg [.fz (Kb.map (AV.int .u8)),.int .i64 OR,.int .u64 OS]]⟩::F)) (fun afs WI=> ?_) (fun s H hq=> ?_)
    ·refine Er fun afu WJ=> ?_;refine Ew ?_;simp only [W];refine EK h (fun hc h=> ?_) (fun hc h=> ?_)
     ·refine EL gC ?_;try simp only [W,Hf,Nat.reduceAdd]
      refine E1 0 hS rfl Jk rfl ?_;try simp only [W]
      refine E4 h fun Z0 Z1 h=> ?_;obtain ⟨VP,RC⟩:=Z0;try dsimp only at h
      refine L6 Z1 (hS.Fz 2 [1,0] (by decide)) fun H hS=> ?_
      try simp only [W,Hf]
      refine EY 1 hS rfl rfl rfl rfl rfl h (fun Tj afv afw afx Z2 h Z3=> ?_) Jk.ne;obtain ⟨afy,Z4,Z5⟩:=hS.elem 1 rfl Z3 Z2;try simp only [W,Hf,HL,reduceIte,Nat.reduceAdd,Nat.reduceLeDiff,Z4,Z5]
      refine E3 (el:=([Tj]:List Part).map HP) hS rfl rfl rfl rfl rfl rfl rfl fun v130 H Z6 hS=> ?_;try simp only [W,Hf]
      refine Fk (l:=Lu) (c:=HP) 2 hS rfl Jk rfl rfl rfl (hS.jl 0 rfl Z6) (fun _=>rfl) rfl h fun Z7 H VQ Z8 hm h hS=> ?_;try simp only [W]
      refine Ez WJ ?_;refine Gw (s' :=(.ptr i0 w0 0 0::u::u::Z7::u::u::u::u::u::u::u::u::u::u::u::u::u::u::u::u::u::u::u::u::u::u::u::u::u::u::u::u::u::u::u::u::u::u::u::u::u::u::u::u::u::u::u::u::u::u::u::u::u::u::u::u::u::u::u::u::u::u::u::u::u::u::u::u::u::u::u::u::u::u::u::u::u::u::u::u::u::u::u::u::u::u::u::u::u::u::u::u::u::u::u::u::u::u::u::u::u::u::u::[])) rfl ?_
      exact E_ WI ⟨_,_,_,_,(Option.some.inj h).symm,_,Z8,rfl,(hS.Fz 3 [2,1] (by decide))⟩
     ·refine Et ?_;refine Ez WJ ?_;refine Gw (s' :=(.ptr i0 w0 0 0::u::u::IZ::u::u::u::u::u::u::u::u::u::u::u::u::u::u::u::u::u::u::u::u::u::u::u::u::u::u::u::u::u::u::u::u::u::u::u::u::u::u::u::u::u::u::u::u::u::u::u::u::u::u::u::u::u::u::u::u::u::u::u::u::u::u::u::u::u::u::u::u::u::u::u::u::u::u::u::u::u::u::u::u::u::u::u::u::u::u::u::u::u::u::u::u::u::u::u::u::u::u::u::[])) rfl ?_
      exact E_ WI ⟨_,_,_,_,(Option.some.inj h).symm,_,Jk,rfl,hS⟩
    ·obtain ⟨Mn,Kb,OR,OS,rfl,MA,TR,rfl,hS⟩:=hq;replace h:=ZZ;try dsimp only at h
     refine Ez Sd ?_;refine Er fun Z9 TS=> ?_;refine Er fun Z_ TT=> ?_;obtain ⟨aac,h,aad⟩:=Option.bind_eq_some_iff.1 h;refine E9 gC (fun s H=> ∃P2:Bool,∃L4:List Int,∃NI:Int,∃NJ:Int,aac=(P2,L4,NI,NJ)∧s=(.ptr i0 w0 0 0::u::u::MA::u::u::u::u::u::u::u::u::u::u::u::u::u::u::u::u::u::u::u::u::u::u::u::u::u::u::u::u::u::u::u::u::u::u::u::u::u::u::u::u::u::u::u::u::u::u::u::u::u::u::u::u::u::u::u::u::u::u::u::u::u::u::u::u::u::u::u::u::u::u::u::u::u::u::u::u::u::u::u::u::u::u:: .bool P2::u::u::u::u::u::u::u::u::u::u::u::u::u::u::u::u::[])∧aA H (⟨MA,4,Mn.map HP⟩::⟨.ptr i0 w0 0 0,3,[.agg [.fz (L4.map (AV.int .u8)),.int .i64 NI,.int .u64 NJ]]⟩::F)) (fun afz WK=> ?_) (fun s H hq=> ?_)
     ·refine Er fun afA WL=> ?_;refine EL gC ?_;try simp only [W,Hf,Nat.reduceAdd]
      refine E1 0 hS rfl TR rfl ?_;try simp only [W,Hf]
      refine FD h (fun hc h=> ?_) (fun hc h=> ?_)
      ·try simp only [W,hc]
       refine E4 h fun aae aaf h=> ?_;obtain ⟨Tk,RD⟩:=aae;try dsimp only at h
       refine QX aaf (hS.Fz 2 [1,0] (by decide)) fun H hS=> ?_
       try simp only [W,reduceIte]
       refine Ez WL ?_;refine Gw (s' :=(.ptr i0 w0 0 0::u::u::MA::u::u::u::u::u::u::u::u::u::u::u::u::u::u::u::u::u::u::u::u::u::u::u::u::u::u::u::u::u::u::u::u::u::u::u::u::u::u::u::u::u::u::u::u::u::u::u::u::u::u::u::u::u::u::u::u::u::u::u::u::u::u::u::u::u::u::u::u::u::u::u::u::u::u::u::u::u::u::u::u::u::u:: .bool Tk::u::u::u::u::u::u::u::u::u::u::u::u::u::u::u::u::[])) rfl ?_
       exact E_ WK ⟨_,_,_,_,(Option.some.inj h).symm,rfl,(hS.Fz 2 [1,0] (by decide))⟩
      ·try simp only [W,hc]
       refine Ez WL ?_;refine Gw (s' :=(.ptr i0 w0 0 0::u::u::MA::u::u::u::u::u::u::u::u::u::u::u::u::u::u::u::u::u::u::u::u::u::u::u::u::u::u::u::u::u::u::u::u::u::u::u::u::u::u::u::u::u::u::u::u::u::u::u::u::u::u::u::u::u::u::u::u::u::u::u::u::u::u::u::u::u::u::u::u::u::u::u::u::u::u::u::u::u::u::u::u::u::u:: .bool false::u::u::u::u::u::u::u::u::u::u::u::u::u::u::u::u::[])) rfl ?_
       exact E_ WK ⟨_,_,_,_,(Option.some.inj h).symm,rfl,hS⟩
     ·obtain ⟨P2,L4,NI,NJ,rfl,rfl,hS⟩:=hq;replace h:=aad;try dsimp only at h
      refine Ez TT ?_;obtain ⟨aag,h,aah⟩:=Option.bind_eq_some_iff.1 h;refine E9 gC (fun s H=> ∃Mo:List Part,aag=(Mo)∧ ∃Lg:AV,bj Lg∧s=(.ptr i0 w0 0 0::u::u::Lg::u::u::u::u::u::u::u::u::u::u::u::u::u::u::u::u::u::u::u::u::u::u::u::u::u::u::u::u::u::u::u::u::u::u::u::u::u::u::u::u::u::u::u::u::u::u::u::u::u::u::u::u::u::u::u::u::u::u::u::u::u::u::u::u::u::u::u::u::u::u::u::u::u::u::u::u::u::u::u::u::u::u::u::u::u::u::u::u::u::u::u::u::u::u::u::u::u::u::u::[])∧aA H (⟨Lg,4,Mo.map HP⟩::⟨.ptr i0 w0 0 0,3,[.agg [.fz (L4.map (AV.int .u8)),.int .i64 NI,.int .u64 NJ]]⟩::F)) (fun afB WM=> ?_) (fun s H hq=> ?_)
      ·refine Er fun afC WN=> ?_;refine Ew ?_;simp only [W];refine EK h (fun hc h=> ?_) (fun hc h=> ?_)
       ·refine EL gC ?_;try simp only [W,Hf,Nat.reduceAdd]
        refine Fi 0 hS rfl TR rfl rfl rfl h fun aai VR aaj afD h hS=> ?_;try simp only [W]
        refine Ez WN ?_;refine Gw (s' :=(.ptr i0 w0 0 0::u::u::aai::u::u::u::u::u::u::u::u::u::u::u::u::u::u::u::u::u::u::u::u::u::u::u::u::u::u::u::u::u::u::u::u::u::u::u::u::u::u::u::u::u::u::u::u::u::u::u::u::u::u::u::u::u::u::u::u::u::u::u::u::u::u::u::u::u::u::u::u::u::u::u::u::u::u::u::u::u::u::u::u::u::u::u::u::u::u::u::u::u::u::u::u::u::u::u::u::u::u::u::[])) rfl ?_
        exact E_ WM ⟨_,(Option.some.inj h).symm,_,aaj,rfl,hS⟩
       ·refine Et ?_;refine Ez WN ?_;refine Gw (s' :=(.ptr i0 w0 0 0::u::u::MA::u::u::u::u::u::u::u::u::u::u::u::u::u::u::u::u::u::u::u::u::u::u::u::u::u::u::u::u::u::u::u::u::u::u::u::u::u::u::u::u::u::u::u::u::u::u::u::u::u::u::u::u::u::u::u::u::u::u::u::u::u::u::u::u::u::u::u::u::u::u::u::u::u::u::u::u::u::u::u::u::u::u::u::u::u::u::u::u::u::u::u::u::u::u::u::u::u::u::u::[])) rfl ?_
        exact E_ WM ⟨_,(Option.some.inj h).symm,_,TR,rfl,hS⟩
      ·obtain ⟨Mo,Hr,Lg,TU,rfl,hS⟩:=hq;obtain rfl:=Hr.symm;replace h:=aah;try dsimp only at h
       refine Ez TS ?_;refine Er fun afE aak=> ?_;refine Er fun afF aal=> ?_;obtain ⟨aam,h,aan⟩:=Option.bind_eq_some_iff.1 h;refine E9 gC (fun s H=> ∃P3:Bool,∃OT:List Int,∃OU:Int,∃OV:Int,aam=(P3,OT,OU,OV)∧s=(.ptr i0 w0 0 0::u::u::Lg::u::u::u::u::u::u::u::u::u::u::u::u::u::u::u::u::u::u::u::u::u::u::u::u::u::u::u::u::u::u::u::u::u::u::u::u::u::u::u::u::u::u::u::u::u::u::u::u::u::u::u::u::u::u::u::u::u::u::u::u::u::u::u::u::u::u::u::u::u::u::u::u::u::u::u::u::u::u::u::u::u::u::u::u::u::u::u::u::u::u::u:: .bool P3::u::u::u::u::u::u::u::[])∧aA H (⟨Lg,4,Mo.map HP⟩::⟨.ptr i0 w0 0 0,3,[.agg [.fz (OT.map (AV.int .u8)),.int .i64 OU,.int .u64 OV]]⟩::F)) (fun afG WO=> ?_) (fun s H hq=> ?_)
       ·refine Er fun aao Nk=> ?_;refine EL gC ?_;try simp only [W,Hf,Nat.reduceAdd]
        refine E1 0 hS rfl TU rfl ?_;try simp only [W,Hf]
        refine FD h (fun hc h=> ?_) (fun hc h=> ?_)
        ·try simp only [W,hc]
         refine E4 h fun aap aaq h=> ?_;obtain ⟨M4,RE⟩:=aap;try dsimp only at h
         refine QX aaq (hS.Fz 2 [1,0] (by decide)) fun H hS=> ?_
         try simp only [W,reduceIte]
         refine Ez Nk ?_;refine Gw (s' :=(.ptr i0 w0 0 0::u::u::Lg::u::u::u::u::u::u::u::u::u::u::u::u::u::u::u::u::u::u::u::u::u::u::u::u::u::u::u::u::u::u::u::u::u::u::u::u::u::u::u::u::u::u::u::u::u::u::u::u::u::u::u::u::u::u::u::u::u::u::u::u::u::u::u::u::u::u::u::u::u::u::u::u::u::u::u::u::u::u::u::u::u::u::u::u::u::u::u::u::u::u::u:: .bool M4::u::u::u::u::u::u::u::[])) rfl ?_
         exact E_ WO ⟨_,_,_,_,(Option.some.inj h).symm,rfl,(hS.Fz 2 [1,0] (by decide))⟩
        ·try simp only [W,hc]
         refine Ez Nk ?_;refine Gw (s' :=(.ptr i0 w0 0 0::u::u::Lg::u::u::u::u::u::u::u::u::u::u::u::u::u::u::u::u::u::u::u::u::u::u::u::u::u::u::u::u::u::u::u::u::u::u::u::u::u::u::u::u::u::u::u::u::u::u::u::u::u::u::u::u::u::u::u::u::u::u::u::u::u::u::u::u::u::u::u::u::u::u::u::u::u::u::u::u::u::u::u::u::u::u::u::u::u::u::u::u::u::u::u:: .bool false::u::u::u::u::u::u::u::[])) rfl ?_
         exact E_ WO ⟨_,_,_,_,(Option.some.inj h).symm,rfl,hS⟩
       ·obtain ⟨P3,OT,OU,OV,rfl,rfl,hS⟩:=hq;replace h:=aan;try dsimp only at h
        refine Ez aal ?_;obtain ⟨aar,h,aas⟩:=Option.bind_eq_some_iff.1 h;refine E9 gC (fun s H=> ∃P4:List Part,∃P5:List Int,∃P6:Int,∃P7:Int,aar=(P4,P5,P6,P7)∧s=(u::u::u::Lg::u::u::u::u::u::u::u::u::u::u::u::u::u::u::u::u::u::u::u::u::u::u::u::u::u::u::u::u::u::u::u::u::u::u::u::u::u::u::u::u::u::u::u::u::u::u::u::u::u::u::u::u::u::u::u::u::u::u::u::u::u::u::u::u::u::u::u::u::u::u::u::u::u::u::u::u::u::u::u::u::u::u::u::u::u::u::u::u::u::u::u::u::u::u::u::u::u::u::u::[])∧aA H (⟨Lg,4,P4.map HP⟩::⟨.ptr i0 w0 0 0,3,[.agg [.fz (P5.map (AV.int .u8)),.int .i64 P6,.int .u64 P7]]⟩::F)) (fun afH WQ=> ?_) (fun s H hq=> ?_)
        ·refine Er fun afJ WR=> ?_;refine Ew ?_;simp only [W];refine EK h (fun hc h=> ?_) (fun hc h=> ?_)
         ·refine EM (fz:=[(3,[([98],[.sl [.sc]])])]) gC ?_;try simp only [W,Nat.reduceAdd,Nat.reduceBEq]
          refine E3 (el:=([-1,40]:List Int).map (AV.int .i64)) hS rfl rfl rfl rfl rfl rfl rfl fun aat H TW hS=> ?_;try simp only [W,Nat.reduceAdd]
          refine Fo 0 hS rfl TW rfl (fun _ _=>by simp [a8,aT,dT]) (fun _=>rfl) fun H uq hS=> ?_
          try simp only [W]
          refine E4 h fun aau aav h=> ?_;obtain ⟨RF,RG⟩:=aau;try dsimp only at h
          refine TD aav (hS.Fz 2 [1,0] (by decide)) fun H hS=> ?_
          try simp only [W,Hf,Nat.reduceAdd,Nat.reduceBEq]
          refine EY 1 hS rfl rfl rfl rfl rfl h (fun NK afK afL afM WS h WT=> ?_) TU.ne;obtain ⟨afN,aaw,afO⟩:=hS.elem 1 rfl WT WS;try simp only [W,Hf,Nat.reduceAdd,Nat.reduceBEq,aaw]
          refine EZ (a:= .int .i64 RF) (y' :=(⟨NK.Id,RF,NK.Hh,NK.Text⟩:Part)) 1 hS rfl WT WS rfl rfl rfl rfl rfl rfl rfl fun H hS=> ?_
          try simp only [W,Nat.reduceAdd]
          refine Ez WR ?_;refine Gw (s' :=(u::u::u::Lg::u::u::u::u::u::u::u::u::u::u::u::u::u::u::u::u::u::u::u::u::u::u::u::u::u::u::u::u::u::u::u::u::u::u::u::u::u::u::u::u::u::u::u::u::u::u::u::u::u::u::u::u::u::u::u::u::u::u::u::u::u::u::u::u::u::u::u::u::u::u::u::u::u::u::u::u::u::u::u::u::u::u::u::u::u::u::u::u::u::u::u::u::u::u::u::u::u::u::u::[])) rfl ?_
          exact E_ WQ ⟨_,_,_,_,(Option.some.inj h).symm,rfl,(hS.Fz 2 [1,0] (by decide))⟩
         ·refine Et ?_;refine Ez WR ?_;refine Gw (s' :=(u::u::u::Lg::u::u::u::u::u::u::u::u::u::u::u::u::u::u::u::u::u::u::u::u::u::u::u::u::u::u::u::u::u::u::u::u::u::u::u::u::u::u::u::u::u::u::u::u::u::u::u::u::u::u::u::u::u::u::u::u::u::u::u::u::u::u::u::u::u::u::u::u::u::u::u::u::u::u::u::u::u::u::u::u::u::u::u::u::u::u::u::u::u::u::u::u::u::u::u::u::u::u::u::[])) rfl ?_
          exact E_ WQ ⟨_,_,_,_,(Option.some.inj h).symm,rfl,hS⟩
        ·obtain ⟨P4,P5,P6,P7,rfl,rfl,hS⟩:=hq;replace h:=aas;try dsimp only at h
         refine Ez aak ?_;refine Er fun afP aax=> ?_;refine EL gC ?_;try simp only [W,Nat.reduceAdd]
         refine Ez aax ?_;refine Eu ?_;refine EH Hi rfl ?_;try obtain rfl:=Option.some.inj h
         exact hP _ TU _ hS
theorem aay {a0:List Int} {r:(List Part)} (h:P8 a0=some r) {F:List It} {H:J} (hS:aA H (F)) {P:AV→J→Prop} (hP: ∀v11:AV,bj v11→ ∀H',aA H' (⟨v11,4,r.map HP⟩::F)→P (v11) H'):aq C 7 [.fz (a0.map (AV.int .u8))] H P:=by
 refine EO gC (res:=[.tmp 2]) (n:=9) rfl rfl rfl rfl fun K0 Hi=> ?_;simp only [W,Nat.reduceSub,Nat.reduceAdd,List.replicate];unfold P8 at h;refine Er fun K1 Hq=> ?_;refine EL gC ?_;try simp only [W,Nat.reduceAdd]
 refine Ez Hq ?_;refine Er fun K2 Cu=> ?_;refine EL gC ?_;try simp only [W,Hf,Nat.reduceAdd]
 refine FE rfl rfl rfl rfl rfl ?_;try simp only [W]
 refine ES hS rfl rfl rfl rfl fun ip3 wp3 H hS=> ?_;try simp only [W]
 refine Ez Cu ?_;refine Er fun K5 H9=> ?_;refine EL gC ?_;try simp only [W,Nat.reduceAdd]
 refine E4 h fun Ip LK h=> ?_;obtain ⟨HT,MX⟩:=Ip;try dsimp only at h
 refine TG LK hS fun v9 L9 H hS=> ?_;try simp only [W]
 refine Ez H9 ?_;refine Eu ?_;refine EH Hi rfl ?_;try obtain rfl:=Option.some.inj h
 exact hP _ L9 _ (hS.Fz 2 [0] (by decide))
theorem Q5 {a0:Int} {a1:Int} {a2:Int} {r:(Bool)} (h:Mp a0 a1 a2=some r) {F:List It} {H:J} (hS:aA H (F)) {P:AV→J→Prop} (hP: ∀H',aA H' (F)→P (.bool r) H'):aq C 58 [.int .i64 a0,.int .i64 a1,.int .i64 a2] H P:=by
 refine EO gC (res:=[.tmp 6]) (n:=15) rfl rfl rfl rfl fun K0 Hi=> ?_;simp only [W,Nat.reduceSub,Nat.reduceAdd,List.replicate];unfold Mp at h;refine Er fun K1 Hq=> ?_;refine EL gC ?_;try simp only [W,Nat.reduceAdd]
 refine Ez Hq ?_;refine Er fun K2 Cu=> ?_;refine EL gC ?_;try simp only [W,Hf,Nat.reduceAdd]
 refine FD h (fun hc h=> ?_) (fun hc h=> ?_)
 ·try simp only [W,Hf,reduceIte,hc]
  refine Ez Cu ?_;refine Eu ?_;refine EH Hi rfl ?_;try obtain rfl:=Option.some.inj h
  exact hP _ hS
 ·try simp only [W,hc]
  refine Ez Cu ?_;refine Eu ?_;refine EH Hi rfl ?_;try obtain rfl:=Option.some.inj h
  exact hP _ hS
theorem TX {a0:Int} {a1:Int} {r:(Bool)} (h:NL a0 a1=some r) {F:List It} {H:J} (hS:aA H (F)) {P:AV→J→Prop} (hP: ∀H',aA H' (F)→P (.bool r) H'):aq C 61 [.int .i64 a0,.int .i64 a1] H P:=by
 refine EO gC (res:=[.tmp 4]) (n:=11) rfl rfl rfl rfl fun K0 Hi=> ?_;simp only [W,Nat.reduceSub,Nat.reduceAdd,List.replicate];unfold NL at h;refine Er fun K1 Hq=> ?_;refine EL gC ?_;try simp only [W,Nat.reduceAdd]
 refine Ez Hq ?_;refine Er fun K2 Cu=> ?_;refine EL gC ?_;try simp only [W,Nat.reduceAdd]
 refine E4 h fun b3 mc h=> ?_;refine Q5 mc hS fun H hS=> ?_;try simp only [W]
 refine FD h (fun hc h=> ?_) (fun hc h=> ?_)
 ·try simp only [W,hc]
  refine E4 h fun IG hb4 h=> ?_;refine Q5 hb4 hS fun H hS=> ?_;try simp only [W,reduceIte]
  refine Ez Cu ?_;refine Eu ?_;refine EH Hi rfl ?_;try obtain rfl:=Option.some.inj h
  exact hP _ hS
 ·try simp only [W,hc]
  refine Ez Cu ?_;refine Eu ?_;refine EH Hi rfl ?_;try obtain rfl:=Option.some.inj h
  exact hP _ hS
theorem WU {a0:Span} {r:(Bool)} (h:OW a0=some r) {F:List It} {H:J} (hS:aA H (F)) {P:AV→J→Prop} (hP: ∀H',aA H' (F)→P (.bool r) H'):aq C 151 [.agg [.int .i64 a0.Hk,.int .i64 a0.To]] H P:=by
 refine EO gC (res:=[.tmp 2]) (n:=18) rfl rfl rfl rfl fun K0 Hi=> ?_;simp only [W,Nat.reduceSub,Nat.reduceAdd,List.replicate];unfold OW at h;refine Er fun K1 Hq=> ?_;refine EL gC ?_;try simp only [W,Nat.reduceAdd]
 refine ES hS rfl rfl rfl rfl fun Hm Hn H hS=> ?_;try simp only [W]
 refine Ez Hq ?_;refine Er fun K4 Hv=> ?_;refine EL gC ?_;try simp only [W,Hf,Nat.reduceAdd,Nat.reduceBEq,hS.var 0 rfl]
 refine FD h (fun hc h=> ?_) (fun hc h=> ?_)
 ·try simp only [W,Hf,reduceIte,Nat.reduceAdd,Nat.reduceBEq,hS.var 0 rfl,hc]
  refine FD h (fun hc h=> ?_) (fun hc h=> ?_)
  ·try simp only [W,Hf,reduceIte,Nat.reduceAdd,Nat.reduceBEq,hS.var 0 rfl,hc]
   refine Ez Hv ?_;refine Eu ?_;refine EH Hi rfl ?_;try obtain rfl:=Option.some.inj h
   exact hP _ (hS.Fz 1 [] (by decide))
  ·try simp only [W,hc]
   refine Ez Hv ?_;refine Eu ?_;refine EH Hi rfl ?_;try obtain rfl:=Option.some.inj h
   exact hP _ (hS.Fz 1 [] (by decide))
 ·try simp only [W,hc]
  refine Ez Hv ?_;refine Eu ?_;refine EH Hi rfl ?_;try obtain rfl:=Option.some.inj h
  exact hP _ (hS.Fz 1 [] (by decide))
theorem WV {a0:List Span} {r:(Bool)} (h:OX a0=some r) {F:List It} {H:J} (hS:aA H (F)) {P:AV→J→Prop} (hP: ∀H',aA H' (F)→P (.bool r) H'):aq C 141 [.fz (a0.map Hl)] H P:=by
 refine EO gC (res:=[.tmp 2]) (n:=34) rfl rfl rfl rfl fun K0 Hi=> ?_;simp only [W,Nat.reduceSub,Nat.reduceAdd,List.replicate];unfold OX at h;refine Er fun K1 Hq=> ?_;refine EL gC ?_;try simp only [W,Nat.reduceAdd]
 refine Ez Hq ?_;refine Er fun K2 Cu=> ?_;refine Er fun K3 HY=> ?_;refine EL gC ?_;try simp only [W,Hf,Nat.reduceAdd]
 refine Ez HY ?_;refine Ew ?_;simp only [W];refine EK h (fun hc h=> ?_) (fun hc h=> ?_)
 ·refine Er fun K4 Hv=> ?_;refine EL gC ?_;try simp only [W,Nat.reduceAdd]
  refine Ez Hv ?_;refine Eu ?_;refine EA Cu ?_;refine EH Hi rfl ?_;try obtain rfl:=Option.some.inj h
  exact hP _ hS
 ·refine Et ?_;refine Ez Cu ?_;refine Er fun K5 H9=> ?_;refine Er fun K6 ID=> ?_;refine EL gC ?_;try simp only [W,Hf,Nat.reduceAdd]
  refine Ez ID ?_;obtain ⟨Kh,Ki,g15⟩:=Option.bind_eq_some_iff.1 h;refine E9 gC (fun s H=>Kh=LR.next ()∧s=[u,u,u,u,u,u,u,u,u,u,u,u,u,u,u,u,u,u,u,u,u,u,u,u,u,u,u,u,u,u,u,u,u,u]∧aA H (F)) (fun J4 H_=> ?_) (fun s H hq=> ?_)
  ·refine Es fun Kx Iu=> ?_;refine E5 gC Ki (fun x s H=>s=[.fz (a0.map Hl),u,u,u,u,u,u,u,.fz (a0.map Hl),.int .i64 (a0.length:Int),.int .i64 x,u,u,u,u,u,u,u,u,u,u,u,u,u,u,u,u,u,u,u,u,u,u,u]∧aA H (F)) ⟨rfl,hS⟩ (fun HD MB s H h JB hi KN Ic=> ?_)
   skip
   try dsimp only at hi
   obtain ⟨rfl,hS⟩:=hi;simp only [P9] at h;refine Er fun JT Ie=> ?_;refine EL gC ?_;try simp only [W,Hf,Nat.reduceAdd]
   refine Ez Ie ?_;refine Er fun Jb HJ=> ?_;refine Ew ?_;simp only [W];refine EK h (fun hc h=> ?_) (fun hc h=> ?_)
   ·refine Et ?_;refine Ez HJ ?_;refine Er fun Jp HQ=> ?_;refine Es fun JA HR=> ?_;refine Er fun J5 Ii=> ?_;refine EL gC ?_;try simp only [W,Hf,Nat.reduceAdd]
    refine EX rfl rfl rfl (fun _=>rfl) h fun HU Sf h=> ?_;try simp only [W,Hf,HL,reduceIte,Nat.reduceAdd,Nat.reduceLeDiff]
    refine ET hS rfl rfl fun WW WX H hS=> ?_;try simp only [W]
    refine EU (a:= .agg [.int .i64 HU.Hk,.int .i64 HU.To]) (y' := .agg [.int .i64 HU.Hk,.int .i64 HU.To]) 0 hS rfl rfl rfl rfl rfl rfl rfl rfl fun H hS=> ?_
    try simp only [W]
    refine Ez Ii ?_;refine Er fun Kf Iq=> ?_;obtain ⟨TL,h,Q1⟩:=Option.bind_eq_some_iff.1 h;refine E9 gC (fun s H=> ∃P_:Bool,TL=(P_)∧s=[.fz (a0.map Hl),u,u,u,u,u,u,u,.fz (a0.map Hl),.int .i64 (a0.length:Int),.int .i64 HD,u,u,u,u,u,u,u,u,u,u,u,u,u,u,u,u,u,u,u,u,u,.bool P_,u]∧aA H (F)) (fun LL Ir=> ?_) (fun s H hq=> ?_)
    ·refine Er fun L7 IP=> ?_;refine EN gC (by kernel_rfl) ?_
     try simp only [W,Hf,reduceIte,Nat.reduceAdd,Nat.reduceLeDiff,hS.var 0 rfl]
     refine F6 (bS:=[[.sc]]) (ys:=[.agg [.int .i64 HU.Hk,.int .i64 HU.To]]) h rfl (by rfl) fun Lb TY h=>⟨.bool Lb,WU TY (aA.nil _) fun H hS=>F2 rfl (FY rfl (FX rfl)),⟨rfl,rfl,fun _=>rfl⟩,?_⟩
     try simp only [W]
     refine FD h (fun hc h=> ?_) (fun hc h=> ?_)
     ·try simp only [W,hc]
      refine Ez IP ?_;refine Ey ?_;exact E_ Ir ⟨_,(Option.some.inj h).symm,rfl,(hS.Fz 1 [] (by decide))⟩
     ·try simp only [W,Hf,hc]
      refine FD h (fun hc h=> ?_) (fun hc h=> ?_)
      ·try simp only [W,Hf,Nat.reduceAdd,Nat.reduceBEq,hS.var 0 rfl,hc]
       refine EX rfl rfl rfl (fun _=>rfl) h fun Lc TZ h=> ?_;try simp only [W,Hf,HL,reduceIte,Nat.reduceAdd,Nat.reduceBEq,Bool.false_eq_true]
       refine Ez IP ?_;refine Ey ?_;exact E_ Ir ⟨_,(Option.some.inj h).symm,rfl,(hS.Fz 1 [] (by decide))⟩
      ·try simp only [W,reduceIte,Bool.false_eq_true,hc]
       refine Ez IP ?_;refine Ey ?_;exact E_ Ir ⟨_,(Option.some.inj h).symm,rfl,(hS.Fz 1 [] (by decide))⟩
    ·obtain ⟨P_,Hr,rfl,hS⟩:=hq;obtain rfl:=Hr.symm;replace h:=Q1;try dsimp only at h
     refine Ez Iq ?_;refine Ew ?_;simp only [W];refine EK h (fun hc h=> ?_) (fun hc h=> ?_)
     ·refine Er fun Ma I3=> ?_;refine EL gC ?_;try simp only [W,Nat.reduceAdd]
      refine Ez I3 ?_;refine Eu ?_;refine EF HR ?_;refine EA HQ ?_;try obtain rfl:=Option.some.inj h
      obtain rfl:=JB _ rfl;have h:(some (LR.done false):Option (LR Unit (Bool)))=some (LR.done false):=rfl;refine E8 Ic ?_;refine EF Iu ?_;try obtain rfl:=Option.some.inj h
      obtain rfl:=Option.some.inj g15;have h:(some false:Option (Bool))=some false:=rfl;refine Fa H_ ?_;refine EA H9 ?_;refine EH Hi rfl ?_;try obtain rfl:=Option.some.inj h
      exact hP _ hS
     ·refine Et ?_;refine ED HR ?_;refine Ez HQ ?_;refine EL gC ?_;try simp only [W,Hf,Nat.reduceAdd]
      exact E6 Ic h ⟨rfl,hS⟩
   ·refine Ev ?_;refine EB HJ ?_;try obtain rfl:=Option.some.inj h
    obtain rfl:=JB _ rfl;have h:(some (LR.next ()):Option (LR Unit (Bool)))=some (LR.next ()):=rfl
    refine E7 Ic ?_;refine EE Iu ?_;exact E_ H_ ⟨(Option.some.inj h).symm,rfl,hS⟩
  ·obtain ⟨rfl,rfl,hS⟩:=hq;replace h:=g15;try dsimp only at h
   refine Ez H9 ?_;refine Er fun Sg Lh=> ?_;refine EL gC ?_;try simp only [W,Nat.reduceAdd]
   refine Ez Lh ?_;refine Eu ?_;refine EH Hi rfl ?_;try obtain rfl:=Option.some.inj h
   exact hP _ hS
theorem aaz {a0:List Span} {a1:Int} {r:(Bool)} (h:Qa a0 a1=some r) {F:List It} {H:J} (hS:aA H (F)) {P:AV→J→Prop} (hP: ∀H',aA H' (F)→P (.bool r) H'):aq C 105 [.fz (a0.map Hl),.int .i64 a1] H P:=by
 refine EO gC (res:=[.tmp 4]) (n:=23) rfl rfl rfl rfl fun K0 Hi=> ?_;simp only [W,Nat.reduceSub,Nat.reduceAdd,List.replicate];unfold Qa at h;refine Er fun K1 Hq=> ?_;refine EL gC ?_;try simp only [W,Nat.reduceAdd]
 refine Ez Hq ?_;refine Er fun K2 Cu=> ?_;refine EL gC ?_;try simp only [W,Nat.reduceAdd]
 refine E4 h fun b3 mc h=> ?_;refine WV mc hS fun H hS=> ?_;try simp only [W]
 refine FD h (fun hc h=> ?_) (fun hc h=> ?_)
 ·try simp only [W,Hf,hc]
  refine FD h (fun hc h=> ?_) (fun hc h=> ?_)
  ·try simp only [W,reduceIte,hc]
   refine Ez Cu ?_;refine Eu ?_;refine EH Hi rfl ?_;try obtain rfl:=Option.some.inj h
   exact hP _ hS
  ·try simp only [W,Hf,hc]
   refine EX rfl rfl rfl (fun _=>rfl) h fun IG hb4 h=> ?_;try simp only [W,Hf,HL,reduceIte,Nat.reduceAdd,Nat.reduceBEq,Bool.false_eq_true]
   refine Ez Cu ?_;refine Eu ?_;refine EH Hi rfl ?_;try obtain rfl:=Option.some.inj h
   exact hP _ hS
 ·try simp only [W,hc]
  refine Ez Cu ?_;refine Eu ?_;refine EH Hi rfl ?_;try obtain rfl:=Option.some.inj h
  exact hP _ hS
theorem aaA {a0:Span} {a1:Int} {i1:Nat} {w1:Nat} {r:(Bool)} (h:RH a0 a1=some r) {F:List It} {H:J} (De:⟨.ptr i1 w1 0 0,1,[.int .i64 a1]⟩∈F) (hS:aA H (F)) {P:AV→J→Prop} (hP: ∀H',aA H' (F)→P (.bool r) H'):aq C 143 [.agg [.int .i64 a0.Hk,.int .i64 a0.To],.ptr i1 w1 0 0] H P:=by
 refine EO gC (res:=[.tmp 3]) (n:=14) rfl rfl rfl rfl fun K0 Hi=> ?_;simp only [W,Nat.reduceSub,Nat.reduceAdd,List.replicate];unfold RH at h;refine Er fun K1 Hq=> ?_;refine EL gC ?_;try simp only [W,Nat.reduceAdd]
 refine ES hS rfl rfl rfl rfl fun Hm Hn H hS=> ?_;try simp only [W]
 refine Ez Hq ?_;refine Er fun K4 Hv=> ?_;refine EL gC ?_;try simp only [W,Hf,Nat.reduceAdd,Nat.reduceBEq,hS.Fm (List.mem_cons_of_mem _ (De)),hS.var 0 rfl]
 refine FD h (fun hc h=> ?_) (fun hc h=> ?_)
 ·try simp only [W,Hf,reduceIte,Nat.reduceAdd,Nat.reduceBEq,hS.Fm (List.mem_cons_of_mem _ (De)),hS.var 0 rfl,hc]
  refine Ez Hv ?_;refine Eu ?_;refine EH Hi rfl ?_;try obtain rfl:=Option.some.inj h
  exact hP _ (hS.Fz 1 [] (by decide))
 ·try simp only [W,hc]
  refine Ez Hv ?_;refine Eu ?_;refine EH Hi rfl ?_;try obtain rfl:=Option.some.inj h
  exact hP _ (hS.Fz 1 [] (by decide))
theorem aaB {a0:List Span} {g1:Span→Option Bool} {f1:FuncId} {c1:List AV} {r:(Int)} (h:Qb a0 g1=some r) {F:List It} {H:J} (cx: ∀{x0:Span} {r:Bool},g1 x0=some r→ ∀(L:List It) (n:Nat),L.drop n=F→ ∀(H:J),aA H L→ ∀(P:AV→J→Prop),(∀H',aA H' L→P (.bool r) H')→aq C f1 ([.agg [.int .i64 x0.Hk,.int .i64 x0.To]] ++ c1) H P) (hS:aA H (F)) {P:AV→J→Prop} (hP: ∀H',aA H' (F)→P (.int .i64 r) H'):aq C 170 [.fz (a0.map Hl),.fn f1 c1] H P:=by
 refine EO gC (res:=[.tmp 4]) (n:=19) rfl rfl rfl rfl fun K0 Hi=> ?_;simp only [W,Nat.reduceSub,Nat.reduceAdd,List.replicate];unfold Qb at h;refine Er fun K1 Hq=> ?_;refine EL gC ?_;try simp only [W,Nat.reduceAdd]
 refine Ez Hq ?_;refine Er fun K2 Cu=> ?_;refine Er fun K3 HY=> ?_;refine EL gC ?_;try simp only [W,Hf,Nat.reduceAdd]
 refine Ez HY ?_;obtain ⟨LM,LN,g12⟩:=Option.bind_eq_some_iff.1 h;refine E9 gC (fun s H=>LM=LR.next ()∧s=[u,u,u,u,u,u,u,u,u,u,u,u,u,u,u,u,u,u,u]∧aA H (F)) (fun K7 IJ=> ?_) (fun s H hq=> ?_)
 ·refine Es fun K8 HS=> ?_;refine E5 gC LN (fun x s H=>s=[.fz (a0.map Hl),.fn f1 c1,u,u,u,u,u,.int .i64 (a0.length:Int),.int .i64 x,u,u,u,u,u,u,u,u,u,u]∧aA H (F)) ⟨rfl,hS⟩ (fun HK LO s H h JV hi K9 HC=> ?_)
  skip
  try dsimp only at hi
  obtain ⟨rfl,hS⟩:=hi;simp only [Tl] at h;refine Er fun JS Ig=> ?_;refine EL gC ?_;try simp only [W,Hf,Nat.reduceAdd]
  refine Ez Ig ?_;refine Er fun J3 HZ=> ?_;refine Ew ?_;simp only [W];refine EK h (fun hc h=> ?_) (fun hc h=> ?_)
  ·refine Et ?_;refine Ez HZ ?_;refine Er fun LJ IF=> ?_;refine Es fun JT Ie=> ?_;refine Er fun Jb HJ=> ?_;refine EL gC ?_;try simp only [W,Nat.reduceAdd]
   refine Ez HJ ?_;refine Er fun Jp HQ=> ?_;refine EL gC ?_;try simp only [W,Hf,Nat.reduceAdd]
   refine EX rfl rfl rfl (fun _=>rfl) h fun IE Mu h=> ?_;try simp only [W,Hf,HL,reduceIte,Nat.reduceAdd,Nat.reduceLeDiff]
   refine E4 h fun Io Si h=> ?_;refine cx Si _ 0 rfl _ hS _ fun H hS=> ?_;try simp only [W]
   refine Ez HQ ?_;refine Ew ?_;simp only [W];refine EK h (fun hc h=> ?_) (fun hc h=> ?_)
   ·refine Er fun Nl Jl=> ?_;refine EL gC ?_;try simp only [W,Nat.reduceAdd]
    refine Ez Jl ?_;refine Eu ?_;refine EF Ie ?_;refine EA IF ?_;try obtain rfl:=Option.some.inj h
    obtain rfl:=JV _ rfl;have h:(some (LR.done HK):Option (LR Unit (Int)))=some (LR.done HK):=rfl;refine E8 HC ?_;refine EF HS ?_;try obtain rfl:=Option.some.inj h
    obtain rfl:=Option.some.inj g12;have h:(some HK:Option (Int))=some HK:=rfl;refine Fa IJ ?_;refine EA Cu ?_;refine EH Hi rfl ?_;try obtain rfl:=Option.some.inj h
    exact hP _ hS
   ·refine Et ?_;refine ED Ie ?_;refine Ez IF ?_;refine EL gC ?_;try simp only [W,Hf,Nat.reduceAdd]
    exact E6 HC h ⟨rfl,hS⟩
  ·refine Ev ?_;refine EB HZ ?_;try obtain rfl:=Option.some.inj h
   obtain rfl:=JV _ rfl;have h:(some (LR.next ()):Option (LR Unit (Int)))=some (LR.next ()):=rfl
   refine E7 HC ?_;refine EE HS ?_;exact E_ IJ ⟨(Option.some.inj h).symm,rfl,hS⟩
 ·obtain ⟨rfl,rfl,hS⟩:=hq;replace h:=g12;try dsimp only at h
  refine Ez Cu ?_;refine Er fun LL Ir=> ?_;refine EL gC ?_;try simp only [W,Nat.reduceAdd]
  refine Ez Ir ?_;refine Eu ?_;refine EH Hi rfl ?_;try obtain rfl:=Option.some.inj h
  exact hP _ hS
theorem aaC {a0:List Span} {g1:Span→Option Bool} {f1:FuncId} {c1:List AV} {r:(Bool)} (h:Qc a0 g1=some r) {F:List It} {H:J} (cx: ∀{x0:Span} {r:Bool},g1 x0=some r→ ∀(L:List It) (n:Nat),L.drop n=F→ ∀(H:J),aA H L→ ∀(P:AV→J→Prop),(∀H',aA H' L→P (.bool r) H')→aq C f1 ([.agg [.int .i64 x0.Hk,.int .i64 x0.To]] ++ c1) H P) (hS:aA H (F)) {P:AV→J→Prop} (hP: ∀H',aA H' (F)→P (.bool r) H'):aq C 142 [.fz (a0.map Hl),.fn f1 c1] H P:=by
 refine EO gC (res:=[.tmp 4]) (n:=9) rfl rfl rfl rfl fun K0 Hi=> ?_;simp only [W,Nat.reduceSub,Nat.reduceAdd,List.replicate];unfold Qc at h;refine Er fun K1 Hq=> ?_;refine EL gC ?_;try simp only [W,Nat.reduceAdd]
 refine Ez Hq ?_;refine Er fun K2 Cu=> ?_;refine EL gC ?_;try simp only [W,Nat.reduceAdd]
 refine E4 h fun b3 mc h=> ?_;refine aaB mc cx hS fun H hS=> ?_;try simp only [W,Hf]
 refine Ez Cu ?_;refine Eu ?_;refine EH Hi rfl ?_;try obtain rfl:=Option.some.inj h
 exact hP _ hS
theorem WY {a0:List Span} {a1:Int} {r:(Bool)} (h:OY a0 a1=some r) {F:List It} {H:J} (hS:aA H (F)) {P:AV→J→Prop} (hP: ∀H',aA H' (F)→P (.bool r) H'):aq C 106 [.fz (a0.map Hl),.int .i64 a1] H P:=by
 refine EO gC (res:=[.tmp 4]) (n:=8) rfl rfl rfl rfl fun K0 Hi=> ?_;simp only [W,Nat.reduceSub,Nat.reduceAdd,List.replicate];unfold OY at h;refine Er fun K1 Hq=> ?_;refine EL gC ?_;try simp only [W,Nat.reduceAdd]
 refine ES hS rfl rfl rfl rfl fun Hm Hn H hS=> ?_;try simp only [W]
 refine Ez Hq ?_;refine Er fun K4 Hv=> ?_;refine EL gC ?_;try simp only [W,Nat.reduceAdd]
 refine E4 h fun Iz Ke h=> ?_;refine aaC Ke (fun h _ n hL _ hS _ hP=>aaA h (FA hL (List.mem_of_getElem? (i:=0) rfl)) hS hP) hS fun H hS=> ?_;try simp only [W]
 refine Ez Hv ?_;refine Eu ?_;refine EH Hi rfl ?_;try obtain rfl:=Option.some.inj h
 exact hP _ (hS.Fz 1 [] (by decide))
theorem WZ {a0:Hj} {r:(Bool)} (h:OZ a0=some r) {F:List It} {H:J} (hS:aA H (F)) {P:AV→J→Prop} (hP: ∀H',aA H' (F)→P (.bool r) H'):aq C 55 [.agg [.int .i64 a0.Id,.int .i64 a0.Hh,.str a0.Text,.fz (a0.Has.map Hl)]] H P:=by
 refine EO gC (res:=[.tmp 2]) (n:=44) rfl rfl rfl rfl fun K0 Hi=> ?_;simp only [W,Nat.reduceSub,Nat.reduceAdd,List.replicate];unfold OZ at h;refine Er fun K1 Hq=> ?_;refine EL gC ?_;try simp only [W,Nat.reduceAdd]
 refine ES hS rfl rfl rfl rfl fun Hm Hn H hS=> ?_;try simp only [W]
 refine Ez Hq ?_;refine Er fun K4 Hv=> ?_;refine Er fun K5 H9=> ?_;obtain ⟨MC,h,g8⟩:=Option.bind_eq_some_iff.1 h;refine E9 gC (fun s H=> ∃HG:Bool,MC=(HG)∧s=[u,.ptr Hm Hn 0 0,u,u,u,u,u,u,u,u,u,u,u,u,u,u,u,u,u,u,u,u,u,u,u,.bool HG,u,u,u,u,u,u,u,u,u,u,u,u,u,u,u,u,u,u]∧aA H (⟨.ptr Hm Hn 0 0,4,[.agg [.int .i64 a0.Id,.int .i64 a0.Hh,.str a0.Text,.fz (a0.Has.map Hl)]]⟩::F)) (fun K9 HC=> ?_) (fun s H hq=> ?_)
 ·refine Er fun J4 H_=> ?_;refine EL gC ?_;try simp only [W,Hf,Nat.reduceAdd,Nat.reduceBEq,hS.var 0 rfl]
  refine E4 h fun If MD h=> ?_;refine TX MD hS fun H hS=> ?_;try simp only [W]
  refine FD h (fun hc h=> ?_) (fun hc h=> ?_)
  ·try simp only [W,hc]
   refine Ez H_ ?_;refine Ey ?_;exact E_ HC ⟨_,(Option.some.inj h).symm,rfl,hS⟩
  ·try simp only [W,Hf,reduceIte,Nat.reduceAdd,Nat.reduceBEq,Bool.false_eq_true,hS.var 0 rfl,hc]
   refine FD h (fun hc h=> ?_) (fun hc h=> ?_)
   ·try simp only [W,hc]
    refine Ez H_ ?_;refine Ey ?_;exact E_ HC ⟨_,(Option.some.inj h).symm,rfl,hS⟩
   ·try simp only [W,Hf,Nat.reduceAdd,Nat.reduceBEq,hS.var 0 rfl,hc]
    refine E4 h fun Iw Q6 h=> ?_;refine aaz Q6 hS fun H hS=> ?_;try simp only [W,reduceIte,Bool.false_eq_true]
    refine Ez H_ ?_;refine Ey ?_;exact E_ HC ⟨_,(Option.some.inj h).symm,rfl,hS⟩
 ·obtain ⟨HG,Hr,rfl,hS⟩:=hq;obtain rfl:=Hr.symm;replace h:=g8;try dsimp only at h
  refine Ez H9 ?_;refine Ew ?_;simp only [W];refine EK h (fun hc h=> ?_) (fun hc h=> ?_)
  ·refine Er fun JS Ig=> ?_;refine EL gC ?_;try simp only [W,Nat.reduceAdd]
   refine Ez Ig ?_;refine Eu ?_;refine EA Hv ?_;refine EH Hi rfl ?_;try obtain rfl:=Option.some.inj h
   exact hP _ (hS.Fz 1 [] (by decide))
  ·refine Et ?_;refine Ez Hv ?_;refine Er fun J3 HZ=> ?_;refine Er fun LJ IF=> ?_;refine EL gC ?_;try simp only [W,Hf,Nat.reduceAdd,Nat.reduceBEq,hS.var 0 rfl]
   refine Ez IF ?_;obtain ⟨N6,T1,g24⟩:=Option.bind_eq_some_iff.1 h;refine E9 gC (fun s H=>N6=LR.next ()∧s=[u,u,u,u,u,u,u,u,u,u,u,u,u,u,u,u,u,u,u,u,u,u,u,u,u,u,u,u,u,u,u,u,u,u,u,u,u,u,u,u,u,u,u,u]∧aA H (F)) (fun JA HR=> ?_) (fun s H hq=> ?_)
   ·refine Es fun J5 Ii=> ?_;refine E5 gC T1 (fun x s H=>s=[u,.ptr Hm Hn 0 0,u,u,u,u,u,u,u,u,u,u,u,u,u,u,u,u,u,u,u,u,u,u,u,u,u,.int .i64 a0.Hh,.int .i64 x,u,u,u,u,u,u,u,u,u,u,u,u,u,u,u]∧aA H (⟨.ptr Hm Hn 0 0,4,[.agg [.int .i64 a0.Id,.int .i64 a0.Hh,.str a0.Text,.fz (a0.Has.map Hl)]]⟩::F)) ⟨rfl,hS⟩ (fun HN Q7 s H h Q8 hi Nl Jl=> ?_)
    skip
    try dsimp only at hi
    obtain ⟨rfl,hS⟩:=hi;simp only [Qd] at h;refine Er fun Ky Il=> ?_;refine EL gC ?_;try simp only [W,Hf,Nat.reduceAdd]
    refine Ez Il ?_;refine Er fun Kg Ik=> ?_;refine Ew ?_;simp only [W];refine EK h (fun hc h=> ?_) (fun hc h=> ?_)
    ·refine Et ?_;refine Ez Ik ?_;refine Er fun KP Im=> ?_;refine Es fun LL Ir=> ?_;refine Er fun L7 IP=> ?_;refine EL gC ?_;try simp only [W,Nat.reduceAdd]
     refine Ez IP ?_;refine Er fun L_ I2=> ?_;obtain ⟨y32,h,g33⟩:=Option.bind_eq_some_iff.1 h;refine E9 gC (fun s H=> ∃Ks:Bool,y32=(Ks)∧s=[u,.ptr Hm Hn 0 0,u,u,u,u,u,u,u,u,u,u,u,u,u,u,u,u,u,u,u,u,u,u,u,u,u,.int .i64 a0.Hh,.int .i64 HN,u,u,u,u,u,u,u,u,u,u,u,u,u,.bool Ks,u]∧aA H (⟨.ptr Hm Hn 0 0,4,[.agg [.int .i64 a0.Id,.int .i64 a0.Hh,.str a0.Text,.fz (a0.Has.map Hl)]]⟩::F)) (fun N9 JC=> ?_) (fun s H hq=> ?_)
     ·refine Er fun Nn I5=> ?_;refine EL gC ?_;try simp only [W,Hf,Nat.reduceAdd,Nat.reduceBEq,hS.var 0 rfl]
      refine EW h fun NM R9 h=> ?_;try simp only [W,Hf]
      refine FD h (fun hc h=> ?_) (fun hc h=> ?_)
      ·try simp only [W,Hf,Nat.reduceAdd,Nat.reduceBEq,hS.var 0 rfl,hc]
       refine E4 h fun JZ PA h=> ?_;refine WY PA hS fun H hS=> ?_;try simp only [W,reduceIte]
       refine Ez I5 ?_;refine Ey ?_;exact E_ JC ⟨_,(Option.some.inj h).symm,rfl,hS⟩
      ·try simp only [W,hc]
       refine Ez I5 ?_;refine Ey ?_;exact E_ JC ⟨_,(Option.some.inj h).symm,rfl,hS⟩
     ·obtain ⟨Ks,Hr,rfl,hS⟩:=hq;obtain rfl:=Hr.symm;replace h:=g33;try dsimp only at h
      refine Ez I2 ?_;refine Ew ?_;simp only [W];refine EK h (fun hc h=> ?_) (fun hc h=> ?_)
      ·refine Er fun K38 Sj=> ?_;refine EL gC ?_;try simp only [W,Nat.reduceAdd]
       refine Ez Sj ?_;refine Eu ?_;refine EF Ir ?_;refine EA Im ?_;try obtain rfl:=Option.some.inj h
       obtain rfl:=Q8 _ rfl;have h:(some (LR.done false):Option (LR Unit (Bool)))=some (LR.done false):=rfl;refine E8 Jl ?_;refine EF Ii ?_;try obtain rfl:=Option.some.inj h
       obtain rfl:=Option.some.inj g24;have h:(some false:Option (Bool))=some false:=rfl;refine Fa HR ?_;refine EA HZ ?_;refine EH Hi rfl ?_;try obtain rfl:=Option.some.inj h
       exact hP _ (hS.Fz 1 [] (by decide))
      ·refine Et ?_;refine ED Ir ?_;refine Ez Im ?_;refine EL gC ?_;try simp only [W,Hf,Nat.reduceAdd]
       exact E6 Jl h ⟨rfl,hS⟩
    ·refine Ev ?_;refine EB Ik ?_;try obtain rfl:=Option.some.inj h
     obtain rfl:=Q8 _ rfl;have h:(some (LR.next ()):Option (LR Unit (Bool)))=some (LR.next ()):=rfl
     refine E7 Jl ?_;refine EE Ii ?_;exact E_ HR ⟨(Option.some.inj h).symm,rfl,(hS.Fz 1 [] (by decide))⟩
   ·obtain ⟨rfl,rfl,hS⟩:=hq;replace h:=g24;try dsimp only at h
    refine Ez HZ ?_;refine Er fun Q9 Kz=> ?_;refine EL gC ?_;try simp only [W,Nat.reduceAdd]
    refine Ez Kz ?_;refine Eu ?_;refine EH Hi rfl ?_;try obtain rfl:=Option.some.inj h
    exact hP _ hS
theorem Sk {a0:List Span} {r:(Int)} (h:NN a0=some r) {F:List It} {H:J} (hS:aA H (F)) {P:AV→J→Prop} (hP: ∀H',aA H' (F)→P (.int .i64 r) H'):aq C 107 [.fz (a0.map Hl)] H P:=by
 refine EO gC (res:=[.tmp 2]) (n:=21) rfl rfl rfl rfl fun K0 Hi=> ?_;simp only [W,Nat.reduceSub,Nat.reduceAdd,List.replicate];unfold NN at h;refine Er fun K1 Hq=> ?_;refine EL gC ?_;try simp only [W,Nat.reduceAdd]
 refine Ez Hq ?_;refine Er fun K2 Cu=> ?_;refine EL gC ?_;try simp only [W,Nat.reduceAdd]
 refine Ez Cu ?_;refine Er fun K3 HY=> ?_;refine Er fun K4 Hv=> ?_;refine EL gC ?_;try simp only [W,Hf,Nat.reduceAdd]
 refine Ez Hv ?_;obtain ⟨Kh,Ki,g15⟩:=Option.bind_eq_some_iff.1 h;refine E9 gC (fun s H=> ∃HD:Int,Kh=(HD)∧s=[u,u,u,.int .i64 HD,u,u,u,u,u,u,u,u,u,u,u,u,u,u,u,u,u]∧aA H (F)) (fun J4 H_=> ?_) (fun s H hq=> ?_)
 ·refine Es fun Kx Iu=> ?_;refine E5 gC Ki (fun x s H=>match x with|(HI,HG)=>s=[u,u,u,.int .i64 HI,u,u,.fz (a0.map Hl),.int .i64 (a0.length:Int),.int .i64 HG,u,u,u,u,u,u,u,u,u,u,u,u]∧aA H (F)) ⟨rfl,hS⟩ (fun x MB s H h JB hi KN Ic=> ?_)
  obtain ⟨HI,HG⟩:=x;try dsimp only at hi
  obtain ⟨rfl,hS⟩:=hi;simp only [Qe] at h;refine Er fun JT Ie=> ?_;refine EL gC ?_;try simp only [W,Hf,Nat.reduceAdd]
  refine Ez Ie ?_;refine Er fun Jb HJ=> ?_;refine Ew ?_;simp only [W];refine EK h (fun hc h=> ?_) (fun hc h=> ?_)
  ·refine Et ?_;refine Ez HJ ?_;refine Er fun Jp HQ=> ?_;refine Es fun JA HR=> ?_;refine Er fun J5 Ii=> ?_;refine EL gC ?_;try simp only [W,Hf,Nat.reduceAdd]
   refine EX rfl rfl rfl (fun _=>rfl) h fun HU Sf h=> ?_;try simp only [W,Hf,HL,reduceIte,Nat.reduceAdd,Nat.reduceLeDiff]
   refine ET hS rfl rfl fun WW WX H hS=> ?_;try simp only [W]
   refine EU (a:= .agg [.int .i64 HU.Hk,.int .i64 HU.To]) (y' := .agg [.int .i64 HU.Hk,.int .i64 HU.To]) 0 hS rfl rfl rfl rfl rfl rfl rfl rfl fun H hS=> ?_
   try simp only [W]
   refine Ez Ii ?_;refine EL gC ?_;try simp only [W,Hf,Nat.reduceAdd,Nat.reduceBEq,hS.var 0 rfl]
   refine ED HR ?_;refine Ez HQ ?_;refine EL gC ?_;try simp only [W,Hf,Nat.reduceAdd]
   exact E6 Ic h ⟨rfl,(hS.Fz 1 [] (by decide))⟩
  ·refine Ev ?_;refine EB HJ ?_;try obtain rfl:=Option.some.inj h
   obtain rfl:=JB _ rfl;have h:(some (HI):Option (Int))=some (HI):=rfl;refine E7 Ic ?_;refine EE Iu ?_;exact E_ H_ ⟨_,(Option.some.inj h).symm,rfl,hS⟩
 ·obtain ⟨HD,Hr,rfl,hS⟩:=hq;obtain rfl:=Hr.symm;replace h:=g15;try dsimp only at h
  refine Ez HY ?_;refine Er fun Kg Ik=> ?_;refine EL gC ?_;try simp only [W,Nat.reduceAdd]
  refine Ez Ik ?_;refine Eu ?_;refine EH Hi rfl ?_;try obtain rfl:=Option.some.inj h
  exact hP _ hS
theorem W0 {a0:Hj} {i0:Nat} {w0:Nat} {r:(Bool)} (h:Lv a0=some r) {F:List It} {H:J} (zY:⟨.ptr i0 w0 0 0,4,[.agg [.int .i64 a0.Id,.int .i64 a0.Hh,.str a0.Text,.fz (a0.Has.map Hl)]]⟩∈F) (hS:aA H (F)) {P:AV→J→Prop} (hP: ∀H',aA H' (F)→P (.bool r) H'):aq C 56 [.ptr i0 w0 0 0] H P:=by
 refine EO gC (res:=[.tmp 2]) (n:=13) rfl rfl rfl rfl fun K0 Hi=> ?_;simp only [W,Nat.reduceSub,Nat.reduceAdd,List.replicate];unfold Lv at h;refine Er fun K1 Hq=> ?_;refine EL gC ?_;try simp only [W,Nat.reduceAdd]
 refine Ez Hq ?_;refine Er fun K2 Cu=> ?_;refine EN gC (by kernel_rfl) ?_
 try simp only [W,Hf,Nat.reduceAdd,Nat.reduceBEq,hS.Fm zY]
 refine F6 (bS:=[[.sc]]) (ys:=[.fz (a0.Has.map Hl)]) h rfl (by rfl) fun b3 mc h=>⟨.int .i64 b3,Sk mc (aA.nil _) fun H hS=>F2 rfl (FY rfl (FX rfl)),⟨rfl,rfl,fun _=>rfl⟩,?_⟩
 try simp only [W,Hf,Nat.reduceAdd,Nat.reduceBEq,hS.Fm zY]
 refine Ez Cu ?_;refine Eu ?_;refine EH Hi rfl ?_;try obtain rfl:=Option.some.inj h
 exact hP _ hS
theorem aaD {a0:Hj} {r:(Bool)} (h:Lv a0=some r) {F:List It} {H:J} (hS:aA H (F)) {P:AV→J→Prop} (hP: ∀H',aA H' (F)→P (.bool r) H'):aq C 56 [.fe (.agg [.int .i64 a0.Id,.int .i64 a0.Hh,.str a0.Text,.fz (a0.Has.map Hl)]) 0] H P:=by
 refine EO gC (res:=[.tmp 2]) (n:=13) rfl rfl rfl rfl fun K0 Hi=> ?_;simp only [W,Nat.reduceSub,Nat.reduceAdd,List.replicate];unfold Lv at h;refine Er fun K1 Hq=> ?_;refine EL gC ?_;try simp only [W,Nat.reduceAdd]
 refine Ez Hq ?_;refine Er fun K2 Cu=> ?_;refine EN gC (by kernel_rfl) ?_
 try simp only [W,Hf,Nat.reduceAdd,Nat.reduceBEq]
 refine F6 (bS:=[[.sc]]) (ys:=[.fz (a0.Has.map Hl)]) h rfl (by rfl) fun b3 mc h=>⟨.int .i64 b3,Sk mc (aA.nil _) fun H hS=>F2 rfl (FY rfl (FX rfl)),⟨rfl,rfl,fun _=>rfl⟩,?_⟩
 try simp only [W,Hf,Nat.reduceAdd,Nat.reduceBEq]
 refine Ez Cu ?_;refine Eu ?_;refine EH Hi rfl ?_;try obtain rfl:=Option.some.inj h
 exact hP _ hS
theorem aaE {a0:List Int} {a1:Int} {r:(Int)} (h:RJ a0 a1=some r) {F:List It} {H:J} (hS:aA H (F)) {P:AV→J→Prop} (hP: ∀H',aA H' (F)→P (.int .i64 r) H'):aq C 108 [.fz (a0.map (AV.int .i64)),.int .i64 a1] H P:=by
 refine EO gC (res:=[.tmp 4]) (n:=19) rfl rfl rfl rfl fun K0 Hi=> ?_;simp only [W,Nat.reduceSub,Nat.reduceAdd,List.replicate];unfold RJ at h;refine Er fun K1 Hq=> ?_;refine EL gC ?_;try simp only [W,Nat.reduceAdd]
 refine Ez Hq ?_;refine Er fun K2 Cu=> ?_;refine Er fun K3 HY=> ?_;refine EL gC ?_;try simp only [W,Hf,Nat.reduceAdd]
 refine Ez HY ?_;obtain ⟨LM,LN,g12⟩:=Option.bind_eq_some_iff.1 h;refine E9 gC (fun s H=>LM=LR.next ()∧s=[u,u,u,u,u,u,u,u,u,u,u,u,u,u,u,u,u,u,u]∧aA H (F)) (fun K7 IJ=> ?_) (fun s H hq=> ?_)
 ·refine Es fun K8 HS=> ?_;refine E5 gC LN (fun x s H=>s=[.fz (a0.map (AV.int .i64)),.int .i64 a1,u,u,u,u,u,.int .i64 (a0.length:Int),.int .i64 x,u,u,u,u,u,u,u,u,u,u]∧aA H (F)) ⟨rfl,hS⟩ (fun HK LO s H h JV hi K9 HC=> ?_)
  skip
  try dsimp only at hi
  obtain ⟨rfl,hS⟩:=hi;simp only [RI] at h;refine Er fun JS Ig=> ?_;refine EL gC ?_;try simp only [W,Hf,Nat.reduceAdd]
  refine Ez Ig ?_;refine Er fun J3 HZ=> ?_;refine Ew ?_;simp only [W];refine EK h (fun hc h=> ?_) (fun hc h=> ?_)
  ·refine Et ?_;refine Ez HZ ?_;refine Er fun LJ IF=> ?_;refine Es fun JT Ie=> ?_;refine Er fun Jb HJ=> ?_;refine EL gC ?_;try simp only [W,Nat.reduceAdd]
   refine Ez HJ ?_;refine Er fun Jp HQ=> ?_;refine EL gC ?_;try simp only [W,Hf,Nat.reduceAdd]
   refine EX rfl rfl rfl (fun _=>rfl) h fun IE Mu h=> ?_;try simp only [W,Hf]
   refine Ez HQ ?_;refine Ew ?_;simp only [W];refine EK h (fun hc h=> ?_) (fun hc h=> ?_)
   ·refine Er fun J5 Ii=> ?_;refine EL gC ?_;try simp only [W,Nat.reduceAdd]
    refine Ez Ii ?_;refine Eu ?_;refine EF Ie ?_;refine EA IF ?_;try obtain rfl:=Option.some.inj h
    obtain rfl:=JV _ rfl;have h:(some (LR.done HK):Option (LR Unit (Int)))=some (LR.done HK):=rfl;refine E8 HC ?_;refine EF HS ?_;try obtain rfl:=Option.some.inj h
    obtain rfl:=Option.some.inj g12;have h:(some HK:Option (Int))=some HK:=rfl;refine Fa IJ ?_;refine EA Cu ?_;refine EH Hi rfl ?_;try obtain rfl:=Option.some.inj h
    exact hP _ hS
   ·refine Et ?_;refine ED Ie ?_;refine Ez IF ?_;refine EL gC ?_;try simp only [W,Hf,Nat.reduceAdd]
    exact E6 HC h ⟨rfl,hS⟩
  ·refine Ev ?_;refine EB HZ ?_;try obtain rfl:=Option.some.inj h
   obtain rfl:=JV _ rfl;have h:(some (LR.next ()):Option (LR Unit (Int)))=some (LR.next ()):=rfl
   refine E7 HC ?_;refine EE HS ?_;exact E_ IJ ⟨(Option.some.inj h).symm,rfl,hS⟩
 ·obtain ⟨rfl,rfl,hS⟩:=hq;replace h:=g12;try dsimp only at h
  refine Ez Cu ?_;refine Er fun KP Im=> ?_;refine EL gC ?_;try simp only [W,Nat.reduceAdd]
  refine Ez Im ?_;refine Eu ?_;refine EH Hi rfl ?_;try obtain rfl:=Option.some.inj h
  exact hP _ hS
theorem T4 {a0:List Int} {a1:Int} {r:(Bool)} (h:NO a0 a1=some r) {F:List It} {H:J} (hS:aA H (F)) {P:AV→J→Prop} (hP: ∀H',aA H' (F)→P (.bool r) H'):aq C 57 [.fz (a0.map (AV.int .i64)),.int .i64 a1] H P:=by
 refine EO gC (res:=[.tmp 4]) (n:=9) rfl rfl rfl rfl fun K0 Hi=> ?_;simp only [W,Nat.reduceSub,Nat.reduceAdd,List.replicate];unfold NO at h;refine Er fun K1 Hq=> ?_;refine EL gC ?_;try simp only [W,Nat.reduceAdd]
 refine Ez Hq ?_;refine Er fun K2 Cu=> ?_;refine EL gC ?_;try simp only [W,Nat.reduceAdd]
 refine E4 h fun b3 mc h=> ?_;refine aaE mc hS fun H hS=> ?_;try simp only [W,Hf]
 refine Ez Cu ?_;refine Eu ?_;refine EH Hi rfl ?_;try obtain rfl:=Option.some.inj h
 exact hP _ hS
theorem PB {a0:Ho} {r:(Bool)} (h:Kc a0=some r) {F:List It} {H:J} (hS:aA H (F)) {P:AV→J→Prop} (hP: ∀H',aA H' (F)→P (.bool r) H'):aq C 12 [.agg [.fz (a0.Hg.map Hp),.fz (a0.Told.map (AV.int .i64))]] H P:=by
 refine EO gC (res:=[.tmp 2]) (n:=81) rfl rfl rfl rfl fun K0 Hi=> ?_;simp only [W,Nat.reduceSub,Nat.reduceAdd,List.replicate];unfold Kc at h;refine Er fun K1 Hq=> ?_;refine EL gC ?_;try simp only [W,Nat.reduceAdd]
 refine ES hS rfl rfl rfl rfl fun Hm Hn H hS=> ?_;try simp only [W]
 refine Ez Hq ?_;refine Er fun K4 Hv=> ?_;refine Er fun K5 H9=> ?_;obtain ⟨MC,h,g8⟩:=Option.bind_eq_some_iff.1 h;refine E9 gC (fun s H=> ∃HG:Bool,MC=(HG)∧s=(u:: .ptr Hm Hn 0 0::u::u::u::u::u::u::u::u::u::u::u::u::u::u:: .bool HG::u::u::u::u::u::u::u::u::u::u::u::u::u::u::u::u::u::u::u::u::u::u::u::u::u::u::u::u::u::u::u::u::u::u::u::u::u::u::u::u::u::u::u::u::u::u::u::u::u::u::u::u::u::u::u::u::u::u::u::u::u::u::u::u::[])∧aA H (⟨.ptr Hm Hn 0 0,2,[.agg [.fz (a0.Hg.map Hp),.fz (a0.Told.map (AV.int .i64))]]⟩::F)) (fun K9 HC=> ?_) (fun s H hq=> ?_)
 ·refine Er fun J4 H_=> ?_;refine EL gC ?_;try simp only [W,Hf,Nat.reduceAdd,Nat.reduceBEq,hS.var 0 rfl]
  refine FD h (fun hc h=> ?_) (fun hc h=> ?_)
  ·try simp only [W,hc]
   refine Ez H_ ?_;refine Gw (s' :=(u:: .ptr Hm Hn 0 0::u::u::u::u::u::u::u::u::u::u::u::u::u::u:: .bool true::u::u::u::u::u::u::u::u::u::u::u::u::u::u::u::u::u::u::u::u::u::u::u::u::u::u::u::u::u::u::u::u::u::u::u::u::u::u::u::u::u::u::u::u::u::u::u::u::u::u::u::u::u::u::u::u::u::u::u::u::u::u::u::u::[])) rfl ?_
   exact E_ HC ⟨_,(Option.some.inj h).symm,rfl,hS⟩
  ·try simp only [W,Hf,reduceIte,Nat.reduceAdd,Nat.reduceBEq,Bool.false_eq_true,hS.var 0 rfl,hc]
   refine Ez H_ ?_;refine Gw (s' :=(u:: .ptr Hm Hn 0 0::u::u::u::u::u::u::u::u::u::u::u::u::u::u:: .bool (decide (100<(a0.Told.length:Int)))::u::u::u::u::u::u::u::u::u::u::u::u::u::u::u::u::u::u::u::u::u::u::u::u::u::u::u::u::u::u::u::u::u::u::u::u::u::u::u::u::u::u::u::u::u::u::u::u::u::u::u::u::u::u::u::u::u::u::u::u::u::u::u::u::[])) rfl ?_
   exact E_ HC ⟨_,(Option.some.inj h).symm,rfl,hS⟩
 ·obtain ⟨HG,Hr,rfl,hS⟩:=hq;obtain rfl:=Hr.symm;replace h:=g8;try dsimp only at h
  refine Ez H9 ?_;refine Ew ?_;simp only [W];refine EK h (fun hc h=> ?_) (fun hc h=> ?_)
  ·refine Er fun Kx Iu=> ?_;refine EL gC ?_;try simp only [W,Nat.reduceAdd]
   refine Ez Iu ?_;refine Eu ?_;refine EA Hv ?_;refine EH Hi rfl ?_;try obtain rfl:=Option.some.inj h
   exact hP _ (hS.Fz 1 [] (by decide))
  ·refine Et ?_;refine Ez Hv ?_;refine Er fun KN Ic=> ?_;refine Er fun JS Ig=> ?_;refine EL gC ?_;try simp only [W,Hf,Nat.reduceAdd,Nat.reduceBEq,hS.var 0 rfl]
   refine Ez Ig ?_;obtain ⟨N4,Q0,g22⟩:=Option.bind_eq_some_iff.1 h;refine E9 gC (fun s H=>N4=LR.next ()∧s=(u:: .ptr Hm Hn 0 0::u::u::u::u::u::u::u::u::u::u::u::u::u::u::u::u::u::u::u::u::u::u::u::u::u::u::u::u::u::u::u::u::u::u::u::u::u::u::u::u::u::u::u::u::u::u::u::u::u::u::u::u::u::u::u::u::u::u::u::u::u::u::u::u::u::u::u::u::u::u::u::u::u::u::u::u::u::u::u::[])∧aA H (⟨.ptr Hm Hn 0 0,2,[.agg [.fz (a0.Hg.map Hp),.fz (a0.Told.map (AV.int .i64))]]⟩::F)) (fun Jb HJ=> ?_) (fun s H hq=> ?_)
   ·refine Es fun Jp HQ=> ?_;refine E5 gC Q0 (fun x s H=>s=(u:: .ptr Hm Hn 0 0::u::u::u::u::u::u::u::u::u::u::u::u::u::u::u::u:: .fz (a0.Hg.map Hp):: .int .i64 (a0.Hg.length:Int):: .int .i64 x::u::u::u::u::u::u::u::u::u::u::u::u::u::u::u::u::u::u::u::u::u::u::u::u::u::u::u::u::u::u::u::u::u::u::u::u::u::u::u::u::u::u::u::u::u::u::u::u::u::u::u::u::u::u::u::u::u::u::u::u::[])∧aA H (⟨.ptr Hm Hn 0 0,2,[.agg [.fz (a0.Hg.map Hp),.fz (a0.Told.map (AV.int .i64))]]⟩::F)) ⟨rfl,hS⟩ (fun HF Nh s H h Pu hi JA HR=> ?_)
    skip
    try dsimp only at hi
    obtain ⟨rfl,hS⟩:=hi;simp only [O0] at h;refine Er fun L8 I1=> ?_;refine EL gC ?_;try simp only [W,Hf,Nat.reduceAdd]
    refine Ez I1 ?_;refine Er fun Kf Iq=> ?_;refine Ew ?_;simp only [W];refine EK h (fun hc h=> ?_) (fun hc h=> ?_)
    ·refine Et ?_;refine Ez Iq ?_;refine Er fun Ky Il=> ?_;refine Es fun Kg Ik=> ?_;refine Er fun KP Im=> ?_;refine EL gC ?_;try simp only [W,Hf,Nat.reduceAdd]
     refine EX rfl rfl rfl (fun _=>rfl) h fun H8 T5 h=> ?_;try simp only [W,Hf,HL,reduceIte,Nat.reduceAdd,Nat.reduceLeDiff]
     refine ET hS rfl rfl fun afQ afR H hS=> ?_;try simp only [W]
     refine EU (a:= .agg [.int .i64 H8.Id,.int .i64 H8.Hh,.str H8.Text,.fz (H8.Has.map Hl)]) (y' := .agg [.int .i64 H8.Id,.int .i64 H8.Hh,.str H8.Text,.fz (H8.Has.map Hl)]) 0 hS rfl rfl rfl rfl rfl rfl rfl rfl fun H hS=> ?_
     try simp only [W]
     refine Ez Im ?_;refine Er fun Lf IQ=> ?_;obtain ⟨T6,h,T7⟩:=Option.bind_eq_some_iff.1 h;refine E9 gC (fun s H=> ∃JP:Bool,T6=(JP)∧s=(u:: .ptr Hm Hn 0 0::u::u::u::u::u::u::u::u::u::u::u::u::u::u::u::u:: .fz (a0.Hg.map Hp):: .int .i64 (a0.Hg.length:Int):: .int .i64 HF::u::u::u::u::u::u::u::u::u::u::u::u::u::u::u::u::u::u::u::u::u::u::u::u::u::u::u::u::u::u::u::u:: .bool JP::u::u::u::u::u::u::u::u::u::u::u::u::u::u::u::u::u::u::u::u::u::u::u::u::u::u::u::[])∧aA H (⟨.ptr Hm Hn 0 0,2,[.agg [.fz (a0.Hg.map Hp),.fz (a0.Told.map (AV.int .i64))]]⟩::F)) (fun Nn I5=> ?_) (fun s H hq=> ?_)
     ·refine Er fun Mx IY=> ?_;refine EN gC (by kernel_rfl) ?_
      try simp only [W,Hf,reduceIte,Nat.reduceAdd,Nat.reduceLeDiff,hS.var 0 rfl]
      refine F6 (bS:=[[.sc]]) (ys:=[.agg [.int .i64 H8.Id,.int .i64 H8.Hh,.str H8.Text,.fz (H8.Has.map Hl)]]) h rfl (by rfl) fun JZ PA h=>⟨.bool JZ,WZ PA (aA.nil _) fun H hS=>F2 rfl (FY rfl (FX rfl)),⟨rfl,rfl,fun _=>rfl⟩,?_⟩
      try simp only [W]
      refine FD h (fun hc h=> ?_) (fun hc h=> ?_)
      ·try simp only [W,hc]
       refine Ez IY ?_;refine Gw (s' :=(u:: .ptr Hm Hn 0 0::u::u::u::u::u::u::u::u::u::u::u::u::u::u::u::u:: .fz (a0.Hg.map Hp):: .int .i64 (a0.Hg.length:Int):: .int .i64 HF::u::u::u::u::u::u::u::u::u::u::u::u::u::u::u::u::u::u::u::u::u::u::u::u::u::u::u::u::u::u::u::u:: .bool true::u::u::u::u::u::u::u::u::u::u::u::u::u::u::u::u::u::u::u::u::u::u::u::u::u::u::u::[])) rfl ?_
       exact E_ I5 ⟨_,(Option.some.inj h).symm,rfl,(hS.Fz 2 [1] (by decide))⟩
      ·try simp only [W,hc]
       refine F6 (bS:=[[.sc]]) (ys:=[.fe (.agg [.int .i64 H8.Id,.int .i64 H8.Hh,.str H8.Text,.fz (H8.Has.map Hl)]) 0]) h rfl (FW (FT hS 0 rfl rfl) FU) fun Jc LP h=>⟨.bool Jc,aaD LP (aA.nil _) fun H hS=>F2 rfl (FY rfl (FX rfl)),⟨rfl,rfl,fun _=>rfl⟩,?_⟩;try simp only [W,reduceIte,Bool.false_eq_true]
       refine FD h (fun hc h=> ?_) (fun hc h=> ?_)
       ·try simp only [W,hc]
        refine Ez IY ?_;refine Gw (s' :=(u:: .ptr Hm Hn 0 0::u::u::u::u::u::u::u::u::u::u::u::u::u::u::u::u:: .fz (a0.Hg.map Hp):: .int .i64 (a0.Hg.length:Int):: .int .i64 HF::u::u::u::u::u::u::u::u::u::u::u::u::u::u::u::u::u::u::u::u::u::u::u::u::u::u::u::u::u::u::u::u:: .bool true::u::u::u::u::u::u::u::u::u::u::u::u::u::u::u::u::u::u::u::u::u::u::u::u::u::u::u::[])) rfl ?_
        exact E_ I5 ⟨_,(Option.some.inj h).symm,rfl,(hS.Fz 2 [1] (by decide))⟩
       ·try simp only [W,Hf,hc]
        refine FD h (fun hc h=> ?_) (fun hc h=> ?_)
        ·try simp only [W,Hf,Nat.reduceAdd,Nat.reduceBEq,hS.var 1 rfl,hS.var 0 rfl,hc]
         refine EX rfl rfl rfl (fun _=>rfl) h fun JO Pv h=> ?_;try simp only [W,Hf,HL,reduceIte,Nat.reduceAdd,Nat.reduceBEq,Bool.false_eq_true]
         refine FD h (fun hc h=> ?_) (fun hc h=> ?_)
         ·try simp only [W,hc]
          refine Ez IY ?_;refine Gw (s' :=(u:: .ptr Hm Hn 0 0::u::u::u::u::u::u::u::u::u::u::u::u::u::u::u::u:: .fz (a0.Hg.map Hp):: .int .i64 (a0.Hg.length:Int):: .int .i64 HF::u::u::u::u::u::u::u::u::u::u::u::u::u::u::u::u::u::u::u::u::u::u::u::u::u::u::u::u::u::u::u::u:: .bool true::u::u::u::u::u::u::u::u::u::u::u::u::u::u::u::u::u::u::u::u::u::u::u::u::u::u::u::[])) rfl ?_
          exact E_ I5 ⟨_,(Option.some.inj h).symm,rfl,(hS.Fz 2 [1] (by decide))⟩
         ·try simp only [W,Hf,Nat.reduceAdd,Nat.reduceBEq,hS.var 1 rfl,hS.var 0 rfl,hc]
          refine F6 (bS:=[[.sc]]) (ys:=[.fz (a0.Told.map (AV.int .i64)),.int .i64 H8.Id]) h rfl (by rfl) fun KI aaF h=>⟨.bool KI,T4 aaF (aA.nil _) fun H hS=>F2 rfl (FY rfl (FX rfl)),⟨rfl,rfl,fun _=>rfl⟩,?_⟩
          try simp only [W,reduceIte,Bool.false_eq_true]
          refine Ez IY ?_;refine Gw (s' :=(u:: .ptr Hm Hn 0 0::u::u::u::u::u::u::u::u::u::u::u::u::u::u::u::u:: .fz (a0.Hg.map Hp):: .int .i64 (a0.Hg.length:Int):: .int .i64 HF::u::u::u::u::u::u::u::u::u::u::u::u::u::u::u::u::u::u::u::u::u::u::u::u::u::u::u::u::u::u::u::u:: .bool KI::u::u::u::u::u::u::u::u::u::u::u::u::u::u::u::u::u::u::u::u::u::u::u::u::u::u::u::[])) rfl ?_
          exact E_ I5 ⟨_,(Option.some.inj h).symm,rfl,(hS.Fz 2 [1] (by decide))⟩
        ·try simp only [W,Hf,reduceIte,Nat.reduceAdd,Nat.reduceBEq,Bool.false_eq_true,hS.var 1 rfl,hS.var 0 rfl,hc]
         refine F6 (bS:=[[.sc]]) (ys:=[.fz (a0.Told.map (AV.int .i64)),.int .i64 H8.Id]) h rfl (by rfl) fun Jh N_ h=>⟨.bool Jh,T4 N_ (aA.nil _) fun H hS=>F2 rfl (FY rfl (FX rfl)),⟨rfl,rfl,fun _=>rfl⟩,?_⟩
         try simp only [W,reduceIte,Bool.false_eq_true]
         refine Ez IY ?_;refine Gw (s' :=(u:: .ptr Hm Hn 0 0::u::u::u::u::u::u::u::u::u::u::u::u::u::u::u::u:: .fz (a0.Hg.map Hp):: .int .i64 (a0.Hg.length:Int):: .int .i64 HF::u::u::u::u::u::u::u::u::u::u::u::u::u::u::u::u::u::u::u::u::u::u::u::u::u::u::u::u::u::u::u::u:: .bool Jh::u::u::u::u::u::u::u::u::u::u::u::u::u::u::u::u::u::u::u::u::u::u::u::u::u::u::u::[])) rfl ?_
         exact E_ I5 ⟨_,(Option.some.inj h).symm,rfl,(hS.Fz 2 [1] (by decide))⟩
     ·obtain ⟨JP,Hr,rfl,hS⟩:=hq;obtain rfl:=Hr.symm;replace h:=T7;try dsimp only at h
      refine Ez IQ ?_;refine Ew ?_;simp only [W];refine EK h (fun hc h=> ?_) (fun hc h=> ?_)
      ·refine Er fun Sl LQ=> ?_;refine EL gC ?_;try simp only [W,Nat.reduceAdd]
       refine Ez LQ ?_;refine Eu ?_;refine EF Ik ?_;refine EA Il ?_;try obtain rfl:=Option.some.inj h
       obtain rfl:=Pu _ rfl;have h:(some (LR.done false):Option (LR Unit (Bool)))=some (LR.done false):=rfl;refine E8 HR ?_;refine EF HQ ?_;try obtain rfl:=Option.some.inj h
       obtain rfl:=Option.some.inj g22;have h:(some false:Option (Bool))=some false:=rfl;refine Fa HJ ?_;refine EA Ic ?_;refine EH Hi rfl ?_;try obtain rfl:=Option.some.inj h
       exact hP _ (hS.Fz 1 [] (by decide))
      ·refine Et ?_;refine ED Ik ?_;refine Ez Il ?_;refine EL gC ?_;try simp only [W,Hf,Nat.reduceAdd]
       exact E6 HR h ⟨rfl,hS⟩
    ·refine Ev ?_;refine EB Iq ?_;try obtain rfl:=Option.some.inj h
     obtain rfl:=Pu _ rfl;have h:(some (LR.next ()):Option (LR Unit (Bool)))=some (LR.next ()):=rfl
     refine E7 HR ?_;refine EE HQ ?_;exact E_ HJ ⟨(Option.some.inj h).symm,rfl,hS⟩
   ·obtain ⟨rfl,rfl,hS⟩:=hq;replace h:=g22;try dsimp only at h
    refine Ez Ic ?_;refine Er fun My I4=> ?_;refine Er fun Pw JJ=> ?_;refine EL gC ?_;try simp only [W,Hf,Nat.reduceAdd,Nat.reduceBEq,hS.var 0 rfl]
    refine Ez JJ ?_;obtain ⟨y52,aaG,Sm⟩:=Option.bind_eq_some_iff.1 h;refine E9 gC (fun s H=>y52=LR.next ()∧s=(u::u::u::u::u::u::u::u::u::u::u::u::u::u::u::u::u::u::u::u::u::u::u::u::u::u::u::u::u::u::u::u::u::u::u::u::u::u::u::u::u::u::u::u::u::u::u::u::u::u::u::u::u::u::u::u::u::u::u::u::u::u::u::u::u::u::u::u::u::u::u::u::u::u::u::u::u::u::u::u::u::[])∧aA H (F)) (fun K54 Sn=> ?_) (fun s H hq=> ?_)
    ·refine Es fun W2 Oa=> ?_;refine E5 gC aaG (fun x s H=>s=(u:: .ptr Hm Hn 0 0::u::u::u::u::u::u::u::u::u::u::u::u::u::u::u::u::u::u::u::u::u::u::u::u::u::u::u::u::u::u::u::u::u::u::u::u::u::u::u::u::u::u::u::u::u::u::u::u::u::u::u::u::u::u:: .fz (a0.Told.map (AV.int .i64)):: .int .i64 (a0.Told.length:Int):: .int .i64 x::u::u::u::u::u::u::u::u::u::u::u::u::u::u::u::u::u::u::u::u::u::u::[])∧aA H (⟨.ptr Hm Hn 0 0,2,[.agg [.fz (a0.Hg.map Hp),.fz (a0.Told.map (AV.int .i64))]]⟩::F)) ⟨rfl,hS⟩ (fun JQ W3 s H h W4 hi T8 LS=> ?_)
     skip
     try dsimp only at hi
     obtain ⟨rfl,hS⟩:=hi;simp only [O1] at h;refine Er fun T9 ME=> ?_;refine EL gC ?_;try simp only [W,Hf,Nat.reduceAdd]
     refine Ez ME ?_;refine Er fun T_ MF=> ?_;refine Ew ?_;simp only [W];refine EK h (fun hc h=> ?_) (fun hc h=> ?_)
     ·refine Et ?_;refine Ez MF ?_;refine Er fun W5 PC=> ?_;refine Es fun K63 Sp=> ?_;refine Er fun K64 Ua=> ?_;refine EL gC ?_;try simp only [W,Hf,Nat.reduceAdd]
      refine EX rfl rfl rfl (fun _=>rfl) h fun Mq aaH h=> ?_;try simp only [W,Hf]
      refine Ez Ua ?_;refine Er fun R_ Mz=> ?_;obtain ⟨y68,h,g69⟩:=Option.bind_eq_some_iff.1 h;refine E9 gC (fun s H=> ∃M5:Bool,y68=(M5)∧s=(u:: .ptr Hm Hn 0 0::u::u::u::u::u::u::u::u::u::u::u::u::u::u::u::u::u::u::u::u::u::u::u::u::u::u::u::u::u::u::u::u::u::u::u::u::u::u::u::u::u::u::u::u::u::u::u::u::u::u::u::u::u::u:: .fz (a0.Told.map (AV.int .i64)):: .int .i64 (a0.Told.length:Int):: .int .i64 JQ::u::u::u::u::u::u::u::u::u::u::u::u::u::u::u::u::u::u::u::u:: .bool M5::u::[])∧aA H (⟨.ptr Hm Hn 0 0,2,[.agg [.fz (a0.Hg.map Hp),.fz (a0.Told.map (AV.int .i64))]]⟩::F)) (fun K70 Q_=> ?_) (fun s H hq=> ?_)
      ·refine Er fun Sa KO=> ?_;refine EL gC ?_;try simp only [W,Nat.reduceAdd]
       refine E4 h fun NP Sq h=> ?_;refine Q5 Sq hS fun H hS=> ?_;try simp only [W]
       refine FD h (fun hc h=> ?_) (fun hc h=> ?_)
       ·try simp only [W,hc]
        refine Ez KO ?_;refine Gw (s' :=(u:: .ptr Hm Hn 0 0::u::u::u::u::u::u::u::u::u::u::u::u::u::u::u::u::u::u::u::u::u::u::u::u::u::u::u::u::u::u::u::u::u::u::u::u::u::u::u::u::u::u::u::u::u::u::u::u::u::u::u::u::u::u:: .fz (a0.Told.map (AV.int .i64)):: .int .i64 (a0.Told.length:Int):: .int .i64 JQ::u::u::u::u::u::u::u::u::u::u::u::u::u::u::u::u::u::u::u::u:: .bool true::u::[])) rfl ?_
        exact E_ Q_ ⟨_,(Option.some.inj h).symm,rfl,hS⟩
       ·try simp only [W,Hf,hc]
        refine FD h (fun hc h=> ?_) (fun hc h=> ?_)
        ·try simp only [W,Hf,Nat.reduceAdd,Nat.reduceBEq,hS.var 0 rfl,hc]
         refine EX rfl rfl rfl (fun _=>rfl) h fun O2 afS h=> ?_;try simp only [W,Hf,reduceIte,Bool.false_eq_true]
         refine Ez KO ?_;refine Gw (s' :=(u:: .ptr Hm Hn 0 0::u::u::u::u::u::u::u::u::u::u::u::u::u::u::u::u::u::u::u::u::u::u::u::u::u::u::u::u::u::u::u::u::u::u::u::u::u::u::u::u::u::u::u::u::u::u::u::u::u::u::u::u::u::u:: .fz (a0.Told.map (AV.int .i64)):: .int .i64 (a0.Told.length:Int):: .int .i64 JQ::u::u::u::u::u::u::u::u::u::u::u::u::u::u::u::u::u::u::u::u:: .bool (decide (Mq≤O2))::u::[])) rfl ?_
         exact E_ Q_ ⟨_,(Option.some.inj h).symm,rfl,hS⟩
        ·try simp only [W,reduceIte,Bool.false_eq_true,hc]
         refine Ez KO ?_;refine Gw (s' :=(u:: .ptr Hm Hn 0 0::u::u::u::u::u::u::u::u::u::u::u::u::u::u::u::u::u::u::u::u::u::u::u::u::u::u::u::u::u::u::u::u::u::u::u::u::u::u::u::u::u::u::u::u::u::u::u::u::u::u::u::u::u::u:: .fz (a0.Told.map (AV.int .i64)):: .int .i64 (a0.Told.length:Int):: .int .i64 JQ::u::u::u::u::u::u::u::u::u::u::u::u::u::u::u::u::u::u::u::u:: .bool false::u::[])) rfl ?_
         exact E_ Q_ ⟨_,(Option.some.inj h).symm,rfl,hS⟩
      ·obtain ⟨M5,Hr,rfl,hS⟩:=hq;obtain rfl:=Hr.symm;replace h:=g69;try dsimp only at h
       refine Ez Mz ?_;refine Ew ?_;simp only [W];refine EK h (fun hc h=> ?_) (fun hc h=> ?_)
       ·refine Er fun Sr MH=> ?_;refine EL gC ?_;try simp only [W,Nat.reduceAdd]
        refine Ez MH ?_;refine Eu ?_;refine EF Sp ?_;refine EA PC ?_;try obtain rfl:=Option.some.inj h
        obtain rfl:=W4 _ rfl;have h:(some (LR.done false):Option (LR Unit (Bool)))=some (LR.done false):=rfl;refine E8 LS ?_;refine EF Oa ?_;try obtain rfl:=Option.some.inj h
        obtain rfl:=Option.some.inj Sm;have h:(some false:Option (Bool))=some false:=rfl;refine Fa Sn ?_;refine EA I4 ?_;refine EH Hi rfl ?_;try obtain rfl:=Option.some.inj h
        exact hP _ (hS.Fz 1 [] (by decide))
       ·refine Et ?_;refine ED Sp ?_;refine Ez PC ?_;refine EL gC ?_;try simp only [W,Hf,Nat.reduceAdd]
        exact E6 LS h ⟨rfl,hS⟩
     ·refine Ev ?_;refine EB MF ?_;try obtain rfl:=Option.some.inj h
      obtain rfl:=W4 _ rfl;have h:(some (LR.next ()):Option (LR Unit (Bool)))=some (LR.next ()):=rfl
      refine E7 LS ?_;refine EE Oa ?_;exact E_ Sn ⟨(Option.some.inj h).symm,rfl,(hS.Fz 1 [] (by decide))⟩
    ·obtain ⟨rfl,rfl,hS⟩:=hq;replace h:=Sm;try dsimp only at h
     refine Ez I4 ?_;refine Er fun W6 Ob=> ?_;refine EL gC ?_;try simp only [W,Nat.reduceAdd]
     refine Ez Ob ?_;refine Eu ?_;refine EH Hi rfl ?_;try obtain rfl:=Option.some.inj h
     exact hP _ hS
theorem W7 {a0:Part} {r:(Bool)} (h:O3 a0=some r) {F:List It} {H:J} (hS:aA H (F)) {P:AV→J→Prop} (hP: ∀H',aA H' (F)→P (.bool r) H'):aq C 63 [.agg [.int .i64 a0.Id,.int .i64 a0.At,.int .i64 a0.Hh,.str a0.Text]] H P:=by
 refine EO gC (res:=[.tmp 2]) (n:=25) rfl rfl rfl rfl fun K0 Hi=> ?_;simp only [W,Nat.reduceSub,Nat.reduceAdd,List.replicate];unfold O3 at h;refine Er fun K1 Hq=> ?_;refine EL gC ?_;try simp only [W,Nat.reduceAdd]
 refine ES hS rfl rfl rfl rfl fun Hm Hn H hS=> ?_;try simp only [W]
 refine Ez Hq ?_;refine Er fun K4 Hv=> ?_;refine EL gC ?_;try simp only [W,Hf,Nat.reduceAdd,Nat.reduceBEq,hS.var 0 rfl]
 refine E4 h fun Iz Ke h=> ?_;refine TX Ke hS fun H hS=> ?_;try simp only [W]
 refine FD h (fun hc h=> ?_) (fun hc h=> ?_)
 ·try simp only [W,Hf,Nat.reduceAdd,Nat.reduceBEq,hS.var 0 rfl,hc]
  refine E4 h fun Ip LK h=> ?_;refine Q5 LK hS fun H hS=> ?_;try simp only [W,reduceIte]
  refine FD h (fun hc h=> ?_) (fun hc h=> ?_)
  ·try simp only [W,Hf,Nat.reduceAdd,Nat.reduceBEq,hS.var 0 rfl,hc]
   refine E4 h fun HT MI h=> ?_;refine Q5 MI hS fun H hS=> ?_;try simp only [W,reduceIte]
   refine Ez Hv ?_;refine Eu ?_;refine EH Hi rfl ?_;try obtain rfl:=Option.some.inj h
   exact hP _ (hS.Fz 1 [] (by decide))
  ·try simp only [W,hc]
   refine Ez Hv ?_;refine Eu ?_;refine EH Hi rfl ?_;try obtain rfl:=Option.some.inj h
   exact hP _ (hS.Fz 1 [] (by decide))
 ·try simp only [W,hc]
  refine Ez Hv ?_;refine Eu ?_;refine EH Hi rfl ?_;try obtain rfl:=Option.some.inj h
  exact hP _ (hS.Fz 1 [] (by decide))
theorem aaI {a0:List Hj} {r:List Hj} (h:Tm a0=some r) {F:List It} {H:J} (hS:aA H F) {P:AV→J→Prop} (hP: ∀v0:AV,bj v0→ ∀H',aA H' (⟨v0,4,r.map Hp⟩::F)→P v0 H'):aq C 110 [.fz (a0.map Hp)] H P:=
 G_ (I:=JG) rfl (sz:=4) (b:=56) (by simp [JG]) (fun _=>rfl) (by decide) h hS hP
theorem aaJ {a0:List Int} {r:List Int} (h:Tn a0=some r) {F:List It} {H:J} (hS:aA H F) {P:AV→J→Prop} (hP: ∀v0:AV,bj v0→ ∀H',aA H' (⟨v0,1,r.map (AV.int .i64)⟩::F)→P v0 H'):aq C 111 [.fz (a0.map (AV.int .i64))] H P:=
 G_ (I:=JG) rfl (sz:=1) (b:=8) (by simp [JG]) (fun _=>rfl) (by decide) h hS hP
theorem Ub {a0:List Span} {r:List Span} (h:NQ a0=some r) {F:List It} {H:J} (hS:aA H F) {P:AV→J→Prop} (hP: ∀v0:AV,bj v0→ ∀H',aA H' (⟨v0,2,r.map Hl⟩::F)→P v0 H'):aq C 112 [.fz (a0.map Hl)] H P:=
 G_ (I:=JG) rfl (sz:=2) (b:=16) (by simp [JG]) (fun _=>rfl) (by decide) h hS hP
theorem aaK {a0:Ho} {r:(Ho)} (h:Qf a0=some r) {F:List It} {H:J} (hS:aA H (F)) {P:AV→J→Prop} (hP: ∀v46:AV,bj v46→ ∀Uc:AV,bj Uc→ ∀H',aA H' (⟨v46,4,r.Hg.map Hp⟩::⟨Uc,1,r.Told.map (AV.int .i64)⟩::F)→P (.agg [v46,Uc]) H'):aq C 64 [.agg [.fz (a0.Hg.map Hp),.fz (a0.Told.map (AV.int .i64))]] H P:=by
 refine EO gC (res:=[.cell 2 28]) (n:=31) rfl rfl rfl rfl fun K0 Hi=> ?_;simp only [W,Nat.reduceSub,Nat.reduceAdd,List.replicate];unfold Qf at h;refine Er fun K1 Hq=> ?_;refine EL gC ?_;try simp only [W,Nat.reduceAdd]
 refine ES hS rfl rfl rfl rfl fun Hm Hn H hS=> ?_;try simp only [W]
 refine ET hS rfl rfl fun Hw Hy H hS=> ?_;try simp only [W]
 refine Ez Hq ?_;refine Er fun K6 ID=> ?_;refine FF gC [(8,[])] (by kernel_rfl) rfl (by kernel_rfl) ?_
 try simp only [W,Hf,reduceIte,Nat.reduceAdd,Nat.reduceBEq,hS.var 1 rfl,jT,mV,Nat.reduceEqDiff,List.contains_cons,Nat.reduceBEq,Bool.or_true,Bool.or_self]
 refine F9 (bS:=[[.sl [.sc,.sc,.sc,.sl [.sc,.sc]]]]) (ys:=[.fz (a0.Hg.map Hp)]) h rfl (by rfl) fun HT MI h=>⟨.own 4 (HT.map Hp),aaI MI (aA.nil _) fun KA PD H hS=>F2 rfl (F0 0 hS rfl PD (fun _ _=>by simp [a8,aT,cE,dT,Hp]) fun H hS=>FX rfl),?_⟩
 refine F5 ?_;refine F4 hS (fun _ _=>rfl) (fun _=>rfl) fun v10 H JU hS=> ?_;refine F3 ?_;try simp only [List.headD_cons]
 try simp only [W,Hf,Nat.reduceAdd,Nat.reduceBEq,hS.var 2 rfl,Nat.reduceBEq]
 refine F9 (bS:=[[.sl [.sc]]]) (ys:=[.fz (a0.Told.map (AV.int .i64))]) h rfl (by rfl) fun If MD h=>⟨.own 1 (If.map (AV.int .i64)),aaJ MD (aA.nil _) fun v12 Ud H hS=>F2 rfl (F0 0 hS rfl Ud (fun _ _=>by simp [a8,aT,dT]) fun H hS=>FX rfl),?_⟩
 refine F5 ?_;refine F4 hS (fun _ _=>rfl) (fun _=>rfl) fun IX H J6 hS=> ?_;refine F3 ?_;try simp only [List.headD_cons]
 try simp only [W,Hf]
 refine FE rfl rfl rfl rfl (by simp only [gy,JU.E0,JU.cells,J6.E0,J6.cells];simp [E,splice]<;>rfl) ?_
 try simp only [W]
 refine ET hS rfl rfl fun Ss Su H hS=> ?_;try simp only [W]
 refine EU (a:= .agg [v10,IX]) (y' := .agg [v10,IX]) 0 hS rfl rfl rfl rfl rfl (by simp only [en,List.all_cons,List.all_nil,JU.sw,J6.sw];rfl) rfl rfl fun H hS=> ?_
 try simp only [W]
 refine Ez ID ?_;refine Er fun Jb HJ=> ?_;refine Er fun Jp HQ=> ?_;refine EL gC ?_;try simp only [W,Hf,Nat.reduceAdd,Nat.reduceBEq,hS.var 0 rfl]
 refine E1 2 hS rfl JU rfl ?_;try simp only [W]
 refine Ez HQ ?_;obtain ⟨Ue,aaL,g29⟩:=Option.bind_eq_some_iff.1 h;refine E9 gC (fun s H=> ∃Mr:List Hj,Ue=(Mr)∧s=[u,u,.ptr Hw Hy 0 0,.ptr Ss Su 0 0,u,u,u,u,u,u,u,u,u,u,u,u,u,u,u,u,u,u,u,u,u,u,u,u,u,u,u]∧aA H (⟨v10,4,Mr.map Hp⟩::⟨IX,1,If.map (AV.int .i64)⟩::⟨.ptr Hw Hy 0 0,2,[.agg [.nil,.nil]]⟩::⟨.ptr Ss Su 0 0,2,[.agg [v10,IX]]⟩::F)) (fun Kf Iq=> ?_) (fun s H hq=> ?_)
 ·refine Es fun Ky Il=> ?_;refine E5 gC aaL (fun x s H=>match x with|(HV,IW)=>s=[u,u,.ptr Hw Hy 0 0,.ptr Ss Su 0 0,u,u,u,u,u,u,u,u,u,u,v10,.int .i64 (HT.length:Int),.int .i64 IW,u,u,u,u,u,u,u,u,u,u,u,u,u,u]∧aA H (⟨v10,4,HV.map Hp⟩::⟨IX,1,If.map (AV.int .i64)⟩::⟨.ptr Hw Hy 0 0,2,[.agg [.nil,.nil]]⟩::⟨.ptr Ss Su 0 0,2,[.agg [v10,IX]]⟩::F)) ⟨rfl,(hS.Fz 5 [2,1,3,0] (by decide))⟩ (fun x W8 s H h aaM hi Kg Ik=> ?_)
  obtain ⟨HV,IW⟩:=x;try dsimp only at hi
  obtain ⟨rfl,hS⟩:=hi;simp only [RK] at h;refine Er fun L_ I2=> ?_;refine EL gC ?_;try simp only [W,Hf,Nat.reduceAdd]
  refine Ez I2 ?_;refine Er fun Lf IQ=> ?_;refine Ew ?_;simp only [W];refine EK h (fun hc h=> ?_) (fun hc h=> ?_)
  ·refine Et ?_;refine Ez IQ ?_;refine Er fun Ma I3=> ?_;refine Es fun MJ I6=> ?_;refine Er fun N9 JC=> ?_;refine EL gC ?_;try simp only [W,Hf,Nat.reduceAdd]
   refine EY 0 hS rfl rfl rfl rfl rfl h (fun Ix aaN aaO aaP Sv h Uf=> ?_) JU.ne;obtain ⟨aaQ,Ug,Uh⟩:=hS.elem 0 rfl Uf Sv;try simp only [W,Hf,HL,reduceIte,Nat.reduceAdd,Nat.reduceLeDiff,Ug,Uh]
   refine ET hS rfl rfl fun Ui Uj H hS=> ?_;try simp only [W]
   refine EU (a:= .agg [.int .i64 Ix.Id,.int .i64 Ix.Hh,.str Ix.Text,.fz (Ix.Has.map Hl)]) (y' := .agg [.int .i64 Ix.Id,.int .i64 Ix.Hh,.str Ix.Text,.fz (Ix.Has.map Hl)]) 0 hS rfl rfl rfl rfl rfl rfl rfl rfl fun H hS=> ?_
   try simp only [W]
   refine Ez JC ?_;refine FF gC [(8,[])] (by kernel_rfl) rfl (by kernel_rfl) ?_
   try simp only [W,Hf,reduceIte,Nat.reduceAdd,Nat.reduceBEq,hS.var 4 rfl,hS.var 0 rfl,jT,mV,Nat.reduceEqDiff]
   refine F8 (bS:=[[.sl [.sc,.sc]]]) (ys:=[.fz (Ix.Has.map Hl)]) h rfl (by rfl) fun JO Pv h=>⟨.own 2 (JO.map Hl),Ub Pv (aA.nil _) fun v40 Ra H hS=>F2 rfl (F0 0 hS rfl Ra (fun _ _=>by simp [a8,aT,cE,dT,Hl]) fun H hS=>FX rfl),?_⟩
   simp only [W,xn (c:=Hl) (fun _=>rfl)];try simp only [Hf]
   refine EY 1 hS rfl rfl rfl rfl rfl h (fun Jh afT afU afV N_ h W9=> ?_) JU.ne;obtain ⟨afW,aaR,afX⟩:=hS.elem 1 rfl W9 N_;try simp only [W,Hf,Nat.reduceAdd,Nat.reduceBEq,aaR]
   refine EZ (a:= .fz (JO.map Hl)) (y' :=(⟨Jh.Id,Jh.Hh,Jh.Text,JO⟩:Hj)) 1 hS rfl W9 N_ rfl rfl rfl rfl rfl rfl rfl fun H hS=> ?_
   try simp only [W]
   refine ED I6 ?_;refine Ez I3 ?_;refine EL gC ?_;try simp only [W,Hf,Nat.reduceAdd]
   exact E6 Ik h ⟨rfl,(hS.Fz 5 [1,2,3,4] (by decide))⟩
  ·refine Ev ?_;refine EB IQ ?_;try obtain rfl:=Option.some.inj h
   obtain rfl:=aaM _ rfl;have h:(some (HV):Option ((List Hj)))=some (HV):=rfl;refine E7 Ik ?_;refine EE Il ?_;exact E_ Iq ⟨_,(Option.some.inj h).symm,rfl,hS⟩
 ·obtain ⟨Mr,Hr,rfl,hS⟩:=hq;obtain rfl:=Hr.symm;replace h:=g29;try dsimp only at h
  refine Ez HJ ?_;refine Er fun Q9 Kz=> ?_;refine EL gC ?_;try simp only [W,Hf,reduceIte,Nat.reduceAdd,Nat.reduceLeDiff,hS.var 3 rfl]
  refine EU (a:= .agg [v10,IX]) (y' := .agg [v10,IX]) 2 hS rfl rfl rfl rfl rfl (by simp only [en,List.all_cons,List.all_nil,JU.sw,J6.sw];rfl) rfl rfl fun H hS=> ?_
  try simp only [W]
  refine Ez Kz ?_;refine Eu ?_;refine EG Hi (FB rfl rfl (hS.var 2 rfl) rfl rfl) ?_;try obtain rfl:=Option.some.inj h
  exact hP _ JU _ J6 _ (hS.Fz 4 [0,1] (by decide))
theorem aaS {a0:List Hj} {a1:Int} {g2:Hj→Int→Option Int} {f2:FuncId} {c2:List AV} {r:(Int×Bool)} (h:Qg a0 a1 g2=some r) {F:List It} {H:J} (ij: ∀{x0:Hj} {x1:Int} {r:Int},g2 x0 x1=some r→ ∀(L:List It) (n:Nat),L.drop n=F→ ∀(H:J),aA H L→ ∀(P:AV→J→Prop),(∀H',aA H' L→P (.int .i64 r) H')→aq C f2 ([.agg [.int .i64 x0.Id,.int .i64 x0.Hh,.str x0.Text,.fz (x0.Has.map Hl)],.int .i64 x1] ++ c2) H P) (hS:aA H (F)) {P:AV→J→Prop} (hP: ∀H',aA H' (F)→P (.aD [.int .i64 r.1,.bool r.2]) H'):aq C 65 [.fz (a0.map Hp),.int .i64 a1,.fn f2 c2] H P:=by
 refine EO gC (res:=[.tmp 6,.tmp 7]) (n:=49) rfl rfl rfl rfl fun K0 Hi=> ?_;simp only [W,Nat.reduceSub,Nat.reduceAdd,List.replicate];unfold Qg at h;refine Er fun K1 Hq=> ?_;refine EL gC ?_;try simp only [W,Nat.reduceAdd]
 refine Ez Hq ?_;refine Er fun K2 Cu=> ?_;refine EL gC ?_;try simp only [W,Hf,Nat.reduceAdd]
 refine Ez Cu ?_;refine Er fun K3 HY=> ?_;refine EL gC ?_;try simp only [W,Nat.reduceAdd]
 refine Ez HY ?_;refine Er fun K4 Hv=> ?_;obtain ⟨Kh,Ki,g15⟩:=Option.bind_eq_some_iff.1 h;refine E9 gC (fun s H=> ∃HD:Int,Kh=(HD)∧s=[.fz (a0.map Hp),.int .i64 a1,.fn f2 c2,u,u,u,u,u,.int .i64 (a0.length:Int),.int .i64 HD,u,u,u,u,u,u,u,u,u,u,u,u,u,u,u,u,u,u,u,u,u,u,u,u,u,u,u,u,u,u,u,u,u,u,u,u,u,u,u]∧aA H (F)) (fun J4 H_=> ?_) (fun s H hq=> ?_)
 ·refine Es fun Kx Iu=> ?_;refine E5 gC Ki (fun x s H=>match x with|(HI,HG)=>s=[.fz (a0.map Hp),.int .i64 a1,.fn f2 c2,u,u,u,u,u,.int .i64 (a0.length:Int),.int .i64 HI,.int .i64 HG,u,u,u,u,u,u,u,u,u,u,u,u,u,u,u,u,u,u,u,u,u,u,u,u,u,u,u,u,u,u,u,u,u,u,u,u,u,u]∧aA H (F)) ⟨rfl,hS⟩ (fun x MB s H h JB hi KN Ic=> ?_)
  obtain ⟨HI,HG⟩:=x;try dsimp only at hi
  obtain ⟨rfl,hS⟩:=hi;simp only [RL] at h;refine Er fun JT Ie=> ?_;refine Er fun Jb HJ=> ?_;refine EL gC ?_;try simp only [W,Hf,Nat.reduceAdd]
  refine Ez HJ ?_;refine Ew ?_;simp only [W];refine EK h (fun hc h=> ?_) (fun hc h=> ?_)
  ·refine Et ?_;refine Ez Ie ?_;obtain ⟨Nh,h,g22⟩:=Option.bind_eq_some_iff.1 h;refine E9 gC (fun s H=> ∃HV:Int,∃IW:Int,Nh=(HV,IW)∧s=[.fz (a0.map Hp),.int .i64 a1,.fn f2 c2,u,u,u,u,u,.int .i64 (a0.length:Int),.int .i64 HV,.int .i64 IW,u,u,u,u,u,u,u,u,u,u,u,u,u,u,u,u,u,u,u,u,u,u,u,u,u,u,u,u,u,u,u,u,u,u,u,u,u,u]∧aA H (F)) (fun L8 I1=> ?_) (fun s H hq=> ?_)
   ·refine Es fun Jp HQ=> ?_;refine Er fun Kf Iq=> ?_;refine EL gC ?_;try simp only [W,Hf,Nat.reduceAdd]
    rw [Fc _ _ _ rfl,Option.map_some,vK];try simp only [W,Hf]
    refine Ez Iq ?_;refine Er fun Ky Il=> ?_;refine EL gC ?_;try simp only [W,Hf,Nat.reduceAdd]
    refine EX rfl rfl rfl (fun _=>rfl) h fun Lw aaT h=> ?_;try simp only [W,Hf,HL,reduceIte,Nat.reduceAdd,Nat.reduceLeDiff]
    refine E4 h fun KH N7 h=> ?_;refine ij N7 _ 0 rfl _ hS _ fun H hS=> ?_;try simp only [W,Hf]
    refine Ez Il ?_;obtain ⟨Sw,h,Oc⟩:=Option.bind_eq_some_iff.1 h;refine E9 gC (fun s H=> ∃Jg:Int,∃M6:Int,Sw=(Jg,M6)∧s=[.fz (a0.map Hp),.int .i64 a1,.fn f2 c2,u,u,u,u,u,.int .i64 (a0.length:Int),.int .i64 Jg,.int .i64 M6,u,u,u,u,u,u,u,u,u,u,u,u,u,u,u,u,u,u,u,u,u,u,u,u,u,u,u,u,u,u,u,u,u,u,u,u,u,u]∧aA H (F)) (fun Ma I3=> ?_) (fun s H hq=> ?_)
    ·refine Er fun MJ I6=> ?_;refine Ew ?_;simp only [W];refine EK h (fun hc h=> ?_) (fun hc h=> ?_)
     ·refine EL gC ?_;try simp only [W,Hf,Nat.reduceAdd]
      refine Ez I6 ?_;refine Ey ?_;exact E_ I3 ⟨_,_,(Option.some.inj h).symm,rfl,hS⟩
     ·refine EL gC ?_;try simp only [W,Nat.reduceAdd]
      refine Ez I6 ?_;refine Ey ?_;exact E_ I3 ⟨_,_,(Option.some.inj h).symm,rfl,hS⟩
    ·obtain ⟨Jg,M6,rfl,rfl,hS⟩:=hq;replace h:=Oc;try dsimp only at h
     refine EC HQ ?_;exact E_ I1 ⟨_,_,(Option.some.inj h).symm,rfl,hS⟩
   ·obtain ⟨HV,IW,rfl,rfl,hS⟩:=hq;replace h:=g22;try dsimp only at h
    exact E6 Ic h ⟨rfl,hS⟩
  ·refine Ev ?_;refine EB Ie ?_;try obtain rfl:=Option.some.inj h
   obtain rfl:=JB _ rfl;have h:(some (HI):Option (Int))=some (HI):=rfl;refine E7 Ic ?_;refine EE Iu ?_;exact E_ H_ ⟨_,(Option.some.inj h).symm,rfl,hS⟩
 ·obtain ⟨HD,Hr,rfl,hS⟩:=hq;obtain rfl:=Hr.symm;replace h:=g15;try dsimp only at h
  refine Ez Hv ?_;refine Er fun Mx IY=> ?_;refine EL gC ?_;try simp only [W,Hf,Nat.reduceAdd]
  refine FD h (fun hc h=> ?_) (fun hc h=> ?_)
  ·try simp only [W,Hf,hc]
   refine EX rfl rfl rfl (fun _=>rfl) h fun JZ PA h=> ?_;try simp only [W,Hf,HL,reduceIte,Nat.reduceAdd,Nat.reduceLeDiff]
   refine E4 h fun Jc LP h=> ?_;refine ij LP _ 0 rfl _ hS _ fun H hS=> ?_;try simp only [W,Hf,reduceIte]
   refine Ez IY ?_;refine Eu ?_;refine EI Hi rfl rfl ?_;try obtain rfl:=Option.some.inj h
   exact hP _ hS
  ·try simp only [W,hc]
   refine Ez IY ?_;refine Eu ?_;refine EI Hi rfl rfl ?_;try obtain rfl:=Option.some.inj h
   exact hP _ hS
theorem aaU {a0:Hj} {a1:Int} {r:(Int)} (h:NR a0 a1=some r) {F:List It} {H:J} (hS:aA H (F)) {P:AV→J→Prop} (hP: ∀H',aA H' (F)→P (.int .i64 r) H'):aq C 66 [.agg [.int .i64 a0.Id,.int .i64 a0.Hh,.str a0.Text,.fz (a0.Has.map Hl)],.int .i64 a1] H P:=by
 refine EO gC (res:=[.tmp 4]) (n:=9) rfl rfl rfl rfl fun K0 Hi=> ?_;simp only [W,Nat.reduceSub,Nat.reduceAdd,List.replicate];unfold NR at h;refine Er fun K1 Hq=> ?_;refine EL gC ?_;try simp only [W,Nat.reduceAdd]
 refine ES hS rfl rfl rfl rfl fun Hm Hn H hS=> ?_;try simp only [W]
 refine Ez Hq ?_;refine Er fun K4 Hv=> ?_;refine EL gC ?_;try simp only [W,Hf,Nat.reduceAdd,Nat.reduceBEq,hS.var 0 rfl]
 refine Ez Hv ?_;refine Eu ?_;refine EH Hi rfl ?_;try obtain rfl:=Option.some.inj h
 exact hP _ (hS.Fz 1 [] (by decide))
theorem aaV {a0:List UInt8} {a1:Int} {r:List UInt8} (h:strings_Repeat a0 a1=some r) {F:List It} {H:J} (hS:aA H F) {P:AV→J→Prop} (hP: ∀H',aA H' F→P (.str r) H'):aq C 115 [.str a0,.int .i64 a1] H P:=
 Hb (I:=JG) rfl (by simp [JG]) h hS hP
theorem aaW {a0:Int} {a1:Int} {r:(Hj)} (h:Qh a0 a1=some r) {F:List It} {H:J} (hS:aA H (F)) {P:AV→J→Prop} (hP: ∀v6:AV,bj v6→ ∀H',aA H' (⟨v6,2,r.Has.map Hl⟩::F)→P (.agg [.int .i64 r.Id,.int .i64 r.Hh,.str r.Text,v6]) H'):aq C 68 [.int .i64 a0,.int .i64 a1] H P:=by
 refine EO gC (res:=[.cell 4 99]) (n:=10) rfl rfl rfl rfl fun K0 Hi=> ?_;simp only [W,Nat.reduceSub,Nat.reduceAdd,List.replicate];unfold Qh at h;refine Er fun K1 Hq=> ?_;refine EL gC ?_;try simp only [W,Nat.reduceAdd]
 refine ET hS rfl rfl fun Hm Hn H hS=> ?_;try simp only [W]
 refine Ez Hq ?_;refine Er fun K4 Hv=> ?_;refine EL gC ?_;try simp only [W,Nat.reduceAdd]
 refine E4 h fun Iz Ke h=> ?_;refine aaV Ke hS fun H hS=> ?_;try simp only [W,Hf]
 refine FE rfl rfl rfl rfl rfl ?_;try simp only [W]
 refine EU (a:= .agg [.int .i64 a0,.int .i64 a1,.str Iz,.nil]) (y' := .agg [.int .i64 a0,.int .i64 a1,.str Iz,.nil]) 0 hS rfl rfl rfl rfl rfl rfl rfl rfl fun H hS=> ?_
 try simp only [W]
 refine Ez Hv ?_;refine Eu ?_;refine EG Hi (FB rfl rfl (hS.var 0 rfl) rfl rfl) ?_;try obtain rfl:=Option.some.inj h
 exact hP _ rL _ ((hS.Fl 2).Fz 2 [0] (by decide))
theorem aaX {a0:List Hj} {a1:Int} {a2 r:List Hj} (h:RM a0 a1 a2=some r) {F:List It} {H:J} {m0 m2:AV} (hS:aA H (⟨m0,4,a0.map Hp⟩::⟨m2,4,a2.map Hp⟩::F)) (Kj:bj m0) (qm2:bj m2) {P:AV→J→Prop} (hP: ∀v0:AV,bj v0→ ∀H',aA H' (⟨v0,4,r.map Hp⟩::F)→P v0 H'):aq C 67 [m0,.int .i64 a1,m2] H P:=
 He (sz:=4) (c:=Hp) (I:=JG) rfl (by simp [JG]) (fun _=>rfl) h hS Kj qm2 hP
theorem aaY {a0 r:List Span} (h:Tp a0=some r) {F:List It} {H:J} {m0:AV} (hS:aA H (⟨m0,2,a0.map Hl⟩::F)) (Kj:bj m0) {P:AV→J→Prop} (hP: ∀H',aA H' (⟨m0,2,r.map Hl⟩::F)→P (.aD []) H'):aq C 177 [m0,.fn 178 []] H P:=
 Ha (I:=JG) rfl (by simp [JG]) (by decide) (fun _=>rfl) (fun _=>rfl) h hS Kj hP
theorem aaZ {a0:List Span} {r:(List Span)} (h:O4 a0=some r) {F:List It} {H:J} (hS:aA H (F)) {P:AV→J→Prop} (hP: ∀Od:AV,bj Od→ ∀H',aA H' (⟨Od,2,r.map Hl⟩::F)→P (Od) H'):aq C 153 [.fz (a0.map Hl)] H P:=by
 refine EO gC (res:=[.tmp 2]) (n:=52) rfl rfl rfl rfl fun K0 Hi=> ?_;simp only [W,Nat.reduceSub,Nat.reduceAdd,List.replicate];unfold O4 at h;refine Er fun K1 Hq=> ?_;refine EL gC ?_;try simp only [W,Nat.reduceAdd]
 refine Ez Hq ?_;refine Er fun K2 Cu=> ?_;refine EL gC ?_;try simp only [W,Nat.reduceAdd]
 refine E4 h fun b3 mc h=> ?_;refine Ub mc hS fun v4 Uk H hS=> ?_;try simp only [W]
 refine E2 rfl rfl ?_;try simp only [W]
 refine Ez Cu ?_;refine Er fun K6 ID=> ?_;refine EL gC ?_;try simp only [W,Nat.reduceAdd]
 refine E4 h fun HT MI h=> ?_;refine aaY MI hS Uk fun H hS=> ?_;try simp only [W]
 refine Ez ID ?_;refine Er fun K8 HS=> ?_;refine Er fun K9 HC=> ?_;refine EL gC ?_;try simp only [W,Hf,Nat.reduceAdd]
 refine E1 0 hS rfl Uk rfl ?_;try simp only [W]
 refine Ez HC ?_;obtain ⟨Ul,Um,g23⟩:=Option.bind_eq_some_iff.1 h;refine E9 gC (fun s H=> ∃HF:List Span,Ul=(HF)∧ ∃JW:AV,bj JW∧s=[u,u,u,u,JW,u,u,u,u,u,u,u,u,u,u,u,u,u,u,u,u,u,u,u,u,u,u,u,u,u,u,u,u,u,u,u,u,u,u,u,u,u,u,u,u,u,u,u,u,u,u,u]∧aA H (⟨JW,2,HF.map Hl⟩::F)) (fun Jp HQ=> ?_) (fun s H hq=> ?_)
 ·refine Es fun JA HR=> ?_;refine E5 gC Um (fun x s H=>match x with|(HO,H7)=> ∃v11:AV,bj v11∧s=[u,u,u,u,v11,u,u,u,u,u,u,u,u,v4,.int .i64 (HT.length:Int),.int .i64 H7,u,u,u,u,u,u,u,u,u,u,u,u,u,u,u,u,u,u,u,u,u,u,u,u,u,u,u,u,u,u,u,u,u,u,u,u]∧aA H (⟨v11,2,HO.map Hl⟩::⟨v4,2,HT.map Hl⟩::F)) ⟨_,oR,rfl,(hS.CS 2)⟩ (fun x Ue s H h Un hi J5 Ii=> ?_)
  obtain ⟨HO,H7⟩:=x;try dsimp only at hi
  obtain ⟨v11,MK,rfl,hS⟩:=hi;simp only [Qi] at h;refine Er fun Kf Iq=> ?_;refine EL gC ?_;try simp only [W,Hf,Nat.reduceAdd]
  refine Ez Iq ?_;refine Er fun Ky Il=> ?_;refine Ew ?_;simp only [W];refine EK h (fun hc h=> ?_) (fun hc h=> ?_)
  ·refine Et ?_;refine Ez Il ?_;refine Er fun Kg Ik=> ?_;obtain ⟨Uo,h,Uq⟩:=Option.bind_eq_some_iff.1 h;refine E9 gC (fun s H=> ∃Jg:List Span,Uo=(Jg)∧ ∃Mw:AV,bj Mw∧s=[u,u,u,u,Mw,u,u,u,u,u,u,u,u,v4,.int .i64 (HT.length:Int),.int .i64 H7,u,u,u,u,u,u,u,u,u,u,u,u,u,u,u,u,u,u,u,u,u,u,u,u,u,u,u,u,u,u,u,u,u,u,u,u]∧aA H (⟨Mw,2,Jg.map Hl⟩::⟨v4,2,HT.map Hl⟩::F)) (fun MJ I6=> ?_) (fun s H hq=> ?_)
   ·refine Es fun KP Im=> ?_;refine Er fun N9 JC=> ?_;refine EL gC ?_;try simp only [W,Hf,Nat.reduceAdd]
    refine EY 1 hS rfl rfl rfl rfl rfl h (fun Ix aaN aaO aaP Sv h Uf=> ?_) Uk.ne;obtain ⟨aaQ,Ug,Uh⟩:=hS.elem 1 rfl Uf Sv;try simp only [W,Hf,HL,reduceIte,Nat.reduceAdd,Nat.reduceLeDiff,Ug,Uh]
    refine ET hS rfl rfl fun Ui Uj H hS=> ?_;try simp only [W]
    refine EU (a:= .agg [.int .i64 Ix.Hk,.int .i64 Ix.To]) (y' := .agg [.int .i64 Ix.Hk,.int .i64 Ix.To]) 0 hS rfl rfl rfl rfl rfl rfl rfl rfl fun H hS=> ?_
    try simp only [W]
    refine Ez JC ?_;refine Er fun Sg Lh=> ?_;refine Er fun Rb J7=> ?_;refine EL gC ?_;try simp only [W,Hf,Nat.reduceAdd]
    refine E1 1 hS rfl MK rfl ?_;try simp only [W,Hf]
    refine Ez J7 ?_;refine Er fun Ur Mb=> ?_;obtain ⟨W_,h,Us⟩:=Option.bind_eq_some_iff.1 h;refine E9 gC (fun s H=> ∃IM:Bool,W_=(IM)∧s=[u,u,u,u,v11,u,.ptr Ui Uj 0 0,.int .i64 (IntKind.i64.wrap ((HO.length:Int)-1)),u,u,u,u,u,v4,.int .i64 (HT.length:Int),.int .i64 H7,u,u,u,u,u,u,u,u,u,u,u,u,u,u,u,u,u,.bool IM,u,u,u,u,u,u,u,u,u,u,u,u,u,u,u,u,u,u]∧aA H (⟨v11,2,HO.map Hl⟩::⟨v4,2,HT.map Hl⟩::⟨.ptr Ui Uj 0 0,2,[.agg [.int .i64 Ix.Hk,.int .i64 Ix.To]]⟩::F)) (fun Q9 Kz=> ?_) (fun s H hq=> ?_)
    ·refine Er fun Xa Oe=> ?_;refine EN gC (by kernel_rfl) ?_
     try simp only [W,Hf,Nat.reduceAdd]
     refine FD h (fun hc h=> ?_) (fun hc h=> ?_)
     ·try simp only [W,Hf,Nat.reduceAdd,Nat.reduceBEq,hS.var 0 rfl,hc]
      refine EY 1 hS rfl rfl rfl rfl rfl h (fun Tq aa0 aa1 aa2 Sx h Sy=> ?_) MK.ne;obtain ⟨aa3,Xb,Xc⟩:=hS.elem 1 rfl Sy Sx;try simp only [W,Hf,HL,reduceIte,Nat.reduceAdd,Nat.reduceBEq,Xb,Xc]
      refine Ez Oe ?_;refine Ey ?_;exact E_ Kz ⟨_,(Option.some.inj h).symm,rfl,(hS.Fz 3 [1,2,0] (by decide))⟩
     ·try simp only [W,hc]
      refine Ez Oe ?_;refine Ey ?_;exact E_ Kz ⟨_,(Option.some.inj h).symm,rfl,(hS.Fz 3 [1,2,0] (by decide))⟩
    ·obtain ⟨IM,Hr,rfl,hS⟩:=hq;obtain rfl:=Hr.symm;replace h:=Us;try dsimp only at h
     refine Ez Mb ?_;refine Ew ?_;simp only [W];refine EK h (fun hc h=> ?_) (fun hc h=> ?_)
     ·refine Er fun My I4=> ?_;refine FF gC [(12,[])] (by kernel_rfl) rfl (by kernel_rfl) ?_
      try simp only [W,Hf,reduceIte,Nat.reduceAdd,jT,mV,Nat.reduceEqDiff]
      refine EY 0 hS rfl rfl rfl rfl rfl h (fun JE afY afZ af0 Xd h aa4=> ?_) MK.ne;obtain ⟨af1,aa5,aa6⟩:=hS.elem 0 rfl aa4 Xd;try simp only [W,Hf,HL,Nat.reduceAdd,Nat.reduceBEq,hS.var 2 rfl,aa5,aa6]
      refine EY 0 hS rfl rfl rfl rfl rfl h (fun Ku af2 af3 af4 Sz h Xe=> ?_) MK.ne;obtain ⟨af5,aa7,af6⟩:=hS.elem 0 rfl Xe Sz;try simp only [W,Hf,Nat.reduceAdd,Nat.reduceBEq,aa7]
      refine EZ (a:= .int .i64 (if Ix.To>JE.To then Ix.To else JE.To)) (y' :=(⟨Ku.Hk,(if Ix.To>JE.To then Ix.To else JE.To)⟩:Span)) 0 hS rfl Xe Sz rfl rfl rfl rfl rfl rfl rfl fun H hS=> ?_
      try simp only [W]
      refine Ez I4 ?_;refine Ev ?_;refine EB Lh ?_;refine EE Im ?_;exact E_ I6 ⟨_,(Option.some.inj h).symm,_,MK,rfl,(hS.Fz 3 [0,1] (by decide))⟩
     ·refine Et ?_;refine Ez Lh ?_;refine EL gC ?_;try simp only [W,Hf,reduceIte,Nat.reduceAdd,Nat.reduceLeDiff,hS.var 2 rfl]
      refine E3 (el:=([Ix]:List Span).map Hl) hS rfl rfl rfl rfl rfl rfl rfl fun v54 H Ut hS=> ?_;try simp only [W,Hf]
      refine Fk (l:=HO) (c:=Hl) 1 hS rfl MK rfl rfl rfl (hS.jl 0 rfl Ut) (fun _=>rfl) rfl h fun Uu H Jt PE hm h hS=> ?_;try simp only [W]
      refine EC Im ?_;exact E_ I6 ⟨_,(Option.some.inj h).symm,_,PE,rfl,(hS.Fz 4 [1,2] (by decide))⟩
   ·obtain ⟨Jg,Hr,Mw,Ni,rfl,hS⟩:=hq;obtain rfl:=Hr.symm;replace h:=Uq;try dsimp only at h
    refine Ez Ik ?_;refine EL gC ?_;try simp only [W,Hf,Nat.reduceAdd]
    exact E6 Ii h ⟨_,Ni,rfl,hS⟩
  ·refine Ev ?_;refine EB Il ?_;try obtain rfl:=Option.some.inj h
   obtain rfl:=Un _ rfl;have h:(some (HO):Option ((List Span)))=some (HO):=rfl;refine E7 Ii ?_;refine EE HR ?_;exact E_ HQ ⟨_,(Option.some.inj h).symm,_,MK,rfl,(hS.Fz 2 [0] (by decide))⟩
 ·obtain ⟨HF,Hr,JW,JX,rfl,hS⟩:=hq;obtain rfl:=Hr.symm;replace h:=g23;try dsimp only at h
  refine Ez HS ?_;refine Er fun T_ MF=> ?_;refine EL gC ?_;try simp only [W,Nat.reduceAdd]
  refine Ez MF ?_;refine Eu ?_;refine EH Hi rfl ?_;try obtain rfl:=Option.some.inj h
  exact hP _ JX _ hS
theorem aa8 {a0:List Span} {m0:AV} {r:(List Span×Bool)} (h:O5 a0=some r) {F:List It} {H:J} (hS:aA H (⟨m0,2,a0.map Hl⟩::F)) (Kj:bj m0) {P:AV→J→Prop} (hP: ∀v6:AV,bj v6→ ∀H',aA H' (⟨v6,2,r.1.map Hl⟩::F)→P (.aD [v6,.bool r.2]) H'):aq C 152 [m0] H P:=by
 refine EO gC (res:=[.tmp 2,.tmp 3]) (n:=8) rfl rfl rfl rfl fun K0 Hi=> ?_;simp only [W,Nat.reduceSub,Nat.reduceAdd,List.replicate];unfold O5 at h;refine Er fun K1 Hq=> ?_;refine EL gC ?_;try simp only [W,Nat.reduceAdd]
 refine Ez Hq ?_;refine Er fun K2 Cu=> ?_;refine Er fun K3 HY=> ?_;refine EL gC ?_;try simp only [W,Hf,Nat.reduceAdd]
 refine E1 0 hS rfl Kj rfl ?_;try simp only [W,Hf]
 refine Ez HY ?_;refine Ew ?_;simp only [W];refine EK h (fun hc h=> ?_) (fun hc h=> ?_)
 ·refine Er fun K4 Hv=> ?_;refine EL gC ?_;try simp only [W,Nat.reduceAdd]
  refine Ez Hv ?_;refine Eu ?_;refine EA Cu ?_;refine EI Hi rfl rfl ?_;try obtain rfl:=Option.some.inj h
  exact hP _ rL _ ((hS.Fl 2).Fz 2 [0] (by decide))
 ·refine Et ?_;refine Ez Cu ?_;refine Er fun K5 H9=> ?_;refine EL gC ?_;try simp only [W,Nat.reduceAdd]
  refine Ez H9 ?_;refine Eu ?_;refine EI Hi rfl rfl ?_;try obtain rfl:=Option.some.inj h
  exact hP _ Kj _ hS
theorem aa9 {a0:List Span} {a1:Span} {r:(List Span×Int×Bool)} (h:Qj a0 a1=some r) {F:List It} {H:J} (hS:aA H (F)) {P:AV→J→Prop} (hP: ∀v39:AV,bj v39→ ∀H',aA H' (⟨v39,2,r.1.map Hl⟩::F)→P (.aD [v39,.int .i64 r.2.1,.bool r.2.2]) H'):aq C 116 [.fz (a0.map Hl),.agg [.int .i64 a1.Hk,.int .i64 a1.To]] H P:=by
 refine EO gC (res:=[.tmp 4,.tmp 5,.tmp 6]) (n:=35) rfl rfl rfl rfl fun K0 Hi=> ?_;simp only [W,Nat.reduceSub,Nat.reduceAdd,List.replicate];unfold Qj at h;refine Er fun K1 Hq=> ?_;refine EL gC ?_;try simp only [W,Nat.reduceAdd]
 refine ES hS rfl rfl rfl rfl fun Hm Hn H hS=> ?_;try simp only [W]
 refine Ez Hq ?_;refine Er fun K4 Hv=> ?_;refine Er fun K5 H9=> ?_;obtain ⟨MC,h,g8⟩:=Option.bind_eq_some_iff.1 h;refine E9 gC (fun s H=> ∃HG:Bool,MC=(HG)∧s=[.fz (a0.map Hl),u,u,.ptr Hm Hn 0 0,u,u,u,u,u,u,u,u,u,u,u,u,.bool HG,u,u,u,u,u,u,u,u,u,u,u,u,u,u,u,u,u,u]∧aA H (⟨.ptr Hm Hn 0 0,2,[.agg [.int .i64 a1.Hk,.int .i64 a1.To]]⟩::F)) (fun K9 HC=> ?_) (fun s H hq=> ?_)
 ·refine Er fun J4 H_=> ?_;refine EL gC ?_;try simp only [W,Nat.reduceAdd]
  refine E4 h fun If MD h=> ?_;refine WV MD hS fun H hS=> ?_;try simp only [W]
  refine FD h (fun hc h=> ?_) (fun hc h=> ?_)
  ·try simp only [W,hc]
   refine Ez H_ ?_;refine Ey ?_;exact E_ HC ⟨_,(Option.some.inj h).symm,rfl,hS⟩
  ·try simp only [W,Hf,reduceIte,Nat.reduceAdd,Nat.reduceLeDiff,hS.var 0 rfl,hc]
   refine E4 h fun Iw Q6 h=> ?_;refine WU Q6 hS fun H hS=> ?_;try simp only [W,reduceIte,Bool.false_eq_true]
   refine Ez H_ ?_;refine Ey ?_;exact E_ HC ⟨_,(Option.some.inj h).symm,rfl,hS⟩
 ·obtain ⟨HG,Hr,rfl,hS⟩:=hq;obtain rfl:=Hr.symm;replace h:=g8;try dsimp only at h
  refine Ez H9 ?_;refine Ew ?_;simp only [W];refine EK h (fun hc h=> ?_) (fun hc h=> ?_)
  ·refine Er fun JS Ig=> ?_;refine EL gC ?_;try simp only [W,Nat.reduceAdd]
   refine Ez Ig ?_;refine Eu ?_;refine EA Hv ?_;refine EJ Hi rfl rfl rfl ?_;try obtain rfl:=Option.some.inj h
   exact hP _ rL _ ((hS.Fl 2).Fz 2 [0] (by decide))
  ·refine Et ?_;refine Ez Hv ?_;refine Er fun J3 HZ=> ?_;refine FF gC [(4,[]),(6,[])] (by kernel_rfl) rfl (by kernel_rfl) ?_
   try simp only [W,reduceIte,Nat.reduceAdd,Nat.reduceBEq,jT,mV,Nat.reduceEqDiff,List.contains_cons,Nat.reduceBEq,Bool.or_true,Bool.or_self]
   refine F9 (bS:=[[.sl [.sc,.sc]]]) (ys:=[.fz (a0.map Hl)]) h rfl (by rfl) fun KJ Og h=>⟨.own 2 (KJ.map Hl),Ub Og (aA.nil _) fun IZ Jk H hS=>F2 rfl (F0 0 hS rfl Jk (fun _ _=>by simp [a8,aT,cE,dT,Hl]) fun H hS=>FX rfl),?_⟩
   refine F5 ?_;refine F4 hS (fun _ _=>rfl) (fun _=>rfl) fun Li H Np hS=> ?_;refine F3 ?_;try simp only [List.headD_cons]
   try simp only [W,Hf,reduceIte,Nat.reduceAdd,Nat.reduceLeDiff,hS.var 1 rfl]
   refine E3 (el:=([a1]:List Span).map Hl) hS rfl rfl rfl rfl rfl rfl rfl fun v19 H aa_ hS=> ?_;try simp only [W,Hf]
   refine Fk (l:=KJ) (c:=Hl) 1 hS rfl Np rfl rfl rfl (hS.jl 0 rfl aa_) (fun _=>rfl) rfl h fun v22 H Mr ML hm h hS=> ?_;try simp only [W]
   refine F7 (bS:=[[.sl [.sc,.sc]]]) (ys:=[.fz (Mr.map Hl)]) h rfl (FW (FQ hS 1 rfl ML (fun _=>rfl)) FU) fun Kq abb h=>⟨.own 2 (Kq.map Hl),aaZ abb (aA.nil _) fun v25 MN H hS=>F2 rfl (F0 0 hS rfl MN (fun _ _=>by simp [a8,aT,cE,dT,Hl]) fun H hS=>FX rfl),(Ga _ (fun _=>rfl) _),?_⟩
   refine F5 ?_;refine F4 hS (fun _ _=>rfl) (fun _=>rfl) fun Mc H Oh hS=> ?_;refine F3 ?_;try simp only [List.headD_cons]
   try simp only [W]
   refine E4 h fun H8 T5 h=> ?_;obtain ⟨II,Lb⟩:=H8;try dsimp only at h
   refine aa8 T5 hS Oh fun v31 PF H hS=> ?_;try simp only [W]
   refine Ez HZ ?_;refine Er fun MJ I6=> ?_;refine Er fun N9 JC=> ?_;refine EL gC ?_;try simp only [W,Nat.reduceAdd]
   refine Ez JC ?_;refine Ew ?_;simp only [W];refine EK h (fun hc h=> ?_) (fun hc h=> ?_)
   ·refine Er fun Nn I5=> ?_;refine EL gC ?_;try simp only [W,Nat.reduceAdd]
    refine Ez I5 ?_;refine Eu ?_;refine EA I6 ?_;refine EJ Hi rfl rfl rfl ?_;try obtain rfl:=Option.some.inj h
    exact hP _ rL _ ((hS.Fl 2).Fz 5 [0] (by decide))
   ·refine Et ?_;refine Ez I6 ?_;refine Er fun Mx IY=> ?_;refine EL gC ?_;try simp only [W,Nat.reduceAdd]
    refine F6 (bS:=[[.sc]]) (ys:=[.fz (II.map Hl)]) h rfl (FW (FQ hS 0 rfl PF (fun _=>rfl)) FU) fun JZ PA h=>⟨.int .i64 JZ,Sk PA (aA.nil _) fun H hS=>F2 rfl (FY rfl (FX rfl)),⟨rfl,rfl,fun _=>rfl⟩,?_⟩;try simp only [W]
    refine E4 h fun Jc LP h=> ?_;refine Sk LP hS fun H hS=> ?_;try simp only [W,Hf]
    refine Ez IY ?_;refine Eu ?_;refine EJ Hi rfl rfl rfl ?_;try obtain rfl:=Option.some.inj h
    exact hP _ PF _ (hS.Fz 4 [0] (by decide))
theorem abd {a0:Hj} {a1:Part} {r:(Hj×Int×Bool)} (h:O6 a0 a1=some r) {F:List It} {H:J} (hS:aA H (F)) {P:AV→J→Prop} (hP: ∀v67:AV,bj v67→ ∀H',aA H' (⟨v67,2,r.1.Has.map Hl⟩::F)→P (.aD [.agg [.int .i64 r.1.Id,.int .i64 r.1.Hh,.str r.1.Text,v67],.int .i64 r.2.1,.bool r.2.2]) H'):aq C 69 [.agg [.int .i64 a0.Id,.int .i64 a0.Hh,.str a0.Text,.fz (a0.Has.map Hl)],.agg [.int .i64 a1.Id,.int .i64 a1.At,.int .i64 a1.Hh,.str a1.Text]] H P:=by
 refine EO gC (res:=[.cell 4 99,.tmp 5,.tmp 6]) (n:=91) rfl rfl rfl rfl fun K0 Hi=> ?_;simp only [W,Nat.reduceSub,Nat.reduceAdd,List.replicate];unfold O6 at h;refine Er fun K1 Hq=> ?_;refine EL gC ?_;try simp only [W,Nat.reduceAdd]
 refine ES hS rfl rfl rfl rfl fun Hm Hn H hS=> ?_;try simp only [W]
 refine ES hS rfl rfl rfl rfl fun Hw Hy H hS=> ?_;try simp only [W]
 refine ET hS rfl rfl fun Hz HA H hS=> ?_;try simp only [W]
 refine Ez Hq ?_;refine Er fun K8 HS=> ?_;refine Er fun K9 HC=> ?_;obtain ⟨LO,h,g12⟩:=Option.bind_eq_some_iff.1 h;refine E9 gC (fun s H=> ∃HO:Bool,LO=(HO)∧s=(u::u:: .ptr Hm Hn 0 0:: .ptr Hw Hy 0 0:: .ptr Hz HA 0 0::u::u::u::u::u::u::u::u::u::u::u::u::u::u::u::u::u::u::u::u::u::u::u::u::u::u::u::u:: .bool HO::u::u::u::u::u::u::u::u::u::u::u::u::u::u::u::u::u::u::u::u::u::u::u::u::u::u::u::u::u::u::u::u::u::u::u::u::u::u::u::u::u::u::u::u::u::u::u::u::u::u::u::u::u::u::u::u::u::[])∧aA H (⟨.ptr Hm Hn 0 0,4,[.agg [.int .i64 a0.Id,.int .i64 a0.Hh,.str a0.Text,.fz (a0.Has.map Hl)]]⟩::⟨.ptr Hw Hy 0 0,4,[.agg [.int .i64 a1.Id,.int .i64 a1.At,.int .i64 a1.Hh,.str a1.Text]]⟩::⟨.ptr Hz HA 0 0,4,[.agg [.int .i64 0,.int .i64 0,.str ([]),.nil]]⟩::F)) (fun JS Ig=> ?_) (fun s H hq=> ?_)
 ·refine Er fun J3 HZ=> ?_;refine EL gC ?_;try simp only [W,Hf,reduceIte,Nat.reduceAdd,Nat.reduceLeDiff,hS.var 2 rfl]
  refine E4 h fun KJ Og h=> ?_;refine WZ Og hS fun H hS=> ?_;try simp only [W]
  refine FD h (fun hc h=> ?_) (fun hc h=> ?_)
  ·try simp only [W,hc]
   refine Ez HZ ?_;refine Gw (s' :=(u::u:: .ptr Hm Hn 0 0:: .ptr Hw Hy 0 0:: .ptr Hz HA 0 0::u::u::u::u::u::u::u::u::u::u::u::u::u::u::u::u::u::u::u::u::u::u::u::u::u::u::u::u:: .bool true::u::u::u::u::u::u::u::u::u::u::u::u::u::u::u::u::u::u::u::u::u::u::u::u::u::u::u::u::u::u::u::u::u::u::u::u::u::u::u::u::u::u::u::u::u::u::u::u::u::u::u::u::u::u::u::u::u::[])) rfl ?_
   exact E_ Ig ⟨_,(Option.some.inj h).symm,rfl,(hS.Fz 3 [2,1,0] (by decide))⟩
  ·try simp only [W,Hf,reduceIte,Nat.reduceAdd,Nat.reduceLeDiff,hS.var 1 rfl,hc]
   refine E4 h fun Ms Rc h=> ?_;refine W7 Rc hS fun H hS=> ?_;try simp only [W,reduceIte,Bool.false_eq_true]
   refine FD h (fun hc h=> ?_) (fun hc h=> ?_)
   ·try simp only [W,hc]
    refine Ez HZ ?_;refine Gw (s' :=(u::u:: .ptr Hm Hn 0 0:: .ptr Hw Hy 0 0:: .ptr Hz HA 0 0::u::u::u::u::u::u::u::u::u::u::u::u::u::u::u::u::u::u::u::u::u::u::u::u::u::u::u::u:: .bool true::u::u::u::u::u::u::u::u::u::u::u::u::u::u::u::u::u::u::u::u::u::u::u::u::u::u::u::u::u::u::u::u::u::u::u::u::u::u::u::u::u::u::u::u::u::u::u::u::u::u::u::u::u::u::u::u::u::[])) rfl ?_
    exact E_ Ig ⟨_,(Option.some.inj h).symm,rfl,(hS.Fz 3 [2,1,0] (by decide))⟩
   ·try simp only [W,Hf,reduceIte,Nat.reduceAdd,Nat.reduceBEq,Bool.false_eq_true,hS.var 2 rfl,hS.var 1 rfl,hc]
    refine FD h (fun hc h=> ?_) (fun hc h=> ?_)
    ·try simp only [W,hc]
     refine Ez HZ ?_;refine Gw (s' :=(u::u:: .ptr Hm Hn 0 0:: .ptr Hw Hy 0 0:: .ptr Hz HA 0 0::u::u::u::u::u::u::u::u::u::u::u::u::u::u::u::u::u::u::u::u::u::u::u::u::u::u::u::u:: .bool true::u::u::u::u::u::u::u::u::u::u::u::u::u::u::u::u::u::u::u::u::u::u::u::u::u::u::u::u::u::u::u::u::u::u::u::u::u::u::u::u::u::u::u::u::u::u::u::u::u::u::u::u::u::u::u::u::u::[])) rfl ?_
     exact E_ Ig ⟨_,(Option.some.inj h).symm,rfl,(hS.Fz 3 [2,1,0] (by decide))⟩
    ·try simp only [W,Hf,reduceIte,Nat.reduceAdd,Nat.reduceBEq,Bool.false_eq_true,hS.var 2 rfl,hS.var 1 rfl,hc]
     refine Ez HZ ?_;refine Gw (s' :=(u::u:: .ptr Hm Hn 0 0:: .ptr Hw Hy 0 0:: .ptr Hz HA 0 0::u::u::u::u::u::u::u::u::u::u::u::u::u::u::u::u::u::u::u::u::u::u::u::u::u::u::u::u:: .bool (a1.Hh !=a0.Hh)::u::u::u::u::u::u::u::u::u::u::u::u::u::u::u::u::u::u::u::u::u::u::u::u::u::u::u::u::u::u::u::u::u::u::u::u::u::u::u::u::u::u::u::u::u::u::u::u::u::u::u::u::u::u::u::u::u::[])) rfl ?_
     exact E_ Ig ⟨_,(Option.some.inj h).symm,rfl,(hS.Fz 3 [2,1,0] (by decide))⟩
 ·obtain ⟨HO,Hr,rfl,hS⟩:=hq;obtain rfl:=Hr.symm;replace h:=g12;try dsimp only at h
  refine Ez HC ?_;refine Ew ?_;simp only [W];refine EK h (fun hc h=> ?_) (fun hc h=> ?_)
  ·refine Er fun Jb HJ=> ?_;refine EL gC ?_;try simp only [W,Hf,Nat.reduceAdd]
   refine FE rfl rfl rfl rfl rfl ?_;try simp only [W]
   refine EU (a:= .agg [.int .i64 0,.int .i64 0,.str ([]),.nil]) (y' := .agg [.int .i64 0,.int .i64 0,.str ([]),.nil]) 2 hS rfl rfl rfl rfl rfl rfl rfl rfl fun H hS=> ?_
   try simp only [W]
   refine Ez HJ ?_;refine Eu ?_;refine EA HS ?_;refine EG Hi (FB rfl rfl (hS.var 2 rfl) rfl (FC rfl (FC rfl rfl))) ?_;try obtain rfl:=Option.some.inj h
   exact hP _ rL _ ((hS.Fl 2).Fz 4 [0] (by decide))
  ·refine Et ?_;refine Ez HS ?_;refine Er fun Jp HQ=> ?_;refine EL gC ?_;try simp only [W,Hf,Nat.reduceAdd,Nat.reduceBEq,hS.var 0 rfl,hS.var 1 rfl]
   refine FE rfl rfl rfl rfl rfl ?_;try simp only [W]
   refine E4 h fun IE Mu h=> ?_;obtain ⟨Io,HU,Ju⟩:=IE;try dsimp only at h
   refine aa9 Mu hS fun v23 Lj H hS=> ?_;try simp only [W]
   refine Ez HQ ?_;refine Er fun Ky Il=> ?_;refine Er fun Kg Ik=> ?_;refine EL gC ?_;try simp only [W,Nat.reduceAdd]
   refine Ez Ik ?_;refine Ew ?_;simp only [W];refine EK h (fun hc h=> ?_) (fun hc h=> ?_)
   ·refine Er fun KP Im=> ?_;refine EL gC ?_;try simp only [W,Hf,Nat.reduceAdd]
    refine FE rfl rfl rfl rfl rfl ?_;try simp only [W]
    refine EU (a:= .agg [.int .i64 0,.int .i64 0,.str ([]),.nil]) (y' := .agg [.int .i64 0,.int .i64 0,.str ([]),.nil]) 3 hS rfl rfl rfl rfl rfl rfl rfl rfl fun H hS=> ?_
    try simp only [W]
    refine Ez Im ?_;refine Eu ?_;refine EA Il ?_;refine EG Hi (FB rfl rfl (hS.var 3 rfl) rfl (FC rfl (FC rfl rfl))) ?_;try obtain rfl:=Option.some.inj h
    exact hP _ rL _ ((hS.Fl 2).Fz 5 [0] (by decide))
   ·refine Et ?_;refine Ez Il ?_;refine Er fun LL Ir=> ?_;refine EL gC ?_;try simp only [W,Hf,Nat.reduceAdd,Nat.reduceBEq,hS.var 1 rfl]
    refine Fe hS rfl rfl rfl rfl rfl rfl rfl h fun v30 H M6 Xf hb h hS=> ?_;try simp only [W]
    refine Ez Ir ?_;refine Er fun Ma I3=> ?_;refine Er fun MJ I6=> ?_;refine EL gC ?_;try simp only [W,Hf,Nat.reduceAdd,Nat.reduceBEq,hS.var 3 rfl]
    refine Ez I6 ?_;obtain ⟨Uv,abe,Us⟩:=Option.bind_eq_some_iff.1 h;refine E9 gC (fun s H=> ∃Jd:List Int,Uv=(Jd)∧s=(u::u:: .ptr Hm Hn 0 0::u:: .ptr Hz HA 0 0::u::u::v23:: .int .i64 HU::u::v30::u::u::u::u::u::u::u::u::u::u::u::u::u::u::u::u::u::u::u::u::u::u::u::u::u::u::u::u::u::u::u::u::u::u::u::u::u::u::u::u::u::u::u::u::u::u::u::u::u::u::u::u::u::u::u::u::u::u::u::u::u::u::u::u::u::u::u::u::u::u::u::u::u::u::u::u::u::u::u::u::[])∧aA H (⟨v23,2,Io.map Hl⟩::⟨v30,1,Jd.map (AV.int .u8)⟩::⟨.ptr Hm Hn 0 0,4,[.agg [.int .i64 a0.Id,.int .i64 a0.Hh,.str a0.Text,.fz (a0.Has.map Hl)]]⟩::⟨.ptr Hz HA 0 0,4,[.agg [.int .i64 0,.int .i64 0,.str ([]),.nil]]⟩::F)) (fun Sg Lh=> ?_) (fun s H hq=> ?_)
    ·refine Es fun Rb J7=> ?_;refine E5 gC abe (fun x s H=>match x with|(KK,J1)=>s=(u::u:: .ptr Hm Hn 0 0:: .ptr Hw Hy 0 0:: .ptr Hz HA 0 0::u::u::v23:: .int .i64 HU::u::v30::u::u::u::u::u::u::u::u::u::u::u::u::u::u::u::u::u::u::u::u::u::u::u::u::u::u::u::u::u::u::u::u::u::u::u::u::u::u::u::u::u::u::u::u::u::u::u::u:: .int .i64 (a1.Text.length:Int):: .int .i64 J1::u::u::u::u::u::u::u::u::u::u::u::u::u::u::u::u::u::u::u::u::u::u::u::u::u::u::u::u::u::u::[])∧aA H (⟨v23,2,Io.map Hl⟩::⟨v30,1,KK.map (AV.int .u8)⟩::⟨.ptr Hm Hn 0 0,4,[.agg [.int .i64 a0.Id,.int .i64 a0.Hh,.str a0.Text,.fz (a0.Has.map Hl)]]⟩::⟨.ptr Hw Hy 0 0,4,[.agg [.int .i64 a1.Id,.int .i64 a1.At,.int .i64 a1.Hh,.str a1.Text]]⟩::⟨.ptr Hz HA 0 0,4,[.agg [.int .i64 0,.int .i64 0,.str ([]),.nil]]⟩::F)) ⟨rfl,(hS.Fz 5 [1,0,2,3,4] (by decide))⟩ (fun x W_ s H h abf hi Ur Mb=> ?_)
     obtain ⟨KK,J1⟩:=x;try dsimp only at hi
     obtain ⟨rfl,hS⟩:=hi;simp only [Qk] at h;refine Er fun Q9 Kz=> ?_;refine EL gC ?_;try simp only [W,Hf,Nat.reduceAdd]
     refine Ez Kz ?_;refine Er fun Xa Oe=> ?_;refine Ew ?_;simp only [W];refine EK h (fun hc h=> ?_) (fun hc h=> ?_)
     ·refine Et ?_;refine Ez Oe ?_;refine Er fun K47 SA=> ?_;obtain ⟨y50,h,g51⟩:=Option.bind_eq_some_iff.1 h;refine E9 gC (fun s H=> ∃Ql:List Int,y50=(Ql)∧s=(u::u:: .ptr Hm Hn 0 0:: .ptr Hw Hy 0 0:: .ptr Hz HA 0 0::u::u::v23:: .int .i64 HU::u::v30::u::u::u::u::u::u::u::u::u::u::u::u::u::u::u::u::u::u::u::u::u::u::u::u::u::u::u::u::u::u::u::u::u::u::u::u::u::u::u::u::u::u::u::u::u::u::u::u:: .int .i64 (a1.Text.length:Int):: .int .i64 J1::u::u::u::u::u::u::u::u::u::u::u::u::u::u::u::u::u::u::u::u::u::u::u::u::u::u::u::u::u::u::[])∧aA H (⟨v23,2,Io.map Hl⟩::⟨v30,1,Ql.map (AV.int .u8)⟩::⟨.ptr Hm Hn 0 0,4,[.agg [.int .i64 a0.Id,.int .i64 a0.Hh,.str a0.Text,.fz (a0.Has.map Hl)]]⟩::⟨.ptr Hw Hy 0 0,4,[.agg [.int .i64 a1.Id,.int .i64 a1.At,.int .i64 a1.Hh,.str a1.Text]]⟩::⟨.ptr Hz HA 0 0,4,[.agg [.int .i64 0,.int .i64 0,.str ([]),.nil]]⟩::F)) (fun K52 Uw=> ?_) (fun s H hq=> ?_)
      ·refine Es fun Ux Nq=> ?_;refine Er fun K53 Uy=> ?_;refine EL gC ?_;try simp only [W,Nat.reduceAdd]
       refine Ez Uy ?_;refine Er fun K54 Sn=> ?_;refine EL gC ?_;try simp only [W,Hf,Nat.reduceAdd,Nat.reduceBEq,hS.var 2 rfl,hS.var 3 rfl]
       refine E4 h fun Ly Uz h=> ?_;refine WY Uz hS fun H hS=> ?_;try simp only [W]
       refine Ez Sn ?_;obtain ⟨y57,h,g58⟩:=Option.bind_eq_some_iff.1 h;refine E9 gC (fun s H=> ∃Jt:List Int,y57=(Jt)∧s=(u::u:: .ptr Hm Hn 0 0:: .ptr Hw Hy 0 0:: .ptr Hz HA 0 0::u::u::v23:: .int .i64 HU::u::v30::u::u::u::u::u::u::u::u::u::u::u::u::u::u::u::u::u::u::u::u::u::u::u::u::u::u::u::u::u::u::u::u::u::u::u::u::u::u::u::u::u::u::u::u::u::u::u::u:: .int .i64 (a1.Text.length:Int):: .int .i64 J1::u::u::u::u::u::u::u::u::u::u::u::u::u::u::u::u::u::u::u::u::u::u::u::u::u::u::u::u::u::u::[])∧aA H (⟨v23,2,Io.map Hl⟩::⟨v30,1,Jt.map (AV.int .u8)⟩::⟨.ptr Hm Hn 0 0,4,[.agg [.int .i64 a0.Id,.int .i64 a0.Hh,.str a0.Text,.fz (a0.Has.map Hl)]]⟩::⟨.ptr Hw Hy 0 0,4,[.agg [.int .i64 a1.Id,.int .i64 a1.At,.int .i64 a1.Hh,.str a1.Text]]⟩::⟨.ptr Hz HA 0 0,4,[.agg [.int .i64 0,.int .i64 0,.str ([]),.nil]]⟩::F)) (fun UA MO=> ?_) (fun s H hq=> ?_)
       ·refine Er fun T9 ME=> ?_;refine Ew ?_;simp only [W];refine EK h (fun hc h=> ?_) (fun hc h=> ?_)
        ·refine FF gC [(10,[])] (by kernel_rfl) rfl (by kernel_rfl) ?_
         try simp only [W,Hf,reduceIte,Nat.reduceAdd,Nat.reduceBEq,hS.var 3 rfl,jT,mV,Nat.reduceEqDiff]
         refine EW h fun Kd Xg h=> ?_;try simp only [W,Hf]
         refine EY 1 hS rfl rfl rfl rfl rfl h (fun Ih af7 af8 af9 UB h Xh=> ?_) Xf.ne;obtain ⟨af_,aga,agb⟩:=hS.elem 1 rfl Xh UB;try simp only [W]
         refine EZ (a:= .int .u8 (Kd.toNat:Int)) (y' :=(Kd.toNat:Int)) 1 hS rfl Xh UB rfl rfl rfl rfl rfl rfl rfl fun H hS=> ?_
         try simp only [W]
         refine Ez ME ?_;refine Gw (s' :=(u::u:: .ptr Hm Hn 0 0:: .ptr Hw Hy 0 0:: .ptr Hz HA 0 0::u::u::v23:: .int .i64 HU::u::v30::u::u::u::u::u::u::u::u::u::u::u::u::u::u::u::u::u::u::u::u::u::u::u::u::u::u::u::u::u::u::u::u::u::u::u::u::u::u::u::u::u::u::u::u::u::u::u::u:: .int .i64 (a1.Text.length:Int):: .int .i64 J1::u::u::u::u::u::u::u::u::u::u::u::u::u::u::u::u::u::u::u::u::u::u::u::u::u::u::u::u::u::u::[])) rfl ?_
         exact E_ MO ⟨_,(Option.some.inj h).symm,rfl,hS⟩
        ·refine Et ?_;refine Ez ME ?_;refine Gw (s' :=(u::u:: .ptr Hm Hn 0 0:: .ptr Hw Hy 0 0:: .ptr Hz HA 0 0::u::u::v23:: .int .i64 HU::u::v30::u::u::u::u::u::u::u::u::u::u::u::u::u::u::u::u::u::u::u::u::u::u::u::u::u::u::u::u::u::u::u::u::u::u::u::u::u::u::u::u::u::u::u::u::u::u::u::u:: .int .i64 (a1.Text.length:Int):: .int .i64 J1::u::u::u::u::u::u::u::u::u::u::u::u::u::u::u::u::u::u::u::u::u::u::u::u::u::u::u::u::u::u::[])) rfl ?_
         exact E_ MO ⟨_,(Option.some.inj h).symm,rfl,hS⟩
       ·obtain ⟨Jt,Hr,rfl,hS⟩:=hq;obtain rfl:=Hr.symm;replace h:=g58;try dsimp only at h
        refine EC Nq ?_;exact E_ Uw ⟨_,(Option.some.inj h).symm,rfl,hS⟩
      ·obtain ⟨Ql,Hr,rfl,hS⟩:=hq;obtain rfl:=Hr.symm;replace h:=g51;try dsimp only at h
       refine Ez SA ?_;refine EL gC ?_;try simp only [W,Hf,Nat.reduceAdd]
       exact E6 Mb h ⟨rfl,hS⟩
     ·refine Ev ?_;refine EB Oe ?_;try obtain rfl:=Option.some.inj h
      obtain rfl:=abf _ rfl;have h:(some (KK):Option ((List Int)))=some (KK):=rfl;refine E7 Mb ?_;refine EE J7 ?_;exact E_ Lh ⟨_,(Option.some.inj h).symm,rfl,(hS.Fz 5 [0,1,2,4] (by decide))⟩
    ·obtain ⟨Jd,Hr,rfl,hS⟩:=hq;obtain rfl:=Hr.symm;replace h:=Us;try dsimp only at h
     refine Ez I3 ?_;refine Er fun R_ Mz=> ?_;refine EL gC ?_;try simp only [W,Hf,Nat.reduceAdd,Nat.reduceBEq,hS.var 2 rfl]
     refine Ff rfl rfl rfl rfl rfl rfl rfl (hS.jl 1 rfl Xf) (hS.CG 1 rfl) ?_;try simp only [W,Hf]
     refine FE rfl rfl rfl rfl (by simp only [gy,Lj.E0,Lj.cells];simp [E,splice,AV.cells,en,db]<;>rfl) ?_
     try simp only [W]
     refine EU (a:= .agg [.int .i64 a0.Id,.int .i64 a0.Hh,.str (rQ Jd),v23]) (y' := .agg [.int .i64 a0.Id,.int .i64 a0.Hh,.str (rQ Jd),v23]) 3 hS rfl rfl rfl rfl rfl (by simp only [en,List.all_cons,List.all_nil,Lj.sw];rfl) rfl rfl fun H hS=> ?_
     try simp only [W]
     refine Ez Mz ?_;refine Eu ?_;refine EG Hi (FB rfl rfl (hS.var 3 rfl) rfl (FC rfl (FC rfl rfl))) ?_;try obtain rfl:=Option.some.inj h
     exact hP _ Lj _ (hS.Fz 4 [0] (by decide))
theorem abg {a0:List Hj} {a1:Int} {a2:Int} {m0:AV} {r:(List Hj)} (h:O7 a0 a1 a2=some r) {F:List It} {H:J} (hS:aA H (⟨m0,4,a0.map Hp⟩::F)) (Kj:bj m0) {P:AV→J→Prop} (hP: ∀v21:AV,bj v21→ ∀H',aA H' (⟨v21,4,r.map Hp⟩::F)→P (v21) H'):aq C 70 [m0,.int .i64 a1,.int .i64 a2] H P:=by
 refine EO gC (res:=[.tmp 6]) (n:=33) rfl rfl rfl rfl fun K0 Hi=> ?_;simp only [W,Nat.reduceSub,Nat.reduceAdd,List.replicate];unfold O7 at h;refine Er fun K1 Hq=> ?_;refine EL gC ?_;try simp only [W,Nat.reduceAdd]
 refine Ez Hq ?_;refine Er fun K2 Cu=> ?_;refine EL gC ?_;try simp only [W,Hf,Nat.reduceAdd]
 refine E1 0 hS rfl Kj rfl ?_;try simp only [W,Hf]
 refine Gm 0 hS rfl Kj rfl rfl rfl rfl h fun v4 x3 rW h=> ?_;try simp only [W]
 refine Ez Cu ?_;refine Er fun K5 H9=> ?_;refine Er fun K6 ID=> ?_;refine EL gC ?_;try simp only [W,Hf,Nat.reduceAdd]
 refine Ez ID ?_;refine Ew ?_;simp only [W];refine EK h (fun hc h=> ?_) (fun hc h=> ?_)
 ·refine Er fun K7 IJ=> ?_;refine EL gC ?_;try simp only [W,Nat.reduceAdd]
  refine Ez IJ ?_;refine Eu ?_;refine EA H9 ?_;refine EH Hi rfl ?_;try obtain rfl:=Option.some.inj h
  exact hP _ Kj _ hS
 ·refine Et ?_;refine Ez H9 ?_;refine Er fun K8 HS=> ?_;refine EL gC ?_;try simp only [W,Hf,Nat.reduceAdd]
  refine E1 0 hS rfl Kj rfl ?_;try simp only [W]
  refine Ez HS ?_;refine Er fun K9 HC=> ?_;refine FF gC [(6,[])] (by kernel_rfl) rfl (by kernel_rfl) ?_
  try simp only [W,Hf,reduceIte,Nat.reduceAdd,jT,mV,Nat.reduceEqDiff]
  refine Gk 0 hS rfl Kj rfl rfl rfl h fun v11 HO MK abh UC h=> ?_;try simp only [W,Hf]
  refine Gk 0 hS rfl Kj rfl rfl rfl h fun Lk HX KQ abi UE h=> ?_;try simp only [W,Hf]
  refine Gn (l:=a0) (c:=Hp) 0 hS rfl MK abh UC rfl rfl rfl (hS.Gl 0 rfl abi UE) (fun _=>rfl) rfl h fun JW H HF JX abj h hS abk=> ?_;try simp only [W]
  refine Ez HC ?_;refine Er fun Jb HJ=> ?_;refine EL gC ?_;try simp only [W,Hf,Nat.reduceAdd]
  refine E1 0 hS rfl JX rfl ?_;try simp only [W,Hf]
  have Xi:=abk rfl (by obtain ⟨_,_,_,_⟩:=Gv rW;obtain ⟨_,_,_,_⟩:=Gv UC;obtain ⟨_,_,_,_⟩:=Gv UE;simp only [Option.getD_some,Option.getD_none] at*;omega)
  have Xj:(HF).length≤(a0).length:=by have:=Gu abj;obtain ⟨_,_,_,_⟩:=Gv rW;obtain ⟨_,_,_,_⟩:=Gv UC;obtain ⟨_,_,_,_⟩:=Gv UE;simp only [Option.getD_some,Option.getD_none] at*;omega
  refine Gp 0 hS rfl rfl rfl rfl Xi rfl Xj fun Li abl=> ?_;try simp only [W]
  refine Gs 0 hS rfl rfl rfl rfl rfl Xi Xj abl fun H hS=> ?_;try simp only [W]
  refine Ez HJ ?_;refine Er fun J5 Ii=> ?_;refine EL gC ?_;try simp only [W,Nat.reduceAdd]
  refine Ez Ii ?_;refine Eu ?_;refine EH Hi rfl ?_;try obtain rfl:=Option.some.inj h
  exact hP _ JX _ hS
theorem abm {a0 r:List Int} (h:slices_Sort_int a0=some r) {F:List It} {H:J} {m0:AV} (hS:aA H (⟨m0,1,a0.map (AV.int .i64)⟩::F)) (Kj:bj m0) {P:AV→J→Prop} (hP: ∀H',aA H' (⟨m0,1,r.map (AV.int .i64)⟩::F)→P (.aD []) H'):aq C 71 [m0] H P:=
 Hc (I:=JG) rfl (by simp [JG]) h hS Kj hP
end Go.JN
