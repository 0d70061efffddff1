/- Parts of the proof. -/
import Derived.Test.YtepcfjbfkedlpaaGreatDoorMs4
import Derived.Laws.RangeString
import Derived.Laws.RangeAny
set_option maxRecDepth 100000
set_option maxHeartbeats 4000000
noncomputable section
namespace Go.Proofs.YtepcfjbfkedlpaaGreatDoor
open Go Go.Proofs Go.RowKit
namespace AE
namespace P5
noncomputable def body:Code:=(Tryz.f85.body).getD .skip
def N:Nat:=30
noncomputable abbrev eh:=kL Tryz.prog Tryz.f85
def b3:cC:={sl:=gb [(0,.agg ⟨[0,1,2,3,4,5,6,7]⟩)],ms:=[],A:=start}
def hA:c0:=[(.bin .lss 3 5 (I 0),.bool true),
 (.bin .neq 9 8 (b1 []),.bool false)]
def AV:fM:=[(113,[0],.bool true),
 (114,[.agg ⟨[aq 0,aq 1,aq 2,aq 3,aq 4,aq 5,aq 6,aq 7]⟩],.agg ⟨[aq 8,aq 9,aq 10,aq 11]⟩)]
theorem bA:eh (at' 30 hA AV body b3)=some (.bool false):=az
def gJ:c0:=[(.bin .lss 3 5 (I 0),.bool true),
 (.bin .neq 9 8 (b1 []),.bool true),
 (.bin .geq 3 4 (I 1),.bool true),
 (.bin .leq 3 4 (I 16),.bool true)]
def s4:fM:=[(113,[0],.bool true),
 (114,[.agg ⟨[aq 0,aq 1,aq 2,aq 3,aq 4,aq 5,aq 6,aq 7]⟩],.agg ⟨[aq 8,aq 9,aq 10,aq 11]⟩)]
theorem e1:eh (at' 30 gJ s4 body b3)=some (.bool false):=az
def ld:c0:=[(.bin .lss 3 5 (I 0),.bool true),
 (.bin .neq 9 8 (b1 []),.bool true),
 (.bin .geq 3 4 (I 1),.bool true),
 (.bin .leq 3 4 (I 16),.bool false)]
def yQ:fM:=[(113,[0],.bool true),
 (114,[.agg ⟨[aq 0,aq 1,aq 2,aq 3,aq 4,aq 5,aq 6,aq 7]⟩],.agg ⟨[aq 8,aq 9,aq 10,aq 11]⟩)]
theorem e2:eh (at' 30 ld yQ body b3)=some (.bool false):=az
def ih:c0:=[(.bin .lss 3 5 (I 0),.bool true),
 (.bin .neq 9 8 (b1 []),.bool true),
 (.bin .geq 3 4 (I 1),.bool false)]
def FU:fM:=[(113,[0],.bool true),
 (114,[.agg ⟨[aq 0,aq 1,aq 2,aq 3,aq 4,aq 5,aq 6,aq 7]⟩],.agg ⟨[aq 8,aq 9,aq 10,aq 11]⟩)]
theorem fI:eh (at' 30 ih FU body b3)=some (.bool false):=az
def lf:c0:=[(.bin .lss 3 5 (I 0),.bool true)]
def FV:fM:=[(113,[0],.bool false)]
theorem nH:eh (at' 30 lf FV body b3)=some (.bool false):=az
def lC:c0:=[(.bin .lss 3 5 (I 0),.bool false),
 (.bin .gtr 3 5 (I 15),.bool true),
 (.bin .neq 9 8 (b1 []),.bool false)]
def Xu:fM:=[(113,[0],.bool true),
 (114,[.agg ⟨[aq 0,aq 1,aq 2,aq 3,aq 4,aq 5,aq 6,aq 7]⟩],.agg ⟨[aq 8,aq 9,aq 10,aq 11]⟩)]
theorem yR:eh (at' 30 lC Xu body b3)=some (.bool false):=az
def r5:c0:=[(.bin .lss 3 5 (I 0),.bool false),
 (.bin .gtr 3 5 (I 15),.bool true),
 (.bin .neq 9 8 (b1 []),.bool true),
 (.bin .geq 3 4 (I 1),.bool true),
 (.bin .leq 3 4 (I 16),.bool true)]
def CL:fM:=[(113,[0],.bool true),
 (114,[.agg ⟨[aq 0,aq 1,aq 2,aq 3,aq 4,aq 5,aq 6,aq 7]⟩],.agg ⟨[aq 8,aq 9,aq 10,aq 11]⟩)]
theorem w_:eh (at' 30 r5 CL body b3)=some (.bool false):=az
def s8:c0:=[(.bin .lss 3 5 (I 0),.bool false),
 (.bin .gtr 3 5 (I 15),.bool true),
 (.bin .neq 9 8 (b1 []),.bool true),
 (.bin .geq 3 4 (I 1),.bool true),
 (.bin .leq 3 4 (I 16),.bool false)]
def Xv:fM:=[(113,[0],.bool true),
 (114,[.agg ⟨[aq 0,aq 1,aq 2,aq 3,aq 4,aq 5,aq 6,aq 7]⟩],.agg ⟨[aq 8,aq 9,aq 10,aq 11]⟩)]
theorem nE:eh (at' 30 s8 Xv body b3)=some (.bool false):=az
def xg:c0:=[(.bin .lss 3 5 (I 0),.bool false),
 (.bin .gtr 3 5 (I 15),.bool true),
 (.bin .neq 9 8 (b1 []),.bool true),
 (.bin .geq 3 4 (I 1),.bool false)]
def FW:fM:=[(113,[0],.bool true),
 (114,[.agg ⟨[aq 0,aq 1,aq 2,aq 3,aq 4,aq 5,aq 6,aq 7]⟩],.agg ⟨[aq 8,aq 9,aq 10,aq 11]⟩)]
theorem sy:eh (at' 30 xg FW body b3)=some (.bool false):=az
def yS:c0:=[(.bin .lss 3 5 (I 0),.bool false),
 (.bin .gtr 3 5 (I 15),.bool true)]
def Xw:fM:=[(113,[0],.bool false)]
theorem xh:eh (at' 30 yS Xw body b3)=some (.bool false):=az
def yT:c0:=[(.bin .lss 3 5 (I 0),.bool false),
 (.bin .gtr 3 5 (I 15),.bool false),
 (.bin .lss 3 6 (I 0),.bool true),
 (.bin .neq 9 8 (b1 []),.bool false)]
def Xx:fM:=[(113,[0],.bool true),
 (114,[.agg ⟨[aq 0,aq 1,aq 2,aq 3,aq 4,aq 5,aq 6,aq 7]⟩],.agg ⟨[aq 8,aq 9,aq 10,aq 11]⟩)]
theorem A1:eh (at' 30 yT Xx body b3)=some (.bool false):=az
def CM:c0:=[(.bin .lss 3 5 (I 0),.bool false),
 (.bin .gtr 3 5 (I 15),.bool false),
 (.bin .lss 3 6 (I 0),.bool true),
 (.bin .neq 9 8 (b1 []),.bool true),
 (.bin .geq 3 4 (I 1),.bool true),
 (.bin .leq 3 4 (I 16),.bool true)]
def Xy:fM:=[(113,[0],.bool true),
 (114,[.agg ⟨[aq 0,aq 1,aq 2,aq 3,aq 4,aq 5,aq 6,aq 7]⟩],.agg ⟨[aq 8,aq 9,aq 10,aq 11]⟩)]
theorem FX:eh (at' 30 CM Xy body b3)=some (.bool false):=az
def CN:c0:=[(.bin .lss 3 5 (I 0),.bool false),
 (.bin .gtr 3 5 (I 15),.bool false),
 (.bin .lss 3 6 (I 0),.bool true),
 (.bin .neq 9 8 (b1 []),.bool true),
 (.bin .geq 3 4 (I 1),.bool true),
 (.bin .leq 3 4 (I 16),.bool false)]
def Xz:fM:=[(113,[0],.bool true),
 (114,[.agg ⟨[aq 0,aq 1,aq 2,aq 3,aq 4,aq 5,aq 6,aq 7]⟩],.agg ⟨[aq 8,aq 9,aq 10,aq 11]⟩)]
theorem xb:eh (at' 30 CN Xz body b3)=some (.bool false):=az
def FY:c0:=[(.bin .lss 3 5 (I 0),.bool false),
 (.bin .gtr 3 5 (I 15),.bool false),
 (.bin .lss 3 6 (I 0),.bool true),
 (.bin .neq 9 8 (b1 []),.bool true),
 (.bin .geq 3 4 (I 1),.bool false)]
def XA:fM:=[(113,[0],.bool true),
 (114,[.agg ⟨[aq 0,aq 1,aq 2,aq 3,aq 4,aq 5,aq 6,aq 7]⟩],.agg ⟨[aq 8,aq 9,aq 10,aq 11]⟩)]
theorem AW:eh (at' 30 FY XA body b3)=some (.bool false):=az
def FZ:c0:=[(.bin .lss 3 5 (I 0),.bool false),
 (.bin .gtr 3 5 (I 15),.bool false),
 (.bin .lss 3 6 (I 0),.bool true)]
def XB:fM:=[(113,[0],.bool false)]
theorem PS:eh (at' 30 FZ XB body b3)=some (.bool false):=az
def F0:c0:=[(.bin .lss 3 5 (I 0),.bool false),
 (.bin .gtr 3 5 (I 15),.bool false),
 (.bin .lss 3 6 (I 0),.bool false),
 (.bin .gtr 3 6 (I 15),.bool true),
 (.bin .neq 9 8 (b1 []),.bool false)]
def F1:fM:=[(113,[0],.bool true),
 (114,[.agg ⟨[aq 0,aq 1,aq 2,aq 3,aq 4,aq 5,aq 6,aq 7]⟩],.agg ⟨[aq 8,aq 9,aq 10,aq 11]⟩)]
theorem PT:eh (at' 30 F0 F1 body b3)=some (.bool false):=az
def XC:c0:=[(.bin .lss 3 5 (I 0),.bool false),
 (.bin .gtr 3 5 (I 15),.bool false),
 (.bin .lss 3 6 (I 0),.bool false),
 (.bin .gtr 3 6 (I 15),.bool true),
 (.bin .neq 9 8 (b1 []),.bool true),
 (.bin .geq 3 4 (I 1),.bool true),
 (.bin .leq 3 4 (I 16),.bool true)]
def XD:fM:=[(113,[0],.bool true),
 (114,[.agg ⟨[aq 0,aq 1,aq 2,aq 3,aq 4,aq 5,aq 6,aq 7]⟩],.agg ⟨[aq 8,aq 9,aq 10,aq 11]⟩)]
theorem FR:eh (at' 30 XC XD body b3)=some (.bool false):=az
def XE:c0:=[(.bin .lss 3 5 (I 0),.bool false),
 (.bin .gtr 3 5 (I 15),.bool false),
 (.bin .lss 3 6 (I 0),.bool false),
 (.bin .gtr 3 6 (I 15),.bool true),
 (.bin .neq 9 8 (b1 []),.bool true),
 (.bin .geq 3 4 (I 1),.bool true),
 (.bin .leq 3 4 (I 16),.bool false)]
def XF:fM:=[(113,[0],.bool true),
 (114,[.agg ⟨[aq 0,aq 1,aq 2,aq 3,aq 4,aq 5,aq 6,aq 7]⟩],.agg ⟨[aq 8,aq 9,aq 10,aq 11]⟩)]
theorem P6:eh (at' 30 XE XF body b3)=some (.bool false):=az
def XG:c0:=[(.bin .lss 3 5 (I 0),.bool false),
 (.bin .gtr 3 5 (I 15),.bool false),
 (.bin .lss 3 6 (I 0),.bool false),
 (.bin .gtr 3 6 (I 15),.bool true),
 (.bin .neq 9 8 (b1 []),.bool true),
 (.bin .geq 3 4 (I 1),.bool false)]
def XH:fM:=[(113,[0],.bool true),
 (114,[.agg ⟨[aq 0,aq 1,aq 2,aq 3,aq 4,aq 5,aq 6,aq 7]⟩],.agg ⟨[aq 8,aq 9,aq 10,aq 11]⟩)]
theorem A2:eh (at' 30 XG XH body b3)=some (.bool false):=az
def XI:c0:=[(.bin .lss 3 5 (I 0),.bool false),
 (.bin .gtr 3 5 (I 15),.bool false),
 (.bin .lss 3 6 (I 0),.bool false),
 (.bin .gtr 3 6 (I 15),.bool true)]
def XJ:fM:=[(113,[0],.bool false)]
theorem F2:eh (at' 30 XI XJ body b3)=some (.bool false):=az
def XK:c0:=[(.bin .lss 3 5 (I 0),.bool false),
 (.bin .gtr 3 5 (I 15),.bool false),
 (.bin .lss 3 6 (I 0),.bool false),
 (.bin .gtr 3 6 (I 15),.bool false),
 (.bin .lss 3 7 (I 0),.bool true),
 (.bin .neq 9 8 (b1 []),.bool false)]
def XL:fM:=[(113,[0],.bool true),
 (114,[.agg ⟨[aq 0,aq 1,aq 2,aq 3,aq 4,aq 5,aq 6,aq 7]⟩],.agg ⟨[aq 8,aq 9,aq 10,aq 11]⟩)]
theorem P7:eh (at' 30 XK XL body b3)=some (.bool false):=az
def XM:c0:=[(.bin .lss 3 5 (I 0),.bool false),
 (.bin .gtr 3 5 (I 15),.bool false),
 (.bin .lss 3 6 (I 0),.bool false),
 (.bin .gtr 3 6 (I 15),.bool false),
 (.bin .lss 3 7 (I 0),.bool true),
 (.bin .neq 9 8 (b1 []),.bool true),
 (.bin .geq 3 4 (I 1),.bool true),
 (.bin .leq 3 4 (I 16),.bool true)]
def XO:fM:=[(113,[0],.bool true),
 (114,[.agg ⟨[aq 0,aq 1,aq 2,aq 3,aq 4,aq 5,aq 6,aq 7]⟩],.agg ⟨[aq 8,aq 9,aq 10,aq 11]⟩)]
theorem AY:eh (at' 30 XM XO body b3)=some (.bool false):=az
def XP:c0:=[(.bin .lss 3 5 (I 0),.bool false),
 (.bin .gtr 3 5 (I 15),.bool false),
 (.bin .lss 3 6 (I 0),.bool false),
 (.bin .gtr 3 6 (I 15),.bool false),
 (.bin .lss 3 7 (I 0),.bool true),
 (.bin .neq 9 8 (b1 []),.bool true),
 (.bin .geq 3 4 (I 1),.bool true),
 (.bin .leq 3 4 (I 16),.bool false)]
def XQ:fM:=[(113,[0],.bool true),
 (114,[.agg ⟨[aq 0,aq 1,aq 2,aq 3,aq 4,aq 5,aq 6,aq 7]⟩],.agg ⟨[aq 8,aq 9,aq 10,aq 11]⟩)]
theorem PU:eh (at' 30 XP XQ body b3)=some (.bool false):=az
def XR:c0:=[(.bin .lss 3 5 (I 0),.bool false),
 (.bin .gtr 3 5 (I 15),.bool false),
 (.bin .lss 3 6 (I 0),.bool false),
 (.bin .gtr 3 6 (I 15),.bool false),
 (.bin .lss 3 7 (I 0),.bool true),
 (.bin .neq 9 8 (b1 []),.bool true),
 (.bin .geq 3 4 (I 1),.bool false)]
def XS:fM:=[(113,[0],.bool true),
 (114,[.agg ⟨[aq 0,aq 1,aq 2,aq 3,aq 4,aq 5,aq 6,aq 7]⟩],.agg ⟨[aq 8,aq 9,aq 10,aq 11]⟩)]
theorem ajh:eh (at' 30 XR XS body b3)=some (.bool false):=az
def XT:c0:=[(.bin .lss 3 5 (I 0),.bool false),
 (.bin .gtr 3 5 (I 15),.bool false),
 (.bin .lss 3 6 (I 0),.bool false),
 (.bin .gtr 3 6 (I 15),.bool false),
 (.bin .lss 3 7 (I 0),.bool true)]
def XU:fM:=[(113,[0],.bool false)]
theorem P8:eh (at' 30 XT XU body b3)=some (.bool false):=az
def XV:c0:=[(.bin .lss 3 5 (I 0),.bool false),
 (.bin .gtr 3 5 (I 15),.bool false),
 (.bin .lss 3 6 (I 0),.bool false),
 (.bin .gtr 3 6 (I 15),.bool false),
 (.bin .lss 3 7 (I 0),.bool false),
 (.bin .gtr 3 7 (I 15),.bool true),
 (.bin .neq 9 8 (b1 []),.bool false)]
def XW:fM:=[(113,[0],.bool true),
 (114,[.agg ⟨[aq 0,aq 1,aq 2,aq 3,aq 4,aq 5,aq 6,aq 7]⟩],.agg ⟨[aq 8,aq 9,aq 10,aq 11]⟩)]
theorem P9:eh (at' 30 XV XW body b3)=some (.bool false):=az
def XX:c0:=[(.bin .lss 3 5 (I 0),.bool false),
 (.bin .gtr 3 5 (I 15),.bool false),
 (.bin .lss 3 6 (I 0),.bool false),
 (.bin .gtr 3 6 (I 15),.bool false),
 (.bin .lss 3 7 (I 0),.bool false),
 (.bin .gtr 3 7 (I 15),.bool true),
 (.bin .neq 9 8 (b1 []),.bool true),
 (.bin .geq 3 4 (I 1),.bool true),
 (.bin .leq 3 4 (I 16),.bool true)]
def XY:fM:=[(113,[0],.bool true),
 (114,[.agg ⟨[aq 0,aq 1,aq 2,aq 3,aq 4,aq 5,aq 6,aq 7]⟩],.agg ⟨[aq 8,aq 9,aq 10,aq 11]⟩)]
theorem P':eh (at' 30 XX XY body b3)=some (.bool false):=az
def XZ:c0:=[(.bin .lss 3 5 (I 0),.bool false),
 (.bin .gtr 3 5 (I 15),.bool false),
 (.bin .lss 3 6 (I 0),.bool false),
 (.bin .gtr 3 6 (I 15),.bool false),
 (.bin .lss 3 7 (I 0),.bool false),
 (.bin .gtr 3 7 (I 15),.bool true),
 (.bin .neq 9 8 (b1 []),.bool true),
 (.bin .geq 3 4 (I 1),.bool true),
 (.bin .leq 3 4 (I 16),.bool false)]
def X0:fM:=[(113,[0],.bool true),
 (114,[.agg ⟨[aq 0,aq 1,aq 2,aq 3,aq 4,aq 5,aq 6,aq 7]⟩],.agg ⟨[aq 8,aq 9,aq 10,aq 11]⟩)]
theorem P_:eh (at' 30 XZ X0 body b3)=some (.bool false):=az
def X1:c0:=[(.bin .lss 3 5 (I 0),.bool false),
 (.bin .gtr 3 5 (I 15),.bool false),
 (.bin .lss 3 6 (I 0),.bool false),
 (.bin .gtr 3 6 (I 15),.bool false),
 (.bin .lss 3 7 (I 0),.bool false),
 (.bin .gtr 3 7 (I 15),.bool true),
 (.bin .neq 9 8 (b1 []),.bool true),
 (.bin .geq 3 4 (I 1),.bool false)]
def X2:fM:=[(113,[0],.bool true),
 (114,[.agg ⟨[aq 0,aq 1,aq 2,aq 3,aq 4,aq 5,aq 6,aq 7]⟩],.agg ⟨[aq 8,aq 9,aq 10,aq 11]⟩)]
theorem aji:eh (at' 30 X1 X2 body b3)=some (.bool false):=az
def X3:c0:=[(.bin .lss 3 5 (I 0),.bool false),
 (.bin .gtr 3 5 (I 15),.bool false),
 (.bin .lss 3 6 (I 0),.bool false),
 (.bin .gtr 3 6 (I 15),.bool false),
 (.bin .lss 3 7 (I 0),.bool false),
 (.bin .gtr 3 7 (I 15),.bool true)]
def X4:fM:=[(113,[0],.bool false)]
theorem ajj:eh (at' 30 X3 X4 body b3)=some (.bool false):=az
def X5:c0:=[(.bin .lss 3 5 (I 0),.bool false),
 (.bin .gtr 3 5 (I 15),.bool false),
 (.bin .lss 3 6 (I 0),.bool false),
 (.bin .gtr 3 6 (I 15),.bool false),
 (.bin .lss 3 7 (I 0),.bool false),
 (.bin .gtr 3 7 (I 15),.bool false),
 (.bin .neq 9 8 (b1 []),.bool false)]
def X6:fM:=[(113,[0],.bool true),
 (114,[.agg ⟨[aq 0,aq 1,aq 2,aq 3,aq 4,aq 5,aq 6,aq 7]⟩],.agg ⟨[aq 8,aq 9,aq 10,aq 11]⟩)]
theorem F3:eh (at' 30 X5 X6 body b3)=some (.bool false):=az
def X7:c0:=[(.bin .lss 3 5 (I 0),.bool false),
 (.bin .gtr 3 5 (I 15),.bool false),
 (.bin .lss 3 6 (I 0),.bool false),
 (.bin .gtr 3 6 (I 15),.bool false),
 (.bin .lss 3 7 (I 0),.bool false),
 (.bin .gtr 3 7 (I 15),.bool false),
 (.bin .neq 9 8 (b1 []),.bool true),
 (.bin .geq 3 4 (I 1),.bool true),
 (.bin .leq 3 4 (I 16),.bool true)]
def X8:fM:=[(113,[0],.bool true),
 (114,[.agg ⟨[aq 0,aq 1,aq 2,aq 3,aq 4,aq 5,aq 6,aq 7]⟩],.agg ⟨[aq 8,aq 9,aq 10,aq 11]⟩)]
theorem Qa:eh (at' 30 X7 X8 body b3)=some (.bool true):=az
def X9:c0:=[(.bin .lss 3 5 (I 0),.bool false),
 (.bin .gtr 3 5 (I 15),.bool false),
 (.bin .lss 3 6 (I 0),.bool false),
 (.bin .gtr 3 6 (I 15),.bool false),
 (.bin .lss 3 7 (I 0),.bool false),
 (.bin .gtr 3 7 (I 15),.bool false),
 (.bin .neq 9 8 (b1 []),.bool true),
 (.bin .geq 3 4 (I 1),.bool true),
 (.bin .leq 3 4 (I 16),.bool false)]
def X':fM:=[(113,[0],.bool true),
 (114,[.agg ⟨[aq 0,aq 1,aq 2,aq 3,aq 4,aq 5,aq 6,aq 7]⟩],.agg ⟨[aq 8,aq 9,aq 10,aq 11]⟩)]
theorem Qb:eh (at' 30 X9 X' body b3)=some (.bool false):=az
def X_:c0:=[(.bin .lss 3 5 (I 0),.bool false),
 (.bin .gtr 3 5 (I 15),.bool false),
 (.bin .lss 3 6 (I 0),.bool false),
 (.bin .gtr 3 6 (I 15),.bool false),
 (.bin .lss 3 7 (I 0),.bool false),
 (.bin .gtr 3 7 (I 15),.bool false),
 (.bin .neq 9 8 (b1 []),.bool true),
 (.bin .geq 3 4 (I 1),.bool false)]
def Ya:fM:=[(113,[0],.bool true),
 (114,[.agg ⟨[aq 0,aq 1,aq 2,aq 3,aq 4,aq 5,aq 6,aq 7]⟩],.agg ⟨[aq 8,aq 9,aq 10,aq 11]⟩)]
theorem Qc:eh (at' 30 X_ Ya body b3)=some (.bool false):=az
def Yb:c0:=[(.bin .lss 3 5 (I 0),.bool false),
 (.bin .gtr 3 5 (I 15),.bool false),
 (.bin .lss 3 6 (I 0),.bool false),
 (.bin .gtr 3 6 (I 15),.bool false),
 (.bin .lss 3 7 (I 0),.bool false),
 (.bin .gtr 3 7 (I 15),.bool false)]
def Yc:fM:=[(113,[0],.bool false)]
theorem ajk:eh (at' 30 Yb Yc body b3)=some (.bool false):=az
@[reducible] noncomputable def eL (x:cc):List J:=[b1 x.1,.bool x.2.1,.bool x.2.2.1,.bool x.2.2.2.1,I x.2.2.2.2.1,I x.2.2.2.2.2.1,I x.2.2.2.2.2.2.1,I x.2.2.2.2.2.2.2,b1 (ki x).1,.bool (ki x).2.1,.bool (ki x).2.2.1,.bool (ki x).2.2.2]
theorem any (W:ao) (x:cc) (bU:lP (aE W)):Calls Tryz.prog 85 #[M.val x] W λe w'=>e= .returned (.bool (decide (fW x)))/\cA W.heap.size W w':=by
 refine uv (eL x) body b3 N [.agg ⟨[aq 0,aq 1,aq 2,aq 3,aq 4,aq 5,aq 6,aq 7]⟩] Tryz.func85 λa al=> ?_
 letI:=gn al;by_cases aJ:x.2.2.2.2.2.1<0
 ·by_cases h1:kT x.1
  ·by_cases ae:(ki x).1=([]:eQ)
   ·refine dG hA AV (ay dA (ay (aZ.z7 U U U U ae) cx)) (ej (kj U U h1) (ej (kk U U U U bU) cy)) ?_ al
    exact dX bA λw2 cO=>(by (rw[fD (λh:fW x=>absurd h.2.1 (by exact not_not_intro ct))];rfl))
   ·by_cases ar:1<=x.2.2.2.2.1
    ·by_cases bm:x.2.2.2.2.1<=16
     ·refine dG gJ s4 (ay dA (ay (aZ.mE U U U U ae) (ay dA (ay dA cx)))) (ej (kj U U h1) (ej (kk U U U U bU) cy)) ?_ al
      exact dX e1 λw2 cO=>(by (rw[fD (λh:fW x=>by have:=h.2.2;omega)];rfl))
     ·refine dG ld yQ (ay dA (ay (aZ.mE U U U U ae) (ay dA (ay b0 cx)))) (ej (kj U U h1) (ej (kk U U U U bU) cy)) ?_ al
      exact dX e2 λw2 cO=>(by (rw[fD (λh:fW x=>by have:=h.2.2;omega)];rfl))
    ·refine dG ih FU (ay dA (ay (aZ.mE U U U U ae) (ay b0 cx))) (ej (kj U U h1) (ej (kk U U U U bU) cy)) ?_ al
     exact dX fI λw2 cO=>(by (rw[fD (λh:fW x=>by have:=h.2.2;omega)];rfl))
  ·refine dG lf FV (ay dA cx) (ej (A0 U U h1) cy) ?_ al
   exact dX nH λw2 cO=>(by (rw[fD (λh:fW x=>absurd h.1 ct)];rfl))
 ·by_cases h1:15<x.2.2.2.2.2.1
  ·by_cases ae:kT x.1
   ·by_cases ar:(ki x).1=([]:eQ)
    ·refine dG lC Xu (ay b0 (ay dA (ay (aZ.z7 U U U U ar) cx))) (ej (kj U U ae) (ej (kk U U U U bU) cy)) ?_ al
     exact dX yR λw2 cO=>(by (rw[fD (λh:fW x=>absurd h.2.1 (by exact not_not_intro ct))];rfl))
    ·by_cases bm:1<=x.2.2.2.2.1
     ·by_cases cg:x.2.2.2.2.1<=16
      ·refine dG r5 CL (ay b0 (ay dA (ay (aZ.mE U U U U ar) (ay dA (ay dA cx))))) (ej (kj U U ae) (ej (kk U U U U bU) cy)) ?_ al
       exact dX w_ λw2 cO=>(by (rw[fD (λh:fW x=>by have:=h.2.2;omega)];rfl))
      ·refine dG s8 Xv (ay b0 (ay dA (ay (aZ.mE U U U U ar) (ay dA (ay b0 cx))))) (ej (kj U U ae) (ej (kk U U U U bU) cy)) ?_ al
       exact dX nE λw2 cO=>(by (rw[fD (λh:fW x=>by have:=h.2.2;omega)];rfl))
     ·refine dG xg FW (ay b0 (ay dA (ay (aZ.mE U U U U ar) (ay b0 cx)))) (ej (kj U U ae) (ej (kk U U U U bU) cy)) ?_ al
      exact dX sy λw2 cO=>(by (rw[fD (λh:fW x=>by have:=h.2.2;omega)];rfl))
   ·refine dG yS Xw (ay b0 (ay dA cx)) (ej (A0 U U ae) cy) ?_ al
    exact dX xh λw2 cO=>(by (rw[fD (λh:fW x=>absurd h.1 ct)];rfl))
  ·by_cases ae:x.2.2.2.2.2.2.1<0
   ·by_cases ar:kT x.1
    ·by_cases bm:(ki x).1=([]:eQ)
     ·refine dG yT Xx (ay b0 (ay b0 (ay dA (ay (aZ.z7 U U U U bm) cx)))) (ej (kj U U ar) (ej (kk U U U U bU) cy)) ?_ al
      exact dX A1 λw2 cO=>(by (rw[fD (λh:fW x=>absurd h.2.1 (by exact not_not_intro ct))];rfl))
     ·by_cases cg:1<=x.2.2.2.2.1
      ·by_cases cu:x.2.2.2.2.1<=16
       ·refine dG CM Xy (ay b0 (ay b0 (ay dA (ay (aZ.mE U U U U bm) (ay dA (ay dA cx)))))) (ej (kj U U ar) (ej (kk U U U U bU) cy)) ?_ al
        exact dX FX λw2 cO=>(by (rw[fD (λh:fW x=>by have:=h.2.2;omega)];rfl))
       ·refine dG CN Xz (ay b0 (ay b0 (ay dA (ay (aZ.mE U U U U bm) (ay dA (ay b0 cx)))))) (ej (kj U U ar) (ej (kk U U U U bU) cy)) ?_ al
        exact dX xb λw2 cO=>(by (rw[fD (λh:fW x=>by have:=h.2.2;omega)];rfl))
      ·refine dG FY XA (ay b0 (ay b0 (ay dA (ay (aZ.mE U U U U bm) (ay b0 cx))))) (ej (kj U U ar) (ej (kk U U U U bU) cy)) ?_ al
       exact dX AW λw2 cO=>(by (rw[fD (λh:fW x=>by have:=h.2.2;omega)];rfl))
    ·refine dG FZ XB (ay b0 (ay b0 (ay dA cx))) (ej (A0 U U ar) cy) ?_ al
     exact dX PS λw2 cO=>(by (rw[fD (λh:fW x=>absurd h.1 ct)];rfl))
   ·by_cases ar:15<x.2.2.2.2.2.2.1
    ·by_cases bm:kT x.1
     ·by_cases cg:(ki x).1=([]:eQ)
      ·refine dG F0 F1 (ay b0 (ay b0 (ay b0 (ay dA (ay (aZ.z7 U U U U cg) cx))))) (ej (kj U U bm) (ej (kk U U U U bU) cy)) ?_ al
       exact dX PT λw2 cO=>(by (rw[fD (λh:fW x=>absurd h.2.1 (by exact not_not_intro ct))];rfl))
      ·by_cases cu:1<=x.2.2.2.2.1
       ·by_cases e_:x.2.2.2.2.1<=16
        ·refine dG XC XD (ay b0 (ay b0 (ay b0 (ay dA (ay (aZ.mE U U U U cg) (ay dA (ay dA cx))))))) (ej (kj U U bm) (ej (kk U U U U bU) cy)) ?_ al
         exact dX FR λw2 cO=>(by (rw[fD (λh:fW x=>by have:=h.2.2;omega)];rfl))
        ·refine dG XE XF (ay b0 (ay b0 (ay b0 (ay dA (ay (aZ.mE U U U U cg) (ay dA (ay b0 cx))))))) (ej (kj U U bm) (ej (kk U U U U bU) cy)) ?_ al
         exact dX P6 λw2 cO=>(by (rw[fD (λh:fW x=>by have:=h.2.2;omega)];rfl))
       ·refine dG XG XH (ay b0 (ay b0 (ay b0 (ay dA (ay (aZ.mE U U U U cg) (ay b0 cx)))))) (ej (kj U U bm) (ej (kk U U U U bU) cy)) ?_ al
        exact dX A2 λw2 cO=>(by (rw[fD (λh:fW x=>by have:=h.2.2;omega)];rfl))
     ·refine dG XI XJ (ay b0 (ay b0 (ay b0 (ay dA cx)))) (ej (A0 U U bm) cy) ?_ al
      exact dX F2 λw2 cO=>(by (rw[fD (λh:fW x=>absurd h.1 ct)];rfl))
    ·by_cases bm:x.2.2.2.2.2.2.2<0
     ·by_cases cg:kT x.1
      ·by_cases cu:(ki x).1=([]:eQ)
       ·refine dG XK XL (ay b0 (ay b0 (ay b0 (ay b0 (ay dA (ay (aZ.z7 U U U U cu) cx)))))) (ej (kj U U cg) (ej (kk U U U U bU) cy)) ?_ al
        exact dX P7 λw2 cO=>(by (rw[fD (λh:fW x=>absurd h.2.1 (by exact not_not_intro ct))];rfl))
       ·by_cases e_:1<=x.2.2.2.2.1
        ·by_cases oG:x.2.2.2.2.1<=16
         ·refine dG XM XO (ay b0 (ay b0 (ay b0 (ay b0 (ay dA (ay (aZ.mE U U U U cu) (ay dA (ay dA cx)))))))) (ej (kj U U cg) (ej (kk U U U U bU) cy)) ?_ al
          exact dX AY λw2 cO=>(by (rw[fD (λh:fW x=>by have:=h.2.2;omega)];rfl))
         ·refine dG XP XQ (ay b0 (ay b0 (ay b0 (ay b0 (ay dA (ay (aZ.mE U U U U cu) (ay dA (ay b0 cx)))))))) (ej (kj U U cg) (ej (kk U U U U bU) cy)) ?_ al
          exact dX PU λw2 cO=>(by (rw[fD (λh:fW x=>by have:=h.2.2;omega)];rfl))
        ·refine dG XR XS (ay b0 (ay b0 (ay b0 (ay b0 (ay dA (ay (aZ.mE U U U U cu) (ay b0 cx))))))) (ej (kj U U cg) (ej (kk U U U U bU) cy)) ?_ al
         exact dX ajh λw2 cO=>(by (rw[fD (λh:fW x=>by have:=h.2.2;omega)];rfl))
      ·refine dG XT XU (ay b0 (ay b0 (ay b0 (ay b0 (ay dA cx))))) (ej (A0 U U cg) cy) ?_ al
       exact dX P8 λw2 cO=>(by (rw[fD (λh:fW x=>absurd h.1 ct)];rfl))
     ·by_cases cg:15<x.2.2.2.2.2.2.2
      ·by_cases cu:kT x.1
       ·by_cases e_:(ki x).1=([]:eQ)
        ·refine dG XV XW (ay b0 (ay b0 (ay b0 (ay b0 (ay b0 (ay dA (ay (aZ.z7 U U U U e_) cx))))))) (ej (kj U U cu) (ej (kk U U U U bU) cy)) ?_ al
         exact dX P9 λw2 cO=>(by (rw[fD (λh:fW x=>absurd h.2.1 (by exact not_not_intro ct))];rfl))
        ·by_cases oG:1<=x.2.2.2.2.1
         ·by_cases xG:x.2.2.2.2.1<=16
          ·refine dG XX XY (ay b0 (ay b0 (ay b0 (ay b0 (ay b0 (ay dA (ay (aZ.mE U U U U e_) (ay dA (ay dA cx))))))))) (ej (kj U U cu) (ej (kk U U U U bU) cy)) ?_ al
           exact dX P' λw2 cO=>(by (rw[fD (λh:fW x=>by have:=h.2.2;omega)];rfl))
          ·refine dG XZ X0 (ay b0 (ay b0 (ay b0 (ay b0 (ay b0 (ay dA (ay (aZ.mE U U U U e_) (ay dA (ay b0 cx))))))))) (ej (kj U U cu) (ej (kk U U U U bU) cy)) ?_ al
           exact dX P_ λw2 cO=>(by (rw[fD (λh:fW x=>by have:=h.2.2;omega)];rfl))
         ·refine dG X1 X2 (ay b0 (ay b0 (ay b0 (ay b0 (ay b0 (ay dA (ay (aZ.mE U U U U e_) (ay b0 cx)))))))) (ej (kj U U cu) (ej (kk U U U U bU) cy)) ?_ al
          exact dX aji λw2 cO=>(by (rw[fD (λh:fW x=>by have:=h.2.2;omega)];rfl))
       ·refine dG X3 X4 (ay b0 (ay b0 (ay b0 (ay b0 (ay b0 (ay dA cx)))))) (ej (A0 U U cu) cy) ?_ al
        exact dX ajj λw2 cO=>(by (rw[fD (λh:fW x=>absurd h.1 ct)];rfl))
      ·by_cases cu:kT x.1
       ·by_cases e_:(ki x).1=([]:eQ)
        ·refine dG X5 X6 (ay b0 (ay b0 (ay b0 (ay b0 (ay b0 (ay b0 (ay (aZ.z7 U U U U e_) cx))))))) (ej (kj U U cu) (ej (kk U U U U bU) cy)) ?_ al
         exact dX F3 λw2 cO=>(by (rw[fD (λh:fW x=>absurd h.2.1 (by exact not_not_intro ct))];rfl))
        ·by_cases oG:1<=x.2.2.2.2.1
         ·by_cases xG:x.2.2.2.2.1<=16
          ·refine dG X7 X8 (ay b0 (ay b0 (ay b0 (ay b0 (ay b0 (ay b0 (ay (aZ.mE U U U U e_) (ay dA (ay dA cx))))))))) (ej (kj U U cu) (ej (kk U U U U bU) cy)) ?_ al
           exact dX Qa λw2 cO=>(by (rw[kF (show fW x from ⟨ct,ct,aj,aj,aj,aj,aj,aj,aj,aj⟩)];rfl))
          ·refine dG X9 X' (ay b0 (ay b0 (ay b0 (ay b0 (ay b0 (ay b0 (ay (aZ.mE U U U U e_) (ay dA (ay b0 cx))))))))) (ej (kj U U cu) (ej (kk U U U U bU) cy)) ?_ al
           exact dX Qb λw2 cO=>(by (rw[fD (λh:fW x=>by have:=h.2.2;omega)];rfl))
         ·refine dG X_ Ya (ay b0 (ay b0 (ay b0 (ay b0 (ay b0 (ay b0 (ay (aZ.mE U U U U e_) (ay b0 cx)))))))) (ej (kj U U cu) (ej (kk U U U U bU) cy)) ?_ al
          exact dX Qc λw2 cO=>(by (rw[fD (λh:fW x=>by have:=h.2.2;omega)];rfl))
       ·refine dG Yb Yc (ay b0 (ay b0 (ay b0 (ay b0 (ay b0 (ay b0 cx)))))) (ej (A0 U U cu) cy) ?_ al
        exact dX ajk λw2 cO=>(by (rw[fD (λh:fW x=>absurd h.1 ct)];rfl))
end P5
end AE
namespace AE
variable [a6]
theorem Yd {x:J} {m:cc} (hp:ev [x]=true) (bj:e4 [x]=[M.val m]) (bU:lP a6.dL) (h:fW m):oe Tryz.prog (85,[x],.bool true):=
 yd (a:= #[M.val m]) hp rfl bj rfl λw hw=>(P5.any w m (bU.mono hw)).mono λe w' gu=>by rw[kF h] at gu;exact gu
theorem ajl {x:J} {m:cc} (hp:ev [x]=true) (bj:e4 [x]=[M.val m]) (bU:lP a6.dL) (h:¬fW m):oe Tryz.prog (85,[x],.bool false):=
 yd (a:= #[M.val m]) hp rfl bj rfl λw hw=>(P5.any w m (bU.mono hw)).mono λe w' gu=>by rw[fD h] at gu;exact gu
end AE
namespace AE
namespace Ye
noncomputable def body:Code:=(Tryz.f51.body).getD .skip
def N:Nat:=42
noncomputable abbrev eh:=kL Tryz.prog Tryz.f51
def b3:cC:={sl:=gb [(0,0)],ms:=[],A:=start}
def hA:c0:=[(.e5 (.bool true),.bool true),
 (.len #[29] 3 0,1),
 (.bin .gtr 3 1 (I 256),.bool true)]
theorem bA:eh (at' 42 hA [] body b3)=some (.tuple ⟨[I (-1),I 2]⟩):=az
def gJ:c0:=[(.e5 (.bool true),.bool true),
 (.len #[29] 3 0,1),
 (.bin .gtr 3 1 (I 256),.bool false),
 (.bin .eql 3 1 (I 0),.bool true)]
theorem e1:eh (at' 42 gJ [] body b3)=some (.tuple ⟨[I (-1),I 1]⟩):=az
def ld:c0:=[(.e5 (.bool true),.bool true),
 (.len #[29] 3 0,1),
 (.bin .gtr 3 1 (I 256),.bool false),
 (.bin .eql 3 1 (I 0),.bool false),
 (.cm 29 0 (I 0),2),
 (.bf 66 2,.agg ⟨[3,4,5,6,7,8,9,10]⟩),
 (.bin .neq 66 (.agg ⟨[3,4,5,6,7,8,9,10]⟩) (.agg ⟨[b1 [97,105,114],.bool false,.bool false,.bool false,I 1,I 0,I 0,I 0]⟩),.bool false)]
theorem e2:B2 (at' 42 ld [] body b3)=some 133:=az
abbrev n0:=at' 42 ld [] body b3
def iM:List bS:=[]
def ia:a1:=gb [(3,I 0),(2,I 0),(0,0)]
def jv:a1:=mm 42 ia 21 11
theorem fI:d' (de n0) ia iM=some [(0,0)]:=az
def jw:iz:=(body,[1,1,0],1)
def ih:c0:=[(.e5 (.bool true),.bool true),
 (.len #[29] 3 0,1)]
def n3:List bS:=[]
def n4:a1:=gb [(24,12),(23,1),(22,0),(4,11)]
abbrev uB:=hW 42 ih [] jw {sl:=jv,ms:=[],A:=ff iM}
theorem sy:ya n4 n3 uB=some [(1,1),(11,11),(I 0,12),(0,0)]:=az
def n5:Code:=H9 body [1,1,1,0,1,4]
def vH:List fu:=tT body [1,1,1,0,1,4] []
theorem xh:wB uB=n5:=az
theorem A1:hk uB=vH:=az
def lf:c0:=[(.e5 (.bool true),.bool true),
 (.bin .lss 3 12 1,.bool true),
 (.cm 29 0 12,13),
 (.bf 66 13,.agg ⟨[14,15,16,17,18,19,20,21]⟩),
 (.l7 133 11 14 false,.bool true)]
def FV:fM:=[(85,[.agg ⟨[14,15,16,17,18,19,20,21]⟩],.bool true)]
def lC:c0:=[(.e5 (.bool true),.bool true)]
theorem FX:eh (AH 42 lC [] vH (at' 42 lf FV n5 (eg n4 n3)))=some (.tuple ⟨[12,I 10]⟩):=az
def r5:c0:=[(.e5 (.bool true),.bool true),
 (.bin .lss 3 12 1,.bool true),
 (.cm 29 0 12,13),
 (.bf 66 13,.agg ⟨[14,15,16,17,18,19,20,21]⟩),
 (.l7 133 11 14 false,.bool false)]
def CL:fM:=[(85,[.agg ⟨[14,15,16,17,18,19,20,21]⟩],.bool true)]
theorem xb:B3 (at' 42 r5 CL n5 (eg n4 n3))=some (133,11,14,.bool true):=az
abbrev q9:=at' 42 r5 CL n5 (eg n4 n3)
def n1:List bS:=[]
def k8:a1:=gb [(24,12),(23,1),(22,0),(4,11)]
def iY:a1:=match gG 42 k8 none (.tuple ⟨[]⟩) with|some s=>s|none=> .nil
theorem AW:d' (de q9) k8 n1=some [(1,1),(11,11),(12,12),(0,0)]:=az
def mj:iz:=(n5,[1,1,0,4,1,1,1],4)
def s8:c0:=[(.e5 (.bool true),.bool true),
 (.bin .add 3 12 (I 1),22)]
theorem A2:zV n4 n3 (hW 42 s8 [] mj (eg iY n1))=some [(1,1),(11,11),(22,12),(0,0)]:=az
def xg:c0:=[(.e5 (.bool true),.bool true),
 (.bin .lss 3 12 1,.bool true),
 (.cm 29 0 12,13),
 (.bf 66 13,.agg ⟨[14,15,16,17,18,19,20,21]⟩)]
def FW:fM:=[(85,[.agg ⟨[14,15,16,17,18,19,20,21]⟩],.bool false)]
theorem F2:eh (AH 42 lC [] vH (at' 42 xg FW n5 (eg n4 n3)))=some (.tuple ⟨[12,I 1]⟩):=az
def yS:c0:=[(.e5 (.bool true),.bool true),
 (.bin .lss 3 12 1,.bool false)]
theorem P7:eh (AH 42 lC [] vH (at' 42 yS [] n5 (eg n4 n3)))=some (.tuple ⟨[I 0,I 0]⟩):=az
def yT:c0:=[(.e5 (.bool true),.bool true),
 (.len #[29] 3 0,1),
 (.bin .gtr 3 1 (I 256),.bool false),
 (.bin .eql 3 1 (I 0),.bool false),
 (.cm 29 0 (I 0),2),
 (.bf 66 2,.agg ⟨[3,4,5,6,7,8,9,10]⟩),
 (.bin .neq 66 (.agg ⟨[3,4,5,6,7,8,9,10]⟩) (.agg ⟨[b1 [97,105,114],.bool false,.bool false,.bool false,I 1,I 0,I 0,I 0]⟩),.bool true)]
theorem AY:eh (at' 42 yT [] body b3)=some (.tuple ⟨[I 0,I 1]⟩):=az
@[reducible] noncomputable def eL (l:List cc) (jk:gp) (kh:Nat) (i:Nat:=0) (ng:Nat:=0):List J:=[b8 jk l kh,I ((l.length:Nat):Int),kt (b8 jk l kh) (0*8),b1 (l.jW (0)).1,.bool (l.jW (0)).2.1,.bool (l.jW (0)).2.2.1,.bool (l.jW (0)).2.2.2.1,I (l.jW (0)).2.2.2.2.1,I (l.jW (0)).2.2.2.2.2.1,I (l.jW (0)).2.2.2.2.2.2.1,I (l.jW (0)).2.2.2.2.2.2.2,.map (some ng),I ((i:Nat):Int),kt (b8 jk l kh) (i*8),b1 (l.jW (i)).1,.bool (l.jW (i)).2.1,.bool (l.jW (i)).2.2.1,.bool (l.jW (i)).2.2.2.1,I (l.jW (i)).2.2.2.2.1,I (l.jW (i)).2.2.2.2.2.1,I (l.jW (i)).2.2.2.2.2.2.1,I (l.jW (i)).2.2.2.2.2.2.2,I ((i+1:Nat):Int)]
theorem any (W:ao) {jj:J} {l:List cc} (hl:bT (aE W) 8 gm jj l) (bU:lP (aE W)):Calls Tryz.prog 51 #[jj] W λe w'=>e= .returned (.tuple #[I (kU l).1,I (kU l).2])/\cA W.heap.size W w':=by
 obtain⟨jk,kh,rfl⟩:=hl.slice;refine uv (eL l jk kh) body b3 N [aq 0] Tryz.func51 λa al=> ?_
 letI:=gn al;by_cases aJ:256<((l.length:Nat):Int)
 ·refine dG hA [] (ay (aZ.e5 U U) (ay (sX hl rL) (ay dA cx))) cy ?_ al
  exact dX bA λw2 cO=>(by refine congrArg Ending.returned ?_;(rw[Xj aj];rfl))
 ·by_cases h1:((l.length:Nat):Int)=0
  ·refine dG gJ [] (ay (aZ.e5 U U) (ay (sX hl rL) (ay b0 (ay dA cx)))) cy ?_ al
   exact dX e1 λw2 cO=>(by refine congrArg Ending.returned ?_;(rw[Xk aj aj];rfl))
  ·by_cases ae:(l.jW (0))=((([97,105,114]:eQ),false,false,false,1,0,0,0):cc)
   ·refine dG ld [] (ay (aZ.e5 U U) (ay (sX hl rL) (ay b0 (ay b0 (ay (Wj hl (show 0<l.length by omega) rL vl) (ay (aZ.Ee hl (AJ 0) U U Em vl U U U) (ay (TR U U U U (by rw[kF ae];rfl)) cx))))))) cy ?_ al
    obtain⟨cT,gL⟩:=kB ([]);refine aeK (bC:=λxi=>(eL l jk kh 0 xi)) gL e2 fI (jX jv 11) rfl (λ_ xi=>mO) (λ_ _=>rfl) ?_;intro o0 ng o1 oy ja w al;have CK:=oy.up (λi h=>by cases h) (bL _) (λ_ _ h=>h);letI:=gn al;refine jG (jH jw) ih [] (ay (aZ.e5 U U) (ay (sX (hl.mono CK) rL) cx)) cy ?_ al;refine Il (gY:=(λ(⟨M,b,i⟩:Mem×List eQ×Nat)=>aY M (eL l jk kh i ng))) (λ(⟨M,b,i⟩:Mem×List eQ×Nat)=>sK W.heap.size M (.map (some ng)) b/\(∀i o,aE W i=some o->M i=some o)/\b=xf l i/\i<=l.length/\∀j,j<i->¬vJ l j) (λ(⟨M,b,i⟩:Mem×List eQ×Nat)=>l.length-i) ⟨o0,cT,0⟩ sy mO (λ_ _ h=>h) (by exact⟨o1,CK,gL,Nat.zero_le _,λj h=>absurd h (Nat.not_lt_zero _)⟩) ?_;intro⟨M,b,i⟩ bg ja w al;letI:=gn al;refine H' xh A1 ?_;have cj:=bg.1;have aV:=bg.2.1;by_cases lo:((i:Nat):Int)<((l.length:Nat):Int)
    ·by_cases q1:fW (l.jW (i))
     ·by_cases aB:(l.jW (i)).1∈b
      ·refine dG lf FV (ay (aZ.e5 U U) (ay dA (ay (Fs (hl.mono aV) rL vl) (ay (aZ.Ee (hl.mono aV) (AJ i) U U Em vl U U U) (ay (aZ.aeI U U P1 P2 P3 cj U U aB) cx))))) (ej (Yd U U (by exact bU.mono ct) q1) cy) ?_ al
       refine Cx lC [] (ay (aZ.e5 U U) cx) cy ?_;exact dX FX λw2 cO=>(by refine congrArg Ending.returned ?_;(rw[Xo (i:=i) aj aj ct aj bg.2.2.2.2 ct (by rw[<-bg.2.2.1];assumption)];rfl))
      ·refine dG r5 CL (ay (aZ.e5 U U) (ay dA (ay (Fs (hl.mono aV) rL vl) (ay (aZ.Ee (hl.mono aV) (AJ i) U U Em vl U U U) (ay (aZ.aeJ U U P1 P2 ajb P3 cj U U aB) cx))))) (ej (Yd U U (by exact bU.mono ct) q1) cy) ?_ al
       obtain⟨jc,kZ⟩:=kB (b++[(l.jW (i)).1]);refine aeL (u:= .map (some ng)) (n:=(l.jW (i)).1) (ns:=b) (ns':=jc) (bC:=(eL l jk kh i ng)) kZ xb P1 P2 P3 AW (jX iY (.tuple ⟨[]⟩)) U U U U cj ct (λ_=>mO) ?_;intro qe Eu xd ja w al;have ajm:=xd.up (λi h=>(cj.known i h).2) (bL _) aV;letI:=gn al;refine jG (jH mj) s8 [] (ay (aZ.e5 U U) (ay AI cx)) cy ?_ al;exact Jk ⟨qe,jc,i+1⟩ A2 mO (by exact⟨Eu,ajm,by rw[kZ,bg.2.2.1,aja aj],aj,λj hj=>by rcases Nat.lt_succ_iff_lt_or_eq.1 hj with h|rfl;exact bg.2.2.2.2 j h;exact Xq ct (by rw[<-bg.2.2.1];assumption)⟩)
     ·refine dG xg FW (ay (aZ.e5 U U) (ay dA (ay (Fs (hl.mono aV) rL vl) (ay (aZ.Ee (hl.mono aV) (AJ i) U U Em vl U U U) cx)))) (ej (ajl U U (by exact bU.mono ct) q1) cy) ?_ al
      refine Cx lC [] (ay (aZ.e5 U U) cx) cy ?_;exact dX F2 λw2 cO=>(by refine congrArg Ending.returned ?_;(rw[Xn (i:=i) aj aj ct aj bg.2.2.2.2 ct];rfl))
    ·refine dG yS [] (ay (aZ.e5 U U) (ay b0 cx)) cy ?_ al
     refine Cx lC [] (ay (aZ.e5 U U) cx) cy ?_;exact dX P7 λw2 cO=>(by refine congrArg Ending.returned ?_;(rw[Xp aj aj ct (λj hj=>bg.2.2.2.2 j aj)];rfl))
   ·refine dG yT [] (ay (aZ.e5 U U) (ay (sX hl rL) (ay b0 (ay b0 (ay (Wj hl (show 0<l.length by omega) rL vl) (ay (aZ.Ee hl (AJ 0) U U Em vl U U U) (ay (TR U U U U (by rw[fD ae];rfl)) cx))))))) cy ?_ al
    exact dX AY λw2 cO=>(by refine congrArg Ending.returned ?_;(rw[Xl aj aj ct];rfl))
end Ye
end AE
section
noncomputable section
namespace AE
theorem lP.CO {W w:ao} {ro:List (fk bc)} {L:List (aw bc)} (h:lP (aE W)) (hw:ji W [] ro L w):lP (aE w):=h.mono λi o af=>hw.ext i o af (Af i)
abbrev ajn:aK:=25
theorem Yf (p q:bw):p4 Tryz.prog 10000 ajn (X.val p) (X.val q)=some ((p.1==q.1&&(p.2.1==q.2.1&&(p.2.2.1==q.2.2.1&&true)))&&((p.2.2.2.1==q.2.2.2.1&&(p.2.2.2.2.1==q.2.2.2.2.1&&(p.2.2.2.2.2==q.2.2.2.2.2&&true)))&&true)):=az
theorem Yg (p q:bw):((p.1==q.1&&(p.2.1==q.2.1&&(p.2.2.1==q.2.2.1&&true)))&&((p.2.2.2.1==q.2.2.2.1&&(p.2.2.2.2.1==q.2.2.2.2.1&&(p.2.2.2.2.2==q.2.2.2.2.2&&true)))&&true))=decide (p=q):=by
 obtain⟨a,b,c,d,e,f⟩:=p;obtain⟨aR,b',c',mX,e',iJ⟩:=q;rw[Bool.eq_iff_iff];simp [and_assoc]
def F4 (b:bw):List Int:=[b.1,b.2.1,b.2.2.1,b.2.2.2.1,b.2.2.2.2.1,b.2.2.2.2.2]
theorem ajo {b:bw} {i:Nat} (h:i<6):(lB b)[i]? =some (I ((F4 b).getD i 0)):=by
 match i,h with
 |0,_=>rfl
 |1,_=>rfl
 |2,_=>rfl
 |3,_=>rfl
 |4,_=>rfl
 |5,_=>rfl
theorem Qd {b:bw}:okB b↔∀j,j<6-> -1048575<=(F4 b).getD j 0/\(F4 b).getD j 0<=1048575:=by
 constructor
 ·intro h j hj
  obtain⟨aJ,h1,ae,ar,bm,cg,cu,e_,oG,xG,ajp,ajq⟩:=h
  match j,hj with
  |0,_=>exact⟨aJ,h1⟩
  |1,_=>exact⟨ae,ar⟩
  |2,_=>exact⟨bm,cg⟩
  |3,_=>exact⟨cu,e_⟩
  |4,_=>exact⟨oG,xG⟩
  |5,_=>exact⟨ajp,ajq⟩
 ·intro h
  have aJ:=h 0 aj;have h1:=h 1 aj;have ae:=h 2 aj;have ar:=h 3 aj;have bm:=h 4 aj;have cg:=h 5 aj;exact⟨aJ.1,aJ.2,h1.1,h1.2,ae.1,ae.2,ar.1,ar.2,bm.1,bm.2,cg.1,cg.2⟩
theorem nO {p q:Prop} [Decidable p] [Decidable q] (h:¬q↔p):Value.bool (!decide q)= .bool (decide p):=by rw[<-decide_not,decide_eq_decide.2 h]
namespace Yh
def t:a7:=
.loop [.bool false,I 0] 2<|
.o (.bin .lss 3 7 (I 6)) 8 1 []<|
.bb 8 (
 .o (.dP 160 (.agg ⟨[0,1,2,3,4,5]⟩) 7) 9 1 [1,6,3,1]<|
 .o (.bin .lss 3 9 (I (-1048575))) 10 1 []<|
 .bb 10 (
  .c4<|
  .ret (.bool false)) (
  .o (.bin .gtr 3 9 (I 1048575)) 11 1 []<|
  .bb 11 (
   .c4<|
   .ret (.bool false)) (
   .o (.bin .add 3 7 (I 1)) 12 1 []<|
   .back [6,12]))) (
 .c4<|
 .ret (.bool true))
theorem bB:cZ Tryz.prog 86 {} [.agg ⟨[0,1,2,3,4,5]⟩] 6=some t:=dg az
theorem any (W:ao) (b:bw):hK bc 86 [X.val b] W (.bool (decide (okB b))):=by
 refine fV (ro:=[]) mixed bB (lB b) (.nil _) ?_;unfold t;refine k_ Nat (λi=>[.bool false,I (i:Nat)]) (λ_=>[]) (λi=>i<=6/\∀j,j<i-> -1048575<=(F4 b).getD j 0/\(F4 b).getD j 0<=1048575) (λi=>6-i) 0 U U ⟨Nat.zero_le _,λj hj=>absurd hj (Nat.not_lt_zero j)⟩ (λi af=> ?_);obtain⟨af,bg⟩:=af;refine aN ?_;refine bR rfl (λbt=> ?_) λbt=>hV (bx (congrArg Value.bool (kF (Qd.2 λj h=>bg j aj)).symm))
 have bt:i<6:=by omega
 refine Jj (cs:=lB b) (j:=i) U U (ajo bt) ?_;refine aN ?_;refine bR rfl (λh1=>hV (bx (eG λh=>by have:=Qd.1 h i bt;omega))) λh1=> ?_
 refine aN ?_;refine bR rfl (λae=>hV (bx (eG λh=>by have:=Qd.1 h i bt;omega))) λae=> ?_
 refine aN ?_;refine h5 (i+1) U U ⟨bt,λj hj=> ?_⟩ aj;rcases Nat.lt_succ_iff_lt_or_eq.1 hj with ar|ar
 ·exact bg j ar
 ·rw[ar];omega
end Yh
namespace Yi
def t:a7:=
.o (.bin .geq 3 0 (I 0)) 1 1 []<|
.bb 1 (
 .o (.bin .lss 3 0 (I 256)) 2 1 []<|
 .ret 2) (
 .ret (.bool false))
theorem bB:cZ Tryz.prog 91 {} [0] 1=some t:=dg az
theorem any {W:ao} (c:Int):hK bc 91 [I c] W (.bool (decide (h6 c))):=by
 refine fV (ro:=[]) mixed bB [I c] (.nil _) ?_;unfold t;refine aN ?_;refine bR rfl (λ_=> ?_) λ_=> ?_
 ·refine aN ?_
  exact bx (FJ (by unfold h6;omega))
 ·exact bx (eG (by unfold h6;omega))
end Yi
namespace Yj
def t:a7:=
.c 91 [0] 1 1<|
.o (.un .not 1) 2 1 []<|
.ret 2
theorem bB:cZ Tryz.prog 90 {} [0] 1=some t:=dg az
theorem any {W:ao} (c:Int):hK bc 90 [I c] W (.bool (!decide (h6 c))):=by
 refine fV (ro:=[]) mixed bB [I c] (.nil _) ?_;unfold t;refine ew (v:= .bool (decide (h6 c))) (λw _=>Yi.any c) ?_;refine ox rfl ?_;exact bx rfl
end Yj
abbrev Yk:J:= .func (.func 90) ⟨[]⟩ ⟨[]⟩
namespace Yl
def t:a7:=
.o (.len #[26] 3 0) 1 1 [0,3]<|
.loop [I 0,I 0] 2<|
.o (.bin .lss 3 3 1) 4 1 []<|
.bb 4 (
 .o (.cm 26 0 3) 5 1 [0,3,1]<|
 .o (.bf 3 5) 6 1 [1]<|
 .c 90 [6] 7 1<|
 .bb 7 (
  .c4<|
  .ret 3) (
  .o (.bin .add 3 3 (I 1)) 8 1 []<|
  .back [2,8])) (
 .c4<|
 .ret (I (-1)))
theorem bB:cZ Tryz.prog 115 {} [0,.func (.func 90) ⟨[]⟩ ⟨[]⟩] 1=some t:=dg az
theorem any {W:ao} {a:gp} {n c:Nat} {l:List Int} (hl:bT (aE W) 1 hv (.slice a n c) l) (ak:n=l.length) (ad:l.length<=10000000):hK bc 115 [.slice a n c,Yk] W (I (qj l)):=by
 subst ak;refine fV (ro:=[⟨di,.slice a l.length c,l⟩]) mixed bB [.slice a l.length c] (.cons hl (.nil _)) ?_;unfold t;refine aN ?_;refine k_ Nat (λi=>[I 0,I (i:Nat)]) (λ_=>[]) (λi=>i<=l.length/\∀c∈l.take i,h6 c) (λi=>l.length-i) 0 U U ⟨Nat.zero_le _,λc ai=>by simp at ai⟩ (λi af=> ?_);obtain⟨af,bg⟩:=af;refine aN ?_;refine bR rfl (λbt=> ?_) λbt=>hV (bx (by rw[JL (ai5 bg aj)];rfl))
 have bt:i<l.length:=by omega
 refine ie (K:=di) (l:=l) (j:=i) U U ?_;refine mM (K:=di) (l:=l) (j:=i) (o:=0) (u:=I (l.getD i default)) U U ?_;refine ew (v:= .bool (!decide (h6 (l.getD i default)))) (λw _=>Yj.any _) ?_;refine i_ rfl (λh=>hV (bx (by rw[Xh bt bg h];rfl))) λh=> ?_
 refine aN ?_;exact h5 (i+1) U U ⟨bt,ai4 bg bt h.1 h.2⟩ aj
end Yl
namespace Ym
def t:a7:=
.c 115 [0,.func (.func 90) ⟨[]⟩ ⟨[]⟩] 1 1<|
.o (.bin .geq 3 1 (I 0)) 2 1 []<|
.ret 2
theorem bB:cZ Tryz.prog 89 {} [0,.func (.func 90) ⟨[]⟩ ⟨[]⟩] 1=some t:=dg az
theorem any {W:ao} {a:gp} {n c:Nat} {l:List Int} (hl:bT (aE W) 1 hv (.slice a n c) l) (ak:n=l.length) (ad:l.length<=10000000):hK bc 89 [.slice a n c,Yk] W (.bool (decide (0<=qj l))):=by
 refine fV (ro:=[⟨di,.slice a n c,l⟩]) mixed bB [.slice a n c] (.cons hl (.nil _)) ?_;unfold t;refine ew (v:=I (qj l)) (λw hw=>Yl.any ((fU.ro (K:=di) (v:= .slice a n c) (l:=l) has).at hw) ak ad) ?_;refine aN ?_;exact bx rfl
end Ym
namespace Yn
def t:a7:=
.c 86 [.agg ⟨[0,1,2,3,4,5]⟩] 7 1<|
.o (.un .not 7) 8 1 []<|
.bb 8 (
 .ret (.bool false)) (
 .c 87 [.agg ⟨[0,1,2,3,4,5]⟩] 9 1<|
 .bb 9 (
  .o (.bin .neq 25 (.agg ⟨[0,1,2,3,4,5]⟩) (.agg ⟨[I 0,I 0,I 0,I 0,I 0,I 0]⟩)) 10 1 []<|
  .bb 10 (
   .ret (.bool false)) (
   .c 88 [.agg ⟨[0,1,2,3,4,5]⟩] 11 1<|
   .o (.bin .leq 3 11 (I 2097152)) 12 1 []<|
   .bb 12 (
    .o (.len #[26] 3 6) 13 1 [0,3]<|
    .o (.bin .eql 3 11 13) 14 1 []<|
    .bb 14 (
     .c 89 [6,.func (.func 90) ⟨[]⟩ ⟨[]⟩] 15 1<|
     .o (.un .not 15) 16 1 []<|
     .ret 16) (
     .ret (.bool false))) (
    .ret (.bool false)))) (
  .c 88 [.agg ⟨[0,1,2,3,4,5]⟩] 10 1<|
  .o (.bin .leq 3 10 (I 2097152)) 11 1 []<|
  .bb 11 (
   .o (.len #[26] 3 6) 12 1 [0,3]<|
   .o (.bin .eql 3 10 12) 13 1 []<|
   .bb 13 (
    .c 89 [6,.func (.func 90) ⟨[]⟩ ⟨[]⟩] 14 1<|
    .o (.un .not 14) 15 1 []<|
    .ret 15) (
    .ret (.bool false))) (
   .ret (.bool false))))
theorem bB:cZ Tryz.prog 52 {} [.agg ⟨[0,1,2,3,4,5,6]⟩] 7=some t:=dg az
theorem any (W:ao) {b:bw} {a:gp} {n c:Nat} {cells:List Int} (hl:bT (aE W) 1 hv (.slice a n c) cells) (ak:cells.length<=10000000) (kM:n=cells.length):hK bc 52 [hN b (.slice a n c)] W (.bool (decide (uD b cells))):=by
 subst kM;refine fV (ro:=[⟨di,.slice a cells.length c,cells⟩]) mixed bB [I b.1,I b.2.1,I b.2.2.1,I b.2.2.2.1,I b.2.2.2.2.1,I b.2.2.2.2.2,.slice a cells.length c] (.cons hl (.nil _)) ?_;unfold t;refine ew (v:= .bool (decide (okB b))) (λw _=>Yh.any w b) ?_;refine ox rfl ?_;refine i_ rfl (λaJ=>bx (eG λq=>aJ q.1)) λaJ=> ?_
 refine ew (v:= .bool (decide (¬ig b))) (λw _=>Pv.any w b) ?_;refine bR rfl (λh1=>Cw (b:=decide (b=xe)) (xs:=lB b) (ys:=lB xe) U U ((Yf b xe).trans (by rw[Yg])) (i_ rfl (λae=>bx (eG λq=>q.2.1.elim h1 ae)) λae=> ?_)) λh1=> ?_
 all_goals
  have aO:ig b\/b=xe:=by first|exact .inr ae|exact .inl (Classical.not_not.1 h1)
  refine ew (v:=I (dv b)) (λw _=>Py.any w b aJ) ?_;refine aN ?_;refine bR rfl (λar=> ?_) λar=>bx (eG λq=>ar q.2.2.1)
  refine aN ?_;refine bR rfl (λbm=> ?_) λbm=>bx (eG λq=>bm q.2.2.2.1)
  refine ew (v:= .bool (decide (0<=qj cells))) (λw hw=>Ym.any ((fU.ro (K:=di) (v:= .slice a cells.length c) (l:=cells) has).at hw) rfl ak) ?_;refine ox rfl ?_;exact bx (nO ⟨λh=>⟨aJ,aO,ar,bm,aj⟩,λh q=>by have:=h.2.2.2.2;omega⟩)
end Yn
def CP (b:bw) (cells:List Int) (table:List cc) (known:List Bool):Prop:=(kU table).2=0/\uD b cells/\(known.length=0\/known.length=cells.length)
instance (b:bw) (cells:List Int) (table:List cc) (known:List Bool):Decidable (CP b cells table known):=by unfold CP;infer_instance
def lD (b:bw) (cells:List Int) (table:List cc) (known:List Bool):Int:=if CP b cells table known then 0 else 1
theorem Yo {b:bw} {cells:List Int} {table:List cc} {known:List Bool} (aJ:(kU table).2=0) (h1:uD b cells) (ae:known.length=0\/known.length=cells.length):lD b cells table known=0:=aI ⟨aJ,h1,ae⟩
theorem ajr {b:bw} {cells:List Int} {table:List cc} {known:List Bool} (h:(kU table).2=0->uD b cells->¬(known.length=0\/known.length=cells.length)):lD b cells table known=1:=aG λq=>h q.1 q.2.1 q.2.2
namespace Yp
def t:a7:=
.c 51 [7] (.tuple ⟨[9,10]⟩) 2<|
.o (.bin .neq 35 10 (I 0)) 11 1 []<|
.bb 11 (
 .ret (I 1)) (
 .c 52 [.agg ⟨[0,1,2,3,4,5,6]⟩] 12 1<|
 .o (.un .not 12) 13 1 []<|
 .bb 13 (
  .ret (I 1)) (
  .o (.len #[30] 3 8) 14 1 [0,4]<|
  .o (.bin .neq 3 14 (I 0)) 15 1 []<|
  .bb 15 (
   .o (.len #[30] 3 8) 16 1 [0,4]<|
   .o (.len #[26] 3 6) 17 1 [0,3]<|
   .o (.bin .neq 3 16 17) 18 1 []<|
   .bb 18 (
    .ret (I 1)) (
    .ret (I 0))) (
   .ret (I 0))))
theorem bB:cZ Tryz.prog 27 {} [.agg ⟨[0,1,2,3,4,5,6]⟩,7,8] 9=some t:=dg az
theorem any (W:ao) {b:bw} {a:gp} {n c:Nat} {cells:List Int} (oz:bT (aE W) 1 hv (.slice a n c) cells) {nw:J} {table:List cc} (aF:bT (aE W) 8 gm nw table) {o2:J} {known:List Bool} (jr:bT (aE W) 1 hx o2 known) (bU:lP (aE W)) (ak:cells.length<=10000000) (kM:n=cells.length):hK bc 27 [hN b (.slice a n c),nw,o2] W (I (lD b cells table known)):=by
 subst kM;obtain⟨b2,cp,rfl⟩:=aF.slice;obtain⟨cr,c2,rfl⟩:=jr.slice;refine fV (ro:=[⟨di,.slice a cells.length c,cells⟩,⟨gg,.slice b2 table.length cp,table⟩]) mixed bB [I b.1,I b.2.1,I b.2.2.1,I b.2.2.2.1,I b.2.2.2.2.1,I b.2.2.2.2.2,.slice a cells.length c,.slice b2 table.length cp,.slice cr known.length c2] (.cons oz (.cons aF (.nil _))) ?_;unfold t;refine jV [I (kU table).1,I (kU table).2] (λw hw=>Ye.any w ((fU.ro (K:=gg) (v:= .slice b2 table.length cp) (l:=table) has).at hw) (bU.CO hw)) rfl ?_;refine aN ?_;have no:¬CP b cells table known->I 1=I (lD b cells table known):=λh=>by unfold lD;rw[aG h]
 have yes:CP b cells table known->I 0=I (lD b cells table known):=λh=>by unfold lD;rw[aI h]
 refine bR rfl (λaJ=>bx (no λq=>aJ q.1)) λaJ=> ?_
 replace aJ:=Decidable.not_not.1 aJ;refine ew (v:= .bool (decide (uD b cells))) (λw hw=>Yn.any w ((fU.ro (K:=di) (v:= .slice a cells.length c) (l:=cells) has).at hw) ak rfl) ?_;refine ox rfl ?_;refine i_ rfl (λh1=>bx (no λq=>h1 q.2.1)) λh1=> ?_
 refine aN ?_;refine bR rfl (λae=> ?_) λae=>bx (yes ⟨aJ,h1,.inl aj⟩)
 refine aN ?_;refine bR rfl (λar=>bx (no λq=>by have:=q.2.2;omega)) λar=> ?_
 exact bx (yes ⟨aJ,h1,.inr aj⟩)
end Yp
end AE
end
end
namespace AE
namespace Yq
noncomputable def body:Code:=(Tryz.f59.body).getD .skip
def N:Nat:=13
def b3:cC:={sl:=gb [(1,1),(0,0)],ms:=[],A:=start}
def hA:c0:=[(.dp 0,0),
 (.b7 74 0 0,0),
 (.bf 26 0,2)]
theorem bA:rJ 26 (at' 13 hA [] body b3)=some (2,1):=az
abbrev n0:=at' 13 hA [] body b3
def iM:List bS:=[]
def ia:a1:=gb [(4,0)]
def jv:a1:=mm 13 ia 10 26
theorem e1:d' (de n0) ia iM=some [(0,0)]:=az
def jw:iz:=(body,[],7)
def gJ:c0:=[(.dp 0,0),
 (.b7 74 0 0,0)]
theorem w_:oQ (hW 13 gJ [] jw (eg jv iM))=some (26,0,26):=az
abbrev q9:=hW 13 gJ [] jw {sl:=jv,ms:=[],A:=ff iM}
def n1:List bS:=[]
def k8:a1:=gb []
def iY:a1:=match gG 13 k8 none (.tuple ⟨[]⟩) with|some s=>s|none=> .nil
theorem nE:d' (de q9) k8 n1=some []:=az
def mj:iz:=(body,[],10)
theorem xb:kL Tryz.prog Tryz.f59 (hW 13 [] [] mj (eg iY n1))=some (.tuple ⟨[]⟩):=az
@[reducible] noncomputable def eL (bp:List Nat) (lg:gp) (lh:Nat) (x:List Nat) (kC:gp) (kD mo:Nat) (xa:Nat->J) (vK:J) (cT:List Nat:=[]) (a0:gp:=none) (bZ:Nat:=0):List J:=[nu mo 22,b8 kC x kD,b8 lg bp lh,xa 0,xa 1,xa 2,xa 3,xa 4,xa 5,xa 6,xa 7,xa 8,xa 9,xa 10,xa 11,xa 12,xa 13,xa 14,xa 15,xa 16,xa 17,xa 18,xa 19,xa 20,xa 21,vK,b8 a0 cT bZ]
theorem any (W:ao) {bp:List Nat} {lg:gp} {lh:Nat} {x:List Nat} {kC:gp} {kD mo:Nat} {xa:Nat->J} {vK:J} (xc:bY (aE W) [Cz lg bp lh,qN 1 oW (b8 kC x kD) x,nJ mo 76 [xa 0,xa 1,xa 2,xa 3,xa 4,xa 5,xa 6,xa 7,xa 8,xa 9,xa 10,xa 11,xa 12,xa 13,xa 14,xa 15,xa 16,xa 17,xa 18,xa 19,xa 20,xa 21,b8 lg bp lh,vK]]) (hlen:bp.length+x.length<=500000):Calls Tryz.prog 59 #[nu mo 22,b8 kC x kD] W λe w'=>(∃y:gp×Nat,e= .returned (.tuple #[])/\ef (aE W) [Cz lg bp lh,qN 1 oW (b8 kC x kD) x,nJ mo 76 [xa 0,xa 1,xa 2,xa 3,xa 4,xa 5,xa 6,xa 7,xa 8,xa 9,xa 10,xa 11,xa 12,xa 13,xa 14,xa 15,xa 16,xa 17,xa 18,xa 19,xa 20,xa 21,b8 lg bp lh,vK]] (aE w') [oT rQ 1 oW (.slice y.1 (bp++x).length y.2) (bp++x),qN 1 oW (b8 kC x kD) x,nJ mo IQ (List.set [xa 0,xa 1,xa 2,xa 3,xa 4,xa 5,xa 6,xa 7,xa 8,xa 9,xa 10,xa 11,xa 12,xa 13,xa 14,xa 15,xa 16,xa 17,xa 18,xa 19,xa 20,xa 21,b8 lg bp lh,vK] 22 (.slice y.1 (bp++x).length y.2))])/\cA 0 W w':=by
 refine Jq (eL bp lg lh x kC kD mo xa vK) body b3 N [aq 0,aq 1] Tryz.func59 λa al=> ?_
 letI:=gn al;have aH:=b6.start W _ xc;refine dG hA [] (ay ur (ay (sW 26 0 1) (ay (Fq 22 2 aH) cx))) cy ?_ al;obtain⟨cT,gL⟩:=kB (bp++x);have fX:cT.length=bp.length+x.length:=by rw[gL];simp
 refine M1 (l:=bp) (lx:=x) (l':=cT) (bC:=λuz uA=>(eL bp lg lh x kC kD mo xa vK cT uz uA)) (T:=(ek (b8 lg bp lh))) gL bA af0 af1 af2 af3 af4 af5 ck nL af6 e1 (jX jv 26) rfl (M4 U U (aH.kO 0 rfl)) (z1 U U λw hw=>((aH.red 1 rfl).arr nL).reads nL hw) (Eh (show bp.length+x.length<=1000000 by omega)) (show (bp.length+x.length)*NL<=140737488355328 by unfold NL;omega) (λ_ _ _=>mO) (λ_ _ _=>rfl) ?_;intro o0 a0 bZ o1 oy PV ja w al;have fH:=aH.mG 0 rfl (Ib o1 oy PV);replace fH:=fH.Pf;letI:=gn al;refine jG (jH jw) gJ [] (ay ur (ay (sW 26 0 1) cx)) cy ?_ al;refine Fx 22 [xa 0,xa 1,xa 2,xa 3,xa 4,xa 5,xa 6,xa 7,xa 8,xa 9,xa 10,xa 11,xa 12,xa 13,xa 14,xa 15,xa 16,xa 17,xa 18,xa 19,xa 20,xa 21,b8 a0 cT bZ,vK] (eL bp lg lh x kC kD mo xa vK cT a0 bZ) w_ nE (jX iY (.tuple ⟨[]⟩)) (fH.box 2 rfl) ?_;intro qe Ev xd ja w al;have mn:=fH.mG 2 rfl (yj Ev xd);replace mn:=mn.Pf;letI:=gn al;refine jG (jH mj) [] [] cx cy ?_ al;exact dX xb λw2 cO=>(by subst_vars;exact⟨(_,_),rfl,(mn.done cO)⟩)
end Yq
end AE
namespace AE
namespace Qe
noncomputable def body:Code:=(Tryz.f32.body).getD .skip
def N:Nat:=24
def b3:cC:={sl:=gb [(1,1),(0,0)],ms:=[],A:=start}
def hA:c0:=[(.dp 0,0),
 (.b7 76 0 11,26),
 (.bf 30 26,3),
 (.cm 30 3 1,27),
 (.bf 4 27,28),
 (.un .not 28,.bool false)]
theorem bA:kL Tryz.prog Tryz.f32 (at' 24 hA [] body b3)=some (.tuple ⟨[]⟩):=az
def gJ:c0:=[(.dp 0,0),
 (.b7 76 0 11,26),
 (.bf 30 26,3),
 (.cm 30 3 1,27),
 (.bf 4 27,28),
 (.un .not 28,.bool true)]
theorem e1:oQ (at' 24 gJ [] body b3)=some (4,27,(.bool true)):=az
abbrev n0:=at' 24 gJ [] body b3
def iM:List bS:=[]
def ia:a1:=gb [(1,1),(0,0)]
def jv:a1:=match gG 24 ia none (.tuple ⟨[]⟩) with|some s=>s|none=> .nil
theorem e2:d' (de n0) ia iM=some [(0,0),(1,1)]:=az
def jw:iz:=(body,[1,2,0],7)
def ld:c0:=[(.dp 0,0),
 (.b7 76 0 10,29)]
abbrev q9:=hW 24 ld [] jw {sl:=jv,ms:=[],A:=ff iM}
def n1:List bS:=[]
def k8:a1:=gb [(20,29)]
def iY:a1:=(bW.set 30 depth k8 22).getD .nil
theorem nE:Ey q9 0 22=some ([1],1,1):=az
theorem sy:d' (de q9) k8 n1=some [(29,29)]:=az
theorem xh:bW.set 30 depth k8 22=some iY:=az
theorem A1:qh ((B5 (eg iY n1) q9))=some (59,[29,30]):=az
abbrev AX:=(B5 {sl:=iY,ms:=[],A:=ff n1} q9)
def s5:List bS:=[]
def uC:a1:=gb []
def jO:a1:=mm 24 uC 23 (.tuple ⟨[]⟩)
theorem AW:d' (lS Tryz.prog AX) uC s5=some []:=az
def nQ:iz:=(body,[1,2,1],6)
theorem A2:kL Tryz.prog Tryz.f32 (hW 24 [] [] nQ (eg jO s5))=some (.tuple ⟨[]⟩):=az
@[reducible] noncomputable def eL (bp:List Nat) (lg:gp) (lh:Nat) (waits:List Bool) (qk:gp) (ql qm mo:Nat) (xa:Nat->J) (k:Nat) (g1:Nat:=0) (F5:List Nat:=[]) (mq:gp:=none) (mr:Nat:=0):List J:=[nu mo 0,I ((k:Nat):Int),b8 lg bp lh,.slice qk ql qm,xa 0,xa 1,xa 2,xa 3,xa 4,xa 5,xa 6,xa 7,xa 8,xa 9,xa 10,xa 11,xa 12,xa 13,xa 14,xa 15,xa 16,xa 17,xa 18,xa 19,xa 20,xa 21,nu mo 23,kt (.slice qk ql qm) (k*1),.bool (waits.jW (k)),nu mo 22,.slice (some ⟨g1,0,none⟩) 1 1,b8 mq F5 mr]
theorem any (W:ao) {bp:List Nat} {lg:gp} {lh:Nat} {waits:List Bool} {qk:gp} {ql qm mo:Nat} {xa:Nat->J} (xc:bY (aE W) [Cz lg bp lh,Fu qk ql qm waits,nJ mo 76 [xa 0,xa 1,xa 2,xa 3,xa 4,xa 5,xa 6,xa 7,xa 8,xa 9,xa 10,xa 11,xa 12,xa 13,xa 14,xa 15,xa 16,xa 17,xa 18,xa 19,xa 20,xa 21,b8 lg bp lh,.slice qk ql qm]]) (k:Nat) (ag:k<waits.length) (hlen:bp.length<=400000):Calls Tryz.prog 32 #[nu mo 0,I ((k:Nat):Int)] W λe w'=>(∃y:gp×Nat,e= .returned (.tuple #[])/\ef (aE W) [Cz lg bp lh,Fu qk ql qm waits,nJ mo 76 [xa 0,xa 1,xa 2,xa 3,xa 4,xa 5,xa 6,xa 7,xa 8,xa 9,xa 10,xa 11,xa 12,xa 13,xa 14,xa 15,xa 16,xa 17,xa 18,xa 19,xa 20,xa 21,b8 lg bp lh,.slice qk ql qm]] (aE w') [oT rQ 1 oW (.slice y.1 (lA bp waits k).length y.2) (lA bp waits k),jt mg 1 hx (.slice qk ql qm) (mi waits k),nJ mo IQ (List.set [xa 0,xa 1,xa 2,xa 3,xa 4,xa 5,xa 6,xa 7,xa 8,xa 9,xa 10,xa 11,xa 12,xa 13,xa 14,xa 15,xa 16,xa 17,xa 18,xa 19,xa 20,xa 21,b8 lg bp lh,.slice qk ql qm] 22 (.slice y.1 (lA bp waits k).length y.2))])/\cA 0 W w':=by
 refine Jq (eL bp lg lh waits qk ql qm mo xa k) body b3 N [aq 0,aq 1] Tryz.func32 λa al=> ?_
 letI:=gn al;have aH:=b6.start W _ xc;by_cases aJ:(waits.jW (k))=true
 ·refine dG hA [] (ay ur (ay (sW 30 23 1) (ay (Fq 23 2 aH) (ay (Fs ((aH.arr 1 rfl).arr mh) qc IK) (ay (Wk 0 ((aH.arr 1 rfl).arr mh) (AJ k) TK) (ay (aew U U aJ) cx)))))) cy ?_ al
  exact dX bA λw2 cO=>(by (rw[U0 ct,U2 ct];exact⟨(_,_),rfl,((aH.pick [0,1,2] rfl).done cO)⟩))
 ·refine dG gJ [] (ay ur (ay (sW 30 23 1) (ay (Fq 23 2 aH) (ay (Fs ((aH.arr 1 rfl).arr mh) qc IK) (ay (Wk 0 ((aH.arr 1 rfl).arr mh) (AJ k) TK) (ay (aex U U aJ) cx)))))) cy ?_ al
  obtain⟨ajs,gL⟩:=kB (waits.set k true);have fX:ajs.length=waits.length:=by rw[gL];exact List.length_set
  refine ah2 0 (eL bp lg lh waits qk ql qm mo xa k) gL e1 mh e2 (jX jv (.tuple ⟨[]⟩)) (aH.arr 1 rfl) (show k<waits.length by omega) ?_;intro o0 o1 oy ja w al;have fH:=aH.mG 1 rfl (Et o1 oy);replace fH:=fH.Pf;letI:=gn al;refine jG (jH jw) ld [] (ay ur (ay (sW 74 22 1) cx)) cy ?_ al;refine Na (enc:=oW) (xs:=[k]) (q:=30) (bC:=λxi=>(eL bp lg lh waits qk ql qm mo xa k xi)) nE nL rfl ck ck U U (hQ rfl) sy (λ_ _=>mO) xh (λ_=>rfl) ?_;intro qe g1 uX sx ajt xd jy;have mn:=fH.new (Nc uX ajt xd jy);letI:=gn al;obtain⟨F5,aju⟩:=kB (bp++[k]);refine sY (Y:=cE) (bC:=λc1=>(eL bp lg lh waits qk ql qm mo xa k g1 F5 c1.1 c1.2)) mn [0,3,2] (λc1=>[Jm _ _ _ c1.1 F5 c1.2,_,nJ _ _ [_,_,_,_,_,_,_,_,_,_,_,_,_,_,_,_,_,_,_,_,_,_,b8 c1.1 F5 c1.2,_]]) (λ_=>[]) A1 AW (jX jO (.tuple ⟨[]⟩)) (kN:=λw hw dQ hs=>by rw[aju];exact Yq.any (x:=[k]) (xa:=IS [xa 0,xa 1,xa 2,xa 3,xa 4,xa 5,xa 6,xa 7,xa 8,xa 9,xa 10,xa 11,xa 12,xa 13,xa 14,xa 15,xa 16,xa 17,xa 18,xa 19,xa 20,xa 21,b8 lg bp lh,.slice qk ql qm] 0) (vK:=IS [xa 0,xa 1,xa 2,xa 3,xa 4,xa 5,xa 6,xa 7,xa 8,xa 9,xa 10,xa 11,xa 12,xa 13,xa 14,xa 15,xa 16,xa 17,xa 18,xa 19,xa 20,xa 21,b8 lg bp lh,.slice qk ql qm] 23 0) _ hs (by simp only [List.length_cons,List.length_nil];omega)) (rest:= ?_);intro pw ⟨mq,mr⟩ s6 ja w al;replace s6:=s6.ahY;letI:=gn al;refine jG (jH nQ) [] [] cx cy ?_ al;exact dX A2 λw2 cO=>(by (subst_vars;rw[U1 ct,U3 ct];exact⟨(_,_),rfl,((s6.pick [0,1,2] rfl).done cO)⟩))
end Qe
end AE
namespace AE
section
variable [a6]
theorem JM {x y z r:J} {b:bw} {cells:List Int} {table:List cc} {known:List Bool} {a:Option Addr} {n c:Nat} {u v:J} (hp:ev [x,y,z]=true) (hr:aP r=true) (bj:e4 [x,y,z]=[hN b (.slice a n c),u,v]) (cd:aM r= .int .i64 (lD b cells table known))
  (ai:bT a6.dL 1 hv (.slice a n c) cells) (aF:bT a6.dL 8 gm u table) (ag:bT a6.dL 1 hx v known) (bU:lP a6.dL) (ak:cells.length<=10000000) (kM:n=cells.length):oe Tryz.prog (27,[x,y,z],r):=
 yd (a:= #[hN b (.slice a n c),u,v]) hp hr bj cd λw hw=>Yp.any w (ai.mono hw) (aF.mono hw) (ag.mono hw) (bU.mono hw) ak kM
end
theorem ajv (w:ao) {kC:Option Addr} {kD:Nat} (xc:bY (aE w) [qN 1 hx (.slice kC [true].length kD) [true]]) (n:Nat) (ak:n<=100000):
  Calls Tryz.prog 31 #[.slice kC [true].length kD,.int .i64 ((n:Nat):Int)] w λe w'=>(∃y:Option Addr×Nat,e= .returned (.slice y.1 (List.replicate n true).length y.2)/\ef (aE w) [qN 1 hx (.slice kC [true].length kD) [true]] (aE w') [qN 1 hx (.slice kC [true].length kD) [true],jt mg 1 hx (.slice y.1 (List.replicate n true).length y.2) (List.replicate n true)])/\cA 0 w w':=by
 have h:=Xg.any w xc n rfl ak;rw[kX];exact h
theorem Yr (n:Nat):iN n 0=List.replicate n t_:=by
 unfold iN;rfl
theorem Ys {n k:Nat} {g:List Nat} {w:List Bool} (ag:k<n) (aA:g=List.range k) (hw:w=iN n k):lA g w k=List.range (k+1)/\mi w k=iN n (k+1):=by
 subst aA hw;have h:(iN n k).getD k default=false:=by
  unfold iN;rw[c_,List.getElem?_append_right (by simp),kX,Nat.sub_self,List.getElem?_replicate,aI aj];rfl
 unfold lA mi;rw[h];refine⟨?_,?_⟩
 ·show List.range k++[k]=_
  rw[List.range_succ]
 ·show (iN n k).set k true=_
  unfold iN;rw[List.set_append_right _ _ (by simp),kX,Nat.sub_self];obtain⟨m,hm⟩:∃m,n-k=m+1:=⟨n-k-1,aj⟩;rw[hm,show n-(k+1)=m by omega,List.replicate_succ,List.set_cons_zero,List.replicate_succ',List.append_assoc];rfl
def pH (known:List Bool) (n:Nat):List Bool:=if known.length=0 then List.replicate n true else known
theorem Yt {known:List Bool} {n:Nat} (h:known.length=0):pH known n=List.replicate n true:=aI h
theorem Yu {known:List Bool} {n:Nat} (h:known.length≠0):pH known n=known:=aG h
def mP (b:bw) (cells:List Int) (table:List cc) (known:List Bool) (most:Int):Prop:=lD b cells table known=0/\1<=most/\most<=65536
instance (b:bw) (cells:List Int) (table:List cc) (known:List Bool) (most:Int):Decidable (mP b cells table known most):=by unfold mP;infer_instance
end AE
namespace AE
theorem Yv (W:ao) {g:Nat} {A:dM} {e:bJ} (h:bY (aE W) [fl g A e]) (aA:fw e.table e.b e.u):
  Calls Tryz.prog 42 #[bK g] W λx w'=>(∃aS:dM,x= .returned (.bool (gq e.table e.b e.u).1)/\ef (aE W) [fl g A e] (aE w') [fl g aS (s3 e)])/\cA 0 W w':=by
 refine(W6.any h.AO aA).mono λx w' ah=> ?_
 obtain⟨⟨aS,rfl,t⟩,hl⟩:=ah;exact⟨⟨aS,rfl,t.packed⟩,hl⟩
structure r6 (en e:bJ) (d:Nat):Prop where
 eq:e={en with u:=l3 en.table en.b d en.u}
 all:∀m,m<d->(gq en.table en.b (l3 en.table en.b m en.u)).1=true
 jW:fw e.table e.b e.u
 le:d+gI en.b e.u<=gI en.b en.u
theorem r6.zero {en:bJ} (h:fw en.table en.b en.u):r6 en en 0:=⟨rfl,λm hm=>absurd hm (Nat.not_lt_zero m),h,aj⟩
theorem r6.next {en e e':bJ} {d:Nat} (h:r6 en e d) (he:e'=s3 e) (hu:(gq e.table e.b e.u).1=true):r6 en e' (d+1)/\gI en.b e'.u<gI en.b e.u:=by
 subst he;obtain⟨lj,n2⟩:=h.jW.unit hu;have hle:=h.le;have aU:=h.eq;subst aU;obtain⟨mW,yH⟩:=aiu rfl h.all hu;have xj:gI en.b (gq en.table en.b (l3 en.table en.b d en.u)).2+1<=gI en.b (l3 en.table en.b d en.u):=n2;have amU:d+gI en.b (l3 en.table en.b d en.u)<=gI en.b en.u:=hle;have ajw:d+1+gI en.b (gq en.table en.b (l3 en.table en.b d en.u)).2<=gI en.b en.u:=by omega
 exact⟨⟨congrArg (λu=>({en with u:=u}:bJ)) mW,yH,lj,ajw⟩,xj⟩
theorem r6.last {en e e':bJ} {d f:Nat} (h:r6 en e d) (he:e'=s3 e) (hu:¬(gq e.table e.b e.u).1=true) (aO:d<=f):hy en.table en.b f en.u=(d,e'.u)/\e'={en with u:=e'.u}:=by
 have cl:(gq e.table e.b e.u).1=false:=by simpa using hu
 have fB:=(h.jW.done cl).1;have aU:=h.eq;subst he aU;have hb:=Ps d f en.u aO h.all (.inr cl);refine⟨?_,rfl⟩;rw[hb];exact congrArg (Prod.mk d) fB.symm
theorem r6.full {en e:bJ} {d:Nat} (h:r6 en e d):hy en.table en.b d en.u=(d,e.u)/\e={en with u:=e.u}:=by
 have aU:=h.eq;subst aU;exact⟨Ps d d en.u (bL _) h.all (.inl rfl),rfl⟩
end AE
section
noncomputable section
namespace AE
abbrev fm (g:Nat) (A:dM) (e:bJ):aw bc:= .any (fl g A e)
theorem Qf {L:List (aw bc)} {i:Nat} {r:aw bc} (h:L[i]? =some r):pick (bD L) [i]=[r.res]/\ju L.length [i]=true:=by
 refine⟨?_,?_⟩
 ·unfold pick
  rw[kf h];rfl
 ·have:=(List.getElem?_eq_some_iff.1 h).1
  show (Nat.blt i L.length&& !([]:List Nat).contains i&&true)=true;rw[show Nat.blt i L.length=true from Nat.ble_eq.mpr this];rfl
theorem Yw {α:Type 1} {L:List α} {i:Nat} {r:α} (h:L[i]? =some r):L.set i r=L:=by
 obtain⟨af,rfl⟩:=List.getElem?_eq_some_iff.1 h;exact List.set_getElem_self af
theorem h4.JN {B:Nat} {W:ao} {au:List b4} {L:List (aw bc)} (K:gE bc):h4 B W au L (L++[.arr K (.slice none 0 0) []]):=λM h=>by
 have:=h.new (JH M K.e K.k K.enc);unfold bD at this ⊢;rw[List.map_append];exact this
section
variable {B:Nat} {W:ao} {au:List b4} {ro:List (fk bc)} {post:J->List (aw bc)->Prop} {n:Nat} {env:List J} {L:List (aw bc)} {aL:List (eu bc)} {k:a7}
theorem F6 {vs:List J} {m:Nat} (dD:Type) (bj:dD->List J) (cd:dD->List (aw bc)) (eK:dD->Prop) (gD:dD->Nat) (im:dD) (aJ:fG env n vs=bj im) (hL:h4 B W au L (cd im)) (bg:eK im)
  (h:∀u,eK u->X B W au ro post (n+m) (ic (bj u) m env) (cd u) ((λdf L'=>∃u',eK u'/\gD u'<gD u/\df=bj u'/\h4 B W au L' (cd u'))::aL) k) (hm:∀u,(bj u).length=m:=by exact λ_=>rfl) (h1:∀u,eJ (bj u):=by exact λ_=>fL):X B W au ro post n env L aL (.loop vs m k):=⟨λak ho=>by
 refine .loop dD bj cd eK gD im hm h1 aJ hL bg λu hu=> ?_
 have e:ic (bj u) m env=(bj u).reverse++env:=by rw[wY,yD _ m (hm u)]
 have:=h u hu (by rw[e];simp [ak,hm u];omega) (by rw[e];exact qV (nM (h1 u)) ho);rw[e] at this
 exact this⟩
theorem uE {dD:Type} {bj:dD->List J} {cd:dD->List (aw bc)} {eK:dD->Prop} {gD:dD->Nat} {u:dD} {vs:List J} (u':dD) (ax:fG env n vs=bj u') (hL:h4 B W au L (cd u')) (bg:eK u') (wI:gD u'<gD u):
 X B W au ro post n env L ((λdf L'=>∃u',eK u'/\gD u'<gD u/\df=bj u'/\h4 B W au L' (cd u'))::aL) (.back vs):=⟨λ_ _=> .back ⟨u',bg,wI,ax,hL⟩⟩
variable {f:FuncId} {args aR:List J} {r:J} {m:Nat} {g:Nat} {A:dM} {e e':bJ}
theorem r7 {v:J} {L':dM->List (aw bc)} (i:Nat) (ai:∀w,ji W au ro L w->bY (aE w) (bD [fm g A e])->ey bc f aR w [fm g A e] dM (λ_=>v) λaS=>[fm g aS e'])
  (h:∀aS,X B W au ro post (n+1) (v::env) (L' aS) aL k) (hP:∀aS,nq L i (fm g A e) (fm g aS e') (L' aS):=by exact λ_=>fK) (h1:lr v=v:=by rfl) (hr:ex (v::env) (n+1) r=v:=by rfl) (ha:fG env n args=aR:=by rfl):X B W au ro post n env L aL (.call f args r 1 k):=by
 obtain⟨hi,fQ⟩:=Qf (hP A).get.1;exact kA (v:=λ_=>v) (N:=λaS=>[fm g aS e']) (dm:=[fm g A e]) (L':=L') [i] (λ_=>[v]) ai h (hr:=λ_=>hr) (hL:=λy=>by rw[(hP y).get.2];exact List.append_nil _) (hp:=hi) (hU:=fQ) (hl:=λ_=>bL _) (h1:=λ_=>⟨h1,trivial⟩) (ha:=ha)
theorem F7 {v:J} (i:Nat) (ai:∀w,ji W au ro L w->bY (aE w) (bD [fm g A e])->ey bc f aR w [fm g A e] Unit (λ_=>v) λ_=>[fm g A e])
  (h:X B W au ro post (n+1) (v::env) L aL k) (af:L[i]? =some (fm g A e):=by rfl) (h1:lr v=v:=by rfl) (hr:ex (v::env) (n+1) r=v:=by rfl) (ha:fG env n args=aR:=by rfl):X B W au ro post n env L aL (.call f args r 1 k):=by
 obtain⟨hi,fQ⟩:=Qf af;exact kA (v:=λ_=>v) (N:=λ_=>[fm g A e]) (dm:=[fm g A e]) (L':=λ_=>L) [i] (λ_=>[v]) ai (λ_=>h) (hr:=λ_=>hr) (hL:=λy=>by show L.set i _++[]=L;rw[Yw af,List.append_nil]) (hp:=hi) (hU:=fQ) (hl:=λ_=>bL _) (h1:=λ_=>⟨h1,trivial⟩) (ha:=ha)
theorem A3 {K:gE bc} {l:List K.α} {v:cE->J} {L':cE->List (aw bc)} (i:Nat) (vs:cE->List J) (ai:∀w,ji W au ro L w->bY (aE w) (bD [fm g A e])->ey bc f aR w [fm g A e] cE v λd=>[fm g A e,aw.arr K (.slice d.1 l.length d.2) l])
  (h:∀d,X B W au ro post (n+m) (ic (vs d) m env) (L' d) aL k) (af:L[i]? =some (fm g A e):=by rfl) (hP:∀d,oY L (aw.arr K (.slice d.1 l.length d.2) l) (L' d):=by exact λ_=>iy) (hr:∀y,ex (ic (vs y) m env) (n+m) r=v y:=by exact λ_=>rfl)
  (hm:∀y,(vs y).length=m:=by exact λ_=>rfl) (h1:∀y,eJ (vs y):=by exact λ_=>fL) (ha:fG env n args=aR:=by rfl):X B W au ro post n env L aL (.call f args r m k):=by
 obtain⟨hi,fQ⟩:=Qf af;exact kA (v:=v) (N:=λd=>[fm g A e,aw.arr K (.slice d.1 l.length d.2) l]) (dm:=[fm g A e]) (L':=L') [i] vs ai h (hr:=hr) (hL:=λd=>by
  rw[(hP d).eq];show L.set i _++_=_
  rw[Yw af]) (hp:=hi) (hU:=fQ) (hl:=λ_=>Nat.le_succ _) (hm:=hm) (h1:=h1) (ha:=ha)
theorem n7 {Y:Type} {R:Y->aw bc} {v:Y->J} {L':Y->List (aw bc)} (vs:Y->List J) (ai:∀w,ji W au ro L w->bY (aE w) (bD ([]:List (aw bc)))->ey bc f aR w [] Y v λy=>[R y])
  (h:∀y,X B W au ro post (n+m) (ic (vs y) m env) (L' y) aL k) (hP:∀y,oY L (R y) (L' y):=by exact λ_=>iy) (hr:∀y,ex (ic (vs y) m env) (n+m) r=v y:=by exact λ_=>rfl)
  (hm:∀y,(vs y).length=m:=by exact λ_=>rfl) (h1:∀y,eJ (vs y):=by exact λ_=>fL) (ha:fG env n args=aR:=by rfl):X B W au ro post n env L aL (.call f args r m k):=
 kA (v:=v) (N:=λy=>[R y]) (dm:=[]) (L':=L') [] vs ai h (hr:=hr) (hL:=λy=>(hP y).eq.symm) (hp:=rfl) (hU:=rfl) (hl:=λ_=>Nat.zero_le _) (hm:=hm) (h1:=h1) (ha:=ha)
theorem Qg {v:J} (vs:List J) (ai:∀w,ji W au ro L w->bY (aE w) (bD ([]:List (aw bc)))->ey bc f aR w [] Unit (λ_=>v) λ_=>[])
  (h:X B W au ro post (n+m) (ic vs m env) L aL k) (hr:ex (ic vs m env) (n+m) r=v:=by rfl) (hm:vs.length=m:=by rfl) (h1:eJ vs:=by exact fL) (ha:fG env n args=aR:=by rfl):X B W au ro post n env L aL (.call f args r m k):=
 kA (v:=λ_=>v) (N:=λ_=>[]) (dm:=[]) (L':=λ_=>L) [] (λ_=>vs) ai (λ_=>h) (hr:=λ_=>hr) (hL:=λ_=>List.append_nil L) (hp:=rfl) (hU:=rfl) (hl:=λ_=>Nat.zero_le _) (hm:=λ_=>hm) (h1:=λ_=>h1) (ha:=ha)
end
end AE
end
end
section
noncomputable section
namespace AE
namespace Yx
def t:a7:=
.loop [I 0] 1<|
.call 42 [0] 2 1<|
.bb 2 (
 .o (.bin .add 3 1 (I 1)) 3 1 []<|
 .back [3]) (
 .c4<|
 .ret 1)
theorem bB:cZ Tryz.prog 13 {iT:=[42]} [0] 1=some t:=dg az
theorem any {W:ao} {g:Nat} {A:dM} {en:bJ} (h:bY (aE W) [fl g A en]) (eE:fw en.table en.b en.u) (hr:en.u.reqs.length<=10000):ey bc 13 [bK g] W [fm g A en] dM (λ_=>I (((hy en.table en.b (gI en.b en.u) en.u).1:Nat):Int)) λaS=>[fm g aS {en with u:=(hy en.table en.b (gI en.b en.u) en.u).2}]:=by
 have xk:=eE.WG hr;refine g_ (ro:=[]) mixed bB [bK g] h dR.none ?_;unfold t;refine k_ (bJ×dM×Nat) (λy=>[I (y.2.2:Nat)]) (λy=>[fm g y.2.1 y.1]) (λy=>r6 en y.1 y.2.2) (λy=>gI en.b y.1.u) (en,A,0) U U (r6.zero eE) λy bg=> ?_
 have ajx:=bg.le;refine r7 0 (e':=s3 y.1) (v:= .bool (gq y.1.table y.1.b y.1.u).1) (λw _ aH=>Yv w aH bg.jW) λeD=> ?_
 refine um rfl (λq=> ?_) λq=> ?_
 ·refine aN ?_
  exact h5 (s3 y.1,eD,y.2.2+1) U U (by exact(bg.next rfl q).1) (by exact(bg.next rfl q).2)
 ·obtain⟨q1,aB⟩:=bg.last (f:=gI en.b en.u) rfl (by rw[q];exact Bool.false_ne_true) aj
  exact hV (bx ⟨eD,by rw[q1];rfl,by rw[q1,<-aB]⟩)
end Yx
namespace Yy
def t:a7:=
.loop [I 0] 1<|
.o (.bin .lss 3 2 1) 3 1 []<|
.bb 3 (
 .call 42 [0] 4 1<|
 .bb 4 (
  .o (.bin .add 3 2 (I 1)) 5 1 []<|
  .back [5]) (
  .c4<|
  .ret 2)) (
 .c4<|
 .ret 2)
theorem bB:cZ Tryz.prog 26 {iT:=[42]} [0,1] 2=some t:=dg az
theorem any {W:ao} {g:Nat} {A:dM} {en:bJ} (h:bY (aE W) [fl g A en]) (n:Int) (eE:fw en.table en.b en.u) (hr:en.u.reqs.length<=10000):ey bc 26 [bK g,I n] W [fm g A en] dM (λ_=>I (((hy en.table en.b n.toNat en.u).1:Nat):Int)) λaS=>[fm g aS {en with u:=(hy en.table en.b n.toNat en.u).2}]:=by
 have xk:=eE.WG hr;refine g_ (ro:=[]) mixed bB [bK g,I n] h dR.none ?_;unfold t;refine k_ (bJ×dM×Nat) (λy=>[I (y.2.2:Nat)]) (λy=>[fm g y.2.1 y.1]) (λy=>r6 en y.1 y.2.2/\y.2.2<=n.toNat) (λy=>gI en.b y.1.u) (en,A,0) U U ⟨r6.zero eE,Nat.zero_le _⟩ λy a_=> ?_
 obtain⟨bg,sA⟩:=a_;have ajx:=bg.le;refine aN ?_;refine bR rfl (λp=> ?_) λp=> ?_
 ·replace p:((y.2.2:Nat):Int)<n:=p
  refine r7 0 (e':=s3 y.1) (v:= .bool (gq y.1.table y.1.b y.1.u).1) (λw _ aH=>Yv w aH bg.jW) λeD=> ?_
  refine um rfl (λq=> ?_) λq=> ?_
  ·refine aN ?_
   exact h5 (s3 y.1,eD,y.2.2+1) U U (by exact⟨(bg.next rfl q).1,(show y.2.2+1<=n.toNat by omega)⟩) (by exact(bg.next rfl q).2)
  ·obtain⟨q1,aB⟩:=bg.last (f:=n.toNat) rfl (by rw[q];exact Bool.false_ne_true) aj
   exact hV (bx ⟨eD,by rw[q1];rfl,by rw[q1,<-aB]⟩)
 ·replace p:¬((y.2.2:Nat):Int)<n:=p
  obtain⟨q1,aB⟩:=bg.full;have a8:y.2.2=n.toNat:=by omega
  rw[a8] at q1;exact hV (bx ⟨y.2.1,by rw[q1,<-a8];rfl,by rw[q1,<-aB]⟩)
end Yy
theorem ey.ajy {W:ao} {f:FuncId} {args:List J} {g:Nat} {A:dM} {e:bJ} {v:J} (h:ey bc f args W (bI g A e) Unit (λ_=>v) λ_=>bI g A e):ey bc f args W [fm g A e] Unit (λ_=>v) λ_=>[fm g A e]:=
 h.mono λx w' ah=>by
   obtain⟨⟨y,rfl,t⟩,hl⟩:=ah;exact⟨⟨y,rfl,t.packed⟩,hl⟩
theorem ey.ES {W:ao} {f:FuncId} {args:List J} {g:Nat} {A:dM} {e:bJ} {v:cE->J} {r:cE->aw bc} (h:ey bc f args W (bI g A e) cE v λy=>bI g A e++[r y]):ey bc f args W [fm g A e] cE v λy=>[fm g A e,r y]:=
 h.mono λx w' ah=>by
   obtain⟨⟨y,rfl,t⟩,hl⟩:=ah;refine⟨⟨y,rfl,?_⟩,hl⟩;have c7:ef (aE W) (bD (bI g A e)) (aE w') (bD (bI g A e)++[(r y).res]):=by
    have e:bD (bI g A e++[r y])=bD (bI g A e)++[(r y).res]:=List.map_append ..
    rwa [e] at t
   exact c7.ES
section
variable {W:ao} {g:Nat} {A:dM} {e:bJ}
namespace Yz
def t:a7:=
.o (.dp 0) 1 1 []<|
.o (.b7 76 1 8) 2 1 [20,72,1]<|
.call 39 [2] 3 1<|
.bb 3 (
 .o (.dp 0) 4 1 []<|
 .o (.b7 76 4 10) 5 1 [22,74,1]<|
 .call 40 [5] 6 1<|
 .bb 6 (
  .o (.dp 0) 7 1 []<|
  .o (.b7 76 7 7) 8 1 [19,69,1]<|
  .call 41 [8] 9 1<|
  .ret 9) (
  .ret (.bool false))) (
 .ret (.bool false))
theorem bB:cZ Tryz.prog 12 {iT:=[39,40,41]} [0] 1=some t:=dg az
theorem any (aH:bY (aE W) (bD (bI g A e))):ey bc 12 [bK g] W (bI g A e) Unit (λ_=> .bool (decide (e.u.bz.length=0/\e.u.bp.length=0/\e.u.reqs.length=0))) λ_=>bI g A e:=by
 refine g_ (ro:=[]) mixed bB [bK g] aH dR.none ?_;unfold t;refine aN ?_;refine pE (dm:=bI g A e) (λ_=>[.bool (decide (((e.u.bz.length:Nat):Int)=0))]) (λw _ aH=>JI.any aH) λ_=> ?_
 refine bR rfl (λaJ=> ?_) λaJ=>bx ⟨(),eG aj,rfl⟩
 refine aN ?_;refine pE (dm:=bI g A e) (λ_=>[.bool (decide (((e.u.bp.length:Nat):Int)=0))]) (λw _ aH=>PQ.any aH) λ_=> ?_
 refine bR rfl (λh1=> ?_) λh1=>bx ⟨(),eG aj,rfl⟩
 refine aN ?_;refine pE (dm:=bI g A e) (λ_=>[.bool (decide (((e.u.reqs.length:Nat):Int)=0))]) (λw _ aH=>PR.any aH) λ_=> ?_
 exact bx ⟨(),FJ aj,rfl⟩
end Yz
namespace YA
def t:a7:=
.o (.dp 0) 1 1 []<|
.o (.b7 76 1 5) 2 1 [17,51,1]<|
.o (.bf 51 2) 3 1 [1]<|
.call 43 [3] 4 1<|
.ret 4
theorem bB:cZ Tryz.prog 17 {iT:=[43]} [0] 1=some t:=dg az
theorem any (aH:bY (aE W) (bD (bI g A e))) (ak:e.u.av.length<=100000):ey bc 17 [bK g] W (bI g A e) cE (λy=> .slice y.1 e.u.av.length y.2) λy=>bI g A e++[aw.arr ez (.slice y.1 e.u.av.length y.2) e.u.av]:=by
 refine g_ (ro:=[]) mixed bB [bK g] aH dR.none ?_;unfold t;refine aN ?_;refine n7 (R:=λy:cE=>aw.arr ez (.slice y.1 e.u.av.length y.2) e.u.av) (v:=λy=> .slice y.1 e.u.av.length y.2) (λy=>[.slice y.1 e.u.av.length y.2]) (λw hw aH=>U6 aH (W9.any _ ((fU.arr (K:=ez) (v:=du A.l) (l:=e.u.av) has).at hw) ak)) λy=> ?_
 exact bx ⟨y,rfl,rfl⟩
end YA
namespace YB
def t:a7:=
.o (.dp 0) 1 1 []<|
.o (.b7 76 1 2) 2 1 [14,30,1]<|
.o (.bf 30 2) 3 1 [1]<|
.call 30 [3] 4 1<|
.ret 4
theorem bB:cZ Tryz.prog 15 {iT:=[30]} [0] 1=some t:=dg az
theorem any (aH:bY (aE W) (bD (bI g A e))) (ak:e.known.length<=100000):ey bc 15 [bK g] W (bI g A e) cE (λy=> .slice y.1 e.known.length y.2) λy=>bI g A e++[aw.arr c9 (.slice y.1 e.known.length y.2) e.known]:=by
 refine g_ (ro:=[]) mixed bB [bK g] aH dR.none ?_;unfold t;refine aN ?_;refine n7 (R:=λy:cE=>aw.arr c9 (.slice y.1 e.known.length y.2) e.known) (v:=λy=> .slice y.1 e.known.length y.2) (λy=>[.slice y.1 e.known.length y.2]) (λw hw aH=>U6 aH (FQ.any _ ((fU.arr (K:=c9) (v:=du A.k) (l:=e.known) has).at hw) ak)) λy=> ?_
 exact bx ⟨y,rfl,rfl⟩
end YB
namespace YC
def t:a7:=
.o (.dp 0) 1 1 []<|
.o (.b7 76 1 0) 2 1 [0,28,7]<|
.o (.bf 28 2) (.agg ⟨fC 7 3⟩) 7 [7]<|
.call 28 [.agg ⟨[3,4,5,6,7,8,9]⟩,.agg ⟨[I 0,I 0,I 0,I 0,I 0,I 0,.slice none 0 0]⟩] (.agg ⟨[10,11,12,13,14,15,16]⟩) 7<|
.ret (.agg ⟨[10,11,12,13,14,15,16]⟩)
theorem bB:cZ Tryz.prog 14 {iT:=[28]} [0] 1=some t:=dg az
theorem any (aH:bY (aE W) (bD (bI g A e))) (ak:e.cells.length<=100000):ey bc 14 [bK g] W (bI g A e) cE (λy=>hN e.b (.slice y.1 e.cells.length y.2)) λy=>bI g A e++[aw.arr di (.slice y.1 e.cells.length y.2) e.cells]:=by
 refine g_ (ro:=[]) mixed bB [bK g] aH dR.none ?_;unfold t;refine aN ?_;refine mN (c:=Xd e.b (du A.c)) rfl has U U fL ?_;refine n7 (R:=λy:cE=>aw.arr di (.slice y.1 e.cells.length y.2) e.cells) (v:=λy=>hN e.b (.slice y.1 e.cells.length y.2)) (λy=>Xd e.b (.slice y.1 e.cells.length y.2)) (λw hw aH=>W1 (F:=hN e.b) aH (JK.any _ ((fU.arr (K:=di) (v:=du A.c) (l:=e.cells) has).at hw) ak)) λy=> ?_
 exact bx ⟨y,rfl,rfl⟩
end YC
end
end AE
end
end
namespace AE
theorem ajz {b:bw} {p:dc} (h:cX p b):0<(dv b).toNat:=by
 unfold cX at h;have aO:ig b:=by unfold ig;omega
 unfold dv;rw[vy aO];dsimp only;have h1:0<(b.2.2.2.1-b.1)*(b.2.2.2.2.1-b.2.1):=Int.mul_pos aj aj;have ae:0<(b.2.2.2.1-b.1)*(b.2.2.2.2.1-b.2.1)*(b.2.2.2.2.2-b.2.2.1):=Int.mul_pos h1 aj;omega
theorem s9 {b:bw} {p:dc} (h:cX p b):bV b p<(dv b).toNat:=by
 have:=Fz (b:=b) (k:=0) (sh:=List.replicate (dv b).toNat false) (by rw[kX];exact ajz h) kX p
 rwa [kX] at this
def acc (b:bw) (most:Int) (p:dc) (n:Nat):Prop:=cX p b/\¬most<=((n:Nat):Int)
instance (b:bw) (most:Int) (p:dc) (n:Nat):Decidable (acc b most p n):=by unfold acc;infer_instance
def iB (b:bw) (most:Int) (p:dc) (reqs:List iv):Int:=if cX p b then (if most<=((reqs.length:Nat):Int) then 16 else 0) else 1
def yU (b:bw) (most:Int) (p:dc) (reqs:List iv) (x:iv):List iv:=if acc b most p reqs.length then reqs++[x] else reqs
def yV {α:Type} (b:bw) (most:Int) (p:dc) (reqs:List iv) (l:List α) (v:α):List α:=if acc b most p reqs.length then l.set (bV b p) v else l
variable {α:Type} {b:bw} {most:Int} {p:dc} {reqs:List iv} {x:iv} {l:List α} {v:α}
end AE
section
noncomputable section
namespace AE
namespace YD
def t:a7:=
.o (.bf 34 2) 3 1 [1]<|
.o (.dp 3) 4 1 []<|
.o (.b7 76 4 0) 5 1 [0,28,7]<|
.o (.b7 28 5 1) 6 1 [6,26,1]<|
.o (.bf 26 6) 7 1 [1]<|
.o (.bf 3 1) 8 1 [1]<|
.o (.cm 26 7 0) 9 1 [0,3,1]<|
.st 3 9 8<|
.ret (.tuple ⟨[]⟩)
theorem bB:cZ Tryz.prog 49 {} [0,1,2] 3=some t:=dg az
theorem any {W:ao} {g gc dn:Nat} {A:dM} {e:bJ} {c:Int} (aH:bY (aE W) (bD (bI g A e++[aw.box gc nY [I c],aw.box dn fj [bK g]]))) (k:Nat) (ag:k<e.cells.length):
  ey bc 49 [I (k:Nat),bK gc,bK dn] W (bI g A e++[aw.box gc nY [I c],aw.box dn fj [bK g]]) Unit (λ_=> .tuple #[]) λ_=>bI g A {e with cells:=e.cells.set k c}++[aw.box gc nY [I c],aw.box dn fj [bK g]]:=by
 refine g_ (ro:=[]) mixed bB [I (k:Nat),bK gc,bK dn] aH dR.none ?_;unfold t;refine aN ?_;refine uo (K:=di) (l:=e.cells) (j:=k) c U U fK rfl (λ_ _=>rfl) ?_;exact bx ⟨(),rfl,rfl⟩
end YD
namespace YE
def t:a7:=
.o (.bf 34 2) 3 1 [1]<|
.o (.dp 3) 4 1 []<|
.o (.b7 76 4 2) 5 1 [14,30,1]<|
.o (.bf 30 5) 6 1 [1]<|
.o (.bf 4 1) 7 1 [1]<|
.o (.cm 30 6 0) 8 1 [0,4,1]<|
.st 4 8 7<|
.ret (.tuple ⟨[]⟩)
theorem bB:cZ Tryz.prog 50 {} [0,1,2] 3=some t:=dg az
theorem any {W:ao} {g gc dn:Nat} {A:dM} {e:bJ} {c:Bool} (aH:bY (aE W) (bD (bI g A e++[aw.box gc mg [.bool c],aw.box dn fj [bK g]]))) (k:Nat) (ag:k<e.known.length):
  ey bc 50 [I (k:Nat),bK gc,bK dn] W (bI g A e++[aw.box gc mg [.bool c],aw.box dn fj [bK g]]) Unit (λ_=> .tuple #[]) λ_=>bI g A {e with known:=e.known.set k c}++[aw.box gc mg [.bool c],aw.box dn fj [bK g]]:=by
 refine g_ (ro:=[]) mixed bB [I (k:Nat),bK gc,bK dn] aH dR.none ?_;unfold t;refine aN ?_;refine uo (K:=c9) (l:=e.known) (j:=k) c U U fK rfl (λ_ _=>rfl) ?_;exact bx ⟨(),rfl,rfl⟩
end YE
def vL (e:bJ) (p:dc) (e1:bJ):bJ:=if acc e.b e.most p e.u.reqs.length then {e1 with u:={e1.u with reqs:=e1.u.reqs++[(bV e.b p,e1.cells.getD (bV e.b p) default,e1.known.getD (bV e.b p) default)]}} else e
namespace F8
def t (f:FuncId):a7:=
.o (.dp 0) 6 1 []<|
.o (.b7 76 6 0) 7 1 [0,28,7]<|
.o (.b7 28 7 0) 8 1 [0,25,6]<|
.o (.bf 25 8) (.agg ⟨fC 6 9⟩) 6 [6]<|
.c 57 [.agg ⟨[9,10,11,12,13,14]⟩,.agg ⟨[1,2,3]⟩] 15 1<|
.o (.bin .lss 3 15 (I 0)) 16 1 []<|
.bb 16 (
 .ret (I 1)) (
 .o (.dp 0) 17 1 []<|
 .o (.b7 76 17 7) 18 1 [19,69,1]<|
 .o (.b7 69 18 0) 19 1 [0,67,1]<|
 .o (.bf 67 19) 20 1 [1]<|
 .o (.len #[67] 3 20) 21 1 [0,89]<|
 .o (.b7 76 17 6) 22 1 [18,3,1]<|
 .o (.bf 3 22) 23 1 [1]<|
 .o (.bin .geq 3 21 23) 24 1 []<|
 .bb 24 (
  .ret (I 16)) (
  .call f [15,4,5] (.tuple ⟨[]⟩) 0<|
  .o (.dp 0) 25 1 []<|
  .o (.b7 76 25 7) 26 1 [19,69,1]<|
  .o (.b7 76 25 0) 27 1 [0,28,7]<|
  .o (.b7 28 27 1) 28 1 [6,26,1]<|
  .o (.bf 26 28) 29 1 [1]<|
  .o (.cm 26 29 15) 30 1 [0,3,1]<|
  .o (.bf 3 30) 31 1 [1]<|
  .o (.b7 76 25 2) 32 1 [14,30,1]<|
  .o (.bf 30 32) 33 1 [1]<|
  .o (.cm 30 33 15) 34 1 [0,4,1]<|
  .o (.bf 4 34) 35 1 [1]<|
  .rU [15,31,35] 1 1<|
  .call 84 [26,36] (.tuple ⟨[]⟩) 0<|
  .ret (I 0)))
theorem any {f:FuncId} {h:yy} (aA:cZ bc 48 h [0,.agg ⟨[1,2,3]⟩,.func (.func f) #[] ⟨[4,5]⟩] 6=some (t f)) {W:ao} {g gc dn:Nat} {A:dM} {e e1:bJ} {ty:aK} {k5:List J} (p:dc) (ad:okB e.b) (hl:e1.cells.length=(dv e.b).toNat) (ag:e1.known.length=e1.cells.length) (hr:e1.u.reqs.length<=400000) (ko:∀w,cX p e.b->bY (aE w) (bD (bI g A e++[aw.box gc ty k5,aw.box dn fj [bK g]]))->ey bc f [I (bV e.b p:Nat),bK gc,bK dn] w (bI g A e++[aw.box gc ty k5,aw.box dn fj [bK g]]) Unit (λ_=> .tuple #[]) λ_=>bI g A e1++[aw.box gc ty k5,aw.box dn fj [bK g]])
  (aH:bY (aE W) (bD (bI g A e++[aw.box gc ty k5,aw.box dn fj [bK g]]))) (bt:cX p e.b->bV e.b p<(dv e.b).toNat):
  ey bc 48 [bK g,P.val p,.func (.func f) #[] ⟨[bK gc,bK dn]⟩] W (bI g A e++[aw.box gc ty k5,aw.box dn fj [bK g]]) cE (λ_=>I (iB e.b e.most p e.u.reqs)) λy=>bI g {A with q:=y} (vL e p e1)++[aw.box gc ty k5,aw.box dn fj [bK g]]:=by
 refine g_ (ro:=[]) mixed aA [bK g,I p.1,I p.2.1,I p.2.2,bK gc,bK dn] aH dR.none ?_;unfold t;refine aN ?_;refine mN (c:=lB e.b) rfl has U U fL ?_;by_cases hp:cX p e.b
 ·have aU:=bt hp
  refine ew (v:=I (bV e.b p:Nat)) (λw _=>by rw[<-w8 ad hp];exact FK.any w e.b p ad) ?_;refine aN ?_;refine bR rfl (λh=>absurd h aj) λ_=> ?_
  refine aN ?_;refine bR rfl (λhm=> ?_) λhm=> ?_
  ·refine bx ⟨A.q,?_,?_⟩
   ·unfold iB
    rw[aI hp,aI hm];rfl
   ·unfold vL
    rw[aG (λq=>q.2 hm)]
  ·refine kA (dm:=bI g A e++[aw.box gc ty k5,aw.box dn fj [bK g]]) (N:=λ(_:Unit)=>bI g A e1++[aw.box gc ty k5,aw.box dn fj [bK g]]) (v:=λ_=> .tuple #[]) (L':=λ_=>bI g A e1++[aw.box gc ty k5,aw.box dn fj [bK g]]) [0,1,2,3,4,5,6,7,8,9,10,11,12,13] (λ_=>[]) (λw _ aH=>ko w hp aH) (λ_=> ?_) (hL:=λ_=>Fo (n:=14) U U)
   refine aN ?_;refine O8 vD [(bV e.b p,e1.cells.getD (bV e.b p) default,e1.known.getD (bV e.b p) default)] rfl (λ_=>iy) λjz=> ?_
   refine kA (dm:=bI g A e1++[aw.red vD (.slice (some ⟨jz,0,none⟩) 1 1) [(bV e.b p,e1.cells.getD (bV e.b p) default,e1.known.getD (bV e.b p) default)]]) (L':=λy=>bI g {A with q:=y} {e1 with u:={e1.u with reqs:=e1.u.reqs++[(bV e.b p,e1.cells.getD (bV e.b p) default,e1.known.getD (bV e.b p) default)]}}++[aw.box gc ty k5,aw.box dn fj [bK g],aw.red vD (.slice (some ⟨jz,0,none⟩) 1 1) [(bV e.b p,e1.cells.getD (bV e.b p) default,e1.known.getD (bV e.b p) default)]]) [0,1,2,3,4,5,6,7,8,9,10,11,14] (λ_=>[]) (λw _ aH=>WM.any aH (by show e1.u.reqs.length+1<=_;omega)) (λy=> ?_);refine la (L':=bI g {A with q:=y} {e1 with u:={e1.u with reqs:=e1.u.reqs++[(bV e.b p,e1.cells.getD (bV e.b p) default,e1.known.getD (bV e.b p) default)]}}++[aw.box gc ty k5,aw.box dn fj [bK g]]) (λM aV=>by exact aV.pick [0,1,2,3,4,5,6,7,8,9,10,11,12,13] rfl) ⟨y,?_,?_⟩
   ·unfold iB
    rw[aI hp,aG hm];rfl
   ·unfold vL
    rw[aI ⟨hp,hm⟩]
 ·refine ew (v:=I (-1)) (λw _=>by rw[<-AK hp];exact FK.any w e.b p ad) ?_
  refine aN ?_;refine bR rfl (λ_=> ?_) λh=>absurd ck h
  refine bx ⟨A.q,?_,?_⟩
  ·unfold iB
   rw[aG hp];rfl
  ·unfold vL
   rw[aG (λq=>hp q.1)]
end F8
end AE
end
end
section
noncomputable section
namespace AE
def kV (c:Int):Prop:=0<=c/\c<256
instance (c:Int):Decidable (kV c):=by unfold kV;infer_instance
def jZ (b:bw) (most:Int) (p:dc) (reqs:List iv) (c:Int):Int:=if kV c then iB b most p reqs else 1
def CQ (b:bw) (most:Int) (p:dc) (reqs:List iv) (c:Int) (x:iv):List iv:=if kV c then yU b most p reqs x else reqs
def CR {α:Type} (b:bw) (most:Int) (p:dc) (reqs:List iv) (c:Int) (l:List α) (v:α):List α:=if kV c then yV b most p reqs l v else l
def iC (e:bJ) (p:dc) (c:Int):bJ:={e with u:={e.u with reqs:=CQ e.b e.most p e.u.reqs c (bV e.b p,c,e.known.getD (bV e.b p) default)},cells:=CR e.b e.most p e.u.reqs c e.cells c}
def jx (e:bJ) (p:dc) (k:Bool):bJ:={e with u:={e.u with reqs:=yU e.b e.most p e.u.reqs (bV e.b p,e.cells.getD (bV e.b p) default,k)},known:=yV e.b e.most p e.u.reqs e.known k}
theorem ajA {e:bJ} {p:dc} {c:Int} (ai:kV c) (hl:e.cells.length=(dv e.b).toNat):vL e p {e with cells:=e.cells.set (bV e.b p) c}=iC e p c:=by
 unfold vL iC CQ CR yU yV;rw[aI ai,aI ai];by_cases ha:acc e.b e.most p e.u.reqs.length
 ·rw[aI ha,aI ha,aI ha]
  have:(e.cells.set (bV e.b p) c).getD (bV e.b p) default=c:=by rw[Am (by rw[hl];exact s9 ha.1),aI rfl]
  rw[this]
 ·rw[aG ha,aG ha,aG ha]
theorem ajB {e:bJ} {p:dc} {c:Int} (ai:¬kV c):iC e p c=e:=by
 unfold iC CQ CR;rw[aG ai,aG ai]
theorem ajC {e:bJ} {p:dc} {k:Bool} (hl:e.known.length=(dv e.b).toNat):vL e p {e with known:=e.known.set (bV e.b p) k}=jx e p k:=by
 unfold vL jx yU yV;by_cases ha:acc e.b e.most p e.u.reqs.length
 ·rw[aI ha,aI ha,aI ha]
  have:(e.known.set (bV e.b p) k).getD (bV e.b p) default=k:=by rw[Am (by rw[hl];exact s9 ha.1),aI rfl]
  rw[this]
 ·rw[aG ha,aG ha,aG ha]
namespace YF
theorem Qh:cZ bc 48 {iT:=[49,84]} [0,.agg ⟨[1,2,3]⟩,.func (.func 49) #[] ⟨[4,5]⟩] 6=some (F8.t 49):=dg az
def t:a7:=
.nn 34 0<|
.nn 3 4<|
.o (.bf 3 6) 7 1 [1]<|
.o (.bin .lss 3 7 (I 0)) 8 1 []<|
.bb 8 (
 .ret (I 1)) (
 .o (.bf 3 6) 9 1 [1]<|
 .o (.bin .geq 3 9 (I 256)) 10 1 []<|
 .bb 10 (
  .ret (I 1)) (
  .o (.bf 34 5) 11 1 [1]<|
  .call 48 [11,.agg ⟨[1,2,3]⟩,.func (.func 49) ⟨[]⟩ ⟨[6,5]⟩] 12 1<|
  .ret 12))
theorem bB:cZ Tryz.prog 24 {iT:=[48],marks:=[34,3]} [0,.agg ⟨[1,2,3]⟩,4] 5=some t:=dg az
theorem any {W:ao} {g:Nat} {A:dM} {e:bJ} (aH:bY (aE W) (bD (bI g A e))) (p:dc) (c:Int) (ad:okB e.b) (hl:e.cells.length=(dv e.b).toNat) (ag:e.known.length=e.cells.length) (hr:e.u.reqs.length<=400000):
  ey bc 24 [bK g,P.val p,I c] W (bI g A e) dM (λ_=>I (jZ e.b e.most p e.u.reqs c)) λaS=>bI g aS (iC e p c):=by
 refine g_ (ro:=[]) mixed bB [bK g,I p.1,I p.2.1,I p.2.2,I c] aH dR.none ?_;unfold t;refine vr (cs:=[bK g]) U U (λb=>iy) λdn=> ?_
 refine vr (cs:=[I c]) U U (λb=>iy) λgc=> ?_
 refine aN ?_;have bad:¬kV c->∃y:dM,I 1=I (jZ e.b e.most p e.u.reqs c)/\bI g A e=bI g y (iC e p c):=λai=>⟨A,by unfold jZ;rw[aG ai],by rw[ajB ai]⟩
 refine bR rfl (λaJ=> ?_) λaJ=> ?_
 ·exact la (L':=bI g A e) (λM aV=>aV.pre) (bad λq=>by have:=q.1;omega)
 ·refine aN ?_
  refine bR rfl (λh1=> ?_) λh1=> ?_
  ·exact la (L':=bI g A e) (λM aV=>aV.pre) (bad λq=>by have:=q.2;omega)
  ·have ai:kV c:=⟨aj,aj⟩
   refine aN ?_;refine kA (dm:=bI g A e++[aw.box gc nY [I c],aw.box dn fj [bK g]]) (N:=λ(y:cE)=>bI g {A with q:=y} (vL e p {e with cells:=e.cells.set (bV e.b p) c})++[aw.box gc nY [I c],aw.box dn fj [bK g]]) (v:=λ_=>I (iB e.b e.most p e.u.reqs)) (L':=λy=>bI g {A with q:=y} (iC e p c)++[aw.box dn fj [bK g],aw.box gc nY [I c]]) [0,1,2,3,4,5,6,7,8,9,10,11,13,12] (λ_=>[I (iB e.b e.most p e.u.reqs)]) (λw _ aH=>F8.any Qh (e:=e) (e1:={e with cells:=e.cells.set (bV e.b p) c}) p ad (by show (e.cells.set (bV e.b p) c).length=_;rw[List.length_set];exact hl) (by show _=(e.cells.set (bV e.b p) c).length;rw[List.length_set];exact ag) hr (λw hp aH=>YD.any aH (bV e.b p) (by rw[hl];exact s9 hp)) aH s9) (λy=> ?_) (hL:=λy=>by rw[ajA ai hl];rfl);refine la (L':=bI g {A with q:=y} (iC e p c)) (λM aV=>aV.pre) ⟨{A with q:=y},?_,rfl⟩;unfold jZ;rw[aI ai];rfl
end YF
namespace YG
theorem Qh:cZ bc 48 {iT:=[50,84]} [0,.agg ⟨[1,2,3]⟩,.func (.func 50) #[] ⟨[4,5]⟩] 6=some (F8.t 50):=dg az
def t:a7:=
.nn 34 0<|
.nn 4 4<|
.o (.bf 34 5) 7 1 [1]<|
.call 48 [7,.agg ⟨[1,2,3]⟩,.func (.func 50) ⟨[]⟩ ⟨[6,5]⟩] 8 1<|
.ret 8
theorem bB:cZ Tryz.prog 25 {iT:=[48],marks:=[34,4]} [0,.agg ⟨[1,2,3]⟩,4] 5=some t:=dg az
theorem any {W:ao} {g:Nat} {A:dM} {e:bJ} (aH:bY (aE W) (bD (bI g A e))) (p:dc) (k:Bool) (ad:okB e.b) (hl:e.cells.length=(dv e.b).toNat) (ag:e.known.length=e.cells.length) (hr:e.u.reqs.length<=400000):
  ey bc 25 [bK g,P.val p,.bool k] W (bI g A e) dM (λ_=>I (iB e.b e.most p e.u.reqs)) λaS=>bI g aS (jx e p k):=by
 refine g_ (ro:=[]) mixed bB [bK g,I p.1,I p.2.1,I p.2.2,.bool k] aH dR.none ?_;unfold t;refine vr (cs:=[bK g]) U U (λb=>iy) λdn=> ?_
 refine vr (cs:=[.bool k]) U U (λb=>iy) λgc=> ?_
 refine aN ?_;refine kA (dm:=bI g A e++[aw.box gc mg [.bool k],aw.box dn fj [bK g]]) (N:=λ(y:cE)=>bI g {A with q:=y} (vL e p {e with known:=e.known.set (bV e.b p) k})++[aw.box gc mg [.bool k],aw.box dn fj [bK g]]) (v:=λ_=>I (iB e.b e.most p e.u.reqs)) (L':=λy=>bI g {A with q:=y} (jx e p k)++[aw.box dn fj [bK g],aw.box gc mg [.bool k]]) [0,1,2,3,4,5,6,7,8,9,10,11,13,12] (λ_=>[I (iB e.b e.most p e.u.reqs)]) (λw _ aH=>F8.any Qh (e:=e) (e1:={e with known:=e.known.set (bV e.b p) k}) p ad hl (by show (e.known.set (bV e.b p) k).length=_;rw[List.length_set];exact ag) hr (λw hp aH=>YE.any aH (bV e.b p) (by rw[ag,hl];exact s9 hp)) aH s9) (λy=> ?_) (hL:=λy=>by rw[ajC (ag.trans hl)];rfl);exact la (L':=bI g {A with q:=y} (jx e p k)) (λM aV=>aV.pre) ⟨{A with q:=y},rfl,rfl⟩
end YG
end AE
end
end
namespace AE
namespace YH
noncomputable def body:Code:=(Tryz.f7.body).getD .skip
def N:Nat:=75
noncomputable abbrev eh:=kL Tryz.prog Tryz.f7
def b3:cC:={sl:=gb [(3,2),(2,1),(1,0),(0,.agg ⟨[3,4,5,6,7,8,9]⟩)],ms:=[],A:=start}
def hA:c0:=[(.e5 (I 76),I 76),
 (.bin .neq 35 10 (I 0),.bool false),
 (.bin .lss 3 2 (I 1),.bool true)]
def AV:fM:=[(27,[.agg ⟨[3,4,5,6,7,8,9]⟩,0,1],10)]
theorem bA:eh (at' 75 hA AV body b3)=some (.tuple ⟨[.pointer none,I 1]⟩):=az
def gJ:c0:=[(.e5 (I 76),I 76),
 (.bin .neq 35 10 (I 0),.bool false),
 (.bin .lss 3 2 (I 1),.bool false),
 (.bin .gtr 3 2 (I 65536),.bool true)]
def s4:fM:=[(27,[.agg ⟨[3,4,5,6,7,8,9]⟩,0,1],10)]
theorem e1:eh (at' 75 gJ s4 body b3)=some (.tuple ⟨[.pointer none,I 1]⟩):=az
def ld:c0:=[(.e5 (I 76),I 76),
 (.bin .neq 35 10 (I 0),.bool false),
 (.bin .lss 3 2 (I 1),.bool false),
 (.bin .gtr 3 2 (I 65536),.bool false),
 (.len #[26] 3 9,11)]
def yQ:fM:=[(27,[.agg ⟨[3,4,5,6,7,8,9]⟩,0,1],10)]
abbrev j9:=at' 75 ld yQ body b3
theorem e2:EG Tryz.prog 75 13 [2,5,7,9,12] j9 2=some (28,[.agg ⟨[3,4,5,6,7,8,9]⟩,.agg ⟨[I 0,I 0,I 0,I 0,I 0,I 0,.slice none 0 0]⟩]):=az
theorem fI:EG Tryz.prog 75 13 [2,5,7,9,12] j9 5=some (28,[.agg ⟨[3,4,5,6,7,8,9]⟩,.agg ⟨[I 0,I 0,I 0,I 0,I 0,I 0,.slice none 0 0]⟩]):=az
theorem nH:EG Tryz.prog 75 13 [2,5,7,9,12] j9 7=some (29,[0]):=az
theorem yR:Ix Tryz.prog 75 13 [2,5,7,9,12] j9 9=some (51,11):=az
theorem w_:Ix Tryz.prog 75 13 [2,5,7,9,12] j9 12=some (30,11):=az
def iM:List bS:=[]
def ia:a1:=gb [(39,2),(10,11),(9,I 0),(8,.pointer none),(2,1)]
theorem nE:(EE Tryz.prog 75 13 [2,5,7,9,12] j9).isSome=true:=az
theorem sy:d' (EF Tryz.prog 75 13 [2,5,7,9,12] j9) ia iM=some [(2,2),(1,1),(11,11)]:=az
def ID:a1:=match B8 75 (lu j9) [(2,.agg ⟨[aq 3,aq 4,aq 5,aq 6,aq 7,aq 8,aq 12]⟩),(5,.agg ⟨[aq 3,aq 4,aq 5,aq 6,aq 7,aq 8,aq 13]⟩),(7,aq 14),(9,aq 15),(12,aq 16)] ia with|some s=>s|none=> .nil
theorem xh:B8 75 (lu j9) [(2,.agg ⟨[3,4,5,6,7,8,12]⟩),(5,.agg ⟨[3,4,5,6,7,8,13]⟩),(7,14),(9,15),(12,16)] ia=some ID:=az
def ih:c0:=[(.e5 (I 76),I 76)]
theorem A1:H8 (Wg 75 ih [] (Nk 13 j9) (lu j9) (hk j9) (eg ID iM))=some (76,(.agg ⟨[3,4,5,6,7,8,12,3,4,5,6,7,8,13,.slice none 0 0,.slice none 0 0,14,15,2,.slice none 0 0,.slice none 0 0,.slice none 0 0,.slice none 0 0,16]⟩)):=az
abbrev q9:=Wg 75 ih [] (Nk 13 j9) (lu j9) (hk j9) {sl:=ID,ms:=[],A:=ff iM}
def n1:List bS:=[]
def k8:a1:=gb [(10,11),(9,I 0),(8,.pointer none),(2,1)]
def iY:a1:=mm 75 k8 43 17
theorem FX:d' (de q9) k8 n1=some [(1,1),(11,11)]:=az
def mj:iz:=(body,[1,1,1,0],15)
theorem FR:qh (hW 75 ih [] mj (eg iY n1))=some (30,[1]):=az
abbrev AX:=hW 75 ih [] mj {sl:=iY,ms:=[],A:=ff n1}
def s5:List bS:=[]
def uC:a1:=gb [(44,17),(11,17),(10,11),(9,I 0),(8,.pointer none),(2,1)]
def jO:a1:=mm 75 uC 46 22
theorem F2:d' (lS Tryz.prog AX) uC s5=some [(17,17),(1,1),(17,17),(11,11)]:=az
def nQ:iz:=(body,[1,1,1,1,0],3)
def lf:c0:=[(.e5 (I 76),I 76),
 (.dp 17,17),
 (.b7 76 17 2,23)]
theorem P8:oQ (hW 75 lf [] nQ (eg jO s5))=some (30,23,22):=az
abbrev Qi:=hW 75 lf [] nQ {sl:=jO,ms:=[],A:=ff s5}
def A4:List bS:=[]
def F9:a1:=gb [(11,17),(10,11),(9,I 0),(8,.pointer none),(2,1)]
def qb:a1:=match gG 75 F9 none (.tuple ⟨[]⟩) with|some s=>s|none=> .nil
theorem P9:d' (de Qi) F9 A4=some [(17,17),(1,1),(11,11)]:=az
def yW:iz:=(body,[1,1,1,1,0],6)
def lC:c0:=[(.e5 (I 76),I 76),
 (.len #[30] 3 1,24),
 (.bin .eql 3 24 (I 0),.bool true)]
abbrev JO:=hW 75 lC [] yW {sl:=qb,ms:=[],A:=ff A4}
def Qj:List bS:=[]
def Qk:a1:=gb [(54,11),(52,17),(11,17),(10,11),(9,I 0),(8,.pointer none)]
def Ao:a1:=(bW.set 25 depth Qk 53).getD .nil
theorem F3:Ey JO 0 53=some ([.bool true],1,1):=az
theorem Qa:d' (de JO) Qk Qj=some [(17,17),(17,17),(11,11),(11,11)]:=az
theorem Qb:bW.set 25 depth Qk 53=some Ao:=az
theorem Qc:qh ((B5 (eg Ao Qj) JO))=some (31,[25,11]):=az
abbrev ajD:=(B5 {sl:=Ao,ms:=[],A:=ff Qj} JO)
def Ql:List bS:=[]
def YI:a1:=gb [(52,17),(11,17),(10,11),(9,I 0),(8,.pointer none)]
def Qm:a1:=mm 75 YI 55 26
theorem Qn:d' (lS Tryz.prog ajD) YI Ql=some [(17,17),(17,17),(11,11)]:=az
def Qo:iz:=(body,[1,1,1,1,1,0,1,2],4)
theorem ajE:oQ (hW 75 lf [] Qo (eg Qm Ql))=some (30,23,26):=az
abbrev ajF:=hW 75 lf [] Qo {sl:=Qm,ms:=[],A:=ff Ql}
def Qp:List bS:=[]
def YJ:a1:=gb [(11,17),(10,11),(9,I 0),(8,.pointer none)]
def Qq:a1:=match gG 75 YJ none (.tuple ⟨[]⟩) with|some s=>s|none=> .nil
theorem ajG:d' (de ajF) YJ Qp=some [(17,17),(11,11)]:=az
def Qr:iz:=(body,[1,1,1,1,1,0,1,2],7)
def r5:c0:=[(.e5 (I 76),I 76),
 (.dp 17,17),
 (.b7 76 17 2,23),
 (.bf 30 23,26)]
theorem ajH:qh (hW 75 r5 [] Qr (eg Qq Qp))=some (30,[26]):=az
abbrev ajI:=hW 75 r5 [] Qr {sl:=Qq,ms:=[],A:=ff Qp}
def Qs:List bS:=[]
def YK:a1:=gb [(58,17),(11,17),(10,11),(9,I 0),(8,.pointer none)]
def Qt:a1:=mm 75 YK 63 27
theorem ajJ:d' (lS Tryz.prog ajI) YK Qs=some [(17,17),(11,11),(17,17)]:=az
def Qu:iz:=(body,[1,1,1,1,1,1,0],6)
def s8:c0:=[(.e5 (I 76),I 76),
 (.dp 17,17),
 (.b7 76 17 3,28)]
theorem ajK:oQ (hW 75 s8 [] Qu (eg Qt Qs))=some (30,28,27):=az
abbrev ajL:=hW 75 s8 [] Qu {sl:=Qt,ms:=[],A:=ff Qs}
def YL:List bS:=[]
def YM:a1:=gb [(11,17),(10,11),(9,I 0),(8,.pointer none)]
def YN:a1:=match gG 75 YM none (.tuple ⟨[]⟩) with|some s=>s|none=> .nil
theorem ajM:d' (de ajL) YM YL=some [(17,17),(11,11)]:=az
def YO:iz:=(body,[1,1,1,1,1,1,0],9)
def n3:List bS:=[]
def n4:a1:=gb [(67,29),(66,11),(11,17),(9,I 0),(8,.pointer none)]
abbrev uB:=hW 75 ih [] YO {sl:=YN,ms:=[],A:=ff YL}
theorem ajN:ya n4 n3 uB=some [(17,17),(I 0,29),(11,11)]:=az
def n5:Code:=H9 body [1,1,1,1,1,1,1,0,1,4]
def vH:List fu:=tT body [1,1,1,1,1,1,1,0,1,4] []
theorem ajO:wB uB=n5:=az
theorem ajP:hk uB=vH:=az
def xg:c0:=[(.e5 (I 76),I 76),
 (.bin .lss 3 29 11,.bool true)]
theorem ajQ:qh (at' 75 xg [] n5 (eg n4 n3))=some (32,[17,29]):=az
abbrev ajR:=at' 75 xg [] n5 (eg n4 n3)
def YP:List bS:=[]
def YQ:a1:=gb [(67,29),(66,11),(11,17),(9,I 0),(8,.pointer none)]
def PX:a1:=mm 75 YQ 72 (.tuple ⟨[]⟩)
theorem ajS:d' (lS Tryz.prog ajR) YQ YP=some [(17,17),(29,29),(11,11)]:=az
def YR:iz:=(n5,[1,1,0,4,1],3)
def yS:c0:=[(.e5 (I 76),I 76),
 (.bin .add 3 29 (I 1),32)]
theorem ajT:zV n4 n3 (hW 75 yS [] YR (eg PX YP))=some [(17,17),(32,29),(11,11)]:=az
def yT:c0:=[(.e5 (I 76),I 76),
 (.bin .lss 3 29 11,.bool false)]
theorem ajU:eh (AH 75 ih [] vH (at' 75 yT [] n5 (eg n4 n3)))=some (.tuple ⟨[17,I 0]⟩):=az
def CM:c0:=[(.e5 (I 76),I 76),
 (.len #[30] 3 1,24),
 (.bin .eql 3 24 (I 0),.bool false),
 (.dp 17,17),
 (.b7 76 17 2,23),
 (.bf 30 23,22)]
theorem ajV:qh (hW 75 CM [] yW (eg qb A4))=some (30,[22]):=az
abbrev ajW:=hW 75 CM [] yW {sl:=qb,ms:=[],A:=ff A4}
def Qv:List bS:=[]
def YS:a1:=gb [(58,17),(11,17),(10,11),(9,I 0),(8,.pointer none)]
def Qw:a1:=mm 75 YS 63 33
theorem ajX:d' (lS Tryz.prog ajW) YS Qv=some [(17,17),(11,11),(17,17)]:=az
def Qx:iz:=(body,[1,1,1,1,1,1,0],6)
theorem ajY:oQ (hW 75 s8 [] Qx (eg Qw Qv))=some (30,28,33):=az
abbrev ajZ:=hW 75 s8 [] Qx {sl:=Qw,ms:=[],A:=ff Qv}
def YT:List bS:=[]
def YU:a1:=gb [(11,17),(10,11),(9,I 0),(8,.pointer none)]
def YV:a1:=match gG 75 YU none (.tuple ⟨[]⟩) with|some s=>s|none=> .nil
theorem aj0:d' (de ajZ) YU YT=some [(17,17),(11,11)]:=az
def YW:iz:=(body,[1,1,1,1,1,1,0],9)
def F':List bS:=[]
def F_:a1:=gb [(67,34),(66,11),(11,17),(9,I 0),(8,.pointer none)]
abbrev Qy:=hW 75 ih [] YW {sl:=YV,ms:=[],A:=ff YT}
theorem aj1:ya F_ F' Qy=some [(17,17),(I 0,34),(11,11)]:=az
def Ga:Code:=H9 body [1,1,1,1,1,1,1,0,1,4]
def YX:List fu:=tT body [1,1,1,1,1,1,1,0,1,4] []
theorem aj2:wB Qy=Ga:=az
theorem aj3:hk Qy=YX:=az
def CN:c0:=[(.e5 (I 76),I 76),
 (.bin .lss 3 34 11,.bool true)]
theorem aj4:qh (at' 75 CN [] Ga (eg F_ F'))=some (32,[17,34]):=az
abbrev aj5:=at' 75 CN [] Ga (eg F_ F')
def YY:List bS:=[]
def Hw:a1:=gb [(67,34),(66,11),(11,17),(9,I 0),(8,.pointer none)]
def YZ:a1:=mm 75 Hw 72 (.tuple ⟨[]⟩)
theorem aj6:d' (lS Tryz.prog aj5) Hw YY=some [(17,17),(34,34),(11,11)]:=az
def Y0:iz:=(Ga,[1,1,0,4,1],3)
def FY:c0:=[(.e5 (I 76),I 76),
 (.bin .add 3 34 (I 1),37)]
theorem aj7:zV F_ F' (hW 75 FY [] Y0 (eg YZ YY))=some [(17,17),(37,34),(11,11)]:=az
def FZ:c0:=[(.e5 (I 76),I 76),
 (.bin .lss 3 34 11,.bool false)]
theorem aj8:eh (AH 75 ih [] YX (at' 75 FZ [] Ga (eg F_ F')))=some (.tuple ⟨[17,I 0]⟩):=az
def F0:c0:=[(.e5 (I 76),I 76),
 (.bin .neq 35 10 (I 0),.bool true)]
def F1:fM:=[(27,[.agg ⟨[3,4,5,6,7,8,9]⟩,0,1],10)]
theorem aj9:eh (at' 75 F0 F1 body b3)=some (.tuple ⟨[.pointer none,I 1]⟩):=az
@[reducible] noncomputable def eL (cells:List Int) (ij:gp) (hO ik:Nat) (table:List cc) (oA:gp) (oB:Nat) (known:List Bool) (oC:gp) (oD:Nat) (most:Int) (b:bw) (s':List Nat:=[]) (xl:gp:=none) (xm:Nat:=0) (nx:Nat:=0) (s_:List Nat:=[]) (xn:gp:=none) (xo:Nat:=0) (ny:Nat:=0) (jl:gp:=none) (jm:Nat:=0) (j0:gp:=none) (j1:Nat:=0) (j2:gp:=none) (j3:Nat:=0) (iV:List bq:=[]) (j4:gp:=none) (j5:Nat:=0) (iD:List Bool:=[]) (j6:gp:=none) (j7:Nat:=0) (g1:Nat:=0) (mu:List Bool:=[]) (mq:gp:=none) (mr:Nat:=0) (g4:Nat:=0) (qn:List Bool:=[]) (ta:gp:=none) (tc:Nat:=0) (uF:List Bool:=[]) (xp:gp:=none) (xq:Nat:=0) (CS:List Nat:=[]) (Qz:gp:=none) (QA:Nat:=0) (uG:List Bool:=[]) (xr:gp:=none) (xt:Nat:=0) (CT:List Nat:=[]) (QB:gp:=none) (QC:Nat:=0):List J:=[b8 oA table oB,b8 oC known oD,I most,I b.1,I b.2.1,I b.2.2.1,I b.2.2.2.1,I b.2.2.2.2.1,I b.2.2.2.2.2,.slice ij hO ik,I (lD b cells table known),I ((cells.length:Nat):Int),b8 jl cells jm,b8 j0 cells j1,b8 j2 table j3,b8 j4 iV j5,b8 j6 iD j7,nu g1 0,.slice none ([]:List iv).length 0,.slice none (([]:List au)).length 0,.slice none ((([]:List Nat))).length 0,.slice none (((([]:List Nat)))).length 0,b8 mq mu mr,nu g1 14,I ((known.length:Nat):Int),.slice (some ⟨g4,0,none⟩) 1 1,b8 ta qn tc,b8 xp uF xq,nu g1 15,I ((nx:Nat):Int),b8 xl s' xm,b8 Qz CS QA,I ((nx+1:Nat):Int),b8 xr uG xt,I ((ny:Nat):Int),b8 xn s_ xo,b8 QB CT QC,I ((ny+1:Nat):Int)]
theorem any (W:ao) {b:bw} {ij:gp} {hO ik:Nat} {cells:List Int} (oz:bT (aE W) 1 hv (.slice ij hO ik) cells) {nw:J} {table:List cc} (aF:bT (aE W) 8 gm nw table) {o2:J} {known:List Bool} (jr:bT (aE W) 1 hx o2 known) (most:Int) (bU:lP (aE W)) (ak:cells.length<=10000) (kM:hO=cells.length) (mH:known.length<=100000) (xk:table.length<=100000):Calls Tryz.prog 7 #[.agg ⟨[I b.1,I b.2.1,I b.2.2.1,I b.2.2.2.1,I b.2.2.2.2.1,I b.2.2.2.2.2,.slice ij hO ik]⟩,nw,o2,I most] W λe w'=>(if mP b cells table known most then (∃(g:Nat) (y:cE×qi×qi×qi×qi×qi×qi×qi),e= .returned (.tuple ⟨[nu g 0,I 0]⟩)/\ef (aE W) [] (aE w') [oT Ce 3 wK (.slice none 0 0) [],oT Cf 5 kx (.slice none 0 0) [],jt rQ 1 oW (.slice none 0 0) [],oT rQ 1 oW (.slice y.1.1 (List.range cells.length).length y.1.2) (List.range cells.length),jt mg 1 hx (.slice y.2.1.1 y.2.1.2.1 y.2.1.2.2) (iN cells.length cells.length),jt vo 4 ch (.slice y.2.2.1.1 y.2.2.1.2.1 y.2.2.1.2.2) (List.replicate cells.length yv),Wl y.2.2.2.1.1 y.2.2.2.1.2.1 y.2.2.2.1.2.2 cells,ahV y.2.2.2.2.1.1 y.2.2.2.2.1.2.1 y.2.2.2.2.1.2.2 table,jt mg 1 hx (.slice y.2.2.2.2.2.1.1 y.2.2.2.2.2.1.2.1 y.2.2.2.2.2.1.2.2) (pH known cells.length),Wl y.2.2.2.2.2.2.1.1 y.2.2.2.2.2.2.1.2.1 y.2.2.2.2.2.2.1.2.2 cells,jt mg 1 hx (.slice y.2.2.2.2.2.2.2.1 y.2.2.2.2.2.2.2.2.1 y.2.2.2.2.2.2.2.2.2) (pH known cells.length),nJ g IQ [I b.1,I b.2.1,I b.2.2.1,I b.2.2.2.1,I b.2.2.2.2.1,I b.2.2.2.2.2,.slice y.2.2.2.2.2.2.1.1 y.2.2.2.2.2.2.1.2.1 y.2.2.2.2.2.2.1.2.2,I b.1,I b.2.1,I b.2.2.1,I b.2.2.2.1,I b.2.2.2.2.1,I b.2.2.2.2.2,.slice y.2.2.2.1.1 y.2.2.2.1.2.1 y.2.2.2.1.2.2,.slice y.2.2.2.2.2.2.2.1 y.2.2.2.2.2.2.2.2.1 y.2.2.2.2.2.2.2.2.2,.slice y.2.2.2.2.2.1.1 y.2.2.2.2.2.1.2.1 y.2.2.2.2.2.1.2.2,.slice y.2.2.2.2.1.1 y.2.2.2.2.1.2.1 y.2.2.2.2.1.2.2,.slice y.2.2.1.1 y.2.2.1.2.1 y.2.2.1.2.2,I most,.slice none 0 0,.slice none 0 0,.slice none 0 0,.slice y.1.1 (List.range cells.length).length y.1.2,.slice y.2.1.1 y.2.1.2.1 y.2.1.2.2]]) else e= .returned (.tuple ⟨[.pointer none,I 1]⟩))/\cA W.heap.size W w':=by
 obtain⟨oA,oB,rfl⟩:=aF.slice;obtain⟨oC,oD,rfl⟩:=jr.slice;refine uv (eL cells ij hO ik table oA oB known oC oD most b) body b3 N [.agg ⟨[aq 3,aq 4,aq 5,aq 6,aq 7,aq 8,aq 9]⟩,aq 0,aq 1,aq 2] Tryz.func7 λa al=> ?_
 letI:=gn al;have aH:=b6.MX W;by_cases aJ:(lD b cells table known)=0
 ·by_cases h1:most<1
  ·refine dG hA AV (ay (lv _) (ay Fp (ay dA cx))) (ej (JM U U U U oz (aF.mono aH.ext) (jr.mono aH.ext) bU aj kM) cy) ?_ al
   exact dX bA λw2 cO=>(by (rw[aG (λq:mP b cells table known most=>by have q1:=q.1;have aB:=q.2.1;have b_:=q.2.2;omega)];rfl))
  ·by_cases ae:65536<most
   ·refine dG gJ s4 (ay (lv _) (ay Fp (ay b0 (ay dA cx)))) (ej (JM U U U U oz (aF.mono aH.ext) (jr.mono aH.ext) bU aj kM) cy) ?_ al
    exact dX e1 λw2 cO=>(by (rw[aG (λq:mP b cells table known most=>by have q1:=q.1;have aB:=q.2.1;have b_:=q.2.2;omega)];rfl))
   ·refine dG ld yQ (ay (lv _) (ay Fp (ay b0 (ay b0 (ay (sX (oz.mono aH.ext) H2) cx))))) (ej (JM U U U U oz (aF.mono aH.ext) (jr.mono aH.ext) bU aj kM) cy) ?_ al
    obtain⟨iV,JP⟩:=kB (List.replicate cells.length yv);have amV:iV.length=cells.length:=by rw[JP];exact kX
    obtain⟨iD,JQ⟩:=kB (List.replicate cells.length t_);have amW:iD.length=cells.length:=by rw[JQ];exact kX
    refine afo (Y:=cE×cE×cE×cE×cE) (bC:=λc1=>(eL cells ij hO ik table oA oB known oC oD most b [] none 0 0 [] none 0 0 c1.1.1 c1.1.2 c1.2.1.1 c1.2.1.2 c1.2.2.1.1 c1.2.2.1.2 iV c1.2.2.2.1.1 c1.2.2.2.1.2 iD c1.2.2.2.2.1 c1.2.2.2.2.2)) (m:=13) (g':=[(2,.agg ⟨[aq 3,aq 4,aq 5,aq 6,aq 7,aq 8,aq 12]⟩),(5,.agg ⟨[aq 3,aq 4,aq 5,aq 6,aq 7,aq 8,aq 13]⟩),(7,aq 14),(9,aq 15),(12,aq 16)]) (R:=λi c1=>bif Nat.beq i 2 then w3 c1.1 cells c1.2 else bif Nat.beq i 5 then w3 c1.1 cells c1.2 else bif Nat.beq i 7 then Jo c1.1 table c1.2 else bif Nat.beq i 9 then Jn c1.1 iV c1.2 else bif Nat.beq i 12 then vu c1.1 iD c1.2 else ua []) (rv:=λi c1=>bif Nat.beq i 2 then .agg ⟨[I b.1,I b.2.1,I b.2.2.1,I b.2.2.2.1,I b.2.2.2.2.1,I b.2.2.2.2.2,b8 c1.1 cells c1.2]⟩ else bif Nat.beq i 5 then .agg ⟨[I b.1,I b.2.1,I b.2.2.1,I b.2.2.2.1,I b.2.2.2.2.1,I b.2.2.2.2.2,b8 c1.1 cells c1.2]⟩ else bif Nat.beq i 7 then b8 c1.1 table c1.2 else bif Nat.beq i 9 then b8 c1.1 iV c1.2 else bif Nat.beq i 12 then b8 c1.1 iD c1.2 else .bool false) (pr:=λi c1=>bif Nat.beq i 2 then c1.1 else bif Nat.beq i 5 then c1.2.1 else bif Nat.beq i 7 then c1.2.2.1 else bif Nat.beq i 9 then c1.2.2.2.1 else bif Nat.beq i 12 then c1.2.2.2.2 else (none,0)) (mk:=λys=>(ys 2,ys 5,ys 7,ys 9,ys 12)) mixed nE ck (p_ (vn.arr (F:=λGb=> .agg ⟨[I b.1,I b.2.1,I b.2.2.1,I b.2.2.2.1,I b.2.2.2.2.1,I b.2.2.2.2.2,Gb]⟩) (l:=cells) e2 rfl λw hw dQ=>JK.any _ ((oz.mono aH.ext).mono hw) aj) (p_ (vn.arr (F:=λGb=> .agg ⟨[I b.1,I b.2.1,I b.2.2.1,I b.2.2.2.1,I b.2.2.2.2.1,I b.2.2.2.2.2,Gb]⟩) (l:=cells) fI rfl λw hw dQ=>JK.any _ ((oz.mono aH.ext).mono hw) aj) (p_ (vn.arr (F:=λGb=>Gb) (l:=table) nH rfl λw hw dQ=>Xa.any _ ((aF.mono aH.ext).mono hw) xk) (p_ (vn.Ux (n:=cells.length) (zr:=yv) (l':=iV) JP yR IN NM NN NO NP rfl NQ rfl (by rfl) aj (by unfold IP;omega) aj) (p_ (vn.Ux (n:=cells.length) (zr:=t_) (l':=iD) JQ w_ qc NG NH NI NJ rfl mh rfl (by rfl) aj (by unfold EP;omega) aj) Nq))))) (λys=>(p_ rfl (p_ rfl (p_ rfl (p_ rfl (p_ rfl Nq)))))) sy xh rfl (λc1 M'=>(p_ rfl (p_ rfl (p_ rfl (p_ rfl (p_ rfl Nq)))))) (λ_ _=>mO) ?_;intro⟨⟨jl,jm⟩,⟨j0,j1⟩,⟨j2,j3⟩,⟨j4,j5⟩,⟨j6,j7⟩⟩ o0 w9 ja w al;have fH:=aH.put (L':=[]) (N:=[w3 jl cells jm,w3 j0 cells j1,Jo j2 table j3,Jn j4 iV j5,vu j6 iD j7]) [] U U w9;replace fH:=fH.ahZ;letI:=gn al;refine Mr (F:=ih) (T:=[]) (bk:=1000) (d:=10) mixed (ay (lv _) cx) cy ?_ al;refine T9 (u:= .agg ⟨[I b.1,I b.2.1,I b.2.2.1,I b.2.2.2.1,I b.2.2.2.2.1,I b.2.2.2.2.2,b8 jl cells jm,I b.1,I b.2.1,I b.2.2.1,I b.2.2.2.1,I b.2.2.2.2.1,I b.2.2.2.2.2,b8 j0 cells j1,.slice none 0 0,.slice none 0 0,b8 j2 table j3,b8 j4 iV j5,I most,.slice none 0 0,.slice none 0 0,.slice none 0 0,.slice none 0 0,b8 j6 iD j7]⟩) (cs:=[I b.1,I b.2.1,I b.2.2.1,I b.2.2.2.1,I b.2.2.2.2.1,I b.2.2.2.2.2,b8 jl cells jm,I b.1,I b.2.1,I b.2.2.1,I b.2.2.2.1,I b.2.2.2.2.1,I b.2.2.2.2.2,b8 j0 cells j1,.slice none 0 0,.slice none 0 0,b8 j2 table j3,b8 j4 iV j5,I most,.slice none 0 0,.slice none 0 0,.slice none 0 0,.slice none 0 0,b8 j6 iD j7]) (bC:=λxi=>(eL cells ij hO ik table oA oB known oC oD most b [] none 0 0 [] none 0 0 jl jm j0 j1 j2 j3 iV j4 j5 iD j6 j7 xi)) A1 U U U FX (jX iY 17) rfl (λ_ xi=>mO) (λ_ _=>rfl) ?_;intro qe g1 jy Ev xd ja w al;have mn:=fH.new (MY Ev jy xd);replace mn:=mn.new (PN qe Ce 3 wK);replace mn:=mn.new (PN qe Cf 5 kx);replace mn:=mn.new (JH qe rQ 1 oW);replace mn:=mn.new (PN qe rQ 1 oW);replace mn:=mn.ah0;letI:=gn al;refine jG (jH mj) ih [] (ay (lv _) cx) cy ?_ al;obtain⟨mu,QD⟩:=kB (known);refine sY (Y:=cE) (bC:=λc1=>(eL cells ij hO ik table oA oB known oC oD most b [] none 0 0 [] none 0 0 jl jm j0 j1 j2 j3 iV j4 j5 iD j6 j7 g1 mu c1.1 c1.2)) mn [] (λc1=>[]) (λc1=>[vu c1.1 mu c1.2]) FR F2 (jX jO 22) (kN:=λw hw dQ hs=>by rw[QD];exact Ez (FQ.any _ ((jr.mono mn.ext).mono hw) aj)) (rest:= ?_);intro pw ⟨mq,mr⟩ s6 ja w al;replace s6:=s6.Wm;letI:=gn al;refine jG (jH nQ) lf [] (ay (lv _) (ay ur (ay (sW 30 14 1) cx))) cy ?_ al;refine Fx 14 [I b.1,I b.2.1,I b.2.2.1,I b.2.2.2.1,I b.2.2.2.2.1,I b.2.2.2.2.2,b8 jl cells jm,I b.1,I b.2.1,I b.2.2.1,I b.2.2.2.1,I b.2.2.2.2.1,I b.2.2.2.2.2,b8 j0 cells j1,b8 mq mu mr,.slice none 0 0,b8 j2 table j3,b8 j4 iV j5,I most,.slice none ([]:List iv).length 0,.slice none (([]:List au)).length 0,.slice none ((([]:List Nat))).length 0,.slice none (((([]:List Nat)))).length 0,b8 j6 iD j7] (eL cells ij hO ik table oA oB known oC oD most b [] none 0 0 [] none 0 0 jl jm j0 j1 j2 j3 iV j4 j5 iD j6 j7 g1 mu mq mr) P8 P9 (jX qb (.tuple ⟨[]⟩)) (s6.box 5 rfl) ?_;intro amX aj' aj_ ja w al;have yX:=s6.mG 5 rfl (yj aj' aj_);replace yX:=yX.Wm;letI:=gn al;by_cases im:((known.length:Nat):Int)=0
    ·refine jG (jH yW) lC [] (ay (lv _) (ay (sX (jr.mono yX.ext) qc) (ay dA cx))) cy ?_ al
     refine Na (enc:=hx) (xs:=[true]) (q:=25) (bC:=λxi=>(eL cells ij hO ik table oA oB known oC oD most b [] none 0 0 [] none 0 0 jl jm j0 j1 j2 j3 iV j4 j5 iD j6 j7 g1 mu mq mr xi)) F3 mh rfl ck ck U U (hQ rfl) Qa (λ_ _=>mO) Qb (λ_=>rfl) ?_;intro aka g4 akb amY akc akd ake;have CU:=yX.new (Nc akb akc akd ake);letI:=gn al;obtain⟨qn,QE⟩:=kB (List.replicate (cells.length) true);refine sY (Y:=cE) (bC:=λc1=>(eL cells ij hO ik table oA oB known oC oD most b [] none 0 0 [] none 0 0 jl jm j0 j1 j2 j3 iV j4 j5 iD j6 j7 g1 mu mq mr g4 qn c1.1 c1.2)) CU [11] (λc1=>[_]) (λc1=>[vu c1.1 qn c1.2]) Qc Qn (jX Qm 26) (kN:=λw hw dQ hs=>by rw[QE];exact ajv _ hs (cells.length) aj) (rest:= ?_);intro Y1 ⟨ta,tc⟩ yY ja w al;replace yY:=yY.Wn;letI:=gn al;refine jG (jH Qo) lf [] (ay (lv _) (ay ur (ay (sW 30 14 1) cx))) cy ?_ al;refine Fx 14 [I b.1,I b.2.1,I b.2.2.1,I b.2.2.2.1,I b.2.2.2.2.1,I b.2.2.2.2.2,b8 jl cells jm,I b.1,I b.2.1,I b.2.2.1,I b.2.2.2.1,I b.2.2.2.2.1,I b.2.2.2.2.2,b8 j0 cells j1,b8 ta qn tc,.slice none 0 0,b8 j2 table j3,b8 j4 iV j5,I most,.slice none ([]:List iv).length 0,.slice none (([]:List au)).length 0,.slice none ((([]:List Nat))).length 0,.slice none (((([]:List Nat)))).length 0,b8 j6 iD j7] (eL cells ij hO ik table oA oB known oC oD most b [] none 0 0 [] none 0 0 jl jm j0 j1 j2 j3 iV j4 j5 iD j6 j7 g1 mu mq mr g4 qn ta tc) ajE ajG (jX Qq (.tuple ⟨[]⟩)) (yY.box 5 rfl) ?_;intro Y2 akf akg ja w al;have xu:=yY.mG 5 rfl (yj akf akg);replace xu:=xu.Wn;letI:=gn al;refine jG (jH Qr) r5 [] (ay (lv _) (ay ur (ay (sW 30 14 1) (ay (Fq 14 5 xu) cx)))) cy ?_ al;obtain⟨uF,Y3⟩:=kB (qn);refine sY (Y:=cE) (bC:=λc1=>(eL cells ij hO ik table oA oB known oC oD most b [] none 0 0 [] none 0 0 jl jm j0 j1 j2 j3 iV j4 j5 iD j6 j7 g1 mu mq mr g4 qn ta tc uF c1.1 c1.2)) xu [] (λc1=>[]) (λc1=>[vu c1.1 uF c1.2]) ajH ajJ (jX Qt 27) (kN:=λw hw dQ hs=>by rw[Y3];exact Ez (FQ.any _ (((xu.arr 12 rfl).arr mh).mono hw) (by (rw[QE,kX];omega)))) (rest:= ?_);intro amZ ⟨xp,xq⟩ JR ja w al;replace JR:=JR.Wo;letI:=gn al;refine jG (jH Qu) s8 [] (ay (lv _) (ay ur (ay (sW 30 15 1) cx))) cy ?_ al;refine Fx 15 [I b.1,I b.2.1,I b.2.2.1,I b.2.2.2.1,I b.2.2.2.2.1,I b.2.2.2.2.2,b8 jl cells jm,I b.1,I b.2.1,I b.2.2.1,I b.2.2.2.1,I b.2.2.2.2.1,I b.2.2.2.2.2,b8 j0 cells j1,b8 ta qn tc,b8 xp uF xq,b8 j2 table j3,b8 j4 iV j5,I most,.slice none ([]:List iv).length 0,.slice none (([]:List au)).length 0,.slice none ((([]:List Nat))).length 0,.slice none (((([]:List Nat)))).length 0,b8 j6 iD j7] (eL cells ij hO ik table oA oB known oC oD most b [] none 0 0 [] none 0 0 jl jm j0 j1 j2 j3 iV j4 j5 iD j6 j7 g1 mu mq mr g4 qn ta tc uF xp xq) ajK ajM (jX YN (.tuple ⟨[]⟩)) (JR.box 5 rfl) ?_;intro akh aki akj ja w al;have QF:=JR.mG 5 rfl (yj aki akj);replace QF:=QF.Wo;letI:=gn al;refine jG (jH YO) ih [] (ay (lv _) cx) cy ?_ al;refine Il (gY:=(λ(⟨M,s',xl,xm,yZ,nx⟩:Mem×List Nat×Option Addr×Nat×List Bool×Nat)=>aY M (eL cells ij hO ik table oA oB known oC oD most b s' xl xm nx [] none 0 0 jl jm j0 j1 j2 j3 iV j4 j5 iD j6 j7 g1 mu mq mr g4 qn ta tc uF xp xq))) (λ(⟨M,s',xl,xm,yZ,nx⟩:Mem×List Nat×Option Addr×Nat×List Bool×Nat)=>b6 W.heap.size (aE W) [] M [w3 jl cells jm,w3 j0 cells j1,Jo j2 table j3,Jn j4 iV j5,Fu j6 iD.length j7 yZ,nJ g1 76 [I b.1,I b.2.1,I b.2.2.1,I b.2.2.2.1,I b.2.2.2.2.1,I b.2.2.2.2.2,b8 jl cells jm,I b.1,I b.2.1,I b.2.2.1,I b.2.2.2.1,I b.2.2.2.2.1,I b.2.2.2.2.2,b8 j0 cells j1,b8 ta qn tc,b8 xp uF xq,b8 j2 table j3,b8 j4 iV j5,I most,.slice none ([]:List iv).length 0,.slice none (([]:List au)).length 0,.slice none ((([]:List Nat))).length 0,b8 xl s' xm,b8 j6 iD j7],oT Ce 3 wK (.slice none ([]:List iv).length 0) ([]:List iv),oT Cf 5 kx (.slice none (([]:List au)).length 0) (([]:List au)),jt rQ 1 oW (.slice none ((([]:List Nat))).length 0) ((([]:List Nat))),Cz xl s' xm,vu ta qn tc,vu xp uF xq]/\(nx<=cells.length/\s'=List.range nx/\yZ=iN cells.length nx/\yZ.length=cells.length/\s'.length=nx)) (λ(⟨M,s',xl,xm,yZ,nx⟩:Mem×List Nat×Option Addr×Nat×List Bool×Nat)=>cells.length-nx) ⟨akh,(((([]:List Nat)))),none,0,iD,0⟩ ajN mO (λ_ _ h=>h) (by exact⟨(QF.pick [0,1,2,3,4,5,6,7,8,9,12,13] rfl),by exact⟨Nat.zero_le _,rfl,by rw[JQ];exact(Yr _).symm,aj,rfl⟩⟩) ?_;intro⟨M,s',xl,xm,yZ,nx⟩ bg ja w al;letI:=gn al;refine H' ajO ajP ?_;have vI:=bg.1;have akk:=bg.2.1;have akl:=bg.2.2.2.2.1;have akm:=bg.2.2.2.2.2;by_cases z0:((nx:Nat):Int)<((cells.length:Nat):Int)
     ·refine dG xg [] (ay (lv _) (ay dA cx)) cy ?_ al
      obtain⟨CS,QG⟩:=kB (lA s' yZ (nx));obtain⟨Y4,QH⟩:=kB (mi yZ (nx));refine sY (Y:=cE) (bC:=λc1=>(eL cells ij hO ik table oA oB known oC oD most b s' xl xm nx [] none 0 0 jl jm j0 j1 j2 j3 iV j4 j5 iD j6 j7 g1 mu mq mr g4 qn ta tc uF xp xq CS c1.1 c1.2)) vI [9,4,5] (λc1=>[Jm _ _ _ c1.1 CS c1.2,Ft _ _ _ j6 iD.length j7 Y4,nJ _ _ [_,_,_,_,_,_,_,_,_,_,_,_,_,_,_,_,_,_,_,_,_,_,b8 c1.1 CS c1.2,_]]) (λ_=>[]) ajQ ajS (jX PX (.tuple ⟨[]⟩)) (kN:=λw hw dQ hs=>by rw[QG,QH];exact Qe.any (xa:=IS [I b.1,I b.2.1,I b.2.2.1,I b.2.2.2.1,I b.2.2.2.2.1,I b.2.2.2.2.2,b8 jl cells jm,I b.1,I b.2.1,I b.2.2.1,I b.2.2.2.1,I b.2.2.2.2.1,I b.2.2.2.2.2,b8 j0 cells j1,b8 ta qn tc,b8 xp uF xq,b8 j2 table j3,b8 j4 iV j5,I most,.slice none ([]:List iv).length 0,.slice none (([]:List au)).length 0,.slice none ((([]:List Nat))).length 0] 0) _ hs (nx) aj aj) (rest:= ?_);intro akn ⟨Qz,QA⟩ QI ja w al;replace QI:=QI.Jp;letI:=gn al;refine jG (jH YR) yS [] (ay (lv _) (ay AI cx)) cy ?_ al;exact Jk ⟨akn,CS,Qz,QA,Y4,nx+1⟩ ajT mO (by exact⟨QI,by have hs:=Ys (show nx<cells.length by omega) bg.2.2.1 bg.2.2.2.1;exact⟨aj,by rw[QG];exact hs.1,by rw[QH];exact hs.2,by rw[QH,IT];omega,by rw[QG,hs.1,List.length_range]⟩⟩)
     ·refine dG yT [] (ay (lv _) (ay b0 cx)) cy ?_ al
      refine Cx ih [] (ay (lv _) cx) cy ?_;exact dX ajU λw2 cO=>(by (have ag:nx=cells.length:=aj;have aA:=bg.2.2.1;have hw:=bg.2.2.2.1;rw[ag] at aA hw;rw[aI (show mP b cells table known most from ⟨ct,aj,aj⟩),Yt (show known.length=0 by omega)];subst Y3;rw[<-QE];rw[<-aA,<-hw,<-JP];exact⟨_,((_,_),(_,_,_),(_,_,_),(_,_,_),(_,_,_),(_,_,_),(_,_,_),(_,_,_)),rfl,((vI.pick [6,7,8,9,4,3,1,2,11,0,10,5] rfl).done cO)⟩))
    ·refine jG (jH yW) CM [] (ay (lv _) (ay (sX (jr.mono yX.ext) qc) (ay b0 (ay ur (ay (sW 30 14 1) (ay (Fq 14 5 yX) cx)))))) cy ?_ al
     obtain⟨uG,Y5⟩:=kB (mu);refine sY (Y:=cE) (bC:=λc1=>(eL cells ij hO ik table oA oB known oC oD most b [] none 0 0 [] none 0 0 jl jm j0 j1 j2 j3 iV j4 j5 iD j6 j7 g1 mu mq mr 0 [] none 0 [] none 0 [] none 0 uG c1.1 c1.2)) yX [] (λc1=>[]) (λc1=>[vu c1.1 uG c1.2]) ajV ajX (jX Qw 33) (kN:=λw hw dQ hs=>by rw[Y5];exact Ez (FQ.any _ (((yX.arr 10 rfl).arr mh).mono hw) (by (rw[QD];omega)))) (rest:= ?_);intro aka ⟨xr,xt⟩ CU ja w al;replace CU:=CU.Jp;letI:=gn al;refine jG (jH Qx) s8 [] (ay (lv _) (ay ur (ay (sW 30 15 1) cx))) cy ?_ al;refine Fx 15 [I b.1,I b.2.1,I b.2.2.1,I b.2.2.2.1,I b.2.2.2.2.1,I b.2.2.2.2.2,b8 jl cells jm,I b.1,I b.2.1,I b.2.2.1,I b.2.2.2.1,I b.2.2.2.2.1,I b.2.2.2.2.2,b8 j0 cells j1,b8 mq mu mr,b8 xr uG xt,b8 j2 table j3,b8 j4 iV j5,I most,.slice none ([]:List iv).length 0,.slice none (([]:List au)).length 0,.slice none ((([]:List Nat))).length 0,.slice none (((([]:List Nat)))).length 0,b8 j6 iD j7] (eL cells ij hO ik table oA oB known oC oD most b [] none 0 0 [] none 0 0 jl jm j0 j1 j2 j3 iV j4 j5 iD j6 j7 g1 mu mq mr 0 [] none 0 [] none 0 [] none 0 uG xr xt) ajY aj0 (jX YV (.tuple ⟨[]⟩)) (CU.box 5 rfl) ?_;intro Y1 ako akp ja w al;have yY:=CU.mG 5 rfl (yj ako akp);replace yY:=yY.Jp;letI:=gn al;refine jG (jH YW) ih [] (ay (lv _) cx) cy ?_ al;refine Il (gY:=(λ(⟨M,s_,xn,xo,y0,ny⟩:Mem×List Nat×Option Addr×Nat×List Bool×Nat)=>aY M (eL cells ij hO ik table oA oB known oC oD most b [] none 0 0 s_ xn xo ny jl jm j0 j1 j2 j3 iV j4 j5 iD j6 j7 g1 mu mq mr 0 [] none 0 [] none 0 [] none 0 uG xr xt))) (λ(⟨M,s_,xn,xo,y0,ny⟩:Mem×List Nat×Option Addr×Nat×List Bool×Nat)=>b6 W.heap.size (aE W) [] M [w3 jl cells jm,w3 j0 cells j1,Jo j2 table j3,Jn j4 iV j5,Fu j6 iD.length j7 y0,nJ g1 76 [I b.1,I b.2.1,I b.2.2.1,I b.2.2.2.1,I b.2.2.2.2.1,I b.2.2.2.2.2,b8 jl cells jm,I b.1,I b.2.1,I b.2.2.1,I b.2.2.2.1,I b.2.2.2.2.1,I b.2.2.2.2.2,b8 j0 cells j1,b8 mq mu mr,b8 xr uG xt,b8 j2 table j3,b8 j4 iV j5,I most,.slice none ([]:List iv).length 0,.slice none (([]:List au)).length 0,.slice none ((([]:List Nat))).length 0,b8 xn s_ xo,b8 j6 iD j7],oT Ce 3 wK (.slice none ([]:List iv).length 0) ([]:List iv),oT Cf 5 kx (.slice none (([]:List au)).length 0) (([]:List au)),jt rQ 1 oW (.slice none ((([]:List Nat))).length 0) ((([]:List Nat))),Cz xn s_ xo,vu mq mu mr,vu xr uG xt]/\(ny<=cells.length/\s_=List.range ny/\y0=iN cells.length ny/\y0.length=cells.length/\s_.length=ny)) (λ(⟨M,s_,xn,xo,y0,ny⟩:Mem×List Nat×Option Addr×Nat×List Bool×Nat)=>cells.length-ny) ⟨Y1,(((([]:List Nat)))),none,0,iD,0⟩ aj1 mO (λ_ _ h=>h) (by exact⟨yY,by exact⟨Nat.zero_le _,rfl,by rw[JQ];exact(Yr _).symm,aj,rfl⟩⟩) ?_;intro⟨M,s_,xn,xo,y0,ny⟩ bg ja w al;letI:=gn al;refine H' aj2 aj3 ?_;have Y6:=bg.1;have akk:=bg.2.1;have akl:=bg.2.2.2.2.1;have akm:=bg.2.2.2.2.2;by_cases z0:((ny:Nat):Int)<((cells.length:Nat):Int)
     ·refine dG CN [] (ay (lv _) (ay dA cx)) cy ?_ al
      obtain⟨CT,QJ⟩:=kB (lA s_ y0 (ny));obtain⟨Y7,QK⟩:=kB (mi y0 (ny));refine sY (Y:=cE) (bC:=λc1=>(eL cells ij hO ik table oA oB known oC oD most b [] none 0 0 s_ xn xo ny jl jm j0 j1 j2 j3 iV j4 j5 iD j6 j7 g1 mu mq mr 0 [] none 0 [] none 0 [] none 0 uG xr xt CT c1.1 c1.2)) Y6 [9,4,5] (λc1=>[Jm _ _ _ c1.1 CT c1.2,Ft _ _ _ j6 iD.length j7 Y7,nJ _ _ [_,_,_,_,_,_,_,_,_,_,_,_,_,_,_,_,_,_,_,_,_,_,b8 c1.1 CT c1.2,_]]) (λ_=>[]) aj4 aj6 (jX YZ (.tuple ⟨[]⟩)) (kN:=λw hw dQ hs=>by rw[QJ,QK];exact Qe.any (xa:=IS [I b.1,I b.2.1,I b.2.2.1,I b.2.2.2.1,I b.2.2.2.2.1,I b.2.2.2.2.2,b8 jl cells jm,I b.1,I b.2.1,I b.2.2.1,I b.2.2.2.1,I b.2.2.2.2.1,I b.2.2.2.2.2,b8 j0 cells j1,b8 mq mu mr,b8 xr uG xt,b8 j2 table j3,b8 j4 iV j5,I most,.slice none ([]:List iv).length 0,.slice none (([]:List au)).length 0,.slice none ((([]:List Nat))).length 0] 0) _ hs (ny) aj aj) (rest:= ?_);intro Y2 ⟨QB,QC⟩ xu ja w al;replace xu:=xu.Jp;letI:=gn al;refine jG (jH Y0) FY [] (ay (lv _) (ay AI cx)) cy ?_ al;exact Jk ⟨Y2,CT,QB,QC,Y7,ny+1⟩ aj7 mO (by exact⟨xu,by have hs:=Ys (show ny<cells.length by omega) bg.2.2.1 bg.2.2.2.1;exact⟨aj,by rw[QJ];exact hs.1,by rw[QK];exact hs.2,by rw[QK,IT];omega,by rw[QJ,hs.1,List.length_range]⟩⟩)
     ·refine dG FZ [] (ay (lv _) (ay b0 cx)) cy ?_ al
      refine Cx ih [] (ay (lv _) cx) cy ?_;exact dX aj8 λw2 cO=>(by (have ag:ny=cells.length:=aj;have aA:=bg.2.2.1;have hw:=bg.2.2.2.1;rw[ag] at aA hw;rw[aI (show mP b cells table known most from ⟨ct,aj,aj⟩),Yu (show known.length≠0 by omega)];subst Y5;rw[<-QD];rw[<-aA,<-hw,<-JP];exact⟨_,((_,_),(_,_,_),(_,_,_),(_,_,_),(_,_,_),(_,_,_),(_,_,_),(_,_,_)),rfl,((Y6.pick [6,7,8,9,4,3,1,2,11,0,10,5] rfl).done cO)⟩))
 ·refine dG F0 F1 (ay (lv _) (ay Cy cx)) (ej (JM U U U U oz (aF.mono aH.ext) (jr.mono aH.ext) bU aj kM) cy) ?_ al
  exact dX aj9 λw2 cO=>(by (rw[aG (λq:mP b cells table known most=>by have q1:=q.1;have aB:=q.2.1;have b_:=q.2.2;omega)];rfl))
end YH
end AE
namespace AE
theorem Y8 (W:ao) {g:Nat} {A:dM} {e:bJ} (h:bY (aE W) [fl g A e]) (eE:fw e.table e.b e.u) (hr:e.u.reqs.length<=10000):
 Calls Tryz.prog 13 #[bK g] W λx w'=>(∃aS:dM,x= .returned (.int .i64 (((hy e.table e.b (gI e.b e.u) e.u).1:Nat):Int))/\ef (aE W) [fl g A e] (aE w') [fl g aS {e with u:=(hy e.table e.b (gI e.b e.u) e.u).2}])/\cA 0 W w':=Yx.any h eE hr
theorem Y9 (W:ao) {g:Nat} {A:dM} {e:bJ} (h:bY (aE W) [fl g A e]) (n:Int) (eE:fw e.table e.b e.u) (hr:e.u.reqs.length<=10000):
 Calls Tryz.prog 26 #[bK g,.int .i64 n] W λx w'=>(∃aS:dM,x= .returned (.int .i64 (((hy e.table e.b n.toNat e.u).1:Nat):Int))/\ef (aE W) [fl g A e] (aE w') [fl g aS {e with u:=(hy e.table e.b n.toNat e.u).2}])/\cA 0 W w':=Yy.any h n eE hr
theorem JS (W:ao) {g:Nat} {A:dM} {e:bJ} (h:bY (aE W) [fl g A e]):
  Calls Tryz.prog 12 #[bK g] W λx w'=>(∃_:Unit,x= .returned (.bool (decide (e.u.bz.length=0/\e.u.bp.length=0/\e.u.reqs.length=0)))/\ef (aE W) [fl g A e] (aE w') [fl g A e])/\cA 0 W w':=
 (Yz.any h.AO).ajy
theorem QL (W:ao) {g:Nat} {A:dM} {e:bJ} (h:bY (aE W) [fl g A e]) (ak:e.u.av.length<=100000):
  Calls Tryz.prog 17 #[bK g] W λx w'=>(∃y:cE,x= .returned (.slice y.1 e.u.av.length y.2)/\ef (aE W) [fl g A e] (aE w') [fl g A e,jt vo 4 ch (.slice y.1 e.u.av.length y.2) e.u.av])/\cA 0 W w':=
 (YA.any h.AO ak).ES
theorem Y' (W:ao) {g:Nat} {A:dM} {e:bJ} (h:bY (aE W) [fl g A e]) (ak:e.known.length<=100000):
  Calls Tryz.prog 15 #[bK g] W λx w'=>(∃y:cE,x= .returned (.slice y.1 e.known.length y.2)/\ef (aE W) [fl g A e] (aE w') [fl g A e,jt mg 1 hx (.slice y.1 e.known.length y.2) e.known])/\cA 0 W w':=
 (YB.any h.AO ak).ES
theorem Y_ (W:ao) {g:Nat} {A:dM} {e:bJ} (h:bY (aE W) [fl g A e]) (ak:e.cells.length<=100000):
  Calls Tryz.prog 14 #[bK g] W λx w'=>(∃y:cE,x= .returned (hN e.b (.slice y.1 e.cells.length y.2))/\ef (aE W) [fl g A e] (aE w') [fl g A e,jt tQ 1 hv (.slice y.1 e.cells.length y.2) e.cells])/\cA 0 W w':=
 (YC.any h.AO ak).ES
theorem Za (W:ao) {g:Nat} {A:dM} {e:bJ} (h:bY (aE W) [fl g A e]) (p:dc) (c:Int) (ad:okB e.b) (hl:e.cells.length=(dv e.b).toNat) (ag:e.known.length=e.cells.length) (hr:e.u.reqs.length<=400000):
  Calls Tryz.prog 24 #[bK g,P.val p,.int .i64 c] W λx w'=>(∃aS:dM,x= .returned (.int .i64 (jZ e.b e.most p e.u.reqs c))/\ef (aE W) [fl g A e] (aE w') [fl g aS (iC e p c)])/\cA 0 W w':=by
 refine(YF.any h.AO p c ad hl ag hr).mono λx w' ah=> ?_
 obtain⟨⟨aS,rfl,t⟩,hl⟩:=ah;exact⟨⟨aS,rfl,t.packed⟩,hl⟩
theorem Zb (W:ao) {g:Nat} {A:dM} {e:bJ} (h:bY (aE W) [fl g A e]) (p:dc) (k:Bool) (ad:okB e.b) (hl:e.cells.length=(dv e.b).toNat) (ag:e.known.length=e.cells.length) (hr:e.u.reqs.length<=400000):
  Calls Tryz.prog 25 #[bK g,P.val p,.bool k] W λx w'=>(∃aS:dM,x= .returned (.int .i64 (iB e.b e.most p e.u.reqs))/\ef (aE W) [fl g A e] (aE w') [fl g aS (jx e p k)])/\cA 0 W w':=by
 refine(YG.any h.AO p k ad hl ag hr).mono λx w' ah=> ?_
 obtain⟨⟨aS,rfl,t⟩,hl⟩:=ah;exact⟨⟨aS,rfl,t.packed⟩,hl⟩
def il (b:bw) (cells:List Int) (table:List cc) (known:List Bool) (most:Int):bJ:=
 ⟨⟨List.replicate cells.length yv,[],[],List.range cells.length,iN cells.length cells.length,[],cells,pH known cells.length⟩,b,table,cells,pH known cells.length,most⟩
theorem Zc (W:ao) {ij:Option Addr} {hO ik:Nat} {cells:List Int} (oz:bT (aE W) 1 hv (.slice ij hO ik) cells) {b:bw} {nw o2:J} {table:List cc} {known:List Bool} (aF:bT (aE W) 8 gm nw table) (jr:bT (aE W) 1 hx o2 known) (most:Int)
  (bU:lP (aE W)) (ak:cells.length<=10000) (kM:hO=cells.length) (mH:known.length<=100000) (xk:table.length<=100000):
  Calls Tryz.prog 7 #[hN b (.slice ij hO ik),nw,o2,.int .i64 most] W λx w'=>(if mP b cells table known most then (∃(g:Nat) (A:dM),x= .returned (.tuple ⟨[bK g,.int .i64 0]⟩)/\ef (aE W) [] (aE w') [fl g A (il b cells table known most)]) else x= .returned (.tuple ⟨[.pointer none,.int .i64 1]⟩))/\cA W.heap.size W w':=by
 refine(YH.any W oz aF jr most bU ak kM mH xk).mono λx w' ah=> ?_
 obtain⟨h,hl⟩:=ah;refine⟨?_,hl⟩;split at h
 ·rename_i ad
  rw[aI ad];obtain⟨g,y,rfl,t⟩:=h;have hp:ef (aE W) [] (aE w') [fl g ⟨(none,0),(none,0),(none,0),y.1,y.2.1,y.2.2.1,y.2.2.2.1,y.2.2.2.2.1,y.2.2.2.2.2.1,y.2.2.2.2.2.2.1,y.2.2.2.2.2.2.2⟩ (il b cells table known most)]:=⟨t.sp.packed,t.keeps,λb ad=>t.fresh b (Cg.1 ad)⟩;exact⟨g,_,rfl,hp⟩
 ·rename_i ad
  rw[aG ad];exact h
end AE
namespace AE
theorem QM {table:List cc} (h:(kU table).2=0):vC table:=by
 have ax:∀i,i<table.length->fW (table.getD i default):=by
  unfold kU at h;split at h
  ·cases h
  ·split at h
   ·cases h
   ·split at h
    ·cases h
    ·split at h
     ·rename_i i af
      simp only at h;split at h<;>cases h
     ·rename_i vf
      intro i af;have:=List.find?_eq_none.1 vf i (List.mem_range.2 af);simp only [decide_eq_true_eq] at this;unfold vJ at this;exact Classical.not_not.1 λal=>this (.inl al)
 intro c;unfold dk;split
 ·rename_i ai
  have:=ax c.toNat aj;unfold fW at this;obtain⟨_,_,h1,ae,ar,bm,cg,cu,e_,oG⟩:=this;refine⟨h1,ae,λi af=> ?_⟩
  match i,af with
  |0,_=>exact⟨ar,bm⟩
  |1,_=>exact⟨cg,cu⟩
  |2,_=>exact⟨e_,oG⟩
 ·refine⟨ck,ck,λi af=> ?_⟩
  match i,af with
  |0,_=>exact⟨ck,ck⟩
  |1,_=>exact⟨ck,ck⟩
  |2,_=>exact⟨ck,ck⟩
theorem CV {b:bw} {cells:List Int} {table:List cc} {known:List Bool} (h:lD b cells table known=0):CP b cells table known:=by
 unfold lD at h;split at h
 ·assumption
 ·cases h
theorem Zd {known:List Bool} {n:Nat} (h:known.length=0\/known.length=n):(pH known n).length=n:=by
 unfold pH;split
 ·simp
 ·omega
theorem Ze (n:Nat):iN n n=List.replicate n true:=Xe n
theorem akq {b:bw} {cells:List Int} {table:List cc} {known:List Bool} {most:Int} (h:mP b cells table known most) (ak:cells.length<=10000):
  fw table b (il b cells table known most).u/\(il b cells table known most).cells.length=(il b cells table known most).u.bO.length/\(il b cells table known most).known.length=(il b cells table known most).u.bO.length/\gI b (il b cells table known most).u<=361*cells.length:=by
 obtain⟨h1,⟨ae,ar,bm,cg,cu⟩,e_⟩:=CV h.1;have ag:=Zd e_;have ax:(dv b).toNat=cells.length:=by omega
 have h0:(er b).N=cells.length:=(CG ae).trans ax;have bu:cw (List.replicate cells.length yv)=λ_ _=>0:=by
  funext k c;unfold cw;have:(List.replicate cells.length yv).getD k z4=z4:=by
   rw[c_,List.getElem?_replicate];split<;>rfl
  rw[this];exact yp c
 have aH:(gf table (il b cells table known most).u.lit (il b cells table known most).u.bO).jR (er b).N:=⟨λk _=>(QM h1 _).1,λk c _ ai=>(QM h1 _).2.2 c ai⟩;have hw:pv (er b) (gf table (il b cells table known most).u.lit (il b cells table known most).u.bO) (gF (il b cells table known most).u):=by
  refine⟨by show (List.replicate cells.length yv).length=_;rw[kX,h0],⟨?_,?_,?_,?_⟩,λ_=>⟨rfl,?_⟩,λcv=>absurd rfl cv⟩
  ·show (iN cells.length cells.length).length=_
   rw[Ze,kX,h0]
  ·exact List.nodup_range
  ·intro k ag
   rw[h0];exact List.mem_range.1 ag
  ·intro k ag
   rw[h0] at ag;show (iN cells.length cells.length).getD k false=true↔k∈List.range cells.length;rw[Ze,c_,List.getElem?_replicate,aI ag];simp [ag]
  ·show oo (er b) _ (cw (List.replicate cells.length yv)) (· ∈List.range cells.length)
   rw[bu];exact oo.zero aH λk ag=>List.mem_range.2 (by rw[<-h0];exact ag)
 have akr:lz (er b).N (gF (il b cells table known most).u)<=361*cells.length:=by
  unfold lz;rw[aI (show (gF (il b cells table known most).u).bz=[] from rfl)];have:=UQ hw;have aA:(gF (il b cells table known most).u).bp.length=cells.length:=List.length_range;omega
 refine⟨⟨QM h1,ae,?_,?_,?_,hw,⟨λx ah=>(by cases ah),?_⟩,?_,λx ah=>(by cases ah)⟩,?_,?_,?_⟩
 ·show (pH known cells.length).length=_
  rw[ag,ax]
 ·show cells.length=(pH known cells.length).length
  rw[ag]
 ·show (pH known cells.length).length<=_
  rw[ag];exact ak
 ·have:=EL (gF (il b cells table known most).u)
  show 0+_<=_;omega
 ·unfold pt
  rw[h0] at akr ⊢;omega
 ·exact ag.symm
 ·rfl
 ·unfold gI
  show lz (er b).N (gF (il b cells table known most).u)+pt (er b).N*0<=_;omega
end AE
namespace AE
abbrev fx:=Int×Int×Int×Int×Int×Bool
abbrev CW:aK:=42
def xv (x:Int×Int×Int×Int×Int×Bool):List J:=[.int .i64 x.1,.int .i64 x.2.1,.int .i64 x.2.2.1,.int .i64 x.2.2.2.1,.int .i64 x.2.2.2.2.1,.bool x.2.2.2.2.2]
theorem aks:∀x,(xv x).length=6:=λ_=>rfl
abbrev Y.val (x:fx):J:= .agg ⟨xv x⟩
def vM:List iv->List Int×List Bool->List Int×List Bool
 |[],s=>s
 |x::r,s=>vM r (s.1.set x.1 x.2.1,s.2.set x.1 x.2.2)
structure fo (e:bJ):Prop where
 nz:fw e.table e.b e.u
 lc:e.cells.length=e.u.bO.length
 l7:e.known.length=e.u.bO.length
 CX:e.u.reqs.length<=10000
 yq:vM e.u.reqs (e.u.lit,e.u.bO)=(e.cells,e.known)
theorem fo.A5 {e:bJ} (h:fo e):e.cells.length=(dv e.b).toNat:=h.lc.trans h.nz.len
theorem fo.A6 {e:bJ} (h:fo e):e.known.length=e.cells.length:=h.l7.trans h.lc.symm
theorem fo.JT {e:bJ} (h:fo e):e.u.reqs.length<=400000:=Nat.le_trans h.CX ck
def lE (e:bJ) (n:Int):bJ:={e with u:=(hy e.table e.b n.toNat e.u).2}
def o3 (e:bJ):bJ:={e with u:=(hy e.table e.b (gI e.b e.u) e.u).2}
def gK (x:fx):dc:=(x.2.2.1,x.2.2.2.1,x.2.2.2.2.1)
def dI (e:bJ) (x:fx):bJ:=if x.1=1 then iC e (gK x) x.2.1 else if x.1=2 then jx e (gK x) x.2.2.2.2.2 else if x.1=3 then lE e x.2.1 else if x.1=4 then o3 e else e
def iO (e:bJ) (x:fx):Int:=if x.1=1 then jZ e.b e.most (gK x) e.u.reqs x.2.1 else if x.1=2 then iB e.b e.most (gK x) e.u.reqs else 0
theorem xw {e:bJ} {x:fx} (h:x.1=1):dI e x=iC e (gK x) x.2.1/\iO e x=jZ e.b e.most (gK x) e.u.reqs x.2.1:=⟨aI h,aI h⟩
theorem xx {e:bJ} {x:fx} (h1:¬x.1=1) (h:x.1=2):dI e x=jx e (gK x) x.2.2.2.2.2/\iO e x=iB e.b e.most (gK x) e.u.reqs:=by
 unfold dI iO;rw[aG h1,aG h1,aI h,aI h];exact⟨rfl,rfl⟩
theorem CY {e:bJ} {x:fx} (h1:¬x.1=1) (ae:¬x.1=2) (h:x.1=3):dI e x=lE e x.2.1/\iO e x=0:=by
 unfold dI iO;rw[aG h1,aG h1,aG ae,aG ae,aI h];exact⟨rfl,rfl⟩
theorem CZ {e:bJ} {x:fx} (h1:¬x.1=1) (ae:¬x.1=2) (ar:¬x.1=3) (h:x.1=4):dI e x=o3 e/\iO e x=0:=by
 unfold dI iO;rw[aG h1,aG h1,aG ae,aG ae,aG ar,aI h];exact⟨rfl,rfl⟩
theorem C0 {e:bJ} {x:fx} (h1:¬x.1=1) (ae:¬x.1=2) (ar:¬x.1=3) (h:¬x.1=4):dI e x=e/\iO e x=0:=by
 unfold dI iO;rw[aG h1,aG h1,aG ae,aG ae,aG ar,aG h];exact⟨rfl,rfl⟩
end AE
end Go.Proofs.YtepcfjbfkedlpaaGreatDoor
namespace Go.Proofs.YtepcfjbfkedlpaaGreatDoor
open Go Go.ChangeShapes Go.WideShapes Go.ChangeAt Go.RowKit
section
theorem JU:Tryz.prog.cellsOf 23=3:=az
theorem akt:Tryz.prog.cellsOf 25=6:=az
theorem aku:Tryz.prog.cellsOf 28=7:=az
theorem Zf:Tryz.prog.cellsOf AE.CW=6:=az
theorem akv:Tryz.prog.cellsOf 26=1:=az
theorem JV:Tryz.prog.underlying 23=some (.struct (Tryz.prog.fieldsOf 23)):=az
theorem Zg:Tryz.prog.underlying 25=some (.struct (Tryz.prog.fieldsOf 25)):=az
theorem QN:Tryz.prog.underlying 28=some (.struct (Tryz.prog.fieldsOf 28)):=az
theorem Gc:Tryz.prog.underlying AE.CW=some (.struct (Tryz.prog.fieldsOf AE.CW)):=az
section
variable {H:Type} {enc:aK×J->H} {W:ao} {r:Reach} {cT:Nat} {base:Nat} {nj:Nat->Bool} {nk:Bool} {v:J} {d:DataW H} {p:List MemPlace}
theorem Zh {t n k:Nat} {cs:List J} {x:DataW H×List MemPlace} (hu:Tryz.prog.underlying t=some (.struct (Tryz.prog.fieldsOf t))) (ag:Tryz.prog.cellsOf t=k) (h:DataW.trod enc Tryz.prog W base nj nk n t cs=some x):cs.length=k:=by
 obtain⟨_,_,_,_,hlen,_,_⟩:=DataW.trod_struct hu h;rw[hlen,ag]
theorem C1 {n:Nat} {cs:List J} {x:DataW H×List MemPlace} (h:DataW.trod enc Tryz.prog W base nj nk n 3 cs=some x):∃z:Int,cs=[.int .i64 z]:=by
 obtain⟨z,e,_⟩:=DataW.trod_int Tryz.underlying3 h;exact⟨z,e⟩
theorem Zi {n:Nat} {cs:List J} {x:DataW H×List MemPlace} (h:DataW.trod enc Tryz.prog W base nj nk n 4 cs=some x):∃z:Bool,cs=[.bool z]:=by
 obtain⟨z,e,_⟩:=DataW.trod_bool Tryz.underlying4 h;exact⟨z,e⟩
theorem QO {n:Nat} {cs:List J} {x:DataW H×List MemPlace} (h:DataW.trod enc Tryz.prog W base nj nk n 23 cs=some x):∃p:AE.dc,cs=[.int .i64 p.1,.int .i64 p.2.1,.int .i64 p.2.2]:=by
 have hlen:=Zh JV JU h;obtain⟨_,DB,aJ,_⟩:=mF (i:=0) (ty:=3) (off:=0) JV az ye h;obtain⟨_,ve,h1,_⟩:=mF (i:=1) (ty:=3) (off:=1) JV az ye h;obtain⟨_,D',ae,_⟩:=mF (i:=2) (ty:=3) (off:=2) JV az ye h;obtain⟨z0,bA⟩:=C1 aJ;obtain⟨vm,e1⟩:=C1 h1;obtain⟨z2,e2⟩:=C1 ae
 match cs,hlen,bA,e1,e2 with
 |[bZ,cp,c2],_,bA,e1,e2=>
  simp only [List.drop_zero,List.drop_succ_cons,List.take_succ_cons,List.take_zero,List.cons.injEq,and_true] at bA e1 e2;exact⟨(z0,vm,z2),by rw[bA,e1,e2]⟩
theorem akw {n:Nat} {cs:List J} {x:DataW H×List MemPlace} (h:DataW.trod enc Tryz.prog W base nj nk n AE.CW cs=some x):∃s:AE.fx,cs=AE.xv s:=by
 have hlen:=Zh Gc Zf h;obtain⟨_,DB,aJ,_⟩:=mF (i:=0) (ty:=3) (off:=0) Gc az ye h;obtain⟨_,ve,h1,_⟩:=mF (i:=1) (ty:=3) (off:=1) Gc az ye h;obtain⟨_,D',ae,_⟩:=mF (i:=2) (ty:=23) (off:=2) Gc az JU h;obtain⟨_,TX,ar,_⟩:=mF (i:=3) (ty:=4) (off:=5) Gc az yf h;obtain⟨z0,bA⟩:=C1 aJ;obtain⟨vm,e1⟩:=C1 h1;obtain⟨z2,e2⟩:=QO ae;obtain⟨z3,fI⟩:=Zi ar
 match cs,hlen,bA,e1,e2,fI with
 |[bZ,cp,c2,c3,mx,Eb],_,bA,e1,e2,fI=>
  simp only [List.drop_zero,List.drop_succ_cons,List.take_succ_cons,List.take_zero,List.cons.injEq,and_true] at bA e1 e2 fI;exact⟨(z0,vm,z2.1,z2.2.1,z2.2.2,z3),by rw[bA,e1,e2.1,e2.2.1,e2.2.2,fI];rfl⟩
theorem Zj {α:Type} [Inhabited α] {ch:α->List J} {k t e:Nat} (hu:Tryz.prog.underlying t=some (.slice e)) (ag:Tryz.prog.cellsOf e=k) (gV:0<k) (JW:∀x,(ch x).length=k)
  (og:∀n cs x,DataW.trod enc Tryz.prog W base nj nk n e cs=some x->∃s:α,cs=ch s) {bk:Nat} {Dp:List J} {x:DataW H×List MemPlace} (h:DataW.trod enc Tryz.prog W base nj nk bk t Dp=some x):
  ∃(a:Option Addr) (n c:Nat) (l:List α),Dp=[.slice a n c]/\AE.bT (AE.aE W) k ch (.slice a n c) l/\n=l.length:=by
 rcases Deep.open_slice hu h with ⟨gv,_⟩|⟨a,len,cap,m,n,yg,h',gv,ad,hl,hm,rk,ah,af⟩
 ·exact⟨none,0,0,[],gv,.nil _ _,rfl⟩
 ·have pP:len<=m:=by rw[rk];split<;>omega
  have Ac:∀i,i<len->∃s:α,∀j u,(ch s)[j]? =some u->W.cell? (a.add (i*k+j))=some u:=λi oi=>by
   obtain⟨cs',ai,aF⟩:=af i aj;rw[ag] at ai;obtain⟨s,rfl⟩:=og _ _ _ aF;obtain⟨_,_,B1⟩:=World.cells?_some ai;refine⟨s,λj u hj=> ?_⟩;have MJ:j<k:=by have:=(List.getElem?_eq_some_iff.1 hj).1;rwa [JW] at this
   rw[<-Deep.add_add,B1 j MJ];exact hj
  let f:Nat->α:=λi=>if h:i<len then (Ac i h).choose else default
  have aO:∀i,i<len->∀j u,(ch (f i))[j]? =some u->W.cell? (a.add (i*k+j))=some u:=λi oi=>by
   show ∀j u,(ch (if h:i<len then (Ac i h).choose else default))[j]? =some u->_;rw[dif_pos oi];exact(Ac i oi).choose_spec
  have hlen:((List.range len).map f).length=len:=by simp
  refine⟨some a,len,cap,(List.range len).map f,gv,?_,hlen.symm⟩;rcases Nat.eq_zero_or_pos len with aJ|aJ
  ·subst aJ
   exact .nil _ _
  ·obtain⟨im,C2⟩:∃im,(ch (f 0))[0]? =some im:=⟨_,fy (by rw[JW];exact gV)⟩
   have lQ:=aO 0 aJ 0 _ C2;rw[Nat.zero_mul,Nat.zero_add] at lQ;obtain⟨bd,off,spot⟩:=a;have MK:∃cs ty fr,W.heap[bd]? =some (.cells cs ty fr)/\spot=none:=by
    unfold World.cell? at lQ;split at lQ
    ·rename_i cp t1 f1 kZ
     split at lQ
     ·cases lQ
     ·rename_i sJ
      refine⟨cp,t1,f1,kZ,?_⟩;cases spot with
      |none=>rfl
      |some x=>exact absurd rfl sJ
    ·cases lQ
   obtain⟨cs,ty,fr,iR,rfl⟩:=MK;have key:AE.bT (AE.aE W) k ch (.slice (some ⟨bd,off,none⟩) ((List.range len).map f).length cap) ((List.range len).map f):=by
    refine .mk (cs:=cs) (ty:=ty) (fr:=fr) iR (by rw[hlen];exact hl) λi x ah j u hj=> ?_
    have oi:i<len:=by
     have:=(List.getElem?_eq_some_iff.1 ah).1
     rwa [hlen] at this
    have ML:x=f i:=by
     rw[List.getElem?_map,List.getElem?_range oi] at ah;exact(Option.some.inj ah).symm
    subst ML;have:=aO i oi j u hj;rw[AE.Addr.jA,cell_of_row W _ _ _ _ _ iR,<-Nat.add_assoc] at this;exact this
   rw[hlen] at key;exact key
theorem Zk {α:Type} [Inhabited α] {ch:α->List J} {k t e:Nat} (hu:Tryz.prog.underlying t=some (.slice e)) (ag:Tryz.prog.cellsOf e=k) (gV:0<k) (JW:∀x,(ch x).length=k)
  (og:∀n cs x,DataW.trod enc Tryz.prog W base nj nk n e cs=some x->∃s:α,cs=ch s) (ax:Value.okWide Tryz.prog W r cT t v) (h:DataW.Trod enc Tryz.prog W base nj nk t v d p):∃l:List α,AE.bT (AE.aE W) k ch v l:=by
 obtain⟨a0,Aa,Ab,rfl⟩:=okWide_slice hu ax;obtain⟨bk,h⟩:=h;obtain⟨a,n,c,l,h1,ae,_⟩:=Zj hu ag gV JW og h;have e:Value.slice a0 Aa Ab= .slice a n c:=(List.cons.inj (show [Value.slice a0 Aa Ab]=[.slice a n c] from h1)).1;rw[e];exact⟨l,ae⟩
theorem akx (ax:Value.okWide Tryz.prog W r cT 30 v) (h:DataW.Trod enc Tryz.prog W base nj nk 30 v d p):∃l:List Bool,AE.bT (AE.aE W) 1 AE.hx v l:=
 Zk Tryz.underlying30 yf ck (λ_=>rfl) (λ_ _ _ h=>Zi h) ax h
theorem aky (ax:Value.okWide Tryz.prog W r cT 31 v) (h:DataW.Trod enc Tryz.prog W base nj nk 31 v d p):∃l:List AE.fx,AE.bT (AE.aE W) 6 AE.xv v l:=
 Zk Tryz.underlying31 Zf ck AE.aks (λ_ _ _ h=>akw h) ax h
theorem akz {cs:Array J} (h:cs.size=7):∃a b c d e f g,cs= #[a,b,c,d,e,f,g]:=by
 obtain⟨l⟩:=cs
 match l,h with
 |[a,b,c,d,e,f,g],_=>exact⟨a,b,c,d,e,f,g,rfl⟩
theorem akA (ax:Value.okWide Tryz.prog W r cT 28 v) (h:DataW.Trod enc Tryz.prog W base nj nk 28 v d p):∃(b:AE.bw) (a:Option Addr) (n c:Nat) (cells:List Int),v=AE.hN b (.slice a n c)/\AE.bT (AE.aE W) 1 AE.hv (.slice a n c) cells/\n=cells.length:=by
 obtain⟨cs,rfl,b5⟩:=okWide_struct QN ax;rw[aku] at b5;obtain⟨iI,f_,jE,lR,nU,pF,pG,rfl⟩:=akz b5;obtain⟨bk,h⟩:=h;obtain⟨_,DB,aJ,_⟩:=mF (i:=0) (ty:=25) (off:=0) QN az akt h;obtain⟨_,ve,h1,_⟩:=mF (i:=1) (ty:=26) (off:=6) QN az akv h;obtain⟨_,z0,ng,_⟩:=mF (i:=0) (ty:=23) (off:=0) Zg az JU aJ;obtain⟨_,vm,g1,_⟩:=mF (i:=1) (ty:=23) (off:=3) Zg az JU aJ;obtain⟨lo,bA⟩:=QO ng;obtain⟨q1,e1⟩:=QO g1;obtain⟨a,n,c,l,e2,jD,ak⟩:=Zj (ch:=AE.hv) Tryz.underlying26 ye ck (λ_=>rfl) (λ_ _ _ h=>C1 h) h1;have f0:[iI,f_,jE]=[.int .i64 lo.1,.int .i64 lo.2.1,.int .i64 lo.2.2]:=bA;have f1:[lR,nU,pF]=[.int .i64 q1.1,.int .i64 q1.2.1,.int .i64 q1.2.2]:=e1;have f2:[pG]=[.slice a n c]:=e2;simp only [List.cons.injEq,and_true] at f0 f1 f2;refine⟨(lo.1,lo.2.1,lo.2.2,q1.1,q1.2.1,q1.2.2),a,n,c,l,?_,jD,ak⟩;rw[f0.1,f0.2.1,f0.2.2,f1.1,f1.2.1,f1.2.2,f2]
end
end
end Go.Proofs.YtepcfjbfkedlpaaGreatDoor
namespace Go.Proofs.YtepcfjbfkedlpaaGreatDoor
open Go Go.Proofs Go.RowKit
namespace AE
theorem Zl:∀(l:List iv) (x:iv) (s:List Int×List Bool),vM (l++[x]) s=((vM l s).1.set x.1 x.2.1,(vM l s).2.set x.1 x.2.2)
 |[],_,_=>rfl
 |_::l,x,s=>Zl l x _
variable {table:List cc} {b:bw}
theorem akB (u:hM):vM (gq table b u).2.reqs ((gq table b u).2.lit,(gq table b u).2.bO)=vM u.reqs (u.lit,u.bO)/\(gq table b u).2.reqs.length<=u.reqs.length:=by
 by_cases h1:0<u.bz.length
 ·rw[FB h1]
  obtain⟨q1,aB,b_⟩:=WD (table:=table) (b:=b) u (u.bz.getD 0 default) (u.bz.drop 1);dsimp only;rw[q1,aB,b_];exact⟨rfl,bL _⟩
 ·by_cases ae:0<u.bp.length
  ·rw[FC h1 ae]
   obtain⟨q1,aB,b_⟩:=WE (table:=table) (b:=b) u (u.bp.getD 0 default) (u.bp.drop 1);dsimp only;rw[q1,aB,b_];exact⟨rfl,bL _⟩
  ·by_cases ar:0<u.reqs.length
   ·rw[FD h1 ae ar]
    have:=FF (d:=default) (List.length_pos_iff.1 ar);refine⟨?_,?_⟩
    ·conv=>rhs;rw[this]
     rfl
    ·show (u.reqs.drop 1).length<=_
     rw[List.length_drop];omega
   ·rw[FE h1 ae ar]
    exact⟨rfl,bL _⟩
theorem JX:∀(f:Nat) (u:hM),vM (hy table b f u).2.reqs ((hy table b f u).2.lit,(hy table b f u).2.bO)=vM u.reqs (u.lit,u.bO)/\(hy table b f u).2.reqs.length<=u.reqs.length
 |0,_=>⟨rfl,bL _⟩
 |f+1,u=>by
  unfold hy;split
  ·obtain⟨q1,aB⟩:=JX f (gq table b u).2
   obtain⟨cQ,dr⟩:=akB (table:=table) (b:=b) u;exact⟨q1.trans cQ,Nat.le_trans aB dr⟩
  ·exact⟨rfl,bL _⟩
def q' (e:bJ):Prop:=e.u.bz.length=0/\e.u.bp.length=0/\e.u.reqs.length=0
instance (e:bJ):Decidable (q' e):=by unfold q';infer_instance
def uH (e:bJ):Nat:=gI e.b e.u
def xy (e:bJ) (n:Int):Nat:=(hy e.table e.b n.toNat e.u).1
def C3 (e:bJ):Nat:=(hy e.table e.b (gI e.b e.u) e.u).1
theorem Zm {u:hM} (h:(gq table b u).1=false):u.bz.length=0/\u.bp.length=0/\u.reqs.length=0:=by
 by_cases h1:0<u.bz.length
 ·rw[FB h1] at h;cases h
 ·by_cases ae:0<u.bp.length
  ·rw[FC h1 ae] at h;cases h
  ·by_cases ar:0<u.reqs.length
   ·rw[FD h1 ae ar] at h;cases h
   ·exact⟨aj,aj,aj⟩
theorem fo.run {e:bJ} (h:fo e) (f:Nat) {u':hM} (hu:u'=(hy e.table e.b f e.u).2) (aA:fw e.table e.b u'):fo {e with u:=u'}:=by
 subst hu;obtain⟨q1,aB⟩:=JX (table:=e.table) (b:=e.b) f e.u;have hl:=aA.len.trans h.nz.len.symm;exact⟨aA,h.lc.trans hl.symm,h.l7.trans hl.symm,Nat.le_trans aB h.CX,q1.trans h.yq⟩
theorem fo.wQ {e:bJ} (h:fo e) (n:Int):fo (lE e n)/\xy e n<=n.toNat/\(xy e n<n.toNat->q' (lE e n))/\xy e n+uH (lE e n)<=uH e/\(lE e n).u.reqs.length<=e.u.reqs.length:=by
 obtain⟨q1,aB⟩:=h.nz.run n.toNat;obtain⟨cQ,_,_,tj⟩:=JA (table:=e.table) (b:=e.b) n.toNat e.u;refine⟨h.run n.toNat rfl q1,cQ,λbt=> ?_,aB,(JX (table:=e.table) (b:=e.b) n.toNat e.u).2⟩;have ak:=tj.resolve_left (Nat.ne_of_lt bt);exact Zm ak
theorem fo.set {e:bJ} (h:fo e):fo (o3 e)/\q' (o3 e)/\C3 e+uH (o3 e)<=uH e/\(o3 e).u.reqs.length<=e.u.reqs.length:=by
 obtain⟨q1,aB,b_⟩:=h.nz.settle;exact⟨h.run _ rfl q1,Zm aB,b_,(JX (table:=e.table) (b:=e.b) _ e.u).2⟩
theorem fo.full {e:bJ} (h:fo e) (hs:q' e):oU (er e.b) (gf e.table e.cells e.known) (cw e.u.av)/\e.u.lit=e.cells/\e.u.bO=e.known:=by
 unfold q' at hs;have ak:gq e.table e.b e.u=(false,e.u):=FE aj aj aj;obtain⟨_,_,_,hr,_,aO⟩:=h.nz.done (by rw[ak]);have hp:=h.yq;rw[hr] at hp;have h1:e.u.lit=e.cells:=congrArg Prod.fst hp;have ae:e.u.bO=e.known:=congrArg Prod.snd hp;rw[h1,ae] at aO;exact⟨aO,h1,ae⟩
def refuse (e:bJ) (p:dc):Prop:=e.most<=((e.u.reqs.length:Nat):Int)
theorem Zn {α:Type} {l:List α} {k:Nat} {d:α}:l.set k (l.getD k d)=l:=by
 apply List.ext_getElem?;intro i;rw[List.getElem?_set];split
 ·rename_i ag
  subst ag;split
  ·rename_i hl
   rw[c_,fy hl];rfl
  ·rename_i hl
   exact(List.getElem?_eq_none aj).symm
 ·rfl
theorem fo.ask {e:bJ} (h:fo e) (hr:e.u.reqs.length<10000) {p:dc} (hp:cX p e.b) {x:iv} (ah:x.1=bV e.b p) {c:List Int} {k:List Bool} (ai:c=e.cells.set (bV e.b p) x.2.1) (ag:k=e.known.set (bV e.b p) x.2.2):
  fo {e with u:={e.u with reqs:=e.u.reqs++[x]},cells:=c,known:=k}/\gI e.b {e.u with reqs:=e.u.reqs++[x]}=uH e+pt (er e.b).N:=by
 have hl:x.1<e.u.bO.length:=by rw[ah,h.nz.len];exact s9 hp
 obtain⟨q1,aB⟩:=h.nz.ask hl;refine⟨⟨q1,?_,?_,?_,?_⟩,aB⟩
 ·subst ai;exact(List.length_set).trans h.lc
 ·subst ag;exact(List.length_set).trans h.l7
 ·show (e.u.reqs++[x]).length<=10000
  rw[List.length_append,List.length_singleton];omega
 ·show vM (e.u.reqs++[x]) _=_
  rw[Zl,h.yq,ai,ag,ah]
theorem C4 {e:bJ} {p:dc} {c:Int} (h:jZ e.b e.most p e.u.reqs c≠0):iC e p c=e:=by
 obtain⟨u,b,table,cells,known,most⟩:=e;by_cases ai:kV c
 ·have ak:¬acc b most p u.reqs.length:=λq=>h (by unfold jZ iB;dsimp only;rw[aI ai,aI q.1,aG q.2])
  unfold iC CQ CR yU yV;dsimp only;rw[aG ak,aG ak,ite_self,ite_self]
 ·unfold iC CQ CR
  dsimp only;rw[aG ai,aG ai]
theorem JY {e:bJ} {p:dc} {k:Bool} (h:iB e.b e.most p e.u.reqs≠0):jx e p k=e:=by
 obtain⟨u,b,table,cells,known,most⟩:=e;have ak:¬acc b most p u.reqs.length:=λq=>h (by unfold iB;dsimp only;rw[aI q.1,aG q.2])
 unfold jx yU yV;dsimp only;rw[aG ak,aG ak]
theorem JZ {e:bJ} {p:dc} {c:Int} (h:jZ e.b e.most p e.u.reqs c=0):kV c/\cX p e.b/\¬e.most<=((e.u.reqs.length:Nat):Int)/\iC e p c={e with u:={e.u with reqs:=e.u.reqs++[(bV e.b p,c,e.known.getD (bV e.b p) default)]},cells:=e.cells.set (bV e.b p) c}:=by
 unfold jZ iB at h;split at h
 ·split at h
  ·split at h
   ·cases h
   ·rename_i h1 ae ar
    have a_:acc e.b e.most p e.u.reqs.length:=⟨ae,ar⟩;unfold iC CQ CR yU yV;rw[aI h1,aI h1,aI a_,aI a_];exact⟨h1,ae,ar,rfl⟩
  ·cases h
 ·cases h
theorem QP {e:bJ} {p:dc} {k:Bool} (h:iB e.b e.most p e.u.reqs=0):cX p e.b/\¬e.most<=((e.u.reqs.length:Nat):Int)/\jx e p k={e with u:={e.u with reqs:=e.u.reqs++[(bV e.b p,e.cells.getD (bV e.b p) default,k)]},known:=e.known.set (bV e.b p) k}:=by
 unfold iB at h;split at h
 ·split at h
  ·cases h
  ·rename_i ae ar
   have a_:acc e.b e.most p e.u.reqs.length:=⟨ae,ar⟩;unfold jx yU yV;rw[aI a_,aI a_];exact⟨ae,ar,rfl⟩
 ·cases h
theorem fo.bF {e:bJ} (h:fo e) (hr:e.u.reqs.length<10000) (p:dc) (c:Int):fo (iC e p c)/\(jZ e.b e.most p e.u.reqs c=0->(iC e p c).u.reqs.length=e.u.reqs.length+1/\uH (iC e p c)=uH e+pt (er e.b).N)/\(jZ e.b e.most p e.u.reqs c≠0->iC e p c=e):=by
 by_cases aJ:jZ e.b e.most p e.u.reqs c=0
 ·obtain⟨_,hp,_,he⟩:=JZ aJ
  rw[he];obtain⟨q1,aB⟩:=h.ask hr hp (x:=(bV e.b p,c,e.known.getD (bV e.b p) default)) U U Zn.symm;exact⟨q1,λ_=>⟨by show (e.u.reqs++[_]).length=_;rw[List.length_append,List.length_singleton],aB⟩,λak=>absurd aJ ak⟩
 ·rw[C4 aJ]
  exact⟨h,λak=>absurd ak aJ,λ_=>rfl⟩
theorem fo.bf {e:bJ} (h:fo e) (hr:e.u.reqs.length<10000) (p:dc) (k:Bool):fo (jx e p k)/\(iB e.b e.most p e.u.reqs=0->(jx e p k).u.reqs.length=e.u.reqs.length+1/\uH (jx e p k)=uH e+pt (er e.b).N)/\(iB e.b e.most p e.u.reqs≠0->jx e p k=e):=by
 by_cases aJ:iB e.b e.most p e.u.reqs=0
 ·obtain⟨hp,_,he⟩:=QP (k:=k) aJ
  rw[he];obtain⟨q1,aB⟩:=h.ask hr hp (x:=(bV e.b p,e.cells.getD (bV e.b p) default,k)) rfl Zn.symm rfl;exact⟨q1,λ_=>⟨by show (e.u.reqs++[_]).length=_;rw[List.length_append,List.length_singleton],aB⟩,λak=>absurd aJ ak⟩
 ·rw[JY aJ]
  exact⟨h,λak=>absurd ak aJ,λ_=>rfl⟩
theorem Zo (e:bJ) (x:fx):(dI e x).b=e.b/\(dI e x).table=e.table/\(dI e x).most=e.most:=by
 unfold dI;split
 ·exact⟨rfl,rfl,rfl⟩
 ·split
  ·exact⟨rfl,rfl,rfl⟩
  ·split
   ·exact⟨rfl,rfl,rfl⟩
   ·split<;>exact⟨rfl,rfl,rfl⟩
theorem fo.do {e:bJ} (h:fo e) (hr:e.u.reqs.length<10000) (x:fx):fo (dI e x)/\(dI e x).u.reqs.length<=e.u.reqs.length+1:=by
 unfold dI;split
 ·obtain⟨q1,aB,b_⟩:=h.bF hr (gK x) x.2.1
  refine⟨q1,?_⟩;by_cases aJ:jZ e.b e.most (gK x) e.u.reqs x.2.1=0
  ·rw[(aB aJ).1];exact bL _
  ·rw[b_ aJ];omega
 ·split
  ·obtain⟨q1,aB,b_⟩:=h.bf hr (gK x) x.2.2.2.2.2
   refine⟨q1,?_⟩;by_cases aJ:iB e.b e.most (gK x) e.u.reqs=0
   ·rw[(aB aJ).1];exact bL _
   ·rw[b_ aJ];omega
  ·split
   ·obtain⟨q1,_,_,_,hh⟩:=h.wQ x.2.1
    exact⟨q1,aj⟩
   ·split
    ·obtain⟨q1,_,_,hh⟩:=h.set
     exact⟨q1,aj⟩
    ·exact⟨h,aj⟩
theorem J0 {b:bw} {cells:List Int} {table:List cc} {known:List Bool} {most:Int} (h:mP b cells table known most) (ak:cells.length<=10000):fo (il b cells table known most)/\uH (il b cells table known most)<=361*cells.length:=by
 obtain⟨q1,aB,b_,eB⟩:=akq h ak;exact⟨⟨q1,aB,b_,Nat.zero_le _,rfl⟩,eB⟩
end AE
section
noncomputable section
namespace AE
section
variable {B:Nat} {W:ao} {au:List b4} {ro:List (fk bc)} {post:J->List (aw bc)->Prop} {n q:Nat} {env:List J} {L:List (aw bc)} {aL:List (eu bc)} {k:a7} {al:List Nat} {t:aK} {x y i:J}
theorem C5 {ty:aK} {s:eQ} (ah:ex (I (s.length:Nat)::env) (q+1) x=b1 s) (h:X B W au ro post (q+1) (I (s.length:Nat)::env) L aL k) (aF:bc.underlying t=some .string:=by kernel_rfl) (dY:aP x=true:=by rfl) (aA:Nat.blt q d_=true:=by rfl) (aU:n=q:=by rfl):
  X B W au ro post n env L aL (.o (.len #[t] ty x) (aq q) 1 al k):=
 ky _ (λM _ _ af hs=> @aZ.z6 (cn M (_::env)) bc t ty x (aq q) s dY rfl aF ((af x).trans ah) hs) h rfl aA aU
theorem QQ {s:eQ} {j:Nat} (ah:ex (.int .u8 (((s.getD j 0).toNat:Nat):Int)::env) (q+1) x=b1 s) (af:ex (.int .u8 (((s.getD j 0).toNat:Nat):Int)::env) (q+1) i=I (j:Nat)) (h:X B W au ro post (q+1) (.int .u8 (((s.getD j 0).toNat:Nat):Int)::env) L aL k) (hj:j<s.length:=by omega) (aF:bc.underlying t=some .string:=by kernel_rfl) (dY:aP x=true:=by rfl) (pi:aP i=true:=by rfl) (aA:Nat.blt q d_=true:=by rfl) (aU:n=q:=by rfl):
  X B W au ro post n env L aL (.o (.dP t x i) (aq q) 1 al k):=
 ky _ (λM _ _ kl hs=> @aZ.yc (cn M (_::env)) bc t x i (aq q) s j .i64 hj dY pi rfl aF ((kl x).trans ah) ((kl i).trans af) hs) h rfl aA aU
theorem akC {s m:eQ} (ah:ex (.bool (decide (s=m))::env) (q+1) x=b1 s) (a_:ex (.bool (decide (s=m))::env) (q+1) y=b1 m) (h:X B W au ro post (q+1) (.bool (decide (s=m))::env) L aL k) (dY:aP x=true:=by rfl) (h9:aP y=true:=by rfl) (aA:Nat.blt q d_=true:=by rfl) (aU:n=q:=by rfl):
  X B W au ro post n env L aL (.o (.bin .eql t x y) (aq q) 1 al k):=
 ky _ (λM _ _ af hs=>by
  by_cases e:s=m
  ·exact wU (@aZ.ad5 (cn M (_::env)) bc t x y s m dY h9 ((af x).trans ah) ((af y).trans a_) e) (by rw[hs,kF e];rfl)
  ·exact wU (@aZ.ad6 (cn M (_::env)) bc t x y s m dY h9 ((af x).trans ah) ((af y).trans a_) e) (by rw[hs,fD e];rfl)) h rfl aA aU
end
namespace Zp
def t:a7:=
.o (.len #[29] 3 0) 1 1 [0,66]<|
.o (.bin .gtr 3 1 (I 300)) 2 1 []<|
.bb 2 (
 .ret (.bool false)) (
 .loop [I 0,.bool false] 2<|
 .o (.len #[29] 3 0) 5 1 [0,66]<|
 .o (.bin .lss 3 3 5) 6 1 []<|
 .bb 6 (
  .o (.cm 29 0 3) 7 1 [0,66,8]<|
  .o (.b7 66 7 0) 8 1 [0,9,1]<|
  .o (.bf 9 8) 9 1 [1]<|
  .o (.len #[9] 3 9) 10 1 [2]<|
  .o (.bin .gtr 3 10 (I 60)) 11 1 []<|
  .bb 11 (
   .c4<|
   .ret (.bool false)) (
   .o (.bin .add 3 3 (I 1)) 12 1 []<|
   .back [12,4])) (
  .c4<|
  .ret (.bool true)))
theorem bB:cZ Tryz.prog 46 {} [0] 1=some t:=dg az
theorem any {W:ao} {jj:J} {l:List cc} (hl:bT (aE W) 8 gm jj l):hK bc 46 [jj] W (.bool (decide (yo l))):=by
 obtain⟨a,c,rfl⟩:=hl.slice;refine fV (ro:=[⟨gg,.slice a l.length c,l⟩]) mixed bB [.slice a l.length c] (.cons hl (.nil _)) ?_;unfold t;refine aN ?_;refine bR rfl (λh=>bx (eG (afw aj))) λh=> ?_
 refine k_ Nat (λi=>[I (i:Nat),.bool false]) (λ_=>[]) (λi=>i<=l.length/\∀j,j<i->(l.getD j default).1.length<=60) (λi=>l.length-i) 0 U U ⟨Nat.zero_le _,λj hj=>absurd hj (Nat.not_lt_zero j)⟩ (λi af=> ?_);obtain⟨af,bg⟩:=af;refine aN ?_;refine bR rfl (λbt=> ?_) λbt=>hV (bx (congrArg Value.bool (kF (afy aj λj h=>bg j aj)).symm))
 have bt:i<l.length:=by omega
 refine ie (K:=gg) (l:=l) (j:=i) U U ?_;refine Cu (K:=gg) (l:=l) (j:=i) rfl ?_;refine mM (K:=gg) (l:=l) (j:=i) (o:=0) (u:=b1 (l.getD i default).1) U U ?_;refine C5 (s:=(l.getD i default).1) rfl ?_;refine aN ?_;refine bR rfl (λh=>hV (bx (eG (afx bt aj)))) λh=> ?_
 refine aN ?_;refine h5 (i+1) U U ⟨bt,λj hj=> ?_⟩ aj;rcases Nat.lt_succ_iff_lt_or_eq.1 hj with h1|h1
 ·exact bg j h1
 ·rw[h1];omega
end Zp
def Gd (cells:List Int) (table:List cc) (known:List Bool):Prop:=yo table/\cells.length<=1000/\known.length<=1200
instance (cells:List Int) (table:List cc) (known:List Bool):Decidable (Gd cells table known):=by unfold Gd;infer_instance
def J1 (cells:List Int) (table:List cc) (known:List Bool) (n:Nat):Prop:=cells.length<=120/\n<=30/\Gd cells table known
instance (cells:List Int) (table:List cc) (known:List Bool) (n:Nat):Decidable (J1 cells table known n):=by unfold J1;infer_instance
namespace Zq
def t:a7:=
.c 46 [7] 9 1<|
.bb 9 (
 .o (.len #[26] 3 6) 10 1 [0,3]<|
 .o (.bin .leq 3 10 (I 1000)) 11 1 []<|
 .bb 11 (
  .o (.len #[30] 3 8) 12 1 [0,4]<|
  .o (.bin .leq 3 12 (I 1200)) 13 1 []<|
  .ret 13) (
  .ret (.bool false))) (
 .ret (.bool false))
theorem bB:cZ Tryz.prog 19 {} [.agg ⟨[0,1,2,3,4,5,6]⟩,7,8] 9=some t:=dg az
theorem any {W:ao} {b:bw} {a cr:Option Addr} {n c c2:Nat} {cells:List Int} {nw:J} {table:List cc} (aF:bT (aE W) 8 gm nw table) {known:List Bool} (ak:n=cells.length):hK bc 19 [hN b (.slice a n c),nw,.slice cr known.length c2] W (.bool (decide (Gd cells table known))):=by
 obtain⟨b2,cp,rfl⟩:=aF.slice;refine fV (ro:=[⟨gg,.slice b2 table.length cp,table⟩]) mixed bB [I b.1,I b.2.1,I b.2.2.1,I b.2.2.2.1,I b.2.2.2.2.1,I b.2.2.2.2.2,.slice a n c,.slice b2 table.length cp,.slice cr known.length c2] (.cons aF (.nil _)) ?_;unfold t;refine ew (v:= .bool (decide (yo table))) (λw hw=>Zp.any ((fU.ro (K:=gg) (v:= .slice b2 table.length cp) (l:=table) has).at hw)) ?_;refine bR rfl (λaJ=> ?_) λaJ=>bx (eG λh=>aJ h.1)
 refine aN ?_;refine bR rfl (λh1=> ?_) λh1=>bx (eG λh=>by have:=h.2.1;omega)
 refine aN ?_;exact bx (FJ ⟨λh=>⟨aJ,aj,aj⟩,λh=>by have:=h.2.2;omega⟩)
end Zq
namespace Zr
def t:a7:=
.o (.len #[26] 3 6) 10 1 [0,3]<|
.o (.bin .leq 3 10 (I 120)) 11 1 []<|
.bb 11 (
 .o (.len #[31] 3 9) 12 1 [0,42]<|
 .o (.bin .leq 3 12 (I 30)) 13 1 []<|
 .bb 13 (
  .c 19 [.agg ⟨[0,1,2,3,4,5,6]⟩,7,8] 14 1<|
  .ret 14) (
  .ret (.bool false))) (
 .ret (.bool false))
theorem bB:cZ Tryz.prog 5 {} [.agg ⟨[0,1,2,3,4,5,6]⟩,7,8,9] 10=some t:=dg az
theorem any (W:ao) {b:bw} {a:Option Addr} {n c:Nat} {cells:List Int} (oz:bT (aE W) 1 hv (.slice a n c) cells) {nw:J} {table:List cc} (aF:bT (aE W) 8 gm nw table) {o2:J} {known:List Bool} (jr:bT (aE W) 1 hx o2 known) {jj:J} {l:List fx} (hl:bT (aE W) 6 xv jj l) (kM:n=cells.length):hK bc 5 [hN b (.slice a n c),nw,o2,jj] W (.bool (decide (J1 cells table known l.length))):=by
 obtain⟨b2,cp,rfl⟩:=aF.slice;obtain⟨cr,c2,rfl⟩:=jr.slice;obtain⟨a3,c3,rfl⟩:=hl.slice;refine fV (ro:=[⟨gg,.slice b2 table.length cp,table⟩]) mixed bB [I b.1,I b.2.1,I b.2.2.1,I b.2.2.2.1,I b.2.2.2.2.1,I b.2.2.2.2.2,.slice a n c,.slice b2 table.length cp,.slice cr known.length c2,.slice a3 l.length c3] (.cons aF (.nil _)) ?_;unfold t;refine aN ?_;refine bR rfl (λh1=> ?_) λh1=>bx (eG λh=>by have:=h.1;omega)
 refine aN ?_;refine bR rfl (λae=> ?_) λae=>bx (eG λh=>by have:=h.2.1;omega)
 refine ew (v:= .bool (decide (Gd cells table known))) (λw hw=>Zq.any (cells:=cells) ((fU.ro (K:=gg) (v:= .slice b2 table.length cp) (l:=table) has).at hw) kM) ?_;exact bx (FJ ⟨λh=>⟨aj,aj,h⟩,λh=>h.2.2⟩)
end Zr
end AE
end
end
namespace AE
def QR:cc:=([97,105,114],false,false,false,1,0,0,0)
def qo:List cc:=[QR,([115,116,111,110,101],true,false,false,16,0,0,0),([103,108,97,115,115],true,false,false,1,0,0,0),([108,97,109,112],true,false,false,16,15,14,10),([115,97,110,100],true,false,true,16,0,0,0),([119,97,116,101,114],false,true,false,3,0,0,0),([108,101,97,118,101,115],true,false,false,2,0,0,0),([101,109,98,101,114],true,false,false,16,9,3,0),([102,111,103],false,false,false,2,0,0,0)]
def C6:bw:=(0,0,0,1,1,4)
def zm:bJ:=il C6 [3,0,0,0] qo [] 2
def r8:bJ:=o3 zm
end AE
namespace AE
def J2:bJ:=iC r8 (0,0,0) 0
def uI:bJ:=o3 J2
def A7:bJ:=iC uI (0,0,1) 3
def n8:bJ:=jx A7 (0,0,1) true
def o4:bJ:=lE n8 1
theorem Zs:mP C6 [3,0,0,0] qo [] 2:=of_decide_eq_true az
theorem akD:¬mP C6 [3,0,0,0] qo [] 0:=λh=>by
 have:=h.2.1;omega
theorem QS:fo zm:=(J0 Zs ck).1
theorem Zt:fo r8:=QS.set.1
theorem akE:r8.u.reqs.length<10000:=Nat.lt_of_le_of_lt QS.set.2.2.2 (by show (0:Nat)<_;decide)
theorem Zu:fo J2:=(Zt.bF akE _ _).1
theorem Zv:fo uI:=Zu.set.1
theorem akF:jZ r8.b r8.most (0,0,0) r8.u.reqs 0=0:=az
theorem akG:uI.u.reqs.length=0:=az
theorem akH:A7.u.reqs.length=1:=az
theorem akI:n8.u.reqs.length=2:=az
theorem Zw:fo A7:=(Zv.bF (by rw[akG];decide) _ _).1
theorem J3:fo n8:=(Zw.bf (by rw[akH];decide) _ _).1
theorem akJ:q' r8:=of_decide_eq_true az
theorem akK:¬q' n8:=λh=>by have:=h.2.2;rw[akI] at this;cases this
theorem akL:(r8.u.av.map λx=>x.1)=[15,14,13,12]:=az
theorem akM:(r8.u.av.map λx=>x.2.2.1)=[10,9,8,7]:=az
theorem akN:(r8.u.av.map λx=>x.2.2.2)=[0,15,15,15]:=az
theorem akO:(uI.u.av.map λx=>x.1)=[0,0,0,0]:=az
theorem akP:(uI.u.av.map λx=>x.2.2.2)=[15,15,15,15]:=az
theorem Zx:r8.u.av.length=4:=az
theorem Zy:uI.u.av.length=4:=az
theorem n2:0<((C3 J2:Nat):Int):=of_decide_eq_true az
theorem akQ:jZ uI.b uI.most (0,0,1) uI.u.reqs 3=0:=az
theorem akR:iB A7.b A7.most (0,0,1) A7.u.reqs=0:=az
theorem Zz:jZ n8.b n8.most (0,0,1) n8.u.reqs 3=16:=az
theorem ZA:jZ n8.b n8.most (0,0,4) n8.u.reqs 0=1:=az
theorem akS:iC n8 (0,0,1) 3=n8:=C4 (by rw[Zz];decide)
theorem akT:iC n8 (0,0,4) 0=n8:=C4 (by rw[ZA];decide)
theorem akU:xy n8 1=1:=az
theorem ZB:o4.known.length=4:=az
theorem ZC:o4.cells.length=4:=az
theorem akV:o4.cells.getD 1 default=3:=az
theorem J4 {W:ao} {g:Nat} {A:dM} {e e':bJ} {p:dc} {c n:Int} (h:bY (aE W) [fl g A e]) (dd:fo e) (h1:iC e p c=e') (ae:jZ e.b e.most p e.u.reqs c=n):
  Calls Tryz.prog 24 #[bK g,P.val p,.int .i64 c] W λx w'=>(∃aS:dM,x= .returned (.int .i64 n)/\ef (aE W) [fl g A e] (aE w') [fl g aS e'])/\cA 0 W w':=by
 subst h1 ae;exact Za W h p c dd.nz.box dd.A5 dd.A6 dd.JT
theorem akW {W:ao} {g:Nat} {A:dM} {e e':bJ} {p:dc} {k:Bool} {n:Int} (h:bY (aE W) [fl g A e]) (dd:fo e) (h1:jx e p k=e') (ae:iB e.b e.most p e.u.reqs=n):
  Calls Tryz.prog 25 #[bK g,P.val p,.bool k] W λx w'=>(∃aS:dM,x= .returned (.int .i64 n)/\ef (aE W) [fl g A e] (aE w') [fl g aS e'])/\cA 0 W w':=by
 subst h1 ae;exact Zb W h p k dd.nz.box dd.A5 dd.A6 dd.JT
theorem ZD {W:ao} {g:Nat} {A:dM} {e e':bJ} {k:Int} {n:Int} (h:bY (aE W) [fl g A e]) (dd:fo e) (h1:lE e k=e') (ae:((xy e k:Nat):Int)=n):
  Calls Tryz.prog 26 #[bK g,.int .i64 k] W λx w'=>(∃aS:dM,x= .returned (.int .i64 n)/\ef (aE W) [fl g A e] (aE w') [fl g aS e'])/\cA 0 W w':=by
 subst h1 ae;exact Y9 W h k dd.nz dd.CX
theorem QT {W:ao} {g:Nat} {A:dM} {e e':bJ} {n:Int} (h:bY (aE W) [fl g A e]) (dd:fo e) (h1:o3 e=e') (ae:((C3 e:Nat):Int)=n):
  Calls Tryz.prog 13 #[bK g] W λx w'=>(∃aS:dM,x= .returned (.int .i64 n)/\ef (aE W) [fl g A e] (aE w') [fl g aS e'])/\cA 0 W w':=by
 subst h1 ae;exact Y8 W h dd.nz dd.CX
theorem ZE {W:ao} {g:Nat} {A:dM} {e:bJ} (h:bY (aE W) [fl g A e]) (hs:q' e):
  Calls Tryz.prog 12 #[bK g] W λx w'=>(∃_:Unit,x= .returned (.bool true)/\ef (aE W) [fl g A e] (aE w') [fl g A e])/\cA 0 W w':=by
 have:=JS W h
 rwa [kF (show e.u.bz.length=0/\e.u.bp.length=0/\e.u.reqs.length=0 from hs)] at this
theorem akX {W:ao} {g:Nat} {A:dM} {e:bJ} (h:bY (aE W) [fl g A e]) (hs:¬q' e):
  Calls Tryz.prog 12 #[bK g] W λx w'=>(∃_:Unit,x= .returned (.bool false)/\ef (aE W) [fl g A e] (aE w') [fl g A e])/\cA 0 W w':=by
 have:=JS W h
 rwa [fD (show ¬(e.u.bz.length=0/\e.u.bp.length=0/\e.u.reqs.length=0) from hs)] at this
theorem ZF {W:ao} {L:List b4} (hs:bY (aE W) L) {ij:Option Addr} {hO ik:Nat} {cells:List Int} (oz:bT (aE W) 1 hv (.slice ij hO ik) cells) {b:bw} {nw o2:J} {table:List cc} {known:List Bool} (aF:bT (aE W) 8 gm nw table) (jr:bT (aE W) 1 hx o2 known) {most:Int}
  (bU:lP (aE W)) (ak:cells.length<=10000) (kM:hO=cells.length) (mH:known.length<=100000) (xk:table.length<=100000) (ad:mP b cells table known most):
  Calls Tryz.prog 7 #[hN b (.slice ij hO ik),nw,o2,.int .i64 most] W λx w'=>(∃y:Nat×dM,x= .returned (.tuple ⟨[bK y.1,.int .i64 0]⟩)/\ef (aE W) L (aE w') (L++[fl y.1 y.2 (il b cells table known most)]))/\cA 0 W w':=
 (Zc W oz aF jr most bU ak kM mH xk).mono λx w' ah=>by
   obtain⟨h,hl⟩:=ah;rw[aI ad] at h;obtain⟨g,A,rfl,t⟩:=h;exact⟨⟨(g,A),rfl,(hs.own.new t).IU⟩,hl.zero⟩
theorem ZG {W:ao} {L:List b4} (hs:bY (aE W) L) {ij:Option Addr} {hO ik:Nat} {cells:List Int} (oz:bT (aE W) 1 hv (.slice ij hO ik) cells) {b:bw} {nw o2:J} {table:List cc} {known:List Bool} (aF:bT (aE W) 8 gm nw table) (jr:bT (aE W) 1 hx o2 known) {most:Int}
  (bU:lP (aE W)) (ak:cells.length<=10000) (kM:hO=cells.length) (mH:known.length<=100000) (xk:table.length<=100000) (ad:¬mP b cells table known most):
  Calls Tryz.prog 7 #[hN b (.slice ij hO ik),nw,o2,.int .i64 most] W λx w'=>(∃_:Unit,x= .returned (.tuple ⟨[.pointer none,.int .i64 1]⟩)/\ef (aE W) L (aE w') L)/\cA 0 W w':=
 agl hs ((Zc W oz aF jr most bU ak kM mH xk).mono λx w' ah=>by
  obtain⟨h,hl⟩:=ah;rw[aG ad] at h
  exact⟨h,hl⟩)
theorem ZH {P:aQ} {f:FuncId} {args:Array J} {w:ao} {p:Prop} [Decidable p] (h:Calls P f args w λe w'=>e= .returned (.bool (decide p))/\cA w.heap.size w w') (hp:p):Calls P f args w λe w'=>e= .returned (.bool true)/\cA w.heap.size w w':=by
 rwa [kF hp] at h
end AE
namespace AE
theorem akY {p:dc} {b:bw} (h:cX p b):vw b p=(p.1-b.1)+((bE b).1*((p.2.1-b.2.1)+((bE b).2.1*(p.2.2-b.2.2.1)))):=by
 rw[Js h];have e1:p.2.2+((-1)*b.2.2.1)=p.2.2-b.2.2.1:=by omega
 have e2:p.2.1+((-1)*b.2.1)=p.2.1-b.2.1:=by omega
 have fI:p.1+((-1)*b.1)=p.1-b.1:=by omega
 rw[e1,e2,fI,Int.mul_comm (p.2.2-b.2.2.1),Int.add_comm (((bE b).2.1*(p.2.2-b.2.2.1))),Int.mul_comm _ (bE b).1,Int.add_comm]
theorem akZ {p:dc} {b:bw} (ad:okB b) (h:cX p b):0<=((bE b).2.1*(p.2.2-b.2.2.1))/\((bE b).2.1*(p.2.2-b.2.2.1))<=4398038122500/\0<=((bE b).1*((p.2.1-b.2.1)+((bE b).2.1*(p.2.2-b.2.2.1))))/\((bE b).1*((p.2.1-b.2.1)+((bE b).2.1*(p.2.2-b.2.2.1))))<=9223345648600875000:=by
 have q:=Jt ad h;have e1:p.2.2+((-1)*b.2.2.1)=p.2.2-b.2.2.1:=by omega
 have e2:p.2.1+((-1)*b.2.1)=p.2.1-b.2.1:=by omega
 rw[e1,e2,Int.mul_comm (p.2.2-b.2.2.1),Int.add_comm (((bE b).2.1*(p.2.2-b.2.2.1))),Int.mul_comm _ (bE b).1] at q;exact q
end AE
section
noncomputable section
namespace AE
namespace J5
def t:a7:=
.o (.bin .geq 3 0 3) 9 1 []<|
.bb 9 (
 .o (.bin .lss 3 0 6) 10 1 []<|
 .o (.bin .geq 3 1 4) 11 1 []<|
 .bb 11 (
  .o (.bin .lss 3 1 7) 12 1 []<|
  .o (.bin .geq 3 2 5) 13 1 []<|
  .bb 13 (
   .o (.bin .lss 3 2 8) 14 1 []<|
   .bb 10 (
    .bb 12 (
     .ret 14) (
     .ret (.bool false))) (
    .ret (.bool false))) (
   .bb 10 (
    .bb 12 (
     .ret (.bool false)) (
     .ret (.bool false))) (
    .ret (.bool false)))) (
  .o (.bin .geq 3 2 5) 12 1 []<|
  .bb 12 (
   .o (.bin .lss 3 2 8) 13 1 []<|
   .bb 10 (
    .ret (.bool false)) (
    .ret (.bool false))) (
   .bb 10 (
    .ret (.bool false)) (
    .ret (.bool false))))) (
 .o (.bin .geq 3 1 4) 10 1 []<|
 .bb 10 (
  .o (.bin .lss 3 1 7) 11 1 []<|
  .o (.bin .geq 3 2 5) 12 1 []<|
  .bb 12 (
   .o (.bin .lss 3 2 8) 13 1 []<|
   .ret (.bool false)) (
   .ret (.bool false))) (
  .o (.bin .geq 3 2 5) 11 1 []<|
  .bb 11 (
   .o (.bin .lss 3 2 8) 12 1 []<|
   .ret (.bool false)) (
   .ret (.bool false))))
theorem bB:cZ Tryz.prog 62 {} [.agg ⟨[0,1,2]⟩,.agg ⟨[3,4,5,6,7,8]⟩] 9=some t:=dg az
theorem any (W:ao) (p:dc) (b:bw):Calls Tryz.prog 62 #[P.val p,X.val b] W λe w'=>e= .returned (.bool (decide (cX p b)))/\cA W.heap.size W w':=by
 refine fV (ro:=[]) mixed bB [I p.1,I p.2.1,I p.2.2,I b.1,I b.2.1,I b.2.2.1,I b.2.2.2.1,I b.2.2.2.2.1,I b.2.2.2.2.2] (.nil _) ?_;unfold t;refine aN ?_;refine bR rfl (λ_=> ?_) λ_=> ?_
 ·refine aN ?_
  refine bR rfl (λ_=> ?_) λ_=> ?_
  ·refine aN ?_
   refine bR rfl (λ_=> ?_) λ_=> ?_
   ·refine aN ?_
    refine bR rfl (λ_=> ?_) λ_=> ?_
    ·refine bR rfl (λ_=> ?_) λ_=> ?_
     ·exact bx (congrArg Value.bool (decide_eq_decide.2 (by unfold cX;omega)))
     ·exact bx (eG (by unfold cX;omega))
    ·exact bx (eG (by unfold cX;omega))
   ·refine bR rfl (λ_=> ?_) λ_=> ?_
    ·refine bR rfl (λ_=> ?_) λ_=> ?_
     ·exact bx (eG (by unfold cX;omega))
     ·exact bx (eG (by unfold cX;omega))
    ·exact bx (eG (by unfold cX;omega))
  ·refine aN ?_
   refine bR rfl (λ_=> ?_) λ_=> ?_
   ·refine aN ?_
    refine bR rfl (λ_=> ?_) λ_=> ?_
    ·exact bx (eG (by unfold cX;omega))
    ·exact bx (eG (by unfold cX;omega))
   ·refine bR rfl (λ_=> ?_) λ_=> ?_
    ·exact bx (eG (by unfold cX;omega))
    ·exact bx (eG (by unfold cX;omega))
 ·refine aN ?_
  refine bR rfl (λ_=> ?_) λ_=> ?_
  ·refine aN ?_
   refine bR rfl (λ_=> ?_) λ_=> ?_
   ·refine aN ?_
    exact bx (eG (by unfold cX;omega))
   ·exact bx (eG (by unfold cX;omega))
  ·refine aN ?_
   refine bR rfl (λ_=> ?_) λ_=> ?_
   ·refine aN ?_
    exact bx (eG (by unfold cX;omega))
   ·exact bx (eG (by unfold cX;omega))
end J5
namespace ZI
def t:a7:=
.o (.bin .geq 3 0 3) 6 1 []<|
.bb 6 (
 .ret (.bool true)) (
 .o (.bin .geq 3 1 4) 7 1 []<|
 .bb 7 (
  .ret (.bool true)) (
  .o (.bin .geq 3 2 5) 8 1 []<|
  .ret 8))
theorem bB:cZ Tryz.prog 110 {} [.agg ⟨[0,1,2,3,4,5]⟩] 6=some t:=dg az
theorem any {W:ao} (b:bw):hK bc 110 [.agg ⟨lB b⟩] W (.bool (!decide (ig b))):=by
 refine fV (ro:=[]) mixed bB [I b.1,I b.2.1,I b.2.2.1,I b.2.2.2.1,I b.2.2.2.2.1,I b.2.2.2.2.2] (.nil _) ?_;unfold t;refine aN ?_;refine bR rfl (λ_=> ?_) λ_=> ?_
 ·exact bx (WO (by unfold ig;omega))
 ·refine aN ?_
  refine bR rfl (λ_=> ?_) λ_=> ?_
  ·exact bx (WO (by unfold ig;omega))
  ·refine aN ?_
   exact bx (aiB (by unfold ig;omega))
end ZI
namespace QU
def t:a7:=
.o (.bin .sub 3 0 3) 6 1 []<|
.o (.bin .sub 3 1 4) 7 1 []<|
.o (.bin .sub 3 2 5) 8 1 []<|
.ret (.agg ⟨[6,7,8]⟩)
theorem bB:cZ Tryz.prog 104 {} [.agg ⟨[0,1,2]⟩,.agg ⟨[3,4,5]⟩] 6=some t:=dg az
theorem any {W:ao} {p q:dc} (hp: -2097152<=p.1/\p.1<=2097152/\ -2097152<=p.2.1/\p.2.1<=2097152/\ -2097152<=p.2.2/\p.2.2<=2097152) (aU: -2097152<=q.1/\q.1<=2097152/\ -2097152<=q.2.1/\q.2.1<=2097152/\ -2097152<=q.2.2/\q.2.2<=2097152):hK bc 104 [P.val p,P.val q] W (P.val (p.1-q.1,p.2.1-q.2.1,p.2.2-q.2.2)):=by
 refine fV (ro:=[]) mixed bB [I p.1,I p.2.1,I p.2.2,I q.1,I q.2.1,I q.2.2] (.nil _) ?_;unfold t;refine aN ?_;exact bx rfl
end QU
namespace J6
def t:a7:=
.c 110 [.agg ⟨[0,1,2,3,4,5]⟩] 6 1<|
.bb 6 (
 .ret (.agg ⟨[I 0,I 0,I 0]⟩)) (
 .c 104 [.agg ⟨[3,4,5]⟩,.agg ⟨[0,1,2]⟩] (.agg ⟨[7,8,9]⟩) 3<|
 .ret (.agg ⟨[7,8,9]⟩))
theorem bB:cZ Tryz.prog 77 {} [.agg ⟨[0,1,2,3,4,5]⟩] 6=some t:=dg az
theorem any (W:ao) (b:bw) (ad:okB b):Calls Tryz.prog 77 #[X.val b] W λe w'=>e= .returned (P.val (bE b))/\cA W.heap.size W w':=by
 refine fV (ro:=[]) mixed bB [I b.1,I b.2.1,I b.2.2.1,I b.2.2.2.1,I b.2.2.2.2.1,I b.2.2.2.2.2] (.nil _) ?_;unfold t;refine ew (v:= .bool (!decide (ig b))) (λw _=>ZI.any b) ?_;refine i_ rfl (λh=>bx ?_) λh=> ?_
 ·rw[CA h]
  rfl
 ·rw[vy h]
  unfold okB at ad;refine jV [I (b.2.2.2.1-b.1),I (b.2.2.2.2.1-b.2.1),I (b.2.2.2.2.2-b.2.2.1)] (λw _=>QU.any (p:=(b.2.2.2.1,b.2.2.2.2.1,b.2.2.2.2.2)) (q:=(b.1,b.2.1,b.2.2.1)) (by dsimp only;omega) (by dsimp only;omega)) rfl ?_;exact bx rfl
end J6
theorem ZJ {α:Type} [Inhabited α] {l k:List α} (hl:l.length=k.length) (h:∀j,j<l.length->l.getD j default=k.getD j default):l=k:=by
 apply List.ext_getElem hl;intro i h1 ae;have:=h i h1
 rwa [c_,c_,fy h1,fy ae] at this
namespace QV
def t:a7:=
.o (.len #[51] 3 0) 2 1 [0,85]<|
.o (.len #[51] 3 1) 3 1 [0,85]<|
.o (.bin .neq 3 2 3) 4 1 []<|
.bb 4 (
 .ret (.bool false)) (
 .loop [I 0,.bool false] 2<|
 .o (.len #[51] 3 0) 7 1 [0,85]<|
 .o (.bin .lss 3 5 7) 8 1 []<|
 .bb 8 (
  .o (.cm 51 0 5) 9 1 [0,85,4]<|
  .o (.bf 85 9) (.agg ⟨fC 4 10⟩) 4 [4]<|
  .o (.cm 51 1 5) 14 1 [0,85,4]<|
  .o (.bf 85 14) (.agg ⟨fC 4 15⟩) 4 [4]<|
  .o (.bin .neq 85 (.agg ⟨[10,11,12,13]⟩) (.agg ⟨[15,16,17,18]⟩)) 19 1 []<|
  .bb 19 (
   .c4<|
   .ret (.bool false)) (
   .o (.bin .add 3 5 (I 1)) 20 1 []<|
   .back [20,6])) (
  .c4<|
  .ret (.bool true)))
theorem bB:cZ Tryz.prog 16 {} [0,1] 2=some t:=dg az
theorem any (W:ao) {jj:J} {l:List bq} (hl:bT (aE W) 4 ch jj l) {Ge:J} {k:List bq} (ag:bT (aE W) 4 ch Ge k) (ak:l.length<=1000000):Calls Tryz.prog 16 #[jj,Ge] W λe w'=>e= .returned (.bool (decide (l=k)))/\cA W.heap.size W w':=by
 obtain⟨a,c,rfl⟩:=hl.slice;obtain⟨cr,c2,rfl⟩:=ag.slice;refine fV (ro:=[⟨ez,.slice a l.length c,l⟩,⟨ez,.slice cr k.length c2,k⟩]) mixed bB [.slice a l.length c,.slice cr k.length c2] (.cons hl (.cons ag (.nil _))) ?_;unfold t;refine aN ?_;refine bR rfl (λh=>bx ?_) λh=> ?_
 ·exact eG (λe=>h (by rw[e]))
 ·have u5:l.length=k.length:=by omega
  refine k_ Nat (λi=>[I (i:Nat),.bool false]) (λ_=>[]) (λi=>i<=l.length/\∀j,j<i->l.getD j default=k.getD j default) (λi=>l.length-i) 0 U U ⟨Nat.zero_le _,λj hj=>absurd hj (Nat.not_lt_zero j)⟩ (λi af=> ?_);obtain⟨af,bg⟩:=af;refine aN ?_;refine bR rfl (λbt=> ?_) λbt=> ?_
  ·have bt:i<l.length:=by omega
   have Fh:i<k.length:=by omega
   refine ie (K:=ez) (l:=l) (j:=i) U U ?_;refine nt (K:=ez) (l:=l) (j:=i) (o:=0) (c:=ch (l.getD i default)) U U U fL ?_;refine ie (K:=ez) (l:=k) (j:=i) U U ?_;refine nt (K:=ez) (l:=k) (j:=i) (o:=0) (c:=ch (k.getD i default)) U U U fL ?_;refine Cw (b:=decide (l.getD i default=k.getD i default)) U U ((Ws _ _).trans (by rw[Wt])) ?_;refine i_ rfl (λcv=> ?_) λheq=> ?_
   ·refine hV ?_
    refine bx ?_;exact eG (λe=>cv (by rw[e]))
   ·refine aN ?_
    refine h5 (i+1) U U ⟨bt,λj hj=> ?_⟩ aj;rcases Nat.lt_succ_iff_lt_or_eq.1 hj with h1|h1
    ·exact bg j h1
    ·rw[h1];exact heq
  ·refine hV ?_
   refine bx ?_;rw[kF (ZJ u5 λj hj=>bg j aj)];rfl
end QV
end AE
end
end
section
noncomputable section
namespace AE
namespace ZK
def t:a7:=
.o (.len #[26] 3 0) 2 1 [0,3]<|
.o (.len #[26] 3 1) 3 1 [0,3]<|
.o (.bin .neq 3 2 3) 4 1 []<|
.bb 4 (
 .ret (.bool false)) (
 .loop [I 0,.bool false] 2<|
 .o (.len #[26] 3 0) 7 1 [0,3]<|
 .o (.bin .lss 3 5 7) 8 1 []<|
 .bb 8 (
  .o (.cm 26 0 5) 9 1 [0,3,1]<|
  .o (.bf 3 9) 10 1 [1]<|
  .o (.cm 26 1 5) 11 1 [0,3,1]<|
  .o (.bf 3 11) 12 1 [1]<|
  .o (.bin .neq 3 10 12) 13 1 []<|
  .bb 13 (
   .c4<|
   .ret (.bool false)) (
   .o (.bin .add 3 5 (I 1)) 14 1 []<|
   .back [14,6])) (
  .c4<|
  .ret (.bool true)))
theorem bB:cZ Tryz.prog 22 {} [0,1] 2=some t:=dg az
theorem any (W:ao) {jj:J} {l:List Int} (hl:bT (aE W) 1 hv jj l) {Ge:J} {k:List Int} (ag:bT (aE W) 1 hv Ge k) (ak:l.length<=1000000):Calls Tryz.prog 22 #[jj,Ge] W λe w'=>e= .returned (.bool (decide (l=k)))/\cA W.heap.size W w':=by
 obtain⟨a,c,rfl⟩:=hl.slice;obtain⟨cr,c2,rfl⟩:=ag.slice;refine fV (ro:=[⟨di,.slice a l.length c,l⟩,⟨di,.slice cr k.length c2,k⟩]) mixed bB [.slice a l.length c,.slice cr k.length c2] (.cons hl (.cons ag (.nil _))) ?_;unfold t;refine aN ?_;refine bR rfl (λh=>bx ?_) λh=> ?_
 ·exact eG (λe=>h (by rw[e]))
 ·have u5:l.length=k.length:=by omega
  refine k_ Nat (λi=>[I (i:Nat),.bool false]) (λ_=>[]) (λi=>i<=l.length/\∀j,j<i->l.getD j default=k.getD j default) (λi=>l.length-i) 0 U U ⟨Nat.zero_le _,λj hj=>absurd hj (Nat.not_lt_zero j)⟩ (λi af=> ?_);obtain⟨af,bg⟩:=af;refine aN ?_;refine bR rfl (λbt=> ?_) λbt=> ?_
  ·have bt:i<l.length:=by omega
   have Fh:i<k.length:=by omega
   refine ie (K:=di) (l:=l) (j:=i) U U ?_;refine mM (K:=di) (l:=l) (j:=i) (o:=0) (u:=I (l.getD i default)) U U ?_;refine ie (K:=di) (l:=k) (j:=i) U U ?_;refine mM (K:=di) (l:=k) (j:=i) (o:=0) (u:=I (k.getD i default)) U U ?_;refine aN ?_;refine bR rfl (λcv=> ?_) λheq=> ?_
   ·refine hV ?_
    refine bx ?_;exact eG (λe=>cv (by rw[e]))
   ·refine aN ?_
    refine h5 (i+1) U U ⟨bt,λj hj=> ?_⟩ aj;rcases Nat.lt_succ_iff_lt_or_eq.1 hj with h1|h1
    ·exact bg j h1
    ·rw[h1];exact Decidable.not_not.1 heq
  ·refine hV ?_
   refine bx ?_;rw[kF (ZJ u5 λj hj=>bg j aj)];rfl
end ZK
namespace ZL
def t:a7:=
.o (.len #[51] 3 0) 2 1 [0,85]<|
.loop [.slice none 0 0,I 0] 2<|
.o (.bin .lss 3 4 2) 5 1 []<|
.bb 5 (
 .o (.cm 51 0 4) 6 1 [0,85,4]<|
 .o (.bf 85 6) (.agg ⟨fC 4 7⟩) 4 [4]<|
 .mJ 85<|
 .st 85 11 (.agg ⟨[7,8,9,10]⟩)<|
 .o (.cm 85 11 1) 12 1 [1,4,3,1]<|
 .o (.bf 3 12) 13 1 [1]<|
 .rT 26 3 [13]<|
 .o (.bin .add 3 4 (I 1)) 15 1 []<|
 .back [14,15]) (
 .c4<|
 .ret 3)
theorem bB:cZ Tryz.prog 23 {marks:=[85]} [0,1] 2=some t:=dg az
theorem any {W:ao} {a0:Option Addr} {cU bZ:Nat} {l:List bq} (aH:bY (aE W) (bD ([]:List (aw bc)))) (hl:bT (aE W) 4 ch (.slice a0 cU bZ) l) (aJ:cU=l.length) (ak:l.length<=10000) (k:Nat) (ag:k<4):
  ey bc 23 [.slice a0 cU bZ,I (k:Nat)] W [] cE (λy=> .slice y.1 (l.map λx=>AE.bF x k).length y.2) (λy=>[aw.arr di (.slice y.1 (l.map λx=>AE.bF x k).length y.2) (l.map λx=>AE.bF x k)]):=by
 subst aJ;obtain⟨F,cl⟩:∃F:Nat->List Int,F=λi=>(l.take i).map λx=>AE.bF x k:=⟨_,rfl⟩
 have f0:F 0=[]:=by rw[cl];rfl
 have gX:∀i,i<=l.length->(F i).length=i:=λi af=>by rw[cl];simp [af]
 have QW:F l.length=l.map λx=>AE.bF x k:=by rw[cl];simp
 have fs:∀i,i<l.length->F (i+1)=F i++[AE.bF (l.getD i default) k]:=λi af=>by
  rw[cl];show (l.take (i+1)).map _=(l.take i).map _++[AE.bF (l.getD i default) k];rw[List.take_succ_eq_append_getElem af,List.map_append,c_,fy af];rfl
 rw[<-QW];refine g_ (ro:=[⟨ez,.slice a0 l.length bZ,l⟩]) mixed bB [.slice a0 l.length bZ,I (k:Nat)] aH (dR.ext (.cons hl (.nil _))) ?_;unfold t;refine aN ?_;refine F6 (Nat×cE) (λu=>[.slice u.2.1 (F u.1).length u.2.2,I (u.1:Nat)]) (λu=>[aw.arr di (.slice u.2.1 (F u.1).length u.2.2) (F u.1)]) (λu=>u.1<=l.length) (λu=>l.length-u.1) (0,none,0) (by rw[f0];rfl) (by rw[f0];exact h4.JN di) (Nat.zero_le _) (λu hu=> ?_);obtain⟨i,a,c⟩:=u;have hu:i<=l.length:=hu;dsimp only;have tP:=gX i hu;refine aN ?_;refine bR rfl (λaf=> ?_) λaf=> ?_
 ·have af:i<l.length:=by omega
  refine ie (K:=ez) (l:=l) (j:=i) U U ?_;refine nt (K:=ez) (l:=l) (j:=i) (o:=0) (c:=ch (l.getD i default)) U U U fL ?_;refine uq (z:= .agg ⟨ch z4⟩) (ch z4) az rfl (λb=>iy) λsd=> ?_
  refine sT (m:=4) (us:=ch (l.getD i default)) (cs':=ch (l.getD i default)) U U fK rfl ?_;refine pB (j:=k) U U ?_;refine kz (u:=I (AE.bF (l.getD i default) k)) rfl has (vF ag) ?_;refine Fm (K:=di) (l:=F i) [AE.bF (l.getD i default) k] rfl (λa c=>fK) rfl (λcr c2=> ?_) (vE (by show _+1<=_;omega)) (by show (_+1)*8<=_;omega);rw[<-fs i af];refine aN ?_;exact uE (u:=(i,a,c)) (i+1,cr,c2) rfl (λM aV=>aV.pick [0] rfl) af (by show l.length-(i+1)<l.length-i;omega)
 ·obtain rfl:i=l.length:=by omega
  refine hV ?_;exact bx ⟨(a,c),rfl,rfl⟩
theorem to {W:ao} {v:J} {l:List bq} {r:List Int} {k:Nat} (e:(l.map λx=>AE.bF x k)=r) (ag:k<4) (ak:l.length<=10000) (aH:bY (aE W) (bD ([]:List (aw bc)))) (hl:bT (aE W) 4 ch v l):
  ey bc 23 [v,I (k:Nat)] W [] cE (λy=> .slice y.1 r.length y.2) (λy=>[aw.arr di (.slice y.1 r.length y.2) r]):=by
 subst e;obtain⟨a,c,rfl⟩:=hl.slice;exact any aH hl rfl ak k ag
end ZL
namespace QX
def t:a7:=
.ou 26 [I 3,I 0,I 0,I 0]<|
.ret (.agg ⟨[I 0,I 0,I 0,I 1,I 1,I 4,0]⟩)
theorem bB:cZ Tryz.prog 20 {marks:=[26]} [] 0=some t:=dg az
theorem any {W:ao} (aH:bY (aE W) (bD ([]:List (aw bc)))):ey bc 20 [] W [] cE (λy=>hN C6 (.slice y.1 [(3:Int),0,0,0].length y.2)) (λy=>[aw.arr di (.slice y.1 [(3:Int),0,0,0].length y.2) [3,0,0,0]]):=by
 refine g_ (ro:=[]) mixed bB [] aH dR.none ?_;unfold t;refine yE (K:=di) [3,0,0,0] U U (λa c=>iy) (λa c=> ?_) ⟨I 0,az⟩;exact bx ⟨(a,c),rfl,rfl⟩
end QX
namespace QY
def t:a7:=
.ret (.agg ⟨[b1 [97,105,114],.bool false,.bool false,.bool false,I 1,I 0,I 0,I 0]⟩)
theorem bB:cZ Tryz.prog 47 {} [] 0=some t:=dg az
theorem any {W:ao}:hK bc 47 [] W (M.val QR):=by
 refine fV (ro:=[]) mixed bB [] (.nil _) ?_;unfold t;exact bx rfl
end QY
namespace QZ
def t:a7:=
.c 47 [] (.agg ⟨[0,1,2,3,4,5,6,7]⟩) 8<|
.ou 29 [.agg ⟨[0,1,2,3,4,5,6,7]⟩,.agg ⟨[b1 [115,116,111,110,101],.bool true,.bool false,.bool false,I 16,I 0,I 0,I 0]⟩,.agg ⟨[b1 [103,108,97,115,115],.bool true,.bool false,.bool false,I 1,I 0,I 0,I 0]⟩,.agg ⟨[b1 [108,97,109,112],.bool true,.bool false,.bool false,I 16,I 15,I 14,I 10]⟩,.agg ⟨[b1 [115,97,110,100],.bool true,.bool false,.bool true,I 16,I 0,I 0,I 0]⟩,.agg ⟨[b1 [119,97,116,101,114],.bool false,.bool true,.bool false,I 3,I 0,I 0,I 0]⟩,.agg ⟨[b1 [108,101,97,118,101,115],.bool true,.bool false,.bool false,I 2,I 0,I 0,I 0]⟩,.agg ⟨[b1 [101,109,98,101,114],.bool true,.bool false,.bool false,I 16,I 9,I 3,I 0]⟩,.agg ⟨[b1 [102,111,103],.bool false,.bool false,.bool false,I 2,I 0,I 0,I 0]⟩]<|
.ret 8
theorem bB:cZ Tryz.prog 21 {marks:=[29]} [] 0=some t:=dg az
theorem any {W:ao} (aH:bY (aE W) (bD ([]:List (aw bc)))):ey bc 21 [] W [] cE (λy=> .slice y.1 qo.length y.2) (λy=>[aw.arr gg (.slice y.1 qo.length y.2) qo]):=by
 refine g_ (ro:=[]) mixed bB [] aH dR.none ?_;unfold t;refine jV (gm QR) (λw _=>QY.any) rfl ?_;refine yE (K:=gg) qo U U (λa c=>iy) (λa c=> ?_) ⟨M.val default,az⟩;exact bx ⟨(a,c),rfl,rfl⟩
end QZ
end AE
end
end
section
noncomputable section
namespace AE
namespace ZM
def t:a7:=
.call 20 [] (.agg ⟨[0,1,2,3,4,5,6]⟩) 7<|
.call 21 [] 7 1<|
.call 7 [.agg ⟨[0,1,2,3,4,5,6]⟩,7,.slice none 0 0,I 2] (.tuple ⟨[8,9]⟩) 2<|
.call 20 [] (.agg ⟨[10,11,12,13,14,15,16]⟩) 7<|
.call 21 [] 17 1<|
.call 7 [.agg ⟨[10,11,12,13,14,15,16]⟩,17,.slice none 0 0,I 0] (.tuple ⟨[18,19]⟩) 2<|
.o (.bin .neq 35 9 (I 0)) 20 1 []<|
.NW 20<|
.o (.bin .eql 34 8 (.pointer none)) 21 1 []<|
.NW 21<|
.o (.bin .neq 35 19 (I 1)) 22 1 []<|
.NW 22<|
.call 13 [8] 23 1<|
.call 17 [8] 24 1<|
.call 12 [8] 25 1<|
.px 25<|
.call 23 [24,I 0] 26 1<|
.ou 26 [I 15,I 14,I 13,I 12]<|
.c 22 [26,27] 28 1<|
.px 28<|
.call 23 [24,I 2] 29 1<|
.ou 26 [I 10,I 9,I 8,I 7]<|
.c 22 [29,30] 31 1<|
.px 31<|
.call 23 [24,I 3] 32 1<|
.ou 26 [I 0,I 15,I 15,I 15]<|
.c 22 [32,33] 34 1<|
.call 24 [8,.agg ⟨[I 0,I 0,I 0]⟩,I 0] 35 1<|
.call 13 [8] 36 1<|
.call 17 [8] 37 1<|
.o (.bin .eql 35 35 (I 0)) 38 1 []<|
.px 38<|
.o (.bin .gtr 3 36 (I 0)) 39 1 []<|
.px 39<|
.call 23 [37,I 0] 40 1<|
.ou 26 [I 0,I 0,I 0,I 0]<|
.c 22 [40,41] 42 1<|
.px 42<|
.call 23 [37,I 3] 43 1<|
.ou 26 [I 15,I 15,I 15,I 15]<|
.c 22 [43,44] 45 1<|
.call 24 [8,.agg ⟨[I 0,I 0,I 1]⟩,I 3] 46 1<|
.call 25 [8,.agg ⟨[I 0,I 0,I 1]⟩,.bool true] 47 1<|
.call 24 [8,.agg ⟨[I 0,I 0,I 1]⟩,I 3] 48 1<|
.call 24 [8,.agg ⟨[I 0,I 0,I 4]⟩,I 0] 49 1<|
.px 34<|
.px 45<|
.o (.bin .eql 35 46 (I 0)) 50 1 []<|
.px 50<|
.o (.bin .eql 35 47 (I 0)) 51 1 []<|
.px 51<|
.o (.bin .eql 35 48 (I 16)) 52 1 []<|
.px 52<|
.o (.bin .eql 35 49 (I 1)) 53 1 []<|
.px 53<|
.call 12 [8] 54 1<|
.o (.un .not 54) 55 1 []<|
.px 55<|
.call 26 [8,I 0] 56 1<|
.o (.bin .eql 3 56 (I 0)) 57 1 []<|
.px 57<|
.call 26 [8,I 1] 58 1<|
.o (.bin .eql 3 58 (I 1)) 59 1 []<|
.px 59<|
.call 15 [8] 60 1<|
.o (.len #[30] 3 60) 61 1 [0,4]<|
.o (.bin .eql 3 61 (I 4)) 62 1 []<|
.px 62<|
.call 14 [8] (.agg ⟨[63,64,65,66,67,68,69]⟩) 7<|
.o (.cm 26 69 (I 1)) 70 1 [0,3,1]<|
.o (.bf 3 70) 71 1 [1]<|
.o (.bin .eql 3 71 (I 3)) 72 1 []<|
.ret 72
theorem bB:cZ Tryz.prog 6 {iT:=[13,7,24,25,26,14,17,15,12,23,20,21],marks:=[26],p6:=[(20,false),(21,false),(22,false),(25,true),(28,true),(31,true),(38,true),(39,true),(42,true),(34,true),(45,true),(50,true),(51,true),(52,true),(53,true),(55,true),(57,true),(59,true),(62,true)]} [] 0=some t:=dg az
theorem any (W:ao) (bU:lP (aE W)):Calls Tryz.prog 6 #[] W λe w'=>e= .returned (.bool true)/\cA W.heap.size W w':=by
 refine fV (ro:=[]) mixed bB [] (.nil _) ?_;unfold t;have Gf:∀{L:List (aw bc)} {w:ao} {v1 e0:J} {l:List Int},ji W [] [] L w->ix L (aw.arr di v1 l)->ix L (aw.arr di e0 l)->l.length<=1000000->Calls bc 22 #[v1,e0] w λe w'=>e= .returned (.bool true)/\cA w.heap.size w w':=λ{L w v1 e0 l} hw h1 ae ak=>ZH (ZK.any w ((fU.arr (K:=di) h1).at hw) ((fU.arr (K:=di) ae).at hw) ak) rfl
 have c4:∀{L:List (aw bc)} {w:ao} {v:J} {l:List bq} (r:List Int) (k:Nat),(l.map λx=>AE.bF x k)=r->k<4->l.length=4->ji W [] [] L w->bY (aE w) (bD ([]:List (aw bc)))->ix L (aw.arr ez v l)->ey bc 23 [v,I (k:Nat)] w [] cE (λy=> .slice y.1 r.length y.2) (λy=>[aw.arr di (.slice y.1 r.length y.2) r]):=λ{L w v l} r k e ag ak hw aH h=>ZL.to e ag (by rw[ak];decide) aH ((fU.arr (K:=ez) h).at hw)
 obtain⟨l1,h1⟩:∃l,r8.u.av=l:=⟨_,rfl⟩;obtain⟨ZN,ar⟩:∃l,uI.u.av=l:=⟨_,rfl⟩;have ZO:=akL;have ZP:=akM;have ZQ:=akN;have ZR:=akO;have ZS:=akP;have q1:=Zx;have b_:=Zy;rw[h1] at ZO ZP ZQ q1;rw[ar] at ZR ZS b_;refine n7 (λy=>[I 0,I 0,I 0,I 1,I 1,I 4,.slice y.1 [(3:Int),0,0,0].length y.2]) (λw _ aH=>QX.any aH) λcp=> ?_
 refine n7 (λy=>[.slice y.1 qo.length y.2]) (λw _ aH=>QZ.any aH) λd1=> ?_
 refine n7 (R:=λy:Nat×dM=>fm y.1 y.2 zm) (v:=λy=> .tuple ⟨[bK y.1,I 0]⟩) (λy=>[bK y.1,I 0]) (λw hw aH=>ZF (cells:=[3,0,0,0]) (b:=C6) (table:=qo) (known:=[]) aH ((fU.arr (K:=di) (v:= .slice cp.1 [(3:Int),0,0,0].length cp.2) (l:=[3,0,0,0]) has).at hw) ((fU.arr (K:=gg) (v:= .slice d1.1 qo.length d1.2) (l:=qo) has).at hw) (bT.nil _ _) (bU.CO hw) ck rfl ck ck Zs) λy=> ?_
 refine n7 (λy=>[I 0,I 0,I 0,I 1,I 1,I 4,.slice y.1 [(3:Int),0,0,0].length y.2]) (λw _ aH=>QX.any aH) λc2=> ?_
 refine n7 (λy=>[.slice y.1 qo.length y.2]) (λw _ aH=>QZ.any aH) λjK=> ?_
 refine Qg (v:= .tuple ⟨[.pointer none,I 1]⟩) [.pointer none,I 1] (λw hw aH=>ZG (cells:=[3,0,0,0]) (b:=C6) (table:=qo) (known:=[]) aH ((fU.arr (K:=di) (v:= .slice c2.1 [(3:Int),0,0,0].length c2.2) (l:=[3,0,0,0]) has).at hw) ((fU.arr (K:=gg) (v:= .slice jK.1 qo.length jK.2) (l:=qo) has).at hw) (bT.nil _ _) (bU.CO hw) ck rfl ck ck akD) ?_;refine wW U U ?_;refine q3 rfl ?_;refine V' rfl ?_;refine q3 rfl ?_;refine wW U U ?_;refine q3 rfl ?_;refine r7 2 (e':=r8) (λw _ aH=>QT aH QS U U) λbr=> ?_
 refine A3 2 (K:=ez) (l:=l1) (λd=>[.slice d.1 l1.length d.2]) (λw _ aH=>by
  have:=QL w aH (by rw[Zx];decide);rw[h1] at this
  exact this) λo5=> ?_
 refine F7 2 (v:= .bool true) (λw _ aH=>ZE aH akJ) ?_;refine nT rfl ?_;refine n7 (λy=>[.slice y.1 [(15:Int),14,13,12].length y.2]) (λw hw aH=>c4 [15,14,13,12] 0 ZO ck q1 hw aH has) λe1=> ?_
 refine yE (K:=di) [15,14,13,12] U U (λa c=>iy) (λb2 jc=> ?_) ⟨I 0,az⟩;refine ew (v:= .bool true) (λw hw=>Gf (l:=[15,14,13,12]) hw has has ck) ?_;refine nT rfl ?_;refine n7 (λy=>[.slice y.1 [(10:Int),9,8,7].length y.2]) (λw hw aH=>c4 [10,9,8,7] 2 ZP ck q1 hw aH has) λe2=> ?_
 refine yE (K:=di) [10,9,8,7] U U (λa c=>iy) (λcr jz=> ?_) ⟨I 0,az⟩;refine ew (v:= .bool true) (λw hw=>Gf (l:=[10,9,8,7]) hw has has ck) ?_;refine nT rfl ?_;refine n7 (λy=>[.slice y.1 [(0:Int),15,15,15].length y.2]) (λw hw aH=>c4 [0,15,15,15] 3 ZQ ck q1 hw aH has) λfI=> ?_
 refine yE (K:=di) [0,15,15,15] U U (λa c=>iy) (λa3 rm=> ?_) ⟨I 0,az⟩;refine ew (v:= .bool true) (λw hw=>Gf (l:=[0,15,15,15]) hw has has ck) ?_;refine r7 2 (e':=J2) (v:=I 0) (λw _ aH=>J4 aH Zt rfl akF) λeD=> ?_
 refine r7 2 (e':=uI) (λw _ aH=>QT aH Zu U U) λBH=> ?_
 refine A3 2 (K:=ez) (l:=ZN) (λd=>[.slice d.1 ZN.length d.2]) (λw _ aH=>by
  have:=QL w aH (by rw[Zy];decide);rw[ar] at this
  exact this) λak0=> ?_
 refine aN ?_;refine nT rfl ?_;refine aN ?_;refine nT (congrArg Value.bool (kF n2)) ?_;refine n7 (λy=>[.slice y.1 [(0:Int),0,0,0].length y.2]) (λw hw aH=>c4 [0,0,0,0] 0 ZR ck b_ hw aH has) λnH=> ?_
 refine yE (K:=di) [0,0,0,0] U U (λa c=>iy) (λa4 tp=> ?_) ⟨I 0,az⟩;refine ew (v:= .bool true) (λw hw=>Gf (l:=[0,0,0,0]) hw has has ck) ?_;refine nT rfl ?_;refine n7 (λy=>[.slice y.1 [(15:Int),15,15,15].length y.2]) (λw hw aH=>c4 [15,15,15,15] 3 ZS ck b_ hw aH has) λyR=> ?_
 refine yE (K:=di) [15,15,15,15] U U (λa c=>iy) (λKn GC=> ?_) ⟨I 0,az⟩;refine ew (v:= .bool true) (λw hw=>Gf (l:=[15,15,15,15]) hw has has ck) ?_;refine r7 2 (e':=A7) (v:=I 0) (λw _ aH=>J4 (p:=(0,0,1)) aH Zv rfl akQ) λzJ=> ?_
 refine r7 2 (e':=n8) (v:=I 0) (λw _ aH=>akW (p:=(0,0,1)) aH Zw rfl akR) λam0=> ?_
 refine r7 2 (e':=n8) (v:=I 16) (λw _ aH=>J4 (p:=(0,0,1)) aH J3 akS Zz) λam1=> ?_
 refine r7 2 (e':=n8) (v:=I 1) (λw _ aH=>J4 (p:=(0,0,4)) aH J3 akT ZA) λam2=> ?_
 refine nT rfl ?_;refine nT rfl ?_;refine aN ?_;refine nT rfl ?_;refine aN ?_;refine nT rfl ?_;refine aN ?_;refine nT rfl ?_;refine aN ?_;refine nT rfl ?_;refine F7 2 (v:= .bool false) (λw _ aH=>akX aH akK) ?_;refine aN ?_;refine nT rfl ?_;refine r7 2 (e':=n8) (v:=I 0) (λw _ aH=>ZD (k:=0) aH J3 U U) λam3=> ?_
 refine aN ?_;refine nT rfl ?_;refine r7 2 (e':=o4) (v:=I 1) (λw _ aH=>ZD (k:=1) aH J3 rfl (by rw[akU];rfl)) λam4=> ?_
 refine aN ?_;refine nT rfl ?_;refine A3 2 (K:=c9) (l:=o4.known) (λd=>[.slice d.1 o4.known.length d.2]) (λw _ aH=>Y' w aH (by rw[ZB];decide)) λam5=> ?_
 refine aN ?_;refine nT (congrArg Value.bool (kF (by rw[ZB];rfl))) ?_;refine A3 2 (K:=di) (l:=o4.cells) (λd=>[I o4.b.1,I o4.b.2.1,I o4.b.2.2.1,I o4.b.2.2.2.1,I o4.b.2.2.2.2.1,I o4.b.2.2.2.2.2,.slice d.1 o4.cells.length d.2]) (λw _ aH=>Y_ w aH (by rw[ZC];decide)) λam6=> ?_
 have am7:1<o4.cells.length:=by rw[ZC];decide
 refine ie (K:=di) (l:=o4.cells) (j:=1) U U ?_;refine mM (K:=di) (l:=o4.cells) (j:=1) (o:=0) (u:=I 3) rfl (by rw[akV];rfl) ?_;refine aN ?_;exact bx rfl
end ZM
end AE
end
end
namespace AE
namespace ZT
noncomputable def body:Code:=(Tryz.f9.body).getD .skip
def N:Nat:=33
noncomputable abbrev eh:=kL Tryz.prog Tryz.f9
def b3:cC:={sl:=gb [(1,.agg ⟨[1,2,3,4,5,6]⟩),(0,0)],ms:=[],A:=start}
def hA:c0:=[(.bin .eql 3 1 (I 1),.bool true)]
theorem bA:qh (at' 33 hA [] body b3)=some (24,[0,.agg ⟨[3,4,5]⟩,2]):=az
abbrev n0:=at' 33 hA [] body b3
def iM:List bS:=[]
def ia:a1:=gb [(4,I 0)]
def jv:a1:=mm 33 ia 14 7
theorem fI:d' (lS Tryz.prog n0) ia iM=some []:=az
def jw:iz:=(body,[1,0,1,4,1,2,0],6)
theorem sy:eh (hW 33 [] [] jw (eg jv iM))=some 7:=az
def ld:c0:=[(.bin .eql 3 1 (I 1),.bool false),
 (.bin .eql 3 1 (I 2),.bool true)]
theorem xh:qh (at' 33 ld [] body b3)=some (25,[0,.agg ⟨[3,4,5]⟩,6]):=az
abbrev q9:=at' 33 ld [] body b3
def n1:List bS:=[]
def k8:a1:=gb [(4,I 0)]
def iY:a1:=mm 33 k8 22 8
theorem xb:d' (lS Tryz.prog q9) k8 n1=some []:=az
def mj:iz:=(body,[1,0,1,4,1,3,1,2,0],6)
theorem P6:eh (hW 33 [] [] mj (eg iY n1))=some 8:=az
def ih:c0:=[(.bin .eql 3 1 (I 1),.bool false),
 (.bin .eql 3 1 (I 2),.bool false),
 (.bin .eql 3 1 (I 3),.bool true)]
theorem A2:qh (at' 33 ih [] body b3)=some (26,[0,2]):=az
abbrev AX:=at' 33 ih [] body b3
def s5:List bS:=[]
def uC:a1:=gb [(4,I 0)]
def jO:a1:=mm 33 uC 28 9
theorem AY:d' (lS Tryz.prog AX) uC s5=some []:=az
def nQ:iz:=(body,[1,0,1,4,1,3,1,3,1,2],4)
theorem P':eh (hW 33 [] [] nQ (eg jO s5))=some (I 0):=az
def lf:c0:=[(.bin .eql 3 1 (I 1),.bool false),
 (.bin .eql 3 1 (I 2),.bool false),
 (.bin .eql 3 1 (I 3),.bool false),
 (.bin .eql 3 1 (I 4),.bool true)]
theorem P_:qh (at' 33 lf [] body b3)=some (13,[0]):=az
abbrev Qi:=at' 33 lf [] body b3
def A4:List bS:=[]
def F9:a1:=gb [(4,I 0)]
def qb:a1:=mm 33 F9 32 10
theorem F3:d' (lS Tryz.prog Qi) F9 A4=some []:=az
def yW:iz:=(body,[1,0,1,4,1,3,1,3,1,3,1,2],2)
theorem ak1:eh (hW 33 [] [] yW (eg qb A4))=some (I 0):=az
def lC:c0:=[(.bin .eql 3 1 (I 1),.bool false),
 (.bin .eql 3 1 (I 2),.bool false),
 (.bin .eql 3 1 (I 3),.bool false),
 (.bin .eql 3 1 (I 4),.bool false)]
theorem Qn:eh (at' 33 lC [] body b3)=some (I 0):=az
@[reducible] noncomputable def eL (en:bJ) (qp:Nat) (x:fx):List J:=[nu qp 0,I x.1,I x.2.1,I x.2.2.1,I x.2.2.2.1,I x.2.2.2.2.1,.bool x.2.2.2.2.2,I (jZ en.b en.most (x.2.2.1,x.2.2.2.1,x.2.2.2.2.1) en.u.reqs x.2.1),I (iB en.b en.most (x.2.2.1,x.2.2.2.1,x.2.2.2.2.1) en.u.reqs),I (((hy en.table en.b x.2.1.toNat en.u).1:Nat):Int),I (((hy en.table en.b (gI en.b en.u) en.u).1:Nat):Int)]
theorem any (W:ao) {en:bJ} {qp:Nat} {ZU:dM} (xc:bY (aE W) [fl qp ZU en]) (x:fx) (dd:fo en):Calls Tryz.prog 9 #[nu qp 0,Y.val x] W λe w'=>(∃A:dM,e= .returned (I (iO en x))/\ef (aE W) [fl qp ZU en] (aE w') [fl qp A (dI en x)])/\cA 0 W w':=by
 refine Jq (eL en qp x) body b3 N [aq 0,.agg ⟨[aq 1,aq 2,aq 3,aq 4,aq 5,aq 6]⟩] Tryz.func9 λa al=> ?_
 letI:=gn al;have aH:=b6.start W _ xc;by_cases aJ:x.1=1
 ·refine dG hA [] (ay dA cx) cy ?_ al
  obtain⟨A8,kE⟩:=kB (iC en (x.2.2.1,x.2.2.2.1,x.2.2.2.2.1) x.2.1);refine sY (Y:=dM) (bC:=λc1=>(eL en qp x)) aH [0] (λc1=>[fl qp (c1) A8]) (λ_=>[]) bA fI (jX jv 7) (kN:=λw hw dQ hs=>by rw[kE];exact Za _ hs (x.2.2.1,x.2.2.2.1,x.2.2.2.2.1) x.2.1 dd.nz.box dd.A5 dd.A6 dd.JT) (rest:= ?_);intro o0 Q0 fH ja w al;replace fH:=fH.Fv;letI:=gn al;refine jG (jH jw) [] [] cx cy ?_ al;exact dX sy λw2 cO=>(by first|(obtain⟨q1,aB⟩:=xw (e:=en) (x:=x) ct;rw[q1,aB];subst kE;exact⟨_,rfl,(fH.done cO)⟩)|(obtain⟨q1,aB⟩:=xx (e:=en) (x:=x) ct ct;rw[q1,aB];subst kE;exact⟨_,rfl,(fH.done cO)⟩)|(obtain⟨q1,aB⟩:=CY (e:=en) (x:=x) ct ct ct;rw[q1,aB];subst kE;exact⟨_,rfl,(fH.done cO)⟩)|(obtain⟨q1,aB⟩:=CZ (e:=en) (x:=x) ct ct ct ct;rw[q1,aB];subst kE;exact⟨_,rfl,(fH.done cO)⟩)|(obtain⟨q1,aB⟩:=C0 (e:=en) (x:=x) ct ct ct ct;rw[q1,aB];exact⟨_,rfl,(fH.done cO)⟩))
 ·by_cases h1:x.1=2
  ·refine dG ld [] (ay b0 (ay dA cx)) cy ?_ al
   obtain⟨A8,kE⟩:=kB (jx en (x.2.2.1,x.2.2.2.1,x.2.2.2.2.1) x.2.2.2.2.2);refine sY (Y:=dM) (bC:=λc1=>(eL en qp x)) aH [0] (λc1=>[fl qp (c1) A8]) (λ_=>[]) xh xb (jX iY 8) (kN:=λw hw dQ hs=>by rw[kE];exact Zb _ hs (x.2.2.1,x.2.2.2.1,x.2.2.2.2.1) x.2.2.2.2.2 dd.nz.box dd.A5 dd.A6 dd.JT) (rest:= ?_);intro o0 Q0 fH ja w al;replace fH:=fH.Fv;letI:=gn al;refine jG (jH mj) [] [] cx cy ?_ al;exact dX P6 λw2 cO=>(by first|(obtain⟨q1,aB⟩:=xw (e:=en) (x:=x) ct;rw[q1,aB];subst kE;exact⟨_,rfl,(fH.done cO)⟩)|(obtain⟨q1,aB⟩:=xx (e:=en) (x:=x) ct ct;rw[q1,aB];subst kE;exact⟨_,rfl,(fH.done cO)⟩)|(obtain⟨q1,aB⟩:=CY (e:=en) (x:=x) ct ct ct;rw[q1,aB];subst kE;exact⟨_,rfl,(fH.done cO)⟩)|(obtain⟨q1,aB⟩:=CZ (e:=en) (x:=x) ct ct ct ct;rw[q1,aB];subst kE;exact⟨_,rfl,(fH.done cO)⟩)|(obtain⟨q1,aB⟩:=C0 (e:=en) (x:=x) ct ct ct ct;rw[q1,aB];exact⟨_,rfl,(fH.done cO)⟩))
  ·by_cases ae:x.1=3
   ·refine dG ih [] (ay b0 (ay b0 (ay dA cx))) cy ?_ al
    obtain⟨A8,kE⟩:=kB (lE en x.2.1);refine sY (Y:=dM) (bC:=λc1=>(eL en qp x)) aH [0] (λc1=>[fl qp (c1) A8]) (λ_=>[]) A2 AY (jX jO 9) (kN:=λw hw dQ hs=>by rw[kE];exact Y9 _ hs x.2.1 dd.nz dd.CX) (rest:= ?_);intro o0 Q0 fH ja w al;replace fH:=fH.Fv;letI:=gn al;refine jG (jH nQ) [] [] cx cy ?_ al;exact dX P' λw2 cO=>(by first|(obtain⟨q1,aB⟩:=xw (e:=en) (x:=x) ct;rw[q1,aB];subst kE;exact⟨_,rfl,(fH.done cO)⟩)|(obtain⟨q1,aB⟩:=xx (e:=en) (x:=x) ct ct;rw[q1,aB];subst kE;exact⟨_,rfl,(fH.done cO)⟩)|(obtain⟨q1,aB⟩:=CY (e:=en) (x:=x) ct ct ct;rw[q1,aB];subst kE;exact⟨_,rfl,(fH.done cO)⟩)|(obtain⟨q1,aB⟩:=CZ (e:=en) (x:=x) ct ct ct ct;rw[q1,aB];subst kE;exact⟨_,rfl,(fH.done cO)⟩)|(obtain⟨q1,aB⟩:=C0 (e:=en) (x:=x) ct ct ct ct;rw[q1,aB];exact⟨_,rfl,(fH.done cO)⟩))
   ·by_cases ar:x.1=4
    ·refine dG lf [] (ay b0 (ay b0 (ay b0 (ay dA cx)))) cy ?_ al
     obtain⟨A8,kE⟩:=kB (o3 en);refine sY (Y:=dM) (bC:=λc1=>(eL en qp x)) aH [0] (λc1=>[fl qp (c1) A8]) (λ_=>[]) P_ F3 (jX qb 10) (kN:=λw hw dQ hs=>by rw[kE];exact Y8 _ hs dd.nz dd.CX) (rest:= ?_);intro o0 Q0 fH ja w al;replace fH:=fH.Fv;letI:=gn al;refine jG (jH yW) [] [] cx cy ?_ al;exact dX ak1 λw2 cO=>(by first|(obtain⟨q1,aB⟩:=xw (e:=en) (x:=x) ct;rw[q1,aB];subst kE;exact⟨_,rfl,(fH.done cO)⟩)|(obtain⟨q1,aB⟩:=xx (e:=en) (x:=x) ct ct;rw[q1,aB];subst kE;exact⟨_,rfl,(fH.done cO)⟩)|(obtain⟨q1,aB⟩:=CY (e:=en) (x:=x) ct ct ct;rw[q1,aB];subst kE;exact⟨_,rfl,(fH.done cO)⟩)|(obtain⟨q1,aB⟩:=CZ (e:=en) (x:=x) ct ct ct ct;rw[q1,aB];subst kE;exact⟨_,rfl,(fH.done cO)⟩)|(obtain⟨q1,aB⟩:=C0 (e:=en) (x:=x) ct ct ct ct;rw[q1,aB];exact⟨_,rfl,(fH.done cO)⟩))
    ·refine dG lC [] (ay b0 (ay b0 (ay b0 (ay b0 cx)))) cy ?_ al
     exact dX Qn λw2 cO=>(by first|(obtain⟨q1,aB⟩:=xw (e:=en) (x:=x) ct;rw[q1,aB];subst kE;exact⟨_,rfl,((aH.pick [0] rfl).done cO)⟩)|(obtain⟨q1,aB⟩:=xx (e:=en) (x:=x) ct ct;rw[q1,aB];subst kE;exact⟨_,rfl,((aH.pick [0] rfl).done cO)⟩)|(obtain⟨q1,aB⟩:=CY (e:=en) (x:=x) ct ct ct;rw[q1,aB];subst kE;exact⟨_,rfl,((aH.pick [0] rfl).done cO)⟩)|(obtain⟨q1,aB⟩:=CZ (e:=en) (x:=x) ct ct ct ct;rw[q1,aB];subst kE;exact⟨_,rfl,((aH.pick [0] rfl).done cO)⟩)|(obtain⟨q1,aB⟩:=C0 (e:=en) (x:=x) ct ct ct ct;rw[q1,aB];exact⟨_,rfl,((aH.pick [0] rfl).done cO)⟩))
end ZT
end AE
namespace AE
def C7 (N R:Nat):Nat:=361*N+(365*N+2)*(R-1)
theorem ak2 {N R:Nat} (h:N<=120) (ae:R<=31):C7 N R<=2000000:=by
 have:(365*N+2)*(R-1)<=43802*30:=Nat.mul_le_mul aj aj;unfold C7;omega
structure r9 (b:bw) (N:Nat) (e:bJ) (dD R i:Nat):Prop where
 ok:fo e
 reqs:e.u.reqs.length<=i
 cQ:1<=R
 dr:R<=i+1
 box:e.b=b
 w:dD+uH e<=C7 N R
variable {b:bw} {N dD R i:Nat} {e:bJ}
theorem r9.A9 (h:r9 b N e dD R i) (h0:N<=120) (af:i<=30):dD<=2000000/\1<=R/\R<=31:=by
 have h1:=ak2 (N:=N) (R:=R) h0 (by have:=h.dr;omega);have ae:=h.w;have ar:=h.cQ;have bm:=h.dr;exact⟨aj,ar,aj⟩
theorem r9.wQ (h:r9 b N e dD R i) (n:Int):r9 b N (lE e n) (dD+xy e n) R (i+1)/\xy e n<=n.toNat/\(xy e n<n.toNat->q' (lE e n))/\dD+xy e n<=C7 N R:=by
 obtain⟨q1,aB,b_,eB,hh⟩:=h.ok.wQ n;have ae:=h.w;have ar:=h.reqs;have bm:=h.dr;exact⟨⟨q1,aj,h.cQ,aj,h.box,aj⟩,aB,b_,aj⟩
theorem r9.set (h:r9 b N e dD R i):r9 b N (o3 e) (dD+C3 e) R (i+1)/\q' (o3 e)/\dD+C3 e<=C7 N R:=by
 obtain⟨q1,aB,eB,hh⟩:=h.ok.set;have ae:=h.w;have ar:=h.reqs;have bm:=h.dr;exact⟨⟨q1,aj,h.cQ,aj,h.box,aj⟩,aB,aj⟩
theorem r9.skip (h:r9 b N e dD R i):r9 b N e dD R (i+1):=by
 have ar:=h.reqs;have bm:=h.dr;exact⟨h.ok,aj,h.cQ,aj,h.box,h.w⟩
theorem r9.begin {cells:List Int} {table:List cc} {known:List Bool} {most:Int} (h:mP b cells table known most) (ak:cells.length<=10000):r9 b cells.length (il b cells table known most) 0 1 0:=by
 obtain⟨q1,aB⟩:=J0 h ak;refine⟨q1,bL _,bL _,bL _,rfl,?_⟩;unfold C7;omega
end AE
namespace AE
theorem ZV {e:bJ} {p:dc} {c:Int} (h1:kV c) (ae:cX p e.b) (ar:((e.u.reqs.length:Nat):Int)<e.most):jZ e.b e.most p e.u.reqs c=0:=by
 unfold jZ iB;rw[aI h1,aI ae,aG aj]
theorem ZW {e:bJ} {p:dc} (ae:cX p e.b) (ar:((e.u.reqs.length:Nat):Int)<e.most):iB e.b e.most p e.u.reqs=0:=by
 unfold iB;rw[aI ae,aG aj]
theorem ak3 {e:bJ} {p:dc} {c:Int} (h:jZ e.b e.most p e.u.reqs c=0):(iC e p c).cells=e.cells.set (bV e.b p) c:=by
 rw[(JZ h).2.2.2]
theorem ak4 {e:bJ} {p:dc} {k:Bool} (h:iB e.b e.most p e.u.reqs=0):(jx e p k).known=e.known.set (bV e.b p) k:=by
 rw[(QP h).2.2]
def ak5 (e:bJ) (p:dc) (c c2 n:Int):bJ:=o3 (iC (lE (iC e p c) n) p c2)
structure ak6 (e e':bJ):Prop where
 ok:fo e'
 st:q' e'
 b:e'.b=e.b
 most:e'.most=e.most
 table:e'.table=e.table
 cells:e'.cells=e.cells
 known:e'.known=e.known
 av:e'.u.av=e.u.av
def qq (b:bw) (cells:List Int) (table:List cc) (known:List Bool):bJ:=o3 (il b cells table known 10)
structure ak7 (b:bw) (cells:List Int) (e:bJ):Prop where
 ok:fo e
 st:q' e
 b:e.b=b
 most:e.most=10
 am8:e.known.length=cells.length
 ak8:e.u.av.length=cells.length
 cells:e.cells=cells
theorem ZX {b:bw} {cells:List Int} {table:List cc} {known:List Bool} {most:Int} (h:mP b cells table known most) (ak:cells.length<=10000):okB b/\cells.length=(dv b).toNat:=by
 obtain⟨_,⟨ae,_⟩,_⟩:=CV h.1;have h1:=(J0 (most:=most) h ak).1.A5;exact⟨ae,h1⟩
theorem Q1:∀{l:List Int},qj l<0->∀i,i<l.length->h6 (l.getD i default)
 |[],_,i,af=>absurd af (Nat.not_lt_zero i)
 |c::r,h,i,af=>by
  unfold qj at h;split at h
  ·rename_i ai
   split at h
   ·rename_i hr
    cases i with
    |zero=>exact ai
    |succ i=>exact Q1 hr i (Nat.lt_of_succ_lt_succ af)
   ·omega
  ·cases h
def r' (b:bw) (cells:List Int) (table:List cc) (known:List Bool) (p:dc) (cell n:Int):bJ:=ak5 (qq b cells table known) p cell (cells.getD (bV b p) default) n
structure am9 (b:bw) (cells:List Int) (table:List cc) (known:List Bool) (p:dc) (cell n:Int):Prop where
 box:okB b
 ZY:fo (il b cells table known 10)
 dD:ak7 b cells (qq b cells table known)
 lt:bV b p<cells.length
 l7:bV b p<(qq b cells table known).known.length
 iX:fo (iC (qq b cells table known) p cell)
 k1:fo (lE (iC (qq b cells table known) p cell) n)
 xN:fo (iC (lE (iC (qq b cells table known) p cell) n) p (cells.getD (bV b p) default))
 b2:jZ (qq b cells table known).b (qq b cells table known).most p (qq b cells table known).u.reqs cell=0
 cr:jZ (lE (iC (qq b cells table known) p cell) n).b (lE (iC (qq b cells table known) p cell) n).most p (lE (iC (qq b cells table known) p cell) n).u.reqs (cells.getD (bV b p) default)=0
 jM:ak6 (qq b cells table known) (r' b cells table known p cell n)
 ak8:(r' b cells table known p cell n).u.av.length=cells.length
 bZ:cells.length<=120
 K:∀k cW,cW=(qq b cells table known).known.getD (bV b p) default->
  fo (jx (r' b cells table known p cell n) p k)/\fo (lE (jx (r' b cells table known p cell n) p k) n)/\fo (jx (lE (jx (r' b cells table known p cell n) p k) n) p cW)/\
  iB (r' b cells table known p cell n).b (r' b cells table known p cell n).most p (r' b cells table known p cell n).u.reqs=0/\
  iB (lE (jx (r' b cells table known p cell n) p k) n).b (lE (jx (r' b cells table known p cell n) p k) n).most p (lE (jx (r' b cells table known p cell n) p k) n).u.reqs=0/\
  (o3 (jx (lE (jx (r' b cells table known p cell n) p k) n) p cW)).u.av=(qq b cells table known).u.av/\(o3 (jx (lE (jx (r' b cells table known p cell n) p k) n) p cW)).u.av.length=cells.length
end AE
namespace AE
theorem ZZ {X:Int} {a b c d:Int} (ha:0<=a) (ak9:a<X) (ai:0<=c) (ak':c<X) (h:b*X+a=d*X+c):b=d/\a=c:=by
 have fB:X≠0:=by omega
 have h1:(b*X+a)/X=b:=by
  rw[Int.add_comm,Int.add_mul_ediv_right _ _ fB,Int.ediv_eq_zero_of_lt ha ak9,Int.zero_add]
 have ae:(d*X+c)/X=d:=by
  rw[Int.add_comm,Int.add_mul_ediv_right _ _ fB,Int.ediv_eq_zero_of_lt ai ak',Int.zero_add]
 have ad:b=d:=by rw[<-h1,<-ae,h]
 subst ad;exact⟨rfl,aj⟩
theorem Z0 {b:bw} (ad:okB b) {p q:dc} (hp:cX p b) (aU:cX q b) (h:bV b p=bV b q):p=q:=by
 have h1:=w8 ad hp;have ae:=w8 ad aU;rw[h] at h1;have ar:vw b p=vw b q:=h1.trans ae.symm;unfold vw at ar;rw[aI hp,aI aU] at ar;have aO:ig b:=by
  unfold cX at hp;unfold ig;omega
 have hs:bE b=(b.2.2.2.1-b.1,b.2.2.2.2.1-b.2.1,b.2.2.2.2.2-b.2.2.1):=aI aO;rw[hs] at ar;unfold cX at hp aU;obtain⟨e1,e2⟩:=ZZ aj (by show _<b.2.2.2.1-b.1;omega) aj (by show _<b.2.2.2.1-b.1;omega) ar;obtain⟨fI,nH⟩:=ZZ aj (by show _<b.2.2.2.2.1-b.2.1;omega) aj (by show _<b.2.2.2.2.1-b.2.1;omega) e1;obtain⟨hi,fQ,pe⟩:=p;obtain⟨q1,aB,b_⟩:=q;simp only at e2 fI nH;have g1:hi=q1:=by omega
 have g2:fQ=aB:=by omega
 have g3:pe=b_:=by omega
 rw[g1,g2,g3]
section
variable {α:Type} (ok:fx->Prop) [DecidablePred ok] (dP:fx->Nat) (Gg:fx->α)
def l4 (l:List α) (x:fx):List α:=if ok x then l.set (dP x) (Gg x) else l
theorem Q2 {i:Nat} {v:α}:∀(r:List fx) (l:List α),(∀y∈r,ok y->dP y≠i)->r.foldl (l4 ok dP Gg) (l.set i v)=(r.foldl (l4 ok dP Gg) l).set i v
 |[],_,_=>rfl
 |y::r,l,h=>by
  rw[List.foldl_cons,List.foldl_cons];have e1:l4 ok dP Gg (l.set i v) y=(l4 ok dP Gg l y).set i v:=by
   unfold l4;by_cases ho:ok y
   ·rw[aI ho,aI ho,List.set_comm _ _ (Ne.symm (h y List.mem_cons_self ho))]
   ·rw[aG ho,aG ho]
  rw[e1];exact Q2 r _ λz bu=>h z (List.mem_cons_of_mem _ bu)
end
def vN (b:bw) (x:fx):Prop:=x.1=1/\kV x.2.1/\cX (gK x) b
def uJ (b:bw) (x:fx):Prop:=x.1=2/\cX (gK x) b
instance (b:bw) (x:fx):Decidable (vN b x):=by unfold vN;infer_instance
instance (b:bw) (x:fx):Decidable (uJ b x):=by unfold uJ;infer_instance
def y1 (b:bw) (x:fx):Prop:=(x.1=1->kV x.2.1/\cX (gK x) b)/\(x.1=2->cX (gK x) b)
instance (b:bw) (x:fx):Decidable (y1 b x):=by unfold y1;infer_instance
def y2 (b:bw) (x:fx):Nat:=bV b (gK x)
abbrev Z1 (b:bw) (l:List fx) (c:List Int):List Int:=l.foldl (l4 (vN b) (y2 b) (λx=>x.2.1)) c
abbrev Z2 (b:bw) (l:List fx) (c:List Bool):List Bool:=l.foldl (l4 (uJ b) (y2 b) (λx=>x.2.2.2.2.2)) c
abbrev J7 (x:fx):Int×dc:=(x.1,gK x)
theorem Gh {e:bJ} {x:fx} (hm:((e.u.reqs.length:Nat):Int)<e.most):(dI e x).cells=l4 (vN e.b) (y2 e.b) (λx=>x.2.1) e.cells x/\(dI e x).known=l4 (uJ e.b) (y2 e.b) (λx=>x.2.2.2.2.2) e.known x/\(x.1<3->(iO e x=0↔y1 e.b x)):=by
 by_cases h1:x.1=1
 ·obtain⟨q1,aB⟩:=xw (e:=e) (x:=x) h1
  have ag:¬uJ e.b x:=λh=>by have:=h.1;omega
  have ai:iO e x=0↔kV x.2.1/\cX (gK x) e.b:=by
   rw[aB];exact⟨λh=>⟨(JZ h).1,(JZ h).2.1⟩,λh=>ZV h.1 h.2 hm⟩
  unfold l4;rw[aG ag,q1];refine⟨?_,rfl,λ_=>ai.trans ⟨λh=>⟨λ_=>h,λae=>by omega⟩,λh=>h.1 h1⟩⟩;by_cases ho:vN e.b x
  ·rw[aI ho]
   exact ak3 (ZV ho.2.1 ho.2.2 hm)
  ·rw[aG ho,C4]
   intro aJ;rw[<-aB] at aJ;exact ho ⟨h1,ai.1 aJ⟩
 ·have Z3:¬vN e.b x:=λh=>h1 h.1
  by_cases ae:x.1=2
  ·obtain⟨q1,aB⟩:=xx (e:=e) (x:=x) h1 ae
   have ai:iO e x=0↔cX (gK x) e.b:=by
    rw[aB];exact⟨λh=>(QP (k:=false) h).1,λh=>ZW h hm⟩
   unfold l4;rw[aG Z3,q1];refine⟨rfl,?_,λ_=>ai.trans ⟨λh=>⟨λae=>absurd ae h1,λ_=>h⟩,λh=>h.2 ae⟩⟩;by_cases ho:uJ e.b x
   ·rw[aI ho]
    exact ak4 (ZW ho.2 hm)
   ·rw[aG ho,JY]
    intro aJ;rw[<-aB] at aJ;exact ho ⟨ae,ai.1 aJ⟩
  ·have jr:¬uJ e.b x:=λh=>ae h.1
   have a8:y1 e.b x:=⟨λh=>absurd h h1,λh=>absurd h ae⟩;unfold l4;rw[aG Z3,aG jr];by_cases ar:x.1=3
   ·obtain⟨q1,aB⟩:=CY (e:=e) (x:=x) h1 ae ar
    rw[q1,aB];exact⟨rfl,rfl,λ_=>⟨λ_=>a8,λ_=>rfl⟩⟩
   ·by_cases bm:x.1=4
    ·obtain⟨q1,aB⟩:=CZ (e:=e) (x:=x) h1 ae ar bm
     rw[q1,aB];exact⟨rfl,rfl,λ_=>⟨λ_=>a8,λ_=>rfl⟩⟩
    ·obtain⟨q1,aB⟩:=C0 (e:=e) (x:=x) h1 ae ar bm
     rw[q1,aB];exact⟨rfl,rfl,λ_=>⟨λ_=>a8,λ_=>rfl⟩⟩
structure r_ (bA e:bJ) (n:Nat):Prop where
 ok:fo e
 b:e.b=bA.b
 table:e.table=bA.table
 most:e.most=bA.most
 len:e.u.reqs.length<=n
theorem r_.do {bA e:bJ} {n:Nat} (h:r_ bA e n) (ak:n<10000) (x:fx):r_ bA (dI e x) (n+1):=by
 obtain⟨cB,cW,p5⟩:=Zo e x;obtain⟨q1,aB⟩:=h.ok.do (Nat.lt_of_le_of_lt h.len ak) x
 exact⟨q1,cB.trans h.b,cW.trans h.table,p5.trans h.most,Nat.le_trans aB (Nat.add_le_add_right h.len 1)⟩
theorem r_.mono {bA e:bJ} {n m:Nat} (h:r_ bA e n) (ak:n<=m):r_ bA e m:=⟨h.ok,h.b,h.table,h.most,Nat.le_trans h.len ak⟩
theorem r_.room {bA e:bJ} {n:Nat} (h:r_ bA e n) (hm:((n:Nat):Int)<bA.most):((e.u.reqs.length:Nat):Int)<e.most:=by
 have:=h.len;rw[h.most];omega
structure Gi (bA e:bJ) (l:List fx):Prop where
 odd:r_ bA e l.length
 cells:e.cells=Z1 bA.b l bA.cells
 known:e.known=Z2 bA.b l bA.known
theorem Gi.zero {bA:bJ} (h:fo bA) (hr:bA.u.reqs.length=0):Gi bA bA []:=⟨⟨h,rfl,rfl,rfl,by rw[hr];exact Nat.zero_le _⟩,rfl,rfl⟩
theorem Gi.next {bA e:bJ} {l:List fx} (h:Gi bA e l) (hm:((l.length:Nat):Int)<bA.most) (ak:l.length<10000) (x:fx):Gi bA (dI e x) (l++[x]):=by
 obtain⟨q1,aB,_⟩:=Gh (x:=x) (h.odd.room hm);refine⟨by rw[List.length_append];exact h.odd.do ak x,?_,?_⟩
 ·rw[q1,h.odd.b,h.cells]
  show _=List.foldl _ _ (l++[x]);rw[List.foldl_append];rfl
 ·rw[aB,h.odd.b,h.known]
  show _=List.foldl _ _ (l++[x]);rw[List.foldl_append];rfl
def A' (b:bw):List fx->List (Int×dc)
 |[]=>[]
 |x::r=>if x.1<3/\J7 x∉A' b r/\y1 b x then A' b r++[J7 x] else A' b r
theorem Q3 {b:bw} {q:Int×dc}:∀r:List fx,q∈A' b r↔∃y∈r,y.1<3/\J7 y=q/\y1 b y
 |[]=>⟨λh=>absurd h List.not_mem_nil,λ⟨_,h,_⟩=>absurd h List.not_mem_nil⟩
 |x::r=>by
  have b9:=Q3 (b:=b) (q:=q) r;unfold A';constructor
  ·intro h
   split at h
   ·rename_i ah
    rcases List.mem_append.1 h with h|h
    ·obtain⟨y,a_,ae⟩:=b9.1 h
     exact⟨y,List.mem_cons_of_mem _ a_,ae⟩
    ·rw[List.mem_singleton] at h
     exact⟨x,List.mem_cons_self,ah.1,h.symm,ah.2.2⟩
   ·obtain⟨y,a_,ae⟩:=b9.1 h
    exact⟨y,List.mem_cons_of_mem _ a_,ae⟩
  ·rintro ⟨y,a_,h1,ae,ar⟩
   by_cases hX:q∈A' b r
   ·split
    ·exact List.mem_append_left _ hX
    ·exact hX
   ·rcases List.mem_cons.1 a_ with rfl|a_
    ·rw[aI ⟨h1,by rw[ae];exact hX,ar⟩,ae]
     exact List.mem_append_right _ List.mem_cons_self
    ·exact absurd (b9.2 ⟨y,a_,h1,ae,ar⟩) hX
structure Gj (bA e:bJ) (r:List fx):Prop where
 odd:r_ bA e r.length
 cells:e.cells=Z1 bA.b r bA.cells
 known:e.known=Z2 bA.b r bA.known
theorem Gj.zero {bA:bJ} (h:fo bA) (hr:bA.u.reqs.length=0):Gj bA bA []:=⟨⟨h,rfl,rfl,rfl,by rw[hr];exact Nat.zero_le _⟩,rfl,rfl⟩
theorem Z4 {b:bw} {y:fx}:(vN b y->y1 b y)/\(uJ b y->y1 b y):=
 ⟨λh=>⟨λ_=>h.2,λae=>by have:=h.1;omega⟩,λh=>⟨λae=>by have:=h.1;omega,λ_=>h.2⟩⟩
theorem Gj.next {bA e:bJ} {r:List fx} (h:Gj bA e r) (ad:okB bA.b) (hm:((r.length:Nat):Int)<bA.most) (ak:r.length<10000) {x:fx} (ah:x.1<3) (ag:J7 x∉A' bA.b r):Gj bA (dI e x) (x::r):=by
 obtain⟨q1,aB,_⟩:=Gh (x:=x) (h.odd.room hm);refine⟨h.odd.do ak x,?_,?_⟩
 ·rw[q1,h.odd.b,h.cells]
  show _=List.foldl _ _ (x::r);rw[List.foldl_cons];by_cases ho:vN bA.b x
  ·unfold l4
   rw[aI ho,aI ho];refine(Q2 _ _ _ r _ λy a_ xA he=>ag ((Q3 r).2 ⟨y,a_,by have:=xA.1;omega,?_,Z4.1 xA⟩)).symm;have:=Z0 ad xA.2.2 ho.2.2 he;show (y.1,gK y)=(x.1,gK x);rw[this,xA.1,ho.1]
  ·have e1:∀l:List Int,l4 (vN bA.b) (y2 bA.b) (λx=>x.2.1) l x=l:=λl=>aG ho
   rw[e1,e1]
 ·rw[aB,h.odd.b,h.known]
  show _=List.foldl _ _ (x::r);rw[List.foldl_cons];by_cases ho:uJ bA.b x
  ·unfold l4
   rw[aI ho,aI ho];refine(Q2 _ _ _ r _ λy a_ xA he=>ag ((Q3 r).2 ⟨y,a_,by have:=xA.1;omega,?_,Z4.2 xA⟩)).symm;have:=Z0 ad xA.2 ho.2 he;show (y.1,gK y)=(x.1,gK x);rw[this,xA.1,ho.1]
  ·have e1:∀l:List Bool,l4 (uJ bA.b) (y2 bA.b) (λx=>x.2.2.2.2.2) l x=l:=λl=>aG ho
   rw[e1,e1]
end AE
namespace AE
def q_ (b:bw) (x:fx):Int:=if x.1=1 then (if kV x.2.1 then (if cX (gK x) b then 0 else 1) else 1) else if x.1=2 then (if cX (gK x) b then 0 else 1) else 0
theorem J8 {e:bJ} {x:fx} (hm:((e.u.reqs.length:Nat):Int)<e.most):iO e x=q_ e.b x:=by
 have h:∀p,iB e.b e.most p e.u.reqs=if cX p e.b then 0 else 1:=λp=>by
  unfold iB;rw[aG (show ¬e.most<=((e.u.reqs.length:Nat):Int) by omega)]
 unfold iO q_ jZ;rw[h]
theorem Z5 {l:List Int} {c:Int} (ai:h6 c):∀{i:Nat},(∀x∈l,h6 x)->∀x∈l.set i c,h6 x:=λh x ah=>by
 rcases List.mem_or_eq_of_mem_set ah with h1|h1
 ·exact h x h1
 ·rw[h1];exact ai
theorem ak_ {l:List Int} (h:qj l<0):∀x∈l,h6 x:=λx ah=>by
 obtain⟨i,af,rfl⟩:=List.mem_iff_getElem.1 ah;have:=Q1 h i af;rw[c_,fy af] at this;exact this
structure C8 (bA e f:bJ) (n:Nat):Prop where
 J9:r_ bA e n
 of:r_ bA f n
 cells:f.cells=e.cells
 known:f.known=e.known
 vO:∀c∈e.cells,h6 c
theorem C8.zero {bA:bJ} (h:fo bA) (hr:bA.u.reqs.length=0) (hm:∀c∈bA.cells,h6 c):C8 bA bA bA 0:=
 have o:r_ bA bA 0:=⟨h,rfl,rfl,rfl,by rw[hr];exact bL _⟩
 ⟨o,o,rfl,rfl,hm⟩
theorem C8.next {bA e f:bJ} {n:Nat} (h:C8 bA e f n) (hm:((n:Nat):Int)<bA.most) (ak:n<10000) (x:fx):
  iO f x=iO e x/\C8 bA (dI e x) (dI f x) (n+1)/\(¬x.1<3->C8 bA (dI e x) f (n+1)):=by
 have re:=h.J9.room hm;have Z6:=h.of.room hm;have ad:f.b=e.b:=h.of.b.trans h.J9.b.symm;obtain⟨cp,cB,_⟩:=Gh (x:=x) re;obtain⟨c2,cW,_⟩:=Gh (x:=x) Z6;have Z7:∀c∈(dI e x).cells,h6 c:=by
  rw[cp];unfold l4;split
  ·rename_i ho
   exact Z5 ho.2.1 h.vO
  ·exact h.vO
 refine⟨by rw[J8 re,J8 Z6,ad],⟨h.J9.do ak x,h.of.do ak x,by rw[cp,c2,ad,h.cells],by rw[cB,cW,ad,h.known],Z7⟩,λah=>⟨h.J9.do ak x,h.of.mono (Nat.le_succ _),?_,?_,Z7⟩⟩
 ·rw[cp,h.cells]
  unfold l4;rw[aG (λq=>by have:=q.1;omega)]
 ·rw[cB,h.known]
  unfold l4;rw[aG (λq=>by have:=q.1;omega)]
end AE
namespace AE
theorem Z8 {b:bw} {k:Nat} (ag:k<(dv b).toNat):cX (dH b ((k:Nat):Int)) b/\bV b (dH b ((k:Nat):Int))=k:=by
 obtain⟨bn,bH,aX,hs,vA,h1,ae,ar⟩:=Fy ag;obtain⟨cp,c2,c3⟩:=Ap vA;rw[Pk hs vA];obtain⟨q1,aB⟩:=Ju hs h1 ae ar cp c2 c3;exact⟨q1,aB.trans (UX bn bH k)⟩
def Gk (F:Int) (o l:bq):bq:=pq λc=>max (bF o c) (bF l c-F)
def o6 (F:Int) (av:List bq) (l:List (Nat×Int)) (o:bq):bq:=l.foldl (λo p=>Gk F o (av.getD p.1 default)) o
theorem Q4 {F:Int} {av:List bq} {c:Nat} (ai:c<4):∀(l:List (Nat×Int)) (o:bq),bF (o6 F av l o) c=l.foldl (λa p=>max a (cw av p.1 c-F)) (bF o c)
 |[],o=>rfl
 |p::l,o=>by
  show bF (o6 F av l (Gk F o (av.getD p.1 default))) c=_;rw[Q4 ai l,List.foldl_cons];congr 1;unfold Gk;rw[hG ai];rfl
def oE (b:bw) (sh:List Bool) (p:dc):Bool:=if cX p b then sh.getD (bV b p) default else false
def sa (b:bw) (av:List bq) (sh:List Bool) (k:Nat):Int:=if b.2.2.2.2.2<=(eF b k 5).2.2 then 15 else if oE b sh (eF b k 5)=true then (av.getD (bV b (eF b k 5)) default).2.2.2 else 0
def td (F up:Int) (o:bq):bq:=(o.1,o.2.1,o.2.2.1,max (if up=15/\F=1 then 15 else o.2.2.2) (up-F))
def qs (m:cc):bq:=(max 0 (dh m 0),max 0 (dh m 1),max 0 (dh m 2),0)
def vP (table:List cc) (lit:List Int) (av:List bq) (sh:List Bool) (b:bw) (k:Nat):bq:=
 if sh.getD k default=true then td (dk table (lit.getD k default)).2.2.2.2.1 (sa b av sh k) (o6 (dk table (lit.getD k default)).2.2.2.2.1 av (c5 b sh k 6) (qs (dk table (lit.getD k default)))) else z4
theorem Q5 {α:Type} (f g:α->Int):∀(l:List α) (a o:Int),0<=a->0<=o->(∀p∈l,g p=max 0 (f p))->l.foldl (λa p=>max a (g p)) (max o a)=max o (l.foldl (λa p=>max a (f p)) a)
 |[],a,o,_,_,_=>rfl
 |p::l,a,o,ha,ho,h=>by
  rw[List.foldl_cons,List.foldl_cons,h p List.mem_cons_self];have:=Q5 f g l (max a (f p)) o aj ho λq aU=>h q (List.mem_cons_of_mem _ aU)
  rw[<-this];congr 1;omega
theorem Z9 {α:Type} (f:α->Int) (l:List α) {a B:Int} (ha:0<=a) (dQ:a<=B) (h:∀p∈l,f p<=B):0<=l.foldl (λa p=>max a (f p)) a/\l.foldl (λa p=>max a (f p)) a<=B:=by
 refine⟨?_,(B9 f l a B).2 ⟨dQ,h⟩⟩;have:=((B9 f l a _).1 (Int.le_refl _)).1;omega
theorem Z' {bn bH aX k:Nat}:∀j,j<=5->∀p∈t' bn bH aX k j,p.2<=0
 |0,_,p,h=>absurd h List.not_mem_nil
 |j+1,hj,p,h=>by
  rcases List.mem_append.1 h with h|h
  ·exact Z' j aj p h
  ·unfold rP at h
   match j,hj with
   |0,_|1,_|2,_|3,_|4,_=>
    simp only at h;split at h
    ·rw[List.mem_singleton] at h
     subst h
     first|exact Int.le_refl 0|exact(by decide:(-1:Int)<=0)
    ·exact absurd h List.not_mem_nil
theorem ala {b:bw} {sh:List Bool} {k:Nat}:∀p∈c5 b sh k 5,¬0<p.2:=λp h=>by
 have:=Z' 5 (bL _) p (List.mem_filter.1 h).1;omega
theorem Z_ {l F:Int} {c:Nat} {d:Bool} (h:¬(c=3/\d=true)):given l F c d=max 0 (l-F):=by
 unfold given;rw[aG λq=>h ⟨q.2.1,q.1⟩]
theorem alb {table:List cc} {lit:List Int} {av:List bq} {sh:List Bool} {b:bw} {k:Nat} (ad:okB b) (ag:k<sh.length) (hl:sh.length=(dv b).toNat) (dd:∀c,c<3->0<=dh (dk table (lit.getD k default)) c) (cl:1<=(dk table (lit.getD k default)).2.2.2.2.1) (hL:∀n,cw av n 3<=15):
  vP table lit av sh b k=r1 table lit av sh b k:=by
 unfold vP r1;split
 ·rename_i hs
  obtain⟨m,hm⟩:∃m,m=dk table (lit.getD k default):=⟨_,rfl⟩;rw[<-hm] at dd cl ⊢;obtain⟨F,C9⟩:∃F,F=m.2.2.2.2.1:=⟨_,rfl⟩;rw[<-C9] at cl ⊢;refine bq.ext' λc ai=> ?_
  rw[Pr ai];by_cases ar:c=3
  ·subst ar
   have h0:∀p∈c5 b sh k 5,given (cw av p.1 3) F 3 (decide (0<p.2))=max 0 (cw av p.1 3-F):=λp hp=>Z_ λq=>ala p hp (of_decide_eq_true q.2)
   obtain⟨A,jD⟩:∃A,A=(c5 b sh k 5).foldl (λa p=>max a (cw av p.1 3-F)) 0:=⟨_,rfl⟩;obtain⟨a0,alc⟩:=Z9 (λp:Nat×Int=>cw av p.1 3-F) (c5 b sh k 5) (a:=0) (B:=15) (Int.le_refl 0) ck (λp _=>by have:=hL p.1;omega);rw[<-jD] at a0 alc;obtain⟨O,cj⟩:∃O,O=bF (CF m (r0 b k)) 3:=⟨_,rfl⟩;have oj:O=if r0 b k then given 15 m.2.2.2.2.1 3 true else 0:=cj
   rw[<-C9] at oj;have o1:0<=O:=by
    rw[oj];split
    ·exact UC _ _ _ _
    ·exact Int.le_refl _
   have hb:(c5 b sh k 5).foldl (λa p=>max a (given (cw av p.1 3) F 3 (decide (0<p.2)))) O=max O A:=by
    rw[jD,<-Q5 (λp:Nat×Int=>cw av p.1 3-F) (λp=>given (cw av p.1 3) F 3 (decide (0<p.2))) _ 0 O (Int.le_refl 0) o1 h0];congr 1;omega
   have ald:bF (qs m) 3=0:=rfl;rw[<-cj];show max (if sa b av sh k=15/\F=1 then 15 else bF (o6 F av (c5 b sh k 6) (qs m)) 3) (sa b av sh k-F)=_;rw[Q4 ai,ald];have bu:(eF b k 5).2.2=(dH b ((k:Nat):Int)).2.2+1:=rfl;have rC:∀x:Int,given x F 3 true=if x=15/\F=1 then 15 else max 0 (x-F):=λx=>by
    unfold given;by_cases h:x=15/\F=1
    ·rw[aI h,aI ⟨rfl,rfl,h.1,h.2⟩]
    ·rw[aG h,aG λq=>h ⟨q.2.2.1,q.2.2.2⟩]
   have ax:0<=((k:Nat):Int)/\((k:Nat):Int)<dv b:=Pj ag hl;have hX:=(Z8 (b:=b) (k:=k) aj).1;have am':(dH b ((k:Nat):Int)).2.2<b.2.2.2.2.2:=by
    unfold cX at hX;omega
   have qx:(eF b k 5).2.2=b.2.2.2.2.2-1+1\/cX (eF b k 5) b:=by
    by_cases h:(eF b k 5).2.2<b.2.2.2.2.2
    ·right
     unfold cX at hX ⊢;show b.1<=(dH b ((k:Nat):Int)).1/\(dH b ((k:Nat):Int)).1<_/\_<=(dH b ((k:Nat):Int)).2.1/\(dH b ((k:Nat):Int)).2.1<_/\_<=(dH b ((k:Nat):Int)).2.2+1/\(dH b ((k:Nat):Int)).2.2+1<_;omega
    ·left
     omega
   by_cases aF:r0 b k
   ·have vY:(dH b ((k:Nat):Int)).2.2=b.2.2.2.2.2-1:=aF
    have ale:¬cX (eF b k 5) b:=λh=>by
     unfold cX at h;omega
    have po:sa b av sh k=15:=aI aj;rw[Pp ag hl ck ale,hb,<-jD,po];rw[aI aF,rC] at oj;by_cases h1:F=1
    ·rw[aI ⟨rfl,h1⟩] at oj ⊢
     omega
    ·rw[aG λq=>h1 q.2] at oj ⊢
     omega
   ·have vY:¬(dH b ((k:Nat):Int)).2.2=b.2.2.2.2.2-1:=aF
    have af:cX (eF b k 5) b:=qx.resolve_left λh=>vY aj
    have aac:¬b.2.2.2.2.2<=(eF b k 5).2.2:=by omega
    have sJ:oE b sh (eF b k 5)=sh.getD (bV b (eF b k 5)) default:=aI af;rw[aG aF] at oj;by_cases J':sh.getD (bV b (eF b k 5)) default=true
    ·obtain⟨x,ah⟩:∃x,x=cw av (bV b (eF b k 5)) 3:=⟨_,rfl⟩
     have am_:x<=15:=ah▸hL _;have po:sa b av sh k=x:=by
      unfold sa;rw[aG aac,aI (sJ.trans J'),ah];rfl
     rw[Pn ag hl ck af J',List.foldl_append,List.foldl_append,hb,<-jD,po];show max (if x=15/\F=1 then 15 else max A (cw av (bV b (eF b k 5)) 3-F)) (x-F)=max (max O A) (given (cw av (bV b (eF b k 5)) 3) F 3 true);rw[<-ah,rC];split
     ·omega
     ·omega
    ·have po:sa b av sh k=0:=by
      unfold sa;rw[aG aac,aG (λq=>J' (sJ▸q))]
     rw[Po ag hl ck af J',hb,<-jD,po,aG (λq=>absurd q.1 ck)];omega
  ·have J_:c<3:=by omega
   have h1:bF (td F (sa b av sh k) (o6 F av (c5 b sh k 6) (qs m))) c=bF (o6 F av (c5 b sh k 6) (qs m)) c:=by
    match c,J_ with
    |0,_|1,_|2,_=>rfl
   have ae:bF (qs m) c=max 0 (dh m c):=by
    match c,J_ with
    |0,_|1,_|2,_=>rfl
   have bm:bF (CF m (r0 b k)) c=dh m c:=by
    match c,J_ with
    |0,_|1,_|2,_=>rfl
   have he:=dd c J_;rw[h1,Q4 ai,ae,bm];have:=Q5 (λp:Nat×Int=>cw av p.1 c-F) (λp=>given (cw av p.1 c) F c (decide (0<p.2))) (c5 b sh k 6) (max 0 (dh m c)) 0 aj (Int.le_refl 0) (λp _=>Z_ λq=>ar q.1);have cg:=(Z9 (λp:Nat×Int=>cw av p.1 c-F) (c5 b sh k 6) (a:=max 0 (dh m c)) (B:=max (max 0 (dh m c)) ((c5 b sh k 6).foldl (λa p=>max a (cw av p.1 c-F)) (max 0 (dh m c)))) aj aj (λp hp=>by
    have:=((B9 (λp:Nat×Int=>cw av p.1 c-F) (c5 b sh k 6) (max 0 (dh m c)) _).1 (Int.le_refl _)).2 p hp
    omega)).1
   rw[show max 0 (max 0 (dh m c))=dh m c by omega] at this;rw[this];omega
 ·rfl
end AE
section
noncomputable section
namespace AE
namespace y3
def t:a7:=
.c 62 [.agg ⟨[6,7,8]⟩,.agg ⟨[0,1,2,3,4,5]⟩] 9 1<|
.o (.un .not 9) 10 1 []<|
.bb 10 (
 .ret (I (-1))) (
 .c 77 [.agg ⟨[0,1,2,3,4,5]⟩] (.agg ⟨[11,12,13]⟩) 3<|
 .c 104 [.agg ⟨[6,7,8]⟩,.agg ⟨[0,1,2]⟩] (.agg ⟨[14,15,16]⟩) 3<|
 .o (.bin .mul 3 12 16) 17 1 []<|
 .o (.bin .add 3 15 17) 18 1 []<|
 .o (.bin .mul 3 11 18) 19 1 []<|
 .o (.bin .add 3 14 19) 20 1 []<|
 .ret 20)
theorem bB:cZ Tryz.prog 64 {} [.agg ⟨[0,1,2,3,4,5]⟩,.agg ⟨[6,7,8]⟩] 9=some t:=dg az
theorem any (W:ao) (b:bw) (p:dc) (ad:okB b):Calls Tryz.prog 64 #[X.val b,P.val p] W λe w'=>e= .returned (I (vw b p))/\cA W.heap.size W w':=by
 refine fV (ro:=[]) mixed bB [I b.1,I b.2.1,I b.2.2.1,I b.2.2.2.1,I b.2.2.2.2.1,I b.2.2.2.2.2,I p.1,I p.2.1,I p.2.2] (.nil _) ?_;unfold t;refine ew (v:= .bool (decide (cX p b))) (λw _=>J5.any w p b) ?_;refine ox rfl ?_;refine i_ rfl (λh=>bx ?_) λh=> ?_
 ·rw[AK h]
  rfl
 ·have hp:=CB h
  have dw:=ad;unfold okB at dw;rw[akY h];obtain⟨q1,aB,b_,eB⟩:=akZ ad h;refine jV [I (bE b).1,I (bE b).2.1,I (bE b).2.2] (λw _=>J6.any w b ad) rfl ?_;refine jV [I (p.1-b.1),I (p.2.1-b.2.1),I (p.2.2-b.2.2.1)] (λw _=>QU.any (p:=p) (q:=(b.1,b.2.1,b.2.2.1)) aj (by dsimp only;omega)) rfl ?_;refine wX U U ?_;refine Fi U U ?_;refine wX U U ?_;refine Fi U U ?_;exact bx rfl
end y3
end AE
end
end
section
noncomputable section
namespace AE
namespace aad
def t:a7:=
.c 64 [.agg ⟨[0,1,2,3,4,5]⟩,.agg ⟨[7,8,9]⟩] 10 1<|
.o (.bin .lss 3 10 (I 0)) 11 1 []<|
.bb 11 (
 .ret (I 0)) (
 .o (.cm 26 6 10) 12 1 [0,3,1]<|
 .o (.bf 3 12) 13 1 [1]<|
 .ret 13)
theorem bB:cZ Tryz.prog 80 {} [.agg ⟨[0,1,2,3,4,5,6]⟩,.agg ⟨[7,8,9]⟩] 10=some t:=dg az
theorem any {W:ao} {b:bw} {a:Option Addr} {n c:Nat} {cells:List Int} (hl:bT (aE W) 1 hv (.slice a n c) cells) (p:dc) (ad:okB b) (hp:cX p b) (bt:bV b p<cells.length):hK bc 80 [hN b (.slice a n c),P.val p] W (I (cells.getD (bV b p) default)):=by
 refine fV (ro:=[⟨di,.slice a n c,cells⟩]) mixed bB [I b.1,I b.2.1,I b.2.2.1,I b.2.2.2.1,I b.2.2.2.2.1,I b.2.2.2.2.2,.slice a n c,I p.1,I p.2.1,I p.2.2] (.cons hl (.nil _)) ?_;unfold t;refine ew (v:=I (bV b p:Nat)) (λw _=>by rw[<-w8 ad hp];exact y3.any w b p ad) ?_;refine aN ?_;refine bR rfl (λh=>absurd h aj) λ_=> ?_
 refine aN ?_;exact bx rfl
end aad
namespace aae
def t:a7:=
.o (.bin .neq 25 (.agg ⟨[0,1,2,3,4,5]⟩) (.agg ⟨[7,8,9,10,11,12]⟩)) 14 1 []<|
.bb 14 (
 .ret (.bool false)) (
 .o (.len #[26] 3 6) 15 1 [0,3]<|
 .o (.len #[26] 3 13) 16 1 [0,3]<|
 .o (.bin .neq 3 15 16) 17 1 []<|
 .bb 17 (
  .ret (.bool false)) (
  .loop [I 0,.bool false] 2<|
  .o (.len #[26] 3 6) 20 1 [0,3]<|
  .o (.bin .lss 3 18 20) 21 1 []<|
  .bb 21 (
   .o (.cm 26 6 18) 22 1 [0,3,1]<|
   .o (.bf 3 22) 23 1 [1]<|
   .o (.cm 26 13 18) 24 1 [0,3,1]<|
   .o (.bf 3 24) 25 1 [1]<|
   .o (.bin .neq 3 23 25) 26 1 []<|
   .bb 26 (
    .c4<|
    .ret (.bool false)) (
    .o (.bin .add 3 18 (I 1)) 27 1 []<|
    .back [27,19])) (
   .c4<|
   .ret (.bool true))))
theorem bB:cZ Tryz.prog 36 {} [.agg ⟨[0,1,2,3,4,5,6]⟩,.agg ⟨[7,8,9,10,11,12,13]⟩] 14=some t:=dg az
theorem any {W:ao} {b:bw} {a cr:Option Addr} {n c n2 c2:Nat} {cells:List Int} (hl:bT (aE W) 1 hv (.slice a n c) cells) (kP:bT (aE W) 1 hv (.slice cr n2 c2) cells) (ak:n=cells.length) (iW:n2=cells.length) (h1:cells.length<=1000000):hK bc 36 [hN b (.slice a n c),hN b (.slice cr n2 c2)] W (.bool true):=by
 subst ak iW;refine fV (ro:=[⟨di,.slice a cells.length c,cells⟩,⟨di,.slice cr cells.length c2,cells⟩]) mixed bB [I b.1,I b.2.1,I b.2.2.1,I b.2.2.2.1,I b.2.2.2.2.1,I b.2.2.2.2.2,.slice a cells.length c,I b.1,I b.2.1,I b.2.2.1,I b.2.2.2.1,I b.2.2.2.2.1,I b.2.2.2.2.2,.slice cr cells.length c2] (.cons hl (.cons kP (.nil _))) ?_;unfold t;refine Cw (b:=true) (xs:=lB b) (ys:=lB b) U U (by
  have h:p4 bc 10000 25 (.agg ⟨lB b⟩) (.agg ⟨lB b⟩)=some ((b.1==b.1&&(b.2.1==b.2.1&&(b.2.2.1==b.2.2.1&&true)))&&((b.2.2.2.1==b.2.2.2.1&&(b.2.2.2.2.1==b.2.2.2.2.1&&(b.2.2.2.2.2==b.2.2.2.2.2&&true)))&&true)):=by kernel_rfl
  rw[h]
  simp) ?_
 refine q3 rfl ?_;refine aN ?_;refine bR rfl (λh=>absurd rfl h) λ_=> ?_
 refine k_ Nat (λi=>[I (i:Nat),.bool false]) (λ_=>[]) (λi=>i<=cells.length) (λi=>cells.length-i) 0 U U (Nat.zero_le _) (λi af=> ?_);refine aN ?_;refine bR rfl (λbt=> ?_) λ_=> ?_
 ·refine aN ?_
  refine bR rfl (λh=>absurd rfl h) λ_=> ?_
  refine aN ?_;exact h5 (i+1) U U aj aj
 ·refine aN ?_
  exact bx rfl
end aae
namespace aaf
def t:a7:=
.o (.len #[30] 3 0) 2 1 [0,4]<|
.o (.len #[30] 3 1) 3 1 [0,4]<|
.o (.bin .neq 3 2 3) 4 1 []<|
.bb 4 (
 .ret (.bool false)) (
 .loop [I 0,.bool false] 2<|
 .o (.len #[30] 3 0) 7 1 [0,4]<|
 .o (.bin .lss 3 5 7) 8 1 []<|
 .bb 8 (
  .o (.cm 30 0 5) 9 1 [0,4,1]<|
  .o (.bf 4 9) 10 1 [1]<|
  .o (.cm 30 1 5) 11 1 [0,4,1]<|
  .o (.bf 4 11) 12 1 [1]<|
  .o (.bin .neq 4 10 12) 13 1 []<|
  .bb 13 (
   .c4<|
   .ret (.bool false)) (
   .o (.bin .add 3 5 (I 1)) 14 1 []<|
   .back [14,6])) (
  .c4<|
  .ret (.bool true)))
theorem bB:cZ Tryz.prog 37 {} [0,1] 2=some t:=dg az
theorem any {W:ao} {a cr:Option Addr} {n c n2 c2:Nat} {l:List Bool} (hl:bT (aE W) 1 hx (.slice a n c) l) (kP:bT (aE W) 1 hx (.slice cr n2 c2) l) (ak:n=l.length) (iW:n2=l.length) (h1:l.length<=1000000):hK bc 37 [.slice a n c,.slice cr n2 c2] W (.bool true):=by
 subst ak iW;refine fV (ro:=[⟨c9,.slice a l.length c,l⟩,⟨c9,.slice cr l.length c2,l⟩]) mixed bB [.slice a l.length c,.slice cr l.length c2] (.cons hl (.cons kP (.nil _))) ?_;unfold t;refine aN ?_;refine bR rfl (λh=>absurd rfl h) λ_=> ?_
 refine k_ Nat (λi=>[I (i:Nat),.bool false]) (λ_=>[]) (λi=>i<=l.length) (λi=>l.length-i) 0 U U (Nat.zero_le _) (λi af=> ?_);refine aN ?_;refine bR rfl (λbt=> ?_) λ_=> ?_
 ·refine aN ?_
  refine um rfl (λh=>absurd h (by simp)) λ_=> ?_
  refine aN ?_;exact h5 (i+1) U U aj aj
 ·refine aN ?_
  exact bx rfl
end aaf
end AE
end
end
section
noncomputable section
namespace AE
abbrev aag:aK:=23
abbrev C':aK:=64
theorem alf:sV bc aag 3 24=true:=az
abbrev mQ:gE bc:=vt (α:=dc) default aag 3 24 vv alf
namespace Q6
def t:a7:=
.o (.bin .lss 3 1 (I 0)) 2 1 []<|
.bb 2 (
 .ret (.agg ⟨[b1 [],.bool false,.bool false,.bool false,I 16,I 0,I 0,I 0]⟩)) (
 .o (.len #[29] 3 0) 3 1 [0,66]<|
 .o (.bin .geq 3 1 3) 4 1 []<|
 .bb 4 (
  .ret (.agg ⟨[b1 [],.bool false,.bool false,.bool false,I 16,I 0,I 0,I 0]⟩)) (
  .o (.cm 29 0 1) 5 1 [0,66,8]<|
  .o (.bf 66 5) (.agg ⟨fC 8 6⟩) 8 [8]<|
  .ret (.agg ⟨[6,7,8,9,10,11,12,13]⟩)))
theorem bB:cZ Tryz.prog 111 {} [0,1] 2=some t:=dg az
theorem any {W:ao} {a:Option Addr} {n c:Nat} {table:List cc} (hl:bT (aE W) 8 gm (.slice a n c) table) (ak:n=table.length) (x:Int):hK bc 111 [.slice a n c,I x] W (M.val (dk table x)):=by
 subst ak;refine fV (ro:=[⟨gg,.slice a table.length c,table⟩]) mixed bB [.slice a table.length c,I x] (.cons hl (.nil _)) ?_;unfold t;refine aN ?_;refine bR rfl (λh=>bx ?_) λh=> ?_
 ·rw[Iy (λq=>by omega)]
  rfl
 ·obtain⟨j,rfl⟩:=Int.eq_ofNat_of_zero_le (show 0<=x by omega)
  refine aN ?_;refine bR rfl (λae=>bx ?_) λae=> ?_
  ·rw[Iy (λq=>by omega)]
   rfl
  ·have hj:j<table.length:=by omega
   refine ie (K:=gg) (l:=table) (j:=j) U U ?_;refine nt (K:=gg) (l:=table) (j:=j) (o:=0) (c:=gm (table.getD j default)) U U U fL ?_;refine bx ?_;rw[Uy aj aj];rfl
end Q6
namespace aah
def t:a7:=
.c 111 [0,1] (.agg ⟨[2,3,4,5,6,7,8,9]⟩) 8<|
.ret 6
theorem bB:cZ Tryz.prog 81 {} [0,1] 2=some t:=dg az
theorem any {W:ao} {a:Option Addr} {n c:Nat} {table:List cc} (hl:bT (aE W) 8 gm (.slice a n c) table) (ak:n=table.length) (x:Int):hK bc 81 [.slice a n c,I x] W (I (dk table x).2.2.2.2.1):=by
 refine fV (ro:=[⟨gg,.slice a n c,table⟩]) mixed bB [.slice a n c,I x] (.cons hl (.nil _)) ?_;unfold t;refine jV (gm (dk table x)) (λw hw=>Q6.any (hw.ro 0 _ rfl) ak x) rfl ?_;exact bx rfl
end aah
namespace aai
def t:a7:=
.c 111 [0,1] (.agg ⟨[2,3,4,5,6,7,8,9]⟩) 8<|
.ret (.agg ⟨[7,8,9]⟩)
theorem bB:cZ Tryz.prog 82 {} [0,1] 2=some t:=dg az
theorem any {W:ao} {a:Option Addr} {n c:Nat} {table:List cc} (hl:bT (aE W) 8 gm (.slice a n c) table) (ak:n=table.length) (x:Int):hK bc 82 [.slice a n c,I x] W (.agg ⟨[I (dh (dk table x) 0),I (dh (dk table x) 1),I (dh (dk table x) 2)]⟩):=by
 refine fV (ro:=[⟨gg,.slice a n c,table⟩]) mixed bB [.slice a n c,I x] (.cons hl (.nil _)) ?_;unfold t;refine jV (gm (dk table x)) (λw hw=>Q6.any (hw.ro 0 _ rfl) ak x) rfl ?_;exact bx rfl
end aai
namespace aaj
def t:a7:=
.c 62 [.agg ⟨[8,9,10]⟩,.agg ⟨[0,1,2,3,4,5]⟩] 11 1<|
.o (.un .not 11) 12 1 []<|
.bb 12 (
 .ret (.bool false)) (
 .o (.len #[30] 3 7) 13 1 [0,4]<|
 .o (.bin .eql 3 13 (I 0)) 14 1 []<|
 .bb 14 (
  .ret (.bool true)) (
  .c 64 [.agg ⟨[0,1,2,3,4,5]⟩,.agg ⟨[8,9,10]⟩] 15 1<|
  .o (.cm 30 7 15) 16 1 [0,4,1]<|
  .o (.bf 4 16) 17 1 [1]<|
  .ret 17))
theorem bB:cZ Tryz.prog 79 {} [.agg ⟨[0,1,2,3,4,5,6]⟩,7,.agg ⟨[8,9,10]⟩] 11=some t:=dg az
theorem any {W:ao} {b:bw} {a0:Option Addr} {cU bZ:Nat} {a:Option Addr} {n c:Nat} {sh:List Bool} (hl:bT (aE W) 1 hx (.slice a n c) sh) (ak:n=sh.length) (ad:okB b) (ax:sh.length=(dv b).toNat) (p:dc):hK bc 79 [hN b (.slice a0 cU bZ),.slice a n c,P.val p] W (.bool (oE b sh p)):=by
 subst ak;refine fV (ro:=[⟨c9,.slice a sh.length c,sh⟩]) mixed bB [I b.1,I b.2.1,I b.2.2.1,I b.2.2.2.1,I b.2.2.2.2.1,I b.2.2.2.2.2,.slice a0 cU bZ,.slice a sh.length c,I p.1,I p.2.1,I p.2.2] (.cons hl (.nil _)) ?_;unfold t;refine ew (v:= .bool (decide (cX p b))) (λw _=>J5.any w p b) ?_;refine ox rfl ?_;refine i_ rfl (λh=>bx ?_) λh=> ?_
 ·unfold oE
  rw[aG h];rfl
 ·have bt:bV b p<sh.length:=by rw[ax];exact s9 h
  refine aN ?_;refine bR rfl (λaJ=>absurd aJ aj) λ_=> ?_
  refine ew (v:=I (bV b p:Nat)) (λw _=>by rw[<-w8 ad h];exact y3.any w b p ad) ?_;refine ie (K:=c9) (l:=sh) (j:=bV b p) U U ?_;refine mM (K:=c9) (l:=sh) (j:=bV b p) (o:=0) (u:= .bool (sh.getD (bV b p) default)) U U ?_;refine bx ?_;unfold oE;rw[aI h];rfl
end aaj
def iE (p:dc):List dc:=[(p.1-1,p.2.1,p.2.2),(p.1+1,p.2.1,p.2.2),(p.1,p.2.1-1,p.2.2),(p.1,p.2.1+1,p.2.2),(p.1,p.2.1,p.2.2-1),(p.1,p.2.1,p.2.2+1)]
theorem aak {b:bw} {k i:Nat} (h:i<6):(iE (dH b ((k:Nat):Int))).getD i default=eF b k i:=by
 match i,h with
 |0,_|1,_|2,_|3,_|4,_|5,_=>rfl
namespace aal
def t:a7:=
.o (.bin .sub 3 0 (I 1)) 3 1 []<|
.o (.bin .add 3 0 (I 1)) 4 1 []<|
.o (.bin .sub 3 1 (I 1)) 5 1 []<|
.o (.bin .add 3 1 (I 1)) 6 1 []<|
.o (.bin .sub 3 2 (I 1)) 7 1 []<|
.o (.bin .add 3 2 (I 1)) 8 1 []<|
.ou 130 [.agg ⟨[3,1,2]⟩,.agg ⟨[4,1,2]⟩,.agg ⟨[0,5,2]⟩,.agg ⟨[0,6,2]⟩,.agg ⟨[0,1,7]⟩,.agg ⟨[0,1,8]⟩]<|
.ret 9
theorem bB:cZ Tryz.prog 83 {marks:=[130]} [.agg ⟨[0,1,2]⟩] 3=some t:=dg az
theorem any {W:ao} (aH:bY (aE W) (bD ([]:List (aw bc)))) (p:dc) (hp: -1048575<=p.1/\p.1<=1048575/\ -1048575<=p.2.1/\p.2.1<=1048575/\ -1048575<=p.2.2/\p.2.2<=1048575):
  ey bc 83 [P.val p] W [] cE (λy=> .slice y.1 (iE p).length y.2) (λy=>[aw.arr mQ (.slice y.1 (iE p).length y.2) (iE p)]):=by
 refine g_ (ro:=[]) mixed bB [I p.1,I p.2.1,I p.2.2] aH dR.none ?_;unfold t;refine aN ?_;refine yE (K:=mQ) (iE p) U U (λa c=>iy) (λa c=> ?_) ⟨.agg ⟨vv (0,0,0)⟩,az⟩;exact bx ⟨(a,c),rfl,rfl⟩
end aal
end AE
end
end
section
noncomputable section
namespace AE
theorem alg (F:Int) (av:List bq) (l:List (Nat×Int)) (p:Nat×Int) (o:bq):o6 F av (l++[p]) o=Gk F (o6 F av l o) (av.getD p.1 default):=by
 unfold o6;rw[List.foldl_append];rfl
theorem alh {b:bw} {k:Nat} {sh:List Bool} (ag:k<sh.length) (hl:sh.length=(dv b).toNat) {j:Nat} (hj:j<6):(oE b sh (eF b k j)=true->cX (eF b k j) b/\c5 b sh k (j+1)=c5 b sh k j++[(bV b (eF b k j),om j)])/\(¬oE b sh (eF b k j)=true->c5 b sh k (j+1)=c5 b sh k j):=by
 unfold oE;by_cases h:cX (eF b k j) b
 ·rw[aI h]
  exact⟨λhs=>⟨h,Pn ag hl hj h hs⟩,λhs=>Po ag hl hj h hs⟩
 ·rw[aG h]
  exact⟨λhs=>absurd hs (by simp),λ_=>Pp ag hl hj h⟩
def C_ (l:List bq):Prop:=∀n,w7 (l.getD n default)
namespace aam
def t:a7:=
.mJ 85<|
.mJ 85<|
.c 79 [.agg ⟨[0,1,2,3,4,5,6]⟩,8,.agg ⟨[10,11,12]⟩] 15 1<|
.o (.un .not 15) 16 1 []<|
.bb 16 (
 .o (.bf 85 14) (.agg ⟨fC 4 17⟩) 4 [4]<|
 .st 85 13 (.agg ⟨[17,18,19,20]⟩)<|
 .nO 85 13) (
 .c 80 [.agg ⟨[0,1,2,3,4,5,6]⟩,.agg ⟨[10,11,12]⟩] 17 1<|
 .c 81 [7,17] 18 1<|
 .c 82 [7,17] (.agg ⟨[19,20,21]⟩) 3<|
 .mJ 64<|
 .st 64 22 (.agg ⟨[19,20,21]⟩)<|
 .o (.cm 85 14 (I 0)) 23 1 [1,4,3,1]<|
 .o (.bf 3 23) 24 1 [1]<|
 .o (.cm 64 22 (I 0)) 25 1 [1,3,3,1]<|
 .o (.bf 3 25) 26 1 [1]<|
 .o (.dT #[3,3] 3 24 26) 27 1 []<|
 .st 3 23 27<|
 .o (.cm 85 14 (I 1)) 28 1 [1,4,3,1]<|
 .o (.bf 3 28) 29 1 [1]<|
 .o (.cm 64 22 (I 1)) 30 1 [1,3,3,1]<|
 .o (.bf 3 30) 31 1 [1]<|
 .o (.dT #[3,3] 3 29 31) 32 1 []<|
 .st 3 28 32<|
 .o (.cm 85 14 (I 2)) 33 1 [1,4,3,1]<|
 .o (.bf 3 33) 34 1 [1]<|
 .o (.cm 64 22 (I 2)) 35 1 [1,3,3,1]<|
 .o (.bf 3 35) 36 1 [1]<|
 .o (.dT #[3,3] 3 34 36) 37 1 []<|
 .st 3 33 37<|
 .call 83 [.agg ⟨[10,11,12]⟩] 38 1<|
 .loop [I 0] 1<|
 .o (.len #[130] 3 38) 40 1 [0,23]<|
 .o (.bin .lss 3 39 40) 41 1 []<|
 .bb 41 (
  .o (.cm 130 38 39) 42 1 [0,23,3]<|
  .o (.bf 23 42) (.agg ⟨fC 3 43⟩) 3 [3]<|
  .c 79 [.agg ⟨[0,1,2,3,4,5,6]⟩,8,.agg ⟨[43,44,45]⟩] 46 1<|
  .bb 46 (
   .o (.cm 85 14 (I 0)) 47 1 [1,4,3,1]<|
   .o (.bf 3 47) 48 1 [1]<|
   .o (.cm 130 38 39) 49 1 [0,23,3]<|
   .o (.bf 23 49) (.agg ⟨fC 3 50⟩) 3 [3]<|
   .c 64 [.agg ⟨[0,1,2,3,4,5]⟩,.agg ⟨[50,51,52]⟩] 53 1<|
   .o (.cm 51 9 53) 54 1 [0,85,4]<|
   .o (.cm 85 54 (I 0)) 55 1 [1,4,3,1]<|
   .o (.bf 3 55) 56 1 [1]<|
   .o (.bin .sub 3 56 18) 57 1 []<|
   .o (.dT #[3,3] 3 48 57) 58 1 []<|
   .st 3 47 58<|
   .o (.cm 85 14 (I 1)) 59 1 [1,4,3,1]<|
   .o (.bf 3 59) 60 1 [1]<|
   .o (.cm 130 38 39) 61 1 [0,23,3]<|
   .o (.bf 23 61) (.agg ⟨fC 3 62⟩) 3 [3]<|
   .c 64 [.agg ⟨[0,1,2,3,4,5]⟩,.agg ⟨[62,63,64]⟩] 65 1<|
   .o (.cm 51 9 65) 66 1 [0,85,4]<|
   .o (.cm 85 66 (I 1)) 67 1 [1,4,3,1]<|
   .o (.bf 3 67) 68 1 [1]<|
   .o (.bin .sub 3 68 18) 69 1 []<|
   .o (.dT #[3,3] 3 60 69) 70 1 []<|
   .st 3 59 70<|
   .o (.cm 85 14 (I 2)) 71 1 [1,4,3,1]<|
   .o (.bf 3 71) 72 1 [1]<|
   .o (.cm 130 38 39) 73 1 [0,23,3]<|
   .o (.bf 23 73) (.agg ⟨fC 3 74⟩) 3 [3]<|
   .c 64 [.agg ⟨[0,1,2,3,4,5]⟩,.agg ⟨[74,75,76]⟩] 77 1<|
   .o (.cm 51 9 77) 78 1 [0,85,4]<|
   .o (.cm 85 78 (I 2)) 79 1 [1,4,3,1]<|
   .o (.bf 3 79) 80 1 [1]<|
   .o (.bin .sub 3 80 18) 81 1 []<|
   .o (.dT #[3,3] 3 72 81) 82 1 []<|
   .st 3 71 82<|
   .o (.cm 85 14 (I 3)) 83 1 [1,4,3,1]<|
   .o (.bf 3 83) 84 1 [1]<|
   .o (.cm 130 38 39) 85 1 [0,23,3]<|
   .o (.bf 23 85) (.agg ⟨fC 3 86⟩) 3 [3]<|
   .c 64 [.agg ⟨[0,1,2,3,4,5]⟩,.agg ⟨[86,87,88]⟩] 89 1<|
   .o (.cm 51 9 89) 90 1 [0,85,4]<|
   .o (.cm 85 90 (I 3)) 91 1 [1,4,3,1]<|
   .o (.bf 3 91) 92 1 [1]<|
   .o (.bin .sub 3 92 18) 93 1 []<|
   .o (.dT #[3,3] 3 84 93) 94 1 []<|
   .st 3 83 94<|
   .o (.bin .add 3 39 (I 1)) 95 1 []<|
   .back [95]) (
   .o (.bin .add 3 39 (I 1)) 47 1 []<|
   .back [47])) (
  .c4<|
  .o (.cm 130 38 (I 5)) 42 1 [0,23,3]<|
  .o (.bf 23 42) (.agg ⟨fC 3 43⟩) 3 [3]<|
  .c 79 [.agg ⟨[0,1,2,3,4,5,6]⟩,8,.agg ⟨[43,44,45]⟩] 46 1<|
  .qW 46 (
   .c 64 [.agg ⟨[0,1,2,3,4,5]⟩,.agg ⟨[43,44,45]⟩] 47 1<|
   .o (.cm 51 9 47) 48 1 [0,85,4]<|
   .o (.cm 85 48 (I 3)) 49 1 [1,4,3,1]<|
   .o (.bf 3 49) 50 1 [1]<|
   .back [50]) (
   .back [I 0]) 1<|
  .o (.bin .geq 3 45 5) 48 1 []<|
  .qW 48 (
   .back [I 15]) (
   .back [47]) 1<|
  .o (.bin .eql 3 49 (I 15)) 50 1 []<|
  .bb 50 (
   .o (.bin .eql 3 18 (I 1)) 51 1 []<|
   .qW 51 (
    .o (.cm 85 14 (I 3)) 52 1 [1,4,3,1]<|
    .st 3 52 (I 15)<|
    .back []) (
    .back []) 0<|
   .o (.cm 85 14 (I 3)) 52 1 [1,4,3,1]<|
   .o (.bf 3 52) 53 1 [1]<|
   .o (.bin .sub 3 49 18) 54 1 []<|
   .o (.dT #[3,3] 3 53 54) 55 1 []<|
   .st 3 52 55<|
   .o (.bf 85 14) (.agg ⟨fC 4 56⟩) 4 [4]<|
   .st 85 13 (.agg ⟨[56,57,58,59]⟩)<|
   .nO 85 13) (
   .o (.cm 85 14 (I 3)) 51 1 [1,4,3,1]<|
   .o (.bf 3 51) 52 1 [1]<|
   .o (.bin .sub 3 49 18) 53 1 []<|
   .o (.dT #[3,3] 3 52 53) 54 1 []<|
   .st 3 51 54<|
   .o (.bf 85 14) (.agg ⟨fC 4 55⟩) 4 [4]<|
   .st 85 13 (.agg ⟨[55,56,57,58]⟩)<|
   .nO 85 13)))
theorem bB:cZ Tryz.prog 45 {iT:=[83],marks:=[85,64],NY:=[(0,4),(4,5)],EY:=[(102,[]),(117,[]),(123,[])]} [.agg ⟨[0,1,2,3,4,5,6]⟩,7,8,9,.agg ⟨[10,11,12]⟩] 13=some t:=dg az
theorem any {W:ao} {b:bw} {a0:Option Addr} {cU bZ:Nat} {cells:List Int} (pI:bT (aE W) 1 hv (.slice a0 cU bZ) cells) {b2 cr a3:Option Addr} {lj n2 xj cp c2 c3:Nat} {table:List cc} {sh:List Bool} {av:List bq} (l_:bT (aE W) 8 gm (.slice b2 lj cp) table) (kP:bT (aE W) 1 hx (.slice cr n2 c2) sh) (sD:bT (aE W) 4 ch (.slice a3 xj c3) av)
  (aJ:cU=cells.length) (h1:lj=table.length) (ae:n2=sh.length) (ar:xj=av.length) (k:Nat) (ad:okB b) (ag:k<sh.length) (ax:sh.length=(dv b).toNat) (ko:cells.length=sh.length) (iH:av.length=sh.length) (cl:1<=(dk table (cells.getD k default)).2.2.2.2.1/\(dk table (cells.getD k default)).2.2.2.2.1<=16) (hL:C_ av):
  hK bc 45 [hN b (.slice a0 cU bZ),.slice b2 lj cp,.slice cr n2 c2,.slice a3 xj c3,P.val (dH b ((k:Nat):Int))] W (.agg ⟨ch (vP table cells av sh b k)⟩):=by
 subst aJ h1 ae ar;obtain⟨hX,fq⟩:=Z8 (b:=b) (k:=k) aj;have r2:=CE ad (k:Nat);obtain⟨p,hp⟩:∃p,p=dH b ((k:Nat):Int):=⟨_,rfl⟩;rw[<-hp] at hX fq r2 ⊢;have sJ:oE b sh p=sh.getD k default:=by
  unfold oE;rw[aI hX,fq]
 obtain⟨m,hm⟩:∃m,m=dk table (cells.getD k default):=⟨_,rfl⟩;obtain⟨F,C9⟩:∃F,F=m.2.2.2.2.1:=⟨_,rfl⟩;have tw:vP table cells av sh b k=if sh.getD k default=true then td F (sa b av sh k) (o6 F av (c5 b sh k 6) (qs m)) else z4:=by
  rw[C9,hm];rfl
 rw[<-hm,<-C9] at cl;refine fV (ro:=[⟨di,.slice a0 cells.length bZ,cells⟩,⟨gg,.slice b2 table.length cp,table⟩,⟨c9,.slice cr sh.length c2,sh⟩,⟨ez,.slice a3 av.length c3,av⟩]) mixed bB [I b.1,I b.2.1,I b.2.2.1,I b.2.2.2.1,I b.2.2.2.2.1,I b.2.2.2.2.2,.slice a0 cells.length bZ,.slice b2 table.length cp,.slice cr sh.length c2,.slice a3 av.length c3,I p.1,I p.2.1,I p.2.2] (.cons pI (.cons l_ (.cons kP (.cons sD (.nil _))))) ?_;unfold t;have p6:∀{L:List (aw bc)} (q:dc) (w:ao),ji W [] [⟨di,.slice a0 cells.length bZ,cells⟩,⟨gg,.slice b2 table.length cp,table⟩,⟨c9,.slice cr sh.length c2,sh⟩,⟨ez,.slice a3 av.length c3,av⟩] L w->hK bc 79 [hN b (.slice a0 cells.length bZ),.slice cr sh.length c2,P.val q] w (.bool (oE b sh q)):=λq w hw=>aaj.any (hw.ro 2 _ rfl) rfl ad ax q
 have dP:∀{L:List (aw bc)} (q:dc),cX q b->∀(w:ao),ji W [] [⟨di,.slice a0 cells.length bZ,cells⟩,⟨gg,.slice b2 table.length cp,table⟩,⟨c9,.slice cr sh.length c2,sh⟩,⟨ez,.slice a3 av.length c3,av⟩] L w->hK bc 64 [.agg ⟨lB b⟩,P.val q] w (I (bV b q:Nat)):=λq aU w _=>by rw[<-w8 ad aU];exact y3.any w b q ad
 refine uq (z:= .agg ⟨ch z4⟩) (ch z4) az rfl (λb=>iy) λgr=> ?_
 refine uq (z:= .agg ⟨ch z4⟩) (ch z4) az rfl (λb=>iy) λgo=> ?_
 refine ew (v:= .bool (sh.getD k default)) (λw hw=>by rw[<-sJ];exact p6 p w hw) ?_;refine aN ?_;refine um rfl (λmy=> ?_) λmy=> ?_
 ·have hs:¬sh.getD k default=true:=by simpa using my
  refine mN (c:=ch z4) rfl has U U fL ?_;refine sT (m:=4) (us:=ch z4) (cs':=ch z4) U U fK rfl ?_;refine AF (L':=[]) rfl has (λM aV=>aV.pick [] rfl) ?_;rw[tw,aG hs]
 ·have hs:sh.getD k default=true:=by simpa using my
  rw[aI hs] at tw;have dd:ch (vP table cells av sh b k)=ch (td F (sa b av sh k) (o6 F av (c5 b sh k 6) (qs m))):=by rw[tw]
  refine ew (v:=I (cells.getD k default)) (λw hw=>by
   have:=aad.any (b:=b) (hw.ro 0 _ rfl) p ad hX (by rw[fq];show k<cells.length;omega);rw[fq] at this
   exact this) ?_
  refine ew (v:=I F) (λw hw=>by rw[C9,hm];exact aah.any (hw.ro 1 _ rfl) rfl _) ?_;refine jV [I (dh m 0),I (dh m 1),I (dh m 2)] (λw hw=>by rw[hm];exact aai.any (hw.ro 1 _ rfl) rfl _) rfl ?_;refine uq (z:= .agg ⟨[I 0,I 0,I 0]⟩) [I 0,I 0,I 0] az rfl (λb=>iy) λge=> ?_
  refine sT (m:=3) (us:=[I (dh m 0),I (dh m 1),I (dh m 2)]) (cs':=[I (dh m 0),I (dh m 1),I (dh m 2)]) U U fK rfl ?_;refine pB (j:=0) U U ?_;refine kz (u:=I 0) rfl has rfl ?_;refine pB (j:=0) U U ?_;refine kz (u:=I (dh m 0)) rfl has rfl ?_;refine vq U U ?_;refine pD U U fK pC ?_;refine pB (j:=1) U U ?_;refine kz (u:=I 0) rfl has rfl ?_;refine pB (j:=1) U U ?_;refine kz (u:=I (dh m 1)) rfl has rfl ?_;refine vq U U ?_;refine pD U U fK pC ?_;refine pB (j:=2) U U ?_;refine kz (u:=I 0) rfl has rfl ?_;refine pB (j:=2) U U ?_;refine kz (u:=I (dh m 2)) rfl has rfl ?_;refine vq U U ?_;refine pD U U fK pC ?_;refine kA (v:=λ(y:cE)=> .slice y.1 (iE p).length y.2) (dm:=[]) (N:=λ(y:cE)=>[aw.arr mQ (.slice y.1 (iE p).length y.2) (iE p)]) (L':=λy=>[aw.box gr iA (ch z4),aw.box go iA (ch (qs m)),aw.box ge C' [I (dh m 0),I (dh m 1),I (dh m 2)],aw.arr mQ (.slice y.1 (iE p).length y.2) (iE p)]) [] (λy=>[.slice y.1 (iE p).length y.2]) (λw _ aH=>aal.any aH p r2) λy=> ?_
  refine k_ Nat (λi=>[I (i:Nat)]) (λi=>[aw.box gr iA (ch z4),aw.box go iA (ch (o6 F av (c5 b sh k i) (qs m))),aw.box ge C' [I (dh m 0),I (dh m 1),I (dh m 2)],aw.arr mQ (.slice y.1 (iE p).length y.2) (iE p)]) (λi=>i<=6) (λi=>6-i) 0 U U (by show 0<=6;omega) (λi af=> ?_);have ana:(iE p).length=6:=rfl;refine aN ?_;refine bR rfl (λKa=> ?_) λKa=> ?_
  ·have Ka:i<6:=by omega
   have aU:(iE p).getD i default=eF b k i:=by rw[hp];exact aak Ka
   obtain⟨lj,n2⟩:=alh ag ax Ka;obtain⟨q,CD⟩:∃q,q=eF b k i:=⟨_,rfl⟩;rw[<-CD] at aU lj n2;refine ie (K:=mQ) (l:=iE p) (j:=i) U U ?_;refine nt (K:=mQ) (l:=iE p) (j:=i) (o:=0) (c:=vv q) rfl (by rw[<-aU];rfl) rfl fL ?_;refine ew (v:= .bool (oE b sh q)) (λw hw=>p6 q w hw) ?_;obtain⟨o,ho⟩:∃o,o=o6 F av (c5 b sh k i) (qs m):=⟨_,rfl⟩;rw[<-ho];refine um rfl (λa_=> ?_) λa_=> ?_
   ·obtain⟨y4,ak⟩:=lj a_
    have bt:bV b q<av.length:=by rw[iH,ax];exact s9 y4
    obtain⟨z,bu⟩:∃z,z=av.getD (bV b q) default:=⟨_,rfl⟩;have Kb:w7 z:=bu▸hL _;have z0:0<=z.1/\z.1<=15:=Kb 0 ck;have vm:0<=z.2.1/\z.2.1<=15:=Kb 1 ck;have z2:0<=z.2.2.1/\z.2.2.1<=15:=Kb 2 ck;have z3:0<=z.2.2.2/\z.2.2.2<=15:=Kb 3 ck;refine pB (j:=0) U U ?_;refine kz (u:=I o.1) rfl has rfl ?_;refine ie (K:=mQ) (l:=iE p) (j:=i) U U ?_;refine nt (K:=mQ) (l:=iE p) (j:=i) (o:=0) (c:=vv q) rfl (by rw[<-aU];rfl) rfl fL ?_;refine ew (v:=I (bV b q:Nat)) (λw hw=>dP q y4 w hw) ?_;refine ie (K:=ez) (l:=av) (j:=bV b q) U U ?_;refine Cv (K:=ez) (l:=av) (j:=bV b q) (c:=0) U U ?_;refine mM (K:=ez) (l:=av) (j:=bV b q) (u:=I z.1) rfl (by rw[bu];rfl) ?_;refine AD U U ?_;refine vq U U ?_;refine pD U U fK pC ?_;refine pB (j:=1) U U ?_;refine kz (u:=I o.2.1) rfl has rfl ?_;refine ie (K:=mQ) (l:=iE p) (j:=i) U U ?_;refine nt (K:=mQ) (l:=iE p) (j:=i) (o:=0) (c:=vv q) rfl (by rw[<-aU];rfl) rfl fL ?_;refine ew (v:=I (bV b q:Nat)) (λw hw=>dP q y4 w hw) ?_;refine ie (K:=ez) (l:=av) (j:=bV b q) U U ?_;refine Cv (K:=ez) (l:=av) (j:=bV b q) (c:=1) U U ?_;refine mM (K:=ez) (l:=av) (j:=bV b q) (u:=I z.2.1) rfl (by rw[bu];rfl) ?_;refine AD U U ?_;refine vq U U ?_;refine pD U U fK pC ?_;refine pB (j:=2) U U ?_;refine kz (u:=I o.2.2.1) rfl has rfl ?_;refine ie (K:=mQ) (l:=iE p) (j:=i) U U ?_;refine nt (K:=mQ) (l:=iE p) (j:=i) (o:=0) (c:=vv q) rfl (by rw[<-aU];rfl) rfl fL ?_;refine ew (v:=I (bV b q:Nat)) (λw hw=>dP q y4 w hw) ?_;refine ie (K:=ez) (l:=av) (j:=bV b q) U U ?_;refine Cv (K:=ez) (l:=av) (j:=bV b q) (c:=2) U U ?_;refine mM (K:=ez) (l:=av) (j:=bV b q) (u:=I z.2.2.1) rfl (by rw[bu];rfl) ?_;refine AD U U ?_;refine vq U U ?_;refine pD U U fK pC ?_;refine pB (j:=3) U U ?_;refine kz (u:=I o.2.2.2) rfl has rfl ?_;refine ie (K:=mQ) (l:=iE p) (j:=i) U U ?_;refine nt (K:=mQ) (l:=iE p) (j:=i) (o:=0) (c:=vv q) rfl (by rw[<-aU];rfl) rfl fL ?_;refine ew (v:=I (bV b q:Nat)) (λw hw=>dP q y4 w hw) ?_;refine ie (K:=ez) (l:=av) (j:=bV b q) U U ?_;refine Cv (K:=ez) (l:=av) (j:=bV b q) (c:=3) U U ?_;refine mM (K:=ez) (l:=av) (j:=bV b q) (u:=I z.2.2.2) rfl (by rw[bu];rfl) ?_;refine AD U U ?_;refine vq U U ?_;refine pD U U fK pC ?_;refine aN ?_;refine h5 (i+1) rfl ?_ aj aj;show _=[_,aw.box go iA (ch (o6 F av (c5 b sh k (i+1)) (qs m))),_,_];rw[ak,alg,<-ho];show _=[_,aw.box go iA (ch (Gk F o (av.getD (bV b q) default))),_,_];rw[<-bu];rfl
   ·refine aN ?_
    refine h5 (i+1) rfl ?_ aj aj;show _=[_,aw.box go iA (ch (o6 F av (c5 b sh k (i+1)) (qs m))),_,_];rw[n2 (by rw[a_];decide),<-ho]
  ·obtain rfl:i=6:=by omega
   refine hV ?_;obtain⟨o,ho⟩:∃o,o=o6 F av (c5 b sh k 6) (qs m):=⟨_,rfl⟩;rw[<-ho] at dd;show X _ _ _ _ _ _ _ [aw.box gr iA (ch z4),aw.box go iA (ch (o6 F av (c5 b sh k 6) (qs m))),aw.box ge C' [I (dh m 0),I (dh m 1),I (dh m 2)],aw.arr mQ (.slice y.1 (iE p).length y.2) (iE p)] _ _;rw[<-ho,dd];have aU:(iE p).getD 5 default=eF b k 5:=by rw[hp];exact aak ck
   obtain⟨q,CD⟩:∃q,q=eF b k 5:=⟨_,rfl⟩;rw[<-CD] at aU;have Kc:sa b av sh k=if b.2.2.2.2.2<=q.2.2 then 15 else if oE b sh q=true then (av.getD (bV b q) default).2.2.2 else 0:=by rw[CD];rfl
   obtain⟨im,C2⟩:∃im,im=if oE b sh q=true then (av.getD (bV b q) default).2.2.2 else 0:=⟨_,rfl⟩
   have ali:0<=im/\im<=15:=by
    rw[C2];split
    ·exact hL (bV b q) 3 ck
    ·decide
   rw[<-C2] at Kc;refine ie (K:=mQ) (l:=iE p) (j:=5) U U ?_ (hj:=by show 5<6;decide);refine nt (K:=mQ) (l:=iE p) (j:=5) (o:=0) (c:=vv q) rfl (by rw[<-aU];rfl) rfl fL ?_ (hj:=by show 5<6;decide);refine ew (v:= .bool (decide (oE b sh q=true))) (λw hw=>by
    have:=p6 q w hw
    rwa [show oE b sh q=decide (oE b sh q=true) by simp] at this) ?_
   refine Ji Int (λu=>[I u]) (λ_=>[aw.box gr iA (ch z4),aw.box go iA (ch o),aw.box ge C' [I (dh m 0),I (dh m 1),I (dh m 2)],aw.arr mQ (.slice y.1 (iE p).length y.2) (iE p)]) (λu=>u=im) rfl (λa_=> ?_) (λa_=> ?_) (λu hu=> ?_)
   ·have y4:cX q b:=by
     unfold oE at a_;by_cases h:cX q b
     ·exact h
     ·rw[aG h] at a_;cases a_
    have bt:bV b q<av.length:=by rw[iH,ax];exact s9 y4
    refine ew (v:=I (bV b q:Nat)) (λw hw=>dP q y4 w hw) ?_;refine ie (K:=ez) (l:=av) (j:=bV b q) U U ?_;refine Cv (K:=ez) (l:=av) (j:=bV b q) (c:=3) U U ?_;refine mM (K:=ez) (l:=av) (j:=bV b q) (u:=I (av.getD (bV b q) default).2.2.2) U U ?_;exact wZ ((av.getD (bV b q) default).2.2.2) U U (by rw[C2,aI a_])
   ·exact wZ (0:Int) U U (by rw[C2,aG a_])
   ·subst hu
    refine aN ?_;refine Ji Int (λu=>[I u]) (λ_=>[aw.box gr iA (ch z4),aw.box go iA (ch o),aw.box ge C' [I (dh m 0),I (dh m 1),I (dh m 2)],aw.arr mQ (.slice y.1 (iE p).length y.2) (iE p)]) (λv=>v=sa b av sh k) rfl (λa_=> ?_) (λa_=> ?_) (λv l8=> ?_)
    ·exact wZ (15:Int) U U (by rw[Kc,aI a_])
    ·exact wZ u U U (by rw[Kc,aG a_])
    ·have PA:0<=v/\v<=15:=by
      rw[l8,Kc];split
      ·decide
      ·exact ali
     rw[<-l8];refine aN ?_;refine bR rfl (λQ7=> ?_) λQ7=> ?_
     ·refine aN ?_
      refine Ji Unit (λ_=>[]) (λ_=>[aw.box gr iA (ch z4),aw.box go iA (ch (o.1,o.2.1,o.2.2.1,if v=15/\F=1 then 15 else o.2.2.2)),aw.box ge C' [I (dh m 0),I (dh m 1),I (dh m 2)],aw.arr mQ (.slice y.1 (iE p).length y.2) (iE p)]) (λ_=>True) rfl (λaO=> ?_) (λaO=> ?_) (λ_ _=> ?_)
      ·refine pB (j:=3) U U ?_
       refine pD (cs':=ch (o.1,o.2.1,o.2.2.1,15)) U U fK pC ?_;refine wZ () rfl ?_ trivial;show _=[_,aw.box go iA (ch (o.1,o.2.1,o.2.2.1,if v=15/\F=1 then 15 else o.2.2.2)),_,_];rw[aI ⟨Q7,aO⟩]
      ·refine wZ () rfl ?_ trivial
       show _=[_,aw.box go iA (ch (o.1,o.2.1,o.2.2.1,if v=15/\F=1 then 15 else o.2.2.2)),_,_];rw[aG (λq=>aO q.2)]
      ·refine pB (j:=3) U U ?_
       refine kz (u:=I (if v=15/\F=1 then 15 else o.2.2.2)) rfl has rfl ?_;refine AD U U ?_;refine vq U U ?_;refine pD (cs':=ch (td F v o)) U U fK pC ?_;refine mN (c:=ch (td F v o)) rfl has U U fL ?_;refine sT (m:=4) (us:=ch (td F v o)) (cs':=ch (td F v o)) U U fK rfl ?_;exact AF (L':=[]) rfl has (λM aV=>aV.pick [] rfl) rfl
     ·refine pB (j:=3) U U ?_
      refine kz (u:=I o.2.2.2) rfl has rfl ?_;refine AD U U ?_;refine vq U U ?_;refine pD (cs':=ch (td F v o)) U U fK (by
       show uk _ _ _ (ch (o.1,o.2.1,o.2.2.1,max (if v=15/\F=1 then 15 else o.2.2.2) (v-F)));rw[aG (λq=>Q7 q.1)]
       exact pC) ?_
      refine mN (c:=ch (td F v o)) rfl has U U fL ?_;refine sT (m:=4) (us:=ch (td F v o)) (cs':=ch (td F v o)) U U fK rfl ?_;exact AF (L':=[]) rfl has (λM aV=>aV.pick [] rfl) rfl
end aam
end AE
end
end
section
noncomputable section
namespace AE
theorem Q8 {b:bw} (ad:okB b):0<=(bE b).1*(bE b).2.1/\(bE b).1*(bE b).2.1<=2097150*2097150/\0<=dv b/\dv b<=2097150*2097150*2097150:=by
 obtain⟨h1,ae,ar,bm,cg,cu⟩:=yG ad;have mW:0<=(bE b).1*(bE b).2.1/\(bE b).1*(bE b).2.1<=2097150*2097150:=⟨Int.mul_nonneg h1 ar,Int.mul_le_mul ae bm ar ck⟩;exact⟨mW.1,mW.2,Int.mul_nonneg mW.1 cg,Int.mul_le_mul mW.2 cu cg ck⟩
namespace Q9
def t:a7:=
.c 77 [.agg ⟨[0,1,2,3,4,5]⟩] (.agg ⟨[6,7,8]⟩) 3<|
.o (.bin .mul 3 6 7) 9 1 []<|
.o (.bin .mul 3 9 8) 10 1 []<|
.ret 10
theorem bB:cZ Tryz.prog 76 {} [.agg ⟨[0,1,2,3,4,5]⟩] 6=some t:=dg az
theorem any {W:ao} {b:bw} (ad:okB b):hK bc 76 [.agg ⟨lB b⟩] W (I (dv b)):=by
 obtain⟨mW,yH,m3,m4⟩:=Q8 ad;unfold dv at m3 m4;refine fV (ro:=[]) mixed bB [I b.1,I b.2.1,I b.2.2.1,I b.2.2.2.1,I b.2.2.2.2.1,I b.2.2.2.2.2] (.nil _) ?_;unfold t;refine jV [I (bE b).1,I (bE b).2.1,I (bE b).2.2] (λw _=>J6.any w b ad) rfl ?_;refine wX U U ?_;refine wX U U ?_;exact bx rfl
end Q9
namespace aan
def t:a7:=
.o (.bin .add 3 0 3) 6 1 []<|
.o (.bin .add 3 1 4) 7 1 []<|
.o (.bin .add 3 2 5) 8 1 []<|
.ret (.agg ⟨[6,7,8]⟩)
theorem bB:cZ Tryz.prog 78 {} [.agg ⟨[0,1,2]⟩,.agg ⟨[3,4,5]⟩] 6=some t:=dg az
theorem any {W:ao} {p q:dc} (hp: -2097152<=p.1/\p.1<=2097152/\ -2097152<=p.2.1/\p.2.1<=2097152/\ -2097152<=p.2.2/\p.2.2<=2097152) (aU: -9223372036850000000<=q.1/\q.1<=9223372036850000000/\ -9223372036850000000<=q.2.1/\q.2.1<=9223372036850000000/\ -9223372036850000000<=q.2.2/\q.2.2<=9223372036850000000):hK bc 78 [P.val p,P.val q] W (P.val (p.1+q.1,p.2.1+q.2.1,p.2.2+q.2.2)):=by
 refine fV (ro:=[]) mixed bB [I p.1,I p.2.1,I p.2.2,I q.1,I q.2.1,I q.2.2] (.nil _) ?_;unfold t;refine aN ?_;exact bx rfl
end aan
namespace aao
def t:a7:=
.o (.bin .lss 3 6 (I 0)) 7 1 []<|
.bb 7 (
 .ret (.tuple ⟨[.agg ⟨[I 0,I 0,I 0]⟩,.bool false]⟩)) (
 .c 76 [.agg ⟨[0,1,2,3,4,5]⟩] 8 1<|
 .o (.bin .geq 3 6 8) 9 1 []<|
 .bb 9 (
  .ret (.tuple ⟨[.agg ⟨[I 0,I 0,I 0]⟩,.bool false]⟩)) (
  .c 77 [.agg ⟨[0,1,2,3,4,5]⟩] (.agg ⟨[10,11,12]⟩) 3<|
  .o (.bin .rem 3 6 10) 13 1 []<|
  .o (.bin .quo 3 6 10) 14 1 []<|
  .o (.bin .rem 3 14 11) 15 1 []<|
  .o (.bin .quo 3 14 11) 16 1 []<|
  .c 78 [.agg ⟨[0,1,2]⟩,.agg ⟨[13,15,16]⟩] (.agg ⟨[17,18,19]⟩) 3<|
  .ret (.tuple ⟨[.agg ⟨[17,18,19]⟩,.bool true]⟩)))
theorem bB:cZ Tryz.prog 44 {} [.agg ⟨[0,1,2,3,4,5]⟩,6] 7=some t:=dg az
theorem any {W:ao} {b:bw} (ad:okB b) {k:Nat} (ag:k<(dv b).toNat):hK bc 44 [.agg ⟨lB b⟩,I (k:Nat)] W (.tuple ⟨[P.val (dH b ((k:Nat):Int)),.bool true]⟩):=by
 obtain⟨bn,bH,aX,hs,vA,h1,ae,ar⟩:=Fy ag;obtain⟨cp,c2,c3⟩:=Ap vA;obtain⟨vm,z2,z3,z4,aiD,FL⟩:=yG ad;have ax:((k:Nat):Int)<dv b:=by omega
 have anb:((k:Nat):Int)<=2097150*2097150*2097150:=by
  have:=(Q8 ad).2.2.2;omega
 have ha:dH b ((k:Nat):Int)=(b.1+((k:Nat):Int)%(bE b).1,b.2.1+((k:Nat):Int)/(bE b).1%(bE b).2.1,b.2.2.1+((k:Nat):Int)/(bE b).1/(bE b).2.1):=aI ⟨aj,ax⟩;have r2:=CE ad (k:Nat);rw[ha] at r2 ⊢;have e1:(bE b).1=(bn:Nat):=by rw[hs]
 have e2:(bE b).2.1=(bH:Nat):=by rw[hs]
 have dw:=ad;unfold okB at dw;have d1:0<=((k:Nat):Int)/(bE b).1:=Int.ediv_nonneg aj aj;obtain⟨y,a_⟩:∃y,y=((k:Nat):Int)/(bE b).1:=⟨_,rfl⟩;rw[<-a_] at d1 r2 ⊢;have ve:y<=((k:Nat):Int):=by rw[a_];exact Int.ediv_le_self _ aj
 have mW:0<=((k:Nat):Int)%(bE b).1:=Int.emod_nonneg _ aj;have yH:0<=y%(bE b).2.1:=Int.emod_nonneg _ aj;have jK:0<=y/(bE b).2.1:=Int.ediv_nonneg aj aj;refine fV (ro:=[]) mixed bB [I b.1,I b.2.1,I b.2.2.1,I b.2.2.2.1,I b.2.2.2.2.1,I b.2.2.2.2.2,I (k:Nat)] (.nil _) ?_;unfold t;refine aN ?_;refine bR rfl (λh=>absurd h aj) λ_=> ?_
 refine ew (v:=I (dv b)) (λw _=>Q9.any ad) ?_;refine aN ?_;refine bR rfl (λh=>absurd h aj) λ_=> ?_
 refine jV [I (bE b).1,I (bE b).2.1,I (bE b).2.2] (λw _=>J6.any w b ad) rfl ?_;refine Fl U U ?_;refine Fk U U ?_;rw[<-a_];refine Fl U U ?_;refine Fk U U ?_;refine jV [I (b.1+((k:Nat):Int)%(bE b).1),I (b.2.1+y%(bE b).2.1),I (b.2.2.1+y/(bE b).2.1)] (λw _=>aan.any (p:=(b.1,b.2.1,b.2.2.1)) (q:=(((k:Nat):Int)%(bE b).1,y%(bE b).2.1,y/(bE b).2.1)) (by dsimp only;omega) (by dsimp only at r2 ⊢;omega)) rfl ?_;exact bx rfl
end aao
def lk (table:List cc) (cells:List Int) (av:List bq) (sh:List Bool) (b:bw) (n:Nat):List bq:=(List.range n).map λk=>vP table cells av sh b k
theorem alj (table:List cc) (cells:List Int) (av:List bq) (sh:List Bool) (b:bw) (n:Nat):lk table cells av sh b (n+1)=lk table cells av sh b n++[vP table cells av sh b n]:=by
 unfold lk;rw[List.range_succ,List.map_append];rfl
theorem Gl (table:List cc) (cells:List Int) (av:List bq) (sh:List Bool) (b:bw) (n:Nat):(lk table cells av sh b n).length=n:=by
 unfold lk;rw[List.length_map,List.length_range]
namespace aap
def t:a7:=
.loop [.slice none 0 0,I 0] 2<|
.o (.len #[26] 3 6) 12 1 [0,3]<|
.o (.bin .lss 3 11 12) 13 1 []<|
.bb 13 (
 .c 44 [.agg ⟨[0,1,2,3,4,5]⟩,11] (.tuple ⟨[.agg ⟨[14,15,16]⟩,17]⟩) 4<|
 .c 45 [.agg ⟨[0,1,2,3,4,5,6]⟩,7,8,9,.agg ⟨[14,15,16]⟩] (.agg ⟨[18,19,20,21]⟩) 4<|
 .rT 51 10 [18,19,20,21]<|
 .o (.bin .add 3 11 (I 1)) 23 1 []<|
 .back [22,23]) (
 .c4<|
 .ret 10)
theorem bB:cZ Tryz.prog 18 {} [.agg ⟨[0,1,2,3,4,5,6]⟩,7,8,9] 10=some t:=dg az
theorem any {W:ao} {b:bw} {a0:Option Addr} {cU bZ:Nat} {cells:List Int} (aH:bY (aE W) (bD ([]:List (aw bc)))) (pI:bT (aE W) 1 hv (.slice a0 cU bZ) cells) {b2 cr a3:Option Addr} {lj n2 xj cp c2 c3:Nat} {table:List cc} {sh:List Bool} {av:List bq} (l_:bT (aE W) 8 gm (.slice b2 lj cp) table) (kP:bT (aE W) 1 hx (.slice cr n2 c2) sh) (sD:bT (aE W) 4 ch (.slice a3 xj c3) av)
  (aJ:cU=cells.length) (h1:lj=table.length) (ae:n2=sh.length) (ar:xj=av.length) (ad:okB b) (ax:sh.length=(dv b).toNat) (ko:cells.length=sh.length) (iH:av.length=sh.length) (ak:cells.length<=10000) (cl:∀k,k<sh.length->1<=(dk table (cells.getD k default)).2.2.2.2.1/\(dk table (cells.getD k default)).2.2.2.2.1<=16) (hL:C_ av):
  ey bc 18 [hN b (.slice a0 cU bZ),.slice b2 lj cp,.slice cr n2 c2,.slice a3 xj c3] W [] cE (λy=> .slice y.1 (lk table cells av sh b cells.length).length y.2) (λy=>[aw.arr ez (.slice y.1 (lk table cells av sh b cells.length).length y.2) (lk table cells av sh b cells.length)]):=by
 subst aJ h1 ae ar;refine g_ (ro:=[⟨di,.slice a0 cells.length bZ,cells⟩,⟨gg,.slice b2 table.length cp,table⟩,⟨c9,.slice cr sh.length c2,sh⟩,⟨ez,.slice a3 av.length c3,av⟩]) mixed bB [I b.1,I b.2.1,I b.2.2.1,I b.2.2.2.1,I b.2.2.2.2.1,I b.2.2.2.2.2,.slice a0 cells.length bZ,.slice b2 table.length cp,.slice cr sh.length c2,.slice a3 av.length c3] aH (dR.ext (.cons pI (.cons l_ (.cons kP (.cons sD (.nil _)))))) ?_;unfold t;refine F6 (Nat×cE) (λu=>[.slice u.2.1 (lk table cells av sh b u.1).length u.2.2,I (u.1:Nat)]) (λu=>[aw.arr ez (.slice u.2.1 (lk table cells av sh b u.1).length u.2.2) (lk table cells av sh b u.1)]) (λu=>u.1<=cells.length) (λu=>cells.length-u.1) (0,none,0) rfl (h4.JN ez) (Nat.zero_le _) (λu hu=> ?_);obtain⟨i,a,c⟩:=u;have hu:i<=cells.length:=hu;dsimp only;have gC:=Gl table cells av sh b i;refine aN ?_;refine bR rfl (λaf=> ?_) λaf=> ?_
 ·have af:i<cells.length:=by omega
  have r2:=CE ad (i:Nat);refine jV [I (dH b ((i:Nat):Int)).1,I (dH b ((i:Nat):Int)).2.1,I (dH b ((i:Nat):Int)).2.2,.bool true] (λw _=>aao.any ad aj) rfl ?_;refine jV (ch (vP table cells av sh b i)) (λw hw=>aam.any (hw.ro 0 _ rfl) (hw.ro 1 _ rfl) (hw.ro 2 _ rfl) (hw.ro 3 _ rfl) U U U U i ad (by show i<sh.length;omega) ax ko iH (cl i (by show i<sh.length;omega)) hL) rfl ?_;refine Fm (K:=ez) (l:=lk table cells av sh b i) [vP table cells av sh b i] rfl (λa c=>fK) rfl (λcr c2=> ?_) (vE (by show _+1<=_;omega)) (by show (_+1)*32<=_;omega);rw[<-alj];refine aN ?_;exact h5 (u:=(i,a,c)) (i+1,cr,c2) U U af (by show cells.length-(i+1)<cells.length-i;omega)
 ·obtain rfl:i=cells.length:=by omega
  refine hV ?_;exact bx ⟨(a,c),rfl,rfl⟩
end aap
end AE
end
end
namespace AE
theorem alk {table:List cc} {cells:List Int} {av:List bq} {sh:List Bool} {b:bw} {n k:Nat} (h:k<n):(lk table cells av sh b n).getD k default=vP table cells av sh b k:=by
 unfold lk;rw[c_,List.getElem?_map,List.getElem?_range h];rfl
def uK (l:List bq):Nat:=(l.map λx=>(15-x.1).toNat+(15-x.2.1).toNat+(15-x.2.2.1).toNat+(15-x.2.2.2).toNat).foldr (· +·) 0
theorem aaq:∀(l m:List bq),l.length=m.length->(∀k,k<l.length->∀c,c<4->bF (l.getD k default) c<=bF (m.getD k default) c/\bF (m.getD k default) c<=15)->uK m<=uK l/\(l≠m->uK m<uK l)
 |[],[],_,_=>⟨bL _,λh=>absurd rfl h⟩
 |[],_::_,h,_=>by cases h
 |_::_,[],h,_=>by cases h
 |x::l,y::m,hl,h=>by
  obtain⟨anc,alm⟩:=aaq l m (by simpa using hl) λk ag c ai=>h (k+1) (by simpa using ag) c ai
  have aJ:∀c,c<4->bF x c<=bF y c/\bF y c<=15:=λc ai=>h 0 (by simp) c ai
  have a0:x.1<=y.1/\y.1<=15:=aJ 0 ck;have b2:x.2.1<=y.2.1/\y.2.1<=15:=aJ 1 ck;have cr:x.2.2.1<=y.2.2.1/\y.2.2.1<=15:=aJ 2 ck;have a3:x.2.2.2<=y.2.2.2/\y.2.2.2<=15:=aJ 3 ck;have e:∀(z:bq) (r:List bq),uK (z::r)=((15-z.1).toNat+(15-z.2.1).toNat+(15-z.2.2.1).toNat+(15-z.2.2.2).toNat)+uK r:=λ_ _=>rfl
  rw[e,e];refine⟨aj,λcv=> ?_⟩;by_cases ah:x=y
  ·have:=alm λq=>cv (by rw[ah,q])
   rw[ah];omega
  ·have:¬(x.1=y.1/\x.2.1=y.2.1/\x.2.2.1=y.2.2.1/\x.2.2.2=y.2.2.2):=λq=>ah (Prod.ext q.1 (Prod.ext q.2.1 (Prod.ext q.2.2.1 q.2.2.2)))
   omega
structure ra (table:List cc) (cells:List Int) (sh:List Bool) (b:bw) (l:List bq):Prop where
 len:l.length=sh.length
 A9:C_ l
 up:∀k c,k<(er b).N->c<4->cw l k c<=rule (er b) (gf table cells sh) (cw l) k c
 low:∀P,B' (er b) (gf table cells sh) P->∀k c,k<(er b).N->c<4->cw l k c<=P k c
section
variable {table:List cc} {cells:List Int} {sh:List Bool} {b:bw} {l:List bq}
theorem A_ (aF:vC table):(gf table cells sh).jR (er b).N:=⟨λk _=>(aF _).1,λk c _ ai=>(aF _).2.2 c ai⟩
theorem Q' (aF:vC table) (ad:okB b) (ax:sh.length=(dv b).toNat) (h:C_ l) {k c:Nat} (ag:k<(er b).N) (ai:c<4):cw (lk table cells l sh b sh.length) k c=rule (er b) (gf table cells sh) (cw l) k c:=by
 have kH:k<sh.length:=by rw[ax,<-CG ad];exact ag
 show bF ((lk table cells l sh b sh.length).getD k default) c=_;rw[alk kH,alb ad kH ax (λc ai=>((aF _).2.2 c ai).1) (aF _).1 (λn=>(h n 3 ck).2),Wx ad ag ai]
theorem ra.zero (aF:vC table):ra table cells sh b (List.replicate sh.length z4):=by
 have aJ:∀k c,c<4->cw (List.replicate sh.length z4) k c=0:=λk c ai=>by
  have:(List.replicate sh.length z4).getD k z4=z4:=by
   rw[c_,List.getElem?_replicate];split<;>rfl
  show bF ((List.replicate sh.length z4).getD k z4) c=0;rw[this];exact yp c
 refine⟨kX,λn c ai=> ?_,λk c ag ai=> ?_,λP hP k c ag ai=> ?_⟩
 ·have:bF ((List.replicate sh.length z4).getD n default) c=0:=aJ n c ai
  rw[this];decide
 ·rw[aJ k c ai]
  exact tX (A_ aF) ag ai
 ·rw[aJ k c ai]
  exact Int.le_trans (tX (A_ aF) ag ai) (hP k c ag ai)
theorem aln (h:C_ l) (k c:Nat) (ai:c<4):0<=cw l k c/\cw l k c<=15:=h k c ai
theorem ra.next (aF:vC table) (ad:okB b) (ax:sh.length=(dv b).toNat) (h:ra table cells sh b l):ra table cells sh b (lk table cells l sh b sh.length):=by
 have h0:(er b).N=sh.length:=(CG ad).trans ax.symm;have hs:=λ{k c:Nat} (ag:k<(er b).N) (ai:c<4)=>Q' (cells:=cells) aF ad ax h.A9 ag ai
 refine⟨Gl _ _ _ _ _ _,λn c ai=> ?_,λk c ag ai=> ?_,λP hP k c ag ai=> ?_⟩
 ·by_cases ak:n<(er b).N
  ·have e:bF ((lk table cells l sh b sh.length).getD n default) c=rule (er b) (gf table cells sh) (cw l) n c:=hs ak ai
   rw[e];exact⟨tX (A_ aF) ak ai,Nt (A_ aF) ak ai λm _=>(aln h.A9 m c ai).2⟩
  ·rw[c_,List.getElem?_eq_none (by rw[Gl];omega)]
   have:bF (default:bq) c=0:=yp c;show 0<=bF (default:bq) c/\bF (default:bq) c<=15;rw[this];decide
 ·rw[hs ag ai]
  exact Iz (A_ aF) ag ai λm hm=>by rw[hs hm ai];exact h.up m c hm ai
 ·rw[hs ag ai]
  exact Int.le_trans (Iz (A_ aF) ag ai λm hm=>h.low P hP m c hm ai) (hP k c ag ai)
theorem ra.less (aF:vC table) (ad:okB b) (ax:sh.length=(dv b).toNat) (h:ra table cells sh b l) (cv:¬l=lk table cells l sh b sh.length):uK (lk table cells l sh b sh.length)<uK l:=by
 have h0:(er b).N=sh.length:=(CG ad).trans ax.symm;refine(aaq l _ (h.len.trans (Gl _ _ _ _ _ _).symm) λk ag c ai=> ?_).2 cv;have kH:k<(er b).N:=by rw[h0,<-h.len];exact ag
 refine⟨?_,((h.next aF ad ax).A9 k c ai).2⟩;have e:bF ((lk table cells l sh b sh.length).getD k default) c=rule (er b) (gf table cells sh) (cw l) k c:=Q' aF ad ax h.A9 kH ai;rw[e];exact h.up k c kH ai
theorem ra.full (aF:vC table) (ad:okB b) (ax:sh.length=(dv b).toNat) (h:ra table cells sh b l) (he:l=lk table cells l sh b sh.length):oU (er b) (gf table cells sh) (cw l):=
 UH (A_ aF) (λk c ag ai=>by
  have:=Q' (cells:=cells) aF ad ax h.A9 ag ai;rw[<-he] at this
  exact Int.le_of_eq this.symm) h.low
theorem alo (ad:okB b) (ax:sh.length=(dv b).toNat) {l':List bq} (h:oU (er b) (gf table cells sh) (cw l)) (gu:oU (er b) (gf table cells sh) (cw l')) (hl:l.length=sh.length) (eT:l'.length=sh.length):l=l':=by
 have h0:(er b).N=sh.length:=(CG ad).trans ax.symm;apply List.ext_getElem (hl.trans eT.symm);intro i h1 ae;apply bq.ext';intro c alp;have:=h.unique gu i c aj alp;unfold cw at this;rw[c_,c_,fy h1,fy ae] at this;exact this
end
end AE
namespace AE
def Gm (b:UInt8):Prop:=(97<=b.toNat/\b.toNat<=122)\/b.toNat=45
theorem Q_ {r:Nat}:s7 r=true↔¬((97<=r/\r<=122)\/r=45):=by
 unfold s7 FT;simp only [cV,Bool.not_eq_true',Bool.and_eq_false_iff,decide_eq_false_iff_not];omega
theorem aar (s:ByteArray):∀(f pos:Nat),s.size<=pos+f->(Lib.idxFuncFrom s7 true s f pos<0↔∀i (h:i<s.size),pos<=i->Gm (s[i]'h))
 |0,pos,aO=>by
  unfold Lib.idxFuncFrom;exact⟨λ_ i h hp=>by omega,λ_=>by omega⟩
 |f+1,pos,aO=>by
  unfold Lib.idxFuncFrom;by_cases hp:pos<s.size
  ·rw[aI hp]
   rcases Nat.lt_or_ge (s[pos]'hp).toNat 128 with ha|ha
   ·rw[decode_ascii s pos hp ha]
    simp only;by_cases ad:s7 (s[pos]'hp).toNat=true
    ·rw[aI ad]
     exact⟨λh=>by omega,λh=>absurd (h pos hp (bL _)) (Q_.1 ad)⟩
    ·rw[aG ad,aar s f (pos+1) aj]
     refine⟨λh i af Dg=> ?_,λh i af Dg=>h i af aj⟩;rcases Nat.lt_or_ge pos i with h1|h1
     ·exact h i af h1
     ·obtain rfl:i=pos:=by omega
      exact Classical.byContradiction λae=>ad (Q_.2 ae)
   ·have a8:=(decode_high s pos hp ha).1
    rw[aI (Q_.2 aj)];refine⟨λh=>by omega,λh=> ?_⟩;have:=h pos hp (bL _);unfold Gm at this;omega
  ·rw[aG hp]
   exact⟨λ_ i h Dg=>by omega,λ_=>by omega⟩
theorem aas (l:eQ):Lib.idxFunc s7 true ⟨l.toArray⟩<0↔∀i,i<l.length->Gm (l.getD i 0):=by
 unfold Lib.idxFunc;rw[aar _ _ _ aj];have hs:(⟨l.toArray⟩:ByteArray).size=l.length:=rfl;have aA:∀i (h:i<(⟨l.toArray⟩:ByteArray).size),((⟨l.toArray⟩:ByteArray)[i]'h)=l.getD i 0:=λi h=>by
  rw[c_,fy (by rw[<-hs];exact h)];rfl
 refine⟨λh i af=> ?_,λh i af _=> ?_⟩
 ·rw[<-aA i af];exact h i af (Nat.zero_le _)
 ·rw[aA];exact h i af
def mR (s:eQ) (j:Nat):Prop:=(97<=(s.getD j 0).toNat/\(s.getD j 0).toNat<=122)\/((s.getD j 0).toNat=45/\0<j/\(j:Int)<(s.length:Int)-1)
theorem alq {s:eQ} {i:Nat} (af:i<s.length) (h:¬mR s i):¬kT s:=λak=>by
 have h1:=(aas s).1 ak.2.2.2 i af;unfold Gm at h1;refine h ?_;unfold mR;rcases h1 with h1|h1
 ·exact .inl h1
 ·refine .inr ⟨h1,?_,?_⟩
  ·rcases Nat.eq_zero_or_pos i with aJ|aJ
   ·subst aJ
    exact absurd aj ak.2.1
   ·exact aJ
  ·rcases Int.lt_or_le (i:Int) ((s.length:Int)-1) with aJ|aJ
   ·exact aJ
   ·have ae:=ak.2.2.1
    rw[show (((s.length:Nat):Int)-1).toNat=i by omega] at ae;exact absurd aj ae
theorem alr {s:eQ} (h1:0<s.length) (ae:s.length<=32) (h:∀j,j<s.length->mR s j):kT s:=by
 refine⟨⟨h1,ae⟩,?_,?_,(aas s).2 λi af=> ?_⟩
 ·have:=h 0 h1
  unfold mR at this;omega
 ·have:=h (((s.length:Nat):Int)-1).toNat aj
  unfold mR at this;omega
 ·have:=h i af
  unfold mR at this;unfold Gm;omega
def Gn (b:Bool):Int:=if b=true then 1 else 0
theorem Kd (b:Bool):decide (Gn b=1)=b:=by cases b<;>rfl
theorem als {s:eQ} {a b c d F bA e1 e2:Int} (a8:kT s↔d=1):fW (s,decide (a=1),decide (b=1),decide (c=1),F,bA,e1,e2)↔d=1/\(¬a=1\/¬b=1)/\(¬c=1\/a=1)/\1<=F/\F<=16/\0<=bA/\bA<=15/\0<=e1/\e1<=15/\0<=e2/\e2<=15:=by
 have ag:¬(ki (s,decide (a=1),decide (b=1),decide (c=1),F,bA,e1,e2)).1=[]↔(¬a=1\/¬b=1)/\(¬c=1\/a=1):=by
  unfold ki;by_cases ha:a=1<;>by_cases ad:b=1<;>by_cases ai:c=1<;>simp [ha,ad,ai]
 unfold fW;rw[ag,a8];exact⟨λ⟨h1,⟨ae,ar⟩,bm⟩=>⟨h1,ae,ar,bm⟩,λ⟨h1,ae,ar,bm⟩=>⟨h1,⟨ae,ar⟩,bm⟩⟩
def y5 (l:List cc) (s:eQ):Nat->Nat×Bool
 |0=>(0,false)
 |n+1=>if (l.getD (l.length-(n+1)) default).1=s then (l.length-(n+1),true) else y5 l s n
def Ba (l:List cc) (s:eQ):Nat×Bool:=y5 l s l.length
theorem aat (l:List cc) (s:eQ) (m:Nat):y5 l s (m+1)=if (l.getD (l.length-(m+1)) default).1=s then (l.length-(m+1),true) else y5 l s m:=rfl
theorem alu {l:List cc} {s:eQ} {i:Nat} (af:i<l.length):y5 l s (l.length-i)=if (l.getD i default).1=s then (i,true) else y5 l s (l.length-(i+1)):=by
 obtain⟨m,hm⟩:∃m,l.length-i=m+1:=⟨l.length-i-1,aj⟩;rw[hm,aat,show l.length-(m+1)=i by omega,show l.length-(i+1)=m by omega]
theorem aau {l:List cc} {s:eQ} {k:Nat} (ag:k<l.length) (hs:(l.getD k default).1=s):∀m,k<l.length->l.length-m<=k->m<=l.length->((y5 l s m).1<k↔∃j,l.length-m<=j/\j<k/\(l.getD j default).1=s)
 |0,_,h,_=>by omega
 |m+1,_,h,hm=>by
  rw[aat];by_cases he:(l.getD (l.length-(m+1)) default).1=s
  ·rw[aI he]
   constructor
   ·exact λh1=>⟨_,bL _,h1,he⟩
   ·rintro ⟨j,h1,ae,_⟩
    show l.length-(m+1)<k;omega
  ·rw[aG he]
   have cv:l.length-(m+1)≠k:=λe=>he (e▸hs)
   rw[aau ag hs m ag aj aj];constructor
   ·rintro ⟨j,h1,ae,ar⟩
    exact⟨j,aj,ae,ar⟩
   ·rintro ⟨j,h1,ae,ar⟩
    refine⟨j,?_,ae,ar⟩;have:j≠l.length-(m+1):=λe=>he (e▸ar)
    omega
theorem alv {l:List cc} {k:Nat} (ag:k<l.length):(Ba l (l.getD k default).1).1<k↔(l.getD k default).1∈xf l k:=by
 unfold Ba;rw[aau ag rfl l.length ag aj (bL _)];unfold xf;rw[List.mem_map];constructor
 ·rintro ⟨j,_,ae,ar⟩
  refine⟨l.getD j default,?_,ar⟩;rw[List.mem_iff_getElem?];refine⟨j,?_⟩;rw[List.getElem?_take,aI ae,c_,fy aj];rfl
 ·rintro ⟨x,ah,he⟩
  rw[List.mem_iff_getElem?] at ah;obtain⟨j,hj⟩:=ah;rw[List.getElem?_take] at hj;split at hj
  ·rename_i alw
   refine⟨j,aj,alw,?_⟩;rw[c_,hj];exact he
  ·cases hj
end AE
section
noncomputable section
namespace AE
namespace aav
def t:a7:=
.o (.len #[9] 3 0) 1 1 [2]<|
.o (.bin .lss 3 1 (I 1)) 2 1 []<|
.bb 2 (
 .ret (.bool false)) (
 .o (.len #[9] 3 0) 3 1 [2]<|
 .o (.bin .gtr 3 3 (I 32)) 4 1 []<|
 .bb 4 (
  .ret (.bool false)) (
  .loop [I 0,.bool false] 2<|
  .o (.len #[9] 3 0) 7 1 [2]<|
  .o (.bin .lss 3 5 7) 8 1 []<|
  .bb 8 (
   .o (.dP 9 0 5) 9 1 [2]<|
   .o (.bin .geq 5 9 (.int .u8 97)) 10 1 []<|
   .bb 10 (
    .o (.dP 9 0 5) 11 1 [2]<|
    .o (.bin .leq 5 11 (.int .u8 122)) 12 1 []<|
    .o (.bin .eql 5 11 (.int .u8 45)) 13 1 []<|
    .bb 13 (
     .o (.bin .gtr 3 5 (I 0)) 14 1 []<|
     .bb 14 (
      .o (.len #[9] 3 0) 15 1 [2]<|
      .o (.bin .sub 3 15 (I 1)) 16 1 []<|
      .o (.bin .lss 3 5 16) 17 1 []<|
      .o (.un .not 12) 18 1 []<|
      .bb 18 (
       .o (.un .not 17) 19 1 []<|
       .bb 19 (
        .c4<|
        .ret (.bool false)) (
        .o (.bin .add 3 5 (I 1)) 20 1 []<|
        .back [20,6])) (
       .o (.bin .add 3 5 (I 1)) 19 1 []<|
       .back [19,6])) (
      .o (.un .not 12) 15 1 []<|
      .bb 15 (
       .c4<|
       .ret (.bool false)) (
       .o (.bin .add 3 5 (I 1)) 16 1 []<|
       .back [16,6]))) (
     .o (.un .not 12) 14 1 []<|
     .bb 14 (
      .c4<|
      .ret (.bool false)) (
      .o (.bin .add 3 5 (I 1)) 15 1 []<|
      .back [15,6]))) (
    .o (.dP 9 0 5) 11 1 [2]<|
    .o (.bin .eql 5 11 (.int .u8 45)) 12 1 []<|
    .bb 12 (
     .o (.bin .gtr 3 5 (I 0)) 13 1 []<|
     .bb 13 (
      .o (.len #[9] 3 0) 14 1 [2]<|
      .o (.bin .sub 3 14 (I 1)) 15 1 []<|
      .o (.bin .lss 3 5 15) 16 1 []<|
      .o (.un .not 16) 17 1 []<|
      .bb 17 (
       .c4<|
       .ret (.bool false)) (
       .o (.bin .add 3 5 (I 1)) 18 1 []<|
       .back [18,6])) (
      .c4<|
      .ret (.bool false))) (
     .c4<|
     .ret (.bool false)))) (
   .c4<|
   .ret (.bool true))))
theorem bB:cZ Tryz.prog 122 {} [0] 1=some t:=dg az
theorem any {W:ao} (s:eQ):hK bc 122 [b1 s] W (.bool (decide (kT s))):=by
 refine fV (ro:=[]) mixed bB [b1 s] (.nil _) ?_;unfold t;refine C5 (s:=s) rfl ?_;refine aN ?_;refine bR rfl (λh1=>bx (eG λh=>by have:=h.1;omega)) λh1=> ?_
 refine C5 (s:=s) rfl ?_;refine aN ?_;refine bR rfl (λae=>bx (eG λh=>by have:=h.1;omega)) λae=> ?_
 refine k_ Nat (λi=>[I (i:Nat),.bool false]) (λ_=>[]) (λi=>i<=s.length/\∀j,j<i->mR s j) (λi=>s.length-i) 0 U U ⟨Nat.zero_le _,λj hj=>absurd hj (Nat.not_lt_zero j)⟩ (λi af=> ?_);obtain⟨af,bg⟩:=af;have Gp:i<s.length->mR s i->(i+1<=s.length/\∀j,j<i+1->mR s j):=λh1 ae=>⟨h1,λj hj=>by
  rcases Nat.lt_succ_iff_lt_or_eq.1 hj with ar|ar
  ·exact bg j ar
  ·rw[ar];exact ae⟩
 refine C5 (s:=s) rfl ?_;refine aN ?_;refine bR rfl (λbt=> ?_) λbt=> ?_
 ·have bt:i<s.length:=by omega
  have no:¬mR s i->∀{n:Nat} {env:List J},ex env n (.bool false)= .bool (decide (kT s)):=λh n env=>eG (alq bt h)
  refine QQ (s:=s) (j:=i) U U ?_;refine aN ?_;refine bR rfl (λhi=> ?_) λhi=> ?_
  ·refine QQ (s:=s) (j:=i) U U ?_
   refine aN ?_;refine bR rfl (λfQ=> ?_) λfQ=> ?_
   ·refine aN ?_
    refine bR rfl (λpe=> ?_) λpe=> ?_
    ·refine C5 (s:=s) rfl ?_
     refine aN ?_;refine i_ rfl (λnF=> ?_) λnF=> ?_
     ·refine aN ?_
      refine i_ rfl (λxU=> ?_) λxU=> ?_
      ·exact hV (bx (no (by unfold mR;omega)))
      ·refine aN ?_
       exact h5 (i+1) U U (Gp bt (by unfold mR;omega)) aj
     ·refine aN ?_
      exact h5 (i+1) U U (Gp bt (by unfold mR;omega)) aj
    ·refine aN ?_
     refine i_ rfl (λnF=> ?_) λnF=> ?_
     ·exact hV (bx (no (by unfold mR;omega)))
     ·refine aN ?_
      exact h5 (i+1) U U (Gp bt (by unfold mR;omega)) aj
   ·refine aN ?_
    refine i_ rfl (λnF=> ?_) λnF=> ?_
    ·exact hV (bx (no (by unfold mR;omega)))
    ·refine aN ?_
     exact h5 (i+1) U U (Gp bt (by unfold mR;omega)) aj
  ·refine QQ (s:=s) (j:=i) U U ?_
   refine aN ?_;refine bR rfl (λfQ=> ?_) λfQ=> ?_
   ·refine aN ?_
    refine bR rfl (λpe=> ?_) λpe=> ?_
    ·refine C5 (s:=s) rfl ?_
     refine aN ?_;refine i_ rfl (λnF=> ?_) λnF=> ?_
     ·exact hV (bx (no (by unfold mR;omega)))
     ·refine aN ?_
      exact h5 (i+1) U U (Gp bt (by unfold mR;omega)) aj
    ·exact hV (bx (no (by unfold mR;omega)))
   ·exact hV (bx (no (by unfold mR;omega)))
 ·refine hV (bx ?_)
  rw[kF (alr aj aj λj hj=>bg j aj)];rfl
end aav
namespace aaw
def t:a7:=
.o (.bin .lss 3 5 (I 0)) 8 1 []<|
.bb 8 (
 .ret (.bool false)) (
 .o (.bin .gtr 3 5 (I 15)) 9 1 []<|
 .bb 9 (
  .ret (.bool false)) (
  .o (.bin .lss 3 6 (I 0)) 10 1 []<|
  .bb 10 (
   .ret (.bool false)) (
   .o (.bin .gtr 3 6 (I 15)) 11 1 []<|
   .bb 11 (
    .ret (.bool false)) (
    .o (.bin .lss 3 7 (I 0)) 12 1 []<|
    .bb 12 (
     .ret (.bool false)) (
     .o (.bin .gtr 3 7 (I 15)) 13 1 []<|
     .bb 13 (
      .ret (.bool false)) (
      .c 122 [0] 14 1<|
      .bb 14 (
       .o (.un .not 1) 15 1 []<|
       .bb 15 (
        .o (.un .not 3) 16 1 []<|
        .bb 16 (
         .o (.bin .geq 3 4 (I 1)) 17 1 []<|
         .bb 17 (
          .o (.bin .leq 3 4 (I 16)) 18 1 []<|
          .ret 18) (
          .ret (.bool false))) (
         .bb 1 (
          .o (.bin .geq 3 4 (I 1)) 17 1 []<|
          .bb 17 (
           .o (.bin .leq 3 4 (I 16)) 18 1 []<|
           .ret 18) (
           .ret (.bool false))) (
          .ret (.bool false)))) (
        .o (.un .not 2) 16 1 []<|
        .bb 16 (
         .o (.un .not 3) 17 1 []<|
         .bb 17 (
          .o (.bin .geq 3 4 (I 1)) 18 1 []<|
          .bb 18 (
           .o (.bin .leq 3 4 (I 16)) 19 1 []<|
           .ret 19) (
           .ret (.bool false))) (
          .bb 1 (
           .o (.bin .geq 3 4 (I 1)) 18 1 []<|
           .bb 18 (
            .o (.bin .leq 3 4 (I 16)) 19 1 []<|
            .ret 19) (
            .ret (.bool false))) (
           .ret (.bool false)))) (
         .ret (.bool false)))) (
       .ret (.bool false))))))))
theorem bB:cZ Tryz.prog 101 {NY:=[(0,4)]} [.agg ⟨[0,1,2,3,4,5,6,7]⟩] 8=some t:=dg az
theorem alx {W:ao} (s:eQ) (a b c d F bA e1 e2:Int) (a8:kT s↔d=1):hK bc 101 [M.val (s,decide (a=1),decide (b=1),decide (c=1),F,bA,e1,e2)] W (.bool (decide (fW (s,decide (a=1),decide (b=1),decide (c=1),F,bA,e1,e2)))):=by
 rw[decide_eq_decide.2 (als a8)];refine fV (ro:=[]) mixed bB [b1 s,.bool (decide (a=1)),.bool (decide (b=1)),.bool (decide (c=1)),I F,I bA,I e1,I e2] (.nil _) ?_;unfold t;refine aN ?_;refine bR rfl (λ_=> ?_) λ_=> ?_
 ·exact bx (eG aj)
 ·refine aN ?_
  refine bR rfl (λ_=> ?_) λ_=> ?_
  ·exact bx (eG aj)
  ·refine aN ?_
   refine bR rfl (λ_=> ?_) λ_=> ?_
   ·exact bx (eG aj)
   ·refine aN ?_
    refine bR rfl (λ_=> ?_) λ_=> ?_
    ·exact bx (eG aj)
    ·refine aN ?_
     refine bR rfl (λ_=> ?_) λ_=> ?_
     ·exact bx (eG aj)
     ·refine aN ?_
      refine bR rfl (λ_=> ?_) λ_=> ?_
      ·exact bx (eG aj)
      ·refine ew (v:= .bool (decide (d=1))) (λw _=>by rw[<-decide_eq_decide.2 a8];exact aav.any s) ?_
       refine bR rfl (λ_=> ?_) λ_=> ?_
       ·refine aN ?_
        refine i_ rfl (λ_=> ?_) λ_=> ?_
        ·refine aN ?_
         refine i_ rfl (λ_=> ?_) λ_=> ?_
         ·refine aN ?_
          refine bR rfl (λ_=> ?_) λ_=> ?_
          ·refine aN ?_
           exact bx (congrArg Value.bool (decide_eq_decide.2 aj))
          ·exact bx (eG aj)
         ·refine bR rfl (λ_=> ?_) λ_=> ?_
          ·refine aN ?_
           refine bR rfl (λ_=> ?_) λ_=> ?_
           ·refine aN ?_
            exact bx (congrArg Value.bool (decide_eq_decide.2 aj))
           ·exact bx (eG aj)
          ·exact bx (eG aj)
        ·refine aN ?_
         refine i_ rfl (λ_=> ?_) λ_=> ?_
         ·refine aN ?_
          refine i_ rfl (λ_=> ?_) λ_=> ?_
          ·refine aN ?_
           refine bR rfl (λ_=> ?_) λ_=> ?_
           ·refine aN ?_
            exact bx (congrArg Value.bool (decide_eq_decide.2 aj))
           ·exact bx (eG aj)
          ·refine bR rfl (λ_=> ?_) λ_=> ?_
           ·refine aN ?_
            refine bR rfl (λ_=> ?_) λ_=> ?_
            ·refine aN ?_
             exact bx (congrArg Value.bool (decide_eq_decide.2 aj))
            ·exact bx (eG aj)
           ·exact bx (eG aj)
         ·exact bx (eG aj)
       ·exact bx (eG aj)
theorem any {W:ao} (x:cc):hK bc 101 [M.val x] W (.bool (decide (fW x))):=by
 obtain⟨s,a,b,c,F,bA,e1,e2⟩:=x;have:=alx (W:=W) s (Gn a) (Gn b) (Gn c) (Gn (decide (kT s))) F bA e1 e2 (by
  rw[<-decide_eq_decide,Kd])
 rw[Kd,Kd,Kd] at this;exact this
end aaw
namespace aax
def t:a7:=
.loop [.bool false,I 0,I 0] 3<|
.o (.len #[29] 3 0) 5 1 [0,66]<|
.o (.bin .lss 3 4 5) 6 1 []<|
.bb 6 (
 .o (.cm 29 0 4) 7 1 [0,66,8]<|
 .o (.b7 66 7 0) 8 1 [0,9,1]<|
 .o (.bf 9 8) 9 1 [1]<|
 .o (.bin .eql 9 9 1) 10 1 []<|
 .bb 10 (
  .c4<|
  .ret (.tuple ⟨[4,.bool true]⟩)) (
  .o (.bin .add 3 4 (I 1)) 11 1 []<|
  .back [2,3,11])) (
 .c4<|
 .ret (.tuple ⟨[I 0,.bool false]⟩))
theorem bB:cZ Tryz.prog 102 {} [0,1] 2=some t:=dg az
theorem any {W:ao} {a:Option Addr} {n c:Nat} {table:List cc} (hl:bT (aE W) 8 gm (.slice a n c) table) (ak:n=table.length) (iW:table.length<=1000000) (s:eQ):hK bc 102 [.slice a n c,b1 s] W (.tuple ⟨[I ((Ba table s).1:Nat),.bool (Ba table s).2]⟩):=by
 subst ak;refine fV (ro:=[⟨gg,.slice a table.length c,table⟩]) mixed bB [.slice a table.length c,b1 s] (.cons hl (.nil _)) ?_;unfold t;refine k_ Nat (λi=>[.bool false,I 0,I (i:Nat)]) (λ_=>[]) (λi=>i<=table.length/\Ba table s=y5 table s (table.length-i)) (λi=>table.length-i) 0 U U ⟨Nat.zero_le _,rfl⟩ (λi af=> ?_);obtain⟨af,bg⟩:=af;refine aN ?_;refine bR rfl (λbt=> ?_) λbt=> ?_
 ·have bt:i<table.length:=by omega
  rw[alu bt] at bg;refine ie (K:=gg) (l:=table) (j:=i) U U ?_;refine Cu (K:=gg) (l:=table) (j:=i) rfl ?_;refine mM (K:=gg) (l:=table) (j:=i) (o:=0) (u:=b1 (table.getD i default).1) U U ?_;refine akC (s:=(table.getD i default).1) (m:=s) U U ?_;refine bR rfl (λh=> ?_) λh=> ?_
  ·refine hV (bx ?_)
   rw[bg,aI h];rfl
  ·refine aN ?_
   rw[aG h] at bg;exact h5 (i+1) U U ⟨bt,bg⟩ aj
 ·refine hV (bx ?_)
  rw[bg,show table.length-i=0 by omega];rfl
end aax
namespace aay
def t:a7:=
.o (.len #[29] 3 0) 1 1 [0,66]<|
.o (.bin .gtr 3 1 (I 256)) 2 1 []<|
.bb 2 (
 .ret (.tuple ⟨[I (-1),I 2]⟩)) (
 .o (.len #[29] 3 0) 3 1 [0,66]<|
 .o (.bin .eql 3 3 (I 0)) 4 1 []<|
 .bb 4 (
  .ret (.tuple ⟨[I (-1),I 1]⟩)) (
  .o (.cm 29 0 (I 0)) 5 1 [0,66,8]<|
  .o (.bf 66 5) (.agg ⟨fC 8 6⟩) 8 [8]<|
  .c 47 [] (.agg ⟨[14,15,16,17,18,19,20,21]⟩) 8<|
  .o (.bin .neq 66 (.agg ⟨[6,7,8,9,10,11,12,13]⟩) (.agg ⟨[14,15,16,17,18,19,20,21]⟩)) 22 1 []<|
  .bb 22 (
   .ret (.tuple ⟨[I 0,I 1]⟩)) (
   .loop [I 0,I 0,I 0] 3<|
   .o (.len #[29] 3 0) 26 1 [0,66]<|
   .o (.bin .lss 3 25 26) 27 1 []<|
   .bb 27 (
    .o (.cm 29 0 25) 28 1 [0,66,8]<|
    .o (.bf 66 28) (.agg ⟨fC 8 29⟩) 8 [8]<|
    .c 101 [.agg ⟨[29,30,31,32,33,34,35,36]⟩] 37 1<|
    .o (.un .not 37) 38 1 []<|
    .bb 38 (
     .c4<|
     .ret (.tuple ⟨[25,I 1]⟩)) (
     .o (.cm 29 0 25) 39 1 [0,66,8]<|
     .o (.b7 66 39 0) 40 1 [0,9,1]<|
     .o (.bf 9 40) 41 1 [1]<|
     .c 102 [0,41] (.tuple ⟨[42,43]⟩) 2<|
     .o (.bin .lss 3 42 25) 44 1 []<|
     .bb 44 (
      .c4<|
      .ret (.tuple ⟨[25,I 10]⟩)) (
      .o (.bin .add 3 25 (I 1)) 45 1 []<|
      .back [23,24,45]))) (
    .c4<|
    .ret (.tuple ⟨[I 0,I 0]⟩)))))
theorem bB:cZ Tryz.prog 61 {} [0] 1=some t:=dg az
theorem any {W:ao} {a:Option Addr} {n c:Nat} {table:List cc} (hl:bT (aE W) 8 gm (.slice a n c) table) (ak:n=table.length):hK bc 61 [.slice a n c] W (.tuple ⟨[I (kU table).1,I (kU table).2]⟩):=by
 subst ak;refine fV (ro:=[⟨gg,.slice a table.length c,table⟩]) mixed bB [.slice a table.length c] (.cons hl (.nil _)) ?_;unfold t;refine aN ?_;refine bR rfl (λh=>bx ?_) λaJ=> ?_
 ·rw[Xj aj];rfl
 refine aN ?_;refine bR rfl (λh=>bx ?_) λh1=> ?_
 ·rw[Xk aj aj];rfl
 have pI:0<table.length:=by omega
 refine ie (K:=gg) (l:=table) (j:=0) U U ?_;refine nt (K:=gg) (l:=table) (j:=0) (o:=0) (c:=gm (table.getD 0 default)) U U U fL ?_;refine jV (gm AZ) (λw _=>QY.any) rfl ?_;refine Cw (b:=decide (table.getD 0 default=AZ)) U U ((TP _ _).trans (by rw[TQ])) ?_;refine i_ rfl (λh=>bx ?_) λha=> ?_
 ·rw[Xl aj aj h];rfl
 refine k_ Nat (λi=>[I 0,I 0,I (i:Nat)]) (λ_=>[]) (λi=>i<=table.length/\∀j,j<i->¬vJ table j) (λi=>table.length-i) 0 U U ⟨Nat.zero_le _,λj hj=>absurd hj (Nat.not_lt_zero j)⟩ (λi af=> ?_);obtain⟨af,bg⟩:=af;refine aN ?_;refine bR rfl (λbt=> ?_) λbt=> ?_
 ·have bt:i<table.length:=by omega
  refine ie (K:=gg) (l:=table) (j:=i) U U ?_;refine nt (K:=gg) (l:=table) (j:=i) (o:=0) (c:=gm (table.getD i default)) U U U fL ?_;refine ew (v:= .bool (decide (fW (table.getD i default)))) (λw _=>aaw.any _) ?_;refine ox rfl ?_;refine i_ rfl (λh=> ?_) λax=> ?_
  ·refine hV (bx ?_)
   rw[Xn aj aj ha bt bg h];rfl
  ·refine ie (K:=gg) (l:=table) (j:=i) U U ?_
   refine Cu (K:=gg) (l:=table) (j:=i) rfl ?_;refine mM (K:=gg) (l:=table) (j:=i) (o:=0) (u:=b1 (table.getD i default).1) U U ?_;refine jV [I ((Ba table (table.getD i default).1).1:Nat),.bool (Ba table (table.getD i default).1).2] (λw hw=>aax.any (hw.ro 0 _ rfl) rfl (by show table.length<=_;omega) _) rfl ?_;have aO:=alv bt;refine aN ?_;refine bR rfl (λh=> ?_) λh=> ?_
   ·refine hV (bx ?_)
    rw[Xo aj aj ha bt bg ax (aO.1 aj)];rfl
   ·refine aN ?_
    refine h5 (u:=i) (i+1) U U ⟨bt,λj hj=> ?_⟩ (by show table.length-(i+1)<table.length-i;omega);rcases Nat.lt_succ_iff_lt_or_eq.1 hj with ar|ar
    ·exact bg j ar
    ·rw[ar];exact Xq ax λhm=>h (by have:=aO.2 hm;omega)
 ·refine hV (bx ?_)
  rw[Xp aj aj ha λj hj=>bg j aj];rfl
end aay
end AE
end
end
section
noncomputable section
namespace AE
def te (x:Int):Prop:= -1048575<=x/\x<=1048575
instance (x:Int):Decidable (te x):=by unfold te;infer_instance
def y6 (p:dc):Prop:=te p.1/\te p.2.1/\te p.2.2
instance (p:dc):Decidable (y6 p):=by unfold y6;infer_instance
theorem Ra {b:bw}:okB b↔y6 (b.1,b.2.1,b.2.2.1)/\y6 (b.2.2.2.1,b.2.2.2.2.1,b.2.2.2.2.2):=by
 unfold okB y6 te;dsimp only;omega
theorem aly {b:bw}:dv b=0->¬ig b:=λh aO=>by
 unfold dv at h;rw[vy aO] at h;unfold ig at aO;have h1:0<(b.2.2.2.1-b.1)*(b.2.2.2.2.1-b.2.1):=Int.mul_pos aj aj;have ae:=Int.mul_pos h1 (show 0<b.2.2.2.2.2-b.2.2.1 by omega);dsimp only at h;omega
theorem alz {b:bw} (h:¬dv b=0):ig b:=Classical.byContradiction λaO=>h (by
 unfold dv;rw[CA aO]
 rfl)
namespace Ke
def t:a7:=
.o (.bin .geq 3 0 (I (-1048575))) 1 1 []<|
.bb 1 (
 .o (.bin .leq 3 0 (I 1048575)) 2 1 []<|
 .ret 2) (
 .ret (.bool false))
theorem bB:cZ Tryz.prog 121 {} [0] 1=some t:=dg az
theorem any {W:ao} (x:Int):hK bc 121 [I x] W (.bool (decide (te x))):=by
 refine fV (ro:=[]) mixed bB [I x] (.nil _) ?_;unfold t;refine aN ?_;refine bR rfl (λ_=> ?_) λ_=> ?_
 ·refine aN ?_
  exact bx (congrArg Value.bool (decide_eq_decide.2 (by unfold te;omega)))
 ·exact bx (eG (by unfold te;omega))
end Ke
namespace Rb
def t:a7:=
.c 121 [0] 3 1<|
.bb 3 (
 .c 121 [1] 4 1<|
 .bb 4 (
  .c 121 [2] 5 1<|
  .ret 5) (
  .ret (.bool false))) (
 .ret (.bool false))
theorem bB:cZ Tryz.prog 99 {} [.agg ⟨[0,1,2]⟩] 3=some t:=dg az
theorem any {W:ao} (p:dc):hK bc 99 [P.val p] W (.bool (decide (y6 p))):=by
 refine fV (ro:=[]) mixed bB [I p.1,I p.2.1,I p.2.2] (.nil _) ?_;unfold t;refine ew (v:= .bool (decide (te p.1))) (λw _=>Ke.any _) ?_;refine bR rfl (λh1=> ?_) λh1=>bx (eG λh=>h1 h.1)
 refine ew (v:= .bool (decide (te p.2.1))) (λw _=>Ke.any _) ?_;refine bR rfl (λae=> ?_) λae=>bx (eG λh=>ae h.2.1)
 refine ew (v:= .bool (decide (te p.2.2))) (λw _=>Ke.any _) ?_;exact bx (congrArg Value.bool (decide_eq_decide.2 ⟨λh=>⟨h1,ae,h⟩,λh=>h.2.2⟩))
end Rb
namespace Rc
def t:a7:=
.o (.bin .geq 3 0 (I 0)) 1 1 []<|
.bb 1 (
 .o (.bin .lss 3 0 (I 256)) 2 1 []<|
 .ret 2) (
 .ret (.bool false))
theorem bB:cZ Tryz.prog 100 {} [0] 1=some t:=dg az
theorem any {W:ao} (x:Int):hK bc 100 [I x] W (.bool (decide (h6 x))):=by
 refine fV (ro:=[]) mixed bB [I x] (.nil _) ?_;unfold t;refine aN ?_;refine bR rfl (λ_=> ?_) λ_=> ?_
 ·refine aN ?_
  exact bx (congrArg Value.bool (decide_eq_decide.2 (by unfold h6;omega)))
 ·exact bx (eG (by unfold h6;omega))
end Rc
namespace aaz
def t:a7:=
.c 99 [.agg ⟨[0,1,2]⟩] 7 1<|
.c 99 [.agg ⟨[3,4,5]⟩] 8 1<|
.o (.un .not 7) 9 1 []<|
.bb 9 (
 .ret (.bool false)) (
 .o (.un .not 8) 10 1 []<|
 .bb 10 (
  .ret (.bool false)) (
  .c 76 [.agg ⟨[0,1,2,3,4,5]⟩] 11 1<|
  .o (.bin .eql 3 11 (I 0)) 12 1 []<|
  .bb 12 (
   .o (.bin .neq 25 (.agg ⟨[0,1,2,3,4,5]⟩) (.agg ⟨[I 0,I 0,I 0,I 0,I 0,I 0]⟩)) 13 1 []<|
   .bb 13 (
    .ret (.bool false)) (
    .o (.bin .gtr 3 11 (I 2097152)) 14 1 []<|
    .bb 14 (
     .ret (.bool false)) (
     .o (.len #[26] 3 6) 15 1 [0,3]<|
     .o (.bin .neq 3 15 11) 16 1 []<|
     .bb 16 (
      .ret (.bool false)) (
      .loop [.bool false,I 0] 2<|
      .o (.bin .lss 3 18 11) 19 1 []<|
      .bb 19 (
       .o (.cm 26 6 18) 20 1 [0,3,1]<|
       .o (.bf 3 20) 21 1 [1]<|
       .c 100 [21] 22 1<|
       .o (.un .not 22) 23 1 []<|
       .bb 23 (
        .c4<|
        .ret (.bool false)) (
        .o (.bin .add 3 18 (I 1)) 24 1 []<|
        .back [17,24])) (
       .c4<|
       .ret (.bool true)))))) (
   .o (.bin .gtr 3 11 (I 2097152)) 13 1 []<|
   .bb 13 (
    .ret (.bool false)) (
    .o (.len #[26] 3 6) 14 1 [0,3]<|
    .o (.bin .neq 3 14 11) 15 1 []<|
    .bb 15 (
     .ret (.bool false)) (
     .loop [.bool false,I 0] 2<|
     .o (.bin .lss 3 17 11) 18 1 []<|
     .bb 18 (
      .o (.cm 26 6 17) 19 1 [0,3,1]<|
      .o (.bf 3 19) 20 1 [1]<|
      .c 100 [20] 21 1<|
      .o (.un .not 21) 22 1 []<|
      .bb 22 (
       .c4<|
       .ret (.bool false)) (
       .o (.bin .add 3 17 (I 1)) 23 1 []<|
       .back [16,23])) (
      .c4<|
      .ret (.bool true)))))))
theorem bB:cZ Tryz.prog 60 {} [.agg ⟨[0,1,2,3,4,5,6]⟩] 7=some t:=dg az
theorem any {W:ao} {b:bw} {a:Option Addr} {n c:Nat} {cells:List Int} (hl:bT (aE W) 1 hv (.slice a n c) cells) (ak:n=cells.length) (iW:cells.length<=1000000):hK bc 60 [hN b (.slice a n c)] W (.bool (decide (uD b cells))):=by
 subst ak;refine fV (ro:=[⟨di,.slice a cells.length c,cells⟩]) mixed bB [I b.1,I b.2.1,I b.2.2.1,I b.2.2.2.1,I b.2.2.2.2.1,I b.2.2.2.2.2,.slice a cells.length c] (.cons hl (.nil _)) ?_;unfold t;refine ew (v:= .bool (decide (y6 (b.1,b.2.1,b.2.2.1)))) (λw _=>Rb.any (b.1,b.2.1,b.2.2.1)) ?_;refine ew (v:= .bool (decide (y6 (b.2.2.2.1,b.2.2.2.2.1,b.2.2.2.2.2)))) (λw _=>Rb.any (b.2.2.2.1,b.2.2.2.2.1,b.2.2.2.2.2)) ?_;refine ox rfl ?_;refine i_ rfl (λh=>bx (eG λax=>h (Ra.1 ax.1).1)) λh1=> ?_
 refine ox rfl ?_;refine i_ rfl (λh=>bx (eG λax=>h (Ra.1 ax.1).2)) λae=> ?_
 have ad:okB b:=Ra.2 ⟨h1,ae⟩;have PA:=(Q8 ad).2.2;have tail:∀j,j<cells.length->¬h6 (cells.getD j default)->¬uD b cells:=λj hj hm ax=>hm (Q1 ax.2.2.2.2 j hj)
 have last:(ig b\/b=xe)->dv b<=2097152->dv b=cells.length->(∀j,j<cells.length->h6 (cells.getD j default))->uD b cells:=λq1 aB b_ eB=>⟨ad,q1,aB,b_,by
  rw[JL λc ai=>by
   obtain⟨i,af,rfl⟩:=List.mem_iff_getElem.1 ai;have:=eB i af;rw[c_,fy af] at this
   exact this]
  decide⟩
 have step:∀i,(∀j,j<i->h6 (cells.getD j default))->h6 (cells.getD i default)->∀j,j<i+1->h6 (cells.getD j default):=λi bg hm j hj=>by
  rcases Nat.lt_succ_iff_lt_or_eq.1 hj with ar|ar
  ·exact bg j ar
  ·rw[ar];exact hm
 refine ew (v:=I (dv b)) (λw _=>Q9.any ad) ?_;refine aN ?_;refine bR rfl (λaJ=> ?_) λaJ=> ?_
 ·refine Cw (b:=decide (b=xe)) (xs:=lB b) (ys:=lB xe) U U ((Yf b xe).trans (by rw[Yg])) ?_
  refine i_ rfl (λh=>bx (eG λax=> ?_)) λbu=> ?_
  ·rcases ax.2.1 with q|q
   ·exact aly aJ q
   ·exact h q
  ·refine aN ?_
   refine bR rfl (λh=>bx (eG λax=>by have:=ax.2.2.1;omega)) λar=> ?_
   refine aN ?_;refine bR rfl (λh=>bx (eG λax=>h ax.2.2.2.1.symm)) λbm=> ?_
   have bm:((cells.length:Nat):Int)=dv b:=Decidable.not_not.1 bm;refine k_ Nat (λi=>[.bool false,I (i:Nat)]) (λ_=>[]) (λi=>i<=cells.length/\∀j,j<i->h6 (cells.getD j default)) (λi=>cells.length-i) 0 U U ⟨Nat.zero_le _,λj hj=>absurd hj (Nat.not_lt_zero j)⟩ (λi af=> ?_);obtain⟨af,bg⟩:=af;refine aN ?_;refine bR rfl (λbt=> ?_) λbt=> ?_
   ·have bt:i<cells.length:=by omega
    refine ie (K:=di) (l:=cells) (j:=i) U U ?_;refine mM (K:=di) (l:=cells) (j:=i) (o:=0) (u:=I (cells.getD i default)) U U ?_;refine ew (v:= .bool (decide (h6 (cells.getD i default)))) (λw _=>Rc.any _) ?_;refine ox rfl ?_;refine i_ rfl (λh=>hV (bx (eG (tail i bt h)))) λhm=> ?_
    refine aN ?_;exact h5 (i+1) U U ⟨bt,step i bg hm⟩ aj
   ·refine hV (bx ?_)
    rw[kF (last (.inr bu) aj aj λj hj=>bg j aj)];rfl
 ·refine aN ?_
  refine bR rfl (λh=>bx (eG λax=>by have:=ax.2.2.1;omega)) λar=> ?_
  refine aN ?_;refine bR rfl (λh=>bx (eG λax=>h ax.2.2.2.1.symm)) λbm=> ?_
  have bm:((cells.length:Nat):Int)=dv b:=Decidable.not_not.1 bm;refine k_ Nat (λi=>[.bool false,I (i:Nat)]) (λ_=>[]) (λi=>i<=cells.length/\∀j,j<i->h6 (cells.getD j default)) (λi=>cells.length-i) 0 U U ⟨Nat.zero_le _,λj hj=>absurd hj (Nat.not_lt_zero j)⟩ (λi af=> ?_);obtain⟨af,bg⟩:=af;refine aN ?_;refine bR rfl (λbt=> ?_) λbt=> ?_
  ·have bt:i<cells.length:=by omega
   refine ie (K:=di) (l:=cells) (j:=i) U U ?_;refine mM (K:=di) (l:=cells) (j:=i) (o:=0) (u:=I (cells.getD i default)) U U ?_;refine ew (v:= .bool (decide (h6 (cells.getD i default)))) (λw _=>Rc.any _) ?_;refine ox rfl ?_;refine i_ rfl (λh=>hV (bx (eG (tail i bt h)))) λhm=> ?_
   refine aN ?_;exact h5 (i+1) U U ⟨bt,step i bg hm⟩ aj
  ·refine hV (bx ?_)
   rw[kF (last (.inl (alz aJ)) aj aj λj hj=>bg j aj)];rfl
end aaz
namespace Kf
def t:a7:=
.c 60 [.agg ⟨[0,1,2,3,4,5,6]⟩] 9 1<|
.c 61 [7] (.tuple ⟨[10,11]⟩) 2<|
.o (.un .not 9) 12 1 []<|
.bb 12 (
 .ret (I 1)) (
 .o (.bin .neq 35 11 (I 0)) 13 1 []<|
 .bb 13 (
  .ret (I 1)) (
  .o (.len #[30] 3 8) 14 1 [0,4]<|
  .o (.bin .neq 3 14 (I 0)) 15 1 []<|
  .bb 15 (
   .o (.len #[30] 3 8) 16 1 [0,4]<|
   .o (.len #[26] 3 6) 17 1 [0,3]<|
   .o (.bin .neq 3 16 17) 18 1 []<|
   .bb 18 (
    .ret (I 1)) (
    .ret (I 0))) (
   .ret (I 0))))
theorem bB:cZ Tryz.prog 33 {} [.agg ⟨[0,1,2,3,4,5,6]⟩,7,8] 9=some t:=dg az
theorem any {W:ao} {b:bw} {a0 b2 cr:Option Addr} {cU bZ lj cp n2 c2:Nat} {cells:List Int} {table:List cc} {known:List Bool} (pI:bT (aE W) 1 hv (.slice a0 cU bZ) cells) (l_:bT (aE W) 8 gm (.slice b2 lj cp) table) (kP:bT (aE W) 1 hx (.slice cr n2 c2) known) (aJ:cU=cells.length) (h1:lj=table.length) (ae:n2=known.length) (iW:cells.length<=1000000):
  hK bc 33 [hN b (.slice a0 cU bZ),.slice b2 lj cp,.slice cr n2 c2] W (I (lD b cells table known)):=by
 subst aJ h1 ae;refine fV (ro:=[⟨di,.slice a0 cells.length bZ,cells⟩,⟨gg,.slice b2 table.length cp,table⟩,⟨c9,.slice cr known.length c2,known⟩]) mixed bB [I b.1,I b.2.1,I b.2.2.1,I b.2.2.2.1,I b.2.2.2.2.1,I b.2.2.2.2.2,.slice a0 cells.length bZ,.slice b2 table.length cp,.slice cr known.length c2] (.cons pI (.cons l_ (.cons kP (.nil _)))) ?_;unfold t;refine ew (v:= .bool (decide (uD b cells))) (λw hw=>aaz.any (hw.ro 0 _ rfl) rfl iW) ?_;refine jV [I (kU table).1,I (kU table).2] (λw hw=>aay.any (hw.ro 1 _ rfl) rfl) rfl ?_;refine ox rfl ?_;refine i_ rfl (λh=>bx ?_) λax=> ?_
 ·show I 1=_
  unfold lD;rw[aG λq=>h q.2.1]
 refine aN ?_;refine bR rfl (λh=>bx ?_) λai=> ?_
 ·show I 1=_
  unfold lD;rw[aG λq=>h q.1]
 have ai:(kU table).2=0:=Decidable.not_not.1 ai;refine aN ?_;refine bR rfl (λar=> ?_) λar=>bx ?_
 ·refine aN ?_
  refine bR rfl (λh=>bx ?_) λh=>bx ?_
  ·show I 1=_
   rw[ajr λ_ _ q=>by omega]
  ·show I 0=_
   rw[Yo ai ax (.inr aj)]
 ·show I 0=_
  rw[Yo ai ax (.inl aj)]
end Kf
end AE
end
end
section
noncomputable section
namespace AE
theorem aaA {L:List b4} {R:b4} (h:∀b,¬R.lT b) {b:Nat} (ad:gZ (L++[R]) b):gZ L b:=by
 obtain⟨i,S,af,aH⟩:=ad;rw[List.getElem?_append] at af;split at af
 ·exact⟨i,S,af,aH⟩
 ·rw[List.getElem?_singleton] at af
  split at af
  ·cases af;exact absurd aH (h b)
  ·cases af
theorem Rd (K:gE bc):∀b,¬(aw.arr K (.slice none 0 0) []).res.lT b:=λb ad=>by
 have:some b=ek (.slice none 0 0):=ad;cases this
theorem aaB {f:FuncId} {args:List J} {W:ao} {L:List (aw bc)} {Y:Type} {v:Y->J} {N:Y->List (aw bc)} (K:gE bc) (h:bY (aE W) (bD (L++[.arr K (.slice none 0 0) []]))->ey bc f args W (L++[.arr K (.slice none 0 0) []]) Y v N) (aH:bY (aE W) (bD L)):ey bc f args W L Y v N:=by
 have e:bD (L++[.arr K (.slice none 0 0) []])=bD L++[(aw.arr K (.slice none 0 0) []).res]:=by
  unfold bD;rw[List.map_append];rfl
 have h1:=(aH.own.new (JH (aE W) K.e K.k K.enc)).sp;refine(h (by rw[e];exact h1)).mono λx w' ah=> ?_
 obtain⟨⟨y,a_,t⟩,hl⟩:=ah;rw[e] at t;exact⟨⟨y,a_,t.sp,λi o af ak=>t.keeps i o af λq=>ak (aaA (Rd K) q),λb ad=>(t.fresh b ad).imp (aaA (Rd K)) id⟩,hl⟩
theorem dR.off {W:ao} {L:List (aw bc)} {ro:List (fk bc)} (h:dR ro (aE W)) (aO:∀b,¬gZ (bD L) b):∀M,kR (aE W) (bD L) M->dR ro M:=λ_ aV i r hr=>bT.mono (h i r hr) λi o af=>aV i o af (aO i)
theorem alA (K:gE bc):∀b,¬gZ (bD [aw.arr K (.slice none 0 0) []]) b:=λb ad=>Rd K b (lU.1 ad)
namespace aaC
def t:a7:=
.qX 26 (.slice none 0 0) 6<|
.ret (.agg ⟨[0,1,2,3,4,5,7]⟩)
theorem bB:cZ Tryz.prog 123 {} [.agg ⟨[0,1,2,3,4,5,6]⟩] 7=some t:=dg az
theorem any {W:ao} {b:bw} {v:J} {cells:List Int} (aH:bY (aE W) (bD ([]:List (aw bc)))) (hl:bT (aE W) 1 hv v cells) (ak:cells.length<=100000):
  ey bc 123 [hN b v] W [] cE (λy=>hN b (.slice y.1 cells.length y.2)) (λy=>[aw.arr di (.slice y.1 cells.length y.2) cells]):=by
 obtain⟨a,c,rfl⟩:=hl.slice;refine aaB di (λaH=> ?_) aH;refine g_ (ro:=[⟨di,.slice a cells.length c,cells⟩]) mixed bB [I b.1,I b.2.1,I b.2.2.1,I b.2.2.2.1,I b.2.2.2.2.1,I b.2.2.2.2.2,.slice a cells.length c] aH (dR.off (.cons hl (.nil _)) (alA di)) ?_;unfold t;refine Wb (K:=di) (d:=0) (l:=[]) (v:= .slice none 0 0) (vx:= .slice a cells.length c) (lx:=cells) U U (λa c=>fK) (.ro has) (λcr c2=> ?_) (vE (by show 0+cells.length<=_;omega)) (by show (0+cells.length)*8<=_;omega);exact bx ⟨(cr,c2),rfl,rfl⟩
end aaC
abbrev Kg:=dc×Int×Int
def Re (x:Kg):List J:=[I x.1.1,I x.1.2.1,I x.1.2.2,I x.2.1,I x.2.2]
theorem alB:sV bc 151 5 40=true:=az
abbrev xB:gE bc:=vt (α:=Kg) default 151 5 40 Re alB
def oF (b:bw) (p:dc) (c:Int) (cells:List Int):List Int:=if cX p b then cells.set (bV b p) c else cells
theorem aaD (b:bw) (p:dc) (c:Int) (cells:List Int):(oF b p c cells).length=cells.length:=by
 unfold oF;split
 ·exact List.length_set
 ·rfl
namespace aaE
def t:a7:=
.call 123 [.agg ⟨[0,1,2,3,4,5,6]⟩] (.agg ⟨[8,9,10,11,12,13,14]⟩) 7<|
.loop [I 0] 1<|
.o (.len #[152] 3 7) 16 1 [0,151]<|
.o (.bin .lss 3 15 16) 17 1 []<|
.bb 17 (
 .o (.cm 152 7 15) 18 1 [0,151,5]<|
 .o (.b7 151 18 0) 19 1 [0,23,3]<|
 .o (.bf 23 19) (.agg ⟨fC 3 20⟩) 3 [3]<|
 .c 64 [.agg ⟨[0,1,2,3,4,5]⟩,.agg ⟨[20,21,22]⟩] 23 1<|
 .o (.bin .geq 3 23 (I 0)) 24 1 []<|
 .bb 24 (
  .o (.cm 152 7 15) 25 1 [0,151,5]<|
  .o (.b7 151 25 2) 26 1 [4,3,1]<|
  .o (.bf 3 26) 27 1 [1]<|
  .o (.cm 26 14 23) 28 1 [0,3,1]<|
  .st 3 28 27<|
  .o (.bin .add 3 15 (I 1)) 29 1 []<|
  .back [29]) (
  .o (.bin .add 3 15 (I 1)) 25 1 []<|
  .back [25])) (
 .c4<|
 .ret (.agg ⟨[8,9,10,11,12,13,14]⟩))
theorem bB:cZ Tryz.prog 103 {iT:=[123]} [.agg ⟨[0,1,2,3,4,5,6]⟩,7] 8=some t:=dg az
theorem any {W:ao} {b:bw} {v v1:J} {cells:List Int} {p:dc} {o c:Int} (aH:bY (aE W) (bD ([]:List (aw bc)))) (hl:bT (aE W) 1 hv v cells) (l_:bT (aE W) 5 Re v1 [(p,o,c)]) (ad:okB b) (ax:cells.length=(dv b).toNat) (ak:cells.length<=100000):
  ey bc 103 [hN b v,v1] W [] cE (λy=>hN b (.slice y.1 cells.length y.2)) (λy=>[aw.arr di (.slice y.1 cells.length y.2) (oF b p c cells)]):=by
 obtain⟨a,lF,rfl⟩:=hl.slice;obtain⟨b2,cp,rfl⟩:=l_.slice;refine g_ (ro:=[⟨di,.slice a cells.length lF,cells⟩,⟨xB,.slice b2 1 cp,[(p,o,c)]⟩]) mixed bB [I b.1,I b.2.1,I b.2.2.1,I b.2.2.2.1,I b.2.2.2.2.1,I b.2.2.2.2.2,.slice a cells.length lF,.slice b2 1 cp] aH (dR.ext (.cons hl (.cons l_ (.nil _)))) ?_;unfold t;refine n7 (λy=>[I b.1,I b.2.1,I b.2.2.1,I b.2.2.2.1,I b.2.2.2.2.1,I b.2.2.2.2.2,.slice y.1 cells.length y.2]) (λw hw aH=>aaC.any aH (hw.ro 0 _ rfl) ak) λd=> ?_
 refine k_ Nat (λi=>[I (i:Nat)]) (λi=>[aw.arr di (.slice d.1 cells.length d.2) (if i=0 then cells else oF b p c cells)]) (λi=>i<=1) (λi=>1-i) 0 U U (by show 0<=1;omega) (λi af=> ?_);have h1:([(p,o,c)]:List Kg).length=1:=rfl;refine aN ?_;refine bR rfl (λbt=> ?_) λbt=> ?_
 ·obtain rfl:i=0:=by omega
  have Hm:0<([(p,o,c)]:List Kg).length:=by show 0<1;decide
  show X _ _ _ _ _ _ _ [aw.arr di (.slice d.1 cells.length d.2) cells] _ _;refine ie (K:=xB) (l:=[(p,o,c)]) (j:=0) U U ?_;refine Cu (K:=xB) (l:=[(p,o,c)]) (j:=0) rfl ?_;refine nt (K:=xB) (l:=[(p,o,c)]) (j:=0) (o:=0) (c:=vv p) U U U fL ?_;by_cases hp:cX p b
  ·have Fh:bV b p<cells.length:=by rw[ax];exact s9 hp
   refine ew (v:=I (bV b p:Nat)) (λw _=>by rw[<-w8 ad hp];exact y3.any w b p ad) ?_;refine aN ?_;refine bR rfl (λ_=> ?_) λh=>absurd (Int.natCast_nonneg _) h
   refine ie (K:=xB) (l:=[(p,o,c)]) (j:=0) U U ?_;refine Cu (K:=xB) (l:=[(p,o,c)]) (j:=0) rfl ?_;refine mM (K:=xB) (l:=[(p,o,c)]) (j:=0) (u:=I c) U U ?_;refine ie (K:=di) (v:= .slice d.1 cells.length d.2) (l:=cells) (j:=bV b p) U U ?_ (hs:= .arr has);refine uo (K:=di) (v:= .slice d.1 cells.length d.2) (l:=cells) (j:=bV b p) c U U fK rfl (λ_ _=>rfl) ?_;refine aN ?_;refine h5 (u:=0) 1 rfl ?_ (bL 1) ck;show _=[aw.arr di (.slice d.1 cells.length d.2) (oF b p c cells)];unfold oF;rw[aI hp]
  ·refine ew (v:=I (-1)) (λw _=>by rw[<-AK hp];exact y3.any w b p ad) ?_
   refine aN ?_;refine bR rfl (λh=>absurd h ck) λ_=> ?_
   refine aN ?_;refine h5 (u:=0) 1 rfl ?_ (bL 1) ck;show _=[aw.arr di (.slice d.1 cells.length d.2) (oF b p c cells)];unfold oF;rw[aG hp]
 ·obtain rfl:i=1:=by omega
  refine hV ?_;exact bx ⟨d,rfl,rfl⟩
end aaE
namespace aaF
def t:a7:=
.lt 152 (.agg ⟨[7,8,9,I 0,10]⟩)<|
.call 103 [.agg ⟨[0,1,2,3,4,5,6]⟩,11] (.agg ⟨[12,13,14,15,16,17,18]⟩) 7<|
.ret (.agg ⟨[12,13,14,15,16,17,18]⟩)
theorem bB:cZ Tryz.prog 63 {iT:=[103],marks:=[152]} [.agg ⟨[0,1,2,3,4,5,6]⟩,.agg ⟨[7,8,9]⟩,10] 11=some t:=dg az
theorem any {W:ao} {b:bw} {v:J} {cells:List Int} (p:dc) (c:Int) (aH:bY (aE W) (bD ([]:List (aw bc)))) (hl:bT (aE W) 1 hv v cells) (ad:okB b) (ax:cells.length=(dv b).toNat) (ak:cells.length<=100000):
  ey bc 63 [hN b v,P.val p,I c] W [] cE (λy=>hN b (.slice y.1 cells.length y.2)) (λy=>[aw.arr di (.slice y.1 cells.length y.2) (oF b p c cells)]):=by
 obtain⟨a,lF,rfl⟩:=hl.slice;refine g_ (ro:=[⟨di,.slice a cells.length lF,cells⟩]) mixed bB [I b.1,I b.2.1,I b.2.2.1,I b.2.2.2.1,I b.2.2.2.2.1,I b.2.2.2.2.2,.slice a cells.length lF,I p.1,I p.2.1,I p.2.2,I c] aH (dR.ext (.cons hl (.nil _))) ?_;unfold t;refine ahN (K:=xB) (p,0,c) U U (λa c=>iy) (λb2 cp=> ?_) ⟨.agg ⟨Re default⟩,az⟩;refine n7 (λy=>[I b.1,I b.2.1,I b.2.2.1,I b.2.2.2.1,I b.2.2.2.2.1,I b.2.2.2.2.2,.slice y.1 cells.length y.2]) (λw hw aH=>aaE.any aH (hw.ro 0 _ rfl) ((fU.arr (K:=xB) (v:= .slice b2 1 cp) (l:=[(p,0,c)]) has).at hw) ad ax ak) λd=> ?_
 exact la (L':=[aw.arr di (.slice d.1 cells.length d.2) (oF b p c cells)]) (λM aV=>by exact aV.pick [1] rfl) ⟨d,rfl,rfl⟩
end aaF
namespace aaG
def t:a7:=
.c 33 [.agg ⟨[0,1,2,3,4,5,6]⟩,7,8] 9 1<|
.o (.bin .neq 35 9 (I 0)) 10 1 []<|
.bb 10 (
 .ret (.tuple ⟨[.slice none 0 0,9]⟩)) (
 .o (.len #[26] 3 6) 11 1 [0,3]<|
 .mk 51 11<|
 .loop [I 0,12,.slice none 0 0] 3<|
 .call 18 [.agg ⟨[0,1,2,3,4,5,6]⟩,7,8,14] 16 1<|
 .c 16 [14,16] 17 1<|
 .bb 17 (
  .c4<|
  .ret (.tuple ⟨[14,I 0]⟩)) (
  .back [13,16,15]))
theorem bB:cZ Tryz.prog 65 {iT:=[18]} [.agg ⟨[0,1,2,3,4,5,6]⟩,7,8] 9=some t:=dg az
theorem any {W:ao} {b:bw} {a0:Option Addr} {cU bZ:Nat} {cells:List Int} {v1 e0:J} {table:List cc} {sh:List Bool} (F:List bq) (aH:bY (aE W) (bD ([]:List (aw bc)))) (pI:bT (aE W) 1 hv (.slice a0 cU bZ) cells) (l_:bT (aE W) 8 gm v1 table) (kP:bT (aE W) 1 hx e0 sh)
  (aJ:cU=cells.length) (aF:vC table) (ad:okB b) (ax:sh.length=(dv b).toNat) (ko:cells.length=sh.length) (ak:cells.length<=10000) (jd:lD b cells table sh=0) (cl:oU (er b) (gf table cells sh) (cw F)) (Rf:F.length=sh.length):
  ey bc 65 [hN b (.slice a0 cU bZ),v1,e0] W [] cE (λy=> .tuple ⟨[.slice y.1 F.length y.2,I 0]⟩) (λy=>[aw.arr ez (.slice y.1 F.length y.2) F]):=by
 subst aJ;obtain⟨b2,cp,rfl⟩:=l_.slice;obtain⟨cr,c2,rfl⟩:=kP.slice;refine g_ (ro:=[⟨di,.slice a0 cells.length bZ,cells⟩,⟨gg,.slice b2 table.length cp,table⟩,⟨c9,.slice cr sh.length c2,sh⟩]) mixed bB [I b.1,I b.2.1,I b.2.2.1,I b.2.2.2.1,I b.2.2.2.2.1,I b.2.2.2.2.2,.slice a0 cells.length bZ,.slice b2 table.length cp,.slice cr sh.length c2] aH (dR.ext (.cons pI (.cons l_ (.cons kP (.nil _))))) ?_;unfold t;refine ew (v:=I 0) (λw hw=>by
  have:=Kf.any (b:=b) (hw.ro 0 _ rfl) (hw.ro 1 _ rfl) (hw.ro 2 _ rfl) U U U (by show cells.length<=_;omega);rw[show lD b _ _ _=0 from jd] at this
  exact this) ?_
 refine wW U U ?_;refine q3 rfl ?_;refine aN ?_;refine ahM (K:=ez) z4 cells.length rfl (λa c=>iy) (λa c=> ?_) ⟨ER,_,NM,NN,NO,NP,rfl⟩ aj (by show cells.length*32<=_;omega) (by show cells.length*4<=_;omega);refine F6 (List bq×cE) (λu=>[I 0,.slice u.2.1 u.1.length u.2.2,.slice none 0 0]) (λu=>[aw.arr ez (.slice u.2.1 u.1.length u.2.2) u.1]) (λu=>ra table cells sh b u.1) (λu=>uK u.1) (List.replicate cells.length z4,a,c) rfl (h4.refl _) (by show ra table cells sh b (List.replicate cells.length z4);rw[ko];exact ra.zero aF) (λu hu=> ?_);obtain⟨l,a4,mx⟩:=u;have hu:ra table cells sh b l:=hu;dsimp only;obtain⟨m,hm⟩:∃m,m=lk table cells l sh b cells.length:=⟨_,rfl⟩;have CH:m=lk table cells l sh b sh.length:=by rw[hm,ko]
 have pP:m.length=cells.length:=by rw[hm];exact Gl _ _ _ _ _ _
 refine n7 (R:=λd:cE=>aw.arr ez (.slice d.1 m.length d.2) m) (v:=λd=> .slice d.1 m.length d.2) (λd=>[.slice d.1 m.length d.2]) (λw hw aH=>by
  have:=aap.any (b:=b) aH (hw.ro 0 _ rfl) (hw.ro 1 _ rfl) (hw.ro 2 _ rfl) ((fU.arr (K:=ez) (v:= .slice a4 l.length mx) (l:=l) has).at hw) U U U U ad ax ko hu.len ak (λk _=>⟨(aF _).1,(aF _).2.1⟩) hu.A9;rw[show lk _ _ l _ b _=m from hm.symm] at this
  exact this) λd=> ?_
 have iH:=hu.len;refine ew (v:= .bool (decide (l=m))) (λw hw=>QV.any w ((fU.arr (K:=ez) (v:= .slice a4 l.length mx) (l:=l) has).at hw) ((fU.arr (K:=ez) (v:= .slice d.1 m.length d.2) (l:=m) has).at hw) aj) ?_;refine bR rfl (λhe=> ?_) λhe=> ?_
 ·refine hV ?_
  have aaH:l=F:=alo ad ax (hu.full aF ad ax (by rw[<-CH];exact he)) cl hu.len Rf;refine la (L':=[aw.arr ez (.slice a4 l.length mx) l]) (λM aV=>by exact aV.pick [0] rfl) ⟨(a4,mx),?_,?_⟩
  ·rw[<-aaH];rfl
  ·rw[<-aaH]
 ·refine uE (u:=(l,a4,mx)) (m,d) rfl (λM aV=>aV.pick [1] rfl) (by show ra table cells sh b m;rw[CH];exact hu.next aF ad ax) (by show uK m<uK l;rw[CH];exact hu.less aF ad ax (by rw[<-CH];exact he))
end aaG
end AE
end
end
end Go.Proofs.YtepcfjbfkedlpaaGreatDoor
