/- RELIGHTUNDOES: the card. No condition beyond the row. -/
import Derived.Test.YtepcfjbfkedlpaaDoorUn5
import Derived.Test.YtepcfjbfkedlpaaDoorTie
import Derived.Test.YtepcfjbfkedlpaaDoorCards
set_option maxRecDepth 100000
set_option maxHeartbeats 4000000
noncomputable section
namespace Go.Proofs.YtepcfjbfkedlpaaDoor
open Go Go.Proofs Go.RowKit
namespace AE
namespace abw
noncomputable def body:Code:=(Tryd.f8.body).getD .skip
def N:Nat:=149
noncomputable abbrev bz:=fj Tryd.prog Tryd.f8
def aN:b6:={sl:=b1 [],ms:=[],A:=start}
abbrev gy:=at' 149 [] [] body aN
def dD:List bu:=[⟨.cells [I 0,I 0,I 0,I 1,I 1,I 4,.slice (some ⟨1,0,none⟩) 4 4],28,0⟩,⟨.cells [I 3,I 0,I 0,I 0],3,0⟩]
def hd0:aF:=b1 [(17,.agg ⟨[I 0,I 0,I 0,I 1,I 1,I 4,.slice (some ⟨1,0,none⟩) 4 4]⟩),(0,.bool false)]
def hp0:aF:=(bV.set 0 depth hd0 18).getD .nil
theorem e0:se gy 3 18=some ([cw [97,105,114],.bool false,.bool false,.bool false,I 1,I 0,I 0,I 0,cw [115,116,111,110,101],.bool true,.bool false,.bool false,I 16,I 0,I 0,I 0,cw [103,108,97,115,115],.bool true,.bool false,.bool false,I 1,I 0,I 0,I 0,cw [108,97,109,112],.bool true,.bool false,.bool false,I 16,I 15,I 14,I 10,cw [115,97,110,100],.bool true,.bool false,.bool true,I 16,I 0,I 0,I 0,cw [119,97,116,101,114],.bool false,.bool true,.bool false,I 3,I 0,I 0,I 0,cw [108,101,97,118,101,115],.bool true,.bool false,.bool false,I 2,I 0,I 0,I 0,cw [101,109,98,101,114],.bool true,.bool false,.bool false,I 16,I 9,I 3,I 0,cw [102,111,103],.bool false,.bool false,.bool false,I 2,I 0,I 0,I 0],9,9):=au
theorem e1:cp (b7 gy) hd0 dD=some []:=au
theorem e2:bV.set 0 depth hd0 18=some hp0:=au
abbrev jv:=(ld {sl:=hp0,ms:=[],A:=c6 dD} gy)
def hy:List bu:=[]
def hv:aF:=b1 [(18,0),(0,.bool false)]
def hp1:aF:=(bV.set (.agg ⟨[I 0,I 0,I 0,I 1,I 1,I 4,1]⟩) depth hv 17).getD .nil
theorem e3:Kt jv 1 17 6=some ([I 3,I 0,I 0,I 0],4,4,[I 0,I 0,I 0,I 1,I 1,I 4,.slice (some ⟨1,0,none⟩) 4 4]):=au
theorem hA:cp (b7 jv) hv hy=some [(0,0)]:=au
theorem kp:bV.set (.agg ⟨[I 0,I 0,I 0,I 1,I 1,I 4,.slice (some ⟨1,0,none⟩) 4 4].set 6 1⟩) depth hv 17=some hp1:=au
theorem h2:g_ ((ld (b3 hp1 hy) jv))=some (9,[.agg ⟨[I 0,I 0,I 0,I 1,I 1,I 4,1]⟩,0,.slice none 0 0,I 2]):=au
abbrev pg:=(ld {sl:=hp1,ms:=[],A:=c6 hy} jv)
def kf:List bu:=[]
def kS:aF:=b1 [(0,.bool false)]
def hp2:aF:=e6 149 kS 19 (.tuple ⟨[2,I 0]⟩)
theorem e9:cp (b7 pg) kS kf=some []:=au
def je:dU:=(body,[1,0],3)
abbrev yQ:=cI 149 [] [] je {sl:=hp2,ms:=[],A:=c6 kf}
def rD:List bu:=[⟨.cells [I 0,I 0,I 0,I 1,I 1,I 4,.slice (some ⟨1,0,none⟩) 4 4],28,0⟩,⟨.cells [I 3,I 0,I 0,I 0],3,0⟩]
def uT:aF:=b1 [(23,.agg ⟨[I 0,I 0,I 0,I 1,I 1,I 4,.slice (some ⟨1,0,none⟩) 4 4]⟩),(2,I 0),(1,2),(0,.bool false)]
def hp3:aF:=(bV.set 3 depth uT 24).getD .nil
theorem yR:se yQ 3 24=some ([cw [97,105,114],.bool false,.bool false,.bool false,I 1,I 0,I 0,I 0,cw [115,116,111,110,101],.bool true,.bool false,.bool false,I 16,I 0,I 0,I 0,cw [103,108,97,115,115],.bool true,.bool false,.bool false,I 1,I 0,I 0,I 0,cw [108,97,109,112],.bool true,.bool false,.bool false,I 16,I 15,I 14,I 10,cw [115,97,110,100],.bool true,.bool false,.bool true,I 16,I 0,I 0,I 0,cw [119,97,116,101,114],.bool false,.bool true,.bool false,I 3,I 0,I 0,I 0,cw [108,101,97,118,101,115],.bool true,.bool false,.bool false,I 2,I 0,I 0,I 0,cw [101,109,98,101,114],.bool true,.bool false,.bool false,I 16,I 9,I 3,I 0,cw [102,111,103],.bool false,.bool false,.bool false,I 2,I 0,I 0,I 0],9,9):=au
theorem tJ:cp (b7 yQ) uT rD=some [(2,2)]:=au
theorem yS:bV.set 3 depth uT 24=some hp3:=au
abbrev tE:=(ld {sl:=hp3,ms:=[],A:=c6 rD} yQ)
def tF:List bu:=[]
def tG:aF:=b1 [(24,3),(2,I 0),(1,2),(0,.bool false)]
def p9:aF:=(bV.set (.agg ⟨[I 0,I 0,I 0,I 1,I 1,I 4,4]⟩) depth tG 23).getD .nil
theorem Cd:Kt tE 1 23 6=some ([I 3,I 0,I 0,I 0],4,4,[I 0,I 0,I 0,I 1,I 1,I 4,.slice (some ⟨1,0,none⟩) 4 4]):=au
theorem tC:cp (b7 tE) tG tF=some [(2,2),(3,3)]:=au
theorem yW:bV.set (.agg ⟨[I 0,I 0,I 0,I 1,I 1,I 4,.slice (some ⟨1,0,none⟩) 4 4].set 6 4⟩) depth tG 23=some p9:=au
theorem tK:g_ ((ld (b3 p9 tF) tE))=some (9,[.agg ⟨[I 0,I 0,I 0,I 1,I 1,I 4,4]⟩,3,.slice none 0 0,I 0]):=au
abbrev RB:=(ld {sl:=p9,ms:=[],A:=c6 tF} tE)
def Ch:List bu:=[]
def HN:aF:=b1 [(2,I 0),(1,2),(0,.bool false)]
def Ci:aF:=e6 149 HN 25 (.tuple ⟨[.pointer none,I 1]⟩)
theorem HC:cp (b7 RB) HN Ch=some [(2,2)]:=au
def Cj:dU:=(body,[1,1,0],3)
def cb:bd:=[(.bin .eql 34 2 (.pointer none),.bool false)]
theorem Rp:g_ (cI 149 cb [] Cj (b3 Ci Ch))=some (12,[2]):=au
abbrev RD:=cI 149 cb [] Cj {sl:=Ci,ms:=[],A:=c6 Ch}
def Ck:List bu:=[]
def HO:aF:=b1 [(1,2),(0,.bool false)]
def Cl:aF:=e6 149 HO 39 5
theorem HI:cp (b7 RD) HO Ck=some [(2,2)]:=au
def Cm:dU:=(body,[1,1,1,1,0],2)
theorem RC:g_ (cI 149 [] [] Cm (b3 Cl Ck))=some (15,[2]):=au
abbrev RF:=cI 149 [] [] Cm {sl:=Cl,ms:=[],A:=c6 Ck}
def Cn:List bu:=[]
def HP:aF:=b1 [(1,2),(0,.bool false)]
def Co:aF:=e6 149 HP 41 6
theorem al3:cp (b7 RF) HP Cn=some [(2,2)]:=au
def Cp:dU:=(body,[1,1,1,1,1,0],2)
theorem al4:g_ (cI 149 [] [] Cp (b3 Co Cn))=some (11,[2]):=au
abbrev RH:=cI 149 [] [] Cp {sl:=Co,ms:=[],A:=c6 Cn}
def Eg:List bu:=[]
def HQ:aF:=b1 [(5,6),(1,2),(0,.bool false)]
def Eh:aF:=e6 149 HQ 43 (.bool true)
theorem RE:cp (b7 RH) HQ Eg=some [(2,2),(6,6)]:=au
def Ei:dU:=(body,[1,1,1,1,1,1,0],2)
theorem al5:g_ (cI 149 [] [] Ei (b3 Eh Eg))=some (29,[6,I 0]):=au
abbrev RL:=cI 149 [] [] Ei {sl:=Eh,ms:=[],A:=c6 Eg}
def HR:List bu:=[]
def HS:aF:=b1 [(44,.bool true),(5,6),(1,2),(0,.bool false)]
def Ef:aF:=e6 149 HS 46 7
theorem RG:cp (b7 RL) HS HR=some [(2,2),(6,6)]:=au
def HT:dU:=(body,[1,1,1,1,1,1,0],5)
abbrev Ej:=cI 149 [] [] HT {sl:=Ef,ms:=[],A:=c6 HR}
def Cq:List bu:=[]
def Ek:aF:=b1 [(46,7),(44,.bool true),(5,6),(1,2),(0,.bool false)]
def Cr:aF:=(bV.set 8 depth Ek 47).getD .nil
theorem al6:se Ej 0 47=some ([I 15,I 14,I 13,I 12],4,4):=au
theorem RI:cp (b7 Ej) Ek Cq=some [(2,2),(6,6),(7,7)]:=au
theorem RJ:bV.set 8 depth Ek 47=some Cr:=au
theorem RK:g_ ((ld (b3 Cr Cq) Ej))=some (28,[7,8]):=au
abbrev RP:=(ld {sl:=Cr,ms:=[],A:=c6 Cq} Ej)
def El:List bu:=[]
def HU:aF:=b1 [(44,.bool true),(5,6),(1,2),(0,.bool false)]
def Em:aF:=e6 149 HU 48 (.bool true)
theorem al7:cp (b7 RP) HU El=some [(2,2),(6,6)]:=au
def En:dU:=(body,[1,1,1,1,1,1,0],7)
theorem al8:g_ (cI 149 [] [] En (b3 Em El))=some (29,[6,I 2]):=au
abbrev RS:=cI 149 [] [] En {sl:=Em,ms:=[],A:=c6 El}
def HY:List bu:=[]
def AY:aF:=b1 [(50,.bool true),(5,6),(1,2),(0,.bool false)]
def HZ:aF:=e6 149 AY 52 9
theorem RM:cp (b7 RS) AY HY=some [(2,2),(6,6)]:=au
def H0:dU:=(body,[1,1,1,1,1,1,0],11)
abbrev LB:=cI 149 [] [] H0 {sl:=HZ,ms:=[],A:=c6 HY}
def Sw:List bu:=[]
def Sx:aF:=b1 [(52,9),(50,.bool true),(5,6),(1,2),(0,.bool false)]
def Sy:aF:=(bV.set 10 depth Sx 53).getD .nil
theorem al9:se LB 0 53=some ([I 10,I 9,I 8,I 7],4,4):=au
theorem al':cp (b7 LB) Sx Sw=some [(2,2),(6,6),(9,9)]:=au
theorem al_:bV.set 10 depth Sx 53=some Sy:=au
theorem RO:g_ ((ld (b3 Sy Sw) LB))=some (28,[9,10]):=au
abbrev ama:=(ld {sl:=Sy,ms:=[],A:=c6 Sw} LB)
def Sz:List bu:=[]
def abx:aF:=b1 [(50,.bool true),(5,6),(1,2),(0,.bool false)]
def SA:aF:=e6 149 abx 54 (.bool true)
theorem amb:cp (b7 ama) abx Sz=some [(2,2),(6,6)]:=au
def SB:dU:=(body,[1,1,1,1,1,1,0],13)
theorem RR:g_ (cI 149 [] [] SB (b3 SA Sz))=some (29,[6,I 3]):=au
abbrev amc:=cI 149 [] [] SB {sl:=SA,ms:=[],A:=c6 Sz}
def aby:List bu:=[]
def abz:aF:=b1 [(56,.bool true),(1,2),(0,.bool false)]
def abA:aF:=e6 149 abz 58 11
theorem amd:cp (b7 amc) abz aby=some [(2,2)]:=au
def abB:dU:=(body,[1,1,1,1,1,1,0],17)
abbrev LC:=cI 149 [] [] abB {sl:=abA,ms:=[],A:=c6 aby}
def SC:List bu:=[]
def SD:aF:=b1 [(58,11),(56,.bool true),(1,2),(0,.bool false)]
def SE:aF:=(bV.set 12 depth SD 59).getD .nil
theorem ame:se LC 0 59=some ([I 0,I 15,I 15,I 15],4,4):=au
theorem RT:cp (b7 LC) SD SC=some [(2,2),(11,11)]:=au
theorem RU:bV.set 12 depth SD 59=some SE:=au
theorem RV:g_ ((ld (b3 SE SC) LC))=some (28,[11,12]):=au
abbrev amf:=(ld {sl:=SE,ms:=[],A:=c6 SC} LC)
def SF:List bu:=[]
def abC:aF:=b1 [(56,.bool true),(1,2),(0,.bool false)]
def SG:aF:=e6 149 abC 60 (.bool true)
theorem amg:cp (b7 amf) abC SF=some [(2,2)]:=au
def SH:dU:=(body,[1,1,1,1,1,1,0],19)
theorem amh:g_ (cI 149 [] [] SH (b3 SG SF))=some (18,[2,.agg ⟨[I 0,I 0,I 0]⟩,I 0]):=au
abbrev ami:=cI 149 [] [] SH {sl:=SG,ms:=[],A:=c6 SF}
def SI:List bu:=[]
def abD:aF:=b1 [(6,.bool true),(1,2),(0,.bool false)]
def SJ:aF:=e6 149 abD 64 (I 0)
theorem amj:cp (b7 ami) abD SI=some [(2,2)]:=au
def SK:dU:=(body,[1,1,1,1,1,1,1,0],3)
theorem amk:g_ (cI 149 [] [] SK (b3 SJ SI))=some (12,[2]):=au
abbrev aml:=cI 149 [] [] SK {sl:=SJ,ms:=[],A:=c6 SI}
def SL:List bu:=[]
def abE:aF:=b1 [(7,I 0),(6,.bool true),(1,2),(0,.bool false)]
def SM:aF:=e6 149 abE 66 13
theorem amm:cp (b7 aml) abE SL=some [(2,2)]:=au
def SN:dU:=(body,[1,1,1,1,1,1,1,1,0],2)
theorem amn:g_ (cI 149 [] [] SN (b3 SM SL))=some (15,[2]):=au
abbrev amo:=cI 149 [] [] SN {sl:=SM,ms:=[],A:=c6 SL}
def LD:List bu:=[]
def abF:aF:=b1 [(8,13),(7,I 0),(6,.bool true),(1,2),(0,.bool false)]
def LF:aF:=e6 149 abF 68 14
theorem amp:cp (b7 amo) abF LD=some [(2,2),(13,13)]:=au
def H9:dU:=(body,[1,1,1,1,1,1,1,1,1,0],2)
def dk:bd:=[(.bin .gtr 3 13 (I 0),.bool true)]
theorem amq:g_ (cI 149 dk [] H9 (b3 LF LD))=some (29,[14,I 0]):=au
abbrev amr:=cI 149 dk [] H9 {sl:=LF,ms:=[],A:=c6 LD}
def abG:List bu:=[]
def abH:aF:=b1 [(75,.bool true),(9,14),(6,.bool true),(1,2),(0,.bool false)]
def abI:aF:=e6 149 abH 77 15
theorem ams:cp (b7 amr) abH abG=some [(2,2),(14,14)]:=au
def abJ:dU:=(body,[1,1,1,1,1,1,1,1,1,1,0],9)
abbrev LG:=cI 149 [] [] abJ {sl:=abI,ms:=[],A:=c6 abG}
def SO:List bu:=[]
def SP:aF:=b1 [(77,15),(75,.bool true),(9,14),(6,.bool true),(1,2),(0,.bool false)]
def SQ:aF:=(bV.set 16 depth SP 78).getD .nil
theorem amt:se LG 0 78=some ([I 0,I 0,I 0,I 0],4,4):=au
theorem amu:cp (b7 LG) SP SO=some [(2,2),(14,14),(15,15)]:=au
theorem amv:bV.set 16 depth SP 78=some SQ:=au
theorem amw:g_ ((ld (b3 SQ SO) LG))=some (28,[15,16]):=au
abbrev amx:=(ld {sl:=SQ,ms:=[],A:=c6 SO} LG)
def SR:List bu:=[]
def abK:aF:=b1 [(75,.bool true),(9,14),(6,.bool true),(1,2),(0,.bool false)]
def SS:aF:=e6 149 abK 79 (.bool true)
theorem amy:cp (b7 amx) abK SR=some [(2,2),(14,14)]:=au
def SU:dU:=(body,[1,1,1,1,1,1,1,1,1,1,0],11)
theorem amz:g_ (cI 149 [] [] SU (b3 SS SR))=some (29,[14,I 3]):=au
abbrev amA:=cI 149 [] [] SU {sl:=SS,ms:=[],A:=c6 SR}
def abL:List bu:=[]
def abM:aF:=b1 [(81,.bool true),(6,.bool true),(1,2),(0,.bool false)]
def abN:aF:=e6 149 abM 83 17
theorem amB:cp (b7 amA) abM abL=some [(2,2)]:=au
def abO:dU:=(body,[1,1,1,1,1,1,1,1,1,1,0],15)
abbrev LH:=cI 149 [] [] abO {sl:=abN,ms:=[],A:=c6 abL}
def SV:List bu:=[]
def SW:aF:=b1 [(83,17),(81,.bool true),(6,.bool true),(1,2),(0,.bool false)]
def SX:aF:=(bV.set 18 depth SW 84).getD .nil
theorem amC:se LH 0 84=some ([I 15,I 15,I 15,I 15],4,4):=au
theorem amD:cp (b7 LH) SW SV=some [(2,2),(17,17)]:=au
theorem amE:bV.set 18 depth SW 84=some SX:=au
theorem amF:g_ ((ld (b3 SX SV) LH))=some (28,[17,18]):=au
abbrev amG:=(ld {sl:=SX,ms:=[],A:=c6 SV} LH)
def abP:List bu:=[]
def abQ:aF:=b1 [(81,.bool true),(6,.bool true),(1,2),(0,.bool false)]
def abR:aF:=e6 149 abQ 85 (.bool true)
theorem amH:cp (b7 amG) abQ abP=some [(2,2)]:=au
def abS:dU:=(body,[1,1,1,1,1,1,1,1,1,1,0],17)
abbrev iF:=cI 149 [] [] abS {sl:=abR,ms:=[],A:=c6 abP}
def SY:List bu:=[]
def SZ:aF:=b1 [(95,.agg ⟨[I 0,I 0,I 1]⟩),(94,2),(93,I 0),(90,I 0),(10,.bool true),(6,.bool true),(1,2),(0,.bool false)]
theorem amI:(Bz Tryd.prog 149 8 [2,5] [(2,I 0),(5,I 0)] [] iF).isSome=true:=au
theorem amJ:cp (BA Tryd.prog 149 8 [2,5] [(2,I 0),(5,I 0)] [] iF) SZ SY=some [(2,2),(2,2)]:=au
def S0:aF:=match uE 149 (gP iF) [(2,I 0),(5,I 0)] SZ with|some s=>s|none=> .nil
theorem amK:uE 149 (gP iF) [(2,I 0),(5,I 0)] SZ=some S0:=au
theorem amL:DR Tryd.prog 149 8 [2,5] [(2,I 0),(5,I 0)] [] iF 0 2=some (18,[.inl 2,.inl (.agg ⟨[I 0,I 0,I 1]⟩),.inl (I 3)]):=au
theorem amM:DR Tryd.prog 149 8 [2,5] [(2,I 0),(5,I 0)] [] iF 1 5=some (19,[.inl 2,.inl (.agg ⟨[I 0,I 0,I 1]⟩),.inl (.bool true)]):=au
theorem amN:g_ (D8 149 [] [] (yr 8 iF) (gP iF) (gA iF) (b3 S0 SY))=some (18,[2,.agg ⟨[I 0,I 0,I 1]⟩,I 3]):=au
abbrev amO:=D8 149 [] [] (yr 8 iF) (gP iF) (gA iF) {sl:=S0,ms:=[],A:=c6 SY}
def S1:List bu:=[]
def abT:aF:=b1 [(93,I 0),(90,I 0),(10,.bool true),(6,.bool true),(1,2),(0,.bool false)]
def S2:aF:=e6 149 abT 96 (I 16)
theorem amP:cp (b7 amO) abT S1=some [(2,2)]:=au
def S3:dU:=(body,[1,1,1,1,1,1,1,1,1,1,1,1,0],9)
theorem amQ:g_ (cI 149 [] [] S3 (b3 S2 S1))=some (18,[2,.agg ⟨[I 0,I 0,I 4]⟩,I 0]):=au
abbrev amR:=cI 149 [] [] S3 {sl:=S2,ms:=[],A:=c6 S1}
def S4:List bu:=[]
def abU:aF:=b1 [(14,I 16),(13,I 0),(12,I 0),(10,.bool true),(6,.bool true),(1,2),(0,.bool false)]
def S5:aF:=e6 149 abU 99 (I 1)
theorem amS:cp (b7 amR) abU S4=some [(2,2)]:=au
def S6:dU:=(body,[1,1,1,1,1,1,1,1,1,1,1,1,1,0],3)
theorem amT:g_ (cI 149 [] [] S6 (b3 S5 S4))=some (11,[2]):=au
abbrev amU:=cI 149 [] [] S6 {sl:=S5,ms:=[],A:=c6 S4}
def S7:List bu:=[]
def abV:aF:=b1 [(120,.bool true),(1,2),(0,.bool false)]
def S8:aF:=e6 149 abV 122 (.bool false)
theorem amV:cp (b7 amU) abV S7=some [(2,2)]:=au
def S9:dU:=(body,[1,1,1,1,1,1,1,1,1,1,1,1,1,1,0],23)
theorem amW:g_ (cI 149 [] [] S9 (b3 S8 S7))=some (10,[2,I 1]):=au
abbrev amX:=cI 149 [] [] S9 {sl:=S8,ms:=[],A:=c6 S7}
def S':List bu:=[]
def abW:aF:=b1 [(130,.bool true),(1,2),(0,.bool false)]
def S_:aF:=e6 149 abW 132 (I 1)
theorem amY:cp (b7 amX) abW S'=some [(2,2)]:=au
def Ta:dU:=(body,[1,1,1,1,1,1,1,1,1,1,1,1,1,1,0],33)
theorem amZ:g_ (cI 149 [] [] Ta (b3 S_ S'))=some (17,[2]):=au
abbrev am0:=cI 149 [] [] Ta {sl:=S_,ms:=[],A:=c6 S'}
def LI:List bu:=[]
def abX:aF:=b1 [(135,.bool true),(1,2),(0,.bool false)]
def LJ:aF:=e6 149 abX 137 19
theorem am1:cp (b7 am0) abX LI=some [(2,2)]:=au
def H':dU:=(body,[1,1,1,1,1,1,1,1,1,1,1,1,1,1,0],38)
def eg:bd:=[(.len #[30] 3 19,20),
 (.bin .eql 3 20 (I 4),.bool true)]
theorem am2:g_ (cI 149 eg [] H' (b3 LJ LI))=some (22,[2]):=au
abbrev am3:=cI 149 eg [] H' {sl:=LJ,ms:=[],A:=c6 LI}
def Tb:List bu:=[]
def abY:aF:=b1 [(141,.bool true),(0,.bool false)]
def Tc:aF:=e6 149 abY 143 (.agg ⟨[22,23,24,25,26,27,21]⟩)
theorem am4:cp (b7 am3) abY Tb=some []:=au
def LK:dU:=(body,[1,1,1,1,1,1,1,1,1,1,1,1,1,1,0],44)
def fI:bd:=[(.dG 26 21 (I 1),28),
 (.bA 3 28,29),
 (.bin .eql 3 29 (I 3),.bool true)]
theorem am5:bz (cI 149 fI [] LK (b3 Tc Tb))=some (.bool true):=au
def hG:bd:=[(.dG 26 21 (I 1),28),
 (.bA 3 28,29),
 (.bin .eql 3 29 (I 3),.bool false)]
theorem am6:bz (cI 149 hG [] LK (b3 Tc Tb))=some (.bool false):=au
def ll:bd:=[(.len #[30] 3 19,20),
 (.bin .eql 3 20 (I 4),.bool false)]
theorem am7:bz (cI 149 ll [] H' (b3 LJ LI))=some (.bool false):=au
def mM:bd:=[(.bin .gtr 3 13 (I 0),.bool false)]
abbrev u1:=cI 149 mM [] H9 {sl:=LF,ms:=[],A:=c6 LD}
def Td:List bu:=[]
def Te:aF:=b1 [(95,.agg ⟨[I 0,I 0,I 1]⟩),(94,2),(93,I 0),(90,I 0),(10,.bool false),(6,.bool true),(1,2),(0,.bool false)]
theorem am8:(Bz Tryd.prog 149 8 [2,5] [(2,I 0),(5,I 0)] [] u1).isSome=true:=au
theorem am9:cp (BA Tryd.prog 149 8 [2,5] [(2,I 0),(5,I 0)] [] u1) Te Td=some [(2,2),(2,2)]:=au
def Tf:aF:=match uE 149 (gP u1) [(2,I 0),(5,I 0)] Te with|some s=>s|none=> .nil
theorem am':uE 149 (gP u1) [(2,I 0),(5,I 0)] Te=some Tf:=au
theorem am_:DR Tryd.prog 149 8 [2,5] [(2,I 0),(5,I 0)] [] u1 0 2=some (18,[.inl 2,.inl (.agg ⟨[I 0,I 0,I 1]⟩),.inl (I 3)]):=au
theorem ana:DR Tryd.prog 149 8 [2,5] [(2,I 0),(5,I 0)] [] u1 1 5=some (19,[.inl 2,.inl (.agg ⟨[I 0,I 0,I 1]⟩),.inl (.bool true)]):=au
theorem anb:g_ (D8 149 [] [] (yr 8 u1) (gP u1) (gA u1) (b3 Tf Td))=some (18,[2,.agg ⟨[I 0,I 0,I 1]⟩,I 3]):=au
abbrev anc:=D8 149 [] [] (yr 8 u1) (gP u1) (gA u1) {sl:=Tf,ms:=[],A:=c6 Td}
def Tg:List bu:=[]
def abZ:aF:=b1 [(93,I 0),(90,I 0),(10,.bool false),(6,.bool true),(1,2),(0,.bool false)]
def Th:aF:=e6 149 abZ 96 (I 16)
theorem ane:cp (b7 anc) abZ Tg=some [(2,2)]:=au
def Ti:dU:=(body,[1,1,1,1,1,1,1,1,1,1,1,1,0],9)
theorem anf:g_ (cI 149 [] [] Ti (b3 Th Tg))=some (18,[2,.agg ⟨[I 0,I 0,I 4]⟩,I 0]):=au
abbrev ang:=cI 149 [] [] Ti {sl:=Th,ms:=[],A:=c6 Tg}
def ab0:List bu:=[]
def ab1:aF:=b1 [(14,I 16),(13,I 0),(12,I 0),(10,.bool false),(6,.bool true),(1,2),(0,.bool false)]
def ab2:aF:=e6 149 ab1 99 (I 1)
theorem anh:cp (b7 ang) ab1 ab0=some [(2,2)]:=au
def ab3:dU:=(body,[1,1,1,1,1,1,1,1,1,1,1,1,1,0],3)
theorem ani:bz (cI 149 [] [] ab3 (b3 ab2 ab0))=some (.bool false):=au
@[reducible] noncomputable def bB (eF:Nat:=0) (g1:Nat:=0) (ez:Nat:=0) (g3:Nat:=0) (g4:Nat:=0) (iP:ch:=none) (iQ:Nat:=0) (j8:ch:=none) (j9:Nat:=0) (lp:Nat:=0) (l6:ch:=none) (l7:Nat:=0) (mu:Nat:=0) (nx:ch:=none) (ny:Nat:=0) (nS:Nat:=0) (pM:ch:=none) (pN:Nat:=0) (sH:ch:=none) (sI:Nat:=0) (tO:Nat:=0) (wy:ch:=none) (wz:Nat:=0) (xB:Nat:=0) (Tj:ch:=none) (Tk:Nat:=0) (Tl:ch:=none) (Tm:Nat:=0):List J:=[.slice (some ⟨eF,0,none⟩) 9 9,.slice (some ⟨g1,0,none⟩) 4 4,df ez 0,.slice (some ⟨g3,0,none⟩) 9 9,.slice (some ⟨g4,0,none⟩) 4 4,I (((wq CN):Nat):Int),br iP sG.u.aE iQ,.slice j8 [15,14,13,12].length j9,.slice (some ⟨lp,0,none⟩) 4 4,.slice l6 [10,9,8,7].length l7,.slice (some ⟨mu,0,none⟩) 4 4,.slice nx [0,15,15,15].length ny,.slice (some ⟨nS,0,none⟩) 4 4,I (((wq Ev):Nat):Int),br pM nR.u.aE pN,.slice sH [0,0,0,0].length sI,.slice (some ⟨tO,0,none⟩) 4 4,.slice wy [15,15,15,15].length wz,.slice (some ⟨xB,0,none⟩) 4 4,br Tj qY.known Tk,I ((qY.known.length:Nat):Int),br Tl qY.cells Tm,I wu.1,I wu.2.1,I wu.2.2.1,I wu.2.2.2.1,I wu.2.2.2.2.1,I wu.2.2.2.2.2,hb (br Tl qY.cells Tm) (1*1),I (qY.cells.getD (1) default)]
theorem any (W:ax) (cv:mF (aG W)):Calls Tryd.prog 8 #[] W λe w'=>e= .returned (.bool true)/\cg W.heap.size W w':=by
 refine @YO (aW (aG W) bB) _ _ _ _ body aN N [] (NZ W _) Tryd.func8 (λa ah=> ?_) au au au au;letI:=b4 ah;have aI:=bI.o1 W;refine bx [] [] aO aP ?_ ah;refine uD (enc:=jB) (xs:=[(([97,105,114]:fF),false,false,false,1,0,0,0),(([115,116,111,110,101]:fF),true,false,false,16,0,0,0),(([103,108,97,115,115]:fF),true,false,false,1,0,0,0),(([108,97,109,112]:fF),true,false,false,16,15,14,10),(([115,97,110,100]:fF),true,false,true,16,0,0,0),(([119,97,116,101,114]:fF),false,true,false,3,0,0,0),(([108,101,97,118,101,115]:fF),true,false,false,2,0,0,0),(([101,109,98,101,114]:fF),true,false,false,16,9,3,0),(([102,111,103]:fF),false,false,false,2,0,0,0)]) (q:=0) (bj:=λfJ=>(bB fJ)) e0 JM rfl cB cB U U (gG rfl) e1 (λ_ _=>zC) e2 (λ_=>rfl) ?_;intro jY eF Tn ao9 anj ju e_;have dr:=aI.new (sf Tn anj ju e_);letI:=b4 ah;refine Xu (enc:=gf) (xs:=[3,0,0,0]) (q:=1) (lX:=6) (bj:=λfJ=>(bB eF fJ)) e3 kk rfl cB cB U U (gG rfl) hA (λ_ _=>fq) kp (λ_=>rfl) ?_;intro nf g1 qw q' Ce mq h5;have gq:=dr.new (sf qw Ce mq h5);letI:=b4 ah;refine hF (Y:=Nat×dQ) (bj:=λaV=>(bB eF g1 (aV.1))) gq [1,0] (λaV=>[_,_]) (λaV=>[di (aV.1) (aV.2) CN]) h2 e9 (ep hp2 (.tuple ⟨[2,I 0]⟩)) (fA:=λw hw cT aw=>abu aw (cells:=[3,0,0,0]) (b:=wu) (table:=H4) (known:=[]) (aw.red 0 rfl) (aw.red 1 rfl) (cF.nil _ _) (cv.mono λi o h=>hw i o (gq.ext i o h)) cB rfl cB cB abl) (rest:= ?_);intro ng ⟨ez,ao'⟩ ic dz w ah;replace ic:=ic.vZ;letI:=b4 ah;refine dO (dP je) [] [] aO aP ?_ ah;refine uD (enc:=jB) (xs:=[(([97,105,114]:fF),false,false,false,1,0,0,0),(([115,116,111,110,101]:fF),true,false,false,16,0,0,0),(([103,108,97,115,115]:fF),true,false,false,1,0,0,0),(([108,97,109,112]:fF),true,false,false,16,15,14,10),(([115,97,110,100]:fF),true,false,true,16,0,0,0),(([119,97,116,101,114]:fF),false,true,false,3,0,0,0),(([108,101,97,118,101,115]:fF),true,false,false,2,0,0,0),(([101,109,98,101,114]:fF),true,false,false,16,9,3,0),(([102,111,103]:fF),false,false,false,2,0,0,0)]) (q:=3) (bj:=λfJ=>(bB eF g1 ez fJ)) yR JM rfl cB cB U U (gG rfl) tJ (λ_ _=>fq) yS (λ_=>rfl) ?_;intro Q9 g3 ank ao_ anl RZ Q4;have oL:=ic.new (sf ank anl RZ Q4);letI:=b4 ah;refine Xu (enc:=gf) (xs:=[3,0,0,0]) (q:=4) (lX:=6) (bj:=λfJ=>(bB eF g1 ez g3 fJ)) Cd kk rfl cB cB U U (gG rfl) tC (λ_ _=>fq) yW (λ_=>rfl) ?_;intro Lc g4 R0 alc R1 B' R2;have ph:=oL.new (sf R0 R1 B' R2);letI:=b4 ah;refine hF (Y:=Unit) (bj:=λaV=>(bB eF g1 ez g3 g4)) ph [4,3] (λ_=>[_,_]) (λ_=>[]) tK HC (ep Ci (.tuple ⟨[.pointer none,I 1]⟩)) (fA:=λw hw cT aw=>abv aw (cells:=[3,0,0,0]) (b:=wu) (table:=H4) (known:=[]) (aw.red 0 rfl) (aw.red 1 rfl) (cF.nil _ _) (cv.mono λi o h=>hw i o (ph.ext i o h)) cB rfl cB cB alN) (rest:= ?_);intro R4 _ u0 dz w ah;replace u0:=u0.BV;letI:=b4 ah;refine dO (dP Cj) cb [] (ae (aT.Xz rfl au rfl) aO) aP ?_ ah;refine hF (Y:=dQ) (bj:=λaV=>(bB eF g1 ez g3 g4)) u0 [2] (λaV=>[di ez (aV) sG]) (λ_=>[]) Rp HI (ep Cl 5) (fA:=λw hw cT aw=>H7 aw Sn U U) (rest:= ?_);intro R5 apa tM dz w ah;replace tM:=tM.BV;letI:=b4 ah;refine dO (dP Cm) [] [] aO aP ?_ ah;refine hF (Y:=eD) (bj:=λaV=>(bB eF g1 ez g3 g4 aV.1 aV.2)) tM [2] (λaV=>[_]) (λaV=>[z7 aV.1 sG.u.aE aV.2]) RC al3 (ep Co 6) (fA:=λw hw cT aw=>H2 _ aw (by rw[Ly];decide)) (rest:= ?_);intro alf ⟨iP,iQ⟩ Al dz w ah;replace Al:=Al.z8;letI:=b4 ah;refine dO (dP Cp) [] [] aO aP ?_ ah;refine hF (Y:=Unit) (bj:=λaV=>(bB eF g1 ez g3 g4 iP iQ)) Al [2] (λ_=>[_]) (λ_=>[]) al4 RE (ep Eh (.bool true)) (fA:=λw hw cT aw=>al1 aw alT) (rest:= ?_);intro aaY _ Ct dz w ah;replace Ct:=Ct.z8;letI:=b4 ah;refine dO (dP Ei) [] [] aO aP ?_ ah;refine hF (Y:=eD) (bj:=λaV=>(bB eF g1 ez g3 g4 iP iQ aV.1 aV.2)) Ct [5] (λaV=>[_]) (λaV=>[ht kJ 1 gf (.slice aV.1 [15,14,13,12].length aV.2) [15,14,13,12]]) al5 RG (ep Ef 7) (fA:=λw hw cT aw=>H8 alV aw (Sl.any _ ((aw.arr 0 rfl).arr yv) (by rw[Ly];decide))) (rest:= ?_);intro aa0 ⟨j8,j9⟩ Cu dz w ah;replace Cu:=Cu.QA;letI:=b4 ah;refine dO (dP HT) [] [] aO aP ?_ ah;refine uD (enc:=gf) (xs:=[15,14,13,12]) (q:=8) (bj:=λfJ=>(bB eF g1 ez g3 g4 iP iQ j8 j9 fJ)) al6 kk rfl cB cB U U (gG rfl) RI (λ_ _=>fq) RJ (λ_=>rfl) ?_;intro apb lp anm apc ann ano anp;have anq:=Cu.new (sf anm ann ano anp);letI:=b4 ah;refine hF (Y:=Unit) (bj:=λaV=>(bB eF g1 ez g3 g4 iP iQ j8 j9 lp)) anq [6,7] (λ_=>[_,_]) (λ_=>[]) RK al7 (ep Em (.bool true)) (fA:=λw hw cT aw=>DS aw (Cv (Eu.any _ ((aw.arr 0 rfl).arr kk) (aw.red 1 rfl) cB) rfl)) (rest:= ?_);intro apd _ Tp dz w ah;replace Tp:=Tp.ai';letI:=b4 ah;refine dO (dP En) [] [] aO aP ?_ ah;refine hF (Y:=eD) (bj:=λaV=>(bB eF g1 ez g3 g4 iP iQ j8 j9 lp aV.1 aV.2)) Tp [5] (λaV=>[_]) (λaV=>[ht kJ 1 gf (.slice aV.1 [10,9,8,7].length aV.2) [10,9,8,7]]) al8 RM (ep HZ 9) (fA:=λw hw cT aw=>H8 alW aw (abk.any _ ((aw.arr 0 rfl).arr yv) (by rw[Ly];decide))) (rest:= ?_);intro ape ⟨l6,l7⟩ Tq dz w ah;replace Tq:=Tq.ai_;letI:=b4 ah;refine dO (dP H0) [] [] aO aP ?_ ah;refine uD (enc:=gf) (xs:=[10,9,8,7]) (q:=10) (bj:=λfJ=>(bB eF g1 ez g3 g4 iP iQ j8 j9 lp l6 l7 fJ)) al9 kk rfl cB cB U U (gG rfl) al' (λ_ _=>fq) al_ (λ_=>rfl) ?_;intro apf mu anr apg ans ant anu;have anv:=Tq.new (sf anr ans ant anu);letI:=b4 ah;refine hF (Y:=Unit) (bj:=λaV=>(bB eF g1 ez g3 g4 iP iQ j8 j9 lp l6 l7 mu)) anv [8,9] (λ_=>[_,_]) (λ_=>[]) RO amb (ep SA (.bool true)) (fA:=λw hw cT aw=>DS aw (Cv (Eu.any _ ((aw.arr 0 rfl).arr kk) (aw.red 1 rfl) cB) rfl)) (rest:= ?_);intro aph _ Tr dz w ah;replace Tr:=Tr.YP;letI:=b4 ah;refine dO (dP SB) [] [] aO aP ?_ ah;refine hF (Y:=eD) (bj:=λaV=>(bB eF g1 ez g3 g4 iP iQ j8 j9 lp l6 l7 mu aV.1 aV.2)) Tr [5] (λaV=>[_]) (λaV=>[ht kJ 1 gf (.slice aV.1 [0,15,15,15].length aV.2) [0,15,15,15]]) RR amd (ep abA 11) (fA:=λw hw cT aw=>H8 alX aw (Sm.any _ ((aw.arr 0 rfl).arr yv) (by rw[Ly];decide))) (rest:= ?_);intro api ⟨nx,ny⟩ Ts dz w ah;replace Ts:=Ts.QB;letI:=b4 ah;refine dO (dP abB) [] [] aO aP ?_ ah;refine uD (enc:=gf) (xs:=[0,15,15,15]) (q:=12) (bj:=λfJ=>(bB eF g1 ez g3 g4 iP iQ j8 j9 lp l6 l7 mu nx ny fJ)) ame kk rfl cB cB U U (gG rfl) RT (λ_ _=>fq) RU (λ_=>rfl) ?_;intro apj nS anw apk anx anz anA;have anB:=Ts.new (sf anw anx anz anA);letI:=b4 ah;refine hF (Y:=Unit) (bj:=λaV=>(bB eF g1 ez g3 g4 iP iQ j8 j9 lp l6 l7 mu nx ny nS)) anB [10,11] (λ_=>[_,_]) (λ_=>[]) RV amg (ep SG (.bool true)) (fA:=λw hw cT aw=>DS aw (Cv (Eu.any _ ((aw.arr 0 rfl).arr kk) (aw.red 1 rfl) cB) rfl)) (rest:= ?_);intro apl _ Tt dz w ah;replace Tt:=Tt.BW;letI:=b4 ah;refine dO (dP SH) [] [] aO aP ?_ ah;refine hF (Y:=dQ) (bj:=λaV=>(bB eF g1 ez g3 g4 iP iQ j8 j9 lp l6 l7 mu nx ny nS)) Tt [2] (λaV=>[di ez (aV) Ev]) (λ_=>[]) amh amj (ep SJ (I 0)) (fA:=λw hw cT aw=>y8 aw (p:=(0,0,0)) abm rfl alP) (rest:= ?_);intro apm apn Tu dz w ah;replace Tu:=Tu.BW;letI:=b4 ah;refine dO (dP SK) [] [] aO aP ?_ ah;refine hF (Y:=dQ) (bj:=λaV=>(bB eF g1 ez g3 g4 iP iQ j8 j9 lp l6 l7 mu nx ny nS)) Tu [2] (λaV=>[di ez (aV) nR]) (λ_=>[]) amk amm (ep SM 13) (fA:=λw hw cT aw=>H7 aw abn U U) (rest:= ?_);intro apo xC Tv dz w ah;replace Tv:=Tv.BW;letI:=b4 ah;refine dO (dP SN) [] [] aO aP ?_ ah;refine hF (Y:=eD) (bj:=λaV=>(bB eF g1 ez g3 g4 iP iQ j8 j9 lp l6 l7 mu nx ny nS aV.1 aV.2)) Tv [2] (λaV=>[_]) (λaV=>[z7 aV.1 nR.u.aE aV.2]) amn amp (ep LF 14) (fA:=λw hw cT aw=>H2 _ aw (by rw[Sr];decide)) (rest:= ?_);intro apq ⟨pM,pN⟩ H_ dz w ah;replace H_:=H_.D9;letI:=b4 ah;by_cases z0:0<(((wq Ev):Nat):Int)
 ·refine dO (dP H9) dk [] (ae a8 aO) aP ?_ ah
  refine hF (Y:=eD) (bj:=λaV=>(bB eF g1 ez g3 g4 iP iQ j8 j9 lp l6 l7 mu nx ny nS pM pN aV.1 aV.2)) H_ [12] (λaV=>[_]) (λaV=>[ht kJ 1 gf (.slice aV.1 [0,0,0,0].length aV.2) [0,0,0,0]]) amq ams (ep abI 15) (fA:=λw hw cT aw=>H8 alY aw (Sl.any _ ((aw.arr 0 rfl).arr yv) (by rw[Sr];decide))) (rest:= ?_);intro anC ⟨sH,sI⟩ Cw dz w ah;replace Cw:=Cw.QC;letI:=b4 ah;refine dO (dP abJ) [] [] aO aP ?_ ah;refine uD (enc:=gf) (xs:=[0,0,0,0]) (q:=16) (bj:=λfJ=>(bB eF g1 ez g3 g4 iP iQ j8 j9 lp l6 l7 mu nx ny nS pM pN sH sI fJ)) amt kk rfl cB cB U U (gG rfl) amu (λ_ _=>fq) amv (λ_=>rfl) ?_;intro apr tO anD aps anE anF anG;have anH:=Cw.new (sf anD anE anF anG);letI:=b4 ah;refine hF (Y:=Unit) (bj:=λaV=>(bB eF g1 ez g3 g4 iP iQ j8 j9 lp l6 l7 mu nx ny nS pM pN sH sI tO)) anH [13,14] (λ_=>[_,_]) (λ_=>[]) amw amy (ep SS (.bool true)) (fA:=λw hw cT aw=>DS aw (Cv (Eu.any _ ((aw.arr 0 rfl).arr kk) (aw.red 1 rfl) cB) rfl)) (rest:= ?_);intro anI _ Cx dz w ah;replace Cx:=Cx.aja;letI:=b4 ah;refine dO (dP SU) [] [] aO aP ?_ ah;refine hF (Y:=eD) (bj:=λaV=>(bB eF g1 ez g3 g4 iP iQ j8 j9 lp l6 l7 mu nx ny nS pM pN sH sI tO aV.1 aV.2)) Cx [12] (λaV=>[_]) (λaV=>[ht kJ 1 gf (.slice aV.1 [15,15,15,15].length aV.2) [15,15,15,15]]) amz amB (ep abN 17) (fA:=λw hw cT aw=>H8 alZ aw (Sm.any _ ((aw.arr 0 rfl).arr yv) (by rw[Sr];decide))) (rest:= ?_);intro anJ ⟨wy,wz⟩ Ew dz w ah;replace Ew:=Ew.ajb;letI:=b4 ah;refine dO (dP abO) [] [] aO aP ?_ ah;refine uD (enc:=gf) (xs:=[15,15,15,15]) (q:=18) (bj:=λfJ=>(bB eF g1 ez g3 g4 iP iQ j8 j9 lp l6 l7 mu nx ny nS pM pN sH sI tO wy wz fJ)) amC kk rfl cB cB U U (gG rfl) amD (λ_ _=>fq) amE (λ_=>rfl) ?_;intro apt xB anK apu anL anM anN;have anO:=Ew.new (sf anK anL anM anN);letI:=b4 ah;refine hF (Y:=Unit) (bj:=λaV=>(bB eF g1 ez g3 g4 iP iQ j8 j9 lp l6 l7 mu nx ny nS pM pN sH sI tO wy wz xB)) anO [15,16] (λ_=>[_,_]) (λ_=>[]) amF amH (ep abR (.bool true)) (fA:=λw hw cT aw=>DS aw (Cv (Eu.any _ ((aw.arr 0 rfl).arr kk) (aw.red 1 rfl) cB) rfl)) (rest:= ?_);intro apv _ LL dz w ah;replace LL:=LL.D';letI:=b4 ah;refine dO (dP abS) [] [] aO aP ?_ ah;refine XA (Y:=dQ×dQ) (bj:=λaV=>(bB eF g1 ez g3 g4 iP iQ j8 j9 lp l6 l7 mu nx ny nS pM pN sH sI tO wy wz xB)) (m:=8) (dy:=[(2,I 0),(5,I 0)]) (cs:=[(2,I 0),(5,I 0)]) (kv:=[]) (cq:=[2,5]) (L:=(λgU aV=>bif Nat.beq gU 0 then [di ez xC nR] else bif Nat.beq gU 1 then [di ez (aV.1) oR] else bif Nat.beq gU 2 then [di ez (aV.2) j'] else [])) (rv:=(λgU aV=>bif Nat.beq gU 0 then I 0 else bif Nat.beq gU 1 then I 0 else .bool false)) (ca:=[di ez xC nR]) LL [2] U U U mixed amI cB (default,default) rfl (ky.cons (Kx (rv:=(λgU aV=>bif Nat.beq gU 0 then I 0 else bif Nat.beq gU 1 then I 0 else .bool false)) (k:=0) (u:=I 0) U U (λ_=>rfl)) (ky.cons (Kx (rv:=(λgU aV=>bif Nat.beq gU 0 then I 0 else bif Nat.beq gU 1 then I 0 else .bool false)) (k:=1) (u:=I 0) U U (λ_=>rfl)) ky.nil)) uI.nil (ky.cons (xb.Ku amL rfl (λw aV bt cT yx=>by have jW:cG (aG w) [di ez xC nR]:=yx;exact Kv (rv:=(λgU aV=>bif Nat.beq gU 0 then I 0 else bif Nat.beq gU 1 then I 0 else .bool false)) (k:=0) (y:=aV) (sq:=(λgU aV=>bif Nat.beq gU 0 then [di ez xC nR] else bif Nat.beq gU 1 then [di ez (aV.1) oR] else bif Nat.beq gU 2 then [di ez (aV.2) j'] else []) (0+1)) jW [0] U U (λh3=>[di ez (h3) oR]) (λh3=>[]) (λh3=>[di ez (h3) oR]) (λ_=>rfl) (λ_=>rfl) (λh3=>(h3,aV.2)) (λ_=>rfl) (λ_=>rfl) (λh3=>Kw) (show Calls _ _ _ _ λbz wA=>(∃h3:dQ,bz= .returned (I 0)/\cV (aG w) _ (aG wA) ([di ez (h3) oR]))/\cg 0 w wA from y8 (jW.pick [0] rfl) (p:=(0,0,1)) Sp rfl abo))) (ky.cons (xb.Ku amM rfl (λw aV bt cT yx=>by have jW:cG (aG w) [di ez (aV.1) oR]:=yx;exact Kv (rv:=(λgU aV=>bif Nat.beq gU 0 then I 0 else bif Nat.beq gU 1 then I 0 else .bool false)) (k:=1) (y:=aV) (sq:=(λgU aV=>bif Nat.beq gU 0 then [di ez xC nR] else bif Nat.beq gU 1 then [di ez (aV.1) oR] else bif Nat.beq gU 2 then [di ez (aV.2) j'] else []) (1+1)) jW [0] U U (λh3=>[di ez (h3) j']) (λh3=>[]) (λh3=>[di ez (h3) j']) (λ_=>rfl) (λ_=>rfl) (λh3=>(aV.1,h3)) (λ_=>rfl) (λ_=>rfl) (λh3=>(Xy Kw rfl)) (show Calls _ _ _ _ λbz wA=>(∃h3:dQ,bz= .returned (I 0)/\cV (aG w) _ (aG wA) ([di ez (h3) j']))/\cg 0 w wA from LA (jW.pick [0] rfl) (p:=(0,0,1)) Sq rfl abp))) ky.nil)) amJ amK rfl (λaV M'=>(ky.cons rfl (ky.cons rfl ky.nil))) (λ_ _=>fq) ?_;intro⟨apw,anP⟩ apx anQ dz w ah;have Tw:=LL.put (L':=[di ez anP j']) (N:=[]) [2] U U anQ;replace Tw:=Tw.D';letI:=b4 ah;refine Fu (F:=[]) (T:=[]) (bn:=1000) (d:=10) mixed aO aP ?_ ah;refine hF (Y:=dQ) (bj:=λaV=>(bB eF g1 ez g3 g4 iP iQ j8 j9 lp l6 l7 mu nx ny nS pM pN sH sI tO wy wz xB)) Tw [2] (λaV=>[di ez (aV) j']) (λ_=>[]) amN amP (ep S2 (I 16)) (fA:=λw hw cT aw=>y8 aw (p:=(0,0,1)) H6 abq Ss) (rest:= ?_);intro apy apz Tx dz w ah;replace Tx:=Tx.D';letI:=b4 ah;refine dO (dP S3) [] [] aO aP ?_ ah;refine hF (Y:=dQ) (bj:=λaV=>(bB eF g1 ez g3 g4 iP iQ j8 j9 lp l6 l7 mu nx ny nS pM pN sH sI tO wy wz xB)) Tx [2] (λaV=>[di ez (aV) j']) (λ_=>[]) amQ amS (ep S5 (I 1)) (fA:=λw hw cT aw=>y8 aw (p:=(0,0,4)) H6 abr St) (rest:= ?_);intro apA apB Ty dz w ah;replace Ty:=Ty.D';letI:=b4 ah;refine dO (dP S6) [] [] aO aP ?_ ah;refine hF (Y:=Unit) (bj:=λaV=>(bB eF g1 ez g3 g4 iP iQ j8 j9 lp l6 l7 mu nx ny nS pM pN sH sI tO wy wz xB)) Ty [2] (λ_=>[_]) (λ_=>[]) amT amV (ep S8 (.bool false)) (fA:=λw hw cT aw=>al2 aw alU) (rest:= ?_);intro apC _ Tz dz w ah;replace Tz:=Tz.D';letI:=b4 ah;refine dO (dP S9) [] [] aO aP ?_ ah;refine hF (Y:=dQ) (bj:=λaV=>(bB eF g1 ez g3 g4 iP iQ j8 j9 lp l6 l7 mu nx ny nS pM pN sH sI tO wy wz xB)) Tz [2] (λaV=>[di ez (aV) qY]) (λ_=>[]) amW amY (ep S_ (I 1)) (fA:=λw hw cT aw=>Sv aw H6 rfl (by rw[al0];rfl)) (rest:= ?_);intro apD apE TA dz w ah;replace TA:=TA.D';letI:=b4 ah;refine dO (dP Ta) [] [] aO aP ?_ ah;refine hF (Y:=eD) (bj:=λaV=>(bB eF g1 ez g3 g4 iP iQ j8 j9 lp l6 l7 mu nx ny nS pM pN sH sI tO wy wz xB aV.1 aV.2)) TA [2] (λaV=>[_]) (λaV=>[tw aV.1 qY.known aV.2]) amZ am1 (ep LJ 19) (fA:=λw hw cT aw=>aa5 _ aw (by rw[Lz];decide)) (rest:= ?_);intro apF ⟨Tj,Tk⟩ Ia dz w ah;replace Ia:=Ia.ajc;letI:=b4 ah;by_cases z0:((qY.known.length:Nat):Int)=4
  ·refine dO (dP H') eg [] (ae (eM ((Ia.arr 17 rfl).arr kn) mj) (ae a8 aO)) aP ?_ ah
   have apG:qY.cells.length=4:=by exact abt
   refine hF (Y:=eD) (bj:=λaV=>(bB eF g1 ez g3 g4 iP iQ j8 j9 lp l6 l7 mu nx ny nS pM pN sH sI tO wy wz xB Tj Tk aV.1 aV.2)) Ia [2] (λaV=>[_]) (λaV=>[qh aV.1 qY.cells aV.2]) am2 am4 (ep Tc (.agg ⟨[22,23,24,25,26,27,21]⟩)) (fA:=λw hw cT aw=>alp _ aw (by rw[abt];decide)) (rest:= ?_);intro apH ⟨Tl,Tm⟩ Ex dz w ah;replace Ex:=Ex.ajd;letI:=b4 ah;by_cases z0:(qY.cells.getD (1) default)=3
   ·refine dO (dP LK) fI [] (ae (z6 ((Ex.arr 18 rfl).arr kk) (show 1<qY.cells.length by omega) iA uz) (ae (qg 0 ((Ex.arr 18 rfl).arr kk) (lJ 1) vy) (ae a8 aO))) aP ?_ ah
    exact bR am5 λw2 bm=>(by rfl)
   ·refine dO (dP LK) hG [] (ae (z6 ((Ex.arr 18 rfl).arr kk) (show 1<qY.cells.length by omega) iA uz) (ae (qg 0 ((Ex.arr 18 rfl).arr kk) (lJ 1) vy) (ae aS aO))) aP ?_ ah
    exact bR am6 λw2 bm=>(by (exfalso;have ab4:=n2;have Lr:=Lz;have Ra:=Su;omega))
  ·refine dO (dP H') ll [] (ae (eM ((Ia.arr 17 rfl).arr kn) mj) (ae aS aO)) aP ?_ ah
   exact bR am7 λw2 bm=>(by (exfalso;have ab4:=n2;have Lr:=Lz;have Ra:=Su;omega))
 ·refine dO (dP H9) mM [] (ae aS aO) aP ?_ ah
  refine XA (Y:=dQ×dQ) (bj:=λaV=>(bB eF g1 ez g3 g4 iP iQ j8 j9 lp l6 l7 mu nx ny nS pM pN none 0 0 none 0 0 none 0 none 0)) (m:=8) (dy:=[(2,I 0),(5,I 0)]) (cs:=[(2,I 0),(5,I 0)]) (kv:=[]) (cq:=[2,5]) (L:=(λgU aV=>bif Nat.beq gU 0 then [di ez xC nR] else bif Nat.beq gU 1 then [di ez (aV.1) oR] else bif Nat.beq gU 2 then [di ez (aV.2) j'] else [])) (rv:=(λgU aV=>bif Nat.beq gU 0 then I 0 else bif Nat.beq gU 1 then I 0 else .bool false)) (ca:=[di ez xC nR]) H_ [2] U U U mixed am8 cB (default,default) rfl (ky.cons (Kx (rv:=(λgU aV=>bif Nat.beq gU 0 then I 0 else bif Nat.beq gU 1 then I 0 else .bool false)) (k:=0) (u:=I 0) U U (λ_=>rfl)) (ky.cons (Kx (rv:=(λgU aV=>bif Nat.beq gU 0 then I 0 else bif Nat.beq gU 1 then I 0 else .bool false)) (k:=1) (u:=I 0) U U (λ_=>rfl)) ky.nil)) uI.nil (ky.cons (xb.Ku am_ rfl (λw aV bt cT yx=>by have jW:cG (aG w) [di ez xC nR]:=yx;exact Kv (rv:=(λgU aV=>bif Nat.beq gU 0 then I 0 else bif Nat.beq gU 1 then I 0 else .bool false)) (k:=0) (y:=aV) (sq:=(λgU aV=>bif Nat.beq gU 0 then [di ez xC nR] else bif Nat.beq gU 1 then [di ez (aV.1) oR] else bif Nat.beq gU 2 then [di ez (aV.2) j'] else []) (0+1)) jW [0] U U (λh3=>[di ez (h3) oR]) (λh3=>[]) (λh3=>[di ez (h3) oR]) (λ_=>rfl) (λ_=>rfl) (λh3=>(h3,aV.2)) (λ_=>rfl) (λ_=>rfl) (λh3=>Kw) (show Calls _ _ _ _ λbz wA=>(∃h3:dQ,bz= .returned (I 0)/\cV (aG w) _ (aG wA) ([di ez (h3) oR]))/\cg 0 w wA from y8 (jW.pick [0] rfl) (p:=(0,0,1)) Sp rfl abo))) (ky.cons (xb.Ku ana rfl (λw aV bt cT yx=>by have jW:cG (aG w) [di ez (aV.1) oR]:=yx;exact Kv (rv:=(λgU aV=>bif Nat.beq gU 0 then I 0 else bif Nat.beq gU 1 then I 0 else .bool false)) (k:=1) (y:=aV) (sq:=(λgU aV=>bif Nat.beq gU 0 then [di ez xC nR] else bif Nat.beq gU 1 then [di ez (aV.1) oR] else bif Nat.beq gU 2 then [di ez (aV.2) j'] else []) (1+1)) jW [0] U U (λh3=>[di ez (h3) j']) (λh3=>[]) (λh3=>[di ez (h3) j']) (λ_=>rfl) (λ_=>rfl) (λh3=>(aV.1,h3)) (λ_=>rfl) (λ_=>rfl) (λh3=>(Xy Kw rfl)) (show Calls _ _ _ _ λbz wA=>(∃h3:dQ,bz= .returned (I 0)/\cV (aG w) _ (aG wA) ([di ez (h3) j']))/\cg 0 w wA from LA (jW.pick [0] rfl) (p:=(0,0,1)) Sq rfl abp))) ky.nil)) am9 am' rfl (λaV M'=>(ky.cons rfl (ky.cons rfl ky.nil))) (λ_ _=>fq) ?_;intro⟨apI,anR⟩ anC anS dz w ah;have Cw:=H_.put (L':=[di ez anR j']) (N:=[]) [2] U U anS;replace Cw:=Cw.D9;letI:=b4 ah;refine Fu (F:=[]) (T:=[]) (bn:=1000) (d:=10) mixed aO aP ?_ ah;refine hF (Y:=dQ) (bj:=λaV=>(bB eF g1 ez g3 g4 iP iQ j8 j9 lp l6 l7 mu nx ny nS pM pN none 0 0 none 0 0 none 0 none 0)) Cw [2] (λaV=>[di ez (aV) j']) (λ_=>[]) anb ane (ep Th (I 16)) (fA:=λw hw cT aw=>y8 aw (p:=(0,0,1)) H6 abq Ss) (rest:= ?_);intro anI apJ Cx dz w ah;replace Cx:=Cx.D9;letI:=b4 ah;refine dO (dP Ti) [] [] aO aP ?_ ah;refine hF (Y:=dQ) (bj:=λaV=>(bB eF g1 ez g3 g4 iP iQ j8 j9 lp l6 l7 mu nx ny nS pM pN none 0 0 none 0 0 none 0 none 0)) Cx [2] (λaV=>[di ez (aV) j']) (λ_=>[]) anf anh (ep ab2 (I 1)) (fA:=λw hw cT aw=>y8 aw (p:=(0,0,4)) H6 abr St) (rest:= ?_);intro anJ apK Ew dz w ah;replace Ew:=Ew.D9;letI:=b4 ah;refine dO (dP ab3) [] [] aO aP ?_ ah;exact bR ani λw2 bm=>(by (exfalso;have ab4:=n2;have Lr:=Lz;have Ra:=Su;omega))
end abw
end AE
namespace AE
def LM (N R:Nat):Nat:=361*N+(365*N+2)*(R-1)
structure wB (b:bT) (N:Nat) (e:cC) (da R i:Nat):Prop where
 ok:fZ e
 reqs:e.u.reqs.length<=i
 cO:1<=R
 dx:R<=i+1
 box:e.b=b
 w:da+wm e<=LM N R
variable {b:bT} {N da R i:Nat} {e:cC}
theorem wB.xf (h:wB b N e da R i) (n:Int):wB b N (f' e n) (da+wo e n) R (i+1)/\wo e n<=n.toNat/\(wo e n<n.toNat->pk (f' e n))/\da+wo e n<=LM N R:=by
 obtain⟨q1,aH,bW,et,gN⟩:=h.ok.xf n;have ag:=h.w;have ay:=h.reqs;have bG:=h.dx;exact⟨⟨q1,aj,h.cO,aj,h.box,aj⟩,aH,bW,aj⟩
theorem wB.set (h:wB b N e da R i):wB b N (mr e) (da+wq e) R (i+1)/\pk (mr e)/\da+wq e<=LM N R:=by
 obtain⟨q1,aH,et,gN⟩:=h.ok.set;have ag:=h.w;have ay:=h.reqs;have bG:=h.dx;exact⟨⟨q1,aj,h.cO,aj,h.box,aj⟩,aH,aj⟩
theorem wB.skip (h:wB b N e da R i):wB b N e da R (i+1):=by
 have ay:=h.reqs;have bG:=h.dx;exact⟨h.ok,aj,h.cO,aj,h.box,h.w⟩
theorem wB.begin {cells:List Int} {table:List cU} {known:List Bool} {most:Int} (h:oa b cells table known most) (av:cells.length<=10000):wB b cells.length (k1 b cells table known most) 0 1 0:=by
 obtain⟨q1,aH⟩:=Lx h av;refine⟨q1,cj _,cj _,cj _,rfl,?_⟩;unfold LM;omega
end AE
namespace AE
theorem ab5 {e e':cC} (h:fZ e) (fu:fZ e') (s:pk e) (fC:pk e') (af:e'.b=e.b) (aL:e'.table=e.table) (ar:e'.cells=e.cells) (al:e'.known=e.known):e'.u.aE=e.u.aE:=by
 obtain⟨f,_,_⟩:=h.full s;obtain⟨ij,_,_⟩:=fu.full fC;rw[af,aL,ar,al] at ij;have hl:e.u.aE.length=(gT e.b).N:=h.qX.G_.trans h.qX.N.symm;have fL:e'.u.aE.length=(gT e.b).N:=by rw[<-af];exact fu.qX.G_.trans fu.qX.N.symm
 apply List.ext_getElem (fL.trans hl.symm);intro i ad ag;apply bO.ext';intro c anT;have:=ij.unique f i c (hl▸ag) anT;unfold dF at this;rw[dp,dp,f_ ad,f_ ag] at this;exact this
theorem ab6 {e:cC} {p:ej} {c:Int} (ad:sF c) (ag:bS p e.b) (ay:((e.u.reqs.length:Nat):Int)<e.most):l5 e.b e.most p e.u.reqs c=0:=by
 unfold l5 jF;rw[aY ad,aY ag,a' aj]
theorem ab7 {e:cC} {p:ej} (ag:bS p e.b) (ay:((e.u.reqs.length:Nat):Int)<e.most):jF e.b e.most p e.u.reqs=0:=by
 unfold jF;rw[aY ag,a' aj]
theorem ab8 {e:cC} {p:ej} {c:Int} (h:l5 e.b e.most p e.u.reqs c=0):(hk e p c).cells=e.cells.set (b_ e.b p) c:=by
 rw[(abf h).2.2.2]
theorem ab9 {e:cC} {p:ej} {k:Bool} (h:jF e.b e.most p e.u.reqs=0):(fe e p k).known=e.known.set (b_ e.b p) k:=by
 rw[(abg h).2.2]
def Aq (e:cC) (p:ej) (c c2 n:Int):cC:=mr (hk (f' (hk e p c) n) p c2)
def ab' (e:cC) (p:ej) (k k2:Bool) (n:Int):cC:=mr (fe (f' (fe e p k) n) p k2)
structure TB (e e':cC):Prop where
 ok:fZ e'
 st:pk e'
 b:e'.b=e.b
 most:e'.most=e.most
 table:e'.table=e.table
 cells:e'.cells=e.cells
 known:e'.known=e.known
 aE:e'.u.aE=e.u.aE
theorem ab_ {e:cC} (h:pk e):e.u.reqs.length=0:=h.2.2
theorem anU {e:cC} (h:fZ e) (s:pk e) (hm:2<e.most) {p:ej} (hp:bS p e.b) {c c2:Int} (ar:sF c) (Gq:sF c2) (n:Int) (hold:c2=e.cells.getD (b_ e.b p) default):
  fZ (hk e p c)/\fZ (f' (hk e p c) n)/\fZ (hk (f' (hk e p c) n) p c2)/\l5 e.b e.most p e.u.reqs c=0/\l5 (f' (hk e p c) n).b (f' (hk e p c) n).most p (f' (hk e p c) n).u.reqs c2=0/\TB e (Aq e p c c2 n):=by
 have h0:=ab_ s;have dZ:l5 e.b e.most p e.u.reqs c=0:=ab6 ar hp (by rw[h0];omega);obtain⟨iw,l1,_⟩:=h.cl (by rw[h0];decide) p c;have anV:=(l1 dZ).1;obtain⟨jS,_,_,_,ly⟩:=iw.xf n;have a2:l5 (f' (hk e p c) n).b (f' (hk e p c) n).most p (f' (hk e p c) n).u.reqs c2=0:=ab6 Gq hp (show _<e.most by omega);obtain⟨pO,anW,_⟩:=jS.cl aj p c2;obtain⟨Ib,ym,_,_⟩:=pO.set;have fV:(Aq e p c c2 n).cells=e.cells:=by
  show (hk (f' (hk e p c) n) p c2).cells=_;rw[ab8 a2];show (hk e p c).cells.set (b_ e.b p) c2=_;rw[ab8 dZ,List.set_set,hold];exact Lw
 exact⟨iw,jS,pO,dZ,a2,Ib,ym,rfl,rfl,rfl,fV,rfl,ab5 h Ib s ym U U fV rfl⟩
theorem anX {e:cC} (h:fZ e) (s:pk e) (hm:2<e.most) {p:ej} (hp:bS p e.b) {k k2:Bool} (n:Int) (hold:k2=e.known.getD (b_ e.b p) default):
  fZ (fe e p k)/\fZ (f' (fe e p k) n)/\fZ (fe (f' (fe e p k) n) p k2)/\jF e.b e.most p e.u.reqs=0/\jF (f' (fe e p k) n).b (f' (fe e p k) n).most p (f' (fe e p k) n).u.reqs=0/\TB e (ab' e p k k2 n):=by
 have h0:=ab_ s;have dZ:jF e.b e.most p e.u.reqs=0:=ab7 hp (by rw[h0];omega);obtain⟨iw,l1,_⟩:=h.bA (by rw[h0];decide) p k;have anV:=(l1 dZ).1;obtain⟨jS,_,_,_,ly⟩:=iw.xf n;have a2:jF (f' (fe e p k) n).b (f' (fe e p k) n).most p (f' (fe e p k) n).u.reqs=0:=ab7 hp (show _<e.most by omega);obtain⟨pO,anW,_⟩:=jS.bA aj p k2;obtain⟨Ib,ym,_,_⟩:=pO.set;have zf:(ab' e p k k2 n).known=e.known:=by
  show (fe (f' (fe e p k) n) p k2).known=_;rw[ab9 a2];show (fe e p k).known.set (b_ e.b p) k2=_;rw[ab9 dZ,List.set_set,hold];exact Lw
 exact⟨iw,jS,pO,dZ,a2,Ib,ym,rfl,rfl,rfl,rfl,zf,ab5 h Ib s ym U U U zf⟩
def fb (b:bT) (cells:List Int) (table:List cU) (known:List Bool):cC:=mr (k1 b cells table known 10)
structure aca (b:bT) (cells:List Int) (e:cC):Prop where
 ok:fZ e
 st:pk e
 b:e.b=b
 most:e.most=10
 acb:e.known.length=cells.length
 Ey:e.u.aE.length=cells.length
 cells:e.cells=cells
theorem anY {b:bT} {cells:List Int} {table:List cU} {known:List Bool} (h:oa b cells table known 10) (av:cells.length<=10000):fZ (k1 b cells table known 10)/\aca b cells (fb b cells table known):=by
 obtain⟨q1,_⟩:=Lx h av;obtain⟨o,s,_,_⟩:=q1.set;have hl:=o.qX.G_;have ad:=o.lc;have ag:=o.lB;have ar:(fb b cells table known).cells=cells:=rfl;exact⟨q1,o,s,rfl,rfl,by rw[<-ar];exact ag.trans ad.symm,by rw[<-ar];exact hl.trans ad.symm,rfl⟩
theorem anZ {b:bT} {cells:List Int} {table:List cU} {known:List Bool} {most:Int} (h:oa b cells table known most) (av:cells.length<=10000):okB b/\cells.length=(ft b).toNat:=by
 obtain⟨_,⟨ag,_⟩,_⟩:=R_ h.1;have ad:=(Lx (most:=most) h av).1.Sb;exact⟨ag,ad⟩
theorem acd:∀{l:List Int},qn l<0->∀i,i<l.length->rF (l.getD i default)
 |[],_,i,ai=>absurd ai (Nat.not_lt_zero i)
 |c::r,h,i,ai=>by
  unfold qn at h;split at h
  ·rename_i ar
   split at h
   ·rename_i ao
    cases i with
    |zero=>exact ar
    |succ i=>exact acd ao i (Nat.lt_of_succ_lt_succ ai)
   ·omega
  ·cases h
theorem an0 {b:bT} {cells:List Int} {table:List cU} {known:List Bool} {most:Int} {i:Nat} (h:oa b cells table known most) (ai:i<cells.length):sF (cells.getD i default):=acd (R_ h.1).2.1.2.2.2.2 i ai
def mv (b:bT) (cells:List Int) (table:List cU) (known:List Bool) (p:ej) (cell n:Int):cC:=Aq (fb b cells table known) p cell (cells.getD (b_ b p) default) n
structure an1 (b:bT) (cells:List Int) (table:List cU) (known:List Bool) (p:ej) (cell n:Int):Prop where
 box:okB b
 TC:fZ (k1 b cells table known 10)
 da:aca b cells (fb b cells table known)
 lt:b_ b p<cells.length
 lB:b_ b p<(fb b cells table known).known.length
 iw:fZ (hk (fb b cells table known) p cell)
 jS:fZ (f' (hk (fb b cells table known) p cell) n)
 pO:fZ (hk (f' (hk (fb b cells table known) p cell) n) p (cells.getD (b_ b p) default))
 dZ:l5 (fb b cells table known).b (fb b cells table known).most p (fb b cells table known).u.reqs cell=0
 a2:l5 (f' (hk (fb b cells table known) p cell) n).b (f' (hk (fb b cells table known) p cell) n).most p (f' (hk (fb b cells table known) p cell) n).u.reqs (cells.getD (b_ b p) default)=0
 V:TB (fb b cells table known) (mv b cells table known p cell n)
 Ey:(mv b cells table known p cell n).u.aE.length=cells.length
 dC:cells.length<=120
 K:∀k k2,k2=(fb b cells table known).known.getD (b_ b p) default->
  fZ (fe (mv b cells table known p cell n) p k)/\fZ (f' (fe (mv b cells table known p cell n) p k) n)/\fZ (fe (f' (fe (mv b cells table known p cell n) p k) n) p k2)/\
  jF (mv b cells table known p cell n).b (mv b cells table known p cell n).most p (mv b cells table known p cell n).u.reqs=0/\
  jF (f' (fe (mv b cells table known p cell n) p k) n).b (f' (fe (mv b cells table known p cell n) p k) n).most p (f' (fe (mv b cells table known p cell n) p k) n).u.reqs=0/\
  (mr (fe (f' (fe (mv b cells table known p cell n) p k) n) p k2)).u.aE=(fb b cells table known).u.aE/\(mr (fe (f' (fe (mv b cells table known p cell n) p k) n) p k2)).u.aE.length=cells.length
theorem an2 {b:bT} {cells:List Int} {table:List cU} {known:List Bool} {p:ej} {cell n:Int} (nH:oa b cells table known 10) (h0:tN cells table known 0) (ad:bS p b) (ag:¬cell<0) (ay:¬255<cell):an1 b cells table known p cell n:=by
 have av:cells.length<=120:=h0.1;obtain⟨TC,da⟩:=anY nH aj;obtain⟨af,aC⟩:=anZ nH aj;have ck:b_ b p<cells.length:=by rw[aC];exact Ll ad
 have ace:bS p (fb b cells table known).b:=by rw[da.b];exact ad
 have acf:2<(fb b cells table known).most:=by rw[da.most];decide
 have xM:sF (cells.getD (b_ b p) default):=an0 nH ck;obtain⟨iw,jS,pO,dZ,a2,V⟩:=anU da.ok da.st acf ace (c:=cell) ⟨aj,aj⟩ xM n (by rw[da.cells,da.b]);refine⟨af,TC,da,ck,by rw[da.acb];exact ck,iw,jS,pO,dZ,a2,V,?_,av,λk k2 al=> ?_⟩
 ·show (Aq _ p cell _ n).u.aE.length=_
  rw[V.aE];exact da.Ey
 ·obtain⟨q1,aH,bW,et,gN,j_⟩:=anX (e:=mv b cells table known p cell n) V.ok V.st (by show 2<(Aq _ p cell _ n).most;rw[V.most];exact acf) (p:=p) (by show bS p (Aq _ p cell _ n).b;rw[V.b];exact ace) (k:=k) (k2:=k2) n (by show k2=(Aq _ p cell _ n).known.getD (b_ (Aq _ p cell _ n).b p) default;rw[V.known,V.b,da.b];exact al)
  have hl:(mr (fe (f' (fe (mv b cells table known p cell n) p k) n) p k2)).u.aE=(fb b cells table known).u.aE:=j_.aE.trans V.aE;exact⟨q1,aH,bW,et,gN,hl,by rw[hl];exact da.Ey⟩
end AE
namespace AE
theorem acg {p:ej} {b:bT} (h:bS p b):v8 b p=(p.1-b.1)+((bM b).1*((p.2.1-b.2.1)+((bM b).2.1*(p.2.2-b.2.2.1)))):=by
 rw[G1 h];have e1:p.2.2+((-1)*b.2.2.1)=p.2.2-b.2.2.1:=by omega
 have e2:p.2.1+((-1)*b.2.1)=p.2.1-b.2.1:=by omega
 have e3:p.1+((-1)*b.1)=p.1-b.1:=by omega
 rw[e1,e2,e3,Int.mul_comm (p.2.2-b.2.2.1),Int.add_comm (((bM b).2.1*(p.2.2-b.2.2.1))),Int.mul_comm _ (bM b).1,Int.add_comm]
theorem sJ {p:ej} {b:bT} (af:okB b) (h:bS p b):0<=((bM b).2.1*(p.2.2-b.2.2.1))/\((bM b).2.1*(p.2.2-b.2.2.1))<=4398038122500/\0<=((bM b).1*((p.2.1-b.2.1)+((bM b).2.1*(p.2.2-b.2.2.1))))/\((bM b).1*((p.2.1-b.2.1)+((bM b).2.1*(p.2.2-b.2.2.1))))<=9223345648600875000:=by
 have q:=o9 af h;have e1:p.2.2+((-1)*b.2.2.1)=p.2.2-b.2.2.1:=by omega
 have e2:p.2.1+((-1)*b.2.1)=p.2.1-b.2.1:=by omega
 rw[e1,e2,Int.mul_comm (p.2.2-b.2.2.1),Int.add_comm (((bM b).2.1*(p.2.2-b.2.2.1))),Int.mul_comm _ (bM b).1] at q;exact q
end AE
namespace AE
namespace ach
noncomputable def body:Code:=(Tryd.f41.body).getD .skip
def N:Nat:=13
noncomputable abbrev bz:=fj Tryd.prog Tryd.f41
def aN:b6:={sl:=b1 [(0,.agg ⟨[0,1,2,3,4,5]⟩)],ms:=[],A:=start}
def bN:bd:=[(.bin .geq 3 0 3,.bool true)]
theorem e0:bz (at' 13 bN [] body aN)=some (.agg ⟨[I 0,I 0,I 0]⟩):=au
def cb:bd:=[(.bin .geq 3 0 3,.bool false),
 (.bin .geq 3 1 4,.bool true)]
theorem e1:bz (at' 13 cb [] body aN)=some (.agg ⟨[I 0,I 0,I 0]⟩):=au
def dk:bd:=[(.bin .geq 3 0 3,.bool false),
 (.bin .geq 3 1 4,.bool false),
 (.bin .geq 3 2 5,.bool true)]
theorem e2:bz (at' 13 dk [] body aN)=some (.agg ⟨[I 0,I 0,I 0]⟩):=au
def eg:bd:=[(.bin .geq 3 0 3,.bool false),
 (.bin .geq 3 1 4,.bool false),
 (.bin .geq 3 2 5,.bool false),
 (.bin .sub 3 3 0,6),
 (.bin .sub 3 4 1,7),
 (.bin .sub 3 5 2,8)]
theorem e3:bz (at' 13 eg [] body aN)=some (.agg ⟨[6,7,8]⟩):=au
@[reducible] noncomputable def bB (b:bT):List J:=[I b.1,I b.2.1,I b.2.2.1,I b.2.2.2.1,I b.2.2.2.2.1,I b.2.2.2.2.2,I (b.2.2.2.1-b.1),I (b.2.2.2.2.1-b.2.1),I (b.2.2.2.2.2-b.2.2.1)]
theorem any (W:ax) (b:bT) (af:okB b):Calls Tryd.prog 41 #[X.val b] W λe w'=>e= .returned (P.val (bM b))/\cg W.heap.size W w':=by
 refine jE (bB b) body aN N [.agg ⟨[ak 0,ak 1,ak 2,ak 3,ak 4,ak 5]⟩] Tryd.func41 λa ah=> ?_
 letI:=b4 ah;have aI:=bI.o1 W;have oU:=af;have eX: -1048575<=b.1/\b.1<=1048575/\ -1048575<=b.2.1/\b.2.1<=1048575/\ -1048575<=b.2.2.1/\b.2.2.1<=1048575/\ -1048575<=b.2.2.2.1/\b.2.2.2.1<=1048575/\ -1048575<=b.2.2.2.2.1/\b.2.2.2.2.1<=1048575/\ -1048575<=b.2.2.2.2.2/\b.2.2.2.2.2<=1048575:=af;by_cases h0:b.2.2.2.1<=b.1
 ·refine bx bN [] (ae a8 aO) aP ?_ ah
  exact jm e0 λw2 eS bm=>⟨(by first|(rw[uQ ⟨aj,aj,aj⟩];exact G0 aj aj aj)|(rw[xm (λq=>by unfold iX at q;omega)];rfl)),eS⟩
 ·by_cases ad:b.2.2.2.2.1<=b.2.1
  ·refine bx cb [] (ae aS (ae a8 aO)) aP ?_ ah
   exact jm e1 λw2 eS bm=>⟨(by first|(rw[uQ ⟨aj,aj,aj⟩];exact G0 aj aj aj)|(rw[xm (λq=>by unfold iX at q;omega)];rfl)),eS⟩
  ·by_cases ag:b.2.2.2.2.2<=b.2.2.1
   ·refine bx dk [] (ae aS (ae aS (ae a8 aO))) aP ?_ ah
    exact jm e2 λw2 eS bm=>⟨(by first|(rw[uQ ⟨aj,aj,aj⟩];exact G0 aj aj aj)|(rw[xm (λq=>by unfold iX at q;omega)];rfl)),eS⟩
   ·refine bx eg [] (ae aS (ae aS (ae aS (ae ko (ae ko (ae ko aO)))))) aP ?_ ah
    exact jm e3 λw2 eS bm=>⟨(by first|(rw[uQ ⟨aj,aj,aj⟩];exact G0 aj aj aj)|(rw[xm (λq=>by unfold iX at q;omega)];rfl)),eS⟩
end ach
namespace LN
noncomputable def body:Code:=(Tryd.f14.body).getD .skip
def N:Nat:=57
noncomputable abbrev bz:=fj Tryd.prog Tryd.f14
def aN:b6:={sl:=b1 [(1,.agg ⟨[3,4,5,6,7,8]⟩),(0,.agg ⟨[0,1,2]⟩)],ms:=[],A:=start}
def bN:bd:=[(.bin .geq 3 0 3,.bool true),
 (.bin .lss 3 0 6,.bool true),
 (.bin .geq 3 1 4,.bool true),
 (.bin .lss 3 1 7,.bool true),
 (.bin .geq 3 2 5,.bool true),
 (.bin .lss 3 2 8,.bool true)]
theorem e0:bz (at' 57 bN [] body aN)=some (.bool true):=au
def cb:bd:=[(.bin .geq 3 0 3,.bool true),
 (.bin .lss 3 0 6,.bool true),
 (.bin .geq 3 1 4,.bool true),
 (.bin .lss 3 1 7,.bool true),
 (.bin .geq 3 2 5,.bool true),
 (.bin .lss 3 2 8,.bool false)]
theorem e1:bz (at' 57 cb [] body aN)=some (.bool false):=au
def dk:bd:=[(.bin .geq 3 0 3,.bool true),
 (.bin .lss 3 0 6,.bool true),
 (.bin .geq 3 1 4,.bool true),
 (.bin .lss 3 1 7,.bool true),
 (.bin .geq 3 2 5,.bool false)]
theorem e2:bz (at' 57 dk [] body aN)=some (.bool false):=au
def eg:bd:=[(.bin .geq 3 0 3,.bool true),
 (.bin .lss 3 0 6,.bool true),
 (.bin .geq 3 1 4,.bool true),
 (.bin .lss 3 1 7,.bool false),
 (.bin .geq 3 2 5,.bool true),
 (.bin .lss 3 2 8,.bool true)]
theorem e3:bz (at' 57 eg [] body aN)=some (.bool false):=au
def fI:bd:=[(.bin .geq 3 0 3,.bool true),
 (.bin .lss 3 0 6,.bool true),
 (.bin .geq 3 1 4,.bool true),
 (.bin .lss 3 1 7,.bool false),
 (.bin .geq 3 2 5,.bool true),
 (.bin .lss 3 2 8,.bool false)]
theorem hA:bz (at' 57 fI [] body aN)=some (.bool false):=au
def hG:bd:=[(.bin .geq 3 0 3,.bool true),
 (.bin .lss 3 0 6,.bool true),
 (.bin .geq 3 1 4,.bool true),
 (.bin .lss 3 1 7,.bool false),
 (.bin .geq 3 2 5,.bool false)]
theorem kp:bz (at' 57 hG [] body aN)=some (.bool false):=au
def ll:bd:=[(.bin .geq 3 0 3,.bool true),
 (.bin .lss 3 0 6,.bool true),
 (.bin .geq 3 1 4,.bool false),
 (.bin .geq 3 2 5,.bool true),
 (.bin .lss 3 2 8,.bool true)]
theorem h2:bz (at' 57 ll [] body aN)=some (.bool false):=au
def mM:bd:=[(.bin .geq 3 0 3,.bool true),
 (.bin .lss 3 0 6,.bool true),
 (.bin .geq 3 1 4,.bool false),
 (.bin .geq 3 2 5,.bool true),
 (.bin .lss 3 2 8,.bool false)]
theorem jJ:bz (at' 57 mM [] body aN)=some (.bool false):=au
def pK:bd:=[(.bin .geq 3 0 3,.bool true),
 (.bin .lss 3 0 6,.bool true),
 (.bin .geq 3 1 4,.bool false),
 (.bin .geq 3 2 5,.bool false)]
theorem mB:bz (at' 57 pK [] body aN)=some (.bool false):=au
def sC:bd:=[(.bin .geq 3 0 3,.bool true),
 (.bin .lss 3 0 6,.bool false),
 (.bin .geq 3 1 4,.bool true),
 (.bin .lss 3 1 7,.bool true),
 (.bin .geq 3 2 5,.bool true),
 (.bin .lss 3 2 8,.bool true)]
theorem e9:bz (at' 57 sC [] body aN)=some (.bool false):=au
def sD:bd:=[(.bin .geq 3 0 3,.bool true),
 (.bin .lss 3 0 6,.bool false),
 (.bin .geq 3 1 4,.bool true),
 (.bin .lss 3 1 7,.bool true),
 (.bin .geq 3 2 5,.bool true),
 (.bin .lss 3 2 8,.bool false)]
theorem n_:bz (at' 57 sD [] body aN)=some (.bool false):=au
def uU:bd:=[(.bin .geq 3 0 3,.bool true),
 (.bin .lss 3 0 6,.bool false),
 (.bin .geq 3 1 4,.bool true),
 (.bin .lss 3 1 7,.bool true),
 (.bin .geq 3 2 5,.bool false)]
theorem nu:bz (at' 57 uU [] body aN)=some (.bool false):=au
def uV:bd:=[(.bin .geq 3 0 3,.bool true),
 (.bin .lss 3 0 6,.bool false),
 (.bin .geq 3 1 4,.bool true),
 (.bin .lss 3 1 7,.bool false),
 (.bin .geq 3 2 5,.bool true),
 (.bin .lss 3 2 8,.bool true)]
theorem kR:bz (at' 57 uV [] body aN)=some (.bool false):=au
def wh:bd:=[(.bin .geq 3 0 3,.bool true),
 (.bin .lss 3 0 6,.bool false),
 (.bin .geq 3 1 4,.bool true),
 (.bin .lss 3 1 7,.bool false),
 (.bin .geq 3 2 5,.bool true),
 (.bin .lss 3 2 8,.bool false)]
theorem ql:bz (at' 57 wh [] body aN)=some (.bool false):=au
def Aj:bd:=[(.bin .geq 3 0 3,.bool true),
 (.bin .lss 3 0 6,.bool false),
 (.bin .geq 3 1 4,.bool true),
 (.bin .lss 3 1 7,.bool false),
 (.bin .geq 3 2 5,.bool false)]
theorem yR:bz (at' 57 Aj [] body aN)=some (.bool false):=au
def Ak:bd:=[(.bin .geq 3 0 3,.bool true),
 (.bin .lss 3 0 6,.bool false),
 (.bin .geq 3 1 4,.bool false),
 (.bin .geq 3 2 5,.bool true),
 (.bin .lss 3 2 8,.bool true)]
theorem tJ:bz (at' 57 Ak [] body aN)=some (.bool false):=au
def Hu:bd:=[(.bin .geq 3 0 3,.bool true),
 (.bin .lss 3 0 6,.bool false),
 (.bin .geq 3 1 4,.bool false),
 (.bin .geq 3 2 5,.bool true),
 (.bin .lss 3 2 8,.bool false)]
theorem yS:bz (at' 57 Hu [] body aN)=some (.bool false):=au
def Hv:bd:=[(.bin .geq 3 0 3,.bool true),
 (.bin .lss 3 0 6,.bool false),
 (.bin .geq 3 1 4,.bool false),
 (.bin .geq 3 2 5,.bool false)]
theorem Cd:bz (at' 57 Hv [] body aN)=some (.bool false):=au
def Hw:bd:=[(.bin .geq 3 0 3,.bool false),
 (.bin .geq 3 1 4,.bool true),
 (.bin .lss 3 1 7,.bool true),
 (.bin .geq 3 2 5,.bool true),
 (.bin .lss 3 2 8,.bool true)]
theorem tC:bz (at' 57 Hw [] body aN)=some (.bool false):=au
def Hx:bd:=[(.bin .geq 3 0 3,.bool false),
 (.bin .geq 3 1 4,.bool true),
 (.bin .lss 3 1 7,.bool true),
 (.bin .geq 3 2 5,.bool true),
 (.bin .lss 3 2 8,.bool false)]
theorem yW:bz (at' 57 Hx [] body aN)=some (.bool false):=au
def Hy:bd:=[(.bin .geq 3 0 3,.bool false),
 (.bin .geq 3 1 4,.bool true),
 (.bin .lss 3 1 7,.bool true),
 (.bin .geq 3 2 5,.bool false)]
theorem tK:bz (at' 57 Hy [] body aN)=some (.bool false):=au
def Hz:bd:=[(.bin .geq 3 0 3,.bool false),
 (.bin .geq 3 1 4,.bool true),
 (.bin .lss 3 1 7,.bool false),
 (.bin .geq 3 2 5,.bool true),
 (.bin .lss 3 2 8,.bool true)]
theorem rE:bz (at' 57 Hz [] body aN)=some (.bool false):=au
def HA:bd:=[(.bin .geq 3 0 3,.bool false),
 (.bin .geq 3 1 4,.bool true),
 (.bin .lss 3 1 7,.bool false),
 (.bin .geq 3 2 5,.bool true),
 (.bin .lss 3 2 8,.bool false)]
theorem B_:bz (at' 57 HA [] body aN)=some (.bool false):=au
def HB:bd:=[(.bin .geq 3 0 3,.bool false),
 (.bin .geq 3 1 4,.bool true),
 (.bin .lss 3 1 7,.bool false),
 (.bin .geq 3 2 5,.bool false)]
theorem HC:bz (at' 57 HB [] body aN)=some (.bool false):=au
def HD:bd:=[(.bin .geq 3 0 3,.bool false),
 (.bin .geq 3 1 4,.bool false),
 (.bin .geq 3 2 5,.bool true),
 (.bin .lss 3 2 8,.bool true)]
theorem HE:bz (at' 57 HD [] body aN)=some (.bool false):=au
def HF:bd:=[(.bin .geq 3 0 3,.bool false),
 (.bin .geq 3 1 4,.bool false),
 (.bin .geq 3 2 5,.bool true),
 (.bin .lss 3 2 8,.bool false)]
theorem HG:bz (at' 57 HF [] body aN)=some (.bool false):=au
def HH:bd:=[(.bin .geq 3 0 3,.bool false),
 (.bin .geq 3 1 4,.bool false),
 (.bin .geq 3 2 5,.bool false)]
theorem B7:bz (at' 57 HH [] body aN)=some (.bool false):=au
@[reducible] noncomputable def bB (p:ej) (b:bT):List J:=[I p.1,I p.2.1,I p.2.2,I b.1,I b.2.1,I b.2.2.1,I b.2.2.2.1,I b.2.2.2.2.1,I b.2.2.2.2.2]
theorem any (W:ax) (p:ej) (b:bT):Calls Tryd.prog 14 #[P.val p,X.val b] W λe w'=>e= .returned (.bool (decide (bS p b)))/\cg W.heap.size W w':=by
 refine jE (bB p b) body aN N [.agg ⟨[ak 0,ak 1,ak 2]⟩,.agg ⟨[ak 3,ak 4,ak 5,ak 6,ak 7,ak 8]⟩] Tryd.func14 λa ah=> ?_
 letI:=b4 ah;have aI:=bI.o1 W;by_cases h0:b.1<=p.1
 ·by_cases ad:p.1<b.2.2.2.1
  ·by_cases ag:b.2.1<=p.2.1
   ·by_cases ay:p.2.1<b.2.2.2.2.1
    ·by_cases bG:b.2.2.1<=p.2.2
     ·by_cases cE:p.2.2<b.2.2.2.2.2
      ·refine bx bN [] (ae a8 (ae a8 (ae a8 (ae a8 (ae a8 (ae a8 aO)))))) aP ?_ ah
       exact jm e0 λw2 eS bm=>⟨(by first|(rw[eH (show bS p b from ⟨aj,aj,aj,aj,aj,aj⟩)];rfl)|(rw[cx (λq:bS p b=>by unfold bS at q;omega)];rfl)),eS⟩
      ·refine bx cb [] (ae a8 (ae a8 (ae a8 (ae a8 (ae a8 (ae aS aO)))))) aP ?_ ah
       exact jm e1 λw2 eS bm=>⟨(by first|(rw[eH (show bS p b from ⟨aj,aj,aj,aj,aj,aj⟩)];rfl)|(rw[cx (λq:bS p b=>by unfold bS at q;omega)];rfl)),eS⟩
     ·refine bx dk [] (ae a8 (ae a8 (ae a8 (ae a8 (ae aS aO))))) aP ?_ ah
      exact jm e2 λw2 eS bm=>⟨(by first|(rw[eH (show bS p b from ⟨aj,aj,aj,aj,aj,aj⟩)];rfl)|(rw[cx (λq:bS p b=>by unfold bS at q;omega)];rfl)),eS⟩
    ·by_cases bG:b.2.2.1<=p.2.2
     ·by_cases cE:p.2.2<b.2.2.2.2.2
      ·refine bx eg [] (ae a8 (ae a8 (ae a8 (ae aS (ae a8 (ae a8 aO)))))) aP ?_ ah
       exact jm e3 λw2 eS bm=>⟨(by first|(rw[eH (show bS p b from ⟨aj,aj,aj,aj,aj,aj⟩)];rfl)|(rw[cx (λq:bS p b=>by unfold bS at q;omega)];rfl)),eS⟩
      ·refine bx fI [] (ae a8 (ae a8 (ae a8 (ae aS (ae a8 (ae aS aO)))))) aP ?_ ah
       exact jm hA λw2 eS bm=>⟨(by first|(rw[eH (show bS p b from ⟨aj,aj,aj,aj,aj,aj⟩)];rfl)|(rw[cx (λq:bS p b=>by unfold bS at q;omega)];rfl)),eS⟩
     ·refine bx hG [] (ae a8 (ae a8 (ae a8 (ae aS (ae aS aO))))) aP ?_ ah
      exact jm kp λw2 eS bm=>⟨(by first|(rw[eH (show bS p b from ⟨aj,aj,aj,aj,aj,aj⟩)];rfl)|(rw[cx (λq:bS p b=>by unfold bS at q;omega)];rfl)),eS⟩
   ·by_cases ay:b.2.2.1<=p.2.2
    ·by_cases bG:p.2.2<b.2.2.2.2.2
     ·refine bx ll [] (ae a8 (ae a8 (ae aS (ae a8 (ae a8 aO))))) aP ?_ ah
      exact jm h2 λw2 eS bm=>⟨(by first|(rw[eH (show bS p b from ⟨aj,aj,aj,aj,aj,aj⟩)];rfl)|(rw[cx (λq:bS p b=>by unfold bS at q;omega)];rfl)),eS⟩
     ·refine bx mM [] (ae a8 (ae a8 (ae aS (ae a8 (ae aS aO))))) aP ?_ ah
      exact jm jJ λw2 eS bm=>⟨(by first|(rw[eH (show bS p b from ⟨aj,aj,aj,aj,aj,aj⟩)];rfl)|(rw[cx (λq:bS p b=>by unfold bS at q;omega)];rfl)),eS⟩
    ·refine bx pK [] (ae a8 (ae a8 (ae aS (ae aS aO)))) aP ?_ ah
     exact jm mB λw2 eS bm=>⟨(by first|(rw[eH (show bS p b from ⟨aj,aj,aj,aj,aj,aj⟩)];rfl)|(rw[cx (λq:bS p b=>by unfold bS at q;omega)];rfl)),eS⟩
  ·by_cases ag:b.2.1<=p.2.1
   ·by_cases ay:p.2.1<b.2.2.2.2.1
    ·by_cases bG:b.2.2.1<=p.2.2
     ·by_cases cE:p.2.2<b.2.2.2.2.2
      ·refine bx sC [] (ae a8 (ae aS (ae a8 (ae a8 (ae a8 (ae a8 aO)))))) aP ?_ ah
       exact jm e9 λw2 eS bm=>⟨(by first|(rw[eH (show bS p b from ⟨aj,aj,aj,aj,aj,aj⟩)];rfl)|(rw[cx (λq:bS p b=>by unfold bS at q;omega)];rfl)),eS⟩
      ·refine bx sD [] (ae a8 (ae aS (ae a8 (ae a8 (ae a8 (ae aS aO)))))) aP ?_ ah
       exact jm n_ λw2 eS bm=>⟨(by first|(rw[eH (show bS p b from ⟨aj,aj,aj,aj,aj,aj⟩)];rfl)|(rw[cx (λq:bS p b=>by unfold bS at q;omega)];rfl)),eS⟩
     ·refine bx uU [] (ae a8 (ae aS (ae a8 (ae a8 (ae aS aO))))) aP ?_ ah
      exact jm nu λw2 eS bm=>⟨(by first|(rw[eH (show bS p b from ⟨aj,aj,aj,aj,aj,aj⟩)];rfl)|(rw[cx (λq:bS p b=>by unfold bS at q;omega)];rfl)),eS⟩
    ·by_cases bG:b.2.2.1<=p.2.2
     ·by_cases cE:p.2.2<b.2.2.2.2.2
      ·refine bx uV [] (ae a8 (ae aS (ae a8 (ae aS (ae a8 (ae a8 aO)))))) aP ?_ ah
       exact jm kR λw2 eS bm=>⟨(by first|(rw[eH (show bS p b from ⟨aj,aj,aj,aj,aj,aj⟩)];rfl)|(rw[cx (λq:bS p b=>by unfold bS at q;omega)];rfl)),eS⟩
      ·refine bx wh [] (ae a8 (ae aS (ae a8 (ae aS (ae a8 (ae aS aO)))))) aP ?_ ah
       exact jm ql λw2 eS bm=>⟨(by first|(rw[eH (show bS p b from ⟨aj,aj,aj,aj,aj,aj⟩)];rfl)|(rw[cx (λq:bS p b=>by unfold bS at q;omega)];rfl)),eS⟩
     ·refine bx Aj [] (ae a8 (ae aS (ae a8 (ae aS (ae aS aO))))) aP ?_ ah
      exact jm yR λw2 eS bm=>⟨(by first|(rw[eH (show bS p b from ⟨aj,aj,aj,aj,aj,aj⟩)];rfl)|(rw[cx (λq:bS p b=>by unfold bS at q;omega)];rfl)),eS⟩
   ·by_cases ay:b.2.2.1<=p.2.2
    ·by_cases bG:p.2.2<b.2.2.2.2.2
     ·refine bx Ak [] (ae a8 (ae aS (ae aS (ae a8 (ae a8 aO))))) aP ?_ ah
      exact jm tJ λw2 eS bm=>⟨(by first|(rw[eH (show bS p b from ⟨aj,aj,aj,aj,aj,aj⟩)];rfl)|(rw[cx (λq:bS p b=>by unfold bS at q;omega)];rfl)),eS⟩
     ·refine bx Hu [] (ae a8 (ae aS (ae aS (ae a8 (ae aS aO))))) aP ?_ ah
      exact jm yS λw2 eS bm=>⟨(by first|(rw[eH (show bS p b from ⟨aj,aj,aj,aj,aj,aj⟩)];rfl)|(rw[cx (λq:bS p b=>by unfold bS at q;omega)];rfl)),eS⟩
    ·refine bx Hv [] (ae a8 (ae aS (ae aS (ae aS aO)))) aP ?_ ah
     exact jm Cd λw2 eS bm=>⟨(by first|(rw[eH (show bS p b from ⟨aj,aj,aj,aj,aj,aj⟩)];rfl)|(rw[cx (λq:bS p b=>by unfold bS at q;omega)];rfl)),eS⟩
 ·by_cases ad:b.2.1<=p.2.1
  ·by_cases ag:p.2.1<b.2.2.2.2.1
   ·by_cases ay:b.2.2.1<=p.2.2
    ·by_cases bG:p.2.2<b.2.2.2.2.2
     ·refine bx Hw [] (ae aS (ae a8 (ae a8 (ae a8 (ae a8 aO))))) aP ?_ ah
      exact jm tC λw2 eS bm=>⟨(by first|(rw[eH (show bS p b from ⟨aj,aj,aj,aj,aj,aj⟩)];rfl)|(rw[cx (λq:bS p b=>by unfold bS at q;omega)];rfl)),eS⟩
     ·refine bx Hx [] (ae aS (ae a8 (ae a8 (ae a8 (ae aS aO))))) aP ?_ ah
      exact jm yW λw2 eS bm=>⟨(by first|(rw[eH (show bS p b from ⟨aj,aj,aj,aj,aj,aj⟩)];rfl)|(rw[cx (λq:bS p b=>by unfold bS at q;omega)];rfl)),eS⟩
    ·refine bx Hy [] (ae aS (ae a8 (ae a8 (ae aS aO)))) aP ?_ ah
     exact jm tK λw2 eS bm=>⟨(by first|(rw[eH (show bS p b from ⟨aj,aj,aj,aj,aj,aj⟩)];rfl)|(rw[cx (λq:bS p b=>by unfold bS at q;omega)];rfl)),eS⟩
   ·by_cases ay:b.2.2.1<=p.2.2
    ·by_cases bG:p.2.2<b.2.2.2.2.2
     ·refine bx Hz [] (ae aS (ae a8 (ae aS (ae a8 (ae a8 aO))))) aP ?_ ah
      exact jm rE λw2 eS bm=>⟨(by first|(rw[eH (show bS p b from ⟨aj,aj,aj,aj,aj,aj⟩)];rfl)|(rw[cx (λq:bS p b=>by unfold bS at q;omega)];rfl)),eS⟩
     ·refine bx HA [] (ae aS (ae a8 (ae aS (ae a8 (ae aS aO))))) aP ?_ ah
      exact jm B_ λw2 eS bm=>⟨(by first|(rw[eH (show bS p b from ⟨aj,aj,aj,aj,aj,aj⟩)];rfl)|(rw[cx (λq:bS p b=>by unfold bS at q;omega)];rfl)),eS⟩
    ·refine bx HB [] (ae aS (ae a8 (ae aS (ae aS aO)))) aP ?_ ah
     exact jm HC λw2 eS bm=>⟨(by first|(rw[eH (show bS p b from ⟨aj,aj,aj,aj,aj,aj⟩)];rfl)|(rw[cx (λq:bS p b=>by unfold bS at q;omega)];rfl)),eS⟩
  ·by_cases ag:b.2.2.1<=p.2.2
   ·by_cases ay:p.2.2<b.2.2.2.2.2
    ·refine bx HD [] (ae aS (ae aS (ae a8 (ae a8 aO)))) aP ?_ ah
     exact jm HE λw2 eS bm=>⟨(by first|(rw[eH (show bS p b from ⟨aj,aj,aj,aj,aj,aj⟩)];rfl)|(rw[cx (λq:bS p b=>by unfold bS at q;omega)];rfl)),eS⟩
    ·refine bx HF [] (ae aS (ae aS (ae a8 (ae aS aO)))) aP ?_ ah
     exact jm HG λw2 eS bm=>⟨(by first|(rw[eH (show bS p b from ⟨aj,aj,aj,aj,aj,aj⟩)];rfl)|(rw[cx (λq:bS p b=>by unfold bS at q;omega)];rfl)),eS⟩
   ·refine bx HH [] (ae aS (ae aS (ae aS aO))) aP ?_ ah
    exact jm B7 λw2 eS bm=>⟨(by first|(rw[eH (show bS p b from ⟨aj,aj,aj,aj,aj,aj⟩)];rfl)|(rw[cx (λq:bS p b=>by unfold bS at q;omega)];rfl)),eS⟩
end LN
namespace TD
noncomputable def body:Code:=(Tryd.f20.body).getD .skip
def N:Nat:=26
noncomputable abbrev bz:=fj Tryd.prog Tryd.f20
def aN:b6:={sl:=b1 [(1,1),(0,0)],ms:=[],A:=start}
def bN:bd:=[(.len #[45] 3 0,2),
 (.len #[45] 3 1,3),
 (.bin .neq 3 2 3,.bool false)]
def eQ:List bu:=[]
def eR:aF:=b1 [(5,4),(1,1),(0,0)]
abbrev hO:=at' 26 bN [] body aN
theorem e0:pZ eR eQ hO=some [(0,0),(1,1),(I 0,4)]:=au
def e7:Code:=ta body [1,1,0,1,4]
def iq:List fi:=oA body [1,1,0,1,4] []
theorem e1:pz hO=e7:=au
theorem e2:gA hO=iq:=au
def cb:bd:=[(.len #[45] 3 0,2),
 (.bin .lss 3 4 2,.bool true),
 (.dG 45 0 4,5),
 (.bA 85 5,.agg ⟨[6,7,8,9]⟩),
 (.dG 45 1 4,10),
 (.bA 85 10,.agg ⟨[11,12,13,14]⟩),
 (.bin .neq 85 (.agg ⟨[6,7,8,9]⟩) (.agg ⟨[11,12,13,14]⟩),.bool false),
 (.bin .add 3 4 (I 1),15)]
theorem e3:qE eR eQ (at' 26 cb [] e7 (b3 eR eQ))=some [(0,0),(1,1),(15,4)]:=au
def dk:bd:=[(.len #[45] 3 0,2),
 (.bin .lss 3 4 2,.bool true),
 (.dG 45 0 4,5),
 (.bA 85 5,.agg ⟨[6,7,8,9]⟩),
 (.dG 45 1 4,10),
 (.bA 85 10,.agg ⟨[11,12,13,14]⟩),
 (.bin .neq 85 (.agg ⟨[6,7,8,9]⟩) (.agg ⟨[11,12,13,14]⟩),.bool true)]
theorem hA:bz (nO 26 [] [] iq (at' 26 dk [] e7 (b3 eR eQ)))=some (.bool false):=au
def fI:bd:=[(.len #[45] 3 0,2),
 (.bin .lss 3 4 2,.bool false)]
theorem kp:bz (nO 26 [] [] iq (at' 26 fI [] e7 (b3 eR eQ)))=some (.bool true):=au
def hG:bd:=[(.len #[45] 3 0,2),
 (.len #[45] 3 1,3),
 (.bin .neq 3 2 3,.bool true)]
theorem h2:bz (at' 26 hG [] body aN)=some (.bool false):=au
@[reducible] noncomputable def bB (l:List bO) (dR:Option Addr) (ec:Nat) (k:List bO) (wv:Option Addr) (wx:Nat) (i:Nat:=0):List J:=[br dR l ec,br wv k wx,I ((l.length:Nat):Int),I ((k.length:Nat):Int),I ((i:Nat):Int),hb (br dR l ec) (i*4),I (l.getD (i) default).1,I (l.getD (i) default).2.1,I (l.getD (i) default).2.2.1,I (l.getD (i) default).2.2.2,hb (br wv k wx) (i*4),I (k.getD (i) default).1,I (k.getD (i) default).2.1,I (k.getD (i) default).2.2.1,I (k.getD (i) default).2.2.2,I ((i+1:Nat):Int)]
theorem any (W:ax) {h_:J} {l:List bO} (hl:cF (aG W) 4 dJ h_ l) {H5:J} {k:List bO} (al:cF (aG W) 4 dJ H5 k) (av:l.length<=1000000):Calls Tryd.prog 20 #[h_,H5] W λe w'=>e= .returned (.bool (decide (l=k)))/\cg W.heap.size W w':=by
 obtain⟨dR,ec,rfl⟩:=hl.slice;obtain⟨wv,wx,rfl⟩:=al.slice;refine jE (bB l dR ec k wv wx) body aN N [ak 0,ak 1] Tryd.func20 λa ah=> ?_
 letI:=b4 ah;by_cases h0:((l.length:Nat):Int)=((k.length:Nat):Int)
 ·refine bx bN [] (ae (eM hl n4) (ae (eM al n4) (ae sx aO))) aP ?_ ah
  refine tg (gn:=(λi=>aW (aG W) (bB l dR ec k wv wx i))) (λi=>i<=l.length/\∀j,j<i->l.getD j default=k.getD j default) (λi=>l.length-i) 0 e0 fq (λ_ _ h=>h) (by exact⟨Nat.zero_le _,λj h=>absurd h (Nat.not_lt_zero _)⟩) ?_;intro i bf dz w ah;letI:=b4 ah;refine tc e1 e2 ?_;by_cases sQ:((i:Nat):Int)<((l.length:Nat):Int)
  ·by_cases ih:(l.getD (i) default)=(k.getD (i) default)
   ·refine bx cb [] (ae (eM hl n4) (ae a8 (ae (z6 hl (show i<l.length by omega) n4 sn) (ae (aT.r7 hl (FB (show i<l.length by omega)) U U Bw sn U U U) (ae (z6 al (show i<k.length by omega) n4 sn) (ae (aT.r7 al (FB (show i<k.length by omega)) U U Bw sn U U U) (ae (YV U U U U (by rw[eH ih];rfl)) (ae ko aO)))))))) aP ?_ ah
    exact tu (i+1) e3 fq (by exact⟨aj,λj h=>by rcases Nat.lt_or_ge j i with ad|ad;exact bf.2 j ad;obtain rfl:j=i:=aj;first|assumption|exact abh bK bK|exact abi bK bK⟩)
   ·refine bx dk [] (ae (eM hl n4) (ae a8 (ae (z6 hl (show i<l.length by omega) n4 sn) (ae (aT.r7 hl (FB (show i<l.length by omega)) U U Bw sn U U U) (ae (z6 al (show i<k.length by omega) n4 sn) (ae (aT.r7 al (FB (show i<k.length by omega)) U U Bw sn U U U) (ae (YV U U U U (by rw[cx ih];rfl)) aO))))))) aP ?_ ah
    refine n' [] [] aO aP ?_;exact jm hA λw2 eS bm=>⟨(by first|(rw[cx (λh:l=k=>by subst h;omega)];rfl)|(rw[cx (λh:l=k=>by subst h;first|exact absurd rfl bK|exact absurd bK bK)];rfl)|(rw[eH (all_eq aj (λj hj=>bf.2 j aj))];rfl)),eS⟩
  ·refine bx fI [] (ae (eM hl n4) (ae aS aO)) aP ?_ ah
   refine n' [] [] aO aP ?_;exact jm kp λw2 eS bm=>⟨(by first|(rw[cx (λh:l=k=>by subst h;omega)];rfl)|(rw[cx (λh:l=k=>by subst h;first|exact absurd rfl bK|exact absurd bK bK)];rfl)|(rw[eH (all_eq aj (λj hj=>bf.2 j aj))];rfl)),eS⟩
 ·refine bx hG [] (ae (eM hl n4) (ae (eM al n4) (ae tv aO))) aP ?_ ah
  exact jm h2 λw2 eS bm=>⟨(by first|(rw[cx (λh:l=k=>by subst h;omega)];rfl)|(rw[cx (λh:l=k=>by subst h;first|exact absurd rfl bK|exact absurd bK bK)];rfl)|(rw[eH (all_eq aj (λj hj=>bf.2 j aj))];rfl)),eS⟩
end TD
end AE
namespace AE
section
variable [a1]
theorem an3 {x y:J} {p:ej} {b:bT} (hp:dL [x,y]=true) (bp:eo [x,y]=[P.val p,X.val b]) (h:bS p b):i_ Tryd.prog (14,[x,y],.bool true):=
 kK (a:= #[P.val p,X.val b]) hp rfl bp rfl λw _=>(LN.any w p b).mono λe w' he=>by rw[eH h] at he;exact he
theorem an4 {x y:J} {p:ej} {b:bT} (hp:dL [x,y]=true) (bp:eo [x,y]=[P.val p,X.val b]) (h:¬bS p b):i_ Tryd.prog (14,[x,y],.bool false):=
 kK (a:= #[P.val p,X.val b]) hp rfl bp rfl λw _=>(LN.any w p b).mono λe w' he=>by rw[cx h] at he;exact he
theorem an5 {x r:J} {b:bT} (hp:dL [x]=true) (ao:aM r=true) (bp:eo [x]=[X.val b]) (b9:aJ r=P.val (bM b)) (af:okB b):i_ Tryd.prog (41,[x],r):=
 kK (a:= #[X.val b]) hp ao bp b9 λw _=>ach.any w b af
end
end AE
namespace AE
namespace TE
noncomputable def body:Code:=(Tryd.f16.body).getD .skip
def N:Nat:=33
def aN:b6:={sl:=b1 [(1,.agg ⟨[6,7,8]⟩),(0,.agg ⟨[0,1,2,3,4,5]⟩)],ms:=[],A:=start}
def bN:bd:=[(.bin .sub 3 6 0,12),
 (.bin .sub 3 7 1,13),
 (.bin .sub 3 8 2,14),
 (.bin .mul 3 10 14,15),
 (.bin .add 3 13 15,16),
 (.bin .mul 3 9 16,17),
 (.bin .add 3 12 17,18)]
def jX:dX:=[(14,[.agg ⟨[6,7,8]⟩,.agg ⟨[0,1,2,3,4,5]⟩],.bool true),
 (41,[.agg ⟨[ak 0,ak 1,ak 2,ak 3,ak 4,ak 5]⟩],.agg ⟨[ak 9,ak 10,ak 11]⟩)]
theorem e0:fj Tryd.prog Tryd.f16 (at' 33 bN jX body aN)=some 18:=au
def h':dX:=[(14,[.agg ⟨[6,7,8]⟩,.agg ⟨[0,1,2,3,4,5]⟩],.bool false)]
theorem e1:fj Tryd.prog Tryd.f16 (at' 33 [] h' body aN)=some (I (-1)):=au
@[reducible] noncomputable def bB (b:bT) (p:ej):List J:=[I b.1,I b.2.1,I b.2.2.1,I b.2.2.2.1,I b.2.2.2.2.1,I b.2.2.2.2.2,I p.1,I p.2.1,I p.2.2,I (bM b).1,I (bM b).2.1,I (bM b).2.2,I (p.1-b.1),I (p.2.1-b.2.1),I (p.2.2-b.2.2.1),I ((bM b).2.1*(p.2.2-b.2.2.1)),I ((p.2.1-b.2.1)+((bM b).2.1*(p.2.2-b.2.2.1))),I ((bM b).1*((p.2.1-b.2.1)+((bM b).2.1*(p.2.2-b.2.2.1)))),I ((p.1-b.1)+((bM b).1*((p.2.1-b.2.1)+((bM b).2.1*(p.2.2-b.2.2.1)))))]
theorem any (W:ax) (b:bT) (p:ej) (af:okB b):Calls Tryd.prog 16 #[X.val b,P.val p] W λe w'=>e= .returned (I (v8 b p))/\cg W.heap.size W w':=by
 refine jE (bB b p) body aN N [.agg ⟨[ak 0,ak 1,ak 2,ak 3,ak 4,ak 5]⟩,.agg ⟨[ak 6,ak 7,ak 8]⟩] Tryd.func16 λa ah=> ?_
 letI:=b4 ah;have aI:=bI.o1 W;have eX: -1048575<=b.1/\b.1<=1048575/\ -1048575<=b.2.1/\b.2.1<=1048575/\ -1048575<=b.2.2.1/\b.2.2.1<=1048575/\ -1048575<=b.2.2.2.1/\b.2.2.2.1<=1048575/\ -1048575<=b.2.2.2.2.1/\b.2.2.2.2.1<=1048575/\ -1048575<=b.2.2.2.2.2/\b.2.2.2.2.2<=1048575:=af;by_cases h0:bS p b
 ·refine bx bN jX (ae (aT.bi U U U U U U (mh rfl (by first|omega|(have hr:=sJ af bK;have jT:=j7 (show bS p b by assumption);omega)) (by first|omega|(have hr:=sJ af bK;have jT:=j7 (show bS p b by assumption);omega)))) (ae (aT.bi U U U U U U (mh rfl (by first|omega|(have hr:=sJ af bK;have jT:=j7 (show bS p b by assumption);omega)) (by first|omega|(have hr:=sJ af bK;have jT:=j7 (show bS p b by assumption);omega)))) (ae (aT.bi U U U U U U (mh rfl (by first|omega|(have hr:=sJ af bK;have jT:=j7 (show bS p b by assumption);omega)) (by first|omega|(have hr:=sJ af bK;have jT:=j7 (show bS p b by assumption);omega)))) (ae (aT.bi U U U U U U (mh rfl (by first|omega|(have hr:=sJ af bK;have jT:=j7 (show bS p b by assumption);omega)) (by first|omega|(have hr:=sJ af bK;have jT:=j7 (show bS p b by assumption);omega)))) (ae (aT.bi U U U U U U (mh rfl (by first|omega|(have hr:=sJ af bK;have jT:=j7 (show bS p b by assumption);omega)) (by first|omega|(have hr:=sJ af bK;have jT:=j7 (show bS p b by assumption);omega)))) (ae (aT.bi U U U U U U (mh rfl (by first|omega|(have hr:=sJ af bK;have jT:=j7 (show bS p b by assumption);omega)) (by first|omega|(have hr:=sJ af bK;have jT:=j7 (show bS p b by assumption);omega)))) (ae (aT.bi U U U U U U (mh rfl (by first|omega|(have hr:=sJ af bK;have jT:=j7 (show bS p b by assumption);omega)) (by first|omega|(have hr:=sJ af bK;have jT:=j7 (show bS p b by assumption);omega)))) aO))))))) (cD (an3 U U h0) (cD (an5 U U U U af) aP)) ?_ ah
  exact jm e0 λw2 eS bm=>⟨(by first|(rw[acg bK];rfl)|(rw[Eb bK];rfl)),eS⟩
 ·refine bx [] h' aO (cD (an4 U U h0) aP) ?_ ah
  exact jm e1 λw2 eS bm=>⟨(by first|(rw[acg bK];rfl)|(rw[Eb bK];rfl)),eS⟩
end TE
end AE
section
noncomputable section
namespace AE
namespace LO
def t:bZ:=
.c 7 [.agg ⟨[0,1,2,3,4,5,6]⟩,7,8,.slice none 0 0] 14 1<|
.o (.un .not 14) 15 1 []<|
.fR 15 (
 .c 8 [] 16 1<|
 .ret 16) (
 .c 14 [.agg ⟨[9,10,11]⟩,.agg ⟨[0,1,2,3,4,5]⟩] 16 1<|
 .o (.un .not 16) 17 1 []<|
 .fR 17 (
  .c 8 [] 18 1<|
  .ret 18) (
  .o (.bin .lss 3 12 (I 0)) 18 1 []<|
  .fR 18 (
   .c 8 [] 19 1<|
   .ret 19) (
   .o (.bin .gtr 3 12 (I 255)) 19 1 []<|
   .fR 19 (
    .c 8 [] 20 1<|
    .ret 20) (
    .o (.bin .gtr 3 13 (I 100000)) 20 1 []<|
    .fR 20 (
     .c 8 [] 21 1<|
     .ret 21) (
     .call 9 [.agg ⟨[0,1,2,3,4,5,6]⟩,7,8,I 10] (.tuple ⟨[21,22]⟩) 2<|
     .o (.bin .neq 35 22 (I 0)) 23 1 []<|
     .fR 23 (
      .c 8 [] 24 1<|
      .fR 24 (
       .o (.bin .eql 35 22 (I 1)) 25 1 []<|
       .ret 25) (
       .ret (.bool false))) (
      .o (.bin .eql 34 21 (.pointer none)) 24 1 []<|
      .fR 24 (
       .c 8 [] 25 1<|
       .fR 25 (
        .o (.bin .eql 35 22 (I 1)) 26 1 []<|
        .ret 26) (
        .ret (.bool false))) (
       .call 12 [21] 25 1<|
       .c 16 [.agg ⟨[0,1,2,3,4,5]⟩,.agg ⟨[9,10,11]⟩] 26 1<|
       .call 15 [21] 27 1<|
       .c 16 [.agg ⟨[0,1,2,3,4,5]⟩,.agg ⟨[9,10,11]⟩] 28 1<|
       .call 17 [21] 29 1<|
       .o (.len #[30] 3 29) 30 1 [0,4]<|
       .o (.bin .geq 3 28 30) 31 1 []<|
       .fR 31 (
        .ret (.bool false)) (
        .call 18 [21,.agg ⟨[9,10,11]⟩,12] 32 1<|
        .call 10 [21,13] 33 1<|
        .o (.dG 26 6 28) 34 1 [0,3,1]<|
        .o (.bA 3 34) 35 1 [1]<|
        .call 18 [21,.agg ⟨[9,10,11]⟩,35] 36 1<|
        .call 12 [21] 37 1<|
        .call 15 [21] 38 1<|
        .o (.dG 30 29 28) 39 1 [0,4,1]<|
        .o (.bA 4 39) 40 1 [1]<|
        .o (.un .not 40) 41 1 []<|
        .call 19 [21,.agg ⟨[9,10,11]⟩,41] 42 1<|
        .call 10 [21,13] 43 1<|
        .o (.dG 30 29 28) 44 1 [0,4,1]<|
        .o (.bA 4 44) 45 1 [1]<|
        .call 19 [21,.agg ⟨[9,10,11]⟩,45] 46 1<|
        .call 12 [21] 47 1<|
        .c 8 [] 48 1<|
        .fR 48 (
         .o (.bin .eql 35 32 (I 0)) 49 1 []<|
         .fR 49 (
          .o (.bin .eql 35 36 (I 0)) 50 1 []<|
          .fR 50 (
           .o (.bin .eql 35 42 (I 0)) 51 1 []<|
           .fR 51 (
            .o (.bin .eql 35 46 (I 0)) 52 1 []<|
            .fR 52 (
             .c 20 [38,27] 53 1<|
             .fR 53 (
              .call 15 [21] 54 1<|
              .c 20 [54,27] 55 1<|
              .ret 55) (
              .ret (.bool false))) (
             .ret (.bool false))) (
            .ret (.bool false))) (
           .ret (.bool false))) (
          .ret (.bool false))) (
         .ret (.bool false))))))))))
theorem g:l0 Tryd.prog 4 {sr:=[12,15,17,18,10,19,9]} [.agg ⟨[0,1,2,3,4,5,6]⟩,7,8,.agg ⟨[9,10,11]⟩,12,13] 14=some t:=oE au
end LO
end AE
end
end
section
noncomputable section
namespace AE
theorem mF.at' {W w:ax} {ro:List (jc Tryd.prog)} {L:List (bs Tryd.prog)} (h:mF (aG W)) (hw:rz W [] ro L w):mF (aG w):=h.mono λi o ai=>hw.ext i o ai (Bn i)
theorem an6 {W:ax} {ro:List (jc Tryd.prog)} (h:hi ro (aG W)):∀M,pE (aG W) [] M->hi ro M:=λ_ bt i r ao=>cF.mono (h i r ao) λi o ai=>bt i o ai (Bn i)
namespace LO
abbrev lq (g:Nat) (A:dQ) (e:cC):bs Tryd.prog:= .any (di g A e)
theorem any (W:ax) {a0:ch} {eu dC:Nat} {cells:List Int} (HM:cF (aG W) 1 gf (.slice a0 eu dC) cells) (b:bT) {v1 gJ:J} {table:List cU} {known:List Bool} (De:cF (aG W) 8 jB v1 table) (vF:cF (aG W) 1 iL gJ known) (p:ej) (cell n:Int) (cv:mF (aG W)) (e_:eu=cells.length):
  Calls Tryd.prog 4 #[oK b (.slice a0 eu dC),v1,gJ,P.val p,.int .i64 cell,.int .i64 n] W λe w'=>e= .returned (.bool true)/\cg W.heap.size W w':=by
 subst e_;obtain⟨dZ,hq,rfl⟩:=De.slice;obtain⟨a2,c2,rfl⟩:=vF.slice;have dK:hi [⟨wb,.slice a0 cells.length dC,cells⟩,⟨yO,.slice dZ table.length hq,table⟩,⟨lk,.slice a2 known.length c2,known⟩] (aG W):= .cons HM (.cons De (.cons vF (.nil _)));refine(aiF (W:=W) (ro:=[⟨wb,.slice a0 cells.length dC,cells⟩,⟨yO,.slice dZ table.length hq,table⟩,⟨lk,.slice a2 known.length c2,known⟩]) (post:=λv _=>v= .bool true) mixed g (an6 dK) (vs:=[I b.1,I b.2.1,I b.2.2.1,I b.2.2.2.1,I b.2.2.2.2.1,I b.2.2.2.2.2,.slice a0 cells.length dC,.slice dZ table.length hq,.slice a2 known.length c2,I p.1,I p.2.1,I p.2.2,I cell,I n]) rfl ⟨rfl,rfl,rfl,rfl,rfl,rfl,rfl,rfl,rfl,rfl,rfl,rfl,rfl,rfl,trivial⟩ ?_).mono λe w h=> ?_
 ·refine(?_:X _ _ _ _ _ _ _ _ _ t) rfl ⟨rfl,rfl,rfl,rfl,rfl,rfl,rfl,rfl,rfl,rfl,rfl,rfl,rfl,rfl,trivial⟩
  unfold t;have px:∀{L:List (bs Tryd.prog)} {w:ax},rz W [] [⟨wb,.slice a0 cells.length dC,cells⟩,⟨yO,.slice dZ table.length hq,table⟩,⟨lk,.slice a2 known.length c2,known⟩] L w->cF (aG w) 1 gf (.slice a0 cells.length dC) cells:=λhw=>hw.ro 0 _ rfl
  have cO:∀{L:List (bs Tryd.prog)} {w:ax},rz W [] [⟨wb,.slice a0 cells.length dC,cells⟩,⟨yO,.slice dZ table.length hq,table⟩,⟨lk,.slice a2 known.length c2,known⟩] L w->cF (aG w) 8 jB (.slice dZ table.length hq) table:=λhw=>hw.ro 1 _ rfl
  have dx:∀{L:List (bs Tryd.prog)} {w:ax},rz W [] [⟨wb,.slice a0 cells.length dC,cells⟩,⟨yO,.slice dZ table.length hq,table⟩,⟨lk,.slice a2 known.length c2,known⟩] L w->cF (aG w) 1 iL (.slice a2 known.length c2) known:=λhw=>hw.ro 2 _ rfl
  have Cy:∀{L:List (bs Tryd.prog)} (w:ax),rz W [] [⟨wb,.slice a0 cells.length dC,cells⟩,⟨yO,.slice dZ table.length hq,table⟩,⟨lk,.slice a2 known.length c2,known⟩] L w->Calls Tryd.prog 8 #[] w λe w'=>e= .returned (.bool true)/\cg w.heap.size w w':=λw hw=>abw.any w (cv.at' hw)
  refine o8 (v:= .bool (decide (tN cells table known 0))) (λw hw=>abj.any w (b:=b) (px hw) (cO hw) (dx hw) (l:=[]) (.nil _ _) rfl) ?_;refine KS rfl ?_;refine D6 rfl (λ_=>o8 Cy (qe rfl)) λh0=> ?_
  have apL:cells.length<=120:=h0.1;refine o8 (v:= .bool (decide (bS p b))) (λw _=>LN.any w p b) ?_;refine KS rfl ?_;refine D6 rfl (λ_=>o8 Cy (qe rfl)) λad=> ?_
  refine Yx U U ?_;refine oG rfl (λ_=>o8 Cy (qe rfl)) λag=> ?_
  refine Qm U U ?_;refine oG rfl (λ_=>o8 Cy (qe rfl)) λay=> ?_
  refine Qm U U ?_;refine oG rfl (λ_=>o8 Cy (qe rfl)) λ_=> ?_
  by_cases nH:oa b cells table known 10
  ·have H:=an2 (n:=n) nH h0 ad ag ay
   have yw:v8 b p=((b_ b p:Nat):Int):=Zn H.box ad;refine qS (Nat×dQ) [] (λy=>[de y.1,I 0]) (λ_=>[]) (λy=>[lq y.1 y.2 (k1 b cells table known 10)]) (L':=λy=>[lq y.1 y.2 (k1 b cells table known 10)]) (λw hw aI=>abu (b:=b) aI (px hw) (cO hw) (dx hw) (cv.at' hw) aj rfl (by have:=h0.2.2.2.2;omega) (by have:=h0.2.2.1.1;omega) nH) (λ_=>rfl) (λy=> ?_);refine Qn U U ?_;refine YE rfl ?_;refine aiX rfl ?_;refine YE rfl ?_;refine qS dQ [0] (λ_=>[I (wq (k1 b cells table known 10):Nat)]) (λA=>[lq y.1 A (fb b cells table known)]) (λ_=>[]) (L':=λA=>[lq y.1 A (fb b cells table known)]) (λw hw aI=>H7 aI H.TC U U) (λ_=>rfl) (λbC=> ?_);refine o8 (v:=I (v8 b p)) (λw _=>TE.any w b p H.box) ?_;refine qS eD [0] (λd=>[.slice d.1 (fb b cells table known).u.aE.length d.2]) (λd=>[lq y.1 bC (fb b cells table known)]) (λd=>[.arr jN (.slice d.1 (fb b cells table known).u.aE.length d.2) (fb b cells table known).u.aE]) (L':=λd=>[lq y.1 bC (fb b cells table known),.arr jN (.slice d.1 (fb b cells table known).u.aE.length d.2) (fb b cells table known).u.aE]) (λw hw aI=>H2 w aI (by rw[H.da.Ey];omega)) (λ_=>rfl) (λnz=> ?_);refine o8 (v:=I (v8 b p)) (λw _=>TE.any w b p H.box) ?_;refine qS eD [0] (λd=>[.slice d.1 (fb b cells table known).known.length d.2]) (λd=>[lq y.1 bC (fb b cells table known)]) (λd=>[.arr lk (.slice d.1 (fb b cells table known).known.length d.2) (fb b cells table known).known]) (L':=λd=>[lq y.1 bC (fb b cells table known),.arr jN (.slice nz.1 (fb b cells table known).u.aE.length nz.2) (fb b cells table known).u.aE,.arr lk (.slice d.1 (fb b cells table known).known.length d.2) (fb b cells table known).known]) (λw hw aI=>aa5 w aI (by rw[H.da.acb];omega)) (λ_=>rfl) (λj2=> ?_);refine YA rfl ?_;refine Yy U U ?_;refine oG rfl (λaq=>absurd aq (by have:=H.lB;omega)) λ_=> ?_
   refine qS dQ [0] (λ_=>[I 0]) (λA=>[lq y.1 A (hk (fb b cells table known) p cell)]) (λ_=>[]) (L':=λA=>[lq y.1 A (hk (fb b cells table known) p cell),.arr jN (.slice nz.1 (fb b cells table known).u.aE.length nz.2) (fb b cells table known).u.aE,.arr lk (.slice j2.1 (fb b cells table known).known.length j2.2) (fb b cells table known).known]) (λw hw aI=>y8 aI H.da.ok rfl H.dZ) (λ_=>rfl) (λfU=> ?_);refine qS dQ [0] (λ_=>[I (wo (hk (fb b cells table known) p cell) n:Nat)]) (λA=>[lq y.1 A (f' (hk (fb b cells table known) p cell) n)]) (λ_=>[]) (L':=λA=>[lq y.1 A (f' (hk (fb b cells table known) p cell) n),.arr jN (.slice nz.1 (fb b cells table known).u.aE.length nz.2) (fb b cells table known).u.aE,.arr lk (.slice j2.1 (fb b cells table known).known.length j2.2) (fb b cells table known).known]) (λw hw aI=>Sv aI H.iw U U) (λ_=>rfl) (λDa=> ?_);refine KT (K:=wb) (l:=cells) U U ?_ (h0:=by omega) (hj:=H.lt);refine BO (K:=wb) (l:=cells) (u:=I (cells.getD (b_ b p) default)) U U ?_ (hj:=H.lt);refine qS dQ [0] (λ_=>[I 0]) (λA=>[lq y.1 A (hk (f' (hk (fb b cells table known) p cell) n) p (cells.getD (b_ b p) default))]) (λ_=>[]) (L':=λA=>[lq y.1 A (hk (f' (hk (fb b cells table known) p cell) n) p (cells.getD (b_ b p) default)),.arr jN (.slice nz.1 (fb b cells table known).u.aE.length nz.2) (fb b cells table known).u.aE,.arr lk (.slice j2.1 (fb b cells table known).known.length j2.2) (fb b cells table known).known]) (λw hw aI=>y8 aI H.jS rfl H.a2) (λ_=>rfl) (λAX=> ?_);refine qS dQ [0] (λ_=>[I (wq (hk (f' (hk (fb b cells table known) p cell) n) p (cells.getD (b_ b p) default)):Nat)]) (λA=>[lq y.1 A (mv b cells table known p cell n)]) (λ_=>[]) (L':=λA=>[lq y.1 A (mv b cells table known p cell n),.arr jN (.slice nz.1 (fb b cells table known).u.aE.length nz.2) (fb b cells table known).u.aE,.arr lk (.slice j2.1 (fb b cells table known).known.length j2.2) (fb b cells table known).known]) (λw hw aI=>H7 aI H.pO U U) (λ_=>rfl) (λaci=> ?_);refine qS eD [0] (λd=>[.slice d.1 (mv b cells table known p cell n).u.aE.length d.2]) (λd=>[lq y.1 aci (mv b cells table known p cell n)]) (λd=>[.arr jN (.slice d.1 (mv b cells table known p cell n).u.aE.length d.2) (mv b cells table known p cell n).u.aE]) (L':=λd=>[lq y.1 aci (mv b cells table known p cell n),.arr jN (.slice nz.1 (fb b cells table known).u.aE.length nz.2) (fb b cells table known).u.aE,.arr lk (.slice j2.1 (fb b cells table known).known.length j2.2) (fb b cells table known).known,.arr jN (.slice d.1 (mv b cells table known p cell n).u.aE.length d.2) (mv b cells table known p cell n).u.aE]) (λw hw aI=>H2 w aI (by rw[H.Ey];omega)) (λ_=>rfl) (λwC=> ?_);refine KT (K:=lk) (l:=(fb b cells table known).known) U U ?_ (h0:=by omega) (hj:=H.lB);refine BO (K:=lk) (l:=(fb b cells table known).known) (u:= .bool ((fb b cells table known).known.getD (b_ b p) default)) U U ?_ (hj:=H.lB);refine KS rfl ?_;obtain⟨q1,aH,bW,et,gN,j_,nB⟩:=H.K (!((fb b cells table known).known.getD (b_ b p) default)) _ rfl;have fJ:=H.V.ok;have acj:=H.lB;have an7:=H.V.aE;have gl:=H.Ey;generalize uh:mv b cells table known p cell n=V at*
   generalize Dt:fb b cells table known=da at*
   generalize al:da.known.getD (b_ b p) default=dj at*
   refine qS dQ [0] (λ_=>[I 0]) (λA=>[lq y.1 A (fe V p (!dj))]) (λ_=>[]) (L':=λA=>[lq y.1 A (fe V p (!dj)),.arr jN (.slice nz.1 da.u.aE.length nz.2) da.u.aE,.arr lk (.slice j2.1 da.known.length j2.2) da.known,.arr jN (.slice wC.1 V.u.aE.length wC.2) V.u.aE]) (λw hw aI=>LA aI fJ rfl et) (λ_=>rfl) (λapM=> ?_);refine qS dQ [0] (λ_=>[I (wo (fe V p (!dj)) n:Nat)]) (λA=>[lq y.1 A (f' (fe V p (!dj)) n)]) (λ_=>[]) (L':=λA=>[lq y.1 A (f' (fe V p (!dj)) n),.arr jN (.slice nz.1 da.u.aE.length nz.2) da.u.aE,.arr lk (.slice j2.1 da.known.length j2.2) da.known,.arr jN (.slice wC.1 V.u.aE.length wC.2) V.u.aE]) (λw hw aI=>Sv aI q1 U U) (λ_=>rfl) (λapN=> ?_);refine KT (K:=lk) (l:=da.known) U U ?_ (h0:=by omega) (hj:=acj);refine BO (K:=lk) (l:=da.known) (u:= .bool dj) rfl (by rw[<-al];rfl) ?_ (hj:=acj);refine qS dQ [0] (λ_=>[I 0]) (λA=>[lq y.1 A (fe (f' (fe V p (!dj)) n) p dj)]) (λ_=>[]) (L':=λA=>[lq y.1 A (fe (f' (fe V p (!dj)) n) p dj),.arr jN (.slice nz.1 da.u.aE.length nz.2) da.u.aE,.arr lk (.slice j2.1 da.known.length j2.2) da.known,.arr jN (.slice wC.1 V.u.aE.length wC.2) V.u.aE]) (λw hw aI=>LA aI aH rfl gN) (λ_=>rfl) (λapO=> ?_);refine qS dQ [0] (λ_=>[I (wq (fe (f' (fe V p (!dj)) n) p dj):Nat)]) (λA=>[lq y.1 A (mr (fe (f' (fe V p (!dj)) n) p dj))]) (λ_=>[]) (L':=λA=>[lq y.1 A (mr (fe (f' (fe V p (!dj)) n) p dj)),.arr jN (.slice nz.1 da.u.aE.length nz.2) da.u.aE,.arr lk (.slice j2.1 da.known.length j2.2) da.known,.arr jN (.slice wC.1 V.u.aE.length wC.2) V.u.aE]) (λw hw aI=>H7 aI bW U U) (λ_=>rfl) (λack=> ?_);refine o8 Cy ?_;refine z1 rfl ?_;refine D5 U U ?_;refine z1 rfl ?_;refine D5 U U ?_;refine z1 rfl ?_;refine D5 U U ?_;refine z1 rfl ?_;refine D5 U U ?_;refine z1 rfl ?_;refine o8 (v:= .bool true) (λw hw=>Cv (TD.any w ((nk.arr (K:=jN) has).at hw) ((nk.arr (K:=jN) (l:=da.u.aE) has).at hw) (by rw[gl];omega)) an7) ?_;refine z1 rfl ?_;refine qS eD [0] (λd=>[.slice d.1 (mr (fe (f' (fe V p (!dj)) n) p dj)).u.aE.length d.2]) (λd=>[lq y.1 ack (mr (fe (f' (fe V p (!dj)) n) p dj))]) (λd=>[.arr jN (.slice d.1 (mr (fe (f' (fe V p (!dj)) n) p dj)).u.aE.length d.2) (mr (fe (f' (fe V p (!dj)) n) p dj)).u.aE]) (L':=λd=>[lq y.1 ack (mr (fe (f' (fe V p (!dj)) n) p dj)),.arr jN (.slice nz.1 da.u.aE.length nz.2) da.u.aE,.arr lk (.slice j2.1 da.known.length j2.2) da.known,.arr jN (.slice wC.1 V.u.aE.length wC.2) V.u.aE,.arr jN (.slice d.1 (mr (fe (f' (fe V p (!dj)) n) p dj)).u.aE.length d.2) (mr (fe (f' (fe V p (!dj)) n) p dj)).u.aE]) (λw hw aI=>H2 w aI (by rw[nB];omega)) (λ_=>rfl) (λan8=> ?_);refine o8 (v:= .bool true) (λw hw=>Cv (TD.any w ((nk.arr (K:=jN) has).at hw) ((nk.arr (K:=jN) (l:=da.u.aE) has).at hw) (by rw[nB];omega)) j_) ?_;exact qe rfl
  ·refine qS Unit [] (λ_=>[.pointer none,I 1]) (λ_=>[]) (λ_=>[]) (L':=λ_=>[]) (λw hw aI=>abv (b:=b) aI (px hw) (cO hw) (dx hw) (cv.at' hw) aj rfl (by have:=h0.2.2.2.2;omega) (by have:=h0.2.2.1.1;omega) nH) (λ_=>rfl) (λ_=> ?_)
   refine Qn U U ?_;refine z1 rfl ?_;refine o8 Cy ?_;refine z1 rfl ?_;refine D5 U U ?_;exact qe rfl
 ·obtain⟨⟨v,L,ad,ag,_⟩,hl⟩:=h
  exact⟨by rw[ad,ag],hl⟩
end LO
end AE
end
end
end Go.Proofs.YtepcfjbfkedlpaaDoor
namespace Go.Proofs.YtepcfjbfkedlpaaDoor
open Go Go.ChangeShapes Go.WideShapes Go.ChangeAt Go.RowKit
section
theorem an9 {H:Type} {enc:aK×J->H} {W:ax} {r:Reach} {ct:Nat} {base:Nat} {oy:Nat->Bool} {oz:Bool} {v:J} {d:DataW H} {p:List MemPlace} (aC:Value.okWide Tryd.prog W r ct 23 v) (h:DataW.Trod enc Tryd.prog W base oy oz 23 v d p):∃q:AE.ej,v=AE.P.val q:=by
 obtain⟨cs,rfl,_⟩:=okWide_struct H3 aC;obtain⟨bn,h⟩:=h;obtain⟨q,e⟩:=Sf h;obtain⟨cs⟩:=cs;have e:cs=_:=e;exact⟨q,by rw[e];rfl⟩
theorem an' (os:Os) (args:Array J):laidMetH Tryd.prog Rows.relightUndoesRow.laid ((World.laidAll Tryd.prog os Rows.relightUndoesRow.laid).forCall (λ_ _=>0) ⟨#[],args,[]⟩).memory:=by
 rw[MakeChecks.laidMetH_plain _ _ _ au];exact laidMet_laidAll _ au au
theorem an_ (os:Os) (TF:os.Started) (H:Type) (enc:aK×J->H):
  ReturnsInHanded {} Tryd.checked os 4 .any (λw args=>(Rows.relightUndoesSpec.pre enc Tryd.prog Tryd.f4 [] false w args/\laidMetH Tryd.prog Rows.relightUndoesRow.laid w)/\sizedMet enc Tryd.prog Tryd.f4 (OpenSpec.ofChange Rows.relightUndoesSpec) false w args)
   (Rows.relightUndoesSpec.post enc Tryd.prog Tryd.f4 false true false false):=by
 refine returnsInHanded_of_change_and (C:=Tryd.checked) (X:=λw _=>laidMetH Tryd.prog Rows.relightUndoesRow.laid w) (λ_ _ _ ah h=>h.of_heap ah) own TF au Tryd.func4
  (ChangeSpec.witness_shaped (enc:=enc) (C:=Tryd.checked) (os:=os) (X:=λw _=>laidMetH Tryd.prog Rows.relightUndoesRow.laid w) false (World.laidAll Tryd.prog os Rows.relightUndoesRow.laid) #[AE.oK (0,0,0,0,0,0) (.slice none 0 0),.slice none 0 0,.slice none 0 0,AE.P.val (0,0,0),.int .i64 0,.int .i64 0] 8 (World.laidAll_os _ _ _)
    (World.shaped_of_ZipB au au) au au au (an' os _)) ?_
 intro W base args ds apP before aoa pA _ _ hL _;have hval:∀(j:Nat) t v,Tryd.f4.params[j]? =some t->args[j]? =some v->Value.okWide Tryd.prog W .any base t v:=aoa;have TG:=pA;obtain⟨p,q,Tn,uh,rfl,_,_⟩:=pA;have lR:DataW.TrodAll enc Tryd.prog W 0 (λ_=>true) true Tryd.f4.params.toList args.toList ds p:=Tn;rw[Tryd.params4] at lR hval;have acm:=lR;obtain⟨v0,apQ,iC,apR,sQ,kx,gK,rfl,rfl,h0,px⟩:=trodAll_cons lR;obtain⟨v1,apS,nz,Db,ih,q1,rfl,rfl,rfl,ad,cO⟩:=trodAll_cons px;obtain⟨gJ,Yj,j2,DE,hz,aH,rfl,rfl,rfl,ag,dx⟩:=trodAll_cons cO;obtain⟨v3,apT,wC,aeL,uj,bW,rfl,rfl,rfl,ay,gh⟩:=trodAll_cons dx;obtain⟨v4,apU,an8,apV,sW,et,rfl,rfl,rfl,bG,u3⟩:=trodAll_cons gh;obtain⟨acn,apW,apX,apY,vo,gN,rfl,rfl,rfl,cE,y_⟩:=trodAll_cons u3;obtain⟨rfl,rfl,rfl⟩:=trodAll_nil y_;obtain rfl:args= #[v0,v1,gJ,v3,v4,acn]:=by cases args;simp_all
 obtain⟨rfl,rfl⟩:=trodVars_none uh;obtain⟨ct,a0,q5,dC,ey,rfl,HM,e_⟩:=alG (hval 0 28 v0 U U) h0;obtain⟨l1,De⟩:=afQ (hval 1 29 v1 U U) ad;obtain⟨ly,vF⟩:=alE (hval 2 30 gJ U U) ag;obtain⟨z3,rfl⟩:=an9 (hval 3 23 v3 U U) ay;obtain⟨z4,rfl⟩:=V_ (hval 4 3 v4 U U) bG;obtain⟨aob,rfl⟩:=V_ (hval 5 3 acn U U) cE;simp only [List.append_nil,<-List.append_assoc] at TG acm;have ck:∀x∈sQ++ih++hz++uj++sW++vo,x.block<W.heap.size:=λx aq=>by simpa using TG.lt x aq
 refine(AE.LO.any W HM ct De vF z3 z4 aob (afR hL rfl) e_).mono λe W' ⟨he,af⟩=> ?_
 subst he;exact⟨_,rfl,_,_,_,[],sQ++ih++hz++uj++sW++vo,[],TG,trodAll_mk1 (shut_bool Tryd.underlying4 _),V6 afK af.below _ _ _ _ au acm ck,rfl,af.below.frame _,λh=>by cases h⟩
theorem aoc:Rows.RelightUndoesSaid:=
 OpenClaim.holds_of_wide 4 Tryd.f4 U U U U U U U ⟨rfl,rfl,rfl,rfl,rfl⟩ U U U U U au Tryd.func4 au
  (of_decide_eq_true au) (by unfold Func.isWrapper;first|(rw[aY (by decide +kernel)];kernel_rfl)|(rw[a' (by decide +kernel)];exact⟨rfl,rfl⟩))
  (λos TF H enc _=>an_ os TF H enc)
theorem relightUndoes_card:Rows.RelightUndoesCardSaid:=
 Claim7.holds_tied_plain_at .later [] [.widerDeep] true (true,"78eb4871fa419e5ac688e7dc1fcbc34f891c58178f14bf11d800c71083c6e710") false aoc (λ_ h=>by cases h) au (λ_ h=>by cases h) relightUndoes_row_tie rfl ⟨rfl,rfl⟩ au rfl
  (λf fn aQ mV=>by
    obtain rfl:f=4:=Option.some.inj ((show Tryd.prog.funcNamed "voxel/voxellaw34.RelightUndoes"=some 4 by kernel_rfl).symm.trans aQ) |>.symm;obtain rfl:fn=Tryd.f4:=(Option.some.inj (Tryd.func4.symm.trans mV)).symm;exact⟨au,λj t aL=>by
     rw[Tryd.params4] at aL;have hm:=Array.mem_of_getElem? aL;have lr:(Tryd.f4.params.toList.all λu=> !Tryd.prog.wantsStandIn u)=true:=by kernel_rfl
     rw[Tryd.params4] at lr;have hw:=List.all_eq_true.1 lr t (by simpa using hm)
     exact(show Tryd.prog.wantsStandIn t=false by simpa using hw)⟩)
  au
#print axioms relightUndoes_card
end
end Go.Proofs.YtepcfjbfkedlpaaDoor
