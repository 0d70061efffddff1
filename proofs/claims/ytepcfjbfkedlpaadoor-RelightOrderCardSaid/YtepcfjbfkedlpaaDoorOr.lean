/- RELIGHTORDER: the card. No condition beyond the row. -/
import Derived.Test.YtepcfjbfkedlpaaDoorOr5
import Derived.Test.YtepcfjbfkedlpaaDoorTie
import Derived.Test.YtepcfjbfkedlpaaDoorCards
set_option maxRecDepth 100000
set_option maxHeartbeats 4000000
noncomputable section
namespace Go.Proofs.YtepcfjbfkedlpaaDoor
open Go Go.Proofs Go.RowKit
namespace AE
namespace ab6
noncomputable def body:Code:=(Tryd.f8.body).getD .skip
def N:Nat:=149
noncomputable abbrev bN:=gk Tryd.prog Tryd.f8
def a8:b6:={sl:=cc [],ms:=[],A:=start}
abbrev hO:=at' 149 [] [] body a8
def eM:List bw:=[⟨.cells [I 0,I 0,I 0,I 1,I 1,I 4,.slice (some ⟨1,0,none⟩) 4 4],28,0⟩,⟨.cells [I 3,I 0,I 0,I 0],3,0⟩]
def eB:aG:=cc [(17,.agg ⟨[I 0,I 0,I 0,I 1,I 1,I 4,.slice (some ⟨1,0,none⟩) 4 4]⟩),(0,.bool false)]
def eS:aG:=(bR.set 0 depth eB 18).getD .nil
theorem e0:uB hO 3 18=some ([cr [97,105,114],.bool false,.bool false,.bool false,I 1,I 0,I 0,I 0,cr [115,116,111,110,101],.bool true,.bool false,.bool false,I 16,I 0,I 0,I 0,cr [103,108,97,115,115],.bool true,.bool false,.bool false,I 1,I 0,I 0,I 0,cr [108,97,109,112],.bool true,.bool false,.bool false,I 16,I 15,I 14,I 10,cr [115,97,110,100],.bool true,.bool false,.bool true,I 16,I 0,I 0,I 0,cr [119,97,116,101,114],.bool false,.bool true,.bool false,I 3,I 0,I 0,I 0,cr [108,101,97,118,101,115],.bool true,.bool false,.bool false,I 2,I 0,I 0,I 0,cr [101,109,98,101,114],.bool true,.bool false,.bool false,I 16,I 9,I 3,I 0,cr [102,111,103],.bool false,.bool false,.bool false,I 2,I 0,I 0,I 0],9,9):=au
theorem e1:cq (b4 hO) eB eM=some []:=au
theorem e2:bR.set 0 depth eB 18=some eS:=au
abbrev ng:=(mq {sl:=eS,ms:=[],A:=dd eM} hO)
def j':List bw:=[]
def jr:aG:=cc [(18,0),(0,.bool false)]
def hN:aG:=(bR.set (.agg ⟨[I 0,I 0,I 0,I 1,I 1,I 4,1]⟩) depth jr 17).getD .nil
theorem dn:KE ng 1 17 6=some ([I 3,I 0,I 0,I 0],4,4,[I 0,I 0,I 0,I 1,I 1,I 4,.slice (some ⟨1,0,none⟩) 4 4]):=au
theorem hU:cq (b4 ng) jr j'=some [(0,0)]:=au
theorem kG:bR.set (.agg ⟨[I 0,I 0,I 0,I 1,I 1,I 4,.slice (some ⟨1,0,none⟩) 4 4].set 6 1⟩) depth jr 17=some hN:=au
theorem jP:hf ((mq (b7 hN j') ng))=some (9,[.agg ⟨[I 0,I 0,I 0,I 1,I 1,I 4,1]⟩,0,.slice none 0 0,I 2]):=au
abbrev tC:=(mq {sl:=hN,ms:=[],A:=dd j'} ng)
def nh:List bw:=[]
def ov:aG:=cc [(0,.bool false)]
def iC:aG:=fk 149 ov 19 (.tuple ⟨[2,I 0]⟩)
theorem p4:cq (b4 tC) ov nh=some []:=au
def kj:eh:=(body,[1,0],3)
abbrev wb:=c1 149 [] [] kj {sl:=iC,ms:=[],A:=dd nh}
def pD:List bw:=[⟨.cells [I 0,I 0,I 0,I 1,I 1,I 4,.slice (some ⟨1,0,none⟩) 4 4],28,0⟩,⟨.cells [I 3,I 0,I 0,I 0],3,0⟩]
def rA:aG:=cc [(23,.agg ⟨[I 0,I 0,I 0,I 1,I 1,I 4,.slice (some ⟨1,0,none⟩) 4 4]⟩),(2,I 0),(1,2),(0,.bool false)]
def lH:aG:=(bR.set 3 depth rA 24).getD .nil
theorem HL:uB wb 3 24=some ([cr [97,105,114],.bool false,.bool false,.bool false,I 1,I 0,I 0,I 0,cr [115,116,111,110,101],.bool true,.bool false,.bool false,I 16,I 0,I 0,I 0,cr [103,108,97,115,115],.bool true,.bool false,.bool false,I 1,I 0,I 0,I 0,cr [108,97,109,112],.bool true,.bool false,.bool false,I 16,I 15,I 14,I 10,cr [115,97,110,100],.bool true,.bool false,.bool true,I 16,I 0,I 0,I 0,cr [119,97,116,101,114],.bool false,.bool true,.bool false,I 3,I 0,I 0,I 0,cr [108,101,97,118,101,115],.bool true,.bool false,.bool false,I 2,I 0,I 0,I 0,cr [101,109,98,101,114],.bool true,.bool false,.bool false,I 16,I 9,I 3,I 0,cr [102,111,103],.bool false,.bool false,.bool false,I 2,I 0,I 0,I 0],9,9):=au
theorem HM:cq (b4 wb) rA pD=some [(2,2)]:=au
theorem Cr:bR.set 3 depth rA 24=some lH:=au
abbrev tF:=(mq {sl:=lH,ms:=[],A:=dd pD} wb)
def tG:List bw:=[]
def tH:aG:=cc [(24,3),(2,I 0),(1,2),(0,.bool false)]
def p0:aG:=(bR.set (.agg ⟨[I 0,I 0,I 0,I 1,I 1,I 4,4]⟩) depth tH 23).getD .nil
theorem HX:KE tF 1 23 6=some ([I 3,I 0,I 0,I 0],4,4,[I 0,I 0,I 0,I 1,I 1,I 4,.slice (some ⟨1,0,none⟩) 4 4]):=au
theorem tE:cq (b4 tF) tH tG=some [(2,2),(3,3)]:=au
theorem Cw:bR.set (.agg ⟨[I 0,I 0,I 0,I 1,I 1,I 4,.slice (some ⟨1,0,none⟩) 4 4].set 6 4⟩) depth tH 23=some p0:=au
theorem HY:hf ((mq (b7 p0 tG) tF))=some (9,[.agg ⟨[I 0,I 0,I 0,I 1,I 1,I 4,4]⟩,3,.slice none 0 0,I 0]):=au
abbrev RY:=(mq {sl:=p0,ms:=[],A:=dd tG} tF)
def Cz:List bw:=[]
def H5:aG:=cc [(2,I 0),(1,2),(0,.bool false)]
def CA:aG:=fk 149 H5 25 (.tuple ⟨[.pointer none,I 1]⟩)
theorem RO:cq (b4 RY) H5 Cz=some [(2,2)]:=au
def CB:eh:=(body,[1,1,0],3)
def cx:bs:=[(.bin .eql 34 2 (.pointer none),.bool false)]
theorem RR:hf (c1 149 cx [] CB (b7 CA Cz))=some (12,[2]):=au
abbrev RZ:=c1 149 cx [] CB {sl:=CA,ms:=[],A:=dd Cz}
def CC:List bw:=[]
def H7:aG:=cc [(1,2),(0,.bool false)]
def CD:aG:=fk 149 H7 39 5
theorem H0:cq (b4 RZ) H7 CC=some [(2,2)]:=au
def CE:eh:=(body,[1,1,1,1,0],2)
theorem H6:hf (c1 149 [] [] CE (b7 CD CC))=some (15,[2]):=au
abbrev R1:=c1 149 [] [] CE {sl:=CD,ms:=[],A:=dd CC}
def CF:List bw:=[]
def H8:aG:=cc [(1,2),(0,.bool false)]
def CG:aG:=fk 149 H8 41 6
theorem amM:cq (b4 R1) H8 CF=some [(2,2)]:=au
def CH:eh:=(body,[1,1,1,1,1,0],2)
theorem amN:hf (c1 149 [] [] CH (b7 CG CF))=some (11,[2]):=au
abbrev R3:=c1 149 [] [] CH {sl:=CG,ms:=[],A:=dd CF}
def EC:List bw:=[]
def H9:aG:=cc [(5,6),(1,2),(0,.bool false)]
def ED:aG:=fk 149 H9 43 (.bool true)
theorem R0:cq (b4 R3) H9 EC=some [(2,2),(6,6)]:=au
def EE:eh:=(body,[1,1,1,1,1,1,0],2)
theorem amO:hf (c1 149 [] [] EE (b7 ED EC))=some (29,[6,I 0]):=au
abbrev R7:=c1 149 [] [] EE {sl:=ED,ms:=[],A:=dd EC}
def H':List bw:=[]
def H_:aG:=cc [(44,.bool true),(5,6),(1,2),(0,.bool false)]
def Ez:aG:=fk 149 H_ 46 7
theorem R2:cq (b4 R7) H_ H'=some [(2,2),(6,6)]:=au
def Ia:eh:=(body,[1,1,1,1,1,1,0],5)
abbrev EF:=c1 149 [] [] Ia {sl:=Ez,ms:=[],A:=dd H'}
def CI:List bw:=[]
def EG:aG:=cc [(46,7),(44,.bool true),(5,6),(1,2),(0,.bool false)]
def CJ:aG:=(bR.set 8 depth EG 47).getD .nil
theorem amP:uB EF 0 47=some ([I 15,I 14,I 13,I 12],4,4):=au
theorem R4:cq (b4 EF) EG CI=some [(2,2),(6,6),(7,7)]:=au
theorem R5:bR.set 8 depth EG 47=some CJ:=au
theorem R6:hf ((mq (b7 CJ CI) EF))=some (28,[7,8]):=au
abbrev R_:=(mq {sl:=CJ,ms:=[],A:=dd CI} EF)
def EH:List bw:=[]
def Ib:aG:=cc [(44,.bool true),(5,6),(1,2),(0,.bool false)]
def EI:aG:=fk 149 Ib 48 (.bool true)
theorem amQ:cq (b4 R_) Ib EH=some [(2,2),(6,6)]:=au
def EJ:eh:=(body,[1,1,1,1,1,1,0],7)
theorem amR:hf (c1 149 [] [] EJ (b7 EI EH))=some (29,[6,I 2]):=au
abbrev Sc:=c1 149 [] [] EJ {sl:=EI,ms:=[],A:=dd EH}
def Ih:List bw:=[]
def Bi:aG:=cc [(50,.bool true),(5,6),(1,2),(0,.bool false)]
def Ii:aG:=fk 149 Bi 52 9
theorem R8:cq (b4 Sc) Bi Ih=some [(2,2),(6,6)]:=au
def Ij:eh:=(body,[1,1,1,1,1,1,0],11)
abbrev LO:=c1 149 [] [] Ij {sl:=Ii,ms:=[],A:=dd Ih}
def SP:List bw:=[]
def SQ:aG:=cc [(52,9),(50,.bool true),(5,6),(1,2),(0,.bool false)]
def SR:aG:=(bR.set 10 depth SQ 53).getD .nil
theorem amS:uB LO 0 53=some ([I 10,I 9,I 8,I 7],4,4):=au
theorem amT:cq (b4 LO) SQ SP=some [(2,2),(6,6),(9,9)]:=au
theorem amU:bR.set 10 depth SQ 53=some SR:=au
theorem R':hf ((mq (b7 SR SP) LO))=some (28,[9,10]):=au
abbrev amV:=(mq {sl:=SR,ms:=[],A:=dd SP} LO)
def SS:List bw:=[]
def ab7:aG:=cc [(50,.bool true),(5,6),(1,2),(0,.bool false)]
def SU:aG:=fk 149 ab7 54 (.bool true)
theorem amW:cq (b4 amV) ab7 SS=some [(2,2),(6,6)]:=au
def SV:eh:=(body,[1,1,1,1,1,1,0],13)
theorem Sb:hf (c1 149 [] [] SV (b7 SU SS))=some (29,[6,I 3]):=au
abbrev amX:=c1 149 [] [] SV {sl:=SU,ms:=[],A:=dd SS}
def ab8:List bw:=[]
def ab9:aG:=cc [(56,.bool true),(1,2),(0,.bool false)]
def ab':aG:=fk 149 ab9 58 11
theorem amY:cq (b4 amX) ab9 ab8=some [(2,2)]:=au
def ab_:eh:=(body,[1,1,1,1,1,1,0],17)
abbrev LP:=c1 149 [] [] ab_ {sl:=ab',ms:=[],A:=dd ab8}
def SW:List bw:=[]
def SX:aG:=cc [(58,11),(56,.bool true),(1,2),(0,.bool false)]
def SY:aG:=(bR.set 12 depth SX 59).getD .nil
theorem amZ:uB LP 0 59=some ([I 0,I 15,I 15,I 15],4,4):=au
theorem Sd:cq (b4 LP) SX SW=some [(2,2),(11,11)]:=au
theorem Se:bR.set 12 depth SX 59=some SY:=au
theorem Sf:hf ((mq (b7 SY SW) LP))=some (28,[11,12]):=au
abbrev am0:=(mq {sl:=SY,ms:=[],A:=dd SW} LP)
def SZ:List bw:=[]
def aca:aG:=cc [(56,.bool true),(1,2),(0,.bool false)]
def S0:aG:=fk 149 aca 60 (.bool true)
theorem am1:cq (b4 am0) aca SZ=some [(2,2)]:=au
def S1:eh:=(body,[1,1,1,1,1,1,0],19)
theorem am2:hf (c1 149 [] [] S1 (b7 S0 SZ))=some (18,[2,.agg ⟨[I 0,I 0,I 0]⟩,I 0]):=au
abbrev am3:=c1 149 [] [] S1 {sl:=S0,ms:=[],A:=dd SZ}
def S2:List bw:=[]
def acb:aG:=cc [(6,.bool true),(1,2),(0,.bool false)]
def S3:aG:=fk 149 acb 64 (I 0)
theorem am4:cq (b4 am3) acb S2=some [(2,2)]:=au
def S4:eh:=(body,[1,1,1,1,1,1,1,0],3)
theorem am5:hf (c1 149 [] [] S4 (b7 S3 S2))=some (12,[2]):=au
abbrev am6:=c1 149 [] [] S4 {sl:=S3,ms:=[],A:=dd S2}
def S5:List bw:=[]
def acd:aG:=cc [(7,I 0),(6,.bool true),(1,2),(0,.bool false)]
def S6:aG:=fk 149 acd 66 13
theorem am7:cq (b4 am6) acd S5=some [(2,2)]:=au
def S7:eh:=(body,[1,1,1,1,1,1,1,1,0],2)
theorem am8:hf (c1 149 [] [] S7 (b7 S6 S5))=some (15,[2]):=au
abbrev am9:=c1 149 [] [] S7 {sl:=S6,ms:=[],A:=dd S5}
def LQ:List bw:=[]
def ace:aG:=cc [(8,13),(7,I 0),(6,.bool true),(1,2),(0,.bool false)]
def LR:aG:=fk 149 ace 68 14
theorem am':cq (b4 am9) ace LQ=some [(2,2),(13,13)]:=au
def Iq:eh:=(body,[1,1,1,1,1,1,1,1,1,0],2)
def dz:bs:=[(.bin .gtr 3 13 (I 0),.bool true)]
theorem am_:hf (c1 149 dz [] Iq (b7 LR LQ))=some (29,[14,I 0]):=au
abbrev ana:=c1 149 dz [] Iq {sl:=LR,ms:=[],A:=dd LQ}
def acf:List bw:=[]
def acg:aG:=cc [(75,.bool true),(9,14),(6,.bool true),(1,2),(0,.bool false)]
def ach:aG:=fk 149 acg 77 15
theorem anb:cq (b4 ana) acg acf=some [(2,2),(14,14)]:=au
def aci:eh:=(body,[1,1,1,1,1,1,1,1,1,1,0],9)
abbrev LS:=c1 149 [] [] aci {sl:=ach,ms:=[],A:=dd acf}
def S8:List bw:=[]
def S9:aG:=cc [(77,15),(75,.bool true),(9,14),(6,.bool true),(1,2),(0,.bool false)]
def S':aG:=(bR.set 16 depth S9 78).getD .nil
theorem anc:uB LS 0 78=some ([I 0,I 0,I 0,I 0],4,4):=au
theorem ane:cq (b4 LS) S9 S8=some [(2,2),(14,14),(15,15)]:=au
theorem anf:bR.set 16 depth S9 78=some S':=au
theorem ang:hf ((mq (b7 S' S8) LS))=some (28,[15,16]):=au
abbrev anh:=(mq {sl:=S',ms:=[],A:=dd S8} LS)
def S_:List bw:=[]
def acj:aG:=cc [(75,.bool true),(9,14),(6,.bool true),(1,2),(0,.bool false)]
def Ta:aG:=fk 149 acj 79 (.bool true)
theorem ani:cq (b4 anh) acj S_=some [(2,2),(14,14)]:=au
def Tb:eh:=(body,[1,1,1,1,1,1,1,1,1,1,0],11)
theorem anj:hf (c1 149 [] [] Tb (b7 Ta S_))=some (29,[14,I 3]):=au
abbrev ank:=c1 149 [] [] Tb {sl:=Ta,ms:=[],A:=dd S_}
def ack:List bw:=[]
def acm:aG:=cc [(81,.bool true),(6,.bool true),(1,2),(0,.bool false)]
def acn:aG:=fk 149 acm 83 17
theorem anl:cq (b4 ank) acm ack=some [(2,2)]:=au
def aco:eh:=(body,[1,1,1,1,1,1,1,1,1,1,0],15)
abbrev LU:=c1 149 [] [] aco {sl:=acn,ms:=[],A:=dd ack}
def Tc:List bw:=[]
def Td:aG:=cc [(83,17),(81,.bool true),(6,.bool true),(1,2),(0,.bool false)]
def Te:aG:=(bR.set 18 depth Td 84).getD .nil
theorem anm:uB LU 0 84=some ([I 15,I 15,I 15,I 15],4,4):=au
theorem ann:cq (b4 LU) Td Tc=some [(2,2),(17,17)]:=au
theorem ano:bR.set 18 depth Td 84=some Te:=au
theorem anp:hf ((mq (b7 Te Tc) LU))=some (28,[17,18]):=au
abbrev anq:=(mq {sl:=Te,ms:=[],A:=dd Tc} LU)
def acp:List bw:=[]
def acq:aG:=cc [(81,.bool true),(6,.bool true),(1,2),(0,.bool false)]
def acr:aG:=fk 149 acq 85 (.bool true)
theorem anr:cq (b4 anq) acq acp=some [(2,2)]:=au
def acs:eh:=(body,[1,1,1,1,1,1,1,1,1,1,0],17)
abbrev ic:=c1 149 [] [] acs {sl:=acr,ms:=[],A:=dd acp}
def Tf:List bw:=[]
def Tg:aG:=cc [(95,.agg ⟨[I 0,I 0,I 1]⟩),(94,2),(93,I 0),(90,I 0),(10,.bool true),(6,.bool true),(1,2),(0,.bool false)]
theorem ans:(BS Tryd.prog 149 8 [2,5] [(2,I 0),(5,I 0)] [] ic).isSome=true:=au
theorem ant:cq (BU Tryd.prog 149 8 [2,5] [(2,I 0),(5,I 0)] [] ic) Tg Tf=some [(2,2),(2,2)]:=au
def Th:aG:=match uE 149 (gH ic) [(2,I 0),(5,I 0)] Tg with|some s=>s|none=> .nil
theorem anu:uE 149 (gH ic) [(2,I 0),(5,I 0)] Tg=some Th:=au
theorem anv:D_ Tryd.prog 149 8 [2,5] [(2,I 0),(5,I 0)] [] ic 0 2=some (18,[.inl 2,.inl (.agg ⟨[I 0,I 0,I 1]⟩),.inl (I 3)]):=au
theorem anw:D_ Tryd.prog 149 8 [2,5] [(2,I 0),(5,I 0)] [] ic 1 5=some (19,[.inl 2,.inl (.agg ⟨[I 0,I 0,I 1]⟩),.inl (.bool true)]):=au
theorem anx:hf (Ep 149 [] [] (yD 8 ic) (gH ic) (f_ ic) (b7 Th Tf))=some (18,[2,.agg ⟨[I 0,I 0,I 1]⟩,I 3]):=au
abbrev anz:=Ep 149 [] [] (yD 8 ic) (gH ic) (f_ ic) {sl:=Th,ms:=[],A:=dd Tf}
def Ti:List bw:=[]
def acu:aG:=cc [(93,I 0),(90,I 0),(10,.bool true),(6,.bool true),(1,2),(0,.bool false)]
def Tj:aG:=fk 149 acu 96 (I 16)
theorem anA:cq (b4 anz) acu Ti=some [(2,2)]:=au
def Tk:eh:=(body,[1,1,1,1,1,1,1,1,1,1,1,1,0],9)
theorem anB:hf (c1 149 [] [] Tk (b7 Tj Ti))=some (18,[2,.agg ⟨[I 0,I 0,I 4]⟩,I 0]):=au
abbrev anC:=c1 149 [] [] Tk {sl:=Tj,ms:=[],A:=dd Ti}
def Tl:List bw:=[]
def acv:aG:=cc [(14,I 16),(13,I 0),(12,I 0),(10,.bool true),(6,.bool true),(1,2),(0,.bool false)]
def Tm:aG:=fk 149 acv 99 (I 1)
theorem anD:cq (b4 anC) acv Tl=some [(2,2)]:=au
def Tn:eh:=(body,[1,1,1,1,1,1,1,1,1,1,1,1,1,0],3)
theorem anE:hf (c1 149 [] [] Tn (b7 Tm Tl))=some (11,[2]):=au
abbrev anF:=c1 149 [] [] Tn {sl:=Tm,ms:=[],A:=dd Tl}
def Tp:List bw:=[]
def acw:aG:=cc [(120,.bool true),(1,2),(0,.bool false)]
def Tq:aG:=fk 149 acw 122 (.bool false)
theorem anG:cq (b4 anF) acw Tp=some [(2,2)]:=au
def Tr:eh:=(body,[1,1,1,1,1,1,1,1,1,1,1,1,1,1,0],23)
theorem anH:hf (c1 149 [] [] Tr (b7 Tq Tp))=some (10,[2,I 1]):=au
abbrev anI:=c1 149 [] [] Tr {sl:=Tq,ms:=[],A:=dd Tp}
def Ts:List bw:=[]
def acx:aG:=cc [(130,.bool true),(1,2),(0,.bool false)]
def Tt:aG:=fk 149 acx 132 (I 1)
theorem anJ:cq (b4 anI) acx Ts=some [(2,2)]:=au
def Tu:eh:=(body,[1,1,1,1,1,1,1,1,1,1,1,1,1,1,0],33)
theorem anK:hf (c1 149 [] [] Tu (b7 Tt Ts))=some (17,[2]):=au
abbrev anL:=c1 149 [] [] Tu {sl:=Tt,ms:=[],A:=dd Ts}
def LV:List bw:=[]
def acy:aG:=cc [(135,.bool true),(1,2),(0,.bool false)]
def LW:aG:=fk 149 acy 137 19
theorem anM:cq (b4 anL) acy LV=some [(2,2)]:=au
def Ir:eh:=(body,[1,1,1,1,1,1,1,1,1,1,1,1,1,1,0],38)
def et:bs:=[(.len #[30] 3 19,20),
 (.bin .eql 3 20 (I 4),.bool true)]
theorem anN:hf (c1 149 et [] Ir (b7 LW LV))=some (22,[2]):=au
abbrev anO:=c1 149 et [] Ir {sl:=LW,ms:=[],A:=dd LV}
def Tv:List bw:=[]
def acz:aG:=cc [(141,.bool true),(0,.bool false)]
def Tw:aG:=fk 149 acz 143 (.agg ⟨[22,23,24,25,26,27,21]⟩)
theorem anP:cq (b4 anO) acz Tv=some []:=au
def LX:eh:=(body,[1,1,1,1,1,1,1,1,1,1,1,1,1,1,0],44)
def gf:bs:=[(.dC 26 21 (I 1),28),
 (.bF 3 28,29),
 (.bin .eql 3 29 (I 3),.bool true)]
theorem anQ:bN (c1 149 gf [] LX (b7 Tw Tv))=some (.bool true):=au
def hq:bs:=[(.dC 26 21 (I 1),28),
 (.bF 3 28,29),
 (.bin .eql 3 29 (I 3),.bool false)]
theorem anR:bN (c1 149 hq [] LX (b7 Tw Tv))=some (.bool false):=au
def l8:bs:=[(.len #[30] 3 19,20),
 (.bin .eql 3 20 (I 4),.bool false)]
theorem anS:bN (c1 149 l8 [] Ir (b7 LW LV))=some (.bool false):=au
def nX:bs:=[(.bin .gtr 3 13 (I 0),.bool false)]
abbrev u1:=c1 149 nX [] Iq {sl:=LR,ms:=[],A:=dd LQ}
def Tx:List bw:=[]
def Ty:aG:=cc [(95,.agg ⟨[I 0,I 0,I 1]⟩),(94,2),(93,I 0),(90,I 0),(10,.bool false),(6,.bool true),(1,2),(0,.bool false)]
theorem anT:(BS Tryd.prog 149 8 [2,5] [(2,I 0),(5,I 0)] [] u1).isSome=true:=au
theorem anU:cq (BU Tryd.prog 149 8 [2,5] [(2,I 0),(5,I 0)] [] u1) Ty Tx=some [(2,2),(2,2)]:=au
def Tz:aG:=match uE 149 (gH u1) [(2,I 0),(5,I 0)] Ty with|some s=>s|none=> .nil
theorem anV:uE 149 (gH u1) [(2,I 0),(5,I 0)] Ty=some Tz:=au
theorem anW:D_ Tryd.prog 149 8 [2,5] [(2,I 0),(5,I 0)] [] u1 0 2=some (18,[.inl 2,.inl (.agg ⟨[I 0,I 0,I 1]⟩),.inl (I 3)]):=au
theorem anX:D_ Tryd.prog 149 8 [2,5] [(2,I 0),(5,I 0)] [] u1 1 5=some (19,[.inl 2,.inl (.agg ⟨[I 0,I 0,I 1]⟩),.inl (.bool true)]):=au
theorem anY:hf (Ep 149 [] [] (yD 8 u1) (gH u1) (f_ u1) (b7 Tz Tx))=some (18,[2,.agg ⟨[I 0,I 0,I 1]⟩,I 3]):=au
abbrev anZ:=Ep 149 [] [] (yD 8 u1) (gH u1) (f_ u1) {sl:=Tz,ms:=[],A:=dd Tx}
def TA:List bw:=[]
def acA:aG:=cc [(93,I 0),(90,I 0),(10,.bool false),(6,.bool true),(1,2),(0,.bool false)]
def TB:aG:=fk 149 acA 96 (I 16)
theorem an0:cq (b4 anZ) acA TA=some [(2,2)]:=au
def TC:eh:=(body,[1,1,1,1,1,1,1,1,1,1,1,1,0],9)
theorem an1:hf (c1 149 [] [] TC (b7 TB TA))=some (18,[2,.agg ⟨[I 0,I 0,I 4]⟩,I 0]):=au
abbrev an2:=c1 149 [] [] TC {sl:=TB,ms:=[],A:=dd TA}
def acB:List bw:=[]
def acC:aG:=cc [(14,I 16),(13,I 0),(12,I 0),(10,.bool false),(6,.bool true),(1,2),(0,.bool false)]
def acD:aG:=fk 149 acC 99 (I 1)
theorem an3:cq (b4 an2) acC acB=some [(2,2)]:=au
def acE:eh:=(body,[1,1,1,1,1,1,1,1,1,1,1,1,1,0],3)
theorem an4:bN (c1 149 [] [] acE (b7 acD acB))=some (.bool false):=au
@[reducible] noncomputable def bJ (e4:Nat:=0) (g1:Nat:=0) (ef:Nat:=0) (g3:Nat:=0) (g4:Nat:=0) (iz:c6:=none) (iA:Nat:=0) (jS:c6:=none) (jT:Nat:=0) (k_:Nat:=0) (lP:c6:=none) (lQ:Nat:=0) (mb:Nat:=0) (ni:c6:=none) (nj:Nat:=0) (nD:Nat:=0) (pF:c6:=none) (pG:Nat:=0) (sB:c6:=none) (sC:Nat:=0) (tN:Nat:=0) (wy:c6:=none) (wz:Nat:=0) (xH:Nat:=0) (TD:c6:=none) (TE:Nat:=0) (TF:c6:=none) (TG:Nat:=0):List J:=[.slice (some ⟨e4,0,none⟩) 9 9,.slice (some ⟨g1,0,none⟩) 4 4,gT ef 0,.slice (some ⟨g3,0,none⟩) 9 9,.slice (some ⟨g4,0,none⟩) 4 4,I (((uZ zs):Nat):Int),bA iz sA.u.aH iA,.slice jS [15,14,13,12].length jT,.slice (some ⟨k_,0,none⟩) 4 4,.slice lP [10,9,8,7].length lQ,.slice (some ⟨mb,0,none⟩) 4 4,.slice ni [0,15,15,15].length nj,.slice (some ⟨nD,0,none⟩) 4 4,I (((uZ EX):Nat):Int),bA pF nC.u.aH pG,.slice sB [0,0,0,0].length sC,.slice (some ⟨tN,0,none⟩) 4 4,.slice wy [15,15,15,15].length wz,.slice (some ⟨xH,0,none⟩) 4 4,bA TD qR.known TE,I ((qR.known.length:Nat):Int),bA TF qR.cells TG,I wu.1,I wu.2.1,I wu.2.2.1,I wu.2.2.2.1,I wu.2.2.2.2.1,I wu.2.2.2.2.2,hW (bA TF qR.cells TG) (1*1),I (qR.cells.getD (1) default)]
theorem any (W:ax) (bS:mn (aF W)):Calls Tryd.prog 8 #[] W λe w'=>e= .returned (.bool true)/\cb W.heap.size W w':=by
 refine @Zd (aS (aF W) bJ) _ _ _ _ body a8 N [] (Ob W _) Tryd.func8 (λa ah=> ?_) au au au au;letI:=cg ah;have aN:=bH.qA W;refine bK [] [] aX aY ?_ ah;refine xc (enc:=jf) (xs:=[(([97,105,114]:fy),false,false,false,1,0,0,0),(([115,116,111,110,101]:fy),true,false,false,16,0,0,0),(([103,108,97,115,115]:fy),true,false,false,1,0,0,0),(([108,97,109,112]:fy),true,false,false,16,15,14,10),(([115,97,110,100]:fy),true,false,true,16,0,0,0),(([119,97,116,101,114]:fy),false,true,false,3,0,0,0),(([108,101,97,118,101,115]:fy),true,false,false,2,0,0,0),(([101,109,98,101,114]:fy),true,false,false,16,9,3,0),(([102,111,103]:fy),false,false,false,2,0,0,0)]) (q:=0) (bh:=λhP=>(bJ hP)) e0 JY rfl cz cz U U (gv rfl) e1 (λ_ _=>zM) e2 (λ_=>rfl) ?_;intro j9 e4 TH apZ an5 lo fq;have dA:=aN.new (uC TH an5 lo fq);letI:=cg ah;refine XV (enc:=ga) (xs:=[3,0,0,0]) (q:=1) (lI:=6) (bh:=λhP=>(bJ e4 hP)) dn l0 rfl cz cz U U (gv rfl) hU (λ_ _=>gb) kG (λ_=>rfl) ?_;intro pv g1 ug sP RW rB jb;have jR:=dA.new (uC ug RW rB jb);letI:=cg ah;refine hH (Y:=Nat×de) (bh:=λa6=>(bJ e4 g1 (a6.1))) jR [1,0] (λa6=>[_,_]) (λa6=>[c7 (a6.1) (a6.2) zs]) jP p4 (eP iC (.tuple ⟨[2,I 0]⟩)) (fI:=λw hw cC aw=>ab5 aw (cells:=[3,0,0,0]) (b:=wu) (table:=Il) (known:=[]) (aw.red 0 rfl) (aw.red 1 rfl) (cu.nil _ _) (bS.mono λi o h=>hw i o (jR.ext i o h)) cz rfl cz cz abW) (rest:= ?_);intro oR ⟨ef,ap0⟩ lp dN w ah;replace lp:=lp.yV;letI:=cg ah;refine ep (er kj) [] [] aX aY ?_ ah;refine xc (enc:=jf) (xs:=[(([97,105,114]:fy),false,false,false,1,0,0,0),(([115,116,111,110,101]:fy),true,false,false,16,0,0,0),(([103,108,97,115,115]:fy),true,false,false,1,0,0,0),(([108,97,109,112]:fy),true,false,false,16,15,14,10),(([115,97,110,100]:fy),true,false,true,16,0,0,0),(([119,97,116,101,114]:fy),false,true,false,3,0,0,0),(([108,101,97,118,101,115]:fy),true,false,false,2,0,0,0),(([101,109,98,101,114]:fy),true,false,false,16,9,3,0),(([102,111,103]:fy),false,false,false,2,0,0,0)]) (q:=3) (bh:=λhP=>(bJ e4 g1 ef hP)) HL JY rfl cz cz U U (gv rfl) HM (λ_ _=>gb) Cr (λ_=>rfl) ?_;intro Ru g3 an6 ap1 an7 Sj Ro;have ow:=lp.new (uC an6 an7 Sj Ro);letI:=cg ah;refine XV (enc:=ga) (xs:=[3,0,0,0]) (q:=4) (lI:=6) (bh:=λhP=>(bJ e4 g1 ef g3 hP)) HX l0 rfl cz cz U U (gv rfl) tE (λ_ _=>gb) Cw (λ_=>rfl) ?_;intro Lp g4 Sk al3 Sl Cq Sm;have o5:=ow.new (uC Sk Sl Cq Sm);letI:=cg ah;refine hH (Y:=Unit) (bh:=λa6=>(bJ e4 g1 ef g3 g4)) o5 [4,3] (λ_=>[_,_]) (λ_=>[]) HY RO (eP CA (.tuple ⟨[.pointer none,I 1]⟩)) (fI:=λw hw cC aw=>SO aw (cells:=[3,0,0,0]) (b:=wu) (table:=Il) (known:=[]) (aw.red 0 rfl) (aw.red 1 rfl) (cu.nil _ _) (bS.mono λi o h=>hw i o (o5.ext i o h)) cz rfl cz cz amv) (rest:= ?_);intro Sp _ uX dN w ah;replace uX:=uX.Hp;letI:=cg ah;refine ep (er CB) cx [] (ai (aT.X0 rfl au rfl) aX) aY ?_ ah;refine hH (Y:=de) (bh:=λa6=>(bJ e4 g1 ef g3 g4)) uX [2] (λa6=>[c7 ef (a6) sA]) (λ_=>[]) RR H0 (eP CD 5) (fI:=λw hw cC aw=>LN aw SH U U) (rest:= ?_);intro Sq ap2 tM dN w ah;replace tM:=tM.Hp;letI:=cg ah;refine ep (er CE) [] [] aX aY ?_ ah;refine hH (Y:=dY) (bh:=λa6=>(bJ e4 g1 ef g3 g4 a6.1 a6.2)) tM [2] (λa6=>[_]) (λa6=>[Ao a6.1 sA.u.aH a6.2]) H6 amM (eP CG 6) (fI:=λw hw cC aw=>LA _ aw (by rw[LL];decide)) (rest:= ?_);intro al6 ⟨iz,iA⟩ AK dN w ah;replace AK:=AK.Ze;letI:=cg ah;refine ep (er CH) [] [] aX aY ?_ ah;refine hH (Y:=Unit) (bh:=λa6=>(bJ e4 g1 ef g3 g4 iz iA)) AK [2] (λ_=>[_]) (λ_=>[]) amN R0 (eP ED (.bool true)) (fI:=λw hw cC aw=>amK aw amB) (rest:= ?_);intro abu _ CK dN w ah;replace CK:=CK.Ze;letI:=cg ah;refine ep (er EE) [] [] aX aY ?_ ah;refine hH (Y:=dY) (bh:=λa6=>(bJ e4 g1 ef g3 g4 iz iA a6.1 a6.2)) CK [5] (λa6=>[_]) (λa6=>[h2 lE 1 ga (.slice a6.1 [15,14,13,12].length a6.2) [15,14,13,12]]) amO R2 (eP Ez 7) (fI:=λw hw cC aw=>Ip amD aw (SF.any _ ((aw.arr 0 rfl).arr yG) (by rw[LL];decide))) (rest:= ?_);intro abw ⟨jS,jT⟩ CL dN w ah;replace CL:=CL.ajR;letI:=cg ah;refine ep (er Ia) [] [] aX aY ?_ ah;refine xc (enc:=ga) (xs:=[15,14,13,12]) (q:=8) (bh:=λhP=>(bJ e4 g1 ef g3 g4 iz iA jS jT hP)) amP l0 rfl cz cz U U (gv rfl) R4 (λ_ _=>gb) R5 (λ_=>rfl) ?_;intro ap3 k_ an8 ap4 an9 an' an_;have aoa:=CL.new (uC an8 an9 an' an_);letI:=cg ah;refine hH (Y:=Unit) (bh:=λa6=>(bJ e4 g1 ef g3 g4 iz iA jS jT k_)) aoa [6,7] (λ_=>[_,_]) (λ_=>[]) R6 amQ (eP EI (.bool true)) (fI:=λw hw cC aw=>Ea aw (EY (EW.any _ ((aw.arr 0 rfl).arr l0) (aw.red 1 rfl) cz) rfl)) (rest:= ?_);intro ap5 _ TI dN w ah;replace TI:=TI.ajS;letI:=cg ah;refine ep (er EJ) [] [] aX aY ?_ ah;refine hH (Y:=dY) (bh:=λa6=>(bJ e4 g1 ef g3 g4 iz iA jS jT k_ a6.1 a6.2)) TI [5] (λa6=>[_]) (λa6=>[h2 lE 1 ga (.slice a6.1 [10,9,8,7].length a6.2) [10,9,8,7]]) amR R8 (eP Ii 9) (fI:=λw hw cC aw=>Ip amE aw (abV.any _ ((aw.arr 0 rfl).arr yG) (by rw[LL];decide))) (rest:= ?_);intro ap6 ⟨lP,lQ⟩ TJ dN w ah;replace TJ:=TJ.ajT;letI:=cg ah;refine ep (er Ij) [] [] aX aY ?_ ah;refine xc (enc:=ga) (xs:=[10,9,8,7]) (q:=10) (bh:=λhP=>(bJ e4 g1 ef g3 g4 iz iA jS jT k_ lP lQ hP)) amS l0 rfl cz cz U U (gv rfl) amT (λ_ _=>gb) amU (λ_=>rfl) ?_;intro ap7 mb aob ap8 aoc aod aoe;have aof:=TJ.new (uC aob aoc aod aoe);letI:=cg ah;refine hH (Y:=Unit) (bh:=λa6=>(bJ e4 g1 ef g3 g4 iz iA jS jT k_ lP lQ mb)) aof [8,9] (λ_=>[_,_]) (λ_=>[]) R' amW (eP SU (.bool true)) (fI:=λw hw cC aw=>Ea aw (EY (EW.any _ ((aw.arr 0 rfl).arr l0) (aw.red 1 rfl) cz) rfl)) (rest:= ?_);intro ap9 _ TK dN w ah;replace TK:=TK.Zf;letI:=cg ah;refine ep (er SV) [] [] aX aY ?_ ah;refine hH (Y:=dY) (bh:=λa6=>(bJ e4 g1 ef g3 g4 iz iA jS jT k_ lP lQ mb a6.1 a6.2)) TK [5] (λa6=>[_]) (λa6=>[h2 lE 1 ga (.slice a6.1 [0,15,15,15].length a6.2) [0,15,15,15]]) Sb amY (eP ab' 11) (fI:=λw hw cC aw=>Ip amF aw (SG.any _ ((aw.arr 0 rfl).arr yG) (by rw[LL];decide))) (rest:= ?_);intro ap' ⟨ni,nj⟩ TL dN w ah;replace TL:=TL.QY;letI:=cg ah;refine ep (er ab_) [] [] aX aY ?_ ah;refine xc (enc:=ga) (xs:=[0,15,15,15]) (q:=12) (bh:=λhP=>(bJ e4 g1 ef g3 g4 iz iA jS jT k_ lP lQ mb ni nj hP)) amZ l0 rfl cz cz U U (gv rfl) Sd (λ_ _=>gb) Se (λ_=>rfl) ?_;intro ap_ nD aog aqa aoh aoi aoj;have aok:=TL.new (uC aog aoh aoi aoj);letI:=cg ah;refine hH (Y:=Unit) (bh:=λa6=>(bJ e4 g1 ef g3 g4 iz iA jS jT k_ lP lQ mb ni nj nD)) aok [10,11] (λ_=>[_,_]) (λ_=>[]) Sf am1 (eP S0 (.bool true)) (fI:=λw hw cC aw=>Ea aw (EY (EW.any _ ((aw.arr 0 rfl).arr l0) (aw.red 1 rfl) cz) rfl)) (rest:= ?_);intro aqb _ TM dN w ah;replace TM:=TM.Cb;letI:=cg ah;refine ep (er S1) [] [] aX aY ?_ ah;refine hH (Y:=de) (bh:=λa6=>(bJ e4 g1 ef g3 g4 iz iA jS jT k_ lP lQ mb ni nj nD)) TM [2] (λa6=>[c7 ef (a6) EX]) (λ_=>[]) am2 am4 (eP S3 (I 0)) (fI:=λw hw cC aw=>CN aw (p:=(0,0,0)) abX rfl amx) (rest:= ?_);intro aqc aqd TN dN w ah;replace TN:=TN.Cb;letI:=cg ah;refine ep (er S4) [] [] aX aY ?_ ah;refine hH (Y:=de) (bh:=λa6=>(bJ e4 g1 ef g3 g4 iz iA jS jT k_ lP lQ mb ni nj nD)) TN [2] (λa6=>[c7 ef (a6) nC]) (λ_=>[]) am5 am7 (eP S6 13) (fI:=λw hw cC aw=>LN aw abY U U) (rest:= ?_);intro aqe xI TO dN w ah;replace TO:=TO.Cb;letI:=cg ah;refine ep (er S7) [] [] aX aY ?_ ah;refine hH (Y:=dY) (bh:=λa6=>(bJ e4 g1 ef g3 g4 iz iA jS jT k_ lP lQ mb ni nj nD a6.1 a6.2)) TO [2] (λa6=>[_]) (λa6=>[Ao a6.1 nC.u.aH a6.2]) am8 am' (eP LR 14) (fI:=λw hw cC aw=>LA _ aw (by rw[SK];decide)) (rest:= ?_);intro aqf ⟨pF,pG⟩ Is dN w ah;replace Is:=Is.Et;letI:=cg ah;by_cases z0:0<(((uZ EX):Nat):Int)
 ·refine ep (er Iq) dz [] (ai bC aX) aY ?_ ah
  refine hH (Y:=dY) (bh:=λa6=>(bJ e4 g1 ef g3 g4 iz iA jS jT k_ lP lQ mb ni nj nD pF pG a6.1 a6.2)) Is [12] (λa6=>[_]) (λa6=>[h2 lE 1 ga (.slice a6.1 [0,0,0,0].length a6.2) [0,0,0,0]]) am_ anb (eP ach 15) (fI:=λw hw cC aw=>Ip amG aw (SF.any _ ((aw.arr 0 rfl).arr yG) (by rw[SK];decide))) (rest:= ?_);intro aol ⟨sB,sC⟩ CO dN w ah;replace CO:=CO.QZ;letI:=cg ah;refine ep (er aci) [] [] aX aY ?_ ah;refine xc (enc:=ga) (xs:=[0,0,0,0]) (q:=16) (bh:=λhP=>(bJ e4 g1 ef g3 g4 iz iA jS jT k_ lP lQ mb ni nj nD pF pG sB sC hP)) anc l0 rfl cz cz U U (gv rfl) ane (λ_ _=>gb) anf (λ_=>rfl) ?_;intro aqg tN aom aqh aon aoo aop;have aoq:=CO.new (uC aom aon aoo aop);letI:=cg ah;refine hH (Y:=Unit) (bh:=λa6=>(bJ e4 g1 ef g3 g4 iz iA jS jT k_ lP lQ mb ni nj nD pF pG sB sC tN)) aoq [13,14] (λ_=>[_,_]) (λ_=>[]) ang ani (eP Ta (.bool true)) (fI:=λw hw cC aw=>Ea aw (EY (EW.any _ ((aw.arr 0 rfl).arr l0) (aw.red 1 rfl) cz) rfl)) (rest:= ?_);intro aor _ CP dN w ah;replace CP:=CP.ajU;letI:=cg ah;refine ep (er Tb) [] [] aX aY ?_ ah;refine hH (Y:=dY) (bh:=λa6=>(bJ e4 g1 ef g3 g4 iz iA jS jT k_ lP lQ mb ni nj nD pF pG sB sC tN a6.1 a6.2)) CP [12] (λa6=>[_]) (λa6=>[h2 lE 1 ga (.slice a6.1 [15,15,15,15].length a6.2) [15,15,15,15]]) anj anl (eP acn 17) (fI:=λw hw cC aw=>Ip amH aw (SG.any _ ((aw.arr 0 rfl).arr yG) (by rw[SK];decide))) (rest:= ?_);intro aos ⟨wy,wz⟩ EZ dN w ah;replace EZ:=EZ.ajV;letI:=cg ah;refine ep (er aco) [] [] aX aY ?_ ah;refine xc (enc:=ga) (xs:=[15,15,15,15]) (q:=18) (bh:=λhP=>(bJ e4 g1 ef g3 g4 iz iA jS jT k_ lP lQ mb ni nj nD pF pG sB sC tN wy wz hP)) anm l0 rfl cz cz U U (gv rfl) ann (λ_ _=>gb) ano (λ_=>rfl) ?_;intro aqi xH aot aqj aou aov aow;have aox:=EZ.new (uC aot aou aov aow);letI:=cg ah;refine hH (Y:=Unit) (bh:=λa6=>(bJ e4 g1 ef g3 g4 iz iA jS jT k_ lP lQ mb ni nj nD pF pG sB sC tN wy wz xH)) aox [15,16] (λ_=>[_,_]) (λ_=>[]) anp anr (eP acr (.bool true)) (fI:=λw hw cC aw=>Ea aw (EY (EW.any _ ((aw.arr 0 rfl).arr l0) (aw.red 1 rfl) cz) rfl)) (rest:= ?_);intro aqk _ LY dN w ah;replace LY:=LY.Eu;letI:=cg ah;refine ep (er acs) [] [] aX aY ?_ ah;refine X1 (Y:=de×de) (bh:=λa6=>(bJ e4 g1 ef g3 g4 iz iA jS jT k_ lP lQ mb ni nj nD pF pG sB sC tN wy wz xH)) (m:=8) (dp:=[(2,I 0),(5,I 0)]) (cs:=[(2,I 0),(5,I 0)]) (kv:=[]) (cd:=[2,5]) (L:=(λgL a6=>bif Nat.beq gL 0 then [c7 ef xI nC] else bif Nat.beq gL 1 then [c7 ef (a6.1) oC] else bif Nat.beq gL 2 then [c7 ef (a6.2) jU] else [])) (rv:=(λgL a6=>bif Nat.beq gL 0 then I 0 else bif Nat.beq gL 1 then I 0 else .bool false)) (b3:=[c7 ef xI nC]) LY [2] U U U mixed ans cz (default,default) rfl (kg.cons (KI (rv:=(λgL a6=>bif Nat.beq gL 0 then I 0 else bif Nat.beq gL 1 then I 0 else .bool false)) (k:=0) (u:=I 0) U U (λ_=>rfl)) (kg.cons (KI (rv:=(λgL a6=>bif Nat.beq gL 0 then I 0 else bif Nat.beq gL 1 then I 0 else .bool false)) (k:=1) (u:=I 0) U U (λ_=>rfl)) kg.nil)) uI.nil (kg.cons (xh.KF anv rfl (λw a6 bn cC yI=>by have jD:cv (aF w) [c7 ef xI nC]:=yI;exact KG (rv:=(λgL a6=>bif Nat.beq gL 0 then I 0 else bif Nat.beq gL 1 then I 0 else .bool false)) (k:=0) (y:=a6) (si:=(λgL a6=>bif Nat.beq gL 0 then [c7 ef xI nC] else bif Nat.beq gL 1 then [c7 ef (a6.1) oC] else bif Nat.beq gL 2 then [c7 ef (a6.2) jU] else []) (0+1)) jD [0] U U (λhQ=>[c7 ef (hQ) oC]) (λhQ=>[]) (λhQ=>[c7 ef (hQ) oC]) (λ_=>rfl) (λ_=>rfl) (λhQ=>(hQ,a6.2)) (λ_=>rfl) (λ_=>rfl) (λhQ=>KH) (show Calls _ _ _ _ λbN wA=>(∃hQ:de,bN= .returned (I 0)/\c5 (aF w) _ (aF wA) ([c7 ef (hQ) oC]))/\cb 0 w wA from CN (jD.pick [0] rfl) (p:=(0,0,1)) SI rfl abZ))) (kg.cons (xh.KF anw rfl (λw a6 bn cC yI=>by have jD:cv (aF w) [c7 ef (a6.1) oC]:=yI;exact KG (rv:=(λgL a6=>bif Nat.beq gL 0 then I 0 else bif Nat.beq gL 1 then I 0 else .bool false)) (k:=1) (y:=a6) (si:=(λgL a6=>bif Nat.beq gL 0 then [c7 ef xI nC] else bif Nat.beq gL 1 then [c7 ef (a6.1) oC] else bif Nat.beq gL 2 then [c7 ef (a6.2) jU] else []) (1+1)) jD [0] U U (λhQ=>[c7 ef (hQ) jU]) (λhQ=>[]) (λhQ=>[c7 ef (hQ) jU]) (λ_=>rfl) (λ_=>rfl) (λhQ=>(a6.1,hQ)) (λ_=>rfl) (λ_=>rfl) (λhQ=>(XZ KH rfl)) (show Calls _ _ _ _ λbN wA=>(∃hQ:de,bN= .returned (I 0)/\c5 (aF w) _ (aF wA) ([c7 ef (hQ) jU]))/\cb 0 w wA from ab4 (jD.pick [0] rfl) (p:=(0,0,1)) SJ rfl ab0))) kg.nil)) ant anu rfl (λa6 M'=>(kg.cons rfl (kg.cons rfl kg.nil))) (λ_ _=>gb) ?_;intro⟨aql,aoy⟩ aqm aoz dN w ah;have TP:=LY.put (L':=[c7 ef aoy jU]) (N:=[]) [2] U U aoz;replace TP:=TP.Eu;letI:=cg ah;refine FX (F:=[]) (T:=[]) (bm:=1000) (d:=10) mixed aX aY ?_ ah;refine hH (Y:=de) (bh:=λa6=>(bJ e4 g1 ef g3 g4 iz iA jS jT k_ lP lQ mb ni nj nD pF pG sB sC tN wy wz xH)) TP [2] (λa6=>[c7 ef (a6) jU]) (λ_=>[]) anx anA (eP Tj (I 16)) (fI:=λw hw cC aw=>CN aw (p:=(0,0,1)) Io ab1 SL) (rest:= ?_);intro aqn aqo TQ dN w ah;replace TQ:=TQ.Eu;letI:=cg ah;refine ep (er Tk) [] [] aX aY ?_ ah;refine hH (Y:=de) (bh:=λa6=>(bJ e4 g1 ef g3 g4 iz iA jS jT k_ lP lQ mb ni nj nD pF pG sB sC tN wy wz xH)) TQ [2] (λa6=>[c7 ef (a6) jU]) (λ_=>[]) anB anD (eP Tm (I 1)) (fI:=λw hw cC aw=>CN aw (p:=(0,0,4)) Io ab2 SM) (rest:= ?_);intro aqp aqq TR dN w ah;replace TR:=TR.Eu;letI:=cg ah;refine ep (er Tn) [] [] aX aY ?_ ah;refine hH (Y:=Unit) (bh:=λa6=>(bJ e4 g1 ef g3 g4 iz iA jS jT k_ lP lQ mb ni nj nD pF pG sB sC tN wy wz xH)) TR [2] (λ_=>[_]) (λ_=>[]) anE anG (eP Tq (.bool false)) (fI:=λw hw cC aw=>amL aw amC) (rest:= ?_);intro aqr _ TS dN w ah;replace TS:=TS.Eu;letI:=cg ah;refine ep (er Tr) [] [] aX aY ?_ ah;refine hH (Y:=de) (bh:=λa6=>(bJ e4 g1 ef g3 g4 iz iA jS jT k_ lP lQ mb ni nj nD pF pG sB sC tN wy wz xH)) TS [2] (λa6=>[c7 ef (a6) qR]) (λ_=>[]) anH anJ (eP Tt (I 1)) (fI:=λw hw cC aw=>amJ aw Io rfl (by rw[amI];rfl)) (rest:= ?_);intro aqs aqt TT dN w ah;replace TT:=TT.Eu;letI:=cg ah;refine ep (er Tu) [] [] aX aY ?_ ah;refine hH (Y:=dY) (bh:=λa6=>(bJ e4 g1 ef g3 g4 iz iA jS jT k_ lP lQ mb ni nj nD pF pG sB sC tN wy wz xH a6.1 a6.2)) TT [2] (λa6=>[_]) (λa6=>[tz a6.1 qR.known a6.2]) anK anM (eP LW 19) (fI:=λw hw cC aw=>amb _ aw (by rw[LM];decide)) (rest:= ?_);intro aqu ⟨TD,TE⟩ Iu dN w ah;replace Iu:=Iu.ajW;letI:=cg ah;by_cases z0:((qR.known.length:Nat):Int)=4
  ·refine ep (er Ir) et [] (ai (eT ((Iu.arr 17 rfl).arr l4) nv) (ai bC aX)) aY ?_ ah
   have aqv:qR.cells.length=4:=by exact ab3
   refine hH (Y:=dY) (bh:=λa6=>(bJ e4 g1 ef g3 g4 iz iA jS jT k_ lP lQ mb ni nj nD pF pG sB sC tN wy wz xH TD TE a6.1 a6.2)) Iu [2] (λa6=>[_]) (λa6=>[qa a6.1 qR.cells a6.2]) anN anP (eP Tw (.agg ⟨[22,23,24,25,26,27,21]⟩)) (fI:=λw hw cC aw=>Sv _ aw (by rw[ab3];decide)) (rest:= ?_);intro aqw ⟨TF,TG⟩ E0 dN w ah;replace E0:=E0.ajX;letI:=cg ah;by_cases z0:(qR.cells.getD (1) default)=3
   ·refine ep (er LX) gf [] (ai (Am ((E0.arr 18 rfl).arr l0) (show 1<qR.cells.length by omega) iK yt) (ai (tw 0 ((E0.arr 18 rfl).arr l0) (nb 1) yu) (ai bC aX))) aY ?_ ah
    exact bP anQ λw2 br=>(by rfl)
   ·refine ep (er LX) hq [] (ai (Am ((E0.arr 18 rfl).arr l0) (show 1<qR.cells.length by omega) iK yt) (ai (tw 0 ((E0.arr 18 rfl).arr l0) (nb 1) yu) (ai bf aX))) aY ?_ ah
    exact bP anR λw2 br=>(by (exfalso;have acF:=n2;have Lz:=LM;have Rz:=SN;omega))
  ·refine ep (er Ir) l8 [] (ai (eT ((Iu.arr 17 rfl).arr l4) nv) (ai bf aX)) aY ?_ ah
   exact bP anS λw2 br=>(by (exfalso;have acF:=n2;have Lz:=LM;have Rz:=SN;omega))
 ·refine ep (er Iq) nX [] (ai bf aX) aY ?_ ah
  refine X1 (Y:=de×de) (bh:=λa6=>(bJ e4 g1 ef g3 g4 iz iA jS jT k_ lP lQ mb ni nj nD pF pG none 0 0 none 0 0 none 0 none 0)) (m:=8) (dp:=[(2,I 0),(5,I 0)]) (cs:=[(2,I 0),(5,I 0)]) (kv:=[]) (cd:=[2,5]) (L:=(λgL a6=>bif Nat.beq gL 0 then [c7 ef xI nC] else bif Nat.beq gL 1 then [c7 ef (a6.1) oC] else bif Nat.beq gL 2 then [c7 ef (a6.2) jU] else [])) (rv:=(λgL a6=>bif Nat.beq gL 0 then I 0 else bif Nat.beq gL 1 then I 0 else .bool false)) (b3:=[c7 ef xI nC]) Is [2] U U U mixed anT cz (default,default) rfl (kg.cons (KI (rv:=(λgL a6=>bif Nat.beq gL 0 then I 0 else bif Nat.beq gL 1 then I 0 else .bool false)) (k:=0) (u:=I 0) U U (λ_=>rfl)) (kg.cons (KI (rv:=(λgL a6=>bif Nat.beq gL 0 then I 0 else bif Nat.beq gL 1 then I 0 else .bool false)) (k:=1) (u:=I 0) U U (λ_=>rfl)) kg.nil)) uI.nil (kg.cons (xh.KF anW rfl (λw a6 bn cC yI=>by have jD:cv (aF w) [c7 ef xI nC]:=yI;exact KG (rv:=(λgL a6=>bif Nat.beq gL 0 then I 0 else bif Nat.beq gL 1 then I 0 else .bool false)) (k:=0) (y:=a6) (si:=(λgL a6=>bif Nat.beq gL 0 then [c7 ef xI nC] else bif Nat.beq gL 1 then [c7 ef (a6.1) oC] else bif Nat.beq gL 2 then [c7 ef (a6.2) jU] else []) (0+1)) jD [0] U U (λhQ=>[c7 ef (hQ) oC]) (λhQ=>[]) (λhQ=>[c7 ef (hQ) oC]) (λ_=>rfl) (λ_=>rfl) (λhQ=>(hQ,a6.2)) (λ_=>rfl) (λ_=>rfl) (λhQ=>KH) (show Calls _ _ _ _ λbN wA=>(∃hQ:de,bN= .returned (I 0)/\c5 (aF w) _ (aF wA) ([c7 ef (hQ) oC]))/\cb 0 w wA from CN (jD.pick [0] rfl) (p:=(0,0,1)) SI rfl abZ))) (kg.cons (xh.KF anX rfl (λw a6 bn cC yI=>by have jD:cv (aF w) [c7 ef (a6.1) oC]:=yI;exact KG (rv:=(λgL a6=>bif Nat.beq gL 0 then I 0 else bif Nat.beq gL 1 then I 0 else .bool false)) (k:=1) (y:=a6) (si:=(λgL a6=>bif Nat.beq gL 0 then [c7 ef xI nC] else bif Nat.beq gL 1 then [c7 ef (a6.1) oC] else bif Nat.beq gL 2 then [c7 ef (a6.2) jU] else []) (1+1)) jD [0] U U (λhQ=>[c7 ef (hQ) jU]) (λhQ=>[]) (λhQ=>[c7 ef (hQ) jU]) (λ_=>rfl) (λ_=>rfl) (λhQ=>(a6.1,hQ)) (λ_=>rfl) (λ_=>rfl) (λhQ=>(XZ KH rfl)) (show Calls _ _ _ _ λbN wA=>(∃hQ:de,bN= .returned (I 0)/\c5 (aF w) _ (aF wA) ([c7 ef (hQ) jU]))/\cb 0 w wA from ab4 (jD.pick [0] rfl) (p:=(0,0,1)) SJ rfl ab0))) kg.nil)) anU anV rfl (λa6 M'=>(kg.cons rfl (kg.cons rfl kg.nil))) (λ_ _=>gb) ?_;intro⟨aqx,aoA⟩ aol aoB dN w ah;have CO:=Is.put (L':=[c7 ef aoA jU]) (N:=[]) [2] U U aoB;replace CO:=CO.Et;letI:=cg ah;refine FX (F:=[]) (T:=[]) (bm:=1000) (d:=10) mixed aX aY ?_ ah;refine hH (Y:=de) (bh:=λa6=>(bJ e4 g1 ef g3 g4 iz iA jS jT k_ lP lQ mb ni nj nD pF pG none 0 0 none 0 0 none 0 none 0)) CO [2] (λa6=>[c7 ef (a6) jU]) (λ_=>[]) anY an0 (eP TB (I 16)) (fI:=λw hw cC aw=>CN aw (p:=(0,0,1)) Io ab1 SL) (rest:= ?_);intro aor aqy CP dN w ah;replace CP:=CP.Et;letI:=cg ah;refine ep (er TC) [] [] aX aY ?_ ah;refine hH (Y:=de) (bh:=λa6=>(bJ e4 g1 ef g3 g4 iz iA jS jT k_ lP lQ mb ni nj nD pF pG none 0 0 none 0 0 none 0 none 0)) CP [2] (λa6=>[c7 ef (a6) jU]) (λ_=>[]) an1 an3 (eP acD (I 1)) (fI:=λw hw cC aw=>CN aw (p:=(0,0,4)) Io ab2 SM) (rest:= ?_);intro aos aqz EZ dN w ah;replace EZ:=EZ.Et;letI:=cg ah;refine ep (er acE) [] [] aX aY ?_ ah;exact bP an4 λw2 br=>(by (exfalso;have acF:=n2;have Lz:=LM;have Rz:=SN;omega))
end ab6
end AE
namespace AE
namespace TU
noncomputable def body:Code:=(Tryd.f13.body).getD .skip
def N:Nat:=33
noncomputable abbrev bN:=gk Tryd.prog Tryd.f13
def a8:b6:={sl:=cc [(1,.agg ⟨[1,2,3,4,5,6]⟩),(0,0)],ms:=[],A:=start}
def cj:bs:=[(.bin .eql 3 1 (I 1),.bool true)]
theorem e0:hf (at' 33 cj [] body a8)=some (18,[0,.agg ⟨[3,4,5]⟩,2]):=au
abbrev hO:=at' 33 cj [] body a8
def eM:List bw:=[]
def eB:aG:=cc [(4,I 0)]
def eS:aG:=fk 33 eB 14 7
theorem dn:cq (kx Tryd.prog hO) eB eM=some []:=au
def e3:eh:=(body,[1,0,1,4,1,2,0],6)
theorem mi:bN (c1 33 [] [] e3 (b7 eS eM))=some 7:=au
def dz:bs:=[(.bin .eql 3 1 (I 1),.bool false),
 (.bin .eql 3 1 (I 2),.bool true)]
theorem p4:hf (at' 33 dz [] body a8)=some (19,[0,.agg ⟨[3,4,5]⟩,6]):=au
abbrev ng:=at' 33 dz [] body a8
def j':List bw:=[]
def jr:aG:=cc [(4,I 0)]
def hN:aG:=fk 33 jr 22 8
theorem o4:cq (kx Tryd.prog ng) jr j'=some []:=au
def ki:eh:=(body,[1,0,1,4,1,3,1,2,0],6)
theorem HX:bN (c1 33 [] [] ki (b7 hN j'))=some 8:=au
def et:bs:=[(.bin .eql 3 1 (I 1),.bool false),
 (.bin .eql 3 1 (I 2),.bool false),
 (.bin .eql 3 1 (I 3),.bool true)]
theorem tE:hf (at' 33 et [] body a8)=some (10,[0,2]):=au
abbrev tC:=at' 33 et [] body a8
def nh:List bw:=[]
def ov:aG:=cc [(4,I 0)]
def iC:aG:=fk 33 ov 28 9
theorem wc:cq (kx Tryd.prog tC) ov nh=some []:=au
def kj:eh:=(body,[1,0,1,4,1,3,1,3,1,2],4)
theorem Cn:bN (c1 33 [] [] kj (b7 iC nh))=some (I 0):=au
def gf:bs:=[(.bin .eql 3 1 (I 1),.bool false),
 (.bin .eql 3 1 (I 2),.bool false),
 (.bin .eql 3 1 (I 3),.bool false),
 (.bin .eql 3 1 (I 4),.bool true)]
theorem Co:hf (at' 33 gf [] body a8)=some (12,[0]):=au
abbrev wb:=at' 33 gf [] body a8
def pD:List bw:=[]
def rA:aG:=cc [(4,I 0)]
def lH:aG:=fk 33 rA 32 10
theorem HZ:cq (kx Tryd.prog wb) rA pD=some []:=au
def qO:eh:=(body,[1,0,1,4,1,3,1,3,1,3,1,2],2)
theorem aoC:bN (c1 33 [] [] qO (b7 lH pD))=some (I 0):=au
def hq:bs:=[(.bin .eql 3 1 (I 1),.bool false),
 (.bin .eql 3 1 (I 2),.bool false),
 (.bin .eql 3 1 (I 3),.bool false),
 (.bin .eql 3 1 (I 4),.bool false)]
theorem H6:bN (at' 33 hq [] body a8)=some (I 0):=au
@[reducible] noncomputable def bJ (en:bW) (iP:Nat) (x:gu):List J:=[gT iP 0,I x.1,I x.2.1,I x.2.2.1,I x.2.2.2.1,I x.2.2.2.2.1,.bool x.2.2.2.2.2,I (lN en.b en.most (x.2.2.1,x.2.2.2.1,x.2.2.2.2.1) en.u.reqs x.2.1),I (j1 en.b en.most (x.2.2.1,x.2.2.2.1,x.2.2.2.2.1) en.u.reqs),I (((h' en.table en.b x.2.1.toNat en.u).1:Nat):Int),I (((h' en.table en.b (hn en.b en.u) en.u).1:Nat):Int)]
theorem any (W:ax) {en:bW} {iP:Nat} {xy:de} (ma:cv (aF W) [c7 iP xy en]) (x:gu) (eV:gg en):Calls Tryd.prog 13 #[gT iP 0,Y.val x] W λe w'=>(∃A:de,e= .returned (I (qh en x))/\c5 (aF W) [c7 iP xy en] (aF w') [c7 iP A (km en x)])/\cb 0 W w':=by
 refine uP (bJ en iP x) body a8 N [al 0,.agg ⟨[al 1,al 2,al 3,al 4,al 5,al 6]⟩] Tryd.func13 λa ah=> ?_
 letI:=cg ah;have aN:=bH.start W _ ma;by_cases aM:x.1=1
 ·refine bK cj [] (ai bC aX) aY ?_ ah
  obtain⟨tL,iV⟩:=iT (jk en (x.2.2.1,x.2.2.2.1,x.2.2.2.2.1) x.2.1);refine hH (Y:=de) (bh:=λa6=>(bJ en iP x)) aN [0] (λa6=>[c7 iP (a6) tL]) (λ_=>[]) e0 dn (eP eS 7) (fI:=λw hw cC aw=>by rw[iV];exact abD _ aw (x.2.2.1,x.2.2.2.1,x.2.2.2.2.1) x.2.1 eV.oB.box eV.EN eV.LB eV.LC) (rest:= ?_);intro j9 Cx dA dN w ah;replace dA:=dA.Aq;letI:=cg ah;refine ep (er e3) [] [] aX aY ?_ ah;exact bP mi λw2 br=>(by first|(obtain⟨q1,aE⟩:=EO (e:=en) (x:=x) bt;rw[q1,aE];subst iV;exact⟨_,rfl,(dA.done br)⟩)|(obtain⟨q1,aE⟩:=EP (e:=en) (x:=x) bt bt;rw[q1,aE];subst iV;exact⟨_,rfl,(dA.done br)⟩)|(obtain⟨q1,aE⟩:=ER (e:=en) (x:=x) bt bt bt;rw[q1,aE];subst iV;exact⟨_,rfl,(dA.done br)⟩)|(obtain⟨q1,aE⟩:=ES (e:=en) (x:=x) bt bt bt bt;rw[q1,aE];subst iV;exact⟨_,rfl,(dA.done br)⟩)|(obtain⟨q1,aE⟩:=ET (e:=en) (x:=x) bt bt bt bt;rw[q1,aE];exact⟨_,rfl,(dA.done br)⟩))
 ·by_cases ad:x.1=2
  ·refine bK dz [] (ai bf (ai bC aX)) aY ?_ ah
   obtain⟨tL,iV⟩:=iT (j_ en (x.2.2.1,x.2.2.2.1,x.2.2.2.2.1) x.2.2.2.2.2);refine hH (Y:=de) (bh:=λa6=>(bJ en iP x)) aN [0] (λa6=>[c7 iP (a6) tL]) (λ_=>[]) p4 o4 (eP hN 8) (fI:=λw hw cC aw=>by rw[iV];exact abE _ aw (x.2.2.1,x.2.2.2.1,x.2.2.2.2.1) x.2.2.2.2.2 eV.oB.box eV.EN eV.LB eV.LC) (rest:= ?_);intro j9 Cx dA dN w ah;replace dA:=dA.Aq;letI:=cg ah;refine ep (er ki) [] [] aX aY ?_ ah;exact bP HX λw2 br=>(by first|(obtain⟨q1,aE⟩:=EO (e:=en) (x:=x) bt;rw[q1,aE];subst iV;exact⟨_,rfl,(dA.done br)⟩)|(obtain⟨q1,aE⟩:=EP (e:=en) (x:=x) bt bt;rw[q1,aE];subst iV;exact⟨_,rfl,(dA.done br)⟩)|(obtain⟨q1,aE⟩:=ER (e:=en) (x:=x) bt bt bt;rw[q1,aE];subst iV;exact⟨_,rfl,(dA.done br)⟩)|(obtain⟨q1,aE⟩:=ES (e:=en) (x:=x) bt bt bt bt;rw[q1,aE];subst iV;exact⟨_,rfl,(dA.done br)⟩)|(obtain⟨q1,aE⟩:=ET (e:=en) (x:=x) bt bt bt bt;rw[q1,aE];exact⟨_,rfl,(dA.done br)⟩))
  ·by_cases af:x.1=3
   ·refine bK et [] (ai bf (ai bf (ai bC aX))) aY ?_ ah
    obtain⟨tL,iV⟩:=iT (mC en x.2.1);refine hH (Y:=de) (bh:=λa6=>(bJ en iP x)) aN [0] (λa6=>[c7 iP (a6) tL]) (λ_=>[]) tE wc (eP iC 9) (fI:=λw hw cC aw=>by rw[iV];exact abB _ aw x.2.1 eV.oB eV.EM) (rest:= ?_);intro j9 Cx dA dN w ah;replace dA:=dA.Aq;letI:=cg ah;refine ep (er kj) [] [] aX aY ?_ ah;exact bP Cn λw2 br=>(by first|(obtain⟨q1,aE⟩:=EO (e:=en) (x:=x) bt;rw[q1,aE];subst iV;exact⟨_,rfl,(dA.done br)⟩)|(obtain⟨q1,aE⟩:=EP (e:=en) (x:=x) bt bt;rw[q1,aE];subst iV;exact⟨_,rfl,(dA.done br)⟩)|(obtain⟨q1,aE⟩:=ER (e:=en) (x:=x) bt bt bt;rw[q1,aE];subst iV;exact⟨_,rfl,(dA.done br)⟩)|(obtain⟨q1,aE⟩:=ES (e:=en) (x:=x) bt bt bt bt;rw[q1,aE];subst iV;exact⟨_,rfl,(dA.done br)⟩)|(obtain⟨q1,aE⟩:=ET (e:=en) (x:=x) bt bt bt bt;rw[q1,aE];exact⟨_,rfl,(dA.done br)⟩))
   ·by_cases ay:x.1=4
    ·refine bK gf [] (ai bf (ai bf (ai bf (ai bC aX)))) aY ?_ ah
     obtain⟨tL,iV⟩:=iT (jI en);refine hH (Y:=de) (bh:=λa6=>(bJ en iP x)) aN [0] (λa6=>[c7 iP (a6) tL]) (λ_=>[]) Co HZ (eP lH 10) (fI:=λw hw cC aw=>by rw[iV];exact abA _ aw eV.oB eV.EM) (rest:= ?_);intro j9 Cx dA dN w ah;replace dA:=dA.Aq;letI:=cg ah;refine ep (er qO) [] [] aX aY ?_ ah;exact bP aoC λw2 br=>(by first|(obtain⟨q1,aE⟩:=EO (e:=en) (x:=x) bt;rw[q1,aE];subst iV;exact⟨_,rfl,(dA.done br)⟩)|(obtain⟨q1,aE⟩:=EP (e:=en) (x:=x) bt bt;rw[q1,aE];subst iV;exact⟨_,rfl,(dA.done br)⟩)|(obtain⟨q1,aE⟩:=ER (e:=en) (x:=x) bt bt bt;rw[q1,aE];subst iV;exact⟨_,rfl,(dA.done br)⟩)|(obtain⟨q1,aE⟩:=ES (e:=en) (x:=x) bt bt bt bt;rw[q1,aE];subst iV;exact⟨_,rfl,(dA.done br)⟩)|(obtain⟨q1,aE⟩:=ET (e:=en) (x:=x) bt bt bt bt;rw[q1,aE];exact⟨_,rfl,(dA.done br)⟩))
    ·refine bK hq [] (ai bf (ai bf (ai bf (ai bf aX)))) aY ?_ ah
     exact bP H6 λw2 br=>(by first|(obtain⟨q1,aE⟩:=EO (e:=en) (x:=x) bt;rw[q1,aE];subst iV;exact⟨_,rfl,((aN.pick [0] rfl).done br)⟩)|(obtain⟨q1,aE⟩:=EP (e:=en) (x:=x) bt bt;rw[q1,aE];subst iV;exact⟨_,rfl,((aN.pick [0] rfl).done br)⟩)|(obtain⟨q1,aE⟩:=ER (e:=en) (x:=x) bt bt bt;rw[q1,aE];subst iV;exact⟨_,rfl,((aN.pick [0] rfl).done br)⟩)|(obtain⟨q1,aE⟩:=ES (e:=en) (x:=x) bt bt bt bt;rw[q1,aE];subst iV;exact⟨_,rfl,((aN.pick [0] rfl).done br)⟩)|(obtain⟨q1,aE⟩:=ET (e:=en) (x:=x) bt bt bt bt;rw[q1,aE];exact⟨_,rfl,((aN.pick [0] rfl).done br)⟩))
end TU
end AE
namespace AE
def LZ (N R:Nat):Nat:=361*N+(365*N+2)*(R-1)
structure wB (b:bQ) (N:Nat) (e:bW) (eN R i:Nat):Prop where
 ok:gg e
 reqs:e.u.reqs.length<=i
 cJ:1<=R
 dk:R<=i+1
 box:e.b=b
 w:eN+wq e<=LZ N R
variable {b:bQ} {N eN R i:Nat} {e:bW}
theorem wB.Aj (h:wB b N e eN R i) (n:Int):wB b N (mC e n) (eN+zg e n) R (i+1)/\zg e n<=n.toNat/\(zg e n<n.toNat->qQ (mC e n))/\eN+zg e n<=LZ N R:=by
 obtain⟨q1,aE,ca,ey,hh⟩:=h.ok.Aj n;have af:=h.w;have ay:=h.reqs;have bD:=h.dk;exact⟨⟨q1,ar,h.cJ,ar,h.box,ar⟩,aE,ca,ar⟩
theorem wB.set (h:wB b N e eN R i):wB b N (jI e) (eN+uZ e) R (i+1)/\qQ (jI e)/\eN+uZ e<=LZ N R:=by
 obtain⟨q1,aE,ey,hh⟩:=h.ok.set;have af:=h.w;have ay:=h.reqs;have bD:=h.dk;exact⟨⟨q1,ar,h.cJ,ar,h.box,ar⟩,aE,ar⟩
theorem wB.skip (h:wB b N e eN R i):wB b N e eN R (i+1):=by
 have ay:=h.reqs;have bD:=h.dk;exact⟨h.ok,ar,h.cJ,ar,h.box,h.w⟩
theorem wB.begin {cells:List Int} {table:List cX} {known:List Bool} {most:Int} (h:pE b cells table known most) (av:cells.length<=10000):wB b cells.length (lO b cells table known most) 0 1 0:=by
 obtain⟨q1,aE⟩:=LK h av;refine⟨q1,b2 _,b2 _,b2 _,rfl,?_⟩;unfold LZ;omega
end AE
namespace AE
theorem aoD {e e':bW} (h:gg e) (fm:gg e') (s:qQ e) (fu:qQ e') (ae:e'.b=e.b) (aK:e'.table=e.table) (aq:e'.cells=e.cells) (aj:e'.known=e.known):e'.u.aH=e.u.aH:=by
 obtain⟨f,_,_⟩:=h.full s;obtain⟨hv,_,_⟩:=fm.full fu;rw[ae,aK,aq,aj] at hv;have hl:e.u.aH.length=(gK e.b).N:=h.oB.HB.trans h.oB.N.symm;have fB:e'.u.aH.length=(gK e.b).N:=by rw[<-ae];exact fm.oB.HB.trans fm.oB.N.symm
 apply List.ext_getElem (fB.trans hl.symm);intro i ad af;apply bM.ext';intro c aoE;have:=hv.unique f i c (hl▸af) aoE;unfold dy at this;rw[dh,dh,fA ad,fA af] at this;exact this
theorem acG {e:bW} {p:dW} {c:Int} (ad:rI c) (af:ei p e.b) (ay:((e.u.reqs.length:Nat):Int)<e.most):lN e.b e.most p e.u.reqs c=0:=by
 unfold lN j1;rw[aQ ad,aQ af,aU ar]
theorem acH {e:bW} {p:dW} (af:ei p e.b) (ay:((e.u.reqs.length:Nat):Int)<e.most):j1 e.b e.most p e.u.reqs=0:=by
 unfold j1;rw[aQ af,aU ar]
theorem aoF {e:bW} {p:dW} {c:Int} (h:lN e.b e.most p e.u.reqs c=0):(jk e p c).cells=e.cells.set (dD e.b p) c:=by
 rw[(LJ h).2.2.2]
theorem aoG {e:bW} {p:dW} {k:Bool} (h:j1 e.b e.most p e.u.reqs=0):(j_ e p k).known=e.known.set (dD e.b p) k:=by
 rw[(SA h).2.2]
def aoH (e:bW) (p:dW) (c c2 n:Int):bW:=jI (jk (mC (jk e p c) n) p c2)
structure aoI (e e':bW):Prop where
 ok:gg e'
 st:qQ e'
 b:e'.b=e.b
 most:e'.most=e.most
 table:e'.table=e.table
 cells:e'.cells=e.cells
 known:e'.known=e.known
 aH:e'.u.aH=e.u.aH
def rK (b:bQ) (cells:List Int) (table:List cX) (known:List Bool):bW:=jI (lO b cells table known 10)
structure aoJ (b:bQ) (cells:List Int) (e:bW):Prop where
 ok:gg e
 st:qQ e
 b:e.b=b
 most:e.most=10
 aqA:e.known.length=cells.length
 aoK:e.u.aH.length=cells.length
 cells:e.cells=cells
theorem aoL {b:bQ} {cells:List Int} {table:List cX} {known:List Bool} {most:Int} (h:pE b cells table known most) (av:cells.length<=10000):okB b/\cells.length=(fg b).toNat:=by
 obtain⟨_,⟨af,_⟩,_⟩:=abG h.1;have ad:=(LK (most:=most) h av).1.EN;exact⟨af,ad⟩
def tO (b:bQ) (cells:List Int) (table:List cX) (known:List Bool) (p:dW) (cell n:Int):bW:=aoH (rK b cells table known) p cell (cells.getD (dD b p) default) n
structure aqB (b:bQ) (cells:List Int) (table:List cX) (known:List Bool) (p:dW) (cell n:Int):Prop where
 box:okB b
 L0:gg (lO b cells table known 10)
 eN:aoJ b cells (rK b cells table known)
 lt:dD b p<cells.length
 kX:dD b p<(rK b cells table known).known.length
 jd:gg (jk (rK b cells table known) p cell)
 kW:gg (mC (jk (rK b cells table known) p cell) n)
 zp:gg (jk (mC (jk (rK b cells table known) p cell) n) p (cells.getD (dD b p) default))
 ev:lN (rK b cells table known).b (rK b cells table known).most p (rK b cells table known).u.reqs cell=0
 fR:lN (mC (jk (rK b cells table known) p cell) n).b (mC (jk (rK b cells table known) p cell) n).most p (mC (jk (rK b cells table known) p cell) n).u.reqs (cells.getD (dD b p) default)=0
 jJ:aoI (rK b cells table known) (tO b cells table known p cell n)
 aoK:(tO b cells table known p cell n).u.aH.length=cells.length
 dw:cells.length<=120
 K:∀k dr,dr=(rK b cells table known).known.getD (dD b p) default->
  gg (j_ (tO b cells table known p cell n) p k)/\gg (mC (j_ (tO b cells table known p cell n) p k) n)/\gg (j_ (mC (j_ (tO b cells table known p cell n) p k) n) p dr)/\
  j1 (tO b cells table known p cell n).b (tO b cells table known p cell n).most p (tO b cells table known p cell n).u.reqs=0/\
  j1 (mC (j_ (tO b cells table known p cell n) p k) n).b (mC (j_ (tO b cells table known p cell n) p k) n).most p (mC (j_ (tO b cells table known p cell n) p k) n).u.reqs=0/\
  (jI (j_ (mC (j_ (tO b cells table known p cell n) p k) n) p dr)).u.aH=(rK b cells table known).u.aH/\(jI (j_ (mC (j_ (tO b cells table known p cell n) p k) n) p dr)).u.aH.length=cells.length
end AE
namespace AE
theorem acI {X:Int} {a b c d:Int} (ha:0<=a) (aoM:a<X) (aq:0<=c) (aoN:c<X) (h:b*X+a=d*X+c):b=d/\a=c:=by
 have iY:X≠0:=by omega
 have ad:(b*X+a)/X=b:=by
  rw[Int.add_comm,Int.add_mul_ediv_right _ _ iY,Int.ediv_eq_zero_of_lt ha aoM,Int.zero_add]
 have af:(d*X+c)/X=d:=by
  rw[Int.add_comm,Int.add_mul_ediv_right _ _ iY,Int.ediv_eq_zero_of_lt aq aoN,Int.zero_add]
 have ae:b=d:=by rw[<-ad,<-af,h]
 subst ae;exact⟨rfl,ar⟩
theorem acJ {b:bQ} (ae:okB b) {p q:dW} (hp:ei p b) (aZ:ei q b) (h:dD b p=dD b q):p=q:=by
 have ad:=Lm ae hp;have af:=Lm ae aZ;rw[h] at ad;have ay:As b p=As b q:=ad.trans af.symm;unfold As at ay;rw[aQ hp,aQ aZ] at ay;have aO:iU b:=by
  unfold ei at hp;unfold iU;omega
 have aw:bX b=(b.2.2.2.1-b.1,b.2.2.2.2.1-b.2.1,b.2.2.2.2.2-b.2.2.1):=aQ aO;rw[aw] at ay;unfold ei at hp aZ;obtain⟨e1,e2⟩:=acI ar (by show _<b.2.2.2.1-b.1;omega) ar (by show _<b.2.2.2.1-b.1;omega) ay;obtain⟨dn,hU⟩:=acI ar (by show _<b.2.2.2.2.1-b.2.1;omega) ar (by show _<b.2.2.2.2.1-b.2.1;omega) e1;obtain⟨gV,gO,pc⟩:=p;obtain⟨q1,aE,ca⟩:=q;simp only at e2 dn hU;have g1:gV=q1:=by omega
 have g2:gO=aE:=by omega
 have g3:pc=ca:=by omega
 rw[g1,g2,g3]
section
variable {α:Type} (ok:gu->Prop) [DecidablePred ok] (eD:gu->Nat) (xJ:gu->α)
def lu (l:List α) (x:gu):List α:=if ok x then l.set (eD x) (xJ x) else l
theorem L1 {i:Nat} {v:α}:∀(r:List gu) (l:List α),(∃y∈r,ok y/\eD y=i)->r.foldl (lu ok eD xJ) (l.set i v)=r.foldl (lu ok eD xJ) l
 |[],_,⟨_,h,_⟩=>absurd h List.not_mem_nil
 |y::r,l,h=>by
  rw[List.foldl_cons,List.foldl_cons];by_cases bq:ok y/\eD y=i
  ·unfold lu
   rw[aQ bq.1,aQ bq.1,bq.2,List.set_set]
  ·have ao:∃z∈r,ok z/\eD z=i:=by
    obtain⟨z,bI,af⟩:=h;rcases List.mem_cons.1 bI with rfl|bI
    ·exact absurd af bq
    ·exact⟨z,bI,af⟩
   by_cases ho:ok y
   ·have ag:eD y≠i:=λe=>bq ⟨ho,e⟩
    have e1:lu ok eD xJ (l.set i v) y=(lu ok eD xJ l y).set i v:=by
     unfold lu;rw[aQ ho,aQ ho,List.set_comm _ _ (Ne.symm ag)]
    rw[e1];exact L1 r _ ao
   ·have e1:∀l:List α,lu ok eD xJ l y=l:=λl=>aU ho
    rw[e1,e1];exact L1 r _ ao
theorem TV {i:Nat} {v:α}:∀(r:List gu) (l:List α),(∀y∈r,ok y->eD y≠i)->r.foldl (lu ok eD xJ) (l.set i v)=(r.foldl (lu ok eD xJ) l).set i v
 |[],_,_=>rfl
 |y::r,l,h=>by
  rw[List.foldl_cons,List.foldl_cons];have e1:lu ok eD xJ (l.set i v) y=(lu ok eD xJ l y).set i v:=by
   unfold lu;by_cases ho:ok y
   ·rw[aQ ho,aQ ho,List.set_comm _ _ (Ne.symm (h y List.mem_cons_self ho))]
   ·rw[aU ho,aU ho]
  rw[e1];exact TV r _ λz bI=>h z (List.mem_cons_of_mem _ bI)
end
def u2 (b:bQ) (x:gu):Prop:=x.1=1/\rI x.2.1/\ei (k9 x) b
def tP (b:bQ) (x:gu):Prop:=x.1=2/\ei (k9 x) b
instance (b:bQ) (x:gu):Decidable (u2 b x):=by unfold u2;infer_instance
instance (b:bQ) (x:gu):Decidable (tP b x):=by unfold tP;infer_instance
def xK (b:bQ) (x:gu):Prop:=(x.1=1->rI x.2.1/\ei (k9 x) b)/\(x.1=2->ei (k9 x) b)
instance (b:bQ) (x:gu):Decidable (xK b x):=by unfold xK;infer_instance
def sD (b:bQ) (x:gu):Nat:=dD b (k9 x)
abbrev acK (b:bQ) (l:List gu) (c:List Int):List Int:=l.foldl (lu (u2 b) (sD b) (λx=>x.2.1)) c
abbrev acL (b:bQ) (l:List gu) (c:List Bool):List Bool:=l.foldl (lu (tP b) (sD b) (λx=>x.2.2.2.2.2)) c
abbrev xL (x:gu):Int×dW:=(x.1,k9 x)
theorem TW {e:bW} {x:gu} (hm:((e.u.reqs.length:Nat):Int)<e.most):(km e x).cells=lu (u2 e.b) (sD e.b) (λx=>x.2.1) e.cells x/\(km e x).known=lu (tP e.b) (sD e.b) (λx=>x.2.2.2.2.2) e.known x/\(x.1<3->(qh e x=0↔xK e.b x)):=by
 by_cases ad:x.1=1
 ·obtain⟨q1,aE⟩:=EO (e:=e) (x:=x) ad
  have aj:¬tP e.b x:=λh=>by have:=h.1;omega
  have aq:qh e x=0↔rI x.2.1/\ei (k9 x) e.b:=by
   rw[aE];exact⟨λh=>⟨(LJ h).1,(LJ h).2.1⟩,λh=>acG h.1 h.2 hm⟩
  unfold lu;rw[aU aj,q1];refine⟨?_,rfl,λ_=>aq.trans ⟨λh=>⟨λ_=>h,λaf=>by omega⟩,λh=>h.1 ad⟩⟩;by_cases ho:u2 e.b x
  ·rw[aQ ho]
   exact aoF (acG ho.2.1 ho.2.2 hm)
  ·rw[aU ho,LI]
   intro aM;rw[<-aE] at aM;exact ho ⟨ad,aq.1 aM⟩
 ·have acM:¬u2 e.b x:=λh=>ad h.1
  by_cases af:x.1=2
  ·obtain⟨q1,aE⟩:=EP (e:=e) (x:=x) ad af
   have aq:qh e x=0↔ei (k9 x) e.b:=by
    rw[aE];exact⟨λh=>(SA (k:=false) h).1,λh=>acH h hm⟩
   unfold lu;rw[aU acM,q1];refine⟨rfl,?_,λ_=>aq.trans ⟨λh=>⟨λaf=>absurd af ad,λ_=>h⟩,λh=>h.2 af⟩⟩;by_cases ho:tP e.b x
   ·rw[aQ ho]
    exact aoG (acH ho.2 hm)
   ·rw[aU ho,abR]
    intro aM;rw[<-aE] at aM;exact ho ⟨af,aq.1 aM⟩
  ·have hd:¬tP e.b x:=λh=>af h.1
   have bc:xK e.b x:=⟨λh=>absurd h ad,λh=>absurd h af⟩;unfold lu;rw[aU acM,aU hd];by_cases ay:x.1=3
   ·obtain⟨q1,aE⟩:=ER (e:=e) (x:=x) ad af ay
    rw[q1,aE];exact⟨rfl,rfl,λ_=>⟨λ_=>bc,λ_=>rfl⟩⟩
   ·by_cases bD:x.1=4
    ·obtain⟨q1,aE⟩:=ES (e:=e) (x:=x) ad af ay bD
     rw[q1,aE];exact⟨rfl,rfl,λ_=>⟨λ_=>bc,λ_=>rfl⟩⟩
    ·obtain⟨q1,aE⟩:=ET (e:=e) (x:=x) ad af ay bD
     rw[q1,aE];exact⟨rfl,rfl,λ_=>⟨λ_=>bc,λ_=>rfl⟩⟩
structure xM (e0 e:bW) (n:Nat):Prop where
 ok:gg e
 b:e.b=e0.b
 table:e.table=e0.table
 most:e.most=e0.most
 len:e.u.reqs.length<=n
theorem xM.do {e0 e:bW} {n:Nat} (h:xM e0 e n) (av:n<10000) (x:gu):xM e0 (km e x) (n+1):=by
 obtain⟨db,dr,s7⟩:=amq e x;obtain⟨q1,aE⟩:=h.ok.do (Nat.lt_of_le_of_lt h.len av) x
 exact⟨q1,db.trans h.b,dr.trans h.table,s7.trans h.most,Nat.le_trans aE (Nat.add_le_add_right h.len 1)⟩
theorem xM.mono {e0 e:bW} {n m:Nat} (h:xM e0 e n) (av:n<=m):xM e0 e m:=⟨h.ok,h.b,h.table,h.most,Nat.le_trans h.len av⟩
theorem xM.room {e0 e:bW} {n:Nat} (h:xM e0 e n) (hm:((n:Nat):Int)<e0.most):((e.u.reqs.length:Nat):Int)<e.most:=by
 have:=h.len;rw[h.most];omega
structure xN (e0 e:bW) (l:List gu):Prop where
 odd:xM e0 e l.length
 cells:e.cells=acK e0.b l e0.cells
 known:e.known=acL e0.b l e0.known
theorem xN.zero {e0:bW} (h:gg e0) (ao:e0.u.reqs.length=0):xN e0 e0 []:=⟨⟨h,rfl,rfl,rfl,by rw[ao];exact Nat.zero_le _⟩,rfl,rfl⟩
theorem xN.next {e0 e:bW} {l:List gu} (h:xN e0 e l) (hm:((l.length:Nat):Int)<e0.most) (av:l.length<10000) (x:gu):xN e0 (km e x) (l++[x]):=by
 obtain⟨q1,aE,_⟩:=TW (x:=x) (h.odd.room hm);refine⟨by rw[List.length_append];exact h.odd.do av x,?_,?_⟩
 ·rw[q1,h.odd.b,h.cells]
  show _=List.foldl _ _ (l++[x]);rw[List.foldl_append];rfl
 ·rw[aE,h.odd.b,h.known]
  show _=List.foldl _ _ (l++[x]);rw[List.foldl_append];rfl
def ka (b:bQ):List gu->List (Int×dW)
 |[]=>[]
 |x::r=>if x.1<3/\xL x∉ka b r/\xK b x then ka b r++[xL x] else ka b r
theorem Iv {b:bQ} {q:Int×dW}:∀r:List gu,q∈ka b r↔∃y∈r,y.1<3/\xL y=q/\xK b y
 |[]=>⟨λh=>absurd h List.not_mem_nil,λ⟨_,h,_⟩=>absurd h List.not_mem_nil⟩
 |x::r=>by
  have ck:=Iv (b:=b) (q:=q) r;unfold ka;constructor
  ·intro h
   split at h
   ·rename_i ak
    rcases List.mem_append.1 h with h|h
    ·obtain⟨y,bq,af⟩:=ck.1 h
     exact⟨y,List.mem_cons_of_mem _ bq,af⟩
    ·rw[List.mem_singleton] at h
     exact⟨x,List.mem_cons_self,ak.1,h.symm,ak.2.2⟩
   ·obtain⟨y,bq,af⟩:=ck.1 h
    exact⟨y,List.mem_cons_of_mem _ bq,af⟩
  ·rintro ⟨y,bq,ad,af,ay⟩
   by_cases iX:q∈ka b r
   ·split
    ·exact List.mem_append_left _ iX
    ·exact iX
   ·rcases List.mem_cons.1 bq with rfl|bq
    ·rw[aQ ⟨ad,by rw[af];exact iX,ay⟩,af]
     exact List.mem_append_right _ List.mem_cons_self
    ·exact absurd (ck.2 ⟨y,bq,ad,af,ay⟩) iX
structure rL (e0 e:bW) (r:List gu):Prop where
 odd:xM e0 e r.length
 cells:e.cells=acK e0.b r e0.cells
 known:e.known=acL e0.b r e0.known
theorem rL.zero {e0:bW} (h:gg e0) (ao:e0.u.reqs.length=0):rL e0 e0 []:=⟨⟨h,rfl,rfl,rfl,by rw[ao];exact Nat.zero_le _⟩,rfl,rfl⟩
theorem acN {b:bQ} {y:gu}:(u2 b y->xK b y)/\(tP b y->xK b y):=
 ⟨λh=>⟨λ_=>h.2,λaf=>by have:=h.1;omega⟩,λh=>⟨λaf=>by have:=h.1;omega,λ_=>h.2⟩⟩
theorem rL.next {e0 e:bW} {r:List gu} (h:rL e0 e r) (ae:okB e0.b) (hm:((r.length:Nat):Int)<e0.most) (av:r.length<10000) {x:gu} (ak:x.1<3) (aj:xL x∉ka e0.b r):rL e0 (km e x) (x::r):=by
 obtain⟨q1,aE,_⟩:=TW (x:=x) (h.odd.room hm);refine⟨h.odd.do av x,?_,?_⟩
 ·rw[q1,h.odd.b,h.cells]
  show _=List.foldl _ _ (x::r);rw[List.foldl_cons];by_cases ho:u2 e0.b x
  ·unfold lu
   rw[aQ ho,aQ ho];refine(TV _ _ _ r _ λy bq zh he=>aj ((Iv r).2 ⟨y,bq,by have:=zh.1;omega,?_,acN.1 zh⟩)).symm;have:=acJ ae zh.2.2 ho.2.2 he;show (y.1,k9 y)=(x.1,k9 x);rw[this,zh.1,ho.1]
  ·have e1:∀l:List Int,lu (u2 e0.b) (sD e0.b) (λx=>x.2.1) l x=l:=λl=>aU ho
   rw[e1,e1]
 ·rw[aE,h.odd.b,h.known]
  show _=List.foldl _ _ (x::r);rw[List.foldl_cons];by_cases ho:tP e0.b x
  ·unfold lu
   rw[aQ ho,aQ ho];refine(TV _ _ _ r _ λy bq zh he=>aj ((Iv r).2 ⟨y,bq,by have:=zh.1;omega,?_,acN.2 zh⟩)).symm;have:=acJ ae zh.2 ho.2 he;show (y.1,k9 y)=(x.1,k9 x);rw[this,zh.1,ho.1]
  ·have e1:∀l:List Bool,lu (tP e0.b) (sD e0.b) (λx=>x.2.2.2.2.2) l x=l:=λl=>aU ho
   rw[e1,e1]
theorem rL.pass {e0 e:bW} {r:List gu} (h:rL e0 e r) {x:gu} (ak:¬x.1<3\/xL x∈ka e0.b r):rL e0 e (x::r):=by
 refine⟨h.odd.mono (Nat.le_succ _),?_,?_⟩
 ·rw[h.cells]
  show _=List.foldl _ _ (x::r);rw[List.foldl_cons];by_cases ho:u2 e0.b x
  ·have ad:=ho.1
   obtain⟨y,bq,vt,vu,DR⟩:=(Iv r).1 (ak.resolve_left ar);have s8:y.1=x.1:=(Prod.mk.inj vu).1;have z2:k9 y=k9 x:=(Prod.mk.inj vu).2;have e1:lu (u2 e0.b) (sD e0.b) (λx=>x.2.1) e0.cells x=e0.cells.set (sD e0.b x) x.2.1:=aQ ho;rw[e1];exact(L1 _ _ _ r _ ⟨y,bq,⟨s8.trans ad,DR.1 (s8.trans ad)⟩,by unfold sD;rw[z2]⟩).symm
  ·have e1:lu (u2 e0.b) (sD e0.b) (λx=>x.2.1) e0.cells x=e0.cells:=aU ho
   rw[e1]
 ·rw[h.known]
  show _=List.foldl _ _ (x::r);rw[List.foldl_cons];by_cases ho:tP e0.b x
  ·have ad:=ho.1
   obtain⟨y,bq,vt,vu,DR⟩:=(Iv r).1 (ak.resolve_left ar);have s8:y.1=x.1:=(Prod.mk.inj vu).1;have z2:k9 y=k9 x:=(Prod.mk.inj vu).2;have e1:lu (tP e0.b) (sD e0.b) (λx=>x.2.2.2.2.2) e0.known x=e0.known.set (sD e0.b x) x.2.2.2.2.2:=aQ ho;rw[e1];exact(L1 _ _ _ r _ ⟨y,bq,⟨s8.trans ad,DR.2 (s8.trans ad)⟩,by unfold sD;rw[z2]⟩).symm
  ·have e1:lu (tP e0.b) (sD e0.b) (λx=>x.2.2.2.2.2) e0.known x=e0.known:=aU ho
   rw[e1]
theorem aoO {e0 e f:bW} {l:List gu} (h:xN e0 e l) (g:rL e0 f l):gg (jI e)/\gg (jI f)/\(jI f).b=(jI e).b/\(jI f).cells=(jI e).cells/\(jI f).u.aH=(jI e).u.aH:=by
 obtain⟨jd,s1,_⟩:=h.odd.ok.set;obtain⟨kW,s2,_⟩:=g.odd.ok.set;have ae:(jI f).b=(jI e).b:=g.odd.b.trans h.odd.b.symm;have aK:(jI f).table=(jI e).table:=g.odd.table.trans h.odd.table.symm;have aq:(jI f).cells=(jI e).cells:=g.cells.trans h.cells.symm;have aj:(jI f).known=(jI e).known:=g.known.trans h.known.symm;exact⟨jd,kW,ae,aq,aoD jd kW s1 s2 ae aK aq aj⟩
end AE
section
noncomputable section
namespace AE
abbrev AO:aJ:=55
def qS (q:Int×dW):J:= .agg ⟨[I q.1,I q.2.1,I q.2.2.1,I q.2.2.2]⟩
theorem acO {p q:Int×dW} (h:qS p=qS q):p=q:=by
 obtain⟨a,b,c,d⟩:=p;obtain⟨aW,b',c',mI⟩:=q;unfold qS at h;simp only [Value.agg.injEq,Array.mk.injEq,List.cons.injEq,Value.int.injEq,and_true,true_and] at h;obtain⟨rfl,rfl,rfl,rfl⟩:=h;rfl
theorem aoP (q:Int×dW) (b:Bool):bd ej (Instr.checkKey b 10000 AO (qS q))=some ():=au
theorem aoQ (p q:Int×dW):pT ej 10000 AO (qS p) (qS q)=some (p.1==q.1&&((p.2.1==q.2.1&&(p.2.2.1==q.2.2.1&&(p.2.2.2==q.2.2.2&&true)))&&true)):=au
theorem acP (p q:Int×dW):pT ej 10000 AO (qS p) (qS q)=some (decide (p=q)):=by
 rw[aoQ];congr 1;obtain⟨a,b,c,d⟩:=p;obtain⟨aW,b',c',mI⟩:=q;by_cases h:(a,b,c,d)=(aW,b',c',mI)
 ·rw[gC h]
  simp only [Prod.mk.injEq] at h;obtain⟨rfl,rfl,rfl,rfl⟩:=h;simp
 ·rw[c8 h]
  simp only [Prod.mk.injEq] at h;simp only [Bool.and_true,Bool.and_eq_false_iff,beq_eq_false_iff_ne];by_cases ad:a=aW
  ·by_cases af:b=b'
   ·by_cases ay:c=c'
    ·exact .inr (.inr (.inr λbD=>h ⟨ad,af,ay,bD⟩))
    ·exact .inr (.inr (.inl ay))
   ·exact .inr (.inl af)
  ·exact .inl ad
def TX (v:J):Prop:=∃q,v=qS q
theorem aoR:(match bd ej (underlying AO) with|some (.struct _)=>true|_=>false)=true:=au
theorem TY:xj ej AO TX where
 KJ:=by
  rintro _ ⟨q,rfl⟩ b;exact aoP q b
 desc:=by
  have h:=aoR;split at h
  ·rename_i fs aO
   exact⟨_,aO,λx y=>rfl⟩
  ·cases h
 same:=by
  rintro _ ⟨q,rfl⟩ w;exact DO 10000 AO _ _ true (by rw[acP,gC rfl]) w
 other:=by
  rintro _ _ ⟨p,rfl⟩ ⟨q,rfl⟩ cO w;exact DO 10000 AO _ _ false (by rw[acP,c8 (λh=>cO (by rw[h]))]) w
def mD (l:List (Int×dW)):List (J×J):=l.map λq=>(qS q,.bool true)
theorem aoS (l:List (Int×dW)) (q:Int×dW):mD (l++[q])=mD l++[(qS q,.bool true)]:=by
 unfold mD;rw[List.map_append];rfl
theorem acQ {l:List (Int×dW)} {q:Int×dW} (h:q∉l):yK TX (mD l) (qS q):=by
 intro p hp;obtain⟨r,ao,rfl⟩:=List.mem_map.1 hp;exact⟨⟨r,rfl⟩,λe=>h (acO e▸ao)⟩
theorem acR:∀{l:List (Int×dW)} {q:Int×dW},q∈l->Py TX (mD l) (qS q) (.bool true)
 |[],_,h=>absurd h List.not_mem_nil
 |r::l,q,h=>by
  by_cases aZ:q=r
  ·subst aZ
   exact⟨[],mD l,rfl,λp hp=>absurd hp List.not_mem_nil⟩
  ·obtain⟨a,b,e,aO⟩:=acR ((List.mem_cons.1 h).resolve_left aZ)
   refine⟨(qS r,.bool true)::a,b,?_,?_⟩
   ·show (qS r,_)::mD l=_
    rw[e];rfl
   ·intro p hp
    rcases List.mem_cons.1 hp with rfl|hp
    ·exact⟨⟨r,rfl⟩,λe=>aZ (acO e).symm⟩
    ·exact aO p hp
section
variable {B:Nat} {W:ax} {az:List b0} {ro:List (iO ej)} {post:J->List (a1 ej)->Prop} {n q:Nat} {env:List J} {L:List (a1 ej)} {aP:List (fe ej)} {k:bL} {ah:List Nat} {t:aJ} {x i:J} {g d:Nat}
theorem acS:bd ej (underlying 53)=some (.map AO 4):=au
theorem aoT:bd ej (zeroValue 4)=some (.bool false):=au
theorem bH.acT {M:Mem} {es:List (J×J)} (bn:bH B (aF W) az M (ct L)) (hL:L[d]? =some (.any (js g es))):M g=some (.map ⟨mx 0 es⟩ es.length):=by
 have h:(ct L)[d]? =some (js g es):=by
  unfold ct;rw[List.getElem?_map,hL];rfl
 exact bn.sp.ok d _ h
theorem aoU {l:List (Int×dW)} {p:Int×dW} (hL:L[d]? =some (.any (js g (mD l)))) (ak:ex (.bool (decide (p∈l))::env) (q+1) x= .map (some g)) (ag:ex (.bool (decide (p∈l))::env) (q+1) i=qS p) (h:X B W az ro post (q+1) (.bool (decide (p∈l))::env) L aP k) (eZ:aL x=true:=by rfl) (pi:aL i=true:=by rfl) (aA:Nat.blt q eQ=true:=by rfl) (aZ:n=q:=by rfl):
  X B W az ro post n env L aP (.o (.kX 53 x i false) (al q) 1 ah k):=
 mY _ (λM bn _ nU aw=>by
  letI:=cM M (.bool (decide (p∈l))::env);by_cases hp:p∈l
  ·exact aT.ah5 (v:= .bool true) TY eZ pi rfl acS (bH.acT bn hL) ((nU x).trans ak) ((nU i).trans ag) (aw.trans (by rw[gC hp])) ⟨p,rfl⟩ (acR hp)
  ·exact aT.ah6 (v:= .bool false) TY eZ pi rfl acS aoT (bH.acT bn hL) ((nU x).trans ak) ((nU i).trans ag) (aw.trans (by rw[c8 hp])) ⟨p,rfl⟩ (acQ hp)) h rfl aA aZ
end
end AE
end
end
namespace AE
namespace acU
noncomputable def body:Code:=(Tryd.f20.body).getD .skip
def N:Nat:=26
noncomputable abbrev bN:=gk Tryd.prog Tryd.f20
def a8:b6:={sl:=cc [(1,1),(0,0)],ms:=[],A:=start}
def cj:bs:=[(.len #[45] 3 0,2),
 (.len #[45] 3 1,3),
 (.bin .neq 3 2 3,.bool false)]
def eI:List bw:=[]
def eJ:aG:=cc [(5,4),(1,1),(0,0)]
abbrev hy:=at' 26 cj [] body a8
theorem e0:pS eJ eI hy=some [(0,0),(1,1),(I 0,4)]:=au
def eW:Code:=s9 body [1,1,0,1,4]
def h5:List fc:=oh body [1,1,0,1,4] []
theorem e1:pe hy=eW:=au
theorem e2:f_ hy=h5:=au
def cx:bs:=[(.len #[45] 3 0,2),
 (.bin .lss 3 4 2,.bool true),
 (.dC 45 0 4,5),
 (.bF 85 5,.agg ⟨[6,7,8,9]⟩),
 (.dC 45 1 4,10),
 (.bF 85 10,.agg ⟨[11,12,13,14]⟩),
 (.bin .neq 85 (.agg ⟨[6,7,8,9]⟩) (.agg ⟨[11,12,13,14]⟩),.bool false),
 (.bin .add 3 4 (I 1),15)]
theorem dn:qx eJ eI (at' 26 cx [] eW (b7 eJ eI))=some [(0,0),(1,1),(15,4)]:=au
def dz:bs:=[(.len #[45] 3 0,2),
 (.bin .lss 3 4 2,.bool true),
 (.dC 45 0 4,5),
 (.bF 85 5,.agg ⟨[6,7,8,9]⟩),
 (.dC 45 1 4,10),
 (.bF 85 10,.agg ⟨[11,12,13,14]⟩),
 (.bin .neq 85 (.agg ⟨[6,7,8,9]⟩) (.agg ⟨[11,12,13,14]⟩),.bool true)]
theorem hU:bN (ny 26 [] [] h5 (at' 26 dz [] eW (b7 eJ eI)))=some (.bool false):=au
def gf:bs:=[(.len #[45] 3 0,2),
 (.bin .lss 3 4 2,.bool false)]
theorem kG:bN (ny 26 [] [] h5 (at' 26 gf [] eW (b7 eJ eI)))=some (.bool true):=au
def hq:bs:=[(.len #[45] 3 0,2),
 (.len #[45] 3 1,3),
 (.bin .neq 3 2 3,.bool true)]
theorem jP:bN (at' 26 hq [] body a8)=some (.bool false):=au
@[reducible] noncomputable def bJ (l:List bM) (dI:Option Addr) (dO:Nat) (k:List bM) (wv:Option Addr) (wx:Nat) (i:Nat:=0):List J:=[bA dI l dO,bA wv k wx,I ((l.length:Nat):Int),I ((k.length:Nat):Int),I ((i:Nat):Int),hW (bA dI l dO) (i*4),I (l.getD (i) default).1,I (l.getD (i) default).2.1,I (l.getD (i) default).2.2.1,I (l.getD (i) default).2.2.2,hW (bA wv k wx) (i*4),I (k.getD (i) default).1,I (k.getD (i) default).2.1,I (k.getD (i) default).2.2.1,I (k.getD (i) default).2.2.2,I ((i+1:Nat):Int)]
theorem any (W:ax) {hX:J} {l:List bM} (hl:cu (aF W) 4 dM hX l) {Im:J} {k:List bM} (aj:cu (aF W) 4 dM Im k) (av:l.length<=1000000):Calls Tryd.prog 20 #[hX,Im] W λe w'=>e= .returned (.bool (decide (l=k)))/\cb W.heap.size W w':=by
 obtain⟨dI,dO,rfl⟩:=hl.slice;obtain⟨wv,wx,rfl⟩:=aj.slice;refine jO (bJ l dI dO k wv wx) body a8 N [al 0,al 1] Tryd.func20 λa ah=> ?_
 letI:=cg ah;by_cases aM:((l.length:Nat):Int)=((k.length:Nat):Int)
 ·refine bK cj [] (ai (eT hl nQ) (ai (eT aj nQ) (ai sr aX))) aY ?_ ah
  refine ta (f':=(λi=>aS (aF W) (bJ l dI dO k wv wx i))) (λi=>i<=l.length/\∀j,j<i->l.getD j default=k.getD j default) (λi=>l.length-i) 0 e0 gb (λ_ _ h=>h) (by exact⟨Nat.zero_le _,λj h=>absurd h (Nat.not_lt_zero _)⟩) ?_;intro i bg dN w ah;letI:=cg ah;refine s' e1 e2 ?_;by_cases sK:((i:Nat):Int)<((l.length:Nat):Int)
  ·by_cases gV:(l.getD (i) default)=(k.getD (i) default)
   ·refine bK cx [] (ai (eT hl nQ) (ai bC (ai (Am hl (show i<l.length by omega) nQ sg) (ai (aT.r5 hl (F7 (show i<l.length by omega)) U U BQ sg U U U) (ai (Am aj (show i<k.length by omega) nQ sg) (ai (aT.r5 aj (F7 (show i<k.length by omega)) U U BQ sg U U U) (ai (Zl U U U U (by rw[gC gV];rfl)) (ai k5 aX)))))))) aY ?_ ah
    exact tu (i+1) dn gb (by exact⟨ar,λj h=>by rcases Nat.lt_or_ge j i with ad|ad;exact bg.2 j ad;obtain rfl:j=i:=ar;first|assumption|exact abS bt bt|exact abT bt bt⟩)
   ·refine bK dz [] (ai (eT hl nQ) (ai bC (ai (Am hl (show i<l.length by omega) nQ sg) (ai (aT.r5 hl (F7 (show i<l.length by omega)) U U BQ sg U U U) (ai (Am aj (show i<k.length by omega) nQ sg) (ai (aT.r5 aj (F7 (show i<k.length by omega)) U U BQ sg U U U) (ai (Zl U U U U (by rw[c8 gV];rfl)) aX))))))) aY ?_ ah
    refine nV [] [] aX aY ?_;exact JG hU λw2 y0 br=>⟨(by first|(rw[c8 (λh:l=k=>by subst h;omega)];rfl)|(rw[c8 (λh:l=k=>by subst h;first|exact absurd rfl bt|exact absurd bt bt)];rfl)|(rw[gC (all_eq ar (λj hj=>bg.2 j ar))];rfl)),y0⟩
  ·refine bK gf [] (ai (eT hl nQ) (ai bf aX)) aY ?_ ah
   refine nV [] [] aX aY ?_;exact JG kG λw2 y0 br=>⟨(by first|(rw[c8 (λh:l=k=>by subst h;omega)];rfl)|(rw[c8 (λh:l=k=>by subst h;first|exact absurd rfl bt|exact absurd bt bt)];rfl)|(rw[gC (all_eq ar (λj hj=>bg.2 j ar))];rfl)),y0⟩
 ·refine bK hq [] (ai (eT hl nQ) (ai (eT aj nQ) (ai tv aX))) aY ?_ ah
  exact JG jP λw2 y0 br=>⟨(by first|(rw[c8 (λh:l=k=>by subst h;omega)];rfl)|(rw[c8 (λh:l=k=>by subst h;first|exact absurd rfl bt|exact absurd bt bt)];rfl)|(rw[gC (all_eq ar (λj hj=>bg.2 j ar))];rfl)),y0⟩
end acU
end AE
section
noncomputable section
namespace AE
namespace acV
def t:bL:=
.o (.bin .neq 25 (.agg ⟨[0,1,2,3,4,5]⟩) (.agg ⟨[7,8,9,10,11,12]⟩)) 14 1 []<|
.eO 14 (
 .ret (.bool false)) (
 .o (.len #[26] 3 6) 15 1 [0,3]<|
 .o (.len #[26] 3 13) 16 1 [0,3]<|
 .o (.bin .neq 3 15 16) 17 1 []<|
 .eO 17 (
  .ret (.bool false)) (
  .loop [I 0,.bool false] 2<|
  .o (.len #[26] 3 6) 20 1 [0,3]<|
  .o (.bin .lss 3 18 20) 21 1 []<|
  .eO 21 (
   .o (.dC 26 6 18) 22 1 [0,3,1]<|
   .o (.bF 3 22) 23 1 [1]<|
   .o (.dC 26 13 18) 24 1 [0,3,1]<|
   .o (.bF 3 24) 25 1 [1]<|
   .o (.bin .neq 3 23 25) 26 1 []<|
   .eO 26 (
    .fT<|
    .ret (.bool false)) (
    .o (.bin .add 3 18 (I 1)) 27 1 []<|
    .back [27,19])) (
   .fT<|
   .ret (.bool true))))
theorem gU:jj Tryd.prog 21 {} [.agg ⟨[0,1,2,3,4,5,6]⟩,.agg ⟨[7,8,9,10,11,12,13]⟩] 14=some t:=k4 au
theorem any {W:ax} {b:bQ} {a fR:Option Addr} {n c n2 c2:Nat} {cells:List Int} (hl:cu (aF W) 1 ga (.slice a n c) cells) (tc:cu (aF W) 1 ga (.slice fR n2 c2) cells) (av:n=cells.length) (lb:n2=cells.length) (ad:cells.length<=1000000):Y6 ej 21 [l_ b (.slice a n c),l_ b (.slice fR n2 c2)] W (.bool true):=by
 subst av lb;refine Y7 (ro:=[⟨mA,.slice a cells.length c,cells⟩,⟨mA,.slice fR cells.length c2,cells⟩]) mixed gU [I b.1,I b.2.1,I b.2.2.1,I b.2.2.2.1,I b.2.2.2.2.1,I b.2.2.2.2.2,.slice a cells.length c,I b.1,I b.2.1,I b.2.2.1,I b.2.2.2.1,I b.2.2.2.2.1,I b.2.2.2.2.2,.slice fR cells.length c2] (.cons hl (.cons tc (.nil _))) ?_;unfold t;refine Y9 (b:=true) (xs:=v7 b) (ys:=v7 b) U U (by
  have h:pT ej 10000 25 (.agg ⟨v7 b⟩) (.agg ⟨v7 b⟩)=some ((b.1==b.1&&(b.2.1==b.2.1&&(b.2.2.1==b.2.2.1&&true)))&&((b.2.2.2.1==b.2.2.2.1&&(b.2.2.2.2.1==b.2.2.2.2.1&&(b.2.2.2.2.2==b.2.2.2.2.2&&true)))&&true)):=by kernel_rfl
  rw[h]
  simp) ?_
 refine Hg rfl ?_;refine cy ?_;refine kE rfl (λh=>absurd rfl h) λ_=> ?_
 refine xo Nat (λi=>[I (i:Nat),.bool false]) (λ_=>[]) (λi=>i<=cells.length) (λi=>cells.length-i) 0 U U (Nat.zero_le _) (λi ag=> ?_);refine cy ?_;refine kE rfl (λb8=> ?_) λ_=> ?_
 ·refine cy ?_
  refine kE rfl (λh=>absurd rfl h) λ_=> ?_
  refine cy ?_;exact oo (i+1) U U ar ar
 ·refine cy ?_
  exact oX rfl
end acV
abbrev h0 (g:Nat) (A:de) (e:bW):a1 ej:= .any (c7 g A e)
end AE
end
end
section
noncomputable section
namespace AE
theorem mn.L2 {W w:ax} {ro:List (iO ej)} {L:List (a1 ej)} (h:mn (aF W)) (hw:py W [] ro L w):mn (aF w):=h.mono λi o ag=>hw.ext i o ag (DX i)
theorem aoV:xp ej CM 6 48=true:=au
abbrev wC:iR ej:=Al (α:=gu) default CM 6 48 xF aoV
theorem aoW {l:List gu} {k:Nat} (h:k<l.length):l.drop k=l.getD k default::l.drop (k+1):=by
 rw[List.drop_eq_getElem_cons h,dh,fA h];rfl
theorem aoX {l:List gu} {k:Nat} (h:k<l.length):l.take (k+1)=l.take k++[l.getD k default]:=by
 rw[List.take_succ_eq_append_getElem h,dh,fA h];rfl
theorem aoY {b:bQ} {x:gu} {r:List gu} (ad:x.1<3) (af:xL x∉ka b r) (ay:xK b x):ka b (x::r)=ka b r++[xL x]:=aQ ⟨ad,af,ay⟩
theorem TZ {b:bQ} {x:gu} {r:List gu} (h:¬(x.1<3/\xL x∉ka b r/\xK b x)):ka b (x::r)=ka b r:=aU h
namespace acW
def t:bL:=
.c 7 [.agg ⟨[0,1,2,3,4,5,6]⟩,7,8,9] 10 1<|
.o (.un .not 10) 11 1 []<|
.eO 11 (
 .c 8 [] 12 1<|
 .ret 12) (
 .call 9 [.agg ⟨[0,1,2,3,4,5,6]⟩,7,8,I 100] (.tuple ⟨[12,13]⟩) 2<|
 .call 9 [.agg ⟨[0,1,2,3,4,5,6]⟩,7,8,I 100] (.tuple ⟨[14,15]⟩) 2<|
 .o (.bin .neq 35 13 (I 0)) 16 1 []<|
 .eO 16 (
  .c 8 [] 17 1<|
  .eO 17 (
   .o (.bin .eql 35 13 (I 1)) 18 1 []<|
   .eO 18 (
    .o (.bin .eql 35 15 (I 1)) 19 1 []<|
    .ret 19) (
    .ret (.bool false))) (
   .ret (.bool false))) (
  .o (.bin .neq 35 15 (I 0)) 17 1 []<|
  .eO 17 (
   .c 8 [] 18 1<|
   .eO 18 (
    .o (.bin .eql 35 13 (I 1)) 19 1 []<|
    .eO 19 (
     .o (.bin .eql 35 15 (I 1)) 20 1 []<|
     .ret 20) (
     .ret (.bool false))) (
    .ret (.bool false))) (
   .o (.bin .eql 34 12 (.pointer none)) 18 1 []<|
   .eO 18 (
    .c 8 [] 19 1<|
    .eO 19 (
     .o (.bin .eql 35 13 (I 1)) 20 1 []<|
     .eO 20 (
      .o (.bin .eql 35 15 (I 1)) 21 1 []<|
      .ret 21) (
      .ret (.bool false))) (
     .ret (.bool false))) (
    .o (.bin .eql 34 14 (.pointer none)) 19 1 []<|
    .eO 19 (
     .c 8 [] 20 1<|
     .eO 20 (
      .o (.bin .eql 35 13 (I 1)) 21 1 []<|
      .eO 21 (
       .o (.bin .eql 35 15 (I 1)) 22 1 []<|
       .ret 22) (
       .ret (.bool false))) (
      .ret (.bool false))) (
     .vP 53<|
     .o (.len #[31] 3 9) 21 1 [0,39]<|
     .o (.bin .sub 3 21 (I 1)) 22 1 []<|
     .loop [22] 1<|
     .o (.bin .geq 3 23 (I 0)) 24 1 []<|
     .eO 24 (
      .o (.dC 31 9 23) 25 1 [0,39,6]<|
      .o (.bF 39 25) (.agg ⟨kC 6 26⟩) 6 [6]<|
      .o (.bin .lss 3 26 (I 3)) 32 1 []<|
      .eO 32 (
       .o (.kX 53 20 (.agg ⟨[26,28,29,30]⟩) false) 33 1 []<|
       .o (.un .not 33) 34 1 []<|
       .eO 34 (
        .call 13 [14,.agg ⟨[26,27,28,29,30,31]⟩] 35 1<|
        .o (.bin .eql 35 35 (I 0)) 36 1 []<|
        .eO 36 (
         .vQ 53 20 (.agg ⟨[26,28,29,30]⟩) (.bool true)<|
         .o (.bin .sub 3 23 (I 1)) 37 1 []<|
         .back [37]) (
         .o (.bin .sub 3 23 (I 1)) 37 1 []<|
         .back [37])) (
        .o (.bin .sub 3 23 (I 1)) 35 1 []<|
        .back [35])) (
       .o (.bin .sub 3 23 (I 1)) 33 1 []<|
       .back [33])) (
      .fT<|
      .o (.len #[31] 3 9) 25 1 [0,39]<|
      .loop [I 0] 1<|
      .o (.bin .lss 3 26 25) 27 1 []<|
      .eO 27 (
       .o (.dC 31 9 26) 28 1 [0,39,6]<|
       .o (.bF 39 28) (.agg ⟨kC 6 29⟩) 6 [6]<|
       .call 13 [12,.agg ⟨[29,30,31,32,33,34]⟩] 35 1<|
       .o (.bin .add 3 26 (I 1)) 36 1 []<|
       .back [36]) (
       .fT<|
       .call 12 [12] 28 1<|
       .call 12 [14] 29 1<|
       .c 8 [] 30 1<|
       .eO 30 (
        .call 22 [12] (.agg ⟨[31,32,33,34,35,36,37]⟩) 7<|
        .call 22 [14] (.agg ⟨[38,39,40,41,42,43,44]⟩) 7<|
        .c 21 [.agg ⟨[31,32,33,34,35,36,37]⟩,.agg ⟨[38,39,40,41,42,43,44]⟩] 45 1<|
        .eO 45 (
         .call 15 [12] 46 1<|
         .call 15 [14] 47 1<|
         .c 20 [46,47] 48 1<|
         .ret 48) (
         .ret (.bool false))) (
        .ret (.bool false)))))))))
theorem gU:jj Tryd.prog 5 {pw:=[12,9,13,22,15],marks:=[1000000]} [.agg ⟨[0,1,2,3,4,5,6]⟩,7,8,9] 10=some t:=k4 au
theorem any (W:ax) {a0:c6} {dV dw:Nat} {cells:List Int} (T0:cu (aF W) 1 ga (.slice a0 dV dw) cells) (b:bQ) {v1 gx v3:J} {table:List cX} {known:List Bool} {l:List gu} (Dx:cu (aF W) 8 jf v1 table) (tc:cu (aF W) 1 iQ gx known) (wZ:cu (aF W) 6 xF v3 l) (bS:mn (aF W)) (fq:dV=cells.length):
  Calls Tryd.prog 5 #[l_ b (.slice a0 dV dw),v1,gx,v3] W λe w'=>e= .returned (.bool true)/\cb W.heap.size W w':=by
 subst fq;obtain⟨ev,gM,rfl⟩:=Dx.slice;obtain⟨fR,c2,rfl⟩:=tc.slice;obtain⟨a3,c3,rfl⟩:=wZ.slice;refine Y7 (ro:=[⟨mA,.slice a0 cells.length dw,cells⟩,⟨xt,.slice ev table.length gM,table⟩,⟨sw,.slice fR known.length c2,known⟩,⟨wC,.slice a3 l.length c3,l⟩]) mixed gU [I b.1,I b.2.1,I b.2.2.1,I b.2.2.2.1,I b.2.2.2.2.1,I b.2.2.2.2.2,.slice a0 cells.length dw,.slice ev table.length gM,.slice fR known.length c2,.slice a3 l.length c3] (.cons T0 (.cons Dx (.cons tc (.cons wZ (.nil _))))) ?_;unfold t;have oL:∀{L:List (a1 ej)} {w:ax},py W [] [⟨mA,.slice a0 cells.length dw,cells⟩,⟨xt,.slice ev table.length gM,table⟩,⟨sw,.slice fR known.length c2,known⟩,⟨wC,.slice a3 l.length c3,l⟩] L w->cu (aF w) 1 ga (.slice a0 cells.length dw) cells:=λhw=>hw.ro 0 _ rfl
 have cJ:∀{L:List (a1 ej)} {w:ax},py W [] [⟨mA,.slice a0 cells.length dw,cells⟩,⟨xt,.slice ev table.length gM,table⟩,⟨sw,.slice fR known.length c2,known⟩,⟨wC,.slice a3 l.length c3,l⟩] L w->cu (aF w) 8 jf (.slice ev table.length gM) table:=λhw=>hw.ro 1 _ rfl
 have dk:∀{L:List (a1 ej)} {w:ax},py W [] [⟨mA,.slice a0 cells.length dw,cells⟩,⟨xt,.slice ev table.length gM,table⟩,⟨sw,.slice fR known.length c2,known⟩,⟨wC,.slice a3 l.length c3,l⟩] L w->cu (aF w) 1 iQ (.slice fR known.length c2) known:=λhw=>hw.ro 2 _ rfl
 have fQ:∀{L:List (a1 ej)} {w:ax},py W [] [⟨mA,.slice a0 cells.length dw,cells⟩,⟨xt,.slice ev table.length gM,table⟩,⟨sw,.slice fR known.length c2,known⟩,⟨wC,.slice a3 l.length c3,l⟩] L w->cu (aF w) 6 xF (.slice a3 l.length c3) l:=λhw=>hw.ro 3 _ rfl
 have T1:∀{L:List (a1 ej)} (w:ax),py W [] [⟨mA,.slice a0 cells.length dw,cells⟩,⟨xt,.slice ev table.length gM,table⟩,⟨sw,.slice fR known.length c2,known⟩,⟨wC,.slice a3 l.length c3,l⟩] L w->Calls ej 8 #[] w λe w'=>e= .returned (.bool true)/\cb w.heap.size w w':=λw hw=>ab6.any w (bS.L2 hw)
 refine sq (v:= .bool (decide (u0 cells table known l.length))) (λw hw=>abU.any w (b:=b) (oL hw) (cJ hw) (dk hw) (fQ hw) rfl) ?_;refine QG rfl ?_;refine En rfl (λ_=>sq T1 (oX rfl)) λaM=> ?_
 have kf:l.length<=30:=aM.2.1;have q1:=aM.2.2.2.2;have aE:=aM.2.2.1.1;have ca:cells.length<=120:=aM.1;by_cases og:pE b cells table known 100
 ·obtain⟨L0,_⟩:=LK og ar
  obtain⟨ae,aC⟩:=aoL og ar;obtain⟨e0,qX⟩:∃e0,e0=lO b cells table known 100:=⟨_,rfl⟩;have e7:e0.b=b:=by rw[qX];rfl
  have uD:e0.most=100:=by rw[qX];rfl
  have pH:e0.u.reqs.length=0:=by rw[qX];rfl
  have aqC:e0.cells.length=cells.length:=by rw[qX];rfl
  have acX:∀{L:List (a1 ej)} {jE:List (a1 ej)} (w:ax),py W [] [⟨mA,.slice a0 cells.length dw,cells⟩,⟨xt,.slice ev table.length gM,table⟩,⟨sw,.slice fR known.length c2,known⟩,⟨wC,.slice a3 l.length c3,l⟩] L w->cv (aF w) (ct ([]:List (a1 ej)))->jZ ej 9 [l_ b (.slice a0 cells.length dw),.slice ev table.length gM,.slice fR known.length c2,I 100] w [] (Nat×de) (λy=> .tuple ⟨[ch y.1,I 0]⟩) (λy=>[h0 y.1 y.2 e0]):=λw hw aN=>by
   rw[qX];exact ab5 (b:=b) aN (oL hw) (cJ hw) (dk hw) (bS.L2 hw) ar rfl ar ar og
  rw[<-qX] at L0;refine l6 (v:=λ(y:Nat×de)=> .tuple ⟨[ch y.1,I 0]⟩) (N:=λ(y:Nat×de)=>[h0 y.1 y.2 e0]) (eb:=[]) (L':=λy=>[h0 y.1 y.2 e0]) [] (λy=>[ch y.1,I 0]) (λw hw aN=>acX (jE:=[]) w hw aN) λy=> ?_
  refine l6 (v:=λ(y:Nat×de)=> .tuple ⟨[ch y.1,I 0]⟩) (N:=λ(y:Nat×de)=>[h0 y.1 y.2 e0]) (eb:=[]) (L':=λz=>[h0 y.1 y.2 e0,h0 z.1 z.2 e0]) [] (λy=>[ch y.1,I 0]) (λw hw aN=>acX (jE:=[]) w hw aN) λz=> ?_
  refine K4 U U ?_;refine Hg rfl ?_;refine K4 U U ?_;refine Hg rfl ?_;refine Y3 rfl ?_;refine Hg rfl ?_;refine Y3 rfl ?_;refine Hg rfl ?_;refine ajG (L':=λg=>[h0 y.1 y.2 e0,h0 z.1 z.2 e0,.any (js g [])]) (λ_=>p9) λmE=> ?_
  refine cy ?_;refine xo (Nat×bW×de) (λu=>[I (((u.1:Nat):Int)-1)]) (λu=>[h0 y.1 y.2 e0,h0 z.1 u.2.2 u.2.1,.any (js mE (mD (ka b (l.drop u.1))))]) (λu=>u.1<=l.length/\rL e0 u.2.1 (l.drop u.1)) (λu=>u.1) (l.length,e0,z.2) rfl (by
   show _=[_,_,a1.any (js mE (mD (ka b (l.drop l.length))))];rw[List.drop_length]
   rfl) (by
   refine⟨b2 _,?_⟩;show rL e0 e0 (l.drop l.length);rw[List.drop_length]
   exact rL.zero L0 pH) (λu hu=> ?_)
  obtain⟨k,f,A⟩:=u;obtain⟨mr,cC⟩:k<=l.length/\rL e0 f (l.drop k):=hu;dsimp only;rcases k with _|k
  ·refine cy ?_
   refine kE rfl (λh=>absurd h cz) λ_=> ?_
   refine QI ?_;refine cy ?_;rw[List.drop_zero] at cC;refine xo (Nat×bW×de) (λu=>[I (u.1:Nat)]) (λu=>[h0 y.1 u.2.2 u.2.1,h0 z.1 A f,.any (js mE (mD (ka b (l.drop 0))))]) (λu=>u.1<=l.length/\xN e0 u.2.1 (l.take u.1)) (λu=>l.length-u.1) (0,e0,y.2) U U ⟨Nat.zero_le _,xN.zero L0 pH⟩ (λu hu=> ?_);obtain⟨i,e,fl⟩:=u;obtain⟨pk,c0⟩:i<=l.length/\xN e0 e (l.take i):=hu;dsimp only;have L_:(l.take i).length=i:=by rw[List.length_take];omega
   refine cy ?_;refine kE rfl (λag=> ?_) λag=> ?_
   ·have ag:i<l.length:=by omega
    obtain⟨x,ak⟩:∃x,x=l.getD i default:=⟨_,rfl⟩;refine K5 (K:=wC) (l:=l) (j:=i) U U ?_;refine Em (K:=wC) (l:=l) (j:=i) (o:=0) (c:=xF x) rfl (by rw[ak];rfl) rfl mz ?_;refine l6 (v:=λ_=>I (qh e x)) (N:=λ(a_:de)=>[h0 y.1 a_ (km e x)]) (eb:=[h0 y.1 fl e]) (L':=λa_=>[h0 y.1 a_ (km e x),h0 z.1 A f,.any (js mE (mD (ka b (l.drop 0))))]) [0] (λ_=>[I (qh e x)]) (λw _ aN=>TU.any w aN x c0.odd.ok) λa_=> ?_
    refine cy ?_;refine oo (u:=(i,e,fl)) (i+1,km e x,a_) U U ⟨ag,?_⟩ (by show l.length-(i+1)<l.length-i;omega);show xN e0 (km e x) (l.take (i+1));rw[aoX ag,<-ak];exact c0.next (by rw[uD,L_];omega) (by rw[L_];omega) x
   ·obtain rfl:i=l.length:=by omega
    rw[List.take_length] at c0;refine QI ?_;obtain⟨gV,gO,pc,q7,sR⟩:=aoO c0 cC;obtain⟨E,eV⟩:∃E,E=jI e:=⟨_,rfl⟩;obtain⟨F,acY⟩:∃F,F=jI f:=⟨_,rfl⟩;have aoZ:E.b=b:=by rw[eV];exact c0.odd.b.trans e7
    rw[<-eV] at gV pc q7 sR;rw[<-acY] at gO pc q7 sR;have ao0:E.cells.length=cells.length:=by rw[gV.EN,aoZ];exact aC.symm
    have aqD:E.u.aH.length=cells.length:=gV.oB.HB.trans (gV.lc.symm.trans ao0);refine l6 (v:=λ_=>I (uZ e:Nat)) (N:=λ(a_:de)=>[h0 y.1 a_ E]) (eb:=[h0 y.1 fl e]) (L':=λa_=>[h0 y.1 a_ E,h0 z.1 A f,.any (js mE (mD (ka b (l.drop 0))))]) [0] (λ_=>[I (uZ e:Nat)]) (λw _ aN=>LN aN c0.odd.ok eV.symm rfl) λq_=> ?_
    refine l6 (v:=λ_=>I (uZ f:Nat)) (N:=λ(a_:de)=>[h0 z.1 a_ F]) (eb:=[h0 z.1 A f]) (L':=λa_=>[h0 y.1 q_ E,h0 z.1 a_ F,.any (js mE (mD (ka b (l.drop 0))))]) [1] (λ_=>[I (uZ f:Nat)]) (λw _ aN=>LN aN cC.odd.ok acY.symm rfl) λra=> ?_
    refine sq T1 ?_;refine Hf rfl ?_;refine l6 (v:=λ(d:dY)=>l_ E.b (.slice d.1 E.cells.length d.2)) (N:=λ(d:dY)=>[h0 y.1 q_ E,a1.arr mA (.slice d.1 E.cells.length d.2) E.cells]) (eb:=[h0 y.1 q_ E]) (L':=λd=>[h0 y.1 q_ E,h0 z.1 ra F,.any (js mE (mD (ka b (l.drop 0)))),a1.arr mA (.slice d.1 E.cells.length d.2) E.cells]) [0] (λd=>[I E.b.1,I E.b.2.1,I E.b.2.2.1,I E.b.2.2.2.1,I E.b.2.2.2.2.1,I E.b.2.2.2.2.2,.slice d.1 E.cells.length d.2]) (λw _ aN=>Sv w aN ar) λzi=> ?_
    refine l6 (v:=λ(d:dY)=>l_ E.b (.slice d.1 E.cells.length d.2)) (N:=λ(d:dY)=>[h0 z.1 ra F,a1.arr mA (.slice d.1 E.cells.length d.2) E.cells]) (eb:=[h0 z.1 ra F]) (L':=λd=>[h0 y.1 q_ E,h0 z.1 ra F,.any (js mE (mD (ka b (l.drop 0)))),a1.arr mA (.slice zi.1 E.cells.length zi.2) E.cells,a1.arr mA (.slice d.1 E.cells.length d.2) E.cells]) [1] (λd=>[I E.b.1,I E.b.2.1,I E.b.2.2.1,I E.b.2.2.2.1,I E.b.2.2.2.2.1,I E.b.2.2.2.2.2,.slice d.1 E.cells.length d.2]) (λw _ aN=>by
     have:=Sv w aN (by rw[q7];omega);rw[pc,q7] at this
     exact this) λoF=> ?_
    refine sq (v:= .bool true) (λw hw=>acV.any ((mX.arr (K:=mA) (v:= .slice zi.1 E.cells.length zi.2) (l:=E.cells) has).at hw) ((mX.arr (K:=mA) (v:= .slice oF.1 E.cells.length oF.2) (l:=E.cells) has).at hw) U U ar) ?_;refine Hf rfl ?_;refine l6 (v:=λ(d:dY)=> .slice d.1 E.u.aH.length d.2) (N:=λ(d:dY)=>[h0 y.1 q_ E,a1.arr qL (.slice d.1 E.u.aH.length d.2) E.u.aH]) (eb:=[h0 y.1 q_ E]) (L':=λd=>[h0 y.1 q_ E,h0 z.1 ra F,.any (js mE (mD (ka b (l.drop 0)))),a1.arr mA (.slice zi.1 E.cells.length zi.2) E.cells,a1.arr mA (.slice oF.1 E.cells.length oF.2) E.cells,a1.arr qL (.slice d.1 E.u.aH.length d.2) E.u.aH]) [0] (λd=>[.slice d.1 E.u.aH.length d.2]) (λw _ aN=>LA w aN ar) λIw=> ?_
    refine l6 (v:=λ(d:dY)=> .slice d.1 E.u.aH.length d.2) (N:=λ(d:dY)=>[h0 z.1 ra F,a1.arr qL (.slice d.1 E.u.aH.length d.2) E.u.aH]) (eb:=[h0 z.1 ra F]) (L':=λd=>[h0 y.1 q_ E,h0 z.1 ra F,.any (js mE (mD (ka b (l.drop 0)))),a1.arr mA (.slice zi.1 E.cells.length zi.2) E.cells,a1.arr mA (.slice oF.1 E.cells.length oF.2) E.cells,a1.arr qL (.slice Iw.1 E.u.aH.length Iw.2) E.u.aH,a1.arr qL (.slice d.1 E.u.aH.length d.2) E.u.aH]) [1] (λd=>[.slice d.1 E.u.aH.length d.2]) (λw _ aN=>by
     have:=LA w aN (by rw[sR];omega);rw[sR] at this
     exact this) λacZ=> ?_
    refine sq (v:= .bool true) (λw hw=>EY (acU.any w ((mX.arr (K:=qL) (v:= .slice Iw.1 E.u.aH.length Iw.2) (l:=E.u.aH) has).at hw) ((mX.arr (K:=qL) (v:= .slice acZ.1 E.u.aH.length acZ.2) (l:=E.u.aH) has).at hw) ar) rfl) ?_;exact oX rfl
  ·have aj:k<l.length:=by omega
   rw[show (((k+1:Nat):Int)-1)=((k:Nat):Int) by omega];refine cy ?_;refine kE rfl (λ_=> ?_) λh=>absurd (Int.natCast_nonneg k) h
   obtain⟨x,ak⟩:∃x,x=l.getD k default:=⟨_,rfl⟩;have bc:l.drop k=x::l.drop (k+1):=by rw[ak];exact aoW aj
   obtain⟨r,ao⟩:∃r,r=l.drop (k+1):=⟨_,rfl⟩;have aqE:r.length<=30:=by rw[ao,List.length_drop];omega
   rw[<-ao] at bc cC ⊢;have iX:∀(hv:bW),rL e0 hv (x::r)->(k<=l.length/\rL e0 hv (l.drop k)):=λhv h=>⟨Nat.le_of_lt aj,by rw[bc];exact h⟩
   refine K5 (K:=wC) (l:=l) (j:=k) U U ?_;refine Em (K:=wC) (l:=l) (j:=k) (o:=0) (c:=xF x) rfl (by rw[ak];rfl) rfl mz ?_;refine cy ?_;refine kE rfl (λay=> ?_) λay=> ?_
   ·refine aoU (d:=2) (l:=ka b r) (p:=xL x) U U U ?_
    refine QG rfl ?_;refine En rfl (λT2=> ?_) λac0=> ?_
    ·refine l6 (v:=λ_=>I (qh f x)) (N:=λ(a_:de)=>[h0 z.1 a_ (km f x)]) (eb:=[h0 z.1 A f]) (L':=λa_=>[h0 y.1 y.2 e0,h0 z.1 a_ (km f x),.any (js mE (mD (ka b r)))]) [1] (λ_=>[I (qh f x)]) (λw _ aN=>TU.any w aN x cC.odd.ok) λa_=> ?_
     have D2:=cC.next (x:=x) (by rw[e7];exact ae) (by rw[uD];omega) ar ay (by rw[e7];exact T2)
     have T3:=(TW (x:=x) (cC.odd.room (by rw[uD];omega))).2.2 ay;rw[cC.odd.b,e7] at T3;refine cy ?_;refine kE rfl (λbI=> ?_) λbI=> ?_
     ·refine ajH (d:=2) (es:=mD (ka b r)) (g:=mE) TY U U U ⟨xL x,rfl⟩ (acQ T2) j8 ?_
      refine cy ?_;refine oo (u:=(k+1,f,A)) (k,km f x,a_) rfl ?_ (iX _ D2) (Nat.lt_succ_self k);show _=[_,_,a1.any (js mE (mD (ka b (l.drop k))))];rw[bc,aoY ay T2 (T3.1 bI),aoS];rfl
     ·refine cy ?_
      refine oo (u:=(k+1,f,A)) (k,km f x,a_) rfl ?_ (iX _ D2) (Nat.lt_succ_self k);show _=[_,_,a1.any (js mE (mD (ka b (l.drop k))))];rw[bc,TZ (λq=>bI (T3.2 q.2.2))]
    ·refine cy ?_
     refine oo (u:=(k+1,f,A)) (k,f,A) rfl ?_ (iX _ (cC.pass (.inr (by rw[e7];exact ac0)))) (Nat.lt_succ_self k);show _=[_,_,a1.any (js mE (mD (ka b (l.drop k))))];rw[bc,TZ (λq=>q.2.1 ac0)]
   ·refine cy ?_
    refine oo (u:=(k+1,f,A)) (k,f,A) rfl ?_ (iX _ (cC.pass (.inl ay))) (Nat.lt_succ_self k);show _=[_,_,a1.any (js mE (mD (ka b (l.drop k))))];rw[bc,TZ (λq=>ay q.1)]
 ·refine l6 (v:=λ_=> .tuple ⟨[.pointer none,I 1]⟩) (N:=λ(_:Unit)=>[]) (eb:=[]) (L':=λ_=>[]) [] (λ_=>[.pointer none,I 1]) (λw hw aN=>SO (b:=b) aN (oL hw) (cJ hw) (dk hw) (bS.L2 hw) ar rfl ar ar og) λ_=> ?_
  refine l6 (v:=λ_=> .tuple ⟨[.pointer none,I 1]⟩) (N:=λ(_:Unit)=>[]) (eb:=[]) (L':=λ_=>[]) [] (λ_=>[.pointer none,I 1]) (λw hw aN=>SO (b:=b) aN (oL hw) (cJ hw) (dk hw) (bS.L2 hw) ar rfl ar ar og) λ_=> ?_
  refine K4 U U ?_;refine Hf rfl ?_;refine sq T1 ?_;refine Hf rfl ?_;refine QF U U ?_;refine Hf rfl ?_;refine QF U U ?_;exact oX rfl
end acW
end AE
end
end
end Go.Proofs.YtepcfjbfkedlpaaDoor
namespace Go.Proofs.YtepcfjbfkedlpaaDoor
open Go Go.ChangeShapes Go.WideShapes Go.ChangeAt Go.RowKit
section
theorem ao1 (os:Os) (args:Array J):laidMetH Tryd.prog Rows.relightOrderRow.laid ((World.laidAll Tryd.prog os Rows.relightOrderRow.laid).forCall (λ_ _=>0) ⟨#[],args,[]⟩).memory:=by
 rw[MakeChecks.laidMetH_plain _ _ _ au];exact laidMet_laidAll _ au au
theorem ao2 (os:Os) (T4:os.Started) (H:Type) (enc:aJ×J->H):
  ReturnsInHanded {} Tryd.checked os 5 .any (λw args=>(Rows.relightOrderSpec.pre enc Tryd.prog Tryd.f5 [] false w args/\laidMetH Tryd.prog Rows.relightOrderRow.laid w)/\sizedMet enc Tryd.prog Tryd.f5 (OpenSpec.ofChange Rows.relightOrderSpec) false w args)
   (Rows.relightOrderSpec.post enc Tryd.prog Tryd.f5 false true false false):=by
 refine returnsInHanded_of_change_and (C:=Tryd.checked) (X:=λw _=>laidMetH Tryd.prog Rows.relightOrderRow.laid w) (λ_ _ _ ah h=>h.of_heap ah) own T4 au Tryd.func5
  (ChangeSpec.witness_shaped (enc:=enc) (C:=Tryd.checked) (os:=os) (X:=λw _=>laidMetH Tryd.prog Rows.relightOrderRow.laid w) false (World.laidAll Tryd.prog os Rows.relightOrderRow.laid) #[AE.l_ (0,0,0,0,0,0) (.slice none 0 0),.slice none 0 0,.slice none 0 0,.slice none 0 0] 8 (World.laidAll_os _ _ _)
    (World.shaped_of_ZipB au au) au au au (ao1 os _)) ?_
 intro W base args ds aqF before ao3 pg _ _ hL _;have hval:∀(j:Nat) t v,Tryd.f5.params[j]? =some t->args[j]? =some v->Value.okWide Tryd.prog W .any base t v:=ao3;have T5:=pg;obtain⟨p,q,TH,vj,rfl,_,_⟩:=pg;have lC:DataW.TrodAll enc Tryd.prog W 0 (λ_=>true) true Tryd.f5.params.toList args.toList ds p:=TH;rw[Tryd.params5] at lC hval;have ac1:=lC;obtain⟨v0,aqG,h_,aqH,sK,kf,gy,rfl,rfl,aM,oL⟩:=trodAll_cons lC;obtain⟨v1,aqI,zi,Du,gV,q1,rfl,rfl,rfl,ad,cJ⟩:=trodAll_cons oL;obtain⟨gx,YN,oF,DY,gO,aE,rfl,rfl,rfl,af,dk⟩:=trodAll_cons cJ;obtain⟨v3,aqJ,Iw,afm,pc,ca,rfl,rfl,rfl,ay,fQ⟩:=trodAll_cons dk;obtain⟨rfl,rfl,rfl⟩:=trodAll_nil fQ;obtain rfl:args= #[v0,v1,gx,v3]:=by cases args;simp_all
 obtain⟨rfl,rfl⟩:=trodVars_none vj;obtain⟨cB,a0,q0,dw,d',rfl,T0,fq⟩:=amo (hval 0 28 v0 U U) aM;obtain⟨l1,Dx⟩:=agr (hval 1 29 v1 U U) ad;obtain⟨lU,tc⟩:=aml (hval 2 30 gx U U) af;obtain⟨aqK,wZ⟩:=amm (hval 3 31 v3 U U) ay;simp only [List.append_nil,<-List.append_assoc] at T5 ac1;have b8:∀x∈sK++gV++gO++pc,x.block<W.heap.size:=λx ak=>by simpa using T5.lt x ak
 refine(AE.acW.any W T0 cB Dx tc wZ (ags hL rfl) fq).mono λe W' ⟨he,ae⟩=> ?_
 subst he;exact⟨_,rfl,_,_,_,[],sK++gV++gO++pc,[],T5,trodAll_mk1 (shut_bool Tryd.underlying4 _),Wu agm ae.below _ _ _ _ au ac1 b8,rfl,ae.below.frame _,λh=>by cases h⟩
theorem ao4:Rows.RelightOrderSaid:=
 OpenClaim.holds_of_wide 5 Tryd.f5 U U U U U U U ⟨rfl,rfl,rfl,rfl,rfl⟩ U U U U U au Tryd.func5 au
  (of_decide_eq_true au) (by unfold Func.isWrapper;first|(rw[aQ (by decide +kernel)];kernel_rfl)|(rw[aU (by decide +kernel)];exact⟨rfl,rfl⟩))
  (λos T4 H enc _=>ao2 os T4 H enc)
theorem relightOrder_card:Rows.RelightOrderCardSaid:=
 Claim7.holds_tied_plain_at .later [] [.widerDeep] true (true,"78eb4871fa419e5ac688e7dc1fcbc34f891c58178f14bf11d800c71083c6e710") false ao4 (λ_ h=>by cases h) au (λ_ h=>by cases h) relightOrder_row_tie rfl ⟨rfl,rfl⟩ au rfl
  (λf fn aO mM=>by
    obtain rfl:f=5:=Option.some.inj ((show Tryd.prog.funcNamed "voxel/voxellaw34.RelightOrder"=some 5 by kernel_rfl).symm.trans aO) |>.symm;obtain rfl:fn=Tryd.f5:=(Option.some.inj (Tryd.func5.symm.trans mM)).symm;exact⟨au,λj t aK=>by
     rw[Tryd.params5] at aK;have hm:=Array.mem_of_getElem? aK;have la:(Tryd.f5.params.toList.all λu=> !Tryd.prog.wantsStandIn u)=true:=by kernel_rfl
     rw[Tryd.params5] at la;have hw:=List.all_eq_true.1 la t (by simpa using hm)
     exact(show Tryd.prog.wantsStandIn t=false by simpa using hw)⟩)
  au
#print axioms relightOrder_card
end
end Go.Proofs.YtepcfjbfkedlpaaDoor
