/- RELIGHTLIMIT: the card. No condition beyond the row. -/
import Derived.Test.YtepcfjbfkedlpaaDoorLm5
import Derived.Test.YtepcfjbfkedlpaaDoorTie
import Derived.Test.YtepcfjbfkedlpaaDoorCards
set_option maxRecDepth 100000
set_option maxHeartbeats 4000000
noncomputable section
namespace Go.Proofs.YtepcfjbfkedlpaaDoor
open Go Go.Proofs Go.RowKit
namespace AE
namespace abM
noncomputable def body:Code:=(Tryd.f8.body).getD .skip
def N:Nat:=149
noncomputable abbrev bC:=fm Tryd.prog Tryd.f8
def aO:b8:={sl:=b3 [],ms:=[],A:=start}
abbrev gA:=at' 149 [] [] body aO
def dF:List bx:=[⟨.cells [I 0,I 0,I 0,I 1,I 1,I 4,.slice (some ⟨1,0,none⟩) 4 4],28,0⟩,⟨.cells [I 3,I 0,I 0,I 0],3,0⟩]
def hd0:aF:=b3 [(17,.agg ⟨[I 0,I 0,I 0,I 1,I 1,I 4,.slice (some ⟨1,0,none⟩) 4 4]⟩),(0,.bool false)]
def hp0:aF:=(bY.set 0 depth hd0 18).getD .nil
theorem e0:sn gA 3 18=some ([cD [97,105,114],.bool false,.bool false,.bool false,I 1,I 0,I 0,I 0,cD [115,116,111,110,101],.bool true,.bool false,.bool false,I 16,I 0,I 0,I 0,cD [103,108,97,115,115],.bool true,.bool false,.bool false,I 1,I 0,I 0,I 0,cD [108,97,109,112],.bool true,.bool false,.bool false,I 16,I 15,I 14,I 10,cD [115,97,110,100],.bool true,.bool false,.bool true,I 16,I 0,I 0,I 0,cD [119,97,116,101,114],.bool false,.bool true,.bool false,I 3,I 0,I 0,I 0,cD [108,101,97,118,101,115],.bool true,.bool false,.bool false,I 2,I 0,I 0,I 0,cD [101,109,98,101,114],.bool true,.bool false,.bool false,I 16,I 9,I 3,I 0,cD [102,111,103],.bool false,.bool false,.bool false,I 2,I 0,I 0,I 0],9,9):=au
theorem e1:cr (b9 gA) hd0 dF=some []:=au
theorem e2:bY.set 0 depth hd0 18=some hp0:=au
abbrev jx:=(lp {sl:=hp0,ms:=[],A:=da dF} gA)
def hy:List bx:=[]
def ht:aF:=b3 [(18,0),(0,.bool false)]
def hp1:aF:=(bY.set (.agg ⟨[I 0,I 0,I 0,I 1,I 1,I 4,1]⟩) depth ht 17).getD .nil
theorem e3:Kz jx 1 17 6=some ([I 3,I 0,I 0,I 0],4,4,[I 0,I 0,I 0,I 1,I 1,I 4,.slice (some ⟨1,0,none⟩) 4 4]):=au
theorem hD:cr (b9 jx) ht hy=some [(0,0)]:=au
theorem ku:bY.set (.agg ⟨[I 0,I 0,I 0,I 1,I 1,I 4,.slice (some ⟨1,0,none⟩) 4 4].set 6 1⟩) depth ht 17=some hp1:=au
theorem h4:hb ((lp (b5 hp1 hy) jx))=some (9,[.agg ⟨[I 0,I 0,I 0,I 1,I 1,I 4,1]⟩,0,.slice none 0 0,I 2]):=au
abbrev pk:=(lp {sl:=hp1,ms:=[],A:=da hy} jx)
def kh:List bx:=[]
def k1:aF:=b3 [(0,.bool false)]
def hp2:aF:=fa 149 k1 19 (.tuple ⟨[2,I 0]⟩)
theorem e9:cr (b9 pk) k1 kh=some []:=au
def jf:dU:=(body,[1,0],3)
abbrev yT:=cK 149 [] [] jf {sl:=hp2,ms:=[],A:=da kh}
def rJ:List bx:=[⟨.cells [I 0,I 0,I 0,I 1,I 1,I 4,.slice (some ⟨1,0,none⟩) 4 4],28,0⟩,⟨.cells [I 3,I 0,I 0,I 0],3,0⟩]
def u2:aF:=b3 [(23,.agg ⟨[I 0,I 0,I 0,I 1,I 1,I 4,.slice (some ⟨1,0,none⟩) 4 4]⟩),(2,I 0),(1,2),(0,.bool false)]
def hp3:aF:=(bY.set 3 depth u2 24).getD .nil
theorem yU:sn yT 3 24=some ([cD [97,105,114],.bool false,.bool false,.bool false,I 1,I 0,I 0,I 0,cD [115,116,111,110,101],.bool true,.bool false,.bool false,I 16,I 0,I 0,I 0,cD [103,108,97,115,115],.bool true,.bool false,.bool false,I 1,I 0,I 0,I 0,cD [108,97,109,112],.bool true,.bool false,.bool false,I 16,I 15,I 14,I 10,cD [115,97,110,100],.bool true,.bool false,.bool true,I 16,I 0,I 0,I 0,cD [119,97,116,101,114],.bool false,.bool true,.bool false,I 3,I 0,I 0,I 0,cD [108,101,97,118,101,115],.bool true,.bool false,.bool false,I 2,I 0,I 0,I 0,cD [101,109,98,101,114],.bool true,.bool false,.bool false,I 16,I 9,I 3,I 0,cD [102,111,103],.bool false,.bool false,.bool false,I 2,I 0,I 0,I 0],9,9):=au
theorem tR:cr (b9 yT) u2 rJ=some [(2,2)]:=au
theorem yV:bY.set 3 depth u2 24=some hp3:=au
abbrev tM:=(lp {sl:=hp3,ms:=[],A:=da rJ} yT)
def tN:List bx:=[]
def tO:aF:=b3 [(24,3),(2,I 0),(1,2),(0,.bool false)]
def qc:aF:=(bY.set (.agg ⟨[I 0,I 0,I 0,I 1,I 1,I 4,4]⟩) depth tO 23).getD .nil
theorem Cj:Kz tM 1 23 6=some ([I 3,I 0,I 0,I 0],4,4,[I 0,I 0,I 0,I 1,I 1,I 4,.slice (some ⟨1,0,none⟩) 4 4]):=au
theorem tK:cr (b9 tM) tO tN=some [(2,2),(3,3)]:=au
theorem yZ:bY.set (.agg ⟨[I 0,I 0,I 0,I 1,I 1,I 4,.slice (some ⟨1,0,none⟩) 4 4].set 6 4⟩) depth tO 23=some qc:=au
theorem tS:hb ((lp (b5 qc tN) tM))=some (9,[.agg ⟨[I 0,I 0,I 0,I 1,I 1,I 4,4]⟩,3,.slice none 0 0,I 0]):=au
abbrev RU:=(lp {sl:=qc,ms:=[],A:=da tN} tM)
def Cn:List bx:=[]
def HP:aF:=b3 [(2,I 0),(1,2),(0,.bool false)]
def Co:aF:=fa 149 HP 25 (.tuple ⟨[.pointer none,I 1]⟩)
theorem HE:cr (b9 RU) HP Cn=some [(2,2)]:=au
def Cp:dU:=(body,[1,1,0],3)
def cd:bj:=[(.bin .eql 34 2 (.pointer none),.bool false)]
theorem RI:hb (cK 149 cd [] Cp (b5 Co Cn))=some (12,[2]):=au
abbrev RW:=cK 149 cd [] Cp {sl:=Co,ms:=[],A:=da Cn}
def Cq:List bx:=[]
def HQ:aF:=b3 [(1,2),(0,.bool false)]
def Cr:aF:=fa 149 HQ 39 5
theorem HK:cr (b9 RW) HQ Cq=some [(2,2)]:=au
def Ct:dU:=(body,[1,1,1,1,0],2)
theorem RV:hb (cK 149 [] [] Ct (b5 Cr Cq))=some (15,[2]):=au
abbrev RY:=cK 149 [] [] Ct {sl:=Cr,ms:=[],A:=da Cq}
def Cu:List bx:=[]
def HR:aF:=b3 [(1,2),(0,.bool false)]
def Cv:aF:=fa 149 HR 41 6
theorem amd:cr (b9 RY) HR Cu=some [(2,2)]:=au
def Cw:dU:=(body,[1,1,1,1,1,0],2)
theorem ame:hb (cK 149 [] [] Cw (b5 Cv Cu))=some (11,[2]):=au
abbrev R0:=cK 149 [] [] Cw {sl:=Cv,ms:=[],A:=da Cu}
def Ek:List bx:=[]
def HS:aF:=b3 [(5,6),(1,2),(0,.bool false)]
def El:aF:=fa 149 HS 43 (.bool true)
theorem RX:cr (b9 R0) HS Ek=some [(2,2),(6,6)]:=au
def Em:dU:=(body,[1,1,1,1,1,1,0],2)
theorem amf:hb (cK 149 [] [] Em (b5 El Ek))=some (29,[6,I 0]):=au
abbrev R4:=cK 149 [] [] Em {sl:=El,ms:=[],A:=da Ek}
def HT:List bx:=[]
def HU:aF:=b3 [(44,.bool true),(5,6),(1,2),(0,.bool false)]
def Ej:aF:=fa 149 HU 46 7
theorem RZ:cr (b9 R4) HU HT=some [(2,2),(6,6)]:=au
def HV:dU:=(body,[1,1,1,1,1,1,0],5)
abbrev En:=cK 149 [] [] HV {sl:=Ej,ms:=[],A:=da HT}
def Cx:List bx:=[]
def Eo:aF:=b3 [(46,7),(44,.bool true),(5,6),(1,2),(0,.bool false)]
def Cy:aF:=(bY.set 8 depth Eo 47).getD .nil
theorem amg:sn En 0 47=some ([I 15,I 14,I 13,I 12],4,4):=au
theorem R1:cr (b9 En) Eo Cx=some [(2,2),(6,6),(7,7)]:=au
theorem R2:bY.set 8 depth Eo 47=some Cy:=au
theorem R3:hb ((lp (b5 Cy Cx) En))=some (28,[7,8]):=au
abbrev R8:=(lp {sl:=Cy,ms:=[],A:=da Cx} En)
def Ep:List bx:=[]
def HW:aF:=b3 [(44,.bool true),(5,6),(1,2),(0,.bool false)]
def Er:aF:=fa 149 HW 48 (.bool true)
theorem amh:cr (b9 R8) HW Ep=some [(2,2),(6,6)]:=au
def Es:dU:=(body,[1,1,1,1,1,1,0],7)
theorem ami:hb (cK 149 [] [] Es (b5 Er Ep))=some (29,[6,I 2]):=au
abbrev R_:=cK 149 [] [] Es {sl:=Er,ms:=[],A:=da Ep}
def H0:List bx:=[]
def A5:aF:=b3 [(50,.bool true),(5,6),(1,2),(0,.bool false)]
def H2:aF:=fa 149 A5 52 9
theorem R5:cr (b9 R_) A5 H0=some [(2,2),(6,6)]:=au
def H3:dU:=(body,[1,1,1,1,1,1,0],11)
abbrev LQ:=cK 149 [] [] H3 {sl:=H2,ms:=[],A:=da H0}
def SN:List bx:=[]
def SO:aF:=b3 [(52,9),(50,.bool true),(5,6),(1,2),(0,.bool false)]
def SP:aF:=(bY.set 10 depth SO 53).getD .nil
theorem amj:sn LQ 0 53=some ([I 10,I 9,I 8,I 7],4,4):=au
theorem amk:cr (b9 LQ) SO SN=some [(2,2),(6,6),(9,9)]:=au
theorem aml:bY.set 10 depth SO 53=some SP:=au
theorem R7:hb ((lp (b5 SP SN) LQ))=some (28,[9,10]):=au
abbrev amm:=(lp {sl:=SP,ms:=[],A:=da SN} LQ)
def SQ:List bx:=[]
def abN:aF:=b3 [(50,.bool true),(5,6),(1,2),(0,.bool false)]
def SR:aF:=fa 149 abN 54 (.bool true)
theorem amn:cr (b9 amm) abN SQ=some [(2,2),(6,6)]:=au
def SS:dU:=(body,[1,1,1,1,1,1,0],13)
theorem R':hb (cK 149 [] [] SS (b5 SR SQ))=some (29,[6,I 3]):=au
abbrev amo:=cK 149 [] [] SS {sl:=SR,ms:=[],A:=da SQ}
def abO:List bx:=[]
def abP:aF:=b3 [(56,.bool true),(1,2),(0,.bool false)]
def abQ:aF:=fa 149 abP 58 11
theorem amp:cr (b9 amo) abP abO=some [(2,2)]:=au
def abR:dU:=(body,[1,1,1,1,1,1,0],17)
abbrev LR:=cK 149 [] [] abR {sl:=abQ,ms:=[],A:=da abO}
def SU:List bx:=[]
def SV:aF:=b3 [(58,11),(56,.bool true),(1,2),(0,.bool false)]
def SW:aF:=(bY.set 12 depth SV 59).getD .nil
theorem amq:sn LR 0 59=some ([I 0,I 15,I 15,I 15],4,4):=au
theorem Sa:cr (b9 LR) SV SU=some [(2,2),(11,11)]:=au
theorem Sb:bY.set 12 depth SV 59=some SW:=au
theorem Sc:hb ((lp (b5 SW SU) LR))=some (28,[11,12]):=au
abbrev amr:=(lp {sl:=SW,ms:=[],A:=da SU} LR)
def SX:List bx:=[]
def abS:aF:=b3 [(56,.bool true),(1,2),(0,.bool false)]
def SY:aF:=fa 149 abS 60 (.bool true)
theorem ams:cr (b9 amr) abS SX=some [(2,2)]:=au
def SZ:dU:=(body,[1,1,1,1,1,1,0],19)
theorem amt:hb (cK 149 [] [] SZ (b5 SY SX))=some (18,[2,.agg ⟨[I 0,I 0,I 0]⟩,I 0]):=au
abbrev amu:=cK 149 [] [] SZ {sl:=SY,ms:=[],A:=da SX}
def S0:List bx:=[]
def abT:aF:=b3 [(6,.bool true),(1,2),(0,.bool false)]
def S1:aF:=fa 149 abT 64 (I 0)
theorem amv:cr (b9 amu) abT S0=some [(2,2)]:=au
def S2:dU:=(body,[1,1,1,1,1,1,1,0],3)
theorem amw:hb (cK 149 [] [] S2 (b5 S1 S0))=some (12,[2]):=au
abbrev amx:=cK 149 [] [] S2 {sl:=S1,ms:=[],A:=da S0}
def S3:List bx:=[]
def abU:aF:=b3 [(7,I 0),(6,.bool true),(1,2),(0,.bool false)]
def S4:aF:=fa 149 abU 66 13
theorem amy:cr (b9 amx) abU S3=some [(2,2)]:=au
def S5:dU:=(body,[1,1,1,1,1,1,1,1,0],2)
theorem amz:hb (cK 149 [] [] S5 (b5 S4 S3))=some (15,[2]):=au
abbrev amA:=cK 149 [] [] S5 {sl:=S4,ms:=[],A:=da S3}
def LS:List bx:=[]
def abV:aF:=b3 [(8,13),(7,I 0),(6,.bool true),(1,2),(0,.bool false)]
def LU:aF:=fa 149 abV 68 14
theorem amB:cr (b9 amA) abV LS=some [(2,2),(13,13)]:=au
def H':dU:=(body,[1,1,1,1,1,1,1,1,1,0],2)
def dk:bj:=[(.bin .gtr 3 13 (I 0),.bool true)]
theorem amC:hb (cK 149 dk [] H' (b5 LU LS))=some (29,[14,I 0]):=au
abbrev amD:=cK 149 dk [] H' {sl:=LU,ms:=[],A:=da LS}
def abW:List bx:=[]
def abX:aF:=b3 [(75,.bool true),(9,14),(6,.bool true),(1,2),(0,.bool false)]
def abY:aF:=fa 149 abX 77 15
theorem amE:cr (b9 amD) abX abW=some [(2,2),(14,14)]:=au
def abZ:dU:=(body,[1,1,1,1,1,1,1,1,1,1,0],9)
abbrev LV:=cK 149 [] [] abZ {sl:=abY,ms:=[],A:=da abW}
def S6:List bx:=[]
def S7:aF:=b3 [(77,15),(75,.bool true),(9,14),(6,.bool true),(1,2),(0,.bool false)]
def S8:aF:=(bY.set 16 depth S7 78).getD .nil
theorem amF:sn LV 0 78=some ([I 0,I 0,I 0,I 0],4,4):=au
theorem amG:cr (b9 LV) S7 S6=some [(2,2),(14,14),(15,15)]:=au
theorem amH:bY.set 16 depth S7 78=some S8:=au
theorem amI:hb ((lp (b5 S8 S6) LV))=some (28,[15,16]):=au
abbrev amJ:=(lp {sl:=S8,ms:=[],A:=da S6} LV)
def S9:List bx:=[]
def ab0:aF:=b3 [(75,.bool true),(9,14),(6,.bool true),(1,2),(0,.bool false)]
def S':aF:=fa 149 ab0 79 (.bool true)
theorem amK:cr (b9 amJ) ab0 S9=some [(2,2),(14,14)]:=au
def S_:dU:=(body,[1,1,1,1,1,1,1,1,1,1,0],11)
theorem amL:hb (cK 149 [] [] S_ (b5 S' S9))=some (29,[14,I 3]):=au
abbrev amM:=cK 149 [] [] S_ {sl:=S',ms:=[],A:=da S9}
def ab1:List bx:=[]
def ab2:aF:=b3 [(81,.bool true),(6,.bool true),(1,2),(0,.bool false)]
def ab3:aF:=fa 149 ab2 83 17
theorem amN:cr (b9 amM) ab2 ab1=some [(2,2)]:=au
def ab4:dU:=(body,[1,1,1,1,1,1,1,1,1,1,0],15)
abbrev LW:=cK 149 [] [] ab4 {sl:=ab3,ms:=[],A:=da ab1}
def Ta:List bx:=[]
def Tb:aF:=b3 [(83,17),(81,.bool true),(6,.bool true),(1,2),(0,.bool false)]
def Tc:aF:=(bY.set 18 depth Tb 84).getD .nil
theorem amO:sn LW 0 84=some ([I 15,I 15,I 15,I 15],4,4):=au
theorem amP:cr (b9 LW) Tb Ta=some [(2,2),(17,17)]:=au
theorem amQ:bY.set 18 depth Tb 84=some Tc:=au
theorem amR:hb ((lp (b5 Tc Ta) LW))=some (28,[17,18]):=au
abbrev amS:=(lp {sl:=Tc,ms:=[],A:=da Ta} LW)
def ab5:List bx:=[]
def ab6:aF:=b3 [(81,.bool true),(6,.bool true),(1,2),(0,.bool false)]
def ab7:aF:=fa 149 ab6 85 (.bool true)
theorem amT:cr (b9 amS) ab6 ab5=some [(2,2)]:=au
def ab8:dU:=(body,[1,1,1,1,1,1,1,1,1,1,0],17)
abbrev iF:=cK 149 [] [] ab8 {sl:=ab7,ms:=[],A:=da ab5}
def Td:List bx:=[]
def Te:aF:=b3 [(95,.agg ⟨[I 0,I 0,I 1]⟩),(94,2),(93,I 0),(90,I 0),(10,.bool true),(6,.bool true),(1,2),(0,.bool false)]
theorem amU:(BF Tryd.prog 149 8 [2,5] [(2,I 0),(5,I 0)] [] iF).isSome=true:=au
theorem amV:cr (BG Tryd.prog 149 8 [2,5] [(2,I 0),(5,I 0)] [] iF) Te Td=some [(2,2),(2,2)]:=au
def Tf:aF:=match uN 149 (gQ iF) [(2,I 0),(5,I 0)] Te with|some s=>s|none=> .nil
theorem amW:uN 149 (gQ iF) [(2,I 0),(5,I 0)] Te=some Tf:=au
theorem amX:DW Tryd.prog 149 8 [2,5] [(2,I 0),(5,I 0)] [] iF 0 2=some (18,[.inl 2,.inl (.agg ⟨[I 0,I 0,I 1]⟩),.inl (I 3)]):=au
theorem amY:DW Tryd.prog 149 8 [2,5] [(2,I 0),(5,I 0)] [] iF 1 5=some (19,[.inl 2,.inl (.agg ⟨[I 0,I 0,I 1]⟩),.inl (.bool true)]):=au
theorem amZ:hb (Eb 149 [] [] (yy 8 iF) (gQ iF) (gC iF) (b5 Tf Td))=some (18,[2,.agg ⟨[I 0,I 0,I 1]⟩,I 3]):=au
abbrev am0:=Eb 149 [] [] (yy 8 iF) (gQ iF) (gC iF) {sl:=Tf,ms:=[],A:=da Td}
def Tg:List bx:=[]
def ab9:aF:=b3 [(93,I 0),(90,I 0),(10,.bool true),(6,.bool true),(1,2),(0,.bool false)]
def Th:aF:=fa 149 ab9 96 (I 16)
theorem am1:cr (b9 am0) ab9 Tg=some [(2,2)]:=au
def Ti:dU:=(body,[1,1,1,1,1,1,1,1,1,1,1,1,0],9)
theorem am2:hb (cK 149 [] [] Ti (b5 Th Tg))=some (18,[2,.agg ⟨[I 0,I 0,I 4]⟩,I 0]):=au
abbrev am3:=cK 149 [] [] Ti {sl:=Th,ms:=[],A:=da Tg}
def Tj:List bx:=[]
def ab':aF:=b3 [(14,I 16),(13,I 0),(12,I 0),(10,.bool true),(6,.bool true),(1,2),(0,.bool false)]
def Tk:aF:=fa 149 ab' 99 (I 1)
theorem am4:cr (b9 am3) ab' Tj=some [(2,2)]:=au
def Tl:dU:=(body,[1,1,1,1,1,1,1,1,1,1,1,1,1,0],3)
theorem am5:hb (cK 149 [] [] Tl (b5 Tk Tj))=some (11,[2]):=au
abbrev am6:=cK 149 [] [] Tl {sl:=Tk,ms:=[],A:=da Tj}
def Tm:List bx:=[]
def ab_:aF:=b3 [(120,.bool true),(1,2),(0,.bool false)]
def Tn:aF:=fa 149 ab_ 122 (.bool false)
theorem am7:cr (b9 am6) ab_ Tm=some [(2,2)]:=au
def Tp:dU:=(body,[1,1,1,1,1,1,1,1,1,1,1,1,1,1,0],23)
theorem am8:hb (cK 149 [] [] Tp (b5 Tn Tm))=some (10,[2,I 1]):=au
abbrev am9:=cK 149 [] [] Tp {sl:=Tn,ms:=[],A:=da Tm}
def Tq:List bx:=[]
def aca:aF:=b3 [(130,.bool true),(1,2),(0,.bool false)]
def Tr:aF:=fa 149 aca 132 (I 1)
theorem am':cr (b9 am9) aca Tq=some [(2,2)]:=au
def Ts:dU:=(body,[1,1,1,1,1,1,1,1,1,1,1,1,1,1,0],33)
theorem am_:hb (cK 149 [] [] Ts (b5 Tr Tq))=some (17,[2]):=au
abbrev ana:=cK 149 [] [] Ts {sl:=Tr,ms:=[],A:=da Tq}
def LX:List bx:=[]
def acb:aF:=b3 [(135,.bool true),(1,2),(0,.bool false)]
def LY:aF:=fa 149 acb 137 19
theorem anb:cr (b9 ana) acb LX=some [(2,2)]:=au
def H_:dU:=(body,[1,1,1,1,1,1,1,1,1,1,1,1,1,1,0],38)
def ei:bj:=[(.len #[30] 3 19,20),
 (.bin .eql 3 20 (I 4),.bool true)]
theorem anc:hb (cK 149 ei [] H_ (b5 LY LX))=some (22,[2]):=au
abbrev ane:=cK 149 ei [] H_ {sl:=LY,ms:=[],A:=da LX}
def Tt:List bx:=[]
def acd:aF:=b3 [(141,.bool true),(0,.bool false)]
def Tu:aF:=fa 149 acd 143 (.agg ⟨[22,23,24,25,26,27,21]⟩)
theorem anf:cr (b9 ane) acd Tt=some []:=au
def LZ:dU:=(body,[1,1,1,1,1,1,1,1,1,1,1,1,1,1,0],44)
def fJ:bj:=[(.dB 26 21 (I 1),28),
 (.bB 3 28,29),
 (.bin .eql 3 29 (I 3),.bool true)]
theorem ang:bC (cK 149 fJ [] LZ (b5 Tu Tt))=some (.bool true):=au
def hH:bj:=[(.dB 26 21 (I 1),28),
 (.bB 3 28,29),
 (.bin .eql 3 29 (I 3),.bool false)]
theorem anh:bC (cK 149 hH [] LZ (b5 Tu Tt))=some (.bool false):=au
def lz:bj:=[(.len #[30] 3 19,20),
 (.bin .eql 3 20 (I 4),.bool false)]
theorem ani:bC (cK 149 lz [] H_ (b5 LY LX))=some (.bool false):=au
def mQ:bj:=[(.bin .gtr 3 13 (I 0),.bool false)]
abbrev vb:=cK 149 mQ [] H' {sl:=LU,ms:=[],A:=da LS}
def Tv:List bx:=[]
def Tw:aF:=b3 [(95,.agg ⟨[I 0,I 0,I 1]⟩),(94,2),(93,I 0),(90,I 0),(10,.bool false),(6,.bool true),(1,2),(0,.bool false)]
theorem anj:(BF Tryd.prog 149 8 [2,5] [(2,I 0),(5,I 0)] [] vb).isSome=true:=au
theorem ank:cr (BG Tryd.prog 149 8 [2,5] [(2,I 0),(5,I 0)] [] vb) Tw Tv=some [(2,2),(2,2)]:=au
def Tx:aF:=match uN 149 (gQ vb) [(2,I 0),(5,I 0)] Tw with|some s=>s|none=> .nil
theorem anl:uN 149 (gQ vb) [(2,I 0),(5,I 0)] Tw=some Tx:=au
theorem anm:DW Tryd.prog 149 8 [2,5] [(2,I 0),(5,I 0)] [] vb 0 2=some (18,[.inl 2,.inl (.agg ⟨[I 0,I 0,I 1]⟩),.inl (I 3)]):=au
theorem ann:DW Tryd.prog 149 8 [2,5] [(2,I 0),(5,I 0)] [] vb 1 5=some (19,[.inl 2,.inl (.agg ⟨[I 0,I 0,I 1]⟩),.inl (.bool true)]):=au
theorem ano:hb (Eb 149 [] [] (yy 8 vb) (gQ vb) (gC vb) (b5 Tx Tv))=some (18,[2,.agg ⟨[I 0,I 0,I 1]⟩,I 3]):=au
abbrev anp:=Eb 149 [] [] (yy 8 vb) (gQ vb) (gC vb) {sl:=Tx,ms:=[],A:=da Tv}
def Ty:List bx:=[]
def ace:aF:=b3 [(93,I 0),(90,I 0),(10,.bool false),(6,.bool true),(1,2),(0,.bool false)]
def Tz:aF:=fa 149 ace 96 (I 16)
theorem anq:cr (b9 anp) ace Ty=some [(2,2)]:=au
def TA:dU:=(body,[1,1,1,1,1,1,1,1,1,1,1,1,0],9)
theorem anr:hb (cK 149 [] [] TA (b5 Tz Ty))=some (18,[2,.agg ⟨[I 0,I 0,I 4]⟩,I 0]):=au
abbrev ans:=cK 149 [] [] TA {sl:=Tz,ms:=[],A:=da Ty}
def acf:List bx:=[]
def acg:aF:=b3 [(14,I 16),(13,I 0),(12,I 0),(10,.bool false),(6,.bool true),(1,2),(0,.bool false)]
def ach:aF:=fa 149 acg 99 (I 1)
theorem ant:cr (b9 ans) acg acf=some [(2,2)]:=au
def aci:dU:=(body,[1,1,1,1,1,1,1,1,1,1,1,1,1,0],3)
theorem anu:bC (cK 149 [] [] aci (b5 ach acf))=some (.bool false):=au
@[reducible] noncomputable def bD (eI:Nat:=0) (g1:Nat:=0) (eB:Nat:=0) (g3:Nat:=0) (g4:Nat:=0) (iO:cm:=none) (iP:Nat:=0) (j_:cm:=none) (ka:Nat:=0) (lC:Nat:=0) (l_:cm:=none) (ma:Nat:=0) (mx:Nat:=0) (nB:cm:=none) (nC:Nat:=0) (nT:Nat:=0) (pQ:cm:=none) (pR:Nat:=0) (sN:cm:=none) (sO:Nat:=0) (tX:Nat:=0) (wF:cm:=none) (wG:Nat:=0) (xI:Nat:=0) (TB:cm:=none) (TC:Nat:=0) (TD:cm:=none) (TE:Nat:=0):List J:=[.slice (some ⟨eI,0,none⟩) 9 9,.slice (some ⟨g1,0,none⟩) 4 4,dh eB 0,.slice (some ⟨g3,0,none⟩) 9 9,.slice (some ⟨g4,0,none⟩) 4 4,I (((va CS):Nat):Int),bu iO sM.u.aG iP,.slice j_ [15,14,13,12].length ka,.slice (some ⟨lC,0,none⟩) 4 4,.slice l_ [10,9,8,7].length ma,.slice (some ⟨mx,0,none⟩) 4 4,.slice nB [0,15,15,15].length nC,.slice (some ⟨nT,0,none⟩) 4 4,I (((va Ez):Nat):Int),bu pQ nS.u.aG pR,.slice sN [0,0,0,0].length sO,.slice (some ⟨tX,0,none⟩) 4 4,.slice wF [15,15,15,15].length wG,.slice (some ⟨xI,0,none⟩) 4 4,bu TB q0.known TC,I ((q0.known.length:Nat):Int),bu TD q0.cells TE,I wB.1,I wB.2.1,I wB.2.2.1,I wB.2.2.2.1,I wB.2.2.2.2.1,I wB.2.2.2.2.2,hd (bu TD q0.cells TE) (1*1),I (q0.cells.getD (1) default)]
theorem any (W:ax) (cC:mJ (aE W)):Calls Tryd.prog 8 #[] W λe w'=>e= .returned (.bool true)/\cj W.heap.size W w':=by
 refine @Y4 (aX (aE W) bD) _ _ _ _ body aO N [] (Od W _) Tryd.func8 (λa ah=> ?_) au au au au;letI:=b6 ah;have aI:=bK.o5 W;refine bA [] [] aP aQ ?_ ah;refine uM (enc:=jF) (xs:=[(([97,105,114]:fG),false,false,false,1,0,0,0),(([115,116,111,110,101]:fG),true,false,false,16,0,0,0),(([103,108,97,115,115]:fG),true,false,false,1,0,0,0),(([108,97,109,112]:fG),true,false,false,16,15,14,10),(([115,97,110,100]:fG),true,false,true,16,0,0,0),(([119,97,116,101,114]:fG),false,true,false,3,0,0,0),(([108,101,97,118,101,115]:fG),true,false,false,2,0,0,0),(([101,109,98,101,114]:fG),true,false,false,16,9,3,0),(([102,111,103]:fG),false,false,false,2,0,0,0)]) (q:=0) (bm:=λf'=>(bD f')) e0 JS rfl cw cw U U (gI rfl) e1 (λ_ _=>zE) e2 (λ_=>rfl) ?_;intro j2 eI TF apk anv jw fc;have dp:=aI.new (sq TF anv jw fc);letI:=b6 ah;refine XJ (enc:=fQ) (xs:=[3,0,0,0]) (q:=1) (l2:=6) (bm:=λf'=>(bD eI f')) e3 ko rfl cw cw U U (gI rfl) hD (λ_ _=>fw) ku (λ_=>rfl) ?_;intro nj g1 qB rb Ck mv hJ;have gv:=dp.new (sq qB Ck mv hJ);letI:=b6 ah;refine hG (Y:=Nat×dJ) (bm:=λaW=>(bD eI g1 (aW.1))) gv [1,0] (λaW=>[_,_]) (λaW=>[dj (aW.1) (aW.2) CS]) h4 e9 (et hp2 (.tuple ⟨[2,I 0]⟩)) (fC:=λw hw cX aw=>abK aw (cells:=[3,0,0,0]) (b:=wB) (table:=H6) (known:=[]) (aw.red 0 rfl) (aw.red 1 rfl) (cE.nil _ _) (cC.mono λi o h=>hw i o (gv.ext i o h)) cw rfl cw cw abC) (rest:= ?_);intro nk ⟨eB,apl⟩ ic dA w ah;replace ic:=ic.wi;letI:=b6 ah;refine dP (dQ jf) [] [] aP aQ ?_ ah;refine uM (enc:=jF) (xs:=[(([97,105,114]:fG),false,false,false,1,0,0,0),(([115,116,111,110,101]:fG),true,false,false,16,0,0,0),(([103,108,97,115,115]:fG),true,false,false,1,0,0,0),(([108,97,109,112]:fG),true,false,false,16,15,14,10),(([115,97,110,100]:fG),true,false,true,16,0,0,0),(([119,97,116,101,114]:fG),false,true,false,3,0,0,0),(([108,101,97,118,101,115]:fG),true,false,false,2,0,0,0),(([101,109,98,101,114]:fG),true,false,false,16,9,3,0),(([102,111,103]:fG),false,false,false,2,0,0,0)]) (q:=3) (bm:=λf'=>(bD eI g1 eB f')) yU JS rfl cw cw U U (gI rfl) tR (λ_ _=>fw) yV (λ_=>rfl) ?_;intro Rq g3 anw apm anx Sg Rl;have oN:=ic.new (sq anw anx Sg Rl);letI:=b6 ah;refine XJ (enc:=fQ) (xs:=[3,0,0,0]) (q:=4) (l2:=6) (bm:=λf'=>(bD eI g1 eB g3 f')) Cj ko rfl cw cw U U (gI rfl) tK (λ_ _=>fw) yZ (λ_=>rfl) ?_;intro Ln g4 Sh alp Si Ce Sj;have pn:=oN.new (sq Sh Si Ce Sj);letI:=b6 ah;refine hG (Y:=Unit) (bm:=λaW=>(bD eI g1 eB g3 g4)) pn [4,3] (λ_=>[_,_]) (λ_=>[]) tS HE (et Co (.tuple ⟨[.pointer none,I 1]⟩)) (fC:=λw hw cX aw=>abL aw (cells:=[3,0,0,0]) (b:=wB) (table:=H6) (known:=[]) (aw.red 0 rfl) (aw.red 1 rfl) (cE.nil _ _) (cC.mono λi o h=>hw i o (pn.ext i o h)) cw rfl cw cw alY) (rest:= ?_);intro Sl _ u_ dA w ah;replace u_:=u_.B0;letI:=b6 ah;refine dP (dQ Cp) cd [] (ae (aV.XP rfl au rfl) aP) aQ ?_ ah;refine hG (Y:=dJ) (bm:=λaW=>(bD eI g1 eB g3 g4)) u_ [2] (λaW=>[dj eB (aW) sM]) (λ_=>[]) RI HK (et Cr 5) (fC:=λw hw cX aw=>LP aw SG U U) (rest:= ?_);intro Sm apn tU dA w ah;replace tU:=tU.B0;letI:=b6 ah;refine dP (dQ Ct) [] [] aP aQ ?_ ah;refine hG (Y:=dX) (bm:=λaW=>(bD eI g1 eB g3 g4 aW.1 aW.2)) tU [2] (λaW=>[_]) (λaW=>[z_ aW.1 sM.u.aG aW.2]) RV amd (et Cv 6) (fC:=λw hw cX aw=>LD _ aw (by rw[LM];decide)) (rest:= ?_);intro als ⟨iO,iP⟩ As dA w ah;replace As:=As.Aa;letI:=b6 ah;refine dP (dQ Cw) [] [] aP aQ ?_ ah;refine hG (Y:=Unit) (bm:=λaW=>(bD eI g1 eB g3 g4 iO iP)) As [2] (λ_=>[_]) (λ_=>[]) ame RX (et El (.bool true)) (fC:=λw hw cX aw=>amb aw al4) (rest:= ?_);intro abe _ Cz dA w ah;replace Cz:=Cz.Aa;letI:=b6 ah;refine dP (dQ Em) [] [] aP aQ ?_ ah;refine hG (Y:=dX) (bm:=λaW=>(bD eI g1 eB g3 g4 iO iP aW.1 aW.2)) Cz [5] (λaW=>[_]) (λaW=>[hr kQ 1 fQ (.slice aW.1 [15,14,13,12].length aW.2) [15,14,13,12]]) amf RZ (et Ej 7) (fC:=λw hw cX aw=>H9 al6 aw (SE.any _ ((aw.arr 0 rfl).arr yC) (by rw[LM];decide))) (rest:= ?_);intro abg ⟨j_,ka⟩ CA dA w ah;replace CA:=CA.QT;letI:=b6 ah;refine dP (dQ HV) [] [] aP aQ ?_ ah;refine uM (enc:=fQ) (xs:=[15,14,13,12]) (q:=8) (bm:=λf'=>(bD eI g1 eB g3 g4 iO iP j_ ka f')) amg ko rfl cw cw U U (gI rfl) R1 (λ_ _=>fw) R2 (λ_=>rfl) ?_;intro apo lC anz apq anA anB anC;have anD:=CA.new (sq anz anA anB anC);letI:=b6 ah;refine hG (Y:=Unit) (bm:=λaW=>(bD eI g1 eB g3 g4 iO iP j_ ka lC)) anD [6,7] (λ_=>[_,_]) (λ_=>[]) R3 amh (et Er (.bool true)) (fC:=λw hw cX aw=>DX aw (EA (Ey.any _ ((aw.arr 0 rfl).arr ko) (aw.red 1 rfl) cw) rfl)) (rest:= ?_);intro apr _ TG dA w ah;replace TG:=TG.ajj;letI:=b6 ah;refine dP (dQ Es) [] [] aP aQ ?_ ah;refine hG (Y:=dX) (bm:=λaW=>(bD eI g1 eB g3 g4 iO iP j_ ka lC aW.1 aW.2)) TG [5] (λaW=>[_]) (λaW=>[hr kQ 1 fQ (.slice aW.1 [10,9,8,7].length aW.2) [10,9,8,7]]) ami R5 (et H2 9) (fC:=λw hw cX aw=>H9 al7 aw (abB.any _ ((aw.arr 0 rfl).arr yC) (by rw[LM];decide))) (rest:= ?_);intro aps ⟨l_,ma⟩ TH dA w ah;replace TH:=TH.ajk;letI:=b6 ah;refine dP (dQ H3) [] [] aP aQ ?_ ah;refine uM (enc:=fQ) (xs:=[10,9,8,7]) (q:=10) (bm:=λf'=>(bD eI g1 eB g3 g4 iO iP j_ ka lC l_ ma f')) amj ko rfl cw cw U U (gI rfl) amk (λ_ _=>fw) aml (λ_=>rfl) ?_;intro apt mx anE apu anF anG anH;have anI:=TH.new (sq anE anF anG anH);letI:=b6 ah;refine hG (Y:=Unit) (bm:=λaW=>(bD eI g1 eB g3 g4 iO iP j_ ka lC l_ ma mx)) anI [8,9] (λ_=>[_,_]) (λ_=>[]) R7 amn (et SR (.bool true)) (fC:=λw hw cX aw=>DX aw (EA (Ey.any _ ((aw.arr 0 rfl).arr ko) (aw.red 1 rfl) cw) rfl)) (rest:= ?_);intro apv _ TI dA w ah;replace TI:=TI.Y5;letI:=b6 ah;refine dP (dQ SS) [] [] aP aQ ?_ ah;refine hG (Y:=dX) (bm:=λaW=>(bD eI g1 eB g3 g4 iO iP j_ ka lC l_ ma mx aW.1 aW.2)) TI [5] (λaW=>[_]) (λaW=>[hr kQ 1 fQ (.slice aW.1 [0,15,15,15].length aW.2) [0,15,15,15]]) R' amp (et abQ 11) (fC:=λw hw cX aw=>H9 al8 aw (SF.any _ ((aw.arr 0 rfl).arr yC) (by rw[LM];decide))) (rest:= ?_);intro apw ⟨nB,nC⟩ TJ dA w ah;replace TJ:=TJ.QU;letI:=b6 ah;refine dP (dQ abR) [] [] aP aQ ?_ ah;refine uM (enc:=fQ) (xs:=[0,15,15,15]) (q:=12) (bm:=λf'=>(bD eI g1 eB g3 g4 iO iP j_ ka lC l_ ma mx nB nC f')) amq ko rfl cw cw U U (gI rfl) Sa (λ_ _=>fw) Sb (λ_=>rfl) ?_;intro apx nT anJ apy anK anL anM;have anN:=TJ.new (sq anJ anK anL anM);letI:=b6 ah;refine hG (Y:=Unit) (bm:=λaW=>(bD eI g1 eB g3 g4 iO iP j_ ka lC l_ ma mx nB nC nT)) anN [10,11] (λ_=>[_,_]) (λ_=>[]) Sc ams (et SY (.bool true)) (fC:=λw hw cX aw=>DX aw (EA (Ey.any _ ((aw.arr 0 rfl).arr ko) (aw.red 1 rfl) cw) rfl)) (rest:= ?_);intro apz _ TK dA w ah;replace TK:=TK.B1;letI:=b6 ah;refine dP (dQ SZ) [] [] aP aQ ?_ ah;refine hG (Y:=dJ) (bm:=λaW=>(bD eI g1 eB g3 g4 iO iP j_ ka lC l_ ma mx nB nC nT)) TK [2] (λaW=>[dj eB (aW) Ez]) (λ_=>[]) amt amv (et S1 (I 0)) (fC:=λw hw cX aw=>wE aw (p:=(0,0,0)) abD rfl al0) (rest:= ?_);intro apA apB TL dA w ah;replace TL:=TL.B1;letI:=b6 ah;refine dP (dQ S2) [] [] aP aQ ?_ ah;refine hG (Y:=dJ) (bm:=λaW=>(bD eI g1 eB g3 g4 iO iP j_ ka lC l_ ma mx nB nC nT)) TL [2] (λaW=>[dj eB (aW) nS]) (λ_=>[]) amw amy (et S4 13) (fC:=λw hw cX aw=>LP aw abE U U) (rest:= ?_);intro apC xJ TM dA w ah;replace TM:=TM.B1;letI:=b6 ah;refine dP (dQ S5) [] [] aP aQ ?_ ah;refine hG (Y:=dX) (bm:=λaW=>(bD eI g1 eB g3 g4 iO iP j_ ka lC l_ ma mx nB nC nT aW.1 aW.2)) TM [2] (λaW=>[_]) (λaW=>[z_ aW.1 nS.u.aG aW.2]) amz amB (et LU 14) (fC:=λw hw cX aw=>LD _ aw (by rw[SJ];decide)) (rest:= ?_);intro apD ⟨pQ,pR⟩ Ia dA w ah;replace Ia:=Ia.Ec;letI:=b6 ah;by_cases z0:0<(((va Ez):Nat):Int)
 ·refine dP (dQ H') dk [] (ae bb aP) aQ ?_ ah
  refine hG (Y:=dX) (bm:=λaW=>(bD eI g1 eB g3 g4 iO iP j_ ka lC l_ ma mx nB nC nT pQ pR aW.1 aW.2)) Ia [12] (λaW=>[_]) (λaW=>[hr kQ 1 fQ (.slice aW.1 [0,0,0,0].length aW.2) [0,0,0,0]]) amC amE (et abY 15) (fC:=λw hw cX aw=>H9 al9 aw (SE.any _ ((aw.arr 0 rfl).arr yC) (by rw[SJ];decide))) (rest:= ?_);intro anO ⟨sN,sO⟩ CB dA w ah;replace CB:=CB.QV;letI:=b6 ah;refine dP (dQ abZ) [] [] aP aQ ?_ ah;refine uM (enc:=fQ) (xs:=[0,0,0,0]) (q:=16) (bm:=λf'=>(bD eI g1 eB g3 g4 iO iP j_ ka lC l_ ma mx nB nC nT pQ pR sN sO f')) amF ko rfl cw cw U U (gI rfl) amG (λ_ _=>fw) amH (λ_=>rfl) ?_;intro apE tX anP apF anQ anR anS;have anT:=CB.new (sq anP anQ anR anS);letI:=b6 ah;refine hG (Y:=Unit) (bm:=λaW=>(bD eI g1 eB g3 g4 iO iP j_ ka lC l_ ma mx nB nC nT pQ pR sN sO tX)) anT [13,14] (λ_=>[_,_]) (λ_=>[]) amI amK (et S' (.bool true)) (fC:=λw hw cX aw=>DX aw (EA (Ey.any _ ((aw.arr 0 rfl).arr ko) (aw.red 1 rfl) cw) rfl)) (rest:= ?_);intro anU _ CC dA w ah;replace CC:=CC.ajl;letI:=b6 ah;refine dP (dQ S_) [] [] aP aQ ?_ ah;refine hG (Y:=dX) (bm:=λaW=>(bD eI g1 eB g3 g4 iO iP j_ ka lC l_ ma mx nB nC nT pQ pR sN sO tX aW.1 aW.2)) CC [12] (λaW=>[_]) (λaW=>[hr kQ 1 fQ (.slice aW.1 [15,15,15,15].length aW.2) [15,15,15,15]]) amL amN (et ab3 17) (fC:=λw hw cX aw=>H9 al' aw (SF.any _ ((aw.arr 0 rfl).arr yC) (by rw[SJ];decide))) (rest:= ?_);intro anV ⟨wF,wG⟩ EB dA w ah;replace EB:=EB.ajm;letI:=b6 ah;refine dP (dQ ab4) [] [] aP aQ ?_ ah;refine uM (enc:=fQ) (xs:=[15,15,15,15]) (q:=18) (bm:=λf'=>(bD eI g1 eB g3 g4 iO iP j_ ka lC l_ ma mx nB nC nT pQ pR sN sO tX wF wG f')) amO ko rfl cw cw U U (gI rfl) amP (λ_ _=>fw) amQ (λ_=>rfl) ?_;intro apG xI anW apH anX anY anZ;have an0:=EB.new (sq anW anX anY anZ);letI:=b6 ah;refine hG (Y:=Unit) (bm:=λaW=>(bD eI g1 eB g3 g4 iO iP j_ ka lC l_ ma mx nB nC nT pQ pR sN sO tX wF wG xI)) an0 [15,16] (λ_=>[_,_]) (λ_=>[]) amR amT (et ab7 (.bool true)) (fC:=λw hw cX aw=>DX aw (EA (Ey.any _ ((aw.arr 0 rfl).arr ko) (aw.red 1 rfl) cw) rfl)) (rest:= ?_);intro apI _ L0 dA w ah;replace L0:=L0.Ed;letI:=b6 ah;refine dP (dQ ab8) [] [] aP aQ ?_ ah;refine XQ (Y:=dJ×dJ) (bm:=λaW=>(bD eI g1 eB g3 g4 iO iP j_ ka lC l_ ma mx nB nC nT pQ pR sN sO tX wF wG xI)) (m:=8) (dz:=[(2,I 0),(5,I 0)]) (cs:=[(2,I 0),(5,I 0)]) (kv:=[]) (ct:=[2,5]) (L:=(λgT aW=>bif Nat.beq gT 0 then [dj eB xJ nS] else bif Nat.beq gT 1 then [dj eB (aW.1) oT] else bif Nat.beq gT 2 then [dj eB (aW.2) kb] else [])) (rv:=(λgT aW=>bif Nat.beq gT 0 then I 0 else bif Nat.beq gT 1 then I 0 else .bool false)) (cc:=[dj eB xJ nS]) L0 [2] U U U mixed amU cw (default,default) rfl (kD.cons (KD (rv:=(λgT aW=>bif Nat.beq gT 0 then I 0 else bif Nat.beq gT 1 then I 0 else .bool false)) (k:=0) (u:=I 0) U U (λ_=>rfl)) (kD.cons (KD (rv:=(λgT aW=>bif Nat.beq gT 0 then I 0 else bif Nat.beq gT 1 then I 0 else .bool false)) (k:=1) (u:=I 0) U U (λ_=>rfl)) kD.nil)) uQ.nil (kD.cons (xi.KA amX rfl (λw aW bw cX yD=>by have j0:cH (aE w) [dj eB xJ nS]:=yD;exact KB (rv:=(λgT aW=>bif Nat.beq gT 0 then I 0 else bif Nat.beq gT 1 then I 0 else .bool false)) (k:=0) (y:=aW) (sy:=(λgT aW=>bif Nat.beq gT 0 then [dj eB xJ nS] else bif Nat.beq gT 1 then [dj eB (aW.1) oT] else bif Nat.beq gT 2 then [dj eB (aW.2) kb] else []) (0+1)) j0 [0] U U (λh5=>[dj eB (h5) oT]) (λh5=>[]) (λh5=>[dj eB (h5) oT]) (λ_=>rfl) (λ_=>rfl) (λh5=>(h5,aW.2)) (λ_=>rfl) (λ_=>rfl) (λh5=>KC) (show Calls _ _ _ _ λbC wH=>(∃h5:dJ,bC= .returned (I 0)/\cZ (aE w) _ (aE wH) ([dj eB (h5) oT]))/\cj 0 w wH from wE (j0.pick [0] rfl) (p:=(0,0,1)) SH rfl abF))) (kD.cons (xi.KA amY rfl (λw aW bw cX yD=>by have j0:cH (aE w) [dj eB (aW.1) oT]:=yD;exact KB (rv:=(λgT aW=>bif Nat.beq gT 0 then I 0 else bif Nat.beq gT 1 then I 0 else .bool false)) (k:=1) (y:=aW) (sy:=(λgT aW=>bif Nat.beq gT 0 then [dj eB xJ nS] else bif Nat.beq gT 1 then [dj eB (aW.1) oT] else bif Nat.beq gT 2 then [dj eB (aW.2) kb] else []) (1+1)) j0 [0] U U (λh5=>[dj eB (h5) kb]) (λh5=>[]) (λh5=>[dj eB (h5) kb]) (λ_=>rfl) (λ_=>rfl) (λh5=>(aW.1,h5)) (λ_=>rfl) (λ_=>rfl) (λh5=>(XO KC rfl)) (show Calls _ _ _ _ λbC wH=>(∃h5:dJ,bC= .returned (I 0)/\cZ (aE w) _ (aE wH) ([dj eB (h5) kb]))/\cj 0 w wH from LO (j0.pick [0] rfl) (p:=(0,0,1)) SI rfl abG))) kD.nil)) amV amW rfl (λaW M'=>(kD.cons rfl (kD.cons rfl kD.nil))) (λ_ _=>fw) ?_;intro⟨apJ,an1⟩ apK an2 dA w ah;have TN:=L0.put (L':=[dj eB an1 kb]) (N:=[]) [2] U U an2;replace TN:=TN.Ed;letI:=b6 ah;refine FA (F:=[]) (T:=[]) (bq:=1000) (d:=10) mixed aP aQ ?_ ah;refine hG (Y:=dJ) (bm:=λaW=>(bD eI g1 eB g3 g4 iO iP j_ ka lC l_ ma mx nB nC nT pQ pR sN sO tX wF wG xI)) TN [2] (λaW=>[dj eB (aW) kb]) (λ_=>[]) amZ am1 (et Th (I 16)) (fC:=λw hw cX aw=>wE aw (p:=(0,0,1)) H8 abH SK) (rest:= ?_);intro apL apM TO dA w ah;replace TO:=TO.Ed;letI:=b6 ah;refine dP (dQ Ti) [] [] aP aQ ?_ ah;refine hG (Y:=dJ) (bm:=λaW=>(bD eI g1 eB g3 g4 iO iP j_ ka lC l_ ma mx nB nC nT pQ pR sN sO tX wF wG xI)) TO [2] (λaW=>[dj eB (aW) kb]) (λ_=>[]) am2 am4 (et Tk (I 1)) (fC:=λw hw cX aw=>wE aw (p:=(0,0,4)) H8 abI SL) (rest:= ?_);intro apN apO TP dA w ah;replace TP:=TP.Ed;letI:=b6 ah;refine dP (dQ Tl) [] [] aP aQ ?_ ah;refine hG (Y:=Unit) (bm:=λaW=>(bD eI g1 eB g3 g4 iO iP j_ ka lC l_ ma mx nB nC nT pQ pR sN sO tX wF wG xI)) TP [2] (λ_=>[_]) (λ_=>[]) am5 am7 (et Tn (.bool false)) (fC:=λw hw cX aw=>amc aw al5) (rest:= ?_);intro apP _ TQ dA w ah;replace TQ:=TQ.Ed;letI:=b6 ah;refine dP (dQ Tp) [] [] aP aQ ?_ ah;refine hG (Y:=dJ) (bm:=λaW=>(bD eI g1 eB g3 g4 iO iP j_ ka lC l_ ma mx nB nC nT pQ pR sN sO tX wF wG xI)) TQ [2] (λaW=>[dj eB (aW) q0]) (λ_=>[]) am8 am' (et Tr (I 1)) (fC:=λw hw cX aw=>ama aw H8 rfl (by rw[al_];rfl)) (rest:= ?_);intro apQ apR TR dA w ah;replace TR:=TR.Ed;letI:=b6 ah;refine dP (dQ Ts) [] [] aP aQ ?_ ah;refine hG (Y:=dX) (bm:=λaW=>(bD eI g1 eB g3 g4 iO iP j_ ka lC l_ ma mx nB nC nT pQ pR sN sO tX wF wG xI aW.1 aW.2)) TR [2] (λaW=>[_]) (λaW=>[tF aW.1 q0.known aW.2]) am_ anb (et LY 19) (fC:=λw hw cX aw=>Ss _ aw (by rw[LN];decide)) (rest:= ?_);intro apS ⟨TB,TC⟩ Ib dA w ah;replace Ib:=Ib.ajn;letI:=b6 ah;by_cases z0:((q0.known.length:Nat):Int)=4
  ·refine dP (dQ H_) ei [] (ae (eM ((Ib.arr 17 rfl).arr kq) mn) (ae bb aP)) aQ ?_ ah
   have apT:q0.cells.length=4:=by exact abJ
   refine hG (Y:=dX) (bm:=λaW=>(bD eI g1 eB g3 g4 iO iP j_ ka lC l_ ma mx nB nC nT pQ pR sN sO tX wF wG xI TB TC aW.1 aW.2)) Ib [2] (λaW=>[_]) (λaW=>[qn aW.1 q0.cells aW.2]) anc anf (et Tu (.agg ⟨[22,23,24,25,26,27,21]⟩)) (fC:=λw hw cX aw=>LF _ aw (by rw[abJ];decide)) (rest:= ?_);intro apU ⟨TD,TE⟩ EC dA w ah;replace EC:=EC.ajo;letI:=b6 ah;by_cases z0:(q0.cells.getD (1) default)=3
   ·refine dP (dQ LZ) fJ [] (ae (z' ((EC.arr 18 rfl).arr ko) (show 1<q0.cells.length by omega) iz uI) (ae (qm 0 ((EC.arr 18 rfl).arr ko) (lO 1) vJ) (ae bb aP))) aQ ?_ ah
    exact bU ang λw2 bp=>(by rfl)
   ·refine dP (dQ LZ) hH [] (ae (z' ((EC.arr 18 rfl).arr ko) (show 1<q0.cells.length by omega) iz uI) (ae (qm 0 ((EC.arr 18 rfl).arr ko) (lO 1) vJ) (ae aU aP))) aQ ?_ ah
    exact bU anh λw2 bp=>(by (exfalso;have acj:=n2;have LC:=LN;have Rt:=SM;omega))
  ·refine dP (dQ H_) lz [] (ae (eM ((Ib.arr 17 rfl).arr kq) mn) (ae aU aP)) aQ ?_ ah
   exact bU ani λw2 bp=>(by (exfalso;have acj:=n2;have LC:=LN;have Rt:=SM;omega))
 ·refine dP (dQ H') mQ [] (ae aU aP) aQ ?_ ah
  refine XQ (Y:=dJ×dJ) (bm:=λaW=>(bD eI g1 eB g3 g4 iO iP j_ ka lC l_ ma mx nB nC nT pQ pR none 0 0 none 0 0 none 0 none 0)) (m:=8) (dz:=[(2,I 0),(5,I 0)]) (cs:=[(2,I 0),(5,I 0)]) (kv:=[]) (ct:=[2,5]) (L:=(λgT aW=>bif Nat.beq gT 0 then [dj eB xJ nS] else bif Nat.beq gT 1 then [dj eB (aW.1) oT] else bif Nat.beq gT 2 then [dj eB (aW.2) kb] else [])) (rv:=(λgT aW=>bif Nat.beq gT 0 then I 0 else bif Nat.beq gT 1 then I 0 else .bool false)) (cc:=[dj eB xJ nS]) Ia [2] U U U mixed anj cw (default,default) rfl (kD.cons (KD (rv:=(λgT aW=>bif Nat.beq gT 0 then I 0 else bif Nat.beq gT 1 then I 0 else .bool false)) (k:=0) (u:=I 0) U U (λ_=>rfl)) (kD.cons (KD (rv:=(λgT aW=>bif Nat.beq gT 0 then I 0 else bif Nat.beq gT 1 then I 0 else .bool false)) (k:=1) (u:=I 0) U U (λ_=>rfl)) kD.nil)) uQ.nil (kD.cons (xi.KA anm rfl (λw aW bw cX yD=>by have j0:cH (aE w) [dj eB xJ nS]:=yD;exact KB (rv:=(λgT aW=>bif Nat.beq gT 0 then I 0 else bif Nat.beq gT 1 then I 0 else .bool false)) (k:=0) (y:=aW) (sy:=(λgT aW=>bif Nat.beq gT 0 then [dj eB xJ nS] else bif Nat.beq gT 1 then [dj eB (aW.1) oT] else bif Nat.beq gT 2 then [dj eB (aW.2) kb] else []) (0+1)) j0 [0] U U (λh5=>[dj eB (h5) oT]) (λh5=>[]) (λh5=>[dj eB (h5) oT]) (λ_=>rfl) (λ_=>rfl) (λh5=>(h5,aW.2)) (λ_=>rfl) (λ_=>rfl) (λh5=>KC) (show Calls _ _ _ _ λbC wH=>(∃h5:dJ,bC= .returned (I 0)/\cZ (aE w) _ (aE wH) ([dj eB (h5) oT]))/\cj 0 w wH from wE (j0.pick [0] rfl) (p:=(0,0,1)) SH rfl abF))) (kD.cons (xi.KA ann rfl (λw aW bw cX yD=>by have j0:cH (aE w) [dj eB (aW.1) oT]:=yD;exact KB (rv:=(λgT aW=>bif Nat.beq gT 0 then I 0 else bif Nat.beq gT 1 then I 0 else .bool false)) (k:=1) (y:=aW) (sy:=(λgT aW=>bif Nat.beq gT 0 then [dj eB xJ nS] else bif Nat.beq gT 1 then [dj eB (aW.1) oT] else bif Nat.beq gT 2 then [dj eB (aW.2) kb] else []) (1+1)) j0 [0] U U (λh5=>[dj eB (h5) kb]) (λh5=>[]) (λh5=>[dj eB (h5) kb]) (λ_=>rfl) (λ_=>rfl) (λh5=>(aW.1,h5)) (λ_=>rfl) (λ_=>rfl) (λh5=>(XO KC rfl)) (show Calls _ _ _ _ λbC wH=>(∃h5:dJ,bC= .returned (I 0)/\cZ (aE w) _ (aE wH) ([dj eB (h5) kb]))/\cj 0 w wH from LO (j0.pick [0] rfl) (p:=(0,0,1)) SI rfl abG))) kD.nil)) ank anl rfl (λaW M'=>(kD.cons rfl (kD.cons rfl kD.nil))) (λ_ _=>fw) ?_;intro⟨apV,an3⟩ anO an4 dA w ah;have CB:=Ia.put (L':=[dj eB an3 kb]) (N:=[]) [2] U U an4;replace CB:=CB.Ec;letI:=b6 ah;refine FA (F:=[]) (T:=[]) (bq:=1000) (d:=10) mixed aP aQ ?_ ah;refine hG (Y:=dJ) (bm:=λaW=>(bD eI g1 eB g3 g4 iO iP j_ ka lC l_ ma mx nB nC nT pQ pR none 0 0 none 0 0 none 0 none 0)) CB [2] (λaW=>[dj eB (aW) kb]) (λ_=>[]) ano anq (et Tz (I 16)) (fC:=λw hw cX aw=>wE aw (p:=(0,0,1)) H8 abH SK) (rest:= ?_);intro anU apW CC dA w ah;replace CC:=CC.Ec;letI:=b6 ah;refine dP (dQ TA) [] [] aP aQ ?_ ah;refine hG (Y:=dJ) (bm:=λaW=>(bD eI g1 eB g3 g4 iO iP j_ ka lC l_ ma mx nB nC nT pQ pR none 0 0 none 0 0 none 0 none 0)) CC [2] (λaW=>[dj eB (aW) kb]) (λ_=>[]) anr ant (et ach (I 1)) (fC:=λw hw cX aw=>wE aw (p:=(0,0,4)) H8 abI SL) (rest:= ?_);intro anV apX EB dA w ah;replace EB:=EB.Ec;letI:=b6 ah;refine dP (dQ aci) [] [] aP aQ ?_ ah;exact bU anu λw2 bp=>(by (exfalso;have acj:=n2;have LC:=LN;have Rt:=SM;omega))
end abM
end AE
namespace AE
def L1 (N R:Nat):Nat:=361*N+(365*N+2)*(R-1)
structure wI (b:bQ) (N:Nat) (e:cx) (bt R i:Nat):Prop where
 ok:gF e
 reqs:e.u.reqs.length<=i
 cS:1<=R
 dy:R<=i+1
 box:e.b=b
 w:bt+wA e<=L1 N R
variable {b:bQ} {N bt R i:Nat} {e:cx}
theorem wI.z7 (h:wI b N e bt R i) (n:Int):wI b N (nR e n) (bt+y_ e n) R (i+1)/\y_ e n<=n.toNat/\(y_ e n<n.toNat->rR (nR e n))/\bt+y_ e n<=L1 N R:=by
 obtain⟨q1,aH,b0,eF,hz⟩:=h.ok.z7 n;have ag:=h.w;have ay:=h.reqs;have bG:=h.dy;exact⟨⟨q1,aj,h.cS,aj,h.box,aj⟩,aH,b0,aj⟩
theorem wI.set (h:wI b N e bt R i):wI b N (kH e) (bt+va e) R (i+1)/\rR (kH e)/\bt+va e<=L1 N R:=by
 obtain⟨q1,aH,eF,hz⟩:=h.ok.set;have ag:=h.w;have ay:=h.reqs;have bG:=h.dy;exact⟨⟨q1,aj,h.cS,aj,h.box,aj⟩,aH,aj⟩
theorem wI.skip (h:wI b N e bt R i):wI b N e bt R (i+1):=by
 have ay:=h.reqs;have bG:=h.dy;exact⟨h.ok,aj,h.cS,aj,h.box,h.w⟩
theorem wI.begin {cells:List Int} {table:List cW} {known:List Bool} {most:Int} (h:pq b cells table known most) (av:cells.length<=10000):wI b cells.length (ki b cells table known most) 0 1 0:=by
 obtain⟨q1,aH⟩:=LL h av;refine⟨q1,ch _,ch _,ch _,rfl,?_⟩;unfold L1;omega
end AE
namespace AE
theorem ack {e:cx} {p:d_} {c:Int} (ad:xG c) (ag:bV p e.b) (ay:((e.u.reqs.length:Nat):Int)<e.most):j' e.b e.most p e.u.reqs c=0:=by
 unfold j' jB;rw[aY ad,aY ag,a_ aj]
theorem an5 {e:cx} {p:d_} (ag:bV p e.b) (ay:((e.u.reqs.length:Nat):Int)<e.most):jB e.b e.most p e.u.reqs=0:=by
 unfold jB;rw[aY ag,a_ aj]
theorem an6 {e:cx} {p:d_} {c:Int} (h:j' e.b e.most p e.u.reqs c=0):(kx e p c).cells=e.cells.set (cl e.b p) c:=by
 rw[(abx h).2.2.2]
def an7 (e:cx) (p:d_) (c c2 n:Int):cx:=kH (kx (nR (kx e p c) n) p c2)
structure an8 (e e':cx):Prop where
 ok:gF e'
 st:rR e'
 b:e'.b=e.b
 most:e'.most=e.most
 table:e'.table=e.table
 cells:e'.cells=e.cells
 known:e'.known=e.known
 aG:e'.u.aG=e.u.aG
theorem acm {e:cx} (h:rR e):e.u.reqs.length=0:=h.2.2
def rS (b:bQ) (cells:List Int) (table:List cW) (known:List Bool):cx:=kH (ki b cells table known 10)
structure an9 (b:bQ) (cells:List Int) (e:cx):Prop where
 ok:gF e
 st:rR e
 b:e.b=b
 most:e.most=10
 apY:e.known.length=cells.length
 TS:e.u.aG.length=cells.length
 cells:e.cells=cells
theorem an' {b:bQ} {cells:List Int} {table:List cW} {known:List Bool} {most:Int} (h:pq b cells table known most) (av:cells.length<=10000):okB b/\cells.length=(fx b).toNat:=by
 obtain⟨_,⟨ag,_⟩,_⟩:=abm h.1;have ad:=(LL (most:=most) h av).1.LH;exact⟨ag,ad⟩
def tY (b:bQ) (cells:List Int) (table:List cW) (known:List Bool) (p:d_) (cell n:Int):cx:=an7 (rS b cells table known) p cell (cells.getD (cl b p) default) n
structure apZ (b:bQ) (cells:List Int) (table:List cW) (known:List Bool) (p:d_) (cell n:Int):Prop where
 box:okB b
 Ic:gF (ki b cells table known 10)
 bt:an9 b cells (rS b cells table known)
 lt:cl b p<cells.length
 mB:cl b p<(rS b cells table known).known.length
 jn:gF (kx (rS b cells table known) p cell)
 kl:gF (nR (kx (rS b cells table known) p cell) n)
 q7:gF (kx (nR (kx (rS b cells table known) p cell) n) p (cells.getD (cl b p) default))
 eG:j' (rS b cells table known).b (rS b cells table known).most p (rS b cells table known).u.reqs cell=0
 a2:j' (nR (kx (rS b cells table known) p cell) n).b (nR (kx (rS b cells table known) p cell) n).most p (nR (kx (rS b cells table known) p cell) n).u.reqs (cells.getD (cl b p) default)=0
 ij:an8 (rS b cells table known) (tY b cells table known p cell n)
 TS:(tY b cells table known p cell n).u.aG.length=cells.length
 dE:cells.length<=120
 K:∀k dv,dv=(rS b cells table known).known.getD (cl b p) default->
  gF (mw (tY b cells table known p cell n) p k)/\gF (nR (mw (tY b cells table known p cell n) p k) n)/\gF (mw (nR (mw (tY b cells table known p cell n) p k) n) p dv)/\
  jB (tY b cells table known p cell n).b (tY b cells table known p cell n).most p (tY b cells table known p cell n).u.reqs=0/\
  jB (nR (mw (tY b cells table known p cell n) p k) n).b (nR (mw (tY b cells table known p cell n) p k) n).most p (nR (mw (tY b cells table known p cell n) p k) n).u.reqs=0/\
  (kH (mw (nR (mw (tY b cells table known p cell n) p k) n) p dv)).u.aG=(rS b cells table known).u.aG/\(kH (mw (nR (mw (tY b cells table known p cell n) p k) n) p dv)).u.aG.length=cells.length
end AE
namespace AE
def Ie (p:d_) (e:cx) (k:Nat):cx:=if k%2=0 then kx e p ((k:Nat):Int) else mw e p (decide (k%4=1))
def pS (p:d_) (e:cx):Nat->cx
 |0=>e
 |k+1=>Ie p (pS p e k) k
structure Ig (e:cx) (k:Nat) (e':cx):Prop where
 ok:gF e'
 b:e'.b=e.b
 most:e'.most=e.most
 len:e'.u.reqs.length=k
theorem acn {e e':cx} {p:d_} {k:Nat} (h:Ig e k e') (hp:bV p e.b) (al:((k:Nat):Int)<e.most) (ap0:k<20):
  (k%2=0->j' e'.b e'.most p e'.u.reqs ((k:Nat):Int)=0)/\(¬k%2=0->jB e'.b e'.most p e'.u.reqs=0)/\Ig e (k+1) (Ie p e' k):=by
 have hl:e'.u.reqs.length<10000:=by rw[h.len];omega
 have eG:j' e'.b e'.most p e'.u.reqs ((k:Nat):Int)=0:=ack ⟨aj,aj⟩ (by rw[h.b];exact hp) (by rw[h.len,h.most];exact al);have a2:jB e'.b e'.most p e'.u.reqs=0:=an5 (by rw[h.b];exact hp) (by rw[h.len,h.most];exact al);refine⟨λ_=>eG,λ_=>a2,?_⟩;unfold Ie;split
 ·obtain⟨q1,aH,_⟩:=h.ok.cn hl p ((k:Nat):Int)
  exact⟨q1,h.b,h.most,by rw[(aH eG).1,h.len]⟩
 ·obtain⟨q1,aH,_⟩:=h.ok.bB hl p (decide (k%4=1))
  exact⟨q1,h.b,h.most,by rw[(aH a2).1,h.len]⟩
def nD (b:bQ) (cells:List Int) (table:List cW) (known:List Bool) (n:Nat):cx:=kH (ki b cells table known ((n:Nat):Int))
def iC (b:bQ) (cells:List Int) (table:List cW) (known:List Bool) (n:Nat) (p:d_):cx:=pS p (nD b cells table known n) n
def qu (b:bQ) (cells:List Int) (table:List cW) (known:List Bool) (n:Nat) (p:d_):cx:=kx (kH (iC b cells table known n p)) p 200
structure an_ (b:bQ) (cells:List Int) (table:List cW) (known:List Bool) (n:Nat) (p:d_):Prop where
 box:okB b
 Ic:gF (ki b cells table known ((n:Nat):Int))
 jn:gF (nD b cells table known n)
 gf:∀k,k<=n->Ig (nD b cells table known n) k (pS p (nD b cells table known n) k)
 cn:∀k,k<n->k%2=0->j' (pS p (nD b cells table known n) k).b (pS p (nD b cells table known n) k).most p (pS p (nD b cells table known n) k).u.reqs ((k:Nat):Int)=0
 bB:∀k,k<n->¬k%2=0->jB (pS p (nD b cells table known n) k).b (pS p (nD b cells table known n) k).most p (pS p (nD b cells table known n) k).u.reqs=0
 q1:j' (iC b cells table known n p).b (iC b cells table known n p).most p (iC b cells table known n p).u.reqs 200=16
 aH:jB (iC b cells table known n p).b (iC b cells table known n p).most p (iC b cells table known n p).u.reqs=16
 s1:kx (iC b cells table known n p) p 200=iC b cells table known n p
 s2:∀k,mw (iC b cells table known n p) p k=iC b cells table known n p
 kl:gF (iC b cells table known n p)
 q7:gF (kH (iC b cells table known n p))
 c3:j' (kH (iC b cells table known n p)).b (kH (iC b cells table known n p)).most p (kH (iC b cells table known n p)).u.reqs 200=0
 ED:gF (qu b cells table known n p)
 nV:j' (qu b cells table known n p).b (qu b cells table known n p).most p (qu b cells table known n p).u.reqs 256=1
 Bp:kx (qu b cells table known n p) p 256=qu b cells table known n p
 pw:(qu b cells table known n p).b=b
 lt:cl b p<(qu b cells table known n p).cells.length
 get:(qu b cells table known n p).cells.getD (cl b p) default=200
 l1:cells.length<=120
 TS:(iC b cells table known n p).u.aG.length=cells.length
 lc:(iC b cells table known n p).cells.length=cells.length
 mB:(iC b cells table known n p).known.length=cells.length
 jC:(iC b cells table known n p).b=b
 L2:(qu b cells table known n p).cells.length=cells.length
theorem aoa {b:bQ} {cells:List Int} {table:List cW} {known:List Bool} {n:Nat} {p:d_} (n4:pq b cells table known ((n:Nat):Int)) (aL:tW cells table known 0) (ad:bV p b) (av:n<=20) (hJ:1<=n):an_ b cells table known n p:=by
 have hl:cells.length<=120:=aL.1;obtain⟨Ic,_⟩:=LL n4 aj;obtain⟨af,aC⟩:=an' n4 aj;obtain⟨jn,ot,_,_⟩:=Ic.set;have bh:∀k,k<=n->Ig (nD b cells table known n) k (pS p (nD b cells table known n) k):=by
  intro k
  induction k with
  |zero=>exact λ_=>⟨jn,rfl,rfl,ot.2.2⟩
  |succ k cA=>exact λal=>(acn (cA aj) ad (show ((k:Nat):Int)<((n:Nat):Int) by omega) aj).2.2
 have c0:∀k,k<n->_:=λk al=>acn (bh k aj) ad (show ((k:Nat):Int)<((n:Nat):Int) by omega) aj
 have za:Ig (nD b cells table known n) n (iC b cells table known n p):=bh n (ch n);have m2:(iC b cells table known n p).most=((n:Nat):Int):=za.most;have jC:(iC b cells table known n p).b=b:=za.b;have aH:jB (iC b cells table known n p).b (iC b cells table known n p).most p (iC b cells table known n p).u.reqs=16:=by
  unfold jB;rw[aY (by rw[jC];exact ad),aY (by rw[m2,za.len];exact Int.le_refl _)]
 have q1:j' (iC b cells table known n p).b (iC b cells table known n p).most p (iC b cells table known n p).u.reqs 200=16:=by
  unfold j';rw[aY ⟨cw,cw⟩];exact aH
 obtain⟨q7,w6,_,_⟩:=za.ok.set;have c3:j' (kH (iC b cells table known n p)).b (kH (iC b cells table known n p)).most p (kH (iC b cells table known n p)).u.reqs 200=0:=ack ⟨cw,cw⟩ (show bV p (iC b cells table known n p).b by rw[jC];exact ad) (by rw[acm w6];show _<(iC b cells table known n p).most;rw[m2];omega);have Jh:(kH (iC b cells table known n p)).u.reqs.length<10000:=by rw[acm w6];decide
 obtain⟨ED,_,_⟩:=q7.cn Jh p 200;have nV:j' (qu b cells table known n p).b (qu b cells table known n p).most p (qu b cells table known n p).u.reqs 256=1:=by
  unfold j';rw[a_ (λh=>absurd h.2 cw)]
 have pw:(qu b cells table known n p).b=b:=jC;have Ih:(iC b cells table known n p).cells.length=cells.length:=by rw[za.ok.LH,jC];exact aC.symm
 have fT:(qu b cells table known n p).cells=(iC b cells table known n p).cells.set (cl b p) 200:=by
  have:=an6 (e:=kH (iC b cells table known n p)) c3;rw[show (kH (iC b cells table known n p)).b=b from jC] at this;exact this
 have cg:cl b p<cells.length:=by rw[aC];exact Lw ad
 have L2:(qu b cells table known n p).cells.length=cells.length:=by rw[fT,List.length_set,Ih]
 refine⟨af,Ic,jn,bh,λk al=>(c0 k al).1,λk al=>(c0 k al).2.1,q1,aH,H5 (by rw[q1];decide),λk=>abw (by rw[aH];decide),za.ok,q7,c3,ED,nV,H5 (by rw[nV];decide),pw,by rw[L2];exact cg,?_,hl,?_,Ih,?_,jC,L2⟩
 ·rw[fT,dq,List.getElem?_set,aY rfl,aY (by rw[Ih];exact cg)]
  rfl
 ·exact za.ok.tV.Q5.trans (za.ok.lc.symm.trans Ih)
 ·exact za.ok.Sv.trans Ih
end AE
namespace AE
theorem aco {p:d_} {b:bQ} (h:bV p b):Ac b p=(p.1-b.1)+((bO b).1*((p.2.1-b.2.1)+((bO b).2.1*(p.2.2-b.2.2.1)))):=by
 rw[G5 h];have e1:p.2.2+((-1)*b.2.2.1)=p.2.2-b.2.2.1:=by omega
 have e2:p.2.1+((-1)*b.2.1)=p.2.1-b.2.1:=by omega
 have e3:p.1+((-1)*b.1)=p.1-b.1:=by omega
 rw[e1,e2,e3,Int.mul_comm (p.2.2-b.2.2.1),Int.add_comm (((bO b).2.1*(p.2.2-b.2.2.1))),Int.mul_comm _ (bO b).1,Int.add_comm]
theorem sP {p:d_} {b:bQ} (af:okB b) (h:bV p b):0<=((bO b).2.1*(p.2.2-b.2.2.1))/\((bO b).2.1*(p.2.2-b.2.2.1))<=4398038122500/\0<=((bO b).1*((p.2.1-b.2.1)+((bO b).2.1*(p.2.2-b.2.2.1))))/\((bO b).1*((p.2.1-b.2.1)+((bO b).2.1*(p.2.2-b.2.2.1))))<=9223345648600875000:=by
 have q:=pa af h;have e1:p.2.2+((-1)*b.2.2.1)=p.2.2-b.2.2.1:=by omega
 have e2:p.2.1+((-1)*b.2.1)=p.2.1-b.2.1:=by omega
 rw[e1,e2,Int.mul_comm (p.2.2-b.2.2.1),Int.add_comm (((bO b).2.1*(p.2.2-b.2.2.1))),Int.mul_comm _ (bO b).1] at q;exact q
end AE
namespace AE
namespace acp
noncomputable def body:Code:=(Tryd.f41.body).getD .skip
def N:Nat:=13
noncomputable abbrev bC:=fm Tryd.prog Tryd.f41
def aO:b8:={sl:=b3 [(0,.agg ⟨[0,1,2,3,4,5]⟩)],ms:=[],A:=start}
def bP:bj:=[(.bin .geq 3 0 3,.bool true)]
theorem e0:bC (at' 13 bP [] body aO)=some (.agg ⟨[I 0,I 0,I 0]⟩):=au
def cd:bj:=[(.bin .geq 3 0 3,.bool false),
 (.bin .geq 3 1 4,.bool true)]
theorem e1:bC (at' 13 cd [] body aO)=some (.agg ⟨[I 0,I 0,I 0]⟩):=au
def dk:bj:=[(.bin .geq 3 0 3,.bool false),
 (.bin .geq 3 1 4,.bool false),
 (.bin .geq 3 2 5,.bool true)]
theorem e2:bC (at' 13 dk [] body aO)=some (.agg ⟨[I 0,I 0,I 0]⟩):=au
def ei:bj:=[(.bin .geq 3 0 3,.bool false),
 (.bin .geq 3 1 4,.bool false),
 (.bin .geq 3 2 5,.bool false),
 (.bin .sub 3 3 0,6),
 (.bin .sub 3 4 1,7),
 (.bin .sub 3 5 2,8)]
theorem e3:bC (at' 13 ei [] body aO)=some (.agg ⟨[6,7,8]⟩):=au
@[reducible] noncomputable def bD (b:bQ):List J:=[I b.1,I b.2.1,I b.2.2.1,I b.2.2.2.1,I b.2.2.2.2.1,I b.2.2.2.2.2,I (b.2.2.2.1-b.1),I (b.2.2.2.2.1-b.2.1),I (b.2.2.2.2.2-b.2.2.1)]
theorem any (W:ax) (b:bQ) (af:okB b):Calls Tryd.prog 41 #[X.val b] W λe w'=>e= .returned (P.val (bO b))/\cj W.heap.size W w':=by
 refine jI (bD b) body aO N [.agg ⟨[ak 0,ak 1,ak 2,ak 3,ak 4,ak 5]⟩] Tryd.func41 λa ah=> ?_
 letI:=b6 ah;have aI:=bK.o5 W;have oW:=af;have e4: -1048575<=b.1/\b.1<=1048575/\ -1048575<=b.2.1/\b.2.1<=1048575/\ -1048575<=b.2.2.1/\b.2.2.1<=1048575/\ -1048575<=b.2.2.2.1/\b.2.2.2.1<=1048575/\ -1048575<=b.2.2.2.2.1/\b.2.2.2.2.1<=1048575/\ -1048575<=b.2.2.2.2.2/\b.2.2.2.2.2<=1048575:=af;by_cases aL:b.2.2.2.1<=b.1
 ·refine bA bP [] (ae bb aP) aQ ?_ ah
  exact jo e0 λw2 eW bp=>⟨(by first|(rw[uZ ⟨aj,aj,aj⟩];exact G4 aj aj aj)|(rw[xu (λq=>by unfold iZ at q;omega)];rfl)),eW⟩
 ·by_cases ad:b.2.2.2.2.1<=b.2.1
  ·refine bA cd [] (ae aU (ae bb aP)) aQ ?_ ah
   exact jo e1 λw2 eW bp=>⟨(by first|(rw[uZ ⟨aj,aj,aj⟩];exact G4 aj aj aj)|(rw[xu (λq=>by unfold iZ at q;omega)];rfl)),eW⟩
  ·by_cases ag:b.2.2.2.2.2<=b.2.2.1
   ·refine bA dk [] (ae aU (ae aU (ae bb aP))) aQ ?_ ah
    exact jo e2 λw2 eW bp=>⟨(by first|(rw[uZ ⟨aj,aj,aj⟩];exact G4 aj aj aj)|(rw[xu (λq=>by unfold iZ at q;omega)];rfl)),eW⟩
   ·refine bA ei [] (ae aU (ae aU (ae aU (ae kt (ae kt (ae kt aP)))))) aQ ?_ ah
    exact jo e3 λw2 eW bp=>⟨(by first|(rw[uZ ⟨aj,aj,aj⟩];exact G4 aj aj aj)|(rw[xu (λq=>by unfold iZ at q;omega)];rfl)),eW⟩
end acp
namespace L3
noncomputable def body:Code:=(Tryd.f14.body).getD .skip
def N:Nat:=57
noncomputable abbrev bC:=fm Tryd.prog Tryd.f14
def aO:b8:={sl:=b3 [(1,.agg ⟨[3,4,5,6,7,8]⟩),(0,.agg ⟨[0,1,2]⟩)],ms:=[],A:=start}
def bP:bj:=[(.bin .geq 3 0 3,.bool true),
 (.bin .lss 3 0 6,.bool true),
 (.bin .geq 3 1 4,.bool true),
 (.bin .lss 3 1 7,.bool true),
 (.bin .geq 3 2 5,.bool true),
 (.bin .lss 3 2 8,.bool true)]
theorem e0:bC (at' 57 bP [] body aO)=some (.bool true):=au
def cd:bj:=[(.bin .geq 3 0 3,.bool true),
 (.bin .lss 3 0 6,.bool true),
 (.bin .geq 3 1 4,.bool true),
 (.bin .lss 3 1 7,.bool true),
 (.bin .geq 3 2 5,.bool true),
 (.bin .lss 3 2 8,.bool false)]
theorem e1:bC (at' 57 cd [] body aO)=some (.bool false):=au
def dk:bj:=[(.bin .geq 3 0 3,.bool true),
 (.bin .lss 3 0 6,.bool true),
 (.bin .geq 3 1 4,.bool true),
 (.bin .lss 3 1 7,.bool true),
 (.bin .geq 3 2 5,.bool false)]
theorem e2:bC (at' 57 dk [] body aO)=some (.bool false):=au
def ei:bj:=[(.bin .geq 3 0 3,.bool true),
 (.bin .lss 3 0 6,.bool true),
 (.bin .geq 3 1 4,.bool true),
 (.bin .lss 3 1 7,.bool false),
 (.bin .geq 3 2 5,.bool true),
 (.bin .lss 3 2 8,.bool true)]
theorem e3:bC (at' 57 ei [] body aO)=some (.bool false):=au
def fJ:bj:=[(.bin .geq 3 0 3,.bool true),
 (.bin .lss 3 0 6,.bool true),
 (.bin .geq 3 1 4,.bool true),
 (.bin .lss 3 1 7,.bool false),
 (.bin .geq 3 2 5,.bool true),
 (.bin .lss 3 2 8,.bool false)]
theorem hD:bC (at' 57 fJ [] body aO)=some (.bool false):=au
def hH:bj:=[(.bin .geq 3 0 3,.bool true),
 (.bin .lss 3 0 6,.bool true),
 (.bin .geq 3 1 4,.bool true),
 (.bin .lss 3 1 7,.bool false),
 (.bin .geq 3 2 5,.bool false)]
theorem ku:bC (at' 57 hH [] body aO)=some (.bool false):=au
def lz:bj:=[(.bin .geq 3 0 3,.bool true),
 (.bin .lss 3 0 6,.bool true),
 (.bin .geq 3 1 4,.bool false),
 (.bin .geq 3 2 5,.bool true),
 (.bin .lss 3 2 8,.bool true)]
theorem h4:bC (at' 57 lz [] body aO)=some (.bool false):=au
def mQ:bj:=[(.bin .geq 3 0 3,.bool true),
 (.bin .lss 3 0 6,.bool true),
 (.bin .geq 3 1 4,.bool false),
 (.bin .geq 3 2 5,.bool true),
 (.bin .lss 3 2 8,.bool false)]
theorem jO:bC (at' 57 mQ [] body aO)=some (.bool false):=au
def pO:bj:=[(.bin .geq 3 0 3,.bool true),
 (.bin .lss 3 0 6,.bool true),
 (.bin .geq 3 1 4,.bool false),
 (.bin .geq 3 2 5,.bool false)]
theorem mF:bC (at' 57 pO [] body aO)=some (.bool false):=au
def sJ:bj:=[(.bin .geq 3 0 3,.bool true),
 (.bin .lss 3 0 6,.bool false),
 (.bin .geq 3 1 4,.bool true),
 (.bin .lss 3 1 7,.bool true),
 (.bin .geq 3 2 5,.bool true),
 (.bin .lss 3 2 8,.bool true)]
theorem e9:bC (at' 57 sJ [] body aO)=some (.bool false):=au
def sK:bj:=[(.bin .geq 3 0 3,.bool true),
 (.bin .lss 3 0 6,.bool false),
 (.bin .geq 3 1 4,.bool true),
 (.bin .lss 3 1 7,.bool true),
 (.bin .geq 3 2 5,.bool true),
 (.bin .lss 3 2 8,.bool false)]
theorem oe:bC (at' 57 sK [] body aO)=some (.bool false):=au
def u3:bj:=[(.bin .geq 3 0 3,.bool true),
 (.bin .lss 3 0 6,.bool false),
 (.bin .geq 3 1 4,.bool true),
 (.bin .lss 3 1 7,.bool true),
 (.bin .geq 3 2 5,.bool false)]
theorem ny:bC (at' 57 u3 [] body aO)=some (.bool false):=au
def u4:bj:=[(.bin .geq 3 0 3,.bool true),
 (.bin .lss 3 0 6,.bool false),
 (.bin .geq 3 1 4,.bool true),
 (.bin .lss 3 1 7,.bool false),
 (.bin .geq 3 2 5,.bool true),
 (.bin .lss 3 2 8,.bool true)]
theorem k0:bC (at' 57 u4 [] body aO)=some (.bool false):=au
def wv:bj:=[(.bin .geq 3 0 3,.bool true),
 (.bin .lss 3 0 6,.bool false),
 (.bin .geq 3 1 4,.bool true),
 (.bin .lss 3 1 7,.bool false),
 (.bin .geq 3 2 5,.bool true),
 (.bin .lss 3 2 8,.bool false)]
theorem qq:bC (at' 57 wv [] body aO)=some (.bool false):=au
def Aq:bj:=[(.bin .geq 3 0 3,.bool true),
 (.bin .lss 3 0 6,.bool false),
 (.bin .geq 3 1 4,.bool true),
 (.bin .lss 3 1 7,.bool false),
 (.bin .geq 3 2 5,.bool false)]
theorem yU:bC (at' 57 Aq [] body aO)=some (.bool false):=au
def Ar:bj:=[(.bin .geq 3 0 3,.bool true),
 (.bin .lss 3 0 6,.bool false),
 (.bin .geq 3 1 4,.bool false),
 (.bin .geq 3 2 5,.bool true),
 (.bin .lss 3 2 8,.bool true)]
theorem tR:bC (at' 57 Ar [] body aO)=some (.bool false):=au
def Hw:bj:=[(.bin .geq 3 0 3,.bool true),
 (.bin .lss 3 0 6,.bool false),
 (.bin .geq 3 1 4,.bool false),
 (.bin .geq 3 2 5,.bool true),
 (.bin .lss 3 2 8,.bool false)]
theorem yV:bC (at' 57 Hw [] body aO)=some (.bool false):=au
def Hx:bj:=[(.bin .geq 3 0 3,.bool true),
 (.bin .lss 3 0 6,.bool false),
 (.bin .geq 3 1 4,.bool false),
 (.bin .geq 3 2 5,.bool false)]
theorem Cj:bC (at' 57 Hx [] body aO)=some (.bool false):=au
def Hy:bj:=[(.bin .geq 3 0 3,.bool false),
 (.bin .geq 3 1 4,.bool true),
 (.bin .lss 3 1 7,.bool true),
 (.bin .geq 3 2 5,.bool true),
 (.bin .lss 3 2 8,.bool true)]
theorem tK:bC (at' 57 Hy [] body aO)=some (.bool false):=au
def Hz:bj:=[(.bin .geq 3 0 3,.bool false),
 (.bin .geq 3 1 4,.bool true),
 (.bin .lss 3 1 7,.bool true),
 (.bin .geq 3 2 5,.bool true),
 (.bin .lss 3 2 8,.bool false)]
theorem yZ:bC (at' 57 Hz [] body aO)=some (.bool false):=au
def HA:bj:=[(.bin .geq 3 0 3,.bool false),
 (.bin .geq 3 1 4,.bool true),
 (.bin .lss 3 1 7,.bool true),
 (.bin .geq 3 2 5,.bool false)]
theorem tS:bC (at' 57 HA [] body aO)=some (.bool false):=au
def HB:bj:=[(.bin .geq 3 0 3,.bool false),
 (.bin .geq 3 1 4,.bool true),
 (.bin .lss 3 1 7,.bool false),
 (.bin .geq 3 2 5,.bool true),
 (.bin .lss 3 2 8,.bool true)]
theorem rK:bC (at' 57 HB [] body aO)=some (.bool false):=au
def HC:bj:=[(.bin .geq 3 0 3,.bool false),
 (.bin .geq 3 1 4,.bool true),
 (.bin .lss 3 1 7,.bool false),
 (.bin .geq 3 2 5,.bool true),
 (.bin .lss 3 2 8,.bool false)]
theorem Cf:bC (at' 57 HC [] body aO)=some (.bool false):=au
def HD:bj:=[(.bin .geq 3 0 3,.bool false),
 (.bin .geq 3 1 4,.bool true),
 (.bin .lss 3 1 7,.bool false),
 (.bin .geq 3 2 5,.bool false)]
theorem HE:bC (at' 57 HD [] body aO)=some (.bool false):=au
def HF:bj:=[(.bin .geq 3 0 3,.bool false),
 (.bin .geq 3 1 4,.bool false),
 (.bin .geq 3 2 5,.bool true),
 (.bin .lss 3 2 8,.bool true)]
theorem HG:bC (at' 57 HF [] body aO)=some (.bool false):=au
def HH:bj:=[(.bin .geq 3 0 3,.bool false),
 (.bin .geq 3 1 4,.bool false),
 (.bin .geq 3 2 5,.bool true),
 (.bin .lss 3 2 8,.bool false)]
theorem HI:bC (at' 57 HH [] body aO)=some (.bool false):=au
def HJ:bj:=[(.bin .geq 3 0 3,.bool false),
 (.bin .geq 3 1 4,.bool false),
 (.bin .geq 3 2 5,.bool false)]
theorem Cb:bC (at' 57 HJ [] body aO)=some (.bool false):=au
@[reducible] noncomputable def bD (p:d_) (b:bQ):List J:=[I p.1,I p.2.1,I p.2.2,I b.1,I b.2.1,I b.2.2.1,I b.2.2.2.1,I b.2.2.2.2.1,I b.2.2.2.2.2]
theorem any (W:ax) (p:d_) (b:bQ):Calls Tryd.prog 14 #[P.val p,X.val b] W λe w'=>e= .returned (.bool (decide (bV p b)))/\cj W.heap.size W w':=by
 refine jI (bD p b) body aO N [.agg ⟨[ak 0,ak 1,ak 2]⟩,.agg ⟨[ak 3,ak 4,ak 5,ak 6,ak 7,ak 8]⟩] Tryd.func14 λa ah=> ?_
 letI:=b6 ah;have aI:=bK.o5 W;by_cases aL:b.1<=p.1
 ·by_cases ad:p.1<b.2.2.2.1
  ·by_cases ag:b.2.1<=p.2.1
   ·by_cases ay:p.2.1<b.2.2.2.2.1
    ·by_cases bG:b.2.2.1<=p.2.2
     ·by_cases cJ:p.2.2<b.2.2.2.2.2
      ·refine bA bP [] (ae bb (ae bb (ae bb (ae bb (ae bb (ae bb aP)))))) aQ ?_ ah
       exact jo e0 λw2 eW bp=>⟨(by first|(rw[eC (show bV p b from ⟨aj,aj,aj,aj,aj,aj⟩)];rfl)|(rw[cy (λq:bV p b=>by unfold bV at q;omega)];rfl)),eW⟩
      ·refine bA cd [] (ae bb (ae bb (ae bb (ae bb (ae bb (ae aU aP)))))) aQ ?_ ah
       exact jo e1 λw2 eW bp=>⟨(by first|(rw[eC (show bV p b from ⟨aj,aj,aj,aj,aj,aj⟩)];rfl)|(rw[cy (λq:bV p b=>by unfold bV at q;omega)];rfl)),eW⟩
     ·refine bA dk [] (ae bb (ae bb (ae bb (ae bb (ae aU aP))))) aQ ?_ ah
      exact jo e2 λw2 eW bp=>⟨(by first|(rw[eC (show bV p b from ⟨aj,aj,aj,aj,aj,aj⟩)];rfl)|(rw[cy (λq:bV p b=>by unfold bV at q;omega)];rfl)),eW⟩
    ·by_cases bG:b.2.2.1<=p.2.2
     ·by_cases cJ:p.2.2<b.2.2.2.2.2
      ·refine bA ei [] (ae bb (ae bb (ae bb (ae aU (ae bb (ae bb aP)))))) aQ ?_ ah
       exact jo e3 λw2 eW bp=>⟨(by first|(rw[eC (show bV p b from ⟨aj,aj,aj,aj,aj,aj⟩)];rfl)|(rw[cy (λq:bV p b=>by unfold bV at q;omega)];rfl)),eW⟩
      ·refine bA fJ [] (ae bb (ae bb (ae bb (ae aU (ae bb (ae aU aP)))))) aQ ?_ ah
       exact jo hD λw2 eW bp=>⟨(by first|(rw[eC (show bV p b from ⟨aj,aj,aj,aj,aj,aj⟩)];rfl)|(rw[cy (λq:bV p b=>by unfold bV at q;omega)];rfl)),eW⟩
     ·refine bA hH [] (ae bb (ae bb (ae bb (ae aU (ae aU aP))))) aQ ?_ ah
      exact jo ku λw2 eW bp=>⟨(by first|(rw[eC (show bV p b from ⟨aj,aj,aj,aj,aj,aj⟩)];rfl)|(rw[cy (λq:bV p b=>by unfold bV at q;omega)];rfl)),eW⟩
   ·by_cases ay:b.2.2.1<=p.2.2
    ·by_cases bG:p.2.2<b.2.2.2.2.2
     ·refine bA lz [] (ae bb (ae bb (ae aU (ae bb (ae bb aP))))) aQ ?_ ah
      exact jo h4 λw2 eW bp=>⟨(by first|(rw[eC (show bV p b from ⟨aj,aj,aj,aj,aj,aj⟩)];rfl)|(rw[cy (λq:bV p b=>by unfold bV at q;omega)];rfl)),eW⟩
     ·refine bA mQ [] (ae bb (ae bb (ae aU (ae bb (ae aU aP))))) aQ ?_ ah
      exact jo jO λw2 eW bp=>⟨(by first|(rw[eC (show bV p b from ⟨aj,aj,aj,aj,aj,aj⟩)];rfl)|(rw[cy (λq:bV p b=>by unfold bV at q;omega)];rfl)),eW⟩
    ·refine bA pO [] (ae bb (ae bb (ae aU (ae aU aP)))) aQ ?_ ah
     exact jo mF λw2 eW bp=>⟨(by first|(rw[eC (show bV p b from ⟨aj,aj,aj,aj,aj,aj⟩)];rfl)|(rw[cy (λq:bV p b=>by unfold bV at q;omega)];rfl)),eW⟩
  ·by_cases ag:b.2.1<=p.2.1
   ·by_cases ay:p.2.1<b.2.2.2.2.1
    ·by_cases bG:b.2.2.1<=p.2.2
     ·by_cases cJ:p.2.2<b.2.2.2.2.2
      ·refine bA sJ [] (ae bb (ae aU (ae bb (ae bb (ae bb (ae bb aP)))))) aQ ?_ ah
       exact jo e9 λw2 eW bp=>⟨(by first|(rw[eC (show bV p b from ⟨aj,aj,aj,aj,aj,aj⟩)];rfl)|(rw[cy (λq:bV p b=>by unfold bV at q;omega)];rfl)),eW⟩
      ·refine bA sK [] (ae bb (ae aU (ae bb (ae bb (ae bb (ae aU aP)))))) aQ ?_ ah
       exact jo oe λw2 eW bp=>⟨(by first|(rw[eC (show bV p b from ⟨aj,aj,aj,aj,aj,aj⟩)];rfl)|(rw[cy (λq:bV p b=>by unfold bV at q;omega)];rfl)),eW⟩
     ·refine bA u3 [] (ae bb (ae aU (ae bb (ae bb (ae aU aP))))) aQ ?_ ah
      exact jo ny λw2 eW bp=>⟨(by first|(rw[eC (show bV p b from ⟨aj,aj,aj,aj,aj,aj⟩)];rfl)|(rw[cy (λq:bV p b=>by unfold bV at q;omega)];rfl)),eW⟩
    ·by_cases bG:b.2.2.1<=p.2.2
     ·by_cases cJ:p.2.2<b.2.2.2.2.2
      ·refine bA u4 [] (ae bb (ae aU (ae bb (ae aU (ae bb (ae bb aP)))))) aQ ?_ ah
       exact jo k0 λw2 eW bp=>⟨(by first|(rw[eC (show bV p b from ⟨aj,aj,aj,aj,aj,aj⟩)];rfl)|(rw[cy (λq:bV p b=>by unfold bV at q;omega)];rfl)),eW⟩
      ·refine bA wv [] (ae bb (ae aU (ae bb (ae aU (ae bb (ae aU aP)))))) aQ ?_ ah
       exact jo qq λw2 eW bp=>⟨(by first|(rw[eC (show bV p b from ⟨aj,aj,aj,aj,aj,aj⟩)];rfl)|(rw[cy (λq:bV p b=>by unfold bV at q;omega)];rfl)),eW⟩
     ·refine bA Aq [] (ae bb (ae aU (ae bb (ae aU (ae aU aP))))) aQ ?_ ah
      exact jo yU λw2 eW bp=>⟨(by first|(rw[eC (show bV p b from ⟨aj,aj,aj,aj,aj,aj⟩)];rfl)|(rw[cy (λq:bV p b=>by unfold bV at q;omega)];rfl)),eW⟩
   ·by_cases ay:b.2.2.1<=p.2.2
    ·by_cases bG:p.2.2<b.2.2.2.2.2
     ·refine bA Ar [] (ae bb (ae aU (ae aU (ae bb (ae bb aP))))) aQ ?_ ah
      exact jo tR λw2 eW bp=>⟨(by first|(rw[eC (show bV p b from ⟨aj,aj,aj,aj,aj,aj⟩)];rfl)|(rw[cy (λq:bV p b=>by unfold bV at q;omega)];rfl)),eW⟩
     ·refine bA Hw [] (ae bb (ae aU (ae aU (ae bb (ae aU aP))))) aQ ?_ ah
      exact jo yV λw2 eW bp=>⟨(by first|(rw[eC (show bV p b from ⟨aj,aj,aj,aj,aj,aj⟩)];rfl)|(rw[cy (λq:bV p b=>by unfold bV at q;omega)];rfl)),eW⟩
    ·refine bA Hx [] (ae bb (ae aU (ae aU (ae aU aP)))) aQ ?_ ah
     exact jo Cj λw2 eW bp=>⟨(by first|(rw[eC (show bV p b from ⟨aj,aj,aj,aj,aj,aj⟩)];rfl)|(rw[cy (λq:bV p b=>by unfold bV at q;omega)];rfl)),eW⟩
 ·by_cases ad:b.2.1<=p.2.1
  ·by_cases ag:p.2.1<b.2.2.2.2.1
   ·by_cases ay:b.2.2.1<=p.2.2
    ·by_cases bG:p.2.2<b.2.2.2.2.2
     ·refine bA Hy [] (ae aU (ae bb (ae bb (ae bb (ae bb aP))))) aQ ?_ ah
      exact jo tK λw2 eW bp=>⟨(by first|(rw[eC (show bV p b from ⟨aj,aj,aj,aj,aj,aj⟩)];rfl)|(rw[cy (λq:bV p b=>by unfold bV at q;omega)];rfl)),eW⟩
     ·refine bA Hz [] (ae aU (ae bb (ae bb (ae bb (ae aU aP))))) aQ ?_ ah
      exact jo yZ λw2 eW bp=>⟨(by first|(rw[eC (show bV p b from ⟨aj,aj,aj,aj,aj,aj⟩)];rfl)|(rw[cy (λq:bV p b=>by unfold bV at q;omega)];rfl)),eW⟩
    ·refine bA HA [] (ae aU (ae bb (ae bb (ae aU aP)))) aQ ?_ ah
     exact jo tS λw2 eW bp=>⟨(by first|(rw[eC (show bV p b from ⟨aj,aj,aj,aj,aj,aj⟩)];rfl)|(rw[cy (λq:bV p b=>by unfold bV at q;omega)];rfl)),eW⟩
   ·by_cases ay:b.2.2.1<=p.2.2
    ·by_cases bG:p.2.2<b.2.2.2.2.2
     ·refine bA HB [] (ae aU (ae bb (ae aU (ae bb (ae bb aP))))) aQ ?_ ah
      exact jo rK λw2 eW bp=>⟨(by first|(rw[eC (show bV p b from ⟨aj,aj,aj,aj,aj,aj⟩)];rfl)|(rw[cy (λq:bV p b=>by unfold bV at q;omega)];rfl)),eW⟩
     ·refine bA HC [] (ae aU (ae bb (ae aU (ae bb (ae aU aP))))) aQ ?_ ah
      exact jo Cf λw2 eW bp=>⟨(by first|(rw[eC (show bV p b from ⟨aj,aj,aj,aj,aj,aj⟩)];rfl)|(rw[cy (λq:bV p b=>by unfold bV at q;omega)];rfl)),eW⟩
    ·refine bA HD [] (ae aU (ae bb (ae aU (ae aU aP)))) aQ ?_ ah
     exact jo HE λw2 eW bp=>⟨(by first|(rw[eC (show bV p b from ⟨aj,aj,aj,aj,aj,aj⟩)];rfl)|(rw[cy (λq:bV p b=>by unfold bV at q;omega)];rfl)),eW⟩
  ·by_cases ag:b.2.2.1<=p.2.2
   ·by_cases ay:p.2.2<b.2.2.2.2.2
    ·refine bA HF [] (ae aU (ae aU (ae bb (ae bb aP)))) aQ ?_ ah
     exact jo HG λw2 eW bp=>⟨(by first|(rw[eC (show bV p b from ⟨aj,aj,aj,aj,aj,aj⟩)];rfl)|(rw[cy (λq:bV p b=>by unfold bV at q;omega)];rfl)),eW⟩
    ·refine bA HH [] (ae aU (ae aU (ae bb (ae aU aP)))) aQ ?_ ah
     exact jo HI λw2 eW bp=>⟨(by first|(rw[eC (show bV p b from ⟨aj,aj,aj,aj,aj,aj⟩)];rfl)|(rw[cy (λq:bV p b=>by unfold bV at q;omega)];rfl)),eW⟩
   ·refine bA HJ [] (ae aU (ae aU (ae aU aP))) aQ ?_ ah
    exact jo Cb λw2 eW bp=>⟨(by first|(rw[eC (show bV p b from ⟨aj,aj,aj,aj,aj,aj⟩)];rfl)|(rw[cy (λq:bV p b=>by unfold bV at q;omega)];rfl)),eW⟩
end L3
namespace acq
noncomputable def body:Code:=(Tryd.f20.body).getD .skip
def N:Nat:=26
noncomputable abbrev bC:=fm Tryd.prog Tryd.f20
def aO:b8:={sl:=b3 [(1,1),(0,0)],ms:=[],A:=start}
def bP:bj:=[(.len #[45] 3 0,2),
 (.len #[45] 3 1,3),
 (.bin .neq 3 2 3,.bool false)]
def eS:List bx:=[]
def eT:aF:=b3 [(5,4),(1,1),(0,0)]
abbrev hR:=at' 26 bP [] body aO
theorem e0:p3 eT eS hR=some [(0,0),(1,1),(I 0,4)]:=au
def fb:Code:=tj body [1,1,0,1,4]
def iq:List fl:=oE body [1,1,0,1,4] []
theorem e1:pC hR=fb:=au
theorem e2:gC hR=iq:=au
def cd:bj:=[(.len #[45] 3 0,2),
 (.bin .lss 3 4 2,.bool true),
 (.dB 45 0 4,5),
 (.bB 85 5,.agg ⟨[6,7,8,9]⟩),
 (.dB 45 1 4,10),
 (.bB 85 10,.agg ⟨[11,12,13,14]⟩),
 (.bin .neq 85 (.agg ⟨[6,7,8,9]⟩) (.agg ⟨[11,12,13,14]⟩),.bool false),
 (.bin .add 3 4 (I 1),15)]
theorem e3:qJ eT eS (at' 26 cd [] fb (b5 eT eS))=some [(0,0),(1,1),(15,4)]:=au
def dk:bj:=[(.len #[45] 3 0,2),
 (.bin .lss 3 4 2,.bool true),
 (.dB 45 0 4,5),
 (.bB 85 5,.agg ⟨[6,7,8,9]⟩),
 (.dB 45 1 4,10),
 (.bB 85 10,.agg ⟨[11,12,13,14]⟩),
 (.bin .neq 85 (.agg ⟨[6,7,8,9]⟩) (.agg ⟨[11,12,13,14]⟩),.bool true)]
theorem hD:bC (nP 26 [] [] iq (at' 26 dk [] fb (b5 eT eS)))=some (.bool false):=au
def fJ:bj:=[(.len #[45] 3 0,2),
 (.bin .lss 3 4 2,.bool false)]
theorem ku:bC (nP 26 [] [] iq (at' 26 fJ [] fb (b5 eT eS)))=some (.bool true):=au
def hH:bj:=[(.len #[45] 3 0,2),
 (.len #[45] 3 1,3),
 (.bin .neq 3 2 3,.bool true)]
theorem h4:bC (at' 26 hH [] body aO)=some (.bool false):=au
@[reducible] noncomputable def bD (l:List bR) (dR:Option Addr) (eg:Nat) (k:List bR) (wC:Option Addr) (wD:Nat) (i:Nat:=0):List J:=[bu dR l eg,bu wC k wD,I ((l.length:Nat):Int),I ((k.length:Nat):Int),I ((i:Nat):Int),hd (bu dR l eg) (i*4),I (l.getD (i) default).1,I (l.getD (i) default).2.1,I (l.getD (i) default).2.2.1,I (l.getD (i) default).2.2.2,hd (bu wC k wD) (i*4),I (k.getD (i) default).1,I (k.getD (i) default).2.1,I (k.getD (i) default).2.2.1,I (k.getD (i) default).2.2.2,I ((i+1:Nat):Int)]
theorem any (W:ax) {h_:J} {l:List bR} (hl:cE (aE W) 4 dY h_ l) {H7:J} {k:List bR} (al:cE (aE W) 4 dY H7 k) (av:l.length<=1000000):Calls Tryd.prog 20 #[h_,H7] W λe w'=>e= .returned (.bool (decide (l=k)))/\cj W.heap.size W w':=by
 obtain⟨dR,eg,rfl⟩:=hl.slice;obtain⟨wC,wD,rfl⟩:=al.slice;refine jI (bD l dR eg k wC wD) body aO N [ak 0,ak 1] Tryd.func20 λa ah=> ?_
 letI:=b6 ah;by_cases aL:((l.length:Nat):Int)=((k.length:Nat):Int)
 ·refine bA bP [] (ae (eM hl n') (ae (eM al n') (ae sD aP))) aQ ?_ ah
  refine tp (gq:=(λi=>aX (aE W) (bD l dR eg k wC wD i))) (λi=>i<=l.length/\∀j,j<i->l.getD j default=k.getD j default) (λi=>l.length-i) 0 e0 fw (λ_ _ h=>h) (by exact⟨Nat.zero_le _,λj h=>absurd h (Nat.not_lt_zero _)⟩) ?_;intro i bh dA w ah;letI:=b6 ah;refine tk e1 e2 ?_;by_cases sW:((i:Nat):Int)<((l.length:Nat):Int)
  ·by_cases ih:(l.getD (i) default)=(k.getD (i) default)
   ·refine bA cd [] (ae (eM hl n') (ae bb (ae (z' hl (show i<l.length by omega) n' sx) (ae (aV.sd hl (FG (show i<l.length by omega)) U U BC sx U U U) (ae (z' al (show i<k.length by omega) n' sx) (ae (aV.sd al (FG (show i<k.length by omega)) U U BC sx U U U) (ae (Y_ U U U U (by rw[eC ih];rfl)) (ae kt aP)))))))) aQ ?_ ah
    exact tD (i+1) e3 fw (by exact⟨aj,λj h=>by rcases Nat.lt_or_ge j i with ad|ad;exact bh.2 j ad;obtain rfl:j=i:=aj;first|assumption|exact aby bM bM|exact abz bM bM⟩)
   ·refine bA dk [] (ae (eM hl n') (ae bb (ae (z' hl (show i<l.length by omega) n' sx) (ae (aV.sd hl (FG (show i<l.length by omega)) U U BC sx U U U) (ae (z' al (show i<k.length by omega) n' sx) (ae (aV.sd al (FG (show i<k.length by omega)) U U BC sx U U U) (ae (Y_ U U U U (by rw[cy ih];rfl)) aP))))))) aQ ?_ ah
    refine od [] [] aP aQ ?_;exact jo hD λw2 eW bp=>⟨(by first|(rw[cy (λh:l=k=>by subst h;omega)];rfl)|(rw[cy (λh:l=k=>by subst h;first|exact absurd rfl bM|exact absurd bM bM)];rfl)|(rw[eC (all_eq aj (λj hj=>bh.2 j aj))];rfl)),eW⟩
  ·refine bA fJ [] (ae (eM hl n') (ae aU aP)) aQ ?_ ah
   refine od [] [] aP aQ ?_;exact jo ku λw2 eW bp=>⟨(by first|(rw[cy (λh:l=k=>by subst h;omega)];rfl)|(rw[cy (λh:l=k=>by subst h;first|exact absurd rfl bM|exact absurd bM bM)];rfl)|(rw[eC (all_eq aj (λj hj=>bh.2 j aj))];rfl)),eW⟩
 ·refine bA hH [] (ae (eM hl n') (ae (eM al n') (ae tE aP))) aQ ?_ ah
  exact jo h4 λw2 eW bp=>⟨(by first|(rw[cy (λh:l=k=>by subst h;omega)];rfl)|(rw[cy (λh:l=k=>by subst h;first|exact absurd rfl bM|exact absurd bM bM)];rfl)|(rw[eC (all_eq aj (λj hj=>bh.2 j aj))];rfl)),eW⟩
end acq
end AE
namespace AE
section
variable [a7]
theorem aob {x y:J} {p:d_} {b:bQ} (hp:dM [x,y]=true) (br:ep [x,y]=[P.val p,X.val b]) (h:bV p b):jb Tryd.prog (14,[x,y],.bool true):=
 kR (a:= #[P.val p,X.val b]) hp rfl br rfl λw _=>(L3.any w p b).mono λe w' he=>by rw[eC h] at he;exact he
theorem aoc {x y:J} {p:d_} {b:bQ} (hp:dM [x,y]=true) (br:ep [x,y]=[P.val p,X.val b]) (h:¬bV p b):jb Tryd.prog (14,[x,y],.bool false):=
 kR (a:= #[P.val p,X.val b]) hp rfl br rfl λw _=>(L3.any w p b).mono λe w' he=>by rw[cy h] at he;exact he
theorem aod {x r:J} {b:bQ} (hp:dM [x]=true) (ao:aM r=true) (br:ep [x]=[X.val b]) (ca:aJ r=P.val (bO b)) (af:okB b):jb Tryd.prog (41,[x],r):=
 kR (a:= #[X.val b]) hp ao br ca λw _=>acp.any w b af
end
end AE
namespace AE
namespace acr
noncomputable def body:Code:=(Tryd.f16.body).getD .skip
def N:Nat:=33
def aO:b8:={sl:=b3 [(1,.agg ⟨[6,7,8]⟩),(0,.agg ⟨[0,1,2,3,4,5]⟩)],ms:=[],A:=start}
def bP:bj:=[(.bin .sub 3 6 0,12),
 (.bin .sub 3 7 1,13),
 (.bin .sub 3 8 2,14),
 (.bin .mul 3 10 14,15),
 (.bin .add 3 13 15,16),
 (.bin .mul 3 9 16,17),
 (.bin .add 3 12 17,18)]
def j1:dZ:=[(14,[.agg ⟨[6,7,8]⟩,.agg ⟨[0,1,2,3,4,5]⟩],.bool true),
 (41,[.agg ⟨[ak 0,ak 1,ak 2,ak 3,ak 4,ak 5]⟩],.agg ⟨[ak 9,ak 10,ak 11]⟩)]
theorem e0:fm Tryd.prog Tryd.f16 (at' 33 bP j1 body aO)=some 18:=au
def h':dZ:=[(14,[.agg ⟨[6,7,8]⟩,.agg ⟨[0,1,2,3,4,5]⟩],.bool false)]
theorem e1:fm Tryd.prog Tryd.f16 (at' 33 [] h' body aO)=some (I (-1)):=au
@[reducible] noncomputable def bD (b:bQ) (p:d_):List J:=[I b.1,I b.2.1,I b.2.2.1,I b.2.2.2.1,I b.2.2.2.2.1,I b.2.2.2.2.2,I p.1,I p.2.1,I p.2.2,I (bO b).1,I (bO b).2.1,I (bO b).2.2,I (p.1-b.1),I (p.2.1-b.2.1),I (p.2.2-b.2.2.1),I ((bO b).2.1*(p.2.2-b.2.2.1)),I ((p.2.1-b.2.1)+((bO b).2.1*(p.2.2-b.2.2.1))),I ((bO b).1*((p.2.1-b.2.1)+((bO b).2.1*(p.2.2-b.2.2.1)))),I ((p.1-b.1)+((bO b).1*((p.2.1-b.2.1)+((bO b).2.1*(p.2.2-b.2.2.1)))))]
theorem any (W:ax) (b:bQ) (p:d_) (af:okB b):Calls Tryd.prog 16 #[X.val b,P.val p] W λe w'=>e= .returned (I (Ac b p))/\cj W.heap.size W w':=by
 refine jI (bD b p) body aO N [.agg ⟨[ak 0,ak 1,ak 2,ak 3,ak 4,ak 5]⟩,.agg ⟨[ak 6,ak 7,ak 8]⟩] Tryd.func16 λa ah=> ?_
 letI:=b6 ah;have aI:=bK.o5 W;have e4: -1048575<=b.1/\b.1<=1048575/\ -1048575<=b.2.1/\b.2.1<=1048575/\ -1048575<=b.2.2.1/\b.2.2.1<=1048575/\ -1048575<=b.2.2.2.1/\b.2.2.2.1<=1048575/\ -1048575<=b.2.2.2.2.1/\b.2.2.2.2.1<=1048575/\ -1048575<=b.2.2.2.2.2/\b.2.2.2.2.2<=1048575:=af;by_cases aL:bV p b
 ·refine bA bP j1 (ae (aV.bi U U U U U U (mm rfl (by first|omega|(have hn:=sP af bM;have jX:=j9 (show bV p b by assumption);omega)) (by first|omega|(have hn:=sP af bM;have jX:=j9 (show bV p b by assumption);omega)))) (ae (aV.bi U U U U U U (mm rfl (by first|omega|(have hn:=sP af bM;have jX:=j9 (show bV p b by assumption);omega)) (by first|omega|(have hn:=sP af bM;have jX:=j9 (show bV p b by assumption);omega)))) (ae (aV.bi U U U U U U (mm rfl (by first|omega|(have hn:=sP af bM;have jX:=j9 (show bV p b by assumption);omega)) (by first|omega|(have hn:=sP af bM;have jX:=j9 (show bV p b by assumption);omega)))) (ae (aV.bi U U U U U U (mm rfl (by first|omega|(have hn:=sP af bM;have jX:=j9 (show bV p b by assumption);omega)) (by first|omega|(have hn:=sP af bM;have jX:=j9 (show bV p b by assumption);omega)))) (ae (aV.bi U U U U U U (mm rfl (by first|omega|(have hn:=sP af bM;have jX:=j9 (show bV p b by assumption);omega)) (by first|omega|(have hn:=sP af bM;have jX:=j9 (show bV p b by assumption);omega)))) (ae (aV.bi U U U U U U (mm rfl (by first|omega|(have hn:=sP af bM;have jX:=j9 (show bV p b by assumption);omega)) (by first|omega|(have hn:=sP af bM;have jX:=j9 (show bV p b by assumption);omega)))) (ae (aV.bi U U U U U U (mm rfl (by first|omega|(have hn:=sP af bM;have jX:=j9 (show bV p b by assumption);omega)) (by first|omega|(have hn:=sP af bM;have jX:=j9 (show bV p b by assumption);omega)))) aP))))))) (cG (aob U U aL) (cG (aod U U U U af) aQ)) ?_ ah
  exact jo e0 λw2 eW bp=>⟨(by first|(rw[aco bM];rfl)|(rw[Ef bM];rfl)),eW⟩
 ·refine bA [] h' aP (cG (aoc U U aL) aQ) ?_ ah
  exact jo e1 λw2 eW bp=>⟨(by first|(rw[aco bM];rfl)|(rw[Ef bM];rfl)),eW⟩
end acr
end AE
section
noncomputable section
namespace AE
namespace acs
def t:bX:=
.c 16 [.agg ⟨[0,1,2,3,4,5]⟩,.agg ⟨[7,8,9]⟩] 10 1<|
.o (.bin .lss 3 10 (I 0)) 11 1 []<|
.e_ 11 (
 .ret (I 0)) (
 .o (.dB 26 6 10) 12 1 [0,3,1]<|
 .o (.bB 3 12) 13 1 [1]<|
 .ret 13)
theorem hQ:kr Tryd.prog 46 {} [.agg ⟨[0,1,2,3,4,5,6]⟩,.agg ⟨[7,8,9]⟩] 10=some t:=mO au
theorem any {W:ax} {b:bQ} {a:Option Addr} {n c:Nat} {cells:List Int} (hl:cE (aE W) 1 fQ (.slice a n c) cells) (p:d_) (af:okB b) (hp:bV p b) (cg:cl b p<cells.length):K4 fh 46 [mu b (.slice a n c),P.val p] W (I (cells.getD (cl b p) default)):=by
 refine K5 (ro:=[⟨jv,.slice a n c,cells⟩]) mixed hQ [I b.1,I b.2.1,I b.2.2.1,I b.2.2.2.1,I b.2.2.2.2.1,I b.2.2.2.2.2,.slice a n c,I p.1,I p.2.1,I p.2.2] (.cons hl (.nil _)) ?_;unfold t;refine rF (v:=I (cl b p:Nat)) (λw _=>by rw[<-ZD af hp];exact acr.any w b p af) ?_;refine cL ?_;refine l6 rfl (λh=>absurd h aj) λ_=> ?_
 refine cL ?_;exact ql rfl
end acs
namespace acu
def t:bX:=
.o (.bin .neq 25 (.agg ⟨[0,1,2,3,4,5]⟩) (.agg ⟨[7,8,9,10,11,12]⟩)) 14 1 []<|
.e_ 14 (
 .ret (.bool false)) (
 .o (.len #[26] 3 6) 15 1 [0,3]<|
 .o (.len #[26] 3 13) 16 1 [0,3]<|
 .o (.bin .neq 3 15 16) 17 1 []<|
 .e_ 17 (
  .ret (.bool false)) (
  .loop [I 0,.bool false] 2<|
  .o (.len #[26] 3 6) 20 1 [0,3]<|
  .o (.bin .lss 3 18 20) 21 1 []<|
  .e_ 21 (
   .o (.dB 26 6 18) 22 1 [0,3,1]<|
   .o (.bB 3 22) 23 1 [1]<|
   .o (.dB 26 13 18) 24 1 [0,3,1]<|
   .o (.bB 3 24) 25 1 [1]<|
   .o (.bin .neq 3 23 25) 26 1 []<|
   .e_ 26 (
    .fH<|
    .ret (.bool false)) (
    .o (.bin .add 3 18 (I 1)) 27 1 []<|
    .back [27,19])) (
   .fH<|
   .ret (.bool true))))
theorem hQ:kr Tryd.prog 21 {} [.agg ⟨[0,1,2,3,4,5,6]⟩,.agg ⟨[7,8,9,10,11,12,13]⟩] 14=some t:=mO au
theorem any {W:ax} {b:bQ} {a a2:Option Addr} {n c n2 c2:Nat} {cells:List Int} (hl:cE (aE W) 1 fQ (.slice a n c) cells) (ru:cE (aE W) 1 fQ (.slice a2 n2 c2) cells) (av:n=cells.length) (kK:n2=cells.length) (ad:cells.length<=1000000):K4 fh 21 [mu b (.slice a n c),mu b (.slice a2 n2 c2)] W (.bool true):=by
 subst av kK;refine K5 (ro:=[⟨jv,.slice a cells.length c,cells⟩,⟨jv,.slice a2 cells.length c2,cells⟩]) mixed hQ [I b.1,I b.2.1,I b.2.2.1,I b.2.2.2.1,I b.2.2.2.2.1,I b.2.2.2.2.2,.slice a cells.length c,I b.1,I b.2.1,I b.2.2.1,I b.2.2.2.1,I b.2.2.2.2.1,I b.2.2.2.2.2,.slice a2 cells.length c2] (.cons hl (.cons ru (.nil _))) ?_;unfold t;refine YY (b:=true) (xs:=xt b) (ys:=xt b) U U (by
  have h:rn fh 10000 25 (.agg ⟨xt b⟩) (.agg ⟨xt b⟩)=some ((b.1==b.1&&(b.2.1==b.2.1&&(b.2.2.1==b.2.2.1&&true)))&&((b.2.2.2.1==b.2.2.2.1&&(b.2.2.2.2.1==b.2.2.2.2.1&&(b.2.2.2.2.2==b.2.2.2.2.2&&true)))&&true)):=by kernel_rfl
  rw[h]
  simp) ?_
 refine K3 rfl ?_;refine cL ?_;refine l6 rfl (λh=>absurd rfl h) λ_=> ?_
 refine xp Nat (λi=>[I (i:Nat),.bool false]) (λ_=>[]) (λi=>i<=cells.length) (λi=>cells.length-i) 0 U U (Nat.zero_le _) (λi ai=> ?_);refine cL ?_;refine l6 rfl (λcg=> ?_) λ_=> ?_
 ·refine cL ?_
  refine l6 rfl (λh=>absurd rfl h) λ_=> ?_
  refine cL ?_;exact pL (i+1) U U aj aj
 ·refine cL ?_
  exact ql rfl
end acu
namespace acv
def t:bX:=
.o (.len #[30] 3 0) 2 1 [0,4]<|
.o (.len #[30] 3 1) 3 1 [0,4]<|
.o (.bin .neq 3 2 3) 4 1 []<|
.e_ 4 (
 .ret (.bool false)) (
 .loop [I 0,.bool false] 2<|
 .o (.len #[30] 3 0) 7 1 [0,4]<|
 .o (.bin .lss 3 5 7) 8 1 []<|
 .e_ 8 (
  .o (.dB 30 0 5) 9 1 [0,4,1]<|
  .o (.bB 4 9) 10 1 [1]<|
  .o (.dB 30 1 5) 11 1 [0,4,1]<|
  .o (.bB 4 11) 12 1 [1]<|
  .o (.bin .neq 4 10 12) 13 1 []<|
  .e_ 13 (
   .fH<|
   .ret (.bool false)) (
   .o (.bin .add 3 5 (I 1)) 14 1 []<|
   .back [14,6])) (
  .fH<|
  .ret (.bool true)))
theorem hQ:kr Tryd.prog 23 {} [0,1] 2=some t:=mO au
theorem any {W:ax} {a a2:Option Addr} {n c n2 c2:Nat} {l:List Bool} (hl:cE (aE W) 1 il (.slice a n c) l) (ru:cE (aE W) 1 il (.slice a2 n2 c2) l) (av:n=l.length) (kK:n2=l.length) (ad:l.length<=1000000):K4 fh 23 [.slice a n c,.slice a2 n2 c2] W (.bool true):=by
 subst av kK;refine K5 (ro:=[⟨jJ,.slice a l.length c,l⟩,⟨jJ,.slice a2 l.length c2,l⟩]) mixed hQ [.slice a l.length c,.slice a2 l.length c2] (.cons hl (.cons ru (.nil _))) ?_;unfold t;refine cL ?_;refine l6 rfl (λh=>absurd rfl h) λ_=> ?_
 refine xp Nat (λi=>[I (i:Nat),.bool false]) (λ_=>[]) (λi=>i<=l.length) (λi=>l.length-i) 0 U U (Nat.zero_le _) (λi ai=> ?_);refine cL ?_;refine l6 rfl (λcg=> ?_) λ_=> ?_
 ·refine cL ?_
  refine D_ rfl (λh=>absurd h (by simp)) λ_=> ?_
  refine cL ?_;exact pL (i+1) U U aj aj
 ·refine cL ?_
  exact ql rfl
end acv
abbrev gH (g:Nat) (A:dJ) (e:cx):bd fh:= .any (dj g A e)
namespace acw
def t:bX:=
.call 22 [0] (.agg ⟨[4,5,6,7,8,9,10]⟩) 7<|
.c 46 [.agg ⟨[4,5,6,7,8,9,10]⟩,.agg ⟨[1,2,3]⟩] 11 1<|
.ret 11
theorem hQ:kr Tryd.prog 24 {rD:=[22]} [0,.agg ⟨[1,2,3]⟩] 4=some t:=mO au
theorem any {W:ax} {g:Nat} {A:dJ} {e:cx} (aI:cH (aE W) (cP [gH g A e])) (p:d_) (af:okB e.b) (hp:bV p e.b) (cg:cl e.b p<e.cells.length) (av:e.cells.length<=100000):mq fh 24 [dx g,P.val p] W [gH g A e] Unit (λ_=>I (e.cells.getD (cl e.b p) default)) λ_=>[gH g A e]:=by
 refine pM (ro:=[]) mixed hQ [dx g,I p.1,I p.2.1,I p.2.2] aI hv.none ?_;unfold t;refine lN (er:=[gH g A e]) (N:=λ(y:dX)=>[gH g A e,bd.arr jv (.slice y.1 e.cells.length y.2) e.cells]) (L':=λ(y:dX)=>[gH g A e,bd.arr jv (.slice y.1 e.cells.length y.2) e.cells]) [0] (λy=>[I e.b.1,I e.b.2.1,I e.b.2.2.1,I e.b.2.2.2.1,I e.b.2.2.2.2.1,I e.b.2.2.2.2.2,.slice y.1 e.cells.length y.2]) (λw _ aI=>LF w aI av) λy=> ?_
 refine rF (v:=I (e.cells.getD (cl e.b p) default)) (λw hw=>acs.any ((l5.arr (K:=jv) (l:=e.cells) has).at hw) p af hp cg) ?_;exact sC (λM bw=>by exact bw.pick [0] rfl) ⟨(),rfl,rfl⟩
end acw
theorem TT {B:Nat} {W:ax} {az:List cb} {ro:List (iW fh)} {post:J->List (bd fh)->Prop} {n:Nat} {env:List J} {L:List (bd fh)} {aT:List (ft fh)} {de dv:bX} {ah:List Nat} {op:BinOp} {t:aK} {x y:J} {gB:IntKind} {a c:Int} {b:Bool} (cz:yl op=true) (aC:w_ op gB a c= .bool b) (aq:ex env n x= .int gB a) (bE:ex env n y= .int gB c) (ad:b=true->X B W az ro post n env L aT de) (ag:b=false->X B W az ro post n env L aT dv) (fe:aM x=true:=by rfl) (jQ:aM y=true:=by rfl):X B W az ro post n env L aT (.s (.bin op t x y) ah de dv):=
 ⟨λav ho=> .s b (λM _ _=> @aV.bi (cY M env) fh op t x y (.bool b) gB a c fe jQ rfl cz ((lK M ho av x).trans aq) ((lK M ho av y).trans bE) aC.symm) (λh=>ad h av ho) λh=>ag h av ho⟩
end AE
end
end
section
noncomputable section
namespace AE
namespace L4
def t:bX:=
.o (.conv 5 3 9) 13 1 []<|
.o (.bin .rem 3 13 (I 20)) 14 1 []<|
.o (.bin .add 3 14 (I 1)) 15 1 []<|
.c 7 [.agg ⟨[0,1,2,3,4,5,6]⟩,7,8,.slice none 0 0] 16 1<|
.o (.un .not 16) 17 1 []<|
.e_ 17 (
 .c 8 [] 18 1<|
 .ret 18) (
 .c 14 [.agg ⟨[10,11,12]⟩,.agg ⟨[0,1,2,3,4,5]⟩] 18 1<|
 .o (.un .not 18) 19 1 []<|
 .e_ 19 (
  .c 8 [] 20 1<|
  .ret 20) (
  .call 9 [.agg ⟨[0,1,2,3,4,5,6]⟩,7,8,15] (.tuple ⟨[20,21]⟩) 2<|
  .o (.bin .neq 35 21 (I 0)) 22 1 []<|
  .e_ 22 (
   .c 8 [] 23 1<|
   .e_ 23 (
    .o (.bin .eql 35 21 (I 1)) 24 1 []<|
    .ret 24) (
    .ret (.bool false))) (
   .o (.bin .eql 34 20 (.pointer none)) 23 1 []<|
   .e_ 23 (
    .c 8 [] 24 1<|
    .e_ 24 (
     .o (.bin .eql 35 21 (I 1)) 25 1 []<|
     .ret 25) (
     .ret (.bool false))) (
    .call 12 [20] 24 1<|
    .loop [I 0,.bool false] 2<|
    .o (.bin .lss 3 25 15) 27 1 []<|
    .e_ 27 (
     .o (.bin .rem 3 25 (I 2)) 28 1 []<|
     .o (.bin .eql 3 28 (I 0)) 29 1 []<|
     .e_ 29 (
      .call 18 [20,.agg ⟨[10,11,12]⟩,25] 30 1<|
      .o (.bin .neq 35 30 (I 0)) 31 1 []<|
      .e_ 31 (
       .fH<|
       .ret (.bool false)) (
       .o (.bin .add 3 25 (I 1)) 32 1 []<|
       .back [32,26])) (
      .o (.bin .rem 3 25 (I 4)) 30 1 []<|
      .o (.bin .eql 3 30 (I 1)) 31 1 []<|
      .call 19 [20,.agg ⟨[10,11,12]⟩,31] 32 1<|
      .o (.bin .neq 35 32 (I 0)) 33 1 []<|
      .e_ 33 (
       .fH<|
       .ret (.bool false)) (
       .o (.bin .add 3 25 (I 1)) 34 1 []<|
       .back [34,26]))) (
     .fH<|
     .call 22 [20] (.agg ⟨[28,29,30,31,32,33,34]⟩) 7<|
     .call 17 [20] 35 1<|
     .call 15 [20] 36 1<|
     .o (.len #[30] 3 35) 37 1 [0,4]<|
     .s (.bin .gtr 3 37 (I 0)) [] (
      .o (.dB 30 35 (I 0)) 38 1 [0,4,1]<|
      .o (.bB 4 38) 39 1 [1]<|
      .o (.un .not 39) 40 1 []<|
      .call 18 [20,.agg ⟨[10,11,12]⟩,I 200] 41 1<|
      .o (.dB 30 35 (I 0)) 42 1 [0,4,1]<|
      .o (.bB 4 42) 43 1 [1]<|
      .o (.un .not 43) 44 1 []<|
      .call 19 [20,.agg ⟨[10,11,12]⟩,44] 45 1<|
      .s (.bin .neq 35 41 (I 16)) [] (
       .ret (.bool false)) (
       .s (.bin .neq 35 45 (I 16)) [] (
        .ret (.bool false)) (
        .call 22 [20] (.agg ⟨[46,47,48,49,50,51,52]⟩) 7<|
        .cs 21 [.agg ⟨[46,47,48,49,50,51,52]⟩,.agg ⟨[28,29,30,31,32,33,34]⟩] (
         .call 17 [20] 53 1<|
         .cs 23 [53,35] (
          .call 15 [20] 54 1<|
          .c 20 [54,36] 55 1<|
          .o (.un .not 55) 56 1 []<|
          .e_ 56 (
           .ret (.bool false)) (
           .call 12 [20] 57 1<|
           .c 8 [] 58 1<|
           .e_ 58 (
            .call 18 [20,.agg ⟨[10,11,12]⟩,I 200] 59 1<|
            .o (.bin .eql 35 59 (I 0)) 60 1 []<|
            .e_ 60 (
             .call 18 [20,.agg ⟨[10,11,12]⟩,I 256] 61 1<|
             .o (.bin .eql 35 61 (I 1)) 62 1 []<|
             .e_ 62 (
              .call 24 [20,.agg ⟨[10,11,12]⟩] 63 1<|
              .o (.bin .eql 3 63 (I 200)) 64 1 []<|
              .ret 64) (
              .ret (.bool false))) (
             .ret (.bool false))) (
            .ret (.bool false)))) (
          .ret (.bool false))) (
         .ret (.bool false))))) (
      .call 18 [20,.agg ⟨[10,11,12]⟩,I 200] 38 1<|
      .call 19 [20,.agg ⟨[10,11,12]⟩,.bool false] 39 1<|
      .s (.bin .neq 35 38 (I 16)) [] (
       .ret (.bool false)) (
       .s (.bin .neq 35 39 (I 16)) [] (
        .ret (.bool false)) (
        .call 22 [20] (.agg ⟨[40,41,42,43,44,45,46]⟩) 7<|
        .cs 21 [.agg ⟨[40,41,42,43,44,45,46]⟩,.agg ⟨[28,29,30,31,32,33,34]⟩] (
         .call 17 [20] 47 1<|
         .cs 23 [47,35] (
          .call 15 [20] 48 1<|
          .c 20 [48,36] 49 1<|
          .o (.un .not 49) 50 1 []<|
          .e_ 50 (
           .ret (.bool false)) (
           .call 12 [20] 51 1<|
           .c 8 [] 52 1<|
           .e_ 52 (
            .call 18 [20,.agg ⟨[10,11,12]⟩,I 200] 53 1<|
            .o (.bin .eql 35 53 (I 0)) 54 1 []<|
            .e_ 54 (
             .call 18 [20,.agg ⟨[10,11,12]⟩,I 256] 55 1<|
             .o (.bin .eql 35 55 (I 1)) 56 1 []<|
             .e_ 56 (
              .call 24 [20,.agg ⟨[10,11,12]⟩] 57 1<|
              .o (.bin .eql 3 57 (I 200)) 58 1 []<|
              .ret 58) (
              .ret (.bool false))) (
             .ret (.bool false))) (
            .ret (.bool false)))) (
          .ret (.bool false))) (
         .ret (.bool false))))))))))
theorem hQ:kr Tryd.prog 6 {rD:=[9,12,18,19,22,17,15,24]} [.agg ⟨[0,1,2,3,4,5,6]⟩,7,8,9,.agg ⟨[10,11,12]⟩] 13=some t:=mO au
end L4
end AE
end
end
section
noncomputable section
namespace AE
theorem mJ.TU {W w:ax} {ro:List (iW fh)} {L:List (bd fh)} (h:mJ (aE W)) (hw:qj W [] ro L w):mJ (aE w):=h.mono λi o ai=>hw.ext i o ai (DI i)
theorem aoe {B:Nat} {W:ax} {az:List cb} {ro:List (iW fh)} {post:J->List (bd fh)->Prop} {n q:Nat} {env:List J} {L:List (bd fh)} {aT:List (ft fh)} {k:bX} {ah:List Nat} {s d:aK} {x:J} {gB Ii:IntKind} {a:Int} (aq:ex (.int Ii a::env) (q+1) x= .int gB a) (h:X B W az ro post (q+1) (.int Ii a::env) L aT k) (hw:Ii.wrap a=a) (aw:(fh.underlying s).isSome=true:=by kernel_rfl) (bg:fh.underlying d=some (.int (fh.intKind d)):=by kernel_rfl) (al:fh.intKind d=Ii:=by kernel_rfl) (fe:aM x=true:=by rfl) (aA:Nat.blt q eZ=true:=by rfl) (bf:n=q:=by rfl):
  X B W az ro post n env L aT (.o (.conv s d x) (ak q) 1 ah k):=
 nq _ (λM _ _ ai o0=> @aV.DA (cY M (_::env)) fh s d x (ak q) gB Ii a fe rfl aw bg al hw ((ai x).trans aq) o0) h rfl aA bf
namespace L4
theorem any (W:ax) {a0:cm} {ev dE:Nat} {cells:List Int} (HO:cE (aE W) 1 fQ (.slice a0 ev dE) cells) (b:bQ) {v1 gL:J} {table:List cW} {known:List Bool} (Dh:cE (aE W) 8 jF v1 table) (ru:cE (aE W) 1 il gL known) (m:Nat) (hm:m<256) (p:d_) (cC:mJ (aE W)) (fc:ev=cells.length):
  Calls Tryd.prog 6 #[mu b (.slice a0 ev dE),v1,gL,.int .u8 (m:Nat),P.val p] W λe w'=>e= .returned (.bool true)/\cj W.heap.size W w':=by
 subst fc;obtain⟨eG,hA,rfl⟩:=Dh.slice;obtain⟨a2,c2,rfl⟩:=ru.slice;refine K5 (ro:=[⟨jv,.slice a0 cells.length dE,cells⟩,⟨Ag,.slice eG table.length hA,table⟩,⟨jJ,.slice a2 known.length c2,known⟩]) mixed hQ [I b.1,I b.2.1,I b.2.2.1,I b.2.2.2.1,I b.2.2.2.2.1,I b.2.2.2.2.2,.slice a0 cells.length dE,.slice eG table.length hA,.slice a2 known.length c2,.int .u8 (m:Nat),I p.1,I p.2.1,I p.2.2] (.cons HO (.cons Dh (.cons ru (.nil _)))) ?_;unfold t;have pA:∀{L:List (bd fh)} {w:ax},qj W [] [⟨jv,.slice a0 cells.length dE,cells⟩,⟨Ag,.slice eG table.length hA,table⟩,⟨jJ,.slice a2 known.length c2,known⟩] L w->cE (aE w) 1 fQ (.slice a0 cells.length dE) cells:=λhw=>hw.ro 0 _ rfl
 have cS:∀{L:List (bd fh)} {w:ax},qj W [] [⟨jv,.slice a0 cells.length dE,cells⟩,⟨Ag,.slice eG table.length hA,table⟩,⟨jJ,.slice a2 known.length c2,known⟩] L w->cE (aE w) 8 jF (.slice eG table.length hA) table:=λhw=>hw.ro 1 _ rfl
 have dy:∀{L:List (bd fh)} {w:ax},qj W [] [⟨jv,.slice a0 cells.length dE,cells⟩,⟨Ag,.slice eG table.length hA,table⟩,⟨jJ,.slice a2 known.length c2,known⟩] L w->cE (aE w) 1 il (.slice a2 known.length c2) known:=λhw=>hw.ro 2 _ rfl
 have L5:∀{L:List (bd fh)} (w:ax),qj W [] [⟨jv,.slice a0 cells.length dE,cells⟩,⟨Ag,.slice eG table.length hA,table⟩,⟨jJ,.slice a2 known.length c2,known⟩] L w->Calls fh 8 #[] w λe w'=>e= .returned (.bool true)/\cj w.heap.size w w':=λw hw=>abM.any w (cC.TU hw)
 refine aoe rfl ?_ (wrap64 aj aj);refine KY U U ?_;refine YN U U ?_;obtain⟨n,av⟩:∃n:Nat,((m:Nat):Int)%20+1=(n:Nat):=⟨m%20+1,aj⟩;have hJ:1<=n:=by omega
 have aof:n<=20:=by omega
 rw[av];refine rF (v:= .bool (decide (tW cells table known 0))) (λw hw=>abA.any w (b:=b) (pA hw) (cS hw) (dy hw) (l:=[]) (.nil _ _) rfl) ?_;refine QE rfl ?_;refine D' rfl (λ_=>rF L5 (ql rfl)) λaL=> ?_
 refine rF (v:= .bool (decide (bV p b))) (λw _=>L3.any w p b) ?_;refine QE rfl ?_;refine D' rfl (λ_=>rF L5 (ql rfl)) λad=> ?_
 have q1:=aL.2.2.2.2;have aH:=aL.2.2.1.1;have b0:cells.length<=120:=aL.1;by_cases n4:pq b cells table known ((n:Nat):Int)
 ·have H:=aoa n4 aL ad aof hJ
  refine lN (v:=λ(y:Nat×dJ)=> .tuple ⟨[dx y.1,I 0]⟩) (N:=λ(y:Nat×dJ)=>[gH y.1 y.2 (ki b cells table known ((n:Nat):Int))]) (er:=[]) (L':=λy=>[gH y.1 y.2 (ki b cells table known ((n:Nat):Int))]) [] (λy=>[dx y.1,I 0]) (λw hw aI=>abK (b:=b) aI (pA hw) (cS hw) (dy hw) (cC.TU hw) aj rfl aj aj n4) λy=> ?_
  refine QD U U ?_;refine K3 rfl ?_;refine ai9 rfl ?_;refine K3 rfl ?_;refine lN (v:=λ_=>I (va (ki b cells table known ((n:Nat):Int)):Nat)) (N:=λ(A:dJ)=>[gH y.1 A (nD b cells table known n)]) (er:=[gH y.1 y.2 (ki b cells table known ((n:Nat):Int))]) (L':=λA=>[gH y.1 A (nD b cells table known n)]) [0] (λ_=>[I (va (ki b cells table known ((n:Nat):Int)):Nat)]) (λw hw aI=>LP aI H.Ic U U) λbH=> ?_
  refine xp (Nat×dJ) (λu=>[I (u.1:Nat),.bool false]) (λu=>[gH y.1 u.2 (pS p (nD b cells table known n) u.1)]) (λu=>u.1<=n) (λu=>n-u.1) (0,bH) U U (Nat.zero_le _) (λu hu=> ?_);obtain⟨k,A⟩:=u;have hu:k<=n:=hu;dsimp only;refine cL ?_;refine l6 rfl (λgX=> ?_) λgX=> ?_
  ·have gX:k<n:=by omega
   refine KY U U ?_;refine cL ?_;refine l6 rfl (λag=> ?_) λag=> ?_
   ·have ag:k%2=0:=by omega
    refine lN (v:=λ_=>I 0) (N:=λ(a':dJ)=>[gH y.1 a' (pS p (nD b cells table known n) (k+1))]) (er:=[gH y.1 A (pS p (nD b cells table known n) k)]) (L':=λa'=>[gH y.1 a' (pS p (nD b cells table known n) (k+1))]) [0] (λ_=>[I 0]) (λw hw aI=>wE aI (H.gf k hu).ok (aY ag).symm (H.cn k gX ag)) λa'=> ?_
    refine cL ?_;refine l6 rfl (λh=>absurd rfl h) λ_=> ?_
    refine cL ?_;exact pL (u:=(k,A)) (k+1,a') U U (by show k+1<=n;omega) (by show n-(k+1)<n-k;omega)
   ·have ag:¬k%2=0:=by omega
    refine KY U U ?_;refine cL ?_;refine lN (v:=λ_=>I 0) (N:=λ(a':dJ)=>[gH y.1 a' (pS p (nD b cells table known n) (k+1))]) (er:=[gH y.1 A (pS p (nD b cells table known n) k)]) (L':=λa'=>[gH y.1 a' (pS p (nD b cells table known n) (k+1))]) [0] (λ_=>[I 0]) (λw hw aI=>LO (k:=decide (((k:Nat):Int)%4=1)) aI (H.gf k hu).ok (by
     show _=Ie p (pS p (nD b cells table known n) k) k;unfold Ie;rw[a_ ag];congr 1;by_cases bG:k%4=1
     ·rw[eC bG,eC aj]
     ·rw[cy bG,cy aj]) (H.bB k gX ag)) λa'=> ?_
    refine cL ?_;refine l6 rfl (λh=>absurd rfl h) λ_=> ?_
    refine cL ?_;exact pL (u:=(k,A)) (k+1,a') U U (by show k+1<=n;omega) (by show n-(k+1)<n-k;omega)
  ·obtain rfl:k=n:=by omega
   refine YR ?_;show X _ _ _ _ _ _ _ [gH y.1 A (iC b cells table known k p)] _ _;have vI:=H.lc;have AX:=H.mB;have lh:=H.TS;have cg:=H.lt;have ap1:=H.L2;have s1:=H.s1;have s2:=H.s2;have g1:=H.q1;have g2:=H.aH;have kl:=H.kl;have q7:=H.q7;have ED:=H.ED;have c3:=H.c3;have nV:=H.nV;have Bp:=H.Bp;have jC:=H.jC;have pw:=H.pw;have get:=H.get;generalize s3:qu b cells table known k p=ij at*
   have aog:kx (kH (iC b cells table known k p)) p 200=ij:=s3;generalize Dw:iC b cells table known k p=bt at*
   refine lN (v:=λ(d:dX)=>mu bt.b (.slice d.1 bt.cells.length d.2)) (N:=λ(d:dX)=>[gH y.1 A bt,bd.arr jv (.slice d.1 bt.cells.length d.2) bt.cells]) (er:=[gH y.1 A bt]) (L':=λd=>[gH y.1 A bt,bd.arr jv (.slice d.1 bt.cells.length d.2) bt.cells]) [0] (λd=>[I bt.b.1,I bt.b.2.1,I bt.b.2.2.1,I bt.b.2.2.2.1,I bt.b.2.2.2.2.1,I bt.b.2.2.2.2.2,.slice d.1 bt.cells.length d.2]) (λw _ aI=>LF w aI aj) λmy=> ?_
   refine lN (v:=λ(d:dX)=> .slice d.1 bt.known.length d.2) (N:=λ(d:dX)=>[gH y.1 A bt,bd.arr jJ (.slice d.1 bt.known.length d.2) bt.known]) (er:=[gH y.1 A bt]) (L':=λd=>[gH y.1 A bt,bd.arr jv (.slice my.1 bt.cells.length my.2) bt.cells,bd.arr jJ (.slice d.1 bt.known.length d.2) bt.known]) [0] (λd=>[.slice d.1 bt.known.length d.2]) (λw _ aI=>Ss w aI aj) λjM=> ?_
   refine lN (v:=λ(d:dX)=> .slice d.1 bt.u.aG.length d.2) (N:=λ(d:dX)=>[gH y.1 A bt,bd.arr ly (.slice d.1 bt.u.aG.length d.2) bt.u.aG]) (er:=[gH y.1 A bt]) (L':=λd=>[gH y.1 A bt,bd.arr jv (.slice my.1 bt.cells.length my.2) bt.cells,bd.arr jJ (.slice jM.1 bt.known.length jM.2) bt.known,bd.arr ly (.slice d.1 bt.u.aG.length d.2) bt.u.aG]) [0] (λd=>[.slice d.1 bt.u.aG.length d.2]) (λw _ aI=>LD w aI aj) λog=> ?_
   refine cL ?_;refine TT (b:=true) rfl (congrArg Value.bool (eC (by show (0:Int)<((bt.known.length:Nat):Int);omega))) U U (λ_=> ?_) (λh=>by cases h);refine KZ (K:=jJ) (l:=bt.known) (j:=0) U U ?_;refine cL ?_;refine lN (v:=λ_=>I 16) (N:=λ(a':dJ)=>[gH y.1 a' bt]) (er:=[gH y.1 A bt]) (L':=λa'=>[gH y.1 a' bt,bd.arr jv (.slice my.1 bt.cells.length my.2) bt.cells,bd.arr jJ (.slice jM.1 bt.known.length jM.2) bt.known,bd.arr ly (.slice og.1 bt.u.aG.length og.2) bt.u.aG]) [0] (λ_=>[I 16]) (λw _ aI=>wE aI kl s1 g1) λA4=> ?_
   refine KZ (K:=jJ) (l:=bt.known) (j:=0) U U ?_;refine cL ?_;refine lN (v:=λ_=>I 16) (N:=λ(a':dJ)=>[gH y.1 a' bt]) (er:=[gH y.1 A4 bt]) (L':=λa'=>[gH y.1 a' bt,bd.arr jv (.slice my.1 bt.cells.length my.2) bt.cells,bd.arr jJ (.slice jM.1 bt.known.length jM.2) bt.known,bd.arr ly (.slice og.1 bt.u.aG.length og.2) bt.u.aG]) [0] (λ_=>[I 16]) (λw _ aI=>LO aI kl (s2 _) g2) λpY=> ?_
   refine TT (b:=false) U U U U (λh=>by cases h) (λ_=> ?_);refine TT (b:=false) U U U U (λh=>by cases h) (λ_=> ?_);refine lN (v:=λ(d:dX)=>mu bt.b (.slice d.1 bt.cells.length d.2)) (N:=λ(d:dX)=>[gH y.1 pY bt,bd.arr jv (.slice d.1 bt.cells.length d.2) bt.cells]) (er:=[gH y.1 pY bt]) (L':=λd=>[gH y.1 pY bt,bd.arr jv (.slice my.1 bt.cells.length my.2) bt.cells,bd.arr jJ (.slice jM.1 bt.known.length jM.2) bt.known,bd.arr ly (.slice og.1 bt.u.aG.length og.2) bt.u.aG,bd.arr jv (.slice d.1 bt.cells.length d.2) bt.cells]) [0] (λd=>[I bt.b.1,I bt.b.2.1,I bt.b.2.2.1,I bt.b.2.2.2.1,I bt.b.2.2.2.2.1,I bt.b.2.2.2.2.2,.slice d.1 bt.cells.length d.2]) (λw _ aI=>LF w aI aj) λrT=> ?_
   refine YV (b:=true) (λw hw=>acu.any ((l5.arr (K:=jv) (v:= .slice rT.1 bt.cells.length rT.2) (l:=bt.cells) has).at hw) ((l5.arr (K:=jv) (v:= .slice my.1 bt.cells.length my.2) (l:=bt.cells) has).at hw) U U aj) (λ_=> ?_) (λh=>by cases h);refine lN (v:=λ(d:dX)=> .slice d.1 bt.known.length d.2) (N:=λ(d:dX)=>[gH y.1 pY bt,bd.arr jJ (.slice d.1 bt.known.length d.2) bt.known]) (er:=[gH y.1 pY bt]) (L':=λd=>[gH y.1 pY bt,bd.arr jv (.slice my.1 bt.cells.length my.2) bt.cells,bd.arr jJ (.slice jM.1 bt.known.length jM.2) bt.known,bd.arr ly (.slice og.1 bt.u.aG.length og.2) bt.u.aG,bd.arr jv (.slice rT.1 bt.cells.length rT.2) bt.cells,bd.arr jJ (.slice d.1 bt.known.length d.2) bt.known]) [0] (λd=>[.slice d.1 bt.known.length d.2]) (λw _ aI=>Ss w aI aj) λvd=> ?_
   refine YV (b:=true) (λw hw=>acv.any ((l5.arr (K:=jJ) (v:= .slice vd.1 bt.known.length vd.2) (l:=bt.known) has).at hw) ((l5.arr (K:=jJ) (v:= .slice jM.1 bt.known.length jM.2) (l:=bt.known) has).at hw) U U aj) (λ_=> ?_) (λh=>by cases h);refine lN (v:=λ(d:dX)=> .slice d.1 bt.u.aG.length d.2) (N:=λ(d:dX)=>[gH y.1 pY bt,bd.arr ly (.slice d.1 bt.u.aG.length d.2) bt.u.aG]) (er:=[gH y.1 pY bt]) (L':=λd=>[gH y.1 pY bt,bd.arr jv (.slice my.1 bt.cells.length my.2) bt.cells,bd.arr jJ (.slice jM.1 bt.known.length jM.2) bt.known,bd.arr ly (.slice og.1 bt.u.aG.length og.2) bt.u.aG,bd.arr jv (.slice rT.1 bt.cells.length rT.2) bt.cells,bd.arr jJ (.slice vd.1 bt.known.length vd.2) bt.known,bd.arr ly (.slice d.1 bt.u.aG.length d.2) bt.u.aG]) [0] (λd=>[.slice d.1 bt.u.aG.length d.2]) (λw _ aI=>LD w aI aj) λxK=> ?_
   refine rF (v:= .bool true) (λw hw=>EA (acq.any w ((l5.arr (K:=ly) (v:= .slice xK.1 bt.u.aG.length xK.2) (l:=bt.u.aG) has).at hw) ((l5.arr (K:=ly) (v:= .slice og.1 bt.u.aG.length og.2) (l:=bt.u.aG) has).at hw) aj) rfl) ?_;refine cL ?_;refine K3 rfl ?_;refine lN (v:=λ_=>I (va bt:Nat)) (N:=λ(a':dJ)=>[gH y.1 a' (kH bt)]) (er:=[gH y.1 pY bt]) (L':=λa'=>[gH y.1 a' (kH bt),bd.arr jv (.slice my.1 bt.cells.length my.2) bt.cells,bd.arr jJ (.slice jM.1 bt.known.length jM.2) bt.known,bd.arr ly (.slice og.1 bt.u.aG.length og.2) bt.u.aG,bd.arr jv (.slice rT.1 bt.cells.length rT.2) bt.cells,bd.arr jJ (.slice vd.1 bt.known.length vd.2) bt.known,bd.arr ly (.slice xK.1 bt.u.aG.length xK.2) bt.u.aG]) [0] (λ_=>[I (va bt:Nat)]) (λw _ aI=>LP aI kl U U) λaoh=> ?_
   refine rF L5 ?_;refine GY rfl ?_;refine lN (v:=λ_=>I 0) (N:=λ(a':dJ)=>[gH y.1 a' ij]) (er:=[gH y.1 aoh (kH bt)]) (L':=λa'=>[gH y.1 a' ij,bd.arr jv (.slice my.1 bt.cells.length my.2) bt.cells,bd.arr jJ (.slice jM.1 bt.known.length jM.2) bt.known,bd.arr ly (.slice og.1 bt.u.aG.length og.2) bt.u.aG,bd.arr jv (.slice rT.1 bt.cells.length rT.2) bt.cells,bd.arr jJ (.slice vd.1 bt.known.length vd.2) bt.known,bd.arr ly (.slice xK.1 bt.u.aG.length xK.2) bt.u.aG]) [0] (λ_=>[I 0]) (λw _ aI=>wE aI q7 aog c3) λaoi=> ?_
   refine cL ?_;refine GY rfl ?_;refine lN (v:=λ_=>I 1) (N:=λ(a':dJ)=>[gH y.1 a' ij]) (er:=[gH y.1 aoi ij]) (L':=λa'=>[gH y.1 a' ij,bd.arr jv (.slice my.1 bt.cells.length my.2) bt.cells,bd.arr jJ (.slice jM.1 bt.known.length jM.2) bt.known,bd.arr ly (.slice og.1 bt.u.aG.length og.2) bt.u.aG,bd.arr jv (.slice rT.1 bt.cells.length rT.2) bt.cells,bd.arr jJ (.slice vd.1 bt.known.length vd.2) bt.known,bd.arr ly (.slice xK.1 bt.u.aG.length xK.2) bt.u.aG]) [0] (λ_=>[I 1]) (λw _ aI=>wE aI ED Bp nV) λTV=> ?_
   refine cL ?_;refine GY rfl ?_;refine lN (v:=λ_=>I 200) (N:=λ(_:Unit)=>[gH y.1 TV ij]) (er:=[gH y.1 TV ij]) (L':=λ_=>[gH y.1 TV ij,bd.arr jv (.slice my.1 bt.cells.length my.2) bt.cells,bd.arr jJ (.slice jM.1 bt.known.length jM.2) bt.known,bd.arr ly (.slice og.1 bt.u.aG.length og.2) bt.u.aG,bd.arr jv (.slice rT.1 bt.cells.length rT.2) bt.cells,bd.arr jJ (.slice vd.1 bt.known.length vd.2) bt.known,bd.arr ly (.slice xK.1 bt.u.aG.length xK.2) bt.u.aG]) [0] (λ_=>[I 200]) (λw _ aI=>by
    have:=acw.any aI p ED.tV.box (by rw[pw];exact ad) (by rw[pw];exact cg) aj;rw[pw,get] at this
    exact this) λ_=> ?_
   refine cL ?_;exact ql rfl
 ·refine lN (v:=λ_=> .tuple ⟨[.pointer none,I 1]⟩) (N:=λ(_:Unit)=>[]) (er:=[]) (L':=λ_=>[]) [] (λ_=>[.pointer none,I 1]) (λw hw aI=>abL (b:=b) aI (pA hw) (cS hw) (dy hw) (cC.TU hw) aj rfl aj aj n4) λ_=> ?_
  refine QD U U ?_;refine GY rfl ?_;refine rF L5 ?_;refine GY rfl ?_;refine YM U U ?_;exact ql rfl
end L4
end AE
end
end
end Go.Proofs.YtepcfjbfkedlpaaDoor
namespace Go.Proofs.YtepcfjbfkedlpaaDoor
open Go Go.ChangeShapes Go.WideShapes Go.ChangeAt Go.RowKit
section
theorem aoj {H:Type} {enc:aK×J->H} {W:ax} {r:Reach} {cu:Nat} {base:Nat} {n1:Nat->Bool} {n3:Bool} {v:J} {d:DataW H} {p:List MemPlace} (aC:Value.okWide Tryd.prog W r cu 23 v) (h:DataW.Trod enc Tryd.prog W base n1 n3 23 v d p):∃q:AE.d_,v=AE.P.val q:=by
 obtain⟨cs,rfl,_⟩:=okWide_struct H4 aC;obtain⟨bq,h⟩:=h;obtain⟨q,e⟩:=Sz h;obtain⟨cs⟩:=cs;have e:cs=_:=e;exact⟨q,by rw[e];rfl⟩
theorem aok {H:Type} {enc:aK×J->H} {W:ax} {r:Reach} {cu:Nat} {base:Nat} {n1:Nat->Bool} {n3:Bool} {v:J} {d:DataW H} {p:List MemPlace} (aC:Value.okWide Tryd.prog W r cu 5 v) (h:DataW.Trod enc Tryd.prog W base n1 n3 5 v d p):∃n:Nat,v= .int .u8 ((n:Nat):Int)/\n<256:=by
 obtain⟨n,rfl,_,_,hw⟩:=open_int Tryd.underlying5 aC h;have af:IntKind.min .u8<=n/\n<=IntKind.max .u8:=by simpa [Lit.wf] using hw
 have aL:(0:Int)<=n/\n<=255:=af;exact⟨n.toNat,by rw[Int.toNat_of_nonneg aL.1],aj⟩
theorem aol (os:Os) (args:Array J):laidMetH Tryd.prog Rows.relightLimitRow.laid ((World.laidAll Tryd.prog os Rows.relightLimitRow.laid).forCall (λ_ _=>0) ⟨#[],args,[]⟩).memory:=by
 rw[MakeChecks.laidMetH_plain _ _ _ au];exact laidMet_laidAll _ au au
theorem aom (os:Os) (TW:os.Started) (H:Type) (enc:aK×J->H):
  ReturnsInHanded {} Tryd.checked os 6 .any (λw args=>(Rows.relightLimitSpec.pre enc Tryd.prog Tryd.f6 [] false w args/\laidMetH Tryd.prog Rows.relightLimitRow.laid w)/\sizedMet enc Tryd.prog Tryd.f6 (OpenSpec.ofChange Rows.relightLimitSpec) false w args)
   (Rows.relightLimitSpec.post enc Tryd.prog Tryd.f6 false true false false):=by
 refine returnsInHanded_of_change_and (C:=Tryd.checked) (X:=λw _=>laidMetH Tryd.prog Rows.relightLimitRow.laid w) (λ_ _ _ ah h=>h.of_heap ah) own TW au Tryd.func6
  (ChangeSpec.witness_shaped (enc:=enc) (C:=Tryd.checked) (os:=os) (X:=λw _=>laidMetH Tryd.prog Rows.relightLimitRow.laid w) false (World.laidAll Tryd.prog os Rows.relightLimitRow.laid) #[AE.mu (0,0,0,0,0,0) (.slice none 0 0),.slice none 0 0,.slice none 0 0,.int .u8 0,AE.P.val (0,0,0)] 8 (World.laidAll_os _ _ _)
    (World.shaped_of_ZipB au au) au au au (aol os _)) ?_
 intro W base args ds ap2 before aon pD _ _ hL _;have hval:∀(j:Nat) t v,Tryd.f6.params[j]? =some t->args[j]? =some v->Value.okWide Tryd.prog W .any base t v:=aon;have TX:=pD;obtain⟨p,q,TF,s3,rfl,_,_⟩:=pD;have lV:DataW.TrodAll enc Tryd.prog W 0 (λ_=>true) true Tryd.f6.params.toList args.toList ds p:=TF;rw[Tryd.params6] at lV hval;have acx:=lV;obtain⟨v0,ap3,iB,ap4,sW,kC,gM,rfl,rfl,aL,pA⟩:=trodAll_cons lV;obtain⟨v1,ap5,my,De,ih,q1,rfl,rfl,rfl,ad,cS⟩:=trodAll_cons pA;obtain⟨gL,Yy,jM,DJ,hB,aH,rfl,rfl,rfl,ag,dy⟩:=trodAll_cons cS;obtain⟨v3,ap6,og,aeU,ux,b0,rfl,rfl,rfl,ay,gj⟩:=trodAll_cons dy;obtain⟨v4,ap7,rT,ap8,s6,eF,rfl,rfl,rfl,bG,vf⟩:=trodAll_cons gj;obtain⟨rfl,rfl,rfl⟩:=trodAll_nil vf;obtain rfl:args= #[v0,v1,gL,v3,v4]:=by cases args;simp_all
 obtain⟨rfl,rfl⟩:=trodVars_none s3;obtain⟨cu,a0,q8,dE,ez,rfl,HO,fc⟩:=alR (hval 0 28 v0 U U) aL;obtain⟨l1,Dh⟩:=afZ (hval 1 29 v1 U U) ad;obtain⟨mf,ru⟩:=alP (hval 2 30 gL U U) ag;obtain⟨z3,rfl,aoo⟩:=aok (hval 3 5 v3 U U) ay;obtain⟨z4,rfl⟩:=aoj (hval 4 23 v4 U U) bG;simp only [List.append_nil,<-List.append_assoc] at TX acx;have cg:∀x∈sW++ih++hB++ux++s6,x.block<W.heap.size:=λx aq=>by simpa using TX.lt x aq
 refine(AE.L4.any W HO cu Dh ru z3 aoo z4 (af0 hL rfl) fc).mono λe W' ⟨he,af⟩=> ?_
 subst he;exact⟨_,rfl,_,_,_,[],sW++ih++hB++ux++s6,[],TX,trodAll_mk1 (shut_bool Tryd.underlying4 _),Wk afT af.below _ _ _ _ au acx cg,rfl,af.below.frame _,λh=>by cases h⟩
theorem aop:Rows.RelightLimitSaid:=
 OpenClaim.holds_of_wide 6 Tryd.f6 U U U U U U U ⟨rfl,rfl,rfl,rfl,rfl⟩ U U U U U au Tryd.func6 au
  (of_decide_eq_true au) (by unfold Func.isWrapper;first|(rw[aY (by decide +kernel)];kernel_rfl)|(rw[a_ (by decide +kernel)];exact⟨rfl,rfl⟩))
  (λos TW H enc _=>aom os TW H enc)
theorem relightLimit_card:Rows.RelightLimitCardSaid:=
 Claim7.holds_tied_plain_at .later [] [.widerDeep] true (true,"78eb4871fa419e5ac688e7dc1fcbc34f891c58178f14bf11d800c71083c6e710") false aop (λ_ h=>by cases h) au (λ_ h=>by cases h) relightLimit_row_tie rfl ⟨rfl,rfl⟩ au rfl
  (λf fn aR mZ=>by
    obtain rfl:f=6:=Option.some.inj ((show Tryd.prog.funcNamed "voxel/voxellaw34.RelightLimit"=some 6 by kernel_rfl).symm.trans aR) |>.symm;obtain rfl:fn=Tryd.f6:=(Option.some.inj (Tryd.func6.symm.trans mZ)).symm;exact⟨au,λj t aN=>by
     rw[Tryd.params6] at aN;have hm:=Array.mem_of_getElem? aN;have lD:(Tryd.f6.params.toList.all λu=> !Tryd.prog.wantsStandIn u)=true:=by kernel_rfl
     rw[Tryd.params6] at lD;have hw:=List.all_eq_true.1 lD t (by simpa using hm)
     exact(show Tryd.prog.wantsStandIn t=false by simpa using hw)⟩)
  au
#print axioms relightLimit_card
end
end Go.Proofs.YtepcfjbfkedlpaaDoor
