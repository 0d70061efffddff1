/- Parts of the proof. -/
import Derived.Test.YtepcfjbfkedlpaaDoorWk3
set_option maxRecDepth 100000
set_option maxHeartbeats 4000000
noncomputable section
namespace Go.Proofs.YtepcfjbfkedlpaaDoor
open Go Go.Proofs Go.RowKit
namespace a1
namespace PH
noncomputable def body:Code:=(Tryd.f63.body).getD .skip
def N:Nat:=41
def aZ:c6:={sl:=bm [(2,.agg ⟨[2,3,4,5]⟩),(1,1),(0,0)],ms:=[],A:=start}
def bz:aU:=[(.dt 0,0),
 (.bQ 80 0 8,30)]
abbrev eT:=at' 41 bz [] body aZ
def cY:List bG:=[⟨.cells [2,3,4,5],85,0⟩]
def c8:ax:=bm [(9,30),(5,bj 0 0),(1,1),(0,0)]
def c0:ax:=(cK.set 31 depth c8 13).getD .nil
theorem b4:tC eT 1 13=some ([1,2,3,4,5],1,1):=ag
theorem bs:bF (b0 eT) c8 cY=some [(0,0),(1,1),(30,30),(2,2),(3,3),(4,4),(5,5)]:=ag
theorem cw:cK.set 31 depth c8 13=some c0:=ag
theorem dD:eW ((lE (aN c0 cY) eT))=some (86,[30,31]):=ag
abbrev h':=(lE {sl:=c0,ms:=[],A:=cS cY} eT)
def fm:List bG:=[⟨.cells [2,3,4,5],85,0⟩]
def fT:ax:=bm [(5,bj 0 0),(1,1),(0,0)]
def eO:ax:=dS 41 fT 14 (.tuple ⟨[]⟩)
theorem gy:bF (hQ Tryd.prog h') fT fm=some [(0,0),(1,1),(2,2),(3,3),(4,4),(5,5)]:=ag
def ga:ct:=(body,[1,0],8)
def cp:aU:=[(.dt 0,0),
 (.bQ 80 0 9,33),
 (.bh 26 33,7)]
theorem lV:B4 (b0 (bD 41 cp [] ga (aN eO fm))).A 1 (.slice (some ⟨1,0,none⟩) 1 1)=some [1]:=ag
theorem jS:q9 26 (bD 41 cp [] ga (aN eO fm))=some (7,.slice (some ⟨1,0,none⟩) 1 1):=ag
abbrev lr:=bD 41 cp [] ga {sl:=eO,ms:=[],A:=cS fm}
def hF:List bG:=[⟨.cells [2,3,4,5],85,0⟩]
def iG:ax:=bm [(15,0),(5,bj 0 0),(1,1),(0,0)]
def fS:ax:=dS 41 iG 22 34
theorem pb:bF (b0 lr) iG hF=some [(0,0),(1,1),(0,0),(2,2),(3,3),(4,4),(5,5)]:=ag
def ht:ct:=(body,[1,1,0],8)
def dh:aU:=[(.dt 0,0),
 (.bQ 80 0 9,33)]
theorem lW:hc (bD 41 dh [] ht (aN fS hF))=some (26,33,34):=ag
abbrev pc:=bD 41 dh [] ht {sl:=fS,ms:=[],A:=cS hF}
def kC:List bG:=[⟨.cells [2,3,4,5],85,0⟩]
def lH:ax:=bm [(5,bj 0 0),(1,1),(0,0)]
def jt:ax:=match e8 41 lH none (.tuple ⟨[]⟩) with|some s=>s|none=> .nil
theorem om:bF (b0 pc) lH kC=some [(0,0),(1,1),(2,2),(3,3),(4,4),(5,5)]:=ag
def k0:ct:=(body,[1,1,0],11)
def bt:List bG:=[⟨.cells [2,3,4,5],85,0⟩]
def cl:ax:=bm [(25,35),(5,bj 0 0),(1,1),(0,0)]
abbrev fG:=bD 41 [] [] k0 {sl:=jt,ms:=[],A:=cS kC}
theorem sF:mi cl bt fG=some [(0,0),(1,1),(I 0,35),(2,2),(3,3),(4,4),(5,5)]:=ag
def bY:Code:=nJ body [1,1,1,1,4]
def fJ:List hj:=lp body [1,1,1,1,4] []
theorem ql:lP fG=bY:=ag
theorem pd:gi fG=fJ:=ag
def K1:ax:=bm [(25,I 0),(5,bj 0 0),(1,1),(0,0)]
theorem qm:bF (aN cl bt) K1 bt=some [(0,0),(1,1),(35,I 0),(2,2),(3,3),(4,4),(5,5)]:=ag
def eS:aU:=[(.bin .gtr 3 2 (I 0),.bool true),
 (.dt 0,0),
 (.bQ 80 0 5,36),
 (.bh 45 36,8),
 (.cV 45 8 1,37),
 (.cV 85 37 (I 0),38)]
theorem sG:hc (at' 41 eS [] bY (aN K1 bt))=some (3,38,(I 0)):=ag
abbrev oo:=at' 41 eS [] bY (aN K1 bt)
def lh:List bG:=[⟨.cells [2,3,4,5],85,0⟩]
def ml:ax:=bm [(25,I 0),(5,bj 0 0),(1,1),(0,0)]
def kf:ax:=match e8 41 ml none (.tuple ⟨[]⟩) with|some s=>s|none=> .nil
theorem uM:bF (b0 oo) ml lh=some [(0,0),(1,1),(2,2),(3,3),(4,4),(5,5)]:=ag
def nS:ct:=(bY,[1,1,0,4,1,1,2],9)
theorem G5:eV cl bt (bD 41 [] [] nS (aN kf lh))=some [(0,0),(1,1),(I 1,35),(2,2),(3,3),(4,4),(5,5)]:=ag
def fq:aU:=[(.bin .gtr 3 2 (I 0),.bool false)]
theorem G6:eV cl bt (at' 41 fq [] bY (aN K1 bt))=some [(0,0),(1,1),(I 1,35),(2,2),(3,3),(4,4),(5,5)]:=ag
def K2:ax:=bm [(25,I 1),(5,bj 0 0),(1,1),(0,0)]
theorem xe:bF (aN cl bt) K2 bt=some [(0,0),(1,1),(35,I 1),(2,2),(3,3),(4,4),(5,5)]:=ag
def hs:aU:=[(.bin .gtr 3 3 (I 0),.bool true),
 (.dt 0,0),
 (.bQ 80 0 5,36),
 (.bh 45 36,8),
 (.cV 45 8 1,37),
 (.cV 85 37 (I 1),39)]
theorem Cx:hc (at' 41 hs [] bY (aN K2 bt))=some (3,39,(I 0)):=ag
abbrev uN:=at' 41 hs [] bY (aN K2 bt)
def mX:List bG:=[⟨.cells [2,3,4,5],85,0⟩]
def pP:ax:=bm [(25,I 1),(5,bj 0 0),(1,1),(0,0)]
def mY:ax:=match e8 41 pP none (.tuple ⟨[]⟩) with|some s=>s|none=> .nil
theorem G7:bF (b0 uN) pP mX=some [(0,0),(1,1),(2,2),(3,3),(4,4),(5,5)]:=ag
def mF:ct:=(bY,[1,1,0,4,1,1,2],9)
theorem PI:eV cl bt (bD 41 [] [] mF (aN mY mX))=some [(0,0),(1,1),(I 2,35),(2,2),(3,3),(4,4),(5,5)]:=ag
def hN:aU:=[(.bin .gtr 3 3 (I 0),.bool false)]
theorem PJ:eV cl bt (at' 41 hN [] bY (aN K2 bt))=some [(0,0),(1,1),(I 2,35),(2,2),(3,3),(4,4),(5,5)]:=ag
def K3:ax:=bm [(25,I 2),(5,bj 0 0),(1,1),(0,0)]
theorem PK:bF (aN cl bt) K3 bt=some [(0,0),(1,1),(35,I 2),(2,2),(3,3),(4,4),(5,5)]:=ag
def hS:aU:=[(.bin .gtr 3 4 (I 0),.bool true),
 (.dt 0,0),
 (.bQ 80 0 5,36),
 (.bh 45 36,8),
 (.cV 45 8 1,37),
 (.cV 85 37 (I 2),40)]
theorem G8:hc (at' 41 hS [] bY (aN K3 bt))=some (3,40,(I 0)):=ag
abbrev uO:=at' 41 hS [] bY (aN K3 bt)
def nT:List bG:=[⟨.cells [2,3,4,5],85,0⟩]
def pQ:ax:=bm [(25,I 2),(5,bj 0 0),(1,1),(0,0)]
def nU:ax:=match e8 41 pQ none (.tuple ⟨[]⟩) with|some s=>s|none=> .nil
theorem zi:bF (b0 uO) pQ nT=some [(0,0),(1,1),(2,2),(3,3),(4,4),(5,5)]:=ag
def nV:ct:=(bY,[1,1,0,4,1,1,2],9)
theorem G9:eV cl bt (bD 41 [] [] nV (aN nU nT))=some [(0,0),(1,1),(I 3,35),(2,2),(3,3),(4,4),(5,5)]:=ag
def jT:aU:=[(.bin .gtr 3 4 (I 0),.bool false)]
theorem af5:eV cl bt (at' 41 jT [] bY (aN K3 bt))=some [(0,0),(1,1),(I 3,35),(2,2),(3,3),(4,4),(5,5)]:=ag
def K4:ax:=bm [(25,I 3),(5,bj 0 0),(1,1),(0,0)]
theorem PL:bF (aN cl bt) K4 bt=some [(0,0),(1,1),(35,I 3),(2,2),(3,3),(4,4),(5,5)]:=ag
def jx:aU:=[(.bin .gtr 3 5 (I 0),.bool true),
 (.dt 0,0),
 (.bQ 80 0 5,36),
 (.bh 45 36,8),
 (.cV 45 8 1,37),
 (.cV 85 37 (I 3),41)]
theorem zj:hc (at' 41 jx [] bY (aN K4 bt))=some (3,41,(I 0)):=ag
abbrev uP:=at' 41 jx [] bY (aN K4 bt)
def mG:List bG:=[⟨.cells [2,3,4,5],85,0⟩]
def pR:ax:=bm [(25,I 3),(5,bj 0 0),(1,1),(0,0)]
def mH:ax:=match e8 41 pR none (.tuple ⟨[]⟩) with|some s=>s|none=> .nil
theorem Cy:bF (b0 uP) pR mG=some [(0,0),(1,1),(2,2),(3,3),(4,4),(5,5)]:=ag
def mm:ct:=(bY,[1,1,0,4,1,1,2],9)
theorem zk:eV cl bt (bD 41 [] [] mm (aN mH mG))=some [(0,0),(1,1),(I 4,35),(2,2),(3,3),(4,4),(5,5)]:=ag
def kD:aU:=[(.bin .gtr 3 5 (I 0),.bool false)]
theorem zl:eV cl bt (at' 41 kD [] bY (aN K4 bt))=some [(0,0),(1,1),(I 4,35),(2,2),(3,3),(4,4),(5,5)]:=ag
def G':ax:=bm [(25,I 4),(5,bj 0 0),(1,1),(0,0)]
theorem zm:bF (aN cl bt) G' bt=some [(0,0),(1,1),(35,I 4),(2,2),(3,3),(4,4),(5,5)]:=ag
theorem zn:fu Tryd.prog Tryd.f63 (jf 41 [] [] fJ (at' 41 [] [] bY (aN G' bt)))=some (.tuple ⟨[]⟩):=ag
@[reducible] noncomputable def a6 (aQ:List e2) (cZ:bH) (cT:Nat) (gone:List Nat) (dX:bH) (dY:Nat) (bT:bH) (bU bV aJ:Nat) (xa:Nat->ad) (av:Nat->ad) (xc:Nat->ad) (k:Nat) (old:cc) (i:Nat:=0) (cJ:Nat:=0) (kE:List e2:=[]) (gA:bH:=none) (gB:Nat:=0) (fC:List Nat:=[]) (eY:bH:=none) (ew:Nat:=0):List ad:=[bj aJ 0,I ((k:Nat):Int),I old.1,I old.2.1,I old.2.2.1,I old.2.2.2,aO cZ aQ cT,aO dX gone dY,.slice bT bU bV,xa 0,xa 1,xa 2,xa 3,xa 4,xa 5,xa 6,xa 7,xa 8,xa 9,xa 10,xa 11,xa 12,xa 13,xa 14,xa 15,xa 16,av 0,av 1,xc 0,xc 1,bj aJ 20,.slice (some ⟨cJ,0,none⟩) 1 1,aO gA kE gB,bj aJ 21,aO eY fC ew,I ((i:Nat):Int),bj aJ 17,fM (.slice bT bU bV) (k*4),fM (.slice bT bU bV) (k*4+0),fM (.slice bT bU bV) (k*4+1),fM (.slice bT bU bV) (k*4+2),fM (.slice bT bU bV) (k*4+3)]
theorem any (W:aG) {aQ:List e2} {cZ:bH} {cT:Nat} {gone:List Nat} {dX:bH} {dY:Nat} {au:List cc} {bT:bH} {bU bV aJ:Nat} {xa:Nat->ad} {av:Nat->ad} {xc:Nat->ad} (gm:dO (a7 W) [pL cZ aQ cT,uI dX gone dY,mj bT bU bV au,cb aJ 80 [xa 0,xa 1,xa 2,xa 3,xa 4,xa 5,xa 6,xa 7,xa 8,xa 9,xa 10,xa 11,xa 12,xa 13,xa 14,xa 15,xa 16,.slice bT bU bV,av 0,av 1,aO cZ aQ cT,aO dX gone dY,xc 0,xc 1]]) (k:Nat) (old:cc) (ao:k<au.length) (hlen:aQ.length<=400000) (FY:gone.length<=400000):Calls Tryd.prog 63 #[bj aJ 0,I ((k:Nat):Int),L.val old] W λe w'=>(∃y:fa×fa,e= .returned (.tuple #[])/\dw (a7 W) [pL cZ aQ cT,uI dX gone dY,mj bT bU bV au,cb aJ 80 [xa 0,xa 1,xa 2,xa 3,xa 4,xa 5,xa 6,xa 7,xa 8,xa 9,xa 10,xa 11,xa 12,xa 13,xa 14,xa 15,xa 16,.slice bT bU bV,av 0,av 1,aO cZ aQ cT,aO dX gone dY,xc 0,xc 1]] (a7 w') [kd rl 5 pK (.slice y.1.1 (aQ++[(k,old)]).length y.1.2) (aQ++[(k,old)]),fY nO 1 mD (.slice y.2.1 (gone++[k]).length y.2.2) (gone++[k]),fY oK 4 kh (.slice bT bU bV) (au.set k (tG old (au.aD k))),cb aJ lF (List.set (List.set [xa 0,xa 1,xa 2,xa 3,xa 4,xa 5,xa 6,xa 7,xa 8,xa 9,xa 10,xa 11,xa 12,xa 13,xa 14,xa 15,xa 16,.slice bT bU bV,av 0,av 1,aO cZ aQ cT,aO dX gone dY,xc 0,xc 1] 20 (.slice y.1.1 (aQ++[(k,old)]).length y.1.2)) 21 (.slice y.2.1 (gone++[k]).length y.2.2))])/\cO 0 W w':=by
 refine lg (a6 aQ cZ cT gone dX dY bT bU bV aJ xa av xc k old) body aZ N [al 0,al 1,.agg ⟨[al 2,al 3,al 4,al 5]⟩] Tryd.func63 λa ae=> ?_
 letI:=bE ae;have a_:=cC.start W _ gm;refine br bz [] (U dB (U (b1 76 20 1) aB)) aC ?_ ae;refine vC (enc:=pK) (xs:=[(k,old.1,old.2.1,old.2.2.1,old.2.2.2)]) (q:=31) (bC:=λfh=>(a6 aQ cZ cT gone dX dY bT bU bV aJ xa av xc k old 0 fh)) b4 rm rfl aL aL J J (h3 rfl) bs (λ_ _=>b7) cw (λ_=>rfl) ?_;intro fN cJ G_ af6 PM gb hh;have bP:=a_.new (tD G_ PM gb hh);letI:=bE ae;obtain⟨kE,Eu⟩:=ey (aQ++[(k,old.1,old.2.1,old.2.2.1,old.2.2.2)]);refine e5 (Y:=fa) (bC:=λaF=>(a6 aQ cZ cT gone dX dY bT bU bV aJ xa av xc k old 0 cJ kE aF.1 aF.2)) bP [0,4,3] (λaF=>[oN _ _ _ aF.1 kE aF.2,_,cb _ _ [_,_,_,_,_,_,_,_,_,_,_,_,_,_,_,_,_,_,_,_,aO aF.1 kE aF.2,_,_,_]]) (λ_=>[]) dD gy (cF eO (.tuple ⟨[]⟩)) (ez:=λw hw cM ay=>by rw[Eu];exact Xb.any (x:=[(k,old.1,old.2.1,old.2.2.1,old.2.2.2)]) (xa:=h0 [xa 0,xa 1,xa 2,xa 3,xa 4,xa 5,xa 6,xa 7,xa 8,xa 9,xa 10,xa 11,xa 12,xa 13,xa 14,xa 15,xa 16,.slice bT bU bV,av 0,av 1,aO cZ aQ cT,aO dX gone dY,xc 0,xc 1] 0) (av:=h0 [xa 0,xa 1,xa 2,xa 3,xa 4,xa 5,xa 6,xa 7,xa 8,xa 9,xa 10,xa 11,xa 12,xa 13,xa 14,xa 15,xa 16,.slice bT bU bV,av 0,av 1,aO cZ aQ cT,aO dX gone dY,xc 0,xc 1] 21) _ ay (by simp only [List.length_cons,List.length_nil];omega)) (rest:= ?_);intro hr ⟨gA,gB⟩ dK ch w ae;replace dK:=dK.qj;letI:=bE ae;refine cm (cn ga) cp [] (U dB (U (b1 26 21 1) (U (cu 21 3 dK) aB))) aC ?_ ae;obtain⟨fC,jb⟩:=ey (gone++[k]);have lk:fC.length=gone.length+1:=by rw[jb];first|rfl|simp
 refine ac8 (l:=gone) (lx:=[k]) (l':=fC) (bC:=λoi oj=>(a6 aQ cZ cT gone dX dY bT bU bV aJ xa av xc k old 0 cJ kE gA gB fC oi oj)) (T:=(fX (aO dX gone dY))) jb jS vF V0 V1 V2 V3 V4 aL kZ V5 pb (cF fS 34) rfl (JX J J (dK.arr 1 rfl)) (Ga lV kZ aL rfl) (wQ (show gone.length+1<=1000000 by omega)) (show (gone.length+1)*GC<=140737488355328 by unfold GC;omega) (λ_ _ _=>b7) (λ_ _ _=>rfl) ?_;intro fU eY ew sx uQ alj af7 ch w ae;have dE:=dK.gM 1 rfl (OC sx uQ af7);replace dE:=dE.qj;letI:=bE ae;refine cm (cn ht) dh [] (U dB (U (b1 26 21 1) aB)) aC ?_ ae;refine oP 21 [xa 0,xa 1,xa 2,xa 3,xa 4,xa 5,xa 6,xa 7,xa 8,xa 9,xa 10,xa 11,xa 12,xa 13,xa 14,xa 15,xa 16,.slice bT bU bV,av 0,av 1,aO gA kE gB,aO eY fC ew,xc 0,xc 1] (a6 aQ cZ cT gone dX dY bT bU bV aJ xa av xc k old 0 cJ kE gA gB fC eY ew) lW om (cF jt (.tuple ⟨[]⟩)) (dE.box 3 rfl) ?_;intro vL zo uR ch w ae;have gV:=dE.gM 3 rfl (lR zo uR);replace gV:=gV.qj;letI:=bE ae;refine cm (cn k0) [] [] aB aC ?_ ae;refine nP (fW:=(λ(⟨M,b,i⟩:Mem×List cc×Nat)=>bc M (a6 aQ cZ cT gone dX dY bT bU bV aJ xa av xc k old i cJ kE gA gB fC eY ew))) (λ(⟨M,b,i⟩:Mem×List cc×Nat)=>cC 0 (a7 W) a_.mL M [pL gA kE gB,uI eY fC ew,mj bT bU bV b,cb aJ 80 [xa 0,xa 1,xa 2,xa 3,xa 4,xa 5,xa 6,xa 7,xa 8,xa 9,xa 10,xa 11,xa 12,xa 13,xa 14,xa 15,xa 16,.slice bT bU bV,av 0,av 1,aO gA kE gB,aO eY fC ew,xc 0,xc 1]]/\(i<=4/\b=au.set k (jw i old (au.aD k))/\b.length=au.length)) (λ(⟨M,b,i⟩:Mem×List cc×Nat)=>4-i) ⟨vL,au,0⟩ sF b7 (λ_ _ h=>h) (by exact⟨(gV.pick [0,1,2,3] rfl),by exact⟨aj,by rw[aeZ,V_ ao],rfl⟩⟩) ?_;intro⟨M,b,i⟩ aK ch w ae;letI:=bE ae;refine nK ql pd ?_;have bX:=aK.1;have PN:=aK.2.1;have ai:=aK.2.2.1;have t_:=aK.2.2.2;rcases(show i=0\/i=1\/i=2\/i=3\/i=4 by omega) with fb|fb|fb|fb|fb
 ·replace ae:=Here.nQ (bc M (a6 aQ cZ cT gone dX dY bT bU bV aJ xa av xc k old i cJ kE gA gB fC eY ew)) qm b7 ae
  by_cases rQ:0<old.1
  ·refine br eS [] (U bf (U dB (U (b1 45 17 1) (U (cu 17 3 bX) (U (f' ((bX.arr 2 rfl).arr eH) kg kS) (U (aW.nI (j:=0) (n:=4) (e:=3) J J J ag jO (nm ((bX.arr 2 rfl).arr eH) (show k<b.length by omega)) aL J J J J) aB)))))) aC ?_ ae
   obtain⟨iH,gC⟩:=ey (b.set k (0,(b.aD k).2.1,(b.aD k).2.2.1,(b.aD k).2.2.2));have oQ:iH.length=b.length:=by rw[gC];exact List.length_set
   refine oO 0 (a6 aQ cZ cT gone dX dY bT bU bV aJ xa av xc k old i cJ kE gA gB fC eY ew) gC sG eH uM (cF kf (.tuple ⟨[]⟩)) (bX.arr 2 rfl) (show k<b.length by omega) ?_;intro jy k1 jh ch w ae;have ek:=bX.gM 2 rfl (nL k1 jh);replace ek:=ek.vJ;letI:=bE ae;refine cm (cn nS) [] [] aB aC ?_ ae;exact e3 ⟨jy,iH,1⟩ G5 b7 (by exact⟨ek,by first|exact⟨aj,by rw[fb] at ai;rw[ai];first|rw[Ax aY]|rw[Ay aY]|rw[Az aY]|rw[AA aY],aY⟩|exact⟨aj,by subst_vars;first|exact AB ao aY|exact AD ao aY|exact AE ao aY|exact AF ao aY,aj⟩⟩)
  ·refine br fq [] (U a' aB) aC ?_ ae
   exact e3 ⟨M,b,1⟩ G6 b7 (by exact⟨(bX.pick [0,1,2,3] rfl),by first|exact⟨aj,by rw[fb] at ai;rw[ai];first|rw[Ax aY]|rw[Ay aY]|rw[Az aY]|rw[AA aY],aY⟩|exact⟨aj,by subst_vars;first|exact AB ao aY|exact AD ao aY|exact AE ao aY|exact AF ao aY,aj⟩⟩)
 ·replace ae:=Here.nQ (bc M (a6 aQ cZ cT gone dX dY bT bU bV aJ xa av xc k old i cJ kE gA gB fC eY ew)) xe b7 ae
  by_cases rQ:0<old.2.1
  ·refine br hs [] (U bf (U dB (U (b1 45 17 1) (U (cu 17 3 bX) (U (f' ((bX.arr 2 rfl).arr eH) kg kS) (U (aW.nI (j:=1) (n:=4) (e:=3) J J J ag jO (nm ((bX.arr 2 rfl).arr eH) (show k<b.length by omega)) aL J J J J) aB)))))) aC ?_ ae
   obtain⟨iH,gC⟩:=ey (b.set k ((b.aD k).1,0,(b.aD k).2.2.1,(b.aD k).2.2.2));have oQ:iH.length=b.length:=by rw[gC];exact List.length_set
   refine oO 1 (a6 aQ cZ cT gone dX dY bT bU bV aJ xa av xc k old i cJ kE gA gB fC eY ew) gC Cx eH G7 (cF mY (.tuple ⟨[]⟩)) (bX.arr 2 rfl) (show k<b.length by omega) ?_;intro jy k1 jh ch w ae;have ek:=bX.gM 2 rfl (nL k1 jh);replace ek:=ek.vJ;letI:=bE ae;refine cm (cn mF) [] [] aB aC ?_ ae;exact e3 ⟨jy,iH,2⟩ PI b7 (by exact⟨ek,by first|exact⟨aj,by rw[fb] at ai;rw[ai];first|rw[Ax aY]|rw[Ay aY]|rw[Az aY]|rw[AA aY],aY⟩|exact⟨aj,by subst_vars;first|exact AB ao aY|exact AD ao aY|exact AE ao aY|exact AF ao aY,aj⟩⟩)
  ·refine br hN [] (U a' aB) aC ?_ ae
   exact e3 ⟨M,b,2⟩ PJ b7 (by exact⟨(bX.pick [0,1,2,3] rfl),by first|exact⟨aj,by rw[fb] at ai;rw[ai];first|rw[Ax aY]|rw[Ay aY]|rw[Az aY]|rw[AA aY],aY⟩|exact⟨aj,by subst_vars;first|exact AB ao aY|exact AD ao aY|exact AE ao aY|exact AF ao aY,aj⟩⟩)
 ·replace ae:=Here.nQ (bc M (a6 aQ cZ cT gone dX dY bT bU bV aJ xa av xc k old i cJ kE gA gB fC eY ew)) PK b7 ae
  by_cases rQ:0<old.2.2.1
  ·refine br hS [] (U bf (U dB (U (b1 45 17 1) (U (cu 17 3 bX) (U (f' ((bX.arr 2 rfl).arr eH) kg kS) (U (aW.nI (j:=2) (n:=4) (e:=3) J J J ag jO (nm ((bX.arr 2 rfl).arr eH) (show k<b.length by omega)) aL J J J J) aB)))))) aC ?_ ae
   obtain⟨iH,gC⟩:=ey (b.set k ((b.aD k).1,(b.aD k).2.1,0,(b.aD k).2.2.2));have oQ:iH.length=b.length:=by rw[gC];exact List.length_set
   refine oO 2 (a6 aQ cZ cT gone dX dY bT bU bV aJ xa av xc k old i cJ kE gA gB fC eY ew) gC G8 eH zi (cF nU (.tuple ⟨[]⟩)) (bX.arr 2 rfl) (show k<b.length by omega) ?_;intro jy k1 jh ch w ae;have ek:=bX.gM 2 rfl (nL k1 jh);replace ek:=ek.vJ;letI:=bE ae;refine cm (cn nV) [] [] aB aC ?_ ae;exact e3 ⟨jy,iH,3⟩ G9 b7 (by exact⟨ek,by first|exact⟨aj,by rw[fb] at ai;rw[ai];first|rw[Ax aY]|rw[Ay aY]|rw[Az aY]|rw[AA aY],aY⟩|exact⟨aj,by subst_vars;first|exact AB ao aY|exact AD ao aY|exact AE ao aY|exact AF ao aY,aj⟩⟩)
  ·refine br jT [] (U a' aB) aC ?_ ae
   exact e3 ⟨M,b,3⟩ af5 b7 (by exact⟨(bX.pick [0,1,2,3] rfl),by first|exact⟨aj,by rw[fb] at ai;rw[ai];first|rw[Ax aY]|rw[Ay aY]|rw[Az aY]|rw[AA aY],aY⟩|exact⟨aj,by subst_vars;first|exact AB ao aY|exact AD ao aY|exact AE ao aY|exact AF ao aY,aj⟩⟩)
 ·replace ae:=Here.nQ (bc M (a6 aQ cZ cT gone dX dY bT bU bV aJ xa av xc k old i cJ kE gA gB fC eY ew)) PL b7 ae
  by_cases rQ:0<old.2.2.2
  ·refine br jx [] (U bf (U dB (U (b1 45 17 1) (U (cu 17 3 bX) (U (f' ((bX.arr 2 rfl).arr eH) kg kS) (U (aW.nI (j:=3) (n:=4) (e:=3) J J J ag jO (nm ((bX.arr 2 rfl).arr eH) (show k<b.length by omega)) aL J J J J) aB)))))) aC ?_ ae
   obtain⟨iH,gC⟩:=ey (b.set k ((b.aD k).1,(b.aD k).2.1,(b.aD k).2.2.1,0));have oQ:iH.length=b.length:=by rw[gC];exact List.length_set
   refine oO 3 (a6 aQ cZ cT gone dX dY bT bU bV aJ xa av xc k old i cJ kE gA gB fC eY ew) gC zj eH Cy (cF mH (.tuple ⟨[]⟩)) (bX.arr 2 rfl) (show k<b.length by omega) ?_;intro jy k1 jh ch w ae;have ek:=bX.gM 2 rfl (nL k1 jh);replace ek:=ek.vJ;letI:=bE ae;refine cm (cn mm) [] [] aB aC ?_ ae;exact e3 ⟨jy,iH,4⟩ zk b7 (by exact⟨ek,by first|exact⟨aj,by rw[fb] at ai;rw[ai];first|rw[Ax aY]|rw[Ay aY]|rw[Az aY]|rw[AA aY],aY⟩|exact⟨aj,by subst_vars;first|exact AB ao aY|exact AD ao aY|exact AE ao aY|exact AF ao aY,aj⟩⟩)
  ·refine br kD [] (U a' aB) aC ?_ ae
   exact e3 ⟨M,b,4⟩ zl b7 (by exact⟨(bX.pick [0,1,2,3] rfl),by first|exact⟨aj,by rw[fb] at ai;rw[ai];first|rw[Ax aY]|rw[Ay aY]|rw[Az aY]|rw[AA aY],aY⟩|exact⟨aj,by subst_vars;first|exact AB ao aY|exact AD ao aY|exact AE ao aY|exact AF ao aY,aj⟩⟩)
 ·replace ae:=Here.nQ (bc M (a6 aQ cZ cT gone dX dY bT bU bV aJ xa av xc k old i cJ kE gA gB fC eY ew)) zm b7 ae
  refine br [] [] aB aC ?_ ae;refine j3 [] [] aB aC ?_;exact b2 zn λw2 bk=>(by subst_vars;rw[<-ae0];exact⟨((_,_),(_,_)),rfl,((bX.pick [0,1,2,3] rfl).done bk)⟩)
end PH
end a1
namespace a1
abbrev Xc:bq:=87
section
variable [bp]
theorem Xd {x y r:ad} {g k:Nat} {B:Nat} {lit:List Int} {table:List dx} {Xe Xf:Option Addr} {Xg Xh fA Xi:Nat} {xa av xc:Nat->ad} (hp:fH [x,y]=true) (ar:bL r=true) (b5:fl [x,y]=[.pointer (some ⟨g,0,none⟩),.int .i64 ((k:Nat):Int)]) (dc:bb r= .int .i64 (bA table (lit.getD k default)).2.2.2.2.1)
  (fV:je B bp.dz (.pointer (some ⟨g,0,none⟩)) lF [xa 0,xa 1,xa 2,xa 3,xa 4,xa 5,xa 6,xa 7,xa 8,xa 9,xa 10,xa 11,xa 12,.slice Xe Xg fA,av 0,av 1,.slice Xf Xh Xi,xc 0,xc 1,xc 2,xc 3,xc 4,xc 5,xc 6]) (af:dr bp.dz 1 gq (.slice Xe Xg fA) lit) (ah:dr bp.dz 8 js (.slice Xf Xh Xi) table) (ao:k<lit.length):j0 Tryd.prog (61,[x,y],r):=
 kP (a:= #[.pointer (some ⟨g,0,none⟩),.int .i64 ((k:Nat):Int)]) hp ar b5 dc λw hw=>W8.any w (ah.mono hw) (af.mono hw) (je.mk' (Nat.zero_le _) (hw _ _ fV.known.1)) k ao
end
end a1
namespace a1
namespace Ha
noncomputable def body:Code:=(Tryd.f35.body).getD .skip
def N:Nat:=24
def aZ:c6:={sl:=bm [(1,1),(0,0)],ms:=[],A:=start}
def bz:aU:=[(.dt 0,0),
 (.bQ 80 0 11,26),
 (.bh 30 26,3),
 (.cV 30 3 1,27),
 (.bh 4 27,28),
 (.un .not 28,.bool false)]
theorem b4:fu Tryd.prog Tryd.f35 (at' 24 bz [] body aZ)=some (.tuple ⟨[]⟩):=ag
def cp:aU:=[(.dt 0,0),
 (.bQ 80 0 11,26),
 (.bh 30 26,3),
 (.cV 30 3 1,27),
 (.bh 4 27,28),
 (.un .not 28,.bool true)]
theorem bs:hc (at' 24 cp [] body aZ)=some (4,27,(.bool true)):=ag
abbrev eT:=at' 24 cp [] body aZ
def cY:List bG:=[]
def c8:ax:=bm [(1,1),(0,0)]
def c0:ax:=match e8 24 c8 none (.tuple ⟨[]⟩) with|some s=>s|none=> .nil
theorem cw:bF (b0 eT) c8 cY=some [(0,0),(1,1)]:=ag
def c5:ct:=(body,[1,2,0],7)
def dh:aU:=[(.dt 0,0),
 (.bQ 80 0 10,29)]
abbrev h':=bD 24 dh [] c5 {sl:=c0,ms:=[],A:=cS cY}
def fm:List bG:=[]
def fT:ax:=bm [(20,29)]
def eO:ax:=(cK.set 30 depth fT 22).getD .nil
theorem iC:tC h' 0 22=some ([1],1,1):=ag
theorem lA:bF (b0 h') fT fm=some [(29,29)]:=ag
theorem np:cK.set 30 depth fT 22=some eO:=ag
theorem k2:eW ((lE (aN eO fm) h'))=some (57,[29,30]):=ag
abbrev lr:=(lE {sl:=eO,ms:=[],A:=cS fm} h')
def hF:List bG:=[]
def iG:ax:=bm []
def fS:ax:=dS 24 iG 23 (.tuple ⟨[]⟩)
theorem pb:bF (hQ Tryd.prog lr) iG hF=some []:=ag
def ht:ct:=(body,[1,2,1],6)
theorem lW:fu Tryd.prog Tryd.f35 (bD 24 [] [] ht (aN fS hF))=some (.tuple ⟨[]⟩):=ag
@[reducible] noncomputable def a6 (aE:List Nat) (dy:bH) (dv:Nat) (waits:List Bool) (ec:bH) (ef eg aJ:Nat) (xa:Nat->ad) (k:Nat) (g1:Nat:=0) (Hb:List Nat:=[]) (jU:bH:=none) (jV:Nat:=0):List ad:=[bj aJ 0,I ((k:Nat):Int),aO dy aE dv,.slice ec ef eg,xa 0,xa 1,xa 2,xa 3,xa 4,xa 5,xa 6,xa 7,xa 8,xa 9,xa 10,xa 11,xa 12,xa 13,xa 14,xa 15,xa 16,xa 17,xa 18,xa 19,xa 20,xa 21,bj aJ 23,fM (.slice ec ef eg) (k*1),.bool (waits.aD (k)),bj aJ 22,.slice (some ⟨g1,0,none⟩) 1 1,aO jU Hb jV]
theorem any (W:aG) {aE:List Nat} {dy:bH} {dv:Nat} {waits:List Bool} {ec:bH} {ef eg aJ:Nat} {xa:Nat->ad} (gm:dO (a7 W) [pa dy aE dv,h1 ec ef eg waits,cb aJ 80 [xa 0,xa 1,xa 2,xa 3,xa 4,xa 5,xa 6,xa 7,xa 8,xa 9,xa 10,xa 11,xa 12,xa 13,xa 14,xa 15,xa 16,xa 17,xa 18,xa 19,xa 20,xa 21,aO dy aE dv,.slice ec ef eg]]) (k:Nat) (ao:k<waits.length) (hlen:aE.length<=400000):Calls Tryd.prog 35 #[bj aJ 0,I ((k:Nat):Int)] W λe w'=>(∃y:bH×Nat,e= .returned (.tuple #[])/\dw (a7 W) [pa dy aE dv,h1 ec ef eg waits,cb aJ 80 [xa 0,xa 1,xa 2,xa 3,xa 4,xa 5,xa 6,xa 7,xa 8,xa 9,xa 10,xa 11,xa 12,xa 13,xa 14,xa 15,xa 16,xa 17,xa 18,xa 19,xa 20,xa 21,aO dy aE dv,.slice ec ef eg]] (a7 w') [kd nO 1 mD (.slice y.1 (mE aE waits k).length y.2) (mE aE waits k),fY mT 1 iw (.slice ec ef eg) (og waits k),cb aJ lF (List.set [xa 0,xa 1,xa 2,xa 3,xa 4,xa 5,xa 6,xa 7,xa 8,xa 9,xa 10,xa 11,xa 12,xa 13,xa 14,xa 15,xa 16,xa 17,xa 18,xa 19,xa 20,xa 21,aO dy aE dv,.slice ec ef eg] 22 (.slice y.1 (mE aE waits k).length y.2))])/\cO 0 W w':=by
 refine lg (a6 aE dy dv waits ec ef eg aJ xa k) body aZ N [al 0,al 1] Tryd.func35 λa ae=> ?_
 letI:=bE ae;have a_:=cC.start W _ gm;by_cases bd:(waits.aD (k))=true
 ·refine br bz [] (U dB (U (b1 30 23 1) (U (cu 23 2 a_) (U (f' ((a_.arr 1 rfl).arr h9) kA rk) (U (im 0 ((a_.arr 1 rfl).arr h9) (f_ k) vy) (U (U7 J J bd) aB)))))) aC ?_ ae
  exact b2 b4 λw2 bk=>(by (rw[aeV aY,aeX aY];exact⟨(_,_),rfl,((a_.pick [0,1,2] rfl).done bk)⟩))
 ·refine br cp [] (U dB (U (b1 30 23 1) (U (cu 23 2 a_) (U (f' ((a_.arr 1 rfl).arr h9) kA rk) (U (im 0 ((a_.arr 1 rfl).arr h9) (f_ k) vy) (U (U8 J J bd) aB)))))) aC ?_ ae
  obtain⟨PO,fD⟩:=ey (waits.set k true);have hh:PO.length=waits.length:=by rw[fD];exact List.length_set
  refine oO 0 (a6 aE dy dv waits ec ef eg aJ xa k) fD bs h9 cw (cF c0 (.tuple ⟨[]⟩)) (a_.arr 1 rfl) (show k<waits.length by omega) ?_;intro fN lT gb ch w ae;have bP:=a_.gM 1 rfl (nL lT gb);replace bP:=bP.uK;letI:=bE ae;refine cm (cn c5) dh [] (U dB (U (b1 78 22 1) aB)) aC ?_ ae;refine vC (enc:=mD) (xs:=[k]) (q:=30) (bC:=λfh=>(a6 aE dy dv waits ec ef eg aJ xa k fh)) iC kZ rfl aL aL J J (h3 rfl) lA (λ_ _=>b7) np (λ_=>rfl) ?_;intro hr g1 qz sk Cz lU iL;have dK:=bP.new (tD qz Cz lU iL);letI:=bE ae;obtain⟨Hb,af8⟩:=ey (aE++[k]);refine e5 (Y:=fa) (bC:=λaF=>(a6 aE dy dv waits ec ef eg aJ xa k g1 Hb aF.1 aF.2)) dK [0,3,2] (λaF=>[oN _ _ _ aF.1 Hb aF.2,_,cb _ _ [_,_,_,_,_,_,_,_,_,_,_,_,_,_,_,_,_,_,_,_,_,_,aO aF.1 Hb aF.2,_]]) (λ_=>[]) k2 pb (cF fS (.tuple ⟨[]⟩)) (ez:=λw hw cM ay=>by rw[af8];exact Xa.any (x:=[k]) (xa:=h0 [xa 0,xa 1,xa 2,xa 3,xa 4,xa 5,xa 6,xa 7,xa 8,xa 9,xa 10,xa 11,xa 12,xa 13,xa 14,xa 15,xa 16,xa 17,xa 18,xa 19,xa 20,xa 21,aO dy aE dv,.slice ec ef eg] 0) (av:=h0 [xa 0,xa 1,xa 2,xa 3,xa 4,xa 5,xa 6,xa 7,xa 8,xa 9,xa 10,xa 11,xa 12,xa 13,xa 14,xa 15,xa 16,xa 17,xa 18,xa 19,xa 20,xa 21,aO dy aE dv,.slice ec ef eg] 23 0) _ ay (by simp only [List.length_cons,List.length_nil];omega)) (rest:= ?_);intro fU ⟨jU,jV⟩ dE ch w ae;replace dE:=dE.vJ;letI:=bE ae;refine cm (cn ht) [] [] aB aC ?_ ae;exact b2 lW λw2 bk=>(by (subst_vars;rw[aeW aY,aeY aY];exact⟨(_,_),rfl,((dE.pick [0,1,2] rfl).done bk)⟩))
end Ha
end a1
namespace a1
def cE (b:cx) (p:gK):Nat:=(GF b p).toNat
def zp (b:cx) (k j:Nat):List (Nat×Int):=x7 (cI b).1.toNat (cI b).2.1.toNat (cI b).2.2.toNat k j
def eE (b:cx) (sh:List Bool) (k j:Nat):List (Nat×Int):=(zp b k j).filter λp=>sh.getD p.1 default
def fw (b:cx) (k:Nat):Nat->gK
 |0=>((e_ b ((k:Nat):Int)).1+(-1),(e_ b ((k:Nat):Int)).2.1,(e_ b ((k:Nat):Int)).2.2)
 |1=>((e_ b ((k:Nat):Int)).1+1,(e_ b ((k:Nat):Int)).2.1,(e_ b ((k:Nat):Int)).2.2)
 |2=>((e_ b ((k:Nat):Int)).1,(e_ b ((k:Nat):Int)).2.1+(-1),(e_ b ((k:Nat):Int)).2.2)
 |3=>((e_ b ((k:Nat):Int)).1,(e_ b ((k:Nat):Int)).2.1+1,(e_ b ((k:Nat):Int)).2.2)
 |4=>((e_ b ((k:Nat):Int)).1,(e_ b ((k:Nat):Int)).2.1,(e_ b ((k:Nat):Int)).2.2+(-1))
 |_=>((e_ b ((k:Nat):Int)).1,(e_ b ((k:Nat):Int)).2.1,(e_ b ((k:Nat):Int)).2.2+1)
def mU:Nat->Int
 |4=> -1
 |5=>1
 |_=>0
theorem Xj {b:cx} {k:Nat} (ao:k<(gj b).toNat):∃b6 cA sz:Nat,(cI b)=(((b6:Nat):Int),((cA:Nat):Int),((sz:Nat):Int))/\k<b6*cA*sz/\b.2.2.2.1=b.1+b6/\b.2.2.2.2.1=b.2.1+cA/\b.2.2.2.2.2=b.2.2.1+sz:=by
 by_cases bn:ki b
 ·have ay:=AG bn
  unfold ki at bn;refine⟨(b.2.2.2.1-b.1).toNat,(b.2.2.2.2.1-b.2.1).toNat,(b.2.2.2.2.2-b.2.2.1).toNat,?_,?_,aj,aj,aj⟩
  ·rw[ay,Int.toNat_of_nonneg aj,Int.toNat_of_nonneg aj,Int.toNat_of_nonneg aj]
  ·unfold gj at ao
   rw[ay] at ao;dsimp only at ao;rw[Int.toNat_mul (Int.mul_nonneg aj aj) aj,Int.toNat_mul aj aj] at ao;exact ao
 ·unfold gj at ao
  rw[Ec bn] at ao;simp at ao
theorem K5 {b:cx} {k:Nat} {sh:List Bool} (ao:k<sh.length) (az:sh.length=(gj b).toNat):0<=((k:Nat):Int)/\((k:Nat):Int)<gj b:=by omega
theorem PQ {b:cx} {b6 cA sz x y z:Nat} (ay:cI b=(((b6:Nat):Int),((cA:Nat):Int),((sz:Nat):Int))) (af:b.2.2.2.1=b.1+b6) (ah:b.2.2.2.2.1=b.2.1+cA) (aH:b.2.2.2.2.2=b.2.2.1+sz) (aw:x<b6) (hy:y<cA) (de:z<sz):
  fz (b.1+x,b.2.1+y,b.2.2.1+z) b/\cE b (b.1+x,b.2.1+y,b.2.2.1+z)=oe b6 cA x y z:=by
 have oX:fz (b.1+((x:Nat):Int),b.2.1+((y:Nat):Int),b.2.2.1+((z:Nat):Int)) b:=by
  unfold fz;dsimp only;omega
 refine⟨oX,?_⟩;unfold cE;rw[O_ oX,ay];dsimp only;unfold oe;rw[show b.2.2.1+((z:Nat):Int)+ -1*b.2.2.1=((z:Nat):Int) by omega,show b.2.1+((y:Nat):Int)+ -1*b.2.1=((y:Nat):Int) by omega,show b.1+((x:Nat):Int)+ -1*b.1=((x:Nat):Int) by omega];rw[show (((z:Nat):Int)*((cA:Nat):Int)+((y:Nat):Int))*((b6:Nat):Int)+((x:Nat):Int)=(((z*cA+y)*b6+x:Nat):Int) by simp];exact Int.toNat_natCast _
theorem K6 {b:cx} {k:Nat} {sh:List Bool} (ao:k<sh.length) (az:sh.length=(gj b).toNat) (q:gK):cE b q<sh.length:=by
 by_cases cy:fz q b
 ·obtain⟨b6,cA,sz,ay,w_,af,ah,aH⟩:=Xj (b:=b) (k:=k) aj
  have h:=qJ cy;obtain⟨x,aw⟩:∃x:Nat,q.1=b.1+x:=⟨(q.1-b.1).toNat,aj⟩;obtain⟨y,hy⟩:∃x:Nat,q.2.1=b.2.1+x:=⟨(q.2.1-b.2.1).toNat,aj⟩;obtain⟨z,de⟩:∃x:Nat,q.2.2=b.2.2.1+x:=⟨(q.2.2-b.2.2.1).toNat,aj⟩;have af9:q=(b.1+((x:Nat):Int),b.2.1+((y:Nat):Int),b.2.2.1+((z:Nat):Int)):=by
   obtain⟨q1,aI,bS⟩:=q;dsimp only at aw hy de;rw[aw,hy,de]
  have ak:=(PQ ay af ah aH (x:=x) (y:=y) (z:=z) aj aj aj).2;rw[af9,ak,az];have aR:(gj b).toNat=b6*cA*sz:=by
   unfold gj;rw[ay];dsimp only;rw[<-Int.natCast_mul,<-Int.natCast_mul,Int.toNat_natCast]
  rw[aR];exact VX aj aj aj
 ·unfold cE
  rw[Pa cy];show 0<_;omega
theorem Xk {b:cx} {k b6 cA sz:Nat} (ay:cI b=(((b6:Nat):Int),((cA:Nat):Int),((sz:Nat):Int))) (ao:k<b6*cA*sz):e_ b ((k:Nat):Int)=(b.1+((ju b6 k:Nat):Int),b.2.1+((jv b6 cA k:Nat):Int),b.2.2.1+((iS b6 cA k:Nat):Int)):=by
 unfold e_ gj;rw[ay];dsimp only;rw[aP ⟨aj,by rw[<-Int.natCast_mul,<-Int.natCast_mul];omega⟩];rfl
theorem K7 {b:cx} (ai:okB b) (i:Int): -1048575<=(e_ b i).1/\(e_ b i).1<=1048575/\ -1048575<=(e_ b i).2.1/\(e_ b i).2.1<=1048575/\ -1048575<=(e_ b i).2.2/\(e_ b i).2.2<=1048575:=by
 by_cases h:0<=i/\i<gj b
 ·have aR:¬((cI b).1*(cI b).2.1)*(cI b).2.2<=i:=by
   have:=h.2;unfold gj at this;omega
  have bn:=Wa h.1 aR;have:=sB ai h.1 aR;rw[Wb h.1 aR,AG bn] at*
  unfold okB at ai;dsimp only at*
  omega
 ·rw[Pe h]
  decide
theorem PR {b:cx} {k:Nat} {sh:List Bool} (ao:k<sh.length) (az:sh.length=(gj b).toNat) {j:Nat} (aq:j<6):
  (fz (fw b k j) b->zp b k (j+1)=zp b k j++[(cE b (fw b k j),mU j)])/\(¬fz (fw b k j) b->zp b k (j+1)=zp b k j):=by
 obtain⟨b6,cA,sz,ay,w_,af,ah,aH⟩:=Xj (b:=b) (k:=k) aj;obtain⟨fP,ew,qX⟩:=Kp w_;have cG:=Xk ay w_;have xU:zp b k (j+1)=zp b k j++vE b6 cA sz k j:=by
  unfold zp;rw[ay];rfl
 rw[xU];have key:∀(d:Int) (x y z:Nat) (xf:Prop),(xf↔(x<b6/\y<cA/\z<sz))->∀q:gK,q=(b.1+((x:Nat):Int),b.2.1+((y:Nat):Int),b.2.2.1+((z:Nat):Int))->∀[Decidable xf],∀l:List (Nat×Int),
   (fz q b->l++(if xf then [(oe b6 cA x y z,d)] else [])=l++[(cE b q,d)])/\(¬fz q b->l++(if xf then [(oe b6 cA x y z,d)] else [])=l):=by
  intro d x y z xf aA q cy _ l;subst cy;constructor
  ·intro oX
   have h:=qJ oX;dsimp only at h;have ae:x<b6/\y<cA/\z<sz:=by omega
   rw[aP (aA.2 ae),(PQ ay af ah aH ae.1 ae.2.1 ae.2.2).2]
  ·intro oX
   rw[aV (λh=>oX (PQ ay af ah aH (aA.1 h).1 (aA.1 h).2.1 (aA.1 h).2.2).1),List.append_nil]
 have out:∀q:gK,¬fz q b->∀(xf:Prop) [Decidable xf] (n:Nat) (d:Int),¬xf->∀l:List (Nat×Int),(fz q b->l++(if xf then [(n,d)] else [])=l++[(cE b q,d)])/\(¬fz q b->l++(if xf then [(n,d)] else [])=l):=by
  intro q cy xf _ n d aA l;exact⟨λh=>absurd h cy,λ_=>by rw[aV aA,List.append_nil]⟩
 have PS:∀q:gK,(q.1<b.1\/q.2.1<b.2.1\/q.2.2<b.2.2.1)->¬fz q b:=λq cy h=>by
  have:=qJ h;omega
 match j,aq with
 |0,_=>
  by_cases bd:0<ju b6 k
  ·exact key 0 (ju b6 k-1) (jv b6 cA k) (iS b6 cA k) (0<ju b6 k) ⟨λ_=>⟨aj,ew,qX⟩,λ_=>bd⟩ (fw b k 0) (by
    show ((e_ b ((k:Nat):Int)).1+(-1),(e_ b ((k:Nat):Int)).2.1,(e_ b ((k:Nat):Int)).2.2)=_;rw[cG];dsimp only
    rw[show b.1+((ju b6 k:Nat):Int)+ -1=b.1+((ju b6 k-1:Nat):Int) by omega]) _
  ·exact out (fw b k 0) (PS _ (.inl (by
    show (e_ b ((k:Nat):Int)).1+(-1)<_;rw[cG];dsimp only
    omega))) (0<ju b6 k) _ 0 bd _
 |1,_=>
  exact key 0 (ju b6 k+1) (jv b6 cA k) (iS b6 cA k) (ju b6 k+1<b6) ⟨λh=>⟨h,ew,qX⟩,λh=>h.1⟩ (fw b k 1) (by
    show ((e_ b ((k:Nat):Int)).1+1,(e_ b ((k:Nat):Int)).2.1,(e_ b ((k:Nat):Int)).2.2)=_;rw[cG];dsimp only
    rw[show b.1+((ju b6 k:Nat):Int)+1=b.1+((ju b6 k+1:Nat):Int) by omega]) _
 |2,_=>
  by_cases bd:0<jv b6 cA k
  ·exact key 0 (ju b6 k) (jv b6 cA k-1) (iS b6 cA k) (0<jv b6 cA k) ⟨λ_=>⟨fP,aj,qX⟩,λ_=>bd⟩ (fw b k 2) (by
    show ((e_ b ((k:Nat):Int)).1,(e_ b ((k:Nat):Int)).2.1+(-1),(e_ b ((k:Nat):Int)).2.2)=_;rw[cG];dsimp only
    rw[show b.2.1+((jv b6 cA k:Nat):Int)+ -1=b.2.1+((jv b6 cA k-1:Nat):Int) by omega]) _
  ·exact out (fw b k 2) (PS _ (.inr (.inl (by
    show (e_ b ((k:Nat):Int)).2.1+(-1)<_;rw[cG];dsimp only
    omega)))) (0<jv b6 cA k) _ 0 bd _
 |3,_=>
  exact key 0 (ju b6 k) (jv b6 cA k+1) (iS b6 cA k) (jv b6 cA k+1<cA) ⟨λh=>⟨fP,h,qX⟩,λh=>h.2.1⟩ (fw b k 3) (by
    show ((e_ b ((k:Nat):Int)).1,(e_ b ((k:Nat):Int)).2.1+1,(e_ b ((k:Nat):Int)).2.2)=_;rw[cG];dsimp only
    rw[show b.2.1+((jv b6 cA k:Nat):Int)+1=b.2.1+((jv b6 cA k+1:Nat):Int) by omega]) _
 |4,_=>
  by_cases bd:0<iS b6 cA k
  ·exact key (-1) (ju b6 k) (jv b6 cA k) (iS b6 cA k-1) (0<iS b6 cA k) ⟨λ_=>⟨fP,ew,aj⟩,λ_=>bd⟩ (fw b k 4) (by
    show ((e_ b ((k:Nat):Int)).1,(e_ b ((k:Nat):Int)).2.1,(e_ b ((k:Nat):Int)).2.2+(-1))=_;rw[cG];dsimp only
    rw[show b.2.2.1+((iS b6 cA k:Nat):Int)+ -1=b.2.2.1+((iS b6 cA k-1:Nat):Int) by omega]) _
  ·exact out (fw b k 4) (PS _ (.inr (.inr (by
    show (e_ b ((k:Nat):Int)).2.2+(-1)<_;rw[cG];dsimp only
    omega)))) (0<iS b6 cA k) _ (-1) bd _
 |5,_=>
  exact key 1 (ju b6 k) (jv b6 cA k) (iS b6 cA k+1) (iS b6 cA k+1<sz) ⟨λh=>⟨fP,ew,h⟩,λh=>h.2.2⟩ (fw b k 5) (by
    show ((e_ b ((k:Nat):Int)).1,(e_ b ((k:Nat):Int)).2.1,(e_ b ((k:Nat):Int)).2.2+1)=_;rw[cG];dsimp only
    rw[show b.2.2.1+((iS b6 cA k:Nat):Int)+1=b.2.2.1+((iS b6 cA k+1:Nat):Int) by omega]) _
theorem PT {b:cx} {k:Nat} {sh:List Bool} (ao:k<sh.length) (az:sh.length=(gj b).toNat) {j:Nat} (aq:j<6) (h:fz (fw b k j) b) (ay:sh.getD (cE b (fw b k j)) default=true):eE b sh k (j+1)=eE b sh k j++[(cE b (fw b k j),mU j)]:=by
 unfold eE;rw[(PR ao az aq).1 h,List.filter_append,List.filter_cons_of_pos (by exact ay),List.filter_nil]
theorem PU {b:cx} {k:Nat} {sh:List Bool} (ao:k<sh.length) (az:sh.length=(gj b).toNat) {j:Nat} (aq:j<6) (h:fz (fw b k j) b) (ay:¬sh.getD (cE b (fw b k j)) default=true):eE b sh k (j+1)=eE b sh k j:=by
 unfold eE;rw[(PR ao az aq).1 h,List.filter_append,List.filter_cons_of_neg (by exact ay),List.filter_nil,List.append_nil]
theorem PV {b:cx} {k:Nat} {sh:List Bool} (ao:k<sh.length) (az:sh.length=(gj b).toNat) {j:Nat} (aq:j<6) (h:¬fz (fw b k j) b):eE b sh k (j+1)=eE b sh k j:=by
 unfold eE;rw[(PR ao az aq).2 h]
section
variable [bp]
theorem Hc {x y r:ad} {b:cx} {i:Int} (hp:fH [x,y]=true) (ar:bL r=true) (b5:fl [x,y]=[X.val b,.int .i64 i]) (dc:bb r= .tuple ⟨[P.val (e_ b i),.bool (decide (0<=i/\i<gj b))]⟩) (ai:okB b):j0 Tryd.prog (84,[x,y],r):=
 kP (a:= #[X.val b,.int .i64 i]) hp ar b5 dc λw _=>WV.any w b i ai
theorem ye {x y r:ad} {b:cx} {p:gK} (hp:fH [x,y]=true) (ar:bL r=true) (b5:fl [x,y]=[X.val b,P.val p]) (dc:bb r= .int .i64 ((cE b p:Nat):Int)) (ai:okB b) (h:fz p b):j0 Tryd.prog (55,[x,y],r):=
 kP (a:= #[X.val b,P.val p]) hp ar b5 dc λw _=>(PF.any w b p ai).mono λe w' he=>by
  rw[show ((cE b p:Nat):Int)=GF b p from by
   unfold cE;have:=(rX ai h).1;rw[O_ h];have ah:=(rX ai h).2.2.1;have aH:=qJ h
   omega]
  exact he
theorem Hd {x y r:ad} {b:cx} {p:gK} (hp:fH [x,y]=true) (ar:bL r=true) (b5:fl [x,y]=[X.val b,P.val p]) (dc:bb r= .int .i64 (-1)) (ai:okB b) (h:¬fz p b):j0 Tryd.prog (55,[x,y],r):=
 kP (a:= #[X.val b,P.val p]) hp ar b5 dc λw _=>(PF.any w b p ai).mono λe w' he=>by
  rw[Pa h] at he;exact he
end
def tN (l:List (Nat×Int)) (s:List Nat×List Bool):List Nat×List Bool:=l.foldl (λs p=>(mE s.1 s.2 p.1,og s.2 p.1)) s
def CA (l:List (Nat×Int)) (j:Nat) (aE:List Nat) (waits:List Bool) (g:List Nat) (w:List Bool):Prop:=g=(tN l (aE,waits)).1/\w=(tN l (aE,waits)).2/\w.length=waits.length/\g.length<=aE.length+j
theorem af' {b:cx} {sh:List Bool} {k:Nat} {g:List Nat} {w:List Bool}:CA (eE b sh k 0) 0 g w g w:=⟨rfl,rfl,rfl,c4 _⟩
theorem af_ {l l':List (Nat×Int)} {j:Nat} {p:Nat×Int} {aE g:List Nat} {waits w:List Bool} (h:CA l j aE waits g w) (e:l'=l++[p]):CA l' (j+1) aE waits (mE g w p.1) (og w p.1):=by
 obtain⟨af,ah,aH,ck⟩:=h;subst e;have bn:tN (l++[p]) (aE,waits)=(mE g w p.1,og w p.1):=by
  unfold tN at*
  rw[List.foldl_append,List.foldl_cons,List.foldl_nil,<-af,<-ah]
 refine⟨by rw[bn],by rw[bn],by rw[Kx];exact aH,?_⟩;have:=V' g w p.1;omega
theorem Xl {l l':List (Nat×Int)} {j:Nat} {aE g:List Nat} {waits w:List Bool} (h:CA l j aE waits g w) (e:l'=l):CA l' (j+1) aE waits g w:=by
 subst e;exact⟨h.1,h.2.1,h.2.2.1,Nat.le_succ_of_le h.2.2.2⟩
def sH (table:List dx) (lit:List Int) (old:cc) (s:List e2×List Nat×List cc) (p:Nat×Int):List e2×List Nat×List cc:=
 (xd s.1 p.1 (pN (bA table (lit.getD p.1 default)).2.2.2.2.1 old (s.2.2.getD p.1 default) p.2),uL s.2.1 p.1 (pN (bA table (lit.getD p.1 default)).2.2.2.2.1 old (s.2.2.getD p.1 default) p.2),yd s.2.2 p.1 (pN (bA table (lit.getD p.1 default)).2.2.2.2.1 old (s.2.2.getD p.1 default) p.2))
def kF (table:List dx) (lit:List Int) (old:cc) (l:List (Nat×Int)) (s:List e2×List Nat×List cc):List e2×List Nat×List cc:=l.foldl (sH table lit old) s
def CB (table:List dx) (lit:List Int) (old:cc) (l:List (Nat×Int)) (j:Nat) (a0:List e2) (cJ:List Nat) (mL:List cc) (a:List e2) (g:List Nat) (li:List cc):Prop:=
 a=(kF table lit old l (a0,cJ,mL)).1/\g=(kF table lit old l (a0,cJ,mL)).2.1/\li=(kF table lit old l (a0,cJ,mL)).2.2/\li.length=mL.length/\a.length<=a0.length+j/\g.length<=cJ.length+j
theorem Xm (a:List e2) (n:Nat) (jR:cc):(xd a n jR).length<=a.length+1:=by
 unfold xd;split<;>simp
theorem aga (a:List Nat) (n:Nat) (jR:cc):(uL a n jR).length<=a.length+1:=by
 unfold uL;split<;>simp
theorem agb (a:List cc) (n:Nat) (jR:cc):(yd a n jR).length=a.length:=by
 unfold yd;split<;>simp
theorem agc {table:List dx} {lit:List Int} {old:cc} {b:cx} {sh:List Bool} {k:Nat} {a:List e2} {g:List Nat} {li:List cc}:CB table lit old (eE b sh k 0) 0 a g li a g li:=⟨rfl,rfl,rfl,rfl,c4 _,c4 _⟩
theorem agd {table:List dx} {lit:List Int} {old:cc} {l l':List (Nat×Int)} {j:Nat} {p:Nat×Int} {a0 a:List e2} {cJ g:List Nat} {mL li:List cc} (h:CB table lit old l j a0 cJ mL a g li) (e:l'=l++[p]):
  CB table lit old l' (j+1) a0 cJ mL (xd a p.1 (pN (bA table (lit.getD p.1 default)).2.2.2.2.1 old (li.getD p.1 default) p.2)) (uL g p.1 (pN (bA table (lit.getD p.1 default)).2.2.2.2.1 old (li.getD p.1 default) p.2)) (yd li p.1 (pN (bA table (lit.getD p.1 default)).2.2.2.2.1 old (li.getD p.1 default) p.2)):=by
 obtain⟨af,ah,aH,ck,dd,dM⟩:=h;subst e;have bn:kF table lit old (l++[p]) (a0,cJ,mL)=sH table lit old (a,g,li) p:=by
  unfold kF at*
  rw[List.foldl_append,List.foldl_cons,List.foldl_nil,af,ah,aH]
 refine⟨by rw[bn];rfl,by rw[bn];rfl,by rw[bn];rfl,by rw[agb];exact ck,?_,?_⟩
 ·have:=Xm a p.1 (pN (bA table (lit.getD p.1 default)).2.2.2.2.1 old (li.getD p.1 default) p.2)
  omega
 ·have:=aga g p.1 (pN (bA table (lit.getD p.1 default)).2.2.2.2.1 old (li.getD p.1 default) p.2)
  omega
theorem Xn {table:List dx} {lit:List Int} {old:cc} {l l':List (Nat×Int)} {j:Nat} {a0 a:List e2} {cJ g:List Nat} {mL li:List cc} (h:CB table lit old l j a0 cJ mL a g li) (e:l'=l):CB table lit old l' (j+1) a0 cJ mL a g li:=by
 subst e;obtain⟨af,ah,aH,ck,dd,dM⟩:=h;exact⟨af,ah,aH,ck,Nat.le_succ_of_le dd,Nat.le_succ_of_le dM⟩
def ix (F:Int) (au:List cc) (l:List (Nat×Int)) (out:cc):cc:=l.foldl (λo p=>pO F o (au.getD p.1 default) p.2) out
def AP (F:Int) (au:List cc) (l:List (Nat×Int)) (out:cc) (hE eU fj gu:Int):Prop:=((hE,eU,fj,gu):cc)=ix F au l out/\True
theorem age {F:Int} {au:List cc} {b:cx} {sh:List Bool} {k:Nat} {out:cc}:AP F au (eE b sh k 0) out out.1 out.2.1 out.2.2.1 out.2.2.2:=⟨rfl,trivial⟩
theorem agf {j:Nat} {F:Int} {au:List cc} {l l':List (Nat×Int)} {p:Nat×Int} {out:cc} {hE eU fj gu:Int} (h:AP F au l out hE eU fj gu) (e:l'=l++[p]):
  AP F au l' out (pO F (hE,eU,fj,gu) (au.getD p.1 default) p.2).1 (pO F (hE,eU,fj,gu) (au.getD p.1 default) p.2).2.1 (pO F (hE,eU,fj,gu) (au.getD p.1 default) p.2).2.2.1 (pO F (hE,eU,fj,gu) (au.getD p.1 default) p.2).2.2.2:=by
 unfold AP at*
 subst e;refine⟨?_,trivial⟩;have h:=h.1;unfold ix at*
 rw[List.foldl_append,List.foldl_cons,List.foldl_nil,<-h]
theorem Xo {j:Nat} {F:Int} {au:List cc} {l l':List (Nat×Int)} {out:cc} {hE eU fj gu:Int} (h:AP F au l out hE eU fj gu) (e:l'=l):AP F au l' out hE eU fj gu:=by
 subst e;exact h
end a1
namespace a1
namespace Xp
noncomputable def body:Code:=(Tryd.f88.body).getD .skip
def N:Nat:=32
def aZ:c6:={sl:=bm [(4,4),(3,3),(2,2),(1,1),(0,0)],ms:=[],A:=start}
def bt:List bG:=[]
def cl:ax:=bm [(8,35),(4,4),(3,3),(2,2),(1,1),(0,0)]
abbrev fG:=at' 32 [] [] body aZ
theorem b4:mi cl bt fG=some [(0,0),(1,1),(3,3),(2,2),(4,4),(I 0,35)]:=ag
def bY:Code:=nJ body [1,4]
def fJ:List hj:=lp body [1,4] []
theorem bs:lP fG=bY:=ag
theorem cw:gi fG=fJ:=ag
def uS:ax:=bm [(8,I 0),(4,4),(3,3),(2,2),(1,1),(0,0)]
theorem dD:bF (aN cl bt) uS bt=some [(0,0),(1,1),(3,3),(2,2),(4,4),(35,I 0)]:=ag
def cp:aU:=[(.cV 85 2 (I 0),2),
 (.bh 3 2,36),
 (.bh 34 3,33),
 (.dt 33,33),
 (.bQ 80 33 5,40),
 (.bh 45 40,5),
 (.cV 45 5 0,41),
 (.cV 85 41 (I 0),42),
 (.bh 3 42,43),
 (.bh 3 4,34),
 (.bin .gtr 3 1 (I 0),.bool true),
 (.eZ #[3,3] 3 36 44,45)]
def hR:dm:=[(62,[43,34,I 0,.bool true],44)]
theorem hq:hc (at' 32 cp hR bY (aN uS bt))=some (3,2,45):=ag
abbrev eT:=at' 32 cp hR bY (aN uS bt)
def cY:List bG:=[]
def c8:ax:=bm [(8,I 0),(4,4),(3,3),(2,2),(1,1),(0,0)]
def c0:ax:=match e8 32 c8 none (.tuple ⟨[]⟩) with|some s=>s|none=> .nil
theorem ka:bF (b0 eT) c8 cY=some [(0,0),(1,1),(3,3),(2,2),(4,4)]:=ag
def c5:ct:=(bY,[1,1,0,4,1],21)
theorem k2:eV cl bt (bD 32 [] [] c5 (aN c0 cY))=some [(0,0),(1,1),(3,3),(2,2),(4,4),(I 1,35)]:=ag
def dh:aU:=[(.cV 85 2 (I 0),2),
 (.bh 3 2,36),
 (.bh 34 3,33),
 (.dt 33,33),
 (.bQ 80 33 5,40),
 (.bh 45 40,5),
 (.cV 45 5 0,41),
 (.cV 85 41 (I 0),42),
 (.bh 3 42,43),
 (.bh 3 4,34),
 (.bin .gtr 3 1 (I 0),.bool false),
 (.eZ #[3,3] 3 36 46,47)]
def lq:dm:=[(62,[43,34,I 0,.bool false],46)]
theorem lV:hc (at' 32 dh lq bY (aN uS bt))=some (3,2,47):=ag
abbrev h':=at' 32 dh lq bY (aN uS bt)
def fm:List bG:=[]
def fT:ax:=bm [(8,I 0),(4,4),(3,3),(2,2),(1,1),(0,0)]
def eO:ax:=match e8 32 fT none (.tuple ⟨[]⟩) with|some s=>s|none=> .nil
theorem jS:bF (b0 h') fT fm=some [(0,0),(1,1),(3,3),(2,2),(4,4)]:=ag
def ga:ct:=(bY,[1,1,0,4,1],21)
theorem ru:eV cl bt (bD 32 [] [] ga (aN eO fm))=some [(0,0),(1,1),(3,3),(2,2),(4,4),(I 1,35)]:=ag
def He:ax:=bm [(8,I 1),(4,4),(3,3),(2,2),(1,1),(0,0)]
theorem lW:bF (aN cl bt) He bt=some [(0,0),(1,1),(3,3),(2,2),(4,4),(35,I 1)]:=ag
def d':aU:=[(.cV 85 2 (I 1),48),
 (.bh 3 48,37),
 (.bh 34 3,33),
 (.dt 33,33),
 (.bQ 80 33 5,40),
 (.bh 45 40,5),
 (.cV 45 5 0,41),
 (.cV 85 41 (I 1),49),
 (.bh 3 49,50),
 (.bh 3 4,34),
 (.bin .gtr 3 1 (I 0),.bool true),
 (.eZ #[3,3] 3 37 51,52)]
def kb:dm:=[(62,[50,34,I 1,.bool true],51)]
theorem om:hc (at' 32 d' kb bY (aN He bt))=some (3,48,52):=ag
abbrev lr:=at' 32 d' kb bY (aN He bt)
def hF:List bG:=[]
def iG:ax:=bm [(8,I 1),(4,4),(3,3),(2,2),(1,1),(0,0)]
def fS:ax:=match e8 32 iG none (.tuple ⟨[]⟩) with|some s=>s|none=> .nil
theorem nt:bF (b0 lr) iG hF=some [(0,0),(1,1),(3,3),(2,2),(4,4)]:=ag
def ht:ct:=(bY,[1,1,0,4,1],21)
theorem ql:eV cl bt (bD 32 [] [] ht (aN fS hF))=some [(0,0),(1,1),(3,3),(2,2),(4,4),(I 2,35)]:=ag
def eS:aU:=[(.cV 85 2 (I 1),48),
 (.bh 3 48,37),
 (.bh 34 3,33),
 (.dt 33,33),
 (.bQ 80 33 5,40),
 (.bh 45 40,5),
 (.cV 45 5 0,41),
 (.cV 85 41 (I 1),49),
 (.bh 3 49,50),
 (.bh 3 4,34),
 (.bin .gtr 3 1 (I 0),.bool false),
 (.eZ #[3,3] 3 37 53,54)]
def nW:dm:=[(62,[50,34,I 1,.bool false],53)]
theorem pd:hc (at' 32 eS nW bY (aN He bt))=some (3,48,54):=ag
abbrev pc:=at' 32 eS nW bY (aN He bt)
def kC:List bG:=[]
def lH:ax:=bm [(8,I 1),(4,4),(3,3),(2,2),(1,1),(0,0)]
def jt:ax:=match e8 32 lH none (.tuple ⟨[]⟩) with|some s=>s|none=> .nil
theorem qm:bF (b0 pc) lH kC=some [(0,0),(1,1),(3,3),(2,2),(4,4)]:=ag
def k0:ct:=(bY,[1,1,0,4,1],21)
theorem pe:eV cl bt (bD 32 [] [] k0 (aN jt kC))=some [(0,0),(1,1),(3,3),(2,2),(4,4),(I 2,35)]:=ag
def Hf:ax:=bm [(8,I 2),(4,4),(3,3),(2,2),(1,1),(0,0)]
theorem uT:bF (aN cl bt) Hf bt=some [(0,0),(1,1),(3,3),(2,2),(4,4),(35,I 2)]:=ag
def fq:aU:=[(.cV 85 2 (I 2),55),
 (.bh 3 55,38),
 (.bh 34 3,33),
 (.dt 33,33),
 (.bQ 80 33 5,40),
 (.bh 45 40,5),
 (.cV 45 5 0,41),
 (.cV 85 41 (I 2),56),
 (.bh 3 56,57),
 (.bh 3 4,34),
 (.bin .gtr 3 1 (I 0),.bool true),
 (.eZ #[3,3] 3 38 58,59)]
def qN:dm:=[(62,[57,34,I 2,.bool true],58)]
theorem G5:hc (at' 32 fq qN bY (aN Hf bt))=some (3,55,59):=ag
abbrev oo:=at' 32 fq qN bY (aN Hf bt)
def lh:List bG:=[]
def ml:ax:=bm [(8,I 2),(4,4),(3,3),(2,2),(1,1),(0,0)]
def kf:ax:=match e8 32 ml none (.tuple ⟨[]⟩) with|some s=>s|none=> .nil
theorem G6:bF (b0 oo) ml lh=some [(0,0),(1,1),(3,3),(2,2),(4,4)]:=ag
def nS:ct:=(bY,[1,1,0,4,1],21)
theorem PW:eV cl bt (bD 32 [] [] nS (aN kf lh))=some [(0,0),(1,1),(3,3),(2,2),(4,4),(I 3,35)]:=ag
def hs:aU:=[(.cV 85 2 (I 2),55),
 (.bh 3 55,38),
 (.bh 34 3,33),
 (.dt 33,33),
 (.bQ 80 33 5,40),
 (.bh 45 40,5),
 (.cV 45 5 0,41),
 (.cV 85 41 (I 2),56),
 (.bh 3 56,57),
 (.bh 3 4,34),
 (.bin .gtr 3 1 (I 0),.bool false),
 (.eZ #[3,3] 3 38 60,61)]
def mZ:dm:=[(62,[57,34,I 2,.bool false],60)]
theorem Hg:hc (at' 32 hs mZ bY (aN Hf bt))=some (3,55,61):=ag
abbrev uN:=at' 32 hs mZ bY (aN Hf bt)
def mX:List bG:=[]
def pP:ax:=bm [(8,I 2),(4,4),(3,3),(2,2),(1,1),(0,0)]
def mY:ax:=match e8 32 pP none (.tuple ⟨[]⟩) with|some s=>s|none=> .nil
theorem Hh:bF (b0 uN) pP mX=some [(0,0),(1,1),(3,3),(2,2),(4,4)]:=ag
def mF:ct:=(bY,[1,1,0,4,1],21)
theorem zi:eV cl bt (bD 32 [] [] mF (aN mY mX))=some [(0,0),(1,1),(3,3),(2,2),(4,4),(I 3,35)]:=ag
def Hi:ax:=bm [(8,I 3),(4,4),(3,3),(2,2),(1,1),(0,0)]
theorem agh:bF (aN cl bt) Hi bt=some [(0,0),(1,1),(3,3),(2,2),(4,4),(35,I 3)]:=ag
def hN:aU:=[(.cV 85 2 (I 3),62),
 (.bh 3 62,39),
 (.bh 34 3,33),
 (.dt 33,33),
 (.bQ 80 33 5,40),
 (.bh 45 40,5),
 (.cV 45 5 0,41),
 (.cV 85 41 (I 3),63),
 (.bh 3 63,64),
 (.bh 3 4,34),
 (.bin .gtr 3 1 (I 0),.bool true),
 (.eZ #[3,3] 3 39 65,66)]
def vM:dm:=[(62,[64,34,I 3,.bool true],65)]
theorem agi:hc (at' 32 hN vM bY (aN Hi bt))=some (3,62,66):=ag
abbrev uO:=at' 32 hN vM bY (aN Hi bt)
def nT:List bG:=[]
def pQ:ax:=bm [(8,I 3),(4,4),(3,3),(2,2),(1,1),(0,0)]
def nU:ax:=match e8 32 pQ none (.tuple ⟨[]⟩) with|some s=>s|none=> .nil
theorem Hj:bF (b0 uO) pQ nT=some [(0,0),(1,1),(3,3),(2,2),(4,4)]:=ag
def nV:ct:=(bY,[1,1,0,4,1],21)
theorem zj:eV cl bt (bD 32 [] [] nV (aN nU nT))=some [(0,0),(1,1),(3,3),(2,2),(4,4),(I 4,35)]:=ag
def hS:aU:=[(.cV 85 2 (I 3),62),
 (.bh 3 62,39),
 (.bh 34 3,33),
 (.dt 33,33),
 (.bQ 80 33 5,40),
 (.bh 45 40,5),
 (.cV 45 5 0,41),
 (.cV 85 41 (I 3),63),
 (.bh 3 63,64),
 (.bh 3 4,34),
 (.bin .gtr 3 1 (I 0),.bool false),
 (.eZ #[3,3] 3 39 67,68)]
def sI:dm:=[(62,[64,34,I 3,.bool false],67)]
theorem Cy:hc (at' 32 hS sI bY (aN Hi bt))=some (3,62,68):=ag
abbrev uP:=at' 32 hS sI bY (aN Hi bt)
def mG:List bG:=[]
def pR:ax:=bm [(8,I 3),(4,4),(3,3),(2,2),(1,1),(0,0)]
def mH:ax:=match e8 32 pR none (.tuple ⟨[]⟩) with|some s=>s|none=> .nil
theorem PX:bF (b0 uP) pR mG=some [(0,0),(1,1),(3,3),(2,2),(4,4)]:=ag
def mm:ct:=(bY,[1,1,0,4,1],21)
theorem zl:eV cl bt (bD 32 [] [] mm (aN mH mG))=some [(0,0),(1,1),(3,3),(2,2),(4,4),(I 4,35)]:=ag
def G':ax:=bm [(8,I 4),(4,4),(3,3),(2,2),(1,1),(0,0)]
theorem zm:bF (aN cl bt) G' bt=some [(0,0),(1,1),(3,3),(2,2),(4,4),(35,I 4)]:=ag
theorem zn:fu Tryd.prog Tryd.f88 (jf 32 [] [] fJ (at' 32 [] [] bY (aN G' bt)))=some (.tuple ⟨[]⟩):=ag
@[reducible] noncomputable def a6 (au:List cc) (bT:bH) (bU bV aJ:Nat) (xa:Nat->ad) (av:Nat->ad) (ie:Nat) (out:cc) (dg jW:Nat) (F:Int) (n:Nat) (dW:Int) (i:Nat:=0) (cj:Int:=0) (fR:Int:=0) (fC:Int:=0) (iN:Int:=0):List ad:=[I ((n:Nat):Int),I dW,bj ie 0,bj dg 0,bj jW 0,.slice bT bU bV,xa 0,xa 1,xa 2,xa 3,xa 4,xa 5,xa 6,xa 7,xa 8,xa 9,xa 10,xa 11,xa 12,xa 13,xa 14,xa 15,xa 16,av 0,av 1,av 2,av 3,av 4,av 5,I out.1,I out.2.1,I out.2.2.1,I out.2.2.2,bj aJ 0,I F,I ((i:Nat):Int),I cj,I fR,I fC,I iN,bj aJ 17,fM (.slice bT bU bV) (n*4),fM (.slice bT bU bV) (n*4+0),I (au.aD (n)).1,I (given (au.aD (n)).1 F 0 true),I (max cj (given (au.aD (n)).1 F 0 true)),I (given (au.aD (n)).1 F 0 false),I (max cj (given (au.aD (n)).1 F 0 false)),bj ie 1,fM (.slice bT bU bV) (n*4+1),I (au.aD (n)).2.1,I (given (au.aD (n)).2.1 F 1 true),I (max fR (given (au.aD (n)).2.1 F 1 true)),I (given (au.aD (n)).2.1 F 1 false),I (max fR (given (au.aD (n)).2.1 F 1 false)),bj ie 2,fM (.slice bT bU bV) (n*4+2),I (au.aD (n)).2.2.1,I (given (au.aD (n)).2.2.1 F 2 true),I (max fC (given (au.aD (n)).2.2.1 F 2 true)),I (given (au.aD (n)).2.2.1 F 2 false),I (max fC (given (au.aD (n)).2.2.1 F 2 false)),bj ie 3,fM (.slice bT bU bV) (n*4+3),I (au.aD (n)).2.2.2,I (given (au.aD (n)).2.2.2 F 3 true),I (max iN (given (au.aD (n)).2.2.2 F 3 true)),I (given (au.aD (n)).2.2.2 F 3 false),I (max iN (given (au.aD (n)).2.2.2 F 3 false))]
theorem any (W:aG) {au:List cc} {bT:bH} {bU bV aJ:Nat} {xa:Nat->ad} {av:Nat->ad} {ie:Nat} {out:cc} {dg jW:Nat} {F:Int} (gm:dO (a7 W) [mj bT bU bV au,cb aJ 80 [xa 0,xa 1,xa 2,xa 3,xa 4,xa 5,xa 6,xa 7,xa 8,xa 9,xa 10,xa 11,xa 12,xa 13,xa 14,xa 15,xa 16,.slice bT bU bV,av 0,av 1,av 2,av 3,av 4,av 5],cb ie 85 [I out.1,I out.2.1,I out.2.2.1,I out.2.2.2],cb dg 34 [bj aJ 0],cb jW 3 [I F]]) (n:Nat) (dW:Int) (aT:n<au.length) (alk:0<=(au.aD n).1/\(au.aD n).1<=15/\0<=(au.aD n).2.1/\(au.aD n).2.1<=15/\0<=(au.aD n).2.2.1/\(au.aD n).2.2.1<=15/\0<=(au.aD n).2.2.2/\(au.aD n).2.2.2<=15) (gg:1<=F/\F<=16):Calls Tryd.prog 88 #[I ((n:Nat):Int),I dW,bj ie 0,bj dg 0,bj jW 0] W λe w'=>(∃y:Unit,e= .returned (.tuple #[])/\dw (a7 W) [mj bT bU bV au,cb aJ 80 [xa 0,xa 1,xa 2,xa 3,xa 4,xa 5,xa 6,xa 7,xa 8,xa 9,xa 10,xa 11,xa 12,xa 13,xa 14,xa 15,xa 16,.slice bT bU bV,av 0,av 1,av 2,av 3,av 4,av 5],cb ie 85 [I out.1,I out.2.1,I out.2.2.1,I out.2.2.2],cb dg 34 [bj aJ 0],cb jW 3 [I F]] (a7 w') [mj bT bU bV au,cb aJ lF [xa 0,xa 1,xa 2,xa 3,xa 4,xa 5,xa 6,xa 7,xa 8,xa 9,xa 10,xa 11,xa 12,xa 13,xa 14,xa 15,xa 16,.slice bT bU bV,av 0,av 1,av 2,av 3,av 4,av 5],cb ie oK (kh (pO F out (au.aD n) dW)),cb dg x8 [bj aJ 0],cb jW 3 [I F]])/\cO 0 W w':=by
 refine lg (a6 au bT bU bV aJ xa av ie out dg jW F n dW) body aZ N [al 0,al 1,al 2,al 3,al 4] Tryd.func88 λa ae=> ?_
 letI:=bE ae;have a_:=cC.start W _ gm;refine br [] [] aB aC ?_ ae;refine nP (fW:=(λ(⟨M,i,cj,fR,fC,iN⟩:Mem×Nat×Int×Int×Int×Int)=>bc M (a6 au bT bU bV aJ xa av ie out dg jW F n dW i cj fR fC iN))) (λ(⟨M,i,cj,fR,fC,iN⟩:Mem×Nat×Int×Int×Int×Int)=>cC 0 (a7 W) a_.mL M [mj bT bU bV au,cb aJ 80 [xa 0,xa 1,xa 2,xa 3,xa 4,xa 5,xa 6,xa 7,xa 8,xa 9,xa 10,xa 11,xa 12,xa 13,xa 14,xa 15,xa 16,.slice bT bU bV,av 0,av 1,av 2,av 3,av 4,av 5],cb ie 85 [I cj,I fR,I fC,I iN],cb dg 34 [bj aJ 0],cb jW 3 [I F]]/\(i<=4/\(cj=if 0<i then zh F out (au.aD n) dW 0 else out.1)/\(fR=if 1<i then zh F out (au.aD n) dW 1 else out.2.1)/\(fC=if 2<i then zh F out (au.aD n) dW 2 else out.2.2.1)/\(iN=if 3<i then zh F out (au.aD n) dW 3 else out.2.2.2))) (λ(⟨M,i,cj,fR,fC,iN⟩:Mem×Nat×Int×Int×Int×Int)=>4-i) ⟨(a7 W),0,out.1,out.2.1,out.2.2.1,out.2.2.2⟩ b4 b7 (λ_ _ h=>h) (by exact⟨(a_.pick [0,1,2,3,4] rfl),by exact⟨aj,rfl,rfl,rfl,rfl⟩⟩) ?_;intro⟨M,i,cj,fR,fC,iN⟩ aK ch w ae;letI:=bE ae;refine nK bs cw ?_;have bX:=aK.1;have PN:=aK.2.1;rcases(show i=0\/i=1\/i=2\/i=3\/i=4 by omega) with fb|fb|fb|fb|fb
 ·replace ae:=Here.nQ (bc M (a6 au bT bU bV aJ xa av ie out dg jW F n dW i cj fR fC iN)) dD b7 ae
  by_cases lM:0<dW
  ·refine br cp hR (U (aW.kO (g:=ie) (o:=0) (j:=0) (n:=4) (e:=3) (sz:=1) J J J ag ag J J aL rfl) (U (cu 0 2 bX) (U (cu 0 3 bX) (U dB (U (b1 45 17 1) (U (cu 17 1 bX) (U (f' ((bX.arr 0 rfl).arr eH) kg kS) (U (aW.nI (j:=0) (n:=4) (e:=3) J J J ag jO (nm ((bX.arr 0 rfl).arr eH) (show n<au.length by omega)) aL J J J J) (U (im 0 ((bX.arr 0 rfl).arr eH) (f_ n) kz) (U (cu 0 4 bX) (U bf (U (aW.jL J J J J J J) aB)))))))))))) (cv (nr J J J J aj) aC) ?_ ae
   refine oP 0 [I (max cj (given (au.aD (n)).1 F 0 true)),I fR,I fC,I iN] (a6 au bT bU bV aJ xa av ie out dg jW F n dW i cj fR fC iN) hq ka (cF c0 (.tuple ⟨[]⟩)) (bX.box 2 rfl) ?_;intro fN k3 gb ch w ae;have bP:=bX.gM 2 rfl (lR k3 gb);replace bP:=bP.qj;letI:=bE ae;refine cm (cn c5) [] [] aB aC ?_ ae;exact e3 ⟨fN,1,(max cj (given (au.aD (n)).1 F 0 true)),fR,fC,iN⟩ k2 b7 (by exact⟨bP,by subst fb;obtain⟨_,_,ea,q1,aI,bS⟩:=aK;refine⟨aj,?_,?_,?_,?_⟩;all_goals first|(rw[aV aL];exact q1.trans (aV aL))|(rw[aV aL];exact aI.trans (aV aL))|(rw[aV aL];exact bS.trans (aV aL))|(rw[aP aL];rw[ea.trans (aV aL)];exact W4 (gO aY))⟩)
  ·refine br dh lq (U (aW.kO (g:=ie) (o:=0) (j:=0) (n:=4) (e:=3) (sz:=1) J J J ag ag J J aL rfl) (U (cu 0 2 bX) (U (cu 0 3 bX) (U dB (U (b1 45 17 1) (U (cu 17 1 bX) (U (f' ((bX.arr 0 rfl).arr eH) kg kS) (U (aW.nI (j:=0) (n:=4) (e:=3) J J J ag jO (nm ((bX.arr 0 rfl).arr eH) (show n<au.length by omega)) aL J J J J) (U (im 0 ((bX.arr 0 rfl).arr eH) (f_ n) kz) (U (cu 0 4 bX) (U a' (U (aW.jL J J J J J J) aB)))))))))))) (cv (nr J J J J aj) aC) ?_ ae
   refine oP 0 [I (max cj (given (au.aD (n)).1 F 0 false)),I fR,I fC,I iN] (a6 au bT bU bV aJ xa av ie out dg jW F n dW i cj fR fC iN) lV jS (cF eO (.tuple ⟨[]⟩)) (bX.box 2 rfl) ?_;intro fN k3 gb ch w ae;have bP:=bX.gM 2 rfl (lR k3 gb);replace bP:=bP.qj;letI:=bE ae;refine cm (cn ga) [] [] aB aC ?_ ae;exact e3 ⟨fN,1,(max cj (given (au.aD (n)).1 F 0 false)),fR,fC,iN⟩ ru b7 (by exact⟨bP,by subst fb;obtain⟨_,_,ea,q1,aI,bS⟩:=aK;refine⟨aj,?_,?_,?_,?_⟩;all_goals first|(rw[aV aL];exact q1.trans (aV aL))|(rw[aV aL];exact aI.trans (aV aL))|(rw[aV aL];exact bS.trans (aV aL))|(rw[aP aL];rw[ea.trans (aV aL)];exact W4 (dT aY))⟩)
 ·replace ae:=Here.nQ (bc M (a6 au bT bU bV aJ xa av ie out dg jW F n dW i cj fR fC iN)) lW b7 ae
  by_cases lM:0<dW
  ·refine br d' kb (U (aW.kO (g:=ie) (o:=0) (j:=1) (n:=4) (e:=3) (sz:=1) J J J ag ag J J aL rfl) (U (cu 1 2 bX) (U (cu 0 3 bX) (U dB (U (b1 45 17 1) (U (cu 17 1 bX) (U (f' ((bX.arr 0 rfl).arr eH) kg kS) (U (aW.nI (j:=1) (n:=4) (e:=3) J J J ag jO (nm ((bX.arr 0 rfl).arr eH) (show n<au.length by omega)) aL J J J J) (U (im 1 ((bX.arr 0 rfl).arr eH) (f_ n) kz) (U (cu 0 4 bX) (U bf (U (aW.jL J J J J J J) aB)))))))))))) (cv (nr J J J J aj) aC) ?_ ae
   refine oP 1 [I cj,I (max fR (given (au.aD (n)).2.1 F 1 true)),I fC,I iN] (a6 au bT bU bV aJ xa av ie out dg jW F n dW i cj fR fC iN) om nt (cF fS (.tuple ⟨[]⟩)) (bX.box 2 rfl) ?_;intro fN k3 gb ch w ae;have bP:=bX.gM 2 rfl (lR k3 gb);replace bP:=bP.qj;letI:=bE ae;refine cm (cn ht) [] [] aB aC ?_ ae;exact e3 ⟨fN,2,cj,(max fR (given (au.aD (n)).2.1 F 1 true)),fC,iN⟩ ql b7 (by exact⟨bP,by subst fb;obtain⟨_,_,ea,q1,aI,bS⟩:=aK;refine⟨aj,?_,?_,?_,?_⟩;all_goals first|(rw[aV aL];exact aI.trans (aV aL))|(rw[aV aL];exact bS.trans (aV aL))|(rw[aP aL];exact ea.trans (aP aL))|(rw[aP aL];rw[q1.trans (aV aL)];exact W5 (gO aY))⟩)
  ·refine br eS nW (U (aW.kO (g:=ie) (o:=0) (j:=1) (n:=4) (e:=3) (sz:=1) J J J ag ag J J aL rfl) (U (cu 1 2 bX) (U (cu 0 3 bX) (U dB (U (b1 45 17 1) (U (cu 17 1 bX) (U (f' ((bX.arr 0 rfl).arr eH) kg kS) (U (aW.nI (j:=1) (n:=4) (e:=3) J J J ag jO (nm ((bX.arr 0 rfl).arr eH) (show n<au.length by omega)) aL J J J J) (U (im 1 ((bX.arr 0 rfl).arr eH) (f_ n) kz) (U (cu 0 4 bX) (U a' (U (aW.jL J J J J J J) aB)))))))))))) (cv (nr J J J J aj) aC) ?_ ae
   refine oP 1 [I cj,I (max fR (given (au.aD (n)).2.1 F 1 false)),I fC,I iN] (a6 au bT bU bV aJ xa av ie out dg jW F n dW i cj fR fC iN) pd qm (cF jt (.tuple ⟨[]⟩)) (bX.box 2 rfl) ?_;intro fN k3 gb ch w ae;have bP:=bX.gM 2 rfl (lR k3 gb);replace bP:=bP.qj;letI:=bE ae;refine cm (cn k0) [] [] aB aC ?_ ae;exact e3 ⟨fN,2,cj,(max fR (given (au.aD (n)).2.1 F 1 false)),fC,iN⟩ pe b7 (by exact⟨bP,by subst fb;obtain⟨_,_,ea,q1,aI,bS⟩:=aK;refine⟨aj,?_,?_,?_,?_⟩;all_goals first|(rw[aV aL];exact aI.trans (aV aL))|(rw[aV aL];exact bS.trans (aV aL))|(rw[aP aL];exact ea.trans (aP aL))|(rw[aP aL];rw[q1.trans (aV aL)];exact W5 (dT aY))⟩)
 ·replace ae:=Here.nQ (bc M (a6 au bT bU bV aJ xa av ie out dg jW F n dW i cj fR fC iN)) uT b7 ae
  by_cases lM:0<dW
  ·refine br fq qN (U (aW.kO (g:=ie) (o:=0) (j:=2) (n:=4) (e:=3) (sz:=1) J J J ag ag J J aL rfl) (U (cu 2 2 bX) (U (cu 0 3 bX) (U dB (U (b1 45 17 1) (U (cu 17 1 bX) (U (f' ((bX.arr 0 rfl).arr eH) kg kS) (U (aW.nI (j:=2) (n:=4) (e:=3) J J J ag jO (nm ((bX.arr 0 rfl).arr eH) (show n<au.length by omega)) aL J J J J) (U (im 2 ((bX.arr 0 rfl).arr eH) (f_ n) kz) (U (cu 0 4 bX) (U bf (U (aW.jL J J J J J J) aB)))))))))))) (cv (nr J J J J aj) aC) ?_ ae
   refine oP 2 [I cj,I fR,I (max fC (given (au.aD (n)).2.2.1 F 2 true)),I iN] (a6 au bT bU bV aJ xa av ie out dg jW F n dW i cj fR fC iN) G5 G6 (cF kf (.tuple ⟨[]⟩)) (bX.box 2 rfl) ?_;intro fN k3 gb ch w ae;have bP:=bX.gM 2 rfl (lR k3 gb);replace bP:=bP.qj;letI:=bE ae;refine cm (cn nS) [] [] aB aC ?_ ae;exact e3 ⟨fN,3,cj,fR,(max fC (given (au.aD (n)).2.2.1 F 2 true)),iN⟩ PW b7 (by exact⟨bP,by subst fb;obtain⟨_,_,ea,q1,aI,bS⟩:=aK;refine⟨aj,?_,?_,?_,?_⟩;all_goals first|(rw[aV aL];exact bS.trans (aV aL))|(rw[aP aL];exact ea.trans (aP aL))|(rw[aP aL];exact q1.trans (aP aL))|(rw[aP aL];rw[aI.trans (aV aL)];exact W6 (gO aY))⟩)
  ·refine br hs mZ (U (aW.kO (g:=ie) (o:=0) (j:=2) (n:=4) (e:=3) (sz:=1) J J J ag ag J J aL rfl) (U (cu 2 2 bX) (U (cu 0 3 bX) (U dB (U (b1 45 17 1) (U (cu 17 1 bX) (U (f' ((bX.arr 0 rfl).arr eH) kg kS) (U (aW.nI (j:=2) (n:=4) (e:=3) J J J ag jO (nm ((bX.arr 0 rfl).arr eH) (show n<au.length by omega)) aL J J J J) (U (im 2 ((bX.arr 0 rfl).arr eH) (f_ n) kz) (U (cu 0 4 bX) (U a' (U (aW.jL J J J J J J) aB)))))))))))) (cv (nr J J J J aj) aC) ?_ ae
   refine oP 2 [I cj,I fR,I (max fC (given (au.aD (n)).2.2.1 F 2 false)),I iN] (a6 au bT bU bV aJ xa av ie out dg jW F n dW i cj fR fC iN) Hg Hh (cF mY (.tuple ⟨[]⟩)) (bX.box 2 rfl) ?_;intro fN k3 gb ch w ae;have bP:=bX.gM 2 rfl (lR k3 gb);replace bP:=bP.qj;letI:=bE ae;refine cm (cn mF) [] [] aB aC ?_ ae;exact e3 ⟨fN,3,cj,fR,(max fC (given (au.aD (n)).2.2.1 F 2 false)),iN⟩ zi b7 (by exact⟨bP,by subst fb;obtain⟨_,_,ea,q1,aI,bS⟩:=aK;refine⟨aj,?_,?_,?_,?_⟩;all_goals first|(rw[aV aL];exact bS.trans (aV aL))|(rw[aP aL];exact ea.trans (aP aL))|(rw[aP aL];exact q1.trans (aP aL))|(rw[aP aL];rw[aI.trans (aV aL)];exact W6 (dT aY))⟩)
 ·replace ae:=Here.nQ (bc M (a6 au bT bU bV aJ xa av ie out dg jW F n dW i cj fR fC iN)) agh b7 ae
  by_cases lM:0<dW
  ·refine br hN vM (U (aW.kO (g:=ie) (o:=0) (j:=3) (n:=4) (e:=3) (sz:=1) J J J ag ag J J aL rfl) (U (cu 3 2 bX) (U (cu 0 3 bX) (U dB (U (b1 45 17 1) (U (cu 17 1 bX) (U (f' ((bX.arr 0 rfl).arr eH) kg kS) (U (aW.nI (j:=3) (n:=4) (e:=3) J J J ag jO (nm ((bX.arr 0 rfl).arr eH) (show n<au.length by omega)) aL J J J J) (U (im 3 ((bX.arr 0 rfl).arr eH) (f_ n) kz) (U (cu 0 4 bX) (U bf (U (aW.jL J J J J J J) aB)))))))))))) (cv (nr J J J J aj) aC) ?_ ae
   refine oP 3 [I cj,I fR,I fC,I (max iN (given (au.aD (n)).2.2.2 F 3 true))] (a6 au bT bU bV aJ xa av ie out dg jW F n dW i cj fR fC iN) agi Hj (cF nU (.tuple ⟨[]⟩)) (bX.box 2 rfl) ?_;intro fN k3 gb ch w ae;have bP:=bX.gM 2 rfl (lR k3 gb);replace bP:=bP.qj;letI:=bE ae;refine cm (cn nV) [] [] aB aC ?_ ae;exact e3 ⟨fN,4,cj,fR,fC,(max iN (given (au.aD (n)).2.2.2 F 3 true))⟩ zj b7 (by exact⟨bP,by subst fb;obtain⟨_,_,ea,q1,aI,bS⟩:=aK;refine⟨aj,?_,?_,?_,?_⟩;all_goals first|(rw[aP aL];exact ea.trans (aP aL))|(rw[aP aL];exact q1.trans (aP aL))|(rw[aP aL];exact aI.trans (aP aL))|(rw[aP aL];rw[bS.trans (aV aL)];exact W7 (gO aY))⟩)
  ·refine br hS sI (U (aW.kO (g:=ie) (o:=0) (j:=3) (n:=4) (e:=3) (sz:=1) J J J ag ag J J aL rfl) (U (cu 3 2 bX) (U (cu 0 3 bX) (U dB (U (b1 45 17 1) (U (cu 17 1 bX) (U (f' ((bX.arr 0 rfl).arr eH) kg kS) (U (aW.nI (j:=3) (n:=4) (e:=3) J J J ag jO (nm ((bX.arr 0 rfl).arr eH) (show n<au.length by omega)) aL J J J J) (U (im 3 ((bX.arr 0 rfl).arr eH) (f_ n) kz) (U (cu 0 4 bX) (U a' (U (aW.jL J J J J J J) aB)))))))))))) (cv (nr J J J J aj) aC) ?_ ae
   refine oP 3 [I cj,I fR,I fC,I (max iN (given (au.aD (n)).2.2.2 F 3 false))] (a6 au bT bU bV aJ xa av ie out dg jW F n dW i cj fR fC iN) Cy PX (cF mH (.tuple ⟨[]⟩)) (bX.box 2 rfl) ?_;intro fN k3 gb ch w ae;have bP:=bX.gM 2 rfl (lR k3 gb);replace bP:=bP.qj;letI:=bE ae;refine cm (cn mm) [] [] aB aC ?_ ae;exact e3 ⟨fN,4,cj,fR,fC,(max iN (given (au.aD (n)).2.2.2 F 3 false))⟩ zl b7 (by exact⟨bP,by subst fb;obtain⟨_,_,ea,q1,aI,bS⟩:=aK;refine⟨aj,?_,?_,?_,?_⟩;all_goals first|(rw[aP aL];exact ea.trans (aP aL))|(rw[aP aL];exact q1.trans (aP aL))|(rw[aP aL];exact aI.trans (aP aL))|(rw[aP aL];rw[bS.trans (aV aL)];exact W7 (dT aY))⟩)
 ·replace ae:=Here.nQ (bc M (a6 au bT bU bV aJ xa av ie out dg jW F n dW i cj fR fC iN)) zm b7 ae
  refine br [] [] aB aC ?_ ae;refine j3 [] [] aB aC ?_;exact b2 zn λw2 bk=>(by obtain⟨_,_,ea,q1,aI,bS⟩:=aK;replace ea:=ea.trans (aP aj);replace q1:=q1.trans (aP aj);replace aI:=aI.trans (aP aj);replace bS:=bS.trans (aP aj);subst ea q1 aI bS;exact⟨(),rfl,((bX.pick [0,1,2,3,4] rfl).done bk)⟩)
end Xp
end a1
namespace a1
namespace PY
noncomputable def body:Code:=(Tryd.f59.body).getD .skip
def N:Nat:=77
def aZ:c6:={sl:=bm [(2,.func (.func 88) ⟨[]⟩ ⟨[2,3,4]⟩),(1,1),(0,0)],ms:=[],A:=start}
def bz:aU:=[(.dt 0,0),
 (.bQ 80 0 1,34),
 (.bQ 28 34 0,34),
 (.bh 25 34,.agg ⟨[14,15,16,17,18,19]⟩)]
def h2:dm:=[(84,[.agg ⟨[14,15,16,17,18,19]⟩,1],.tuple ⟨[.agg ⟨[35,36,37]⟩,38]⟩)]
def bt:List bG:=[⟨.cells [35,36,37],23,0⟩]
def cl:ax:=bm [(24,39),(6,bj 0 0),(2,.func (.func 88) ⟨[]⟩ ⟨[2,3,4]⟩),(0,0)]
abbrev fG:=at' 77 bz h2 body aZ
theorem b4:mi cl bt fG=some [(0,0),(2,2),(3,3),(4,4),(I 0,39),(35,35),(36,36),(37,37)]:=ag
def bY:Code:=nJ body [1,1,4]
def fJ:List hj:=lp body [1,1,4] []
theorem bs:lP fG=bY:=ag
theorem cw:gi fG=fJ:=ag
def cp:aU:=[(.bin .lss 3 39 (I 3),.bool true)]
def e7:List bG:=[⟨.cells [35,36,37],23,0⟩]
def kj:ax:=bm [(28,44),(27,.agg ⟨[I (-1),I 1]⟩),(24,39),(8,39),(6,bj 0 0),(2,.func (.func 88) ⟨[]⟩ ⟨[2,3,4]⟩),(0,0)]
abbrev qn:=at' 77 cp [] bY (aN cl bt)
theorem dD:mi kj e7 qn=some [(0,0),(2,2),(3,3),(4,4),(39,39),(39,39),(I 0,44),(35,35),(36,36),(37,37)]:=ag
def gD:Code:=nJ bY [1,1,0,4,1,1,4]
def sJ:List hj:=lp bY [1,1,0,4,1,1,4] []
theorem hq:lP qn=gD:=ag
theorem ka:gi qn=sJ:=ag
def oq:ax:=bm [(28,I 0),(27,.agg ⟨[I (-1),I 1]⟩),(24,39),(8,39),(6,bj 0 0),(2,.func (.func 88) ⟨[]⟩ ⟨[2,3,4]⟩),(0,0)]
theorem gy:bF (aN kj e7) oq e7=some [(0,0),(2,2),(3,3),(4,4),(39,39),(39,39),(44,I 0),(35,35),(36,36),(37,37)]:=ag
def dh:aU:=[(.bin .eql 3 39 (I 0),.bool true),
 (.bin .add 3 35 (I (-1)),49),
 (.dt 0,0),
 (.bQ 80 0 1,34),
 (.bQ 28 34 0,34),
 (.bh 25 34,.agg ⟨[14,15,16,17,18,19]⟩)]
def kG:List bG:=[⟨.cells [al 35,al 36,al 37],23,0⟩]
def kH:ax:=bm [(58,.agg ⟨[al 54,al 55,al 56]⟩),(57,.agg ⟨[al 14,al 15,al 16,al 17,al 18,al 19]⟩),(28,al 53),(27,.agg ⟨[I (-1),I 1]⟩),(24,al 39),(12,al 52),(8,al 39),(6,bj 0 0),(2,.func (.func 88) ⟨[]⟩ ⟨[al 2,al 3,al 4]⟩),(0,al 0)]
def kI:ct:=(gD,[1,1,0,4,1,1,1,0],6)
def d':aU:=[(.bin .geq 3 57 (I 0),.bool true),
 (.dt 0,0),
 (.bQ 80 0 3,58),
 (.bh 30 58,6),
 (.cV 30 6 57,59),
 (.bh 4 59,60),
 (.cz 60,.bool true)]
def kb:dm:=[(55,[.agg ⟨[14,15,16,17,18,19]⟩,.agg ⟨[54,55,56]⟩],57)]
theorem iC:eW (bD 77 d' kb kI (aN kH kG))=some (88,[57,52,2,3,4]):=ag
abbrev eT:=bD 77 d' kb kI (aN kH kG)
def cY:List bG:=[⟨.cells [35,36,37],23,0⟩]
def c8:ax:=bm [(28,53),(27,.agg ⟨[I (-1),I 1]⟩),(24,39),(8,39),(6,bj 0 0),(2,.func (.func 88) ⟨[]⟩ ⟨[2,3,4]⟩),(0,0)]
def c0:ax:=dS 77 c8 74 (.tuple ⟨[]⟩)
theorem k2:bF (hQ Tryd.prog eT) c8 cY=some [(0,0),(2,2),(3,3),(4,4),(39,39),(39,39),(53,53),(35,35),(36,36),(37,37)]:=ag
def c5:ct:=(gD,[1,1,0,4,1,1,1,1,1,2],4)
def eS:aU:=[(.bin .add 3 53 (I 1),61)]
theorem pg:eV kj e7 (bD 77 eS [] c5 (aN c0 cY))=some [(0,0),(2,2),(3,3),(4,4),(39,39),(39,39),(61,44),(35,35),(36,36),(37,37)]:=ag
def fq:aU:=[(.bin .geq 3 57 (I 0),.bool true),
 (.dt 0,0),
 (.bQ 80 0 3,58),
 (.bh 30 58,6),
 (.cV 30 6 57,59),
 (.bh 4 59,60),
 (.cz 60,.bool false),
 (.bin .add 3 53 (I 1),61)]
def qN:dm:=[(55,[.agg ⟨[14,15,16,17,18,19]⟩,.agg ⟨[54,55,56]⟩],57)]
theorem sK:eV kj e7 (bD 77 fq qN kI (aN kH kG))=some [(0,0),(2,2),(3,3),(4,4),(39,39),(39,39),(61,44),(35,35),(36,36),(37,37)]:=ag
def hs:aU:=[(.bin .add 3 53 (I 1),61)]
def mZ:dm:=[(55,[.agg ⟨[14,15,16,17,18,19]⟩,.agg ⟨[54,55,56]⟩],I (-1))]
theorem ru:eV kj e7 (bD 77 hs mZ kI (aN kH kG))=some [(0,0),(2,2),(3,3),(4,4),(39,39),(39,39),(61,44),(35,35),(36,36),(37,37)]:=ag
theorem lW:qi (at' 77 dh [] gD (aN oq e7))=oM kI:=ag
theorem om:bF (b0 (at' 77 dh [] gD (aN oq e7))) kH kG=some [(0,0),(14,14),(15,15),(16,16),(17,17),(18,18),(19,19),(2,2),(3,3),(4,4),(39,39),(39,39),(I 0,52),(I 0,53),(49,54),(36,55),(37,56),(35,35),(36,36),(37,37)]:=ag
def hN:aU:=[(.bin .eql 3 39 (I 0),.bool false),
 (.bin .eql 3 39 (I 1),.bool true),
 (.bin .add 3 36 (I (-1)),50),
 (.dt 0,0),
 (.bQ 80 0 1,34),
 (.bQ 28 34 0,34),
 (.bh 25 34,.agg ⟨[14,15,16,17,18,19]⟩)]
theorem nt:qi (at' 77 hN [] gD (aN oq e7))=oM kI:=ag
theorem ot:bF (b0 (at' 77 hN [] gD (aN oq e7))) kH kG=some [(0,0),(14,14),(15,15),(16,16),(17,17),(18,18),(19,19),(2,2),(3,3),(4,4),(39,39),(39,39),(I 0,52),(I 0,53),(35,54),(50,55),(37,56),(35,35),(36,36),(37,37)]:=ag
def hS:aU:=[(.bin .eql 3 39 (I 0),.bool false),
 (.bin .eql 3 39 (I 1),.bool false),
 (.bin .add 3 37 (I (-1)),51),
 (.dt 0,0),
 (.bQ 80 0 1,34),
 (.bQ 28 34 0,34),
 (.bh 25 34,.agg ⟨[14,15,16,17,18,19]⟩)]
theorem uU:qi (at' 77 hS [] gD (aN oq e7))=oM kI:=ag
theorem sL:bF (b0 (at' 77 hS [] gD (aN oq e7))) kH kG=some [(0,0),(14,14),(15,15),(16,16),(17,17),(18,18),(19,19),(2,2),(3,3),(4,4),(39,39),(39,39),(I (-1),52),(I 0,53),(35,54),(36,55),(51,56),(35,35),(36,36),(37,37)]:=ag
def lu:ax:=bm [(28,I 1),(27,.agg ⟨[I (-1),I 1]⟩),(24,39),(8,39),(6,bj 0 0),(2,.func (.func 88) ⟨[]⟩ ⟨[2,3,4]⟩),(0,0)]
theorem sF:bF (aN kj e7) lu e7=some [(0,0),(2,2),(3,3),(4,4),(39,39),(39,39),(44,I 1),(35,35),(36,36),(37,37)]:=ag
def jT:aU:=[(.bin .eql 3 39 (I 0),.bool true),
 (.bin .add 3 35 (I 1),66),
 (.dt 0,0),
 (.bQ 80 0 1,34),
 (.bQ 28 34 0,34),
 (.bh 25 34,.agg ⟨[14,15,16,17,18,19]⟩)]
theorem ql:qi (at' 77 jT [] gD (aN lu e7))=oM kI:=ag
theorem pd:bF (b0 (at' 77 jT [] gD (aN lu e7))) kH kG=some [(0,0),(14,14),(15,15),(16,16),(17,17),(18,18),(19,19),(2,2),(3,3),(4,4),(39,39),(39,39),(I 0,52),(I 1,53),(66,54),(36,55),(37,56),(35,35),(36,36),(37,37)]:=ag
def jx:aU:=[(.bin .eql 3 39 (I 0),.bool false),
 (.bin .eql 3 39 (I 1),.bool true),
 (.bin .add 3 36 (I 1),67),
 (.dt 0,0),
 (.bQ 80 0 1,34),
 (.bQ 28 34 0,34),
 (.bh 25 34,.agg ⟨[14,15,16,17,18,19]⟩)]
theorem qm:qi (at' 77 jx [] gD (aN lu e7))=oM kI:=ag
theorem sG:bF (b0 (at' 77 jx [] gD (aN lu e7))) kH kG=some [(0,0),(14,14),(15,15),(16,16),(17,17),(18,18),(19,19),(2,2),(3,3),(4,4),(39,39),(39,39),(I 0,52),(I 1,53),(35,54),(67,55),(37,56),(35,35),(36,36),(37,37)]:=ag
def kD:aU:=[(.bin .eql 3 39 (I 0),.bool false),
 (.bin .eql 3 39 (I 1),.bool false),
 (.bin .add 3 37 (I 1),68),
 (.dt 0,0),
 (.bQ 80 0 1,34),
 (.bQ 28 34 0,34),
 (.bh 25 34,.agg ⟨[14,15,16,17,18,19]⟩)]
theorem uM:qi (at' 77 kD [] gD (aN lu e7))=oM kI:=ag
theorem sM:bF (b0 (at' 77 kD [] gD (aN lu e7))) kH kG=some [(0,0),(14,14),(15,15),(16,16),(17,17),(18,18),(19,19),(2,2),(3,3),(4,4),(39,39),(39,39),(I 1,52),(I 1,53),(35,54),(36,55),(68,56),(35,35),(36,36),(37,37)]:=ag
def uV:ax:=bm [(28,I 2),(27,.agg ⟨[I (-1),I 1]⟩),(24,39),(8,39),(6,bj 0 0),(2,.func (.func 88) ⟨[]⟩ ⟨[2,3,4]⟩),(0,0)]
theorem ry:bF (aN kj e7) uV e7=some [(0,0),(2,2),(3,3),(4,4),(39,39),(39,39),(44,I 2),(35,35),(36,36),(37,37)]:=ag
def lX:aU:=[(.bin .add 3 39 (I 1),69)]
theorem pe:eV cl bt (jf 77 lX [] sJ (at' 77 [] [] gD (aN uV e7)))=some [(0,0),(2,2),(3,3),(4,4),(69,39),(35,35),(36,36),(37,37)]:=ag
def nu:aU:=[(.bin .lss 3 39 (I 3),.bool false)]
theorem uT:fu Tryd.prog Tryd.f59 (jf 77 [] [] fJ (at' 77 nu [] bY (aN cl bt)))=some (.tuple ⟨[]⟩):=ag
@[reducible] noncomputable def a6 (au:List cc) (bT:bH) (bU bV:Nat) (aX:List Bool) (cP:bH) (cQ cR aJ:Nat) (xa:Nat->ad) (b:cx) (k4:ad) (dA:ad) (r0:ad) (av:Nat->ad) (ie:Nat) (out:cc) (dg jW:Nat) (F:Int) (k:Nat) (sN:Int:=0) (sO:Int:=0) (sP:Int:=0) (sQ:Int:=0) (bO:Nat:=0) (lY:Int:=0) (lZ:Int:=0) (l0:Int:=0) (l2:Int:=0) (t1:Nat:=0) (iI:Nat:=0):List ad:=[bj aJ 0,I ((k:Nat):Int),bj ie 0,bj dg 0,bj jW 0,.slice bT bU bV,.slice cP cQ cR,xa 0,xa 1,xa 2,xa 3,xa 4,xa 5,xa 6,I b.1,I b.2.1,I b.2.2.1,I b.2.2.2.1,I b.2.2.2.2.1,I b.2.2.2.2.2,k4,dA,r0,av 0,av 1,av 2,av 3,av 4,av 5,I out.1,I out.2.1,I out.2.2.1,I out.2.2.2,I F,bj aJ 7,I (e_ b ((k:Nat):Int)).1,I (e_ b ((k:Nat):Int)).2.1,I (e_ b ((k:Nat):Int)).2.2,.bool (decide (0<=((k:Nat):Int)/\((k:Nat):Int)<gj b)),I ((bO:Nat):Int),I sN,I sO,I sP,I sQ,I ((t1:Nat):Int),I lY,I lZ,I l0,I l2,I ((e_ b ((k:Nat):Int)).1+(-1)),I ((e_ b ((k:Nat):Int)).2.1+(-1)),I ((e_ b ((k:Nat):Int)).2.2+(-1)),I (mU (2*bO+t1)),I ((iI:Nat):Int),I (fw b k (2*bO+t1)).1,I (fw b k (2*bO+t1)).2.1,I (fw b k (2*bO+t1)).2.2,I ((cE b (fw b k (2*bO+t1)):Nat):Int),bj aJ 15,fM (.slice cP cQ cR) (cE b (fw b k (2*bO+t1))*1),.bool (aX.aD (cE b (fw b k (2*bO+t1)))),I ((iI+1:Nat):Int),I (pO F (lY,lZ,l0,l2) (au.aD (cE b (fw b k (2*bO+t1)))) (mU (2*bO+t1))).1,I (pO F (lY,lZ,l0,l2) (au.aD (cE b (fw b k (2*bO+t1)))) (mU (2*bO+t1))).2.1,I (pO F (lY,lZ,l0,l2) (au.aD (cE b (fw b k (2*bO+t1)))) (mU (2*bO+t1))).2.2.1,I (pO F (lY,lZ,l0,l2) (au.aD (cE b (fw b k (2*bO+t1)))) (mU (2*bO+t1))).2.2.2,I ((e_ b ((k:Nat):Int)).1+1),I ((e_ b ((k:Nat):Int)).2.1+1),I ((e_ b ((k:Nat):Int)).2.2+1),I ((bO+1:Nat):Int)]
theorem any (W:aG) {au:List cc} {bT:bH} {bU bV:Nat} {aX:List Bool} {cP:bH} {cQ cR aJ:Nat} {xa:Nat->ad} {b:cx} {k4:ad} {dA:ad} {r0:ad} {av:Nat->ad} {ie:Nat} {out:cc} {dg jW:Nat} {F:Int} (gm:dO (a7 W) [mj bT bU bV au,h1 cP cQ cR aX,cb aJ 80 [xa 0,xa 1,xa 2,xa 3,xa 4,xa 5,xa 6,I b.1,I b.2.1,I b.2.2.1,I b.2.2.2.1,I b.2.2.2.2.1,I b.2.2.2.2.2,k4,dA,.slice cP cQ cR,r0,.slice bT bU bV,av 0,av 1,av 2,av 3,av 4,av 5],cb ie 85 [I out.1,I out.2.1,I out.2.2.1,I out.2.2.2],cb dg 34 [bj aJ 0],cb jW 3 [I F]]) (k:Nat) (ai:okB b) (ao:k<aX.length) (az:aX.length=(gj b).toNat) (py:au.length=aX.length) (jZ:∀n,n<aX.length->0<=(au.aD n).1/\(au.aD n).1<=15/\0<=(au.aD n).2.1/\(au.aD n).2.1<=15/\0<=(au.aD n).2.2.1/\(au.aD n).2.2.1<=15/\0<=(au.aD n).2.2.2/\(au.aD n).2.2.2<=15) (gg:1<=F/\F<=16):Calls Tryd.prog 59 #[bj aJ 0,I ((k:Nat):Int),.func (.func 88) #[] #[bj ie 0,bj dg 0,bj jW 0]] W λe w'=>(∃y:Unit,e= .returned (.tuple #[])/\dw (a7 W) [mj bT bU bV au,h1 cP cQ cR aX,cb aJ 80 [xa 0,xa 1,xa 2,xa 3,xa 4,xa 5,xa 6,I b.1,I b.2.1,I b.2.2.1,I b.2.2.2.1,I b.2.2.2.2.1,I b.2.2.2.2.2,k4,dA,.slice cP cQ cR,r0,.slice bT bU bV,av 0,av 1,av 2,av 3,av 4,av 5],cb ie 85 [I out.1,I out.2.1,I out.2.2.1,I out.2.2.2],cb dg 34 [bj aJ 0],cb jW 3 [I F]] (a7 w') [mj bT bU bV au,h1 cP cQ cR aX,cb aJ lF [xa 0,xa 1,xa 2,xa 3,xa 4,xa 5,xa 6,I b.1,I b.2.1,I b.2.2.1,I b.2.2.2.1,I b.2.2.2.2.1,I b.2.2.2.2.2,k4,dA,.slice cP cQ cR,r0,.slice bT bU bV,av 0,av 1,av 2,av 3,av 4,av 5],cb ie oK (kh (ix F au (eE b aX k 6) out)),cb dg x8 [bj aJ 0],cb jW 3 [I F]])/\cO 0 W w':=by
 refine lg (a6 au bT bU bV aX cP cQ cR aJ xa b k4 dA r0 av ie out dg jW F k) body aZ N [al 0,al 1,.func (.func 88) ⟨[]⟩ ⟨[al 2,al 3,al 4]⟩] Tryd.func59 λa ae=> ?_
 letI:=bE ae;have a_:=cC.start W _ gm;have w_:=K5 ao az;have Cf:=K7 ai (((k:Nat):Int));refine br bz h2 (U dB (U (b1 28 7 7) (U (b1 25 0 6) (U (j_ 7 6 2 a_) aB)))) (cv (Hc J J J J ai) aC) ?_ ae;refine nP (fW:=(λ(⟨hr,sN,sO,sP,sQ,bO⟩:Mem×Int×Int×Int×Int×Nat)=>bc hr (a6 au bT bU bV aX cP cQ cR aJ xa b k4 dA r0 av ie out dg jW F k sN sO sP sQ bO))) (λ(⟨hr,sN,sO,sP,sQ,bO⟩:Mem×Int×Int×Int×Int×Nat)=>cC 0 (a7 W) a_.mL hr [mj bT bU bV au,h1 cP cQ cR aX,cb aJ 80 [xa 0,xa 1,xa 2,xa 3,xa 4,xa 5,xa 6,I b.1,I b.2.1,I b.2.2.1,I b.2.2.2.1,I b.2.2.2.2.1,I b.2.2.2.2.2,k4,dA,.slice cP cQ cR,r0,.slice bT bU bV,av 0,av 1,av 2,av 3,av 4,av 5],cb ie 85 [I sN,I sO,I sP,I sQ],cb dg 34 [bj aJ 0],cb jW 3 [I F]]/\(bO<=3/\AP F au (eE b aX k (2*bO)) out sN sO sP sQ)) (λ(⟨hr,sN,sO,sP,sQ,bO⟩:Mem×Int×Int×Int×Int×Nat)=>3-bO) ⟨(a7 W),out.1,out.2.1,out.2.2.1,out.2.2.2,0⟩ b4 b7 (λ_ _ h=>h) (by exact⟨(a_.pick [0,1,2,3,4,5] rfl),by exact⟨aj,age⟩⟩) ?_;intro⟨hr,sN,sO,sP,sQ,bO⟩ aK ch w ae;letI:=bE ae;refine nK bs cw ?_;have bX:=aK.1;have oI:=aK.2.1;have q4:=aK.2.2;by_cases lM:((bO:Nat):Int)<3
 ·refine br cp [] (U bf aB) aC ?_ ae
  refine nP (fW:=(λ(⟨fU,lY,lZ,l0,l2,t1⟩:Mem×Int×Int×Int×Int×Nat)=>bc fU (a6 au bT bU bV aX cP cQ cR aJ xa b k4 dA r0 av ie out dg jW F k sN sO sP sQ bO lY lZ l0 l2 t1))) (λ(⟨fU,lY,lZ,l0,l2,t1⟩:Mem×Int×Int×Int×Int×Nat)=>cC 0 (a7 W) a_.mL fU [mj bT bU bV au,h1 cP cQ cR aX,cb aJ 80 [xa 0,xa 1,xa 2,xa 3,xa 4,xa 5,xa 6,I b.1,I b.2.1,I b.2.2.1,I b.2.2.2.1,I b.2.2.2.2.1,I b.2.2.2.2.2,k4,dA,.slice cP cQ cR,r0,.slice bT bU bV,av 0,av 1,av 2,av 3,av 4,av 5],cb ie 85 [I lY,I lZ,I l0,I l2],cb dg 34 [bj aJ 0],cb jW 3 [I F]]/\(t1<=2/\bO<3/\AP F au (eE b aX k (2*bO+t1)) out lY lZ l0 l2)) (λ(⟨fU,lY,lZ,l0,l2,t1⟩:Mem×Int×Int×Int×Int×Nat)=>2-t1) ⟨hr,sN,sO,sP,sQ,0⟩ dD b7 (λ_ _ h=>h) (by exact⟨(bX.pick [0,1,2,3,4,5] rfl),by exact⟨aj,aj,q4⟩⟩) ?_;intro⟨fU,lY,lZ,l0,l2,t1⟩ aK ch w ae;letI:=bE ae;refine nK hq ka ?_;have gN:=aK.1;have Xq:=aK.2.1;have Xr:=aK.2.2.1;have mf:=aK.2.2.2;refine PC (N:=N) (B:=0) (w0:=W) (λ(iI:Nat)=>bc fU (a6 au bT bU bV aX cP cQ cR aJ xa b k4 dA r0 av ie out dg jW F k sN sO sP sQ bO lY lZ l0 l2 t1 iI)) (λ(iI:Nat)=>iI=t1/\t1<2) kH kG kI ?_ λpS=> ?_
  ·intro iI aK ch w ae
   letI:=bE ae;have Xs:cE b (fw b k (2*bO+t1))<aX.length:=K6 ao az _;have Xt:=aK.1;have Xu:=aK.2;by_cases jq:fz (fw b k (2*bO+t1)) b
   ·by_cases c9:(aX.aD (cE b (fw b k (2*bO+t1))))=true
    ·refine zf d' kb (U bf (U dB (U (b1 30 15 1) (U (cu 15 2 gN) (U (f' ((gN.arr 1 rfl).arr h9) kA rk) (U (im 0 ((gN.arr 1 rfl).arr h9) (f_ (cE b (fw b k (2*bO+t1)))) vy) (U (yY J J c9) aB))))))) (cv (ye J J J J ai jq) aC) ?_ ae
     refine e5 (Y:=Unit) (bC:=λaF=>(a6 au bT bU bV aX cP cQ cR aJ xa b k4 dA r0 av ie out dg jW F k sN sO sP sQ bO lY lZ l0 l2 t1 iI)) gN [0,2,3,4,5] (λ_=>[_,_,cb _ _ [I (pO F (lY,lZ,l0,l2) (au.aD (cE b (fw b k (2*bO+t1)))) (mU (2*bO+t1))).1,I (pO F (lY,lZ,l0,l2) (au.aD (cE b (fw b k (2*bO+t1)))) (mU (2*bO+t1))).2.1,I (pO F (lY,lZ,l0,l2) (au.aD (cE b (fw b k (2*bO+t1)))) (mU (2*bO+t1))).2.2.1,I (pO F (lY,lZ,l0,l2) (au.aD (cE b (fw b k (2*bO+t1)))) (mU (2*bO+t1))).2.2.2],_,_]) (λ_=>[]) iC k2 (cF c0 (.tuple ⟨[]⟩)) (ez:=λw hw cM ay=>Xp.any (xa:=h0 [xa 0,xa 1,xa 2,xa 3,xa 4,xa 5,xa 6,I b.1,I b.2.1,I b.2.2.1,I b.2.2.2.1,I b.2.2.2.2.1,I b.2.2.2.2.2,k4,dA,.slice cP cQ cR,r0] 0) (av:=av) (out:=(lY,lZ,l0,l2)) (F:=F) _ ay (cE b (fw b k (2*bO+t1))) (mU (2*bO+t1)) aj (jZ _ aj) gg) (rest:= ?_);intro fN _ bP ch w ae;replace bP:=bP.yc;letI:=bE ae;refine cm (cn c5) eS [] (U gU aB) aC ?_ ae;exact e3 ⟨fN,(pO F (lY,lZ,l0,l2) (au.aD (cE b (fw b k (2*bO+t1)))) (mU (2*bO+t1))).1,(pO F (lY,lZ,l0,l2) (au.aD (cE b (fw b k (2*bO+t1)))) (mU (2*bO+t1))).2.1,(pO F (lY,lZ,l0,l2) (au.aD (cE b (fw b k (2*bO+t1)))) (mU (2*bO+t1))).2.2.1,(pO F (lY,lZ,l0,l2) (au.aD (cE b (fw b k (2*bO+t1)))) (mU (2*bO+t1))).2.2.2,iI+1⟩ pg b7 (by exact⟨bP,by obtain⟨dd,dM⟩:=aK;subst dd;exact⟨aj,aj,agf (j:=2*bO+iI) mf (PT (j:=2*bO+iI) ao az aj jq c9)⟩⟩)
    ·refine zf fq qN (U bf (U dB (U (b1 30 15 1) (U (cu 15 2 gN) (U (f' ((gN.arr 1 rfl).arr h9) kA rk) (U (im 0 ((gN.arr 1 rfl).arr h9) (f_ (cE b (fw b k (2*bO+t1)))) vy) (U (DZ J J c9) (U gU aB)))))))) (cv (ye J J J J ai jq) aC) ?_ ae
     exact e3 ⟨fU,lY,lZ,l0,l2,iI+1⟩ sK b7 (by exact⟨(gN.pick [0,1,2,3,4,5] rfl),by obtain⟨dd,dM⟩:=aK;subst dd;exact⟨aj,aj,Xo (j:=2*bO+iI) mf (PU (j:=2*bO+iI) ao az aj jq c9)⟩⟩)
   ·refine zf hs mZ (U gU aB) (cv (Hd J J J J ai jq) aC) ?_ ae
    exact e3 ⟨fU,lY,lZ,l0,l2,iI+1⟩ ru b7 (by exact⟨(gN.pick [0,1,2,3,4,5] rfl),by obtain⟨dd,dM⟩:=aK;subst dd;exact⟨aj,aj,Xo (j:=2*bO+iI) mf (PV (j:=2*bO+iI) ao az aj jq)⟩⟩)
  ·rcases(show t1=0\/t1=1\/t1=2 by omega) with l3|l3|l3
   ·replace ae:=Here.nQ (bc fU (a6 au bT bU bV aX cP cQ cR aJ xa b k4 dA r0 av ie out dg jW F k sN sO sP sQ bO lY lZ l0 l2 t1)) gy b7 ae
    by_cases ea:((bO:Nat):Int)=0
    ·refine br dh [] (U bf (U gU (U dB (U (b1 28 7 7) (U (b1 25 0 6) (U (j_ 7 6 2 gN) aB)))))) aC ?_ ae
     subst l3;rcases(show bO=0\/bO=1\/bO=2 by omega) with rfl|rfl|rfl<;>try (exfalso;omega)
     exact qM pS (0) lW om b7 (by exact⟨rfl,aj⟩)
    ·by_cases q1:((bO:Nat):Int)=1
     ·refine br hN [] (U a' (U bf (U gU (U dB (U (b1 28 7 7) (U (b1 25 0 6) (U (j_ 7 6 2 gN) aB))))))) aC ?_ ae
      subst l3;rcases(show bO=0\/bO=1\/bO=2 by omega) with rfl|rfl|rfl<;>try (exfalso;omega)
      exact qM pS (0) nt ot b7 (by exact⟨rfl,aj⟩)
     ·refine br hS [] (U a' (U a' (U gU (U dB (U (b1 28 7 7) (U (b1 25 0 6) (U (j_ 7 6 2 gN) aB))))))) aC ?_ ae
      subst l3;rcases(show bO=0\/bO=1\/bO=2 by omega) with rfl|rfl|rfl<;>try (exfalso;omega)
      exact qM pS (0) uU sL b7 (by exact⟨rfl,aj⟩)
   ·replace ae:=Here.nQ (bc fU (a6 au bT bU bV aX cP cQ cR aJ xa b k4 dA r0 av ie out dg jW F k sN sO sP sQ bO lY lZ l0 l2 t1)) sF b7 ae
    by_cases ea:((bO:Nat):Int)=0
    ·refine br jT [] (U bf (U gU (U dB (U (b1 28 7 7) (U (b1 25 0 6) (U (j_ 7 6 2 gN) aB)))))) aC ?_ ae
     subst l3;rcases(show bO=0\/bO=1\/bO=2 by omega) with rfl|rfl|rfl<;>try (exfalso;omega)
     exact qM pS (1) ql pd b7 (by exact⟨rfl,aj⟩)
    ·by_cases q1:((bO:Nat):Int)=1
     ·refine br jx [] (U a' (U bf (U gU (U dB (U (b1 28 7 7) (U (b1 25 0 6) (U (j_ 7 6 2 gN) aB))))))) aC ?_ ae
      subst l3;rcases(show bO=0\/bO=1\/bO=2 by omega) with rfl|rfl|rfl<;>try (exfalso;omega)
      exact qM pS (1) qm sG b7 (by exact⟨rfl,aj⟩)
     ·refine br kD [] (U a' (U a' (U gU (U dB (U (b1 28 7 7) (U (b1 25 0 6) (U (j_ 7 6 2 gN) aB))))))) aC ?_ ae
      subst l3;rcases(show bO=0\/bO=1\/bO=2 by omega) with rfl|rfl|rfl<;>try (exfalso;omega)
      exact qM pS (1) uM sM b7 (by exact⟨rfl,aj⟩)
   ·replace ae:=Here.nQ (bc fU (a6 au bT bU bV aX cP cQ cR aJ xa b k4 dA r0 av ie out dg jW F k sN sO sP sQ bO lY lZ l0 l2 t1)) ry b7 ae
    refine br [] [] aB aC ?_ ae;refine j3 lX [] (U gU aB) aC ?_;exact e3 ⟨fU,lY,lZ,l0,l2,bO+1⟩ pe b7 (by exact⟨(gN.pick [0,1,2,3,4,5] rfl),by obtain⟨_,_,jm⟩:=aK.2;subst l3;exact⟨aj,by rw[show 2*(bO+1)=2*bO+2 by omega];exact jm⟩⟩)
 ·refine br nu [] (U a' aB) aC ?_ ae
  refine j3 [] [] aB aC ?_;exact b2 uT λw2 bk=>(by obtain rfl:bO=3:=aj;have bs:=q4.1;rw[<-bs];exact⟨(),rfl,((bX.pick [0,1,2,3,4,5] rfl).done bk)⟩)
end PY
end a1
namespace a1
def cX (m:dx):Nat->Int
 |0=>m.2.2.2.2.2.1
 |1=>m.2.2.2.2.2.2.1
 |_=>m.2.2.2.2.2.2.2
def K8 (m:dx) (top:Prop) [Decidable top]:cc:=(cX m 0,cX m 1,cX m 2,if top then given 15 m.2.2.2.2.1 3 true else 0)
def sR (b:cx) (k:Nat):Prop:=(e_ b ((k:Nat):Int)).2.2=b.2.2.2.2.2-1
instance (b:cx) (k:Nat):Decidable (sR b k):=by unfold sR;infer_instance
def jH (table:List dx) (lit:List Int) (au:List cc) (aX:List Bool) (b:cx) (k:Nat):cc:=
 if aX.getD k default=true then ix (bA table (lit.getD k default)).2.2.2.2.1 au (eE b aX k 6) (K8 (bA table (lit.getD k default)) (sR b k)) else z4
theorem PZ {table:List dx} {lit:List Int} {au:List cc} {aX:List Bool} {b:cx} {k:Nat} (h:¬aX.getD k default=true):jH table lit au aX b k=z4:=aV h
theorem P0 {table:List dx} {lit:List Int} {au:List cc} {aX:List Bool} {b:cx} {k:Nat} (h:aX.getD k default=true) (bw:sR b k):jH table lit au aX b k=ix (bA table (lit.getD k default)).2.2.2.2.1 au (eE b aX k 6) (cX (bA table (lit.getD k default)) 0,cX (bA table (lit.getD k default)) 1,cX (bA table (lit.getD k default)) 2,given 15 (bA table (lit.getD k default)).2.2.2.2.1 3 true):=by
 unfold jH K8;rw[aP h,aP bw]
theorem P1 {table:List dx} {lit:List Int} {au:List cc} {aX:List Bool} {b:cx} {k:Nat} (h:aX.getD k default=true) (bw:¬sR b k):jH table lit au aX b k=ix (bA table (lit.getD k default)).2.2.2.2.1 au (eE b aX k 6) (cX (bA table (lit.getD k default)) 0,cX (bA table (lit.getD k default)) 1,cX (bA table (lit.getD k default)) 2,0):=by
 unfold jH K8;rw[aP h,aV bw]
end a1
namespace a1
namespace Xv
noncomputable def body:Code:=(Tryd.f65.body).getD .skip
def N:Nat:=67
def aZ:c6:={sl:=bm [(1,1),(0,0)],ms:=[],A:=start}
def bz:aU:=[(.cz (I 85),I 85),
 (.cz (I 34),I 34),
 (.cz (I 3),I 3)]
theorem b4:uC (at' 67 bz [] body aZ)=some (34,0):=ag
abbrev eT:=at' 67 bz [] body aZ
def cY:List bG:=[]
def c8:ax:=bm [(1,1)]
def c0:ax:=dS 67 c8 2 26
theorem bs:bF (b0 eT) c8 cY=some [(1,1)]:=ag
def c5:ct:=(body,[0],1)
theorem gy:Am (bD 67 bz [] c5 (aN c0 cY))=some 85:=ag
abbrev h':=bD 67 bz [] c5 {sl:=c0,ms:=[],A:=cS cY}
def fm:List bG:=[]
def fT:ax:=bm [(2,26),(1,1)]
def eO:ax:=dS 67 fT 4 27
theorem iC:bF (b0 h') fT fm=some [(1,1),(26,26)]:=ag
def ga:ct:=(body,[0],2)
theorem jS:Am (bD 67 bz [] ga (aN eO fm))=some 85:=ag
abbrev lr:=bD 67 bz [] ga {sl:=eO,ms:=[],A:=cS fm}
def hF:List bG:=[]
def iG:ax:=bm [(4,27),(2,26),(1,1)]
def fS:ax:=dS 67 iG 5 28
theorem pb:bF (b0 lr) iG hF=some [(1,1),(26,26),(27,27)]:=ag
def ht:ct:=(body,[1,0],1)
def cp:aU:=[(.cz (I 85),I 85),
 (.cz (I 34),I 34),
 (.cz (I 3),I 3),
 (.bh 34 26,0),
 (.dt 0,0),
 (.bQ 80 0 3,29),
 (.bh 30 29,5),
 (.cV 30 5 1,30),
 (.bh 4 30,31),
 (.un .not 31,.bool false),
 (.bQ 80 0 4,32),
 (.bh 29 32,4),
 (.bQ 80 0 1,33),
 (.bQ 28 33 1,34),
 (.bh 26 34,3),
 (.cV 26 3 1,35),
 (.bh 3 35,36),
 (.p4 85 28 none none none,40)]
def hR:dm:=[(87,[4,36],.agg ⟨[37,38,39]⟩)]
theorem lW:Cm 26 26 (bD 67 cp hR ht (aN fS hF))=some (40,.slice (some ⟨0,0,none⟩) 3 3):=ag
theorem om:B4 (b0 (bD 67 cp hR ht (aN fS hF))).A 1 (.slice (some ⟨0,0,none⟩) 3 3)=some [37,38,39]:=ag
abbrev pc:=bD 67 cp hR ht {sl:=fS,ms:=[],A:=cS hF}
def kC:List bG:=[]
def lH:ax:=bm [(5,28),(4,27),(2,26),(1,1)]
def jt:ax:=dS 67 lH 34 (I 3)
theorem nt:bF (b0 pc) lH kC=some [(1,1),(28,28),(26,26),(27,27)]:=ag
def k0:ct:=(body,[1,1,1,1,0],3)
def dh:aU:=[(.cz (I 85),I 85),
 (.cz (I 34),I 34),
 (.cz (I 3),I 3),
 (.bh 34 26,0)]
def lq:dm:=[(61,[0,1],41)]
theorem ql:Am (bD 67 dh lq k0 (aN jt kC))=some 3:=ag
abbrev oo:=bD 67 dh lq k0 {sl:=jt,ms:=[],A:=cS kC}
def lh:List bG:=[]
def ml:ax:=bm [(37,41),(5,28),(4,27),(2,26),(1,1)]
def kf:ax:=dS 67 ml 7 42
theorem pd:bF (b0 oo) ml lh=some [(1,1),(28,28),(41,41),(26,26),(27,27)]:=ag
def nS:ct:=(body,[1,1,1,1,1,0],4)
theorem ry:hc (bD 67 bz [] nS (aN kf lh))=some (3,42,41):=ag
abbrev uN:=bD 67 bz [] nS {sl:=kf,ms:=[],A:=cS lh}
def mX:List bG:=[]
def pP:ax:=bm [(7,42),(5,28),(4,27),(2,26),(1,1)]
def mY:ax:=match e8 67 pP none (.tuple ⟨[]⟩) with|some s=>s|none=> .nil
theorem pe:bF (b0 uN) pP mX=some [(1,1),(42,42),(28,28),(26,26),(27,27)]:=ag
def mF:ct:=(body,[1,1,1,1,1,0],5)
def d':aU:=[(.cz (I 85),I 85),
 (.cz (I 34),I 34),
 (.cz (I 3),I 3),
 (.bh 34 26,0),
 (.dt 0,0),
 (.bQ 80 0 1,33),
 (.bQ 28 33 0,33),
 (.bh 25 33,.agg ⟨[13,14,15,16,17,18]⟩),
 (.bQ 25 33 1,47),
 (.bQ 23 47 2,48),
 (.bh 3 48,18),
 (.bin .sub 3 18 (I 1),49),
 (.bin .eql 3 45 49,.bool true),
 (.bh 3 42,41),
 (.cV 85 28 (I 3),51)]
def kb:dm:=[(84,[.agg ⟨[13,14,15,16,17,18]⟩,1],.tuple ⟨[.agg ⟨[43,44,45]⟩,46]⟩),
 (62,[I 15,al 41,I 3,.bool true],al 50)]
theorem Cx:hc (bD 67 d' kb mF (aN mY mX))=some (3,51,50):=ag
abbrev uO:=bD 67 d' kb mF {sl:=mY,ms:=[],A:=cS mX}
def nT:List bG:=[]
def pQ:ax:=bm [(7,42),(5,28),(4,27),(2,26),(1,1)]
def nU:ax:=match e8 67 pQ none (.tuple ⟨[]⟩) with|some s=>s|none=> .nil
theorem G7:bF (b0 uO) pQ nT=some [(1,1),(42,42),(28,28),(26,26),(27,27)]:=ag
def nV:ct:=(body,[1,1,1,1,1,1,0,1,1,2],4)
def eS:aU:=[(.cz (I 85),I 85),
 (.cz (I 34),I 34),
 (.cz (I 3),I 3),
 (.bh 34 26,0)]
theorem PI:eW (bD 67 eS [] nV (aN nU nT))=some (59,[0,1,.func (.func 88) ⟨[]⟩ ⟨[28,26,42]⟩]):=ag
abbrev uP:=bD 67 eS [] nV {sl:=nU,ms:=[],A:=cS nT}
def mG:List bG:=[]
def pR:ax:=bm [(5,28),(4,27)]
def mH:ax:=dS 67 pR 65 (.tuple ⟨[]⟩)
theorem G8:bF (hQ Tryd.prog uP) pR mG=some [(28,28),(27,27)]:=ag
def mm:ct:=(body,[1,1,1,1,1,1,1,0],4)
def fq:aU:=[(.cz (I 85),I 85),
 (.cz (I 34),I 34),
 (.cz (I 3),I 3),
 (.bh 85 28,.agg ⟨[52,53,54,55]⟩)]
theorem P2:hc (bD 67 fq [] mm (aN mH mG))=some (85,27,(.agg ⟨[52,53,54,55]⟩)):=ag
abbrev zq:=bD 67 fq [] mm {sl:=mH,ms:=[],A:=cS mG}
def sS:List bG:=[]
def tO:ax:=bm [(4,27)]
def sT:ax:=match e8 67 tO none (.tuple ⟨[]⟩) with|some s=>s|none=> .nil
theorem G9:bF (b0 zq) tO sS=some [(27,27)]:=ag
def sU:ct:=(body,[1,1,1,1,1,1,1,1,0],2)
theorem PX:endCell Tryd.f65 (bD 67 bz [] sU (aN sT sS))=some (85,27):=ag
def hs:aU:=[(.cz (I 85),I 85),
 (.cz (I 34),I 34),
 (.cz (I 3),I 3),
 (.bh 34 26,0),
 (.dt 0,0),
 (.bQ 80 0 1,33),
 (.bQ 28 33 0,33),
 (.bh 25 33,.agg ⟨[13,14,15,16,17,18]⟩),
 (.bQ 25 33 1,47),
 (.bQ 23 47 2,48),
 (.bh 3 48,18),
 (.bin .sub 3 18 (I 1),49),
 (.bin .eql 3 45 49,.bool false)]
def mZ:dm:=[(84,[.agg ⟨[13,14,15,16,17,18]⟩,1],.tuple ⟨[.agg ⟨[43,44,45]⟩,46]⟩)]
theorem agj:eW (bD 67 hs mZ mF (aN mY mX))=some (59,[0,1,.func (.func 88) ⟨[]⟩ ⟨[28,26,42]⟩]):=ag
abbrev zs:=bD 67 hs mZ mF {sl:=mY,ms:=[],A:=cS mX}
def sV:List bG:=[]
def tP:ax:=bm [(5,28),(4,27)]
def r1:ax:=dS 67 tP 65 (.tuple ⟨[]⟩)
theorem zk:bF (hQ Tryd.prog zs) tP sV=some [(28,28),(27,27)]:=ag
def sW:ct:=(body,[1,1,1,1,1,1,1,0],4)
def hN:aU:=[(.cz (I 85),I 85),
 (.cz (I 34),I 34),
 (.cz (I 3),I 3),
 (.bh 85 28,.agg ⟨[56,57,58,59]⟩)]
theorem P3:hc (bD 67 hN [] sW (aN r1 sV))=some (85,27,(.agg ⟨[56,57,58,59]⟩)):=ag
abbrev vN:=bD 67 hN [] sW {sl:=r1,ms:=[],A:=cS sV}
def pT:List bG:=[]
def sX:ax:=bm [(4,27)]
def pU:ax:=match e8 67 sX none (.tuple ⟨[]⟩) with|some s=>s|none=> .nil
theorem P4:bF (b0 vN) sX pT=some [(27,27)]:=ag
def rz:ct:=(body,[1,1,1,1,1,1,1,1,0],2)
theorem Hk:endCell Tryd.f65 (bD 67 bz [] rz (aN pU pT))=some (85,27):=ag
def hS:aU:=[(.cz (I 85),I 85),
 (.cz (I 34),I 34),
 (.cz (I 3),I 3),
 (.bh 34 26,0),
 (.dt 0,0),
 (.bQ 80 0 3,29),
 (.bh 30 29,5),
 (.cV 30 5 1,30),
 (.bh 4 30,31),
 (.un .not 31,.bool true),
 (.bh 85 28,.agg ⟨[I 0,I 0,I 0,I 0]⟩)]
theorem Hl:hc (bD 67 hS [] ht (aN fS hF))=some (85,27,(.agg ⟨[I 0,I 0,I 0,I 0]⟩)):=ag
abbrev zt:=bD 67 hS [] ht {sl:=fS,ms:=[],A:=cS hF}
def sY:List bG:=[]
def tQ:ax:=bm [(5,28),(4,27),(2,26),(1,1)]
def sZ:ax:=match e8 67 tQ none (.tuple ⟨[]⟩) with|some s=>s|none=> .nil
theorem Hm:bF (b0 zt) tQ sY=some [(1,1),(28,28),(26,26),(27,27)]:=ag
def s0:ct:=(body,[1,1,0,1,2,0],2)
theorem Hn:endCell Tryd.f65 (bD 67 bz [] s0 (aN sZ sY))=some (85,27):=ag
@[reducible] noncomputable def a6 (au:List cc) (bT:bH) (bU bV:Nat) (lit:List Int) (dn:bH) (dp dq:Nat) (table:List dx) (cq:bH) (du cr:Nat) (aX:List Bool) (cP:bH) (cQ cR aJ:Nat) (xa:Nat->ad) (b:cx) (dA:ad) (av:Nat->ad) (k:Nat) (cJ:Nat:=0) (g1:Nat:=0) (g2:Nat:=0) (g4:Nat:=0):List ad:=[bj aJ 0,I ((k:Nat):Int),.slice bT bU bV,.slice dn dp dq,.slice cq du cr,.slice cP cQ cR,xa 0,xa 1,xa 2,xa 3,xa 4,xa 5,xa 6,I b.1,I b.2.1,I b.2.2.1,I b.2.2.2.1,I b.2.2.2.2.1,I b.2.2.2.2.2,dA,av 0,av 1,av 2,av 3,av 4,av 5,bj cJ 0,bj g1 0,bj g2 0,bj aJ 15,fM (.slice cP cQ cR) (k*1),.bool (aX.aD (k)),bj aJ 16,bj aJ 7,bj aJ 13,fM (.slice dn dp dq) (k*1),I (lit.aD (k)),I (cX (bA table (lit.aD k)) 0),I (cX (bA table (lit.aD k)) 1),I (cX (bA table (lit.aD k)) 2),.slice (some ⟨g2,0,none⟩) 4 4,I (bA table (lit.aD k)).2.2.2.2.1,bj g4 0,I (e_ b ((k:Nat):Int)).1,I (e_ b ((k:Nat):Int)).2.1,I (e_ b ((k:Nat):Int)).2.2,.bool (decide (0<=((k:Nat):Int)/\((k:Nat):Int)<gj b)),bj aJ 10,bj aJ 12,I (b.2.2.2.2.2-1),I (given 15 (bA table (lit.aD k)).2.2.2.2.1 3 true),bj g2 3,I (ix (bA table (lit.aD k)).2.2.2.2.1 au (eE b aX k 6) ((cX (bA table (lit.aD k)) 0),(cX (bA table (lit.aD k)) 1),(cX (bA table (lit.aD k)) 2),(given 15 (bA table (lit.aD k)).2.2.2.2.1 3 true))).1,I (ix (bA table (lit.aD k)).2.2.2.2.1 au (eE b aX k 6) ((cX (bA table (lit.aD k)) 0),(cX (bA table (lit.aD k)) 1),(cX (bA table (lit.aD k)) 2),(given 15 (bA table (lit.aD k)).2.2.2.2.1 3 true))).2.1,I (ix (bA table (lit.aD k)).2.2.2.2.1 au (eE b aX k 6) ((cX (bA table (lit.aD k)) 0),(cX (bA table (lit.aD k)) 1),(cX (bA table (lit.aD k)) 2),(given 15 (bA table (lit.aD k)).2.2.2.2.1 3 true))).2.2.1,I (ix (bA table (lit.aD k)).2.2.2.2.1 au (eE b aX k 6) ((cX (bA table (lit.aD k)) 0),(cX (bA table (lit.aD k)) 1),(cX (bA table (lit.aD k)) 2),(given 15 (bA table (lit.aD k)).2.2.2.2.1 3 true))).2.2.2,I (ix (bA table (lit.aD k)).2.2.2.2.1 au (eE b aX k 6) ((cX (bA table (lit.aD k)) 0),(cX (bA table (lit.aD k)) 1),(cX (bA table (lit.aD k)) 2),0)).1,I (ix (bA table (lit.aD k)).2.2.2.2.1 au (eE b aX k 6) ((cX (bA table (lit.aD k)) 0),(cX (bA table (lit.aD k)) 1),(cX (bA table (lit.aD k)) 2),0)).2.1,I (ix (bA table (lit.aD k)).2.2.2.2.1 au (eE b aX k 6) ((cX (bA table (lit.aD k)) 0),(cX (bA table (lit.aD k)) 1),(cX (bA table (lit.aD k)) 2),0)).2.2.1,I (ix (bA table (lit.aD k)).2.2.2.2.1 au (eE b aX k 6) ((cX (bA table (lit.aD k)) 0),(cX (bA table (lit.aD k)) 1),(cX (bA table (lit.aD k)) 2),0)).2.2.2]
theorem any (W:aG) {au:List cc} {bT:bH} {bU bV:Nat} {lit:List Int} {dn:bH} {dp dq:Nat} {table:List dx} {cq:bH} {du cr:Nat} {aX:List Bool} {cP:bH} {cQ cR aJ:Nat} {xa:Nat->ad} {b:cx} {dA:ad} {av:Nat->ad} (gm:dO (a7 W) [mj bT bU bV au,j4 dn dp dq lit,rq cq du cr table,h1 cP cQ cR aX,cb aJ 80 [xa 0,xa 1,xa 2,xa 3,xa 4,xa 5,xa 6,I b.1,I b.2.1,I b.2.2.1,I b.2.2.2.1,I b.2.2.2.2.1,I b.2.2.2.2.2,.slice dn dp dq,dA,.slice cP cQ cR,.slice cq du cr,.slice bT bU bV,av 0,av 1,av 2,av 3,av 4,av 5]]) (k:Nat) (ai:okB b) (ao:k<aX.length) (az:aX.length=(gj b).toNat) (py:au.length=aX.length) (El:lit.length=aX.length) (jZ:∀n,n<aX.length->0<=(au.aD n).1/\(au.aD n).1<=15/\0<=(au.aD n).2.1/\(au.aD n).2.1<=15/\0<=(au.aD n).2.2.1/\(au.aD n).2.2.1<=15/\0<=(au.aD n).2.2.2/\(au.aD n).2.2.2<=15) (gg:1<=(bA table (lit.aD k)).2.2.2.2.1/\(bA table (lit.aD k)).2.2.2.2.1<=16):Calls Tryd.prog 65 #[bj aJ 0,I ((k:Nat):Int)] W λe w'=>(∃y:Unit,e= .returned (L.val (jH table lit au aX b k))/\dw (a7 W) [mj bT bU bV au,j4 dn dp dq lit,rq cq du cr table,h1 cP cQ cR aX,cb aJ 80 [xa 0,xa 1,xa 2,xa 3,xa 4,xa 5,xa 6,I b.1,I b.2.1,I b.2.2.1,I b.2.2.2.1,I b.2.2.2.2.1,I b.2.2.2.2.2,.slice dn dp dq,dA,.slice cP cQ cR,.slice cq du cr,.slice bT bU bV,av 0,av 1,av 2,av 3,av 4,av 5]] (a7 w') [mj bT bU bV au,j4 dn dp dq lit,rq cq du cr table,h1 cP cQ cR aX,cb aJ lF [xa 0,xa 1,xa 2,xa 3,xa 4,xa 5,xa 6,I b.1,I b.2.1,I b.2.2.1,I b.2.2.2.1,I b.2.2.2.2.1,I b.2.2.2.2.2,.slice dn dp dq,dA,.slice cP cQ cR,.slice cq du cr,.slice bT bU bV,av 0,av 1,av 2,av 3,av 4,av 5]])/\cO 0 W w':=by
 refine lg (a6 au bT bU bV lit dn dp dq table cq du cr aX cP cQ cR aJ xa b dA av k) body aZ N [al 0,al 1] Tryd.func65 λa ae=> ?_
 letI:=bE ae;have a_:=cC.start W _ gm;have rU:k<lit.length:=by omega
 have Cf:=K7 ai (((k:Nat):Int));have w_:=K5 ao az;have fD: -1048575<=b.2.2.2.2.2/\b.2.2.2.2.2<=1048575:=by unfold okB at ai;omega
 refine br bz [] (U (cd _) (U (cd _) (U (cd _) aB))) aC ?_ ae;refine wT (u:=bj aJ 0) (cs:=[bj aJ 0]) (bC:=λfh=>(a6 au bT bU bV lit dn dp dq table cq du cr aX cP cQ cR aJ xa b dA av k fh)) b4 J J J bs (cF c0 26) rfl (λ_ fh=>b7) (λ_ _=>rfl) ?_;intro fN cJ hh k3 gb ch w ae;have bP:=a_.new (rb k3 hh gb);replace bP:=bP.yc;letI:=bE ae;refine cm (cn c5) bz [] (U (cd _) (U (cd _) (U (cd _) aB))) aC ?_ ae;refine D4 (z:= .agg ⟨[I 0,I 0,I 0,I 0]⟩) (bC:=λfh=>(a6 au bT bU bV lit dn dp dq table cq du cr aX cP cQ cR aJ xa b dA av k cJ fh)) gy ag iC (cF eO 27) rfl (λ_ fh=>b7) (λ_ _=>rfl) ?_;intro hr g1 xS iL qz lU ch w ae;have dK:=bP.new (rb (ty:=85) (cs:=[I 0,I 0,I 0,I 0]) (je.mk' xS qz) iL lU);replace dK:=dK.KT;letI:=bE ae;refine cm (cn ga) bz [] (U (cd _) (U (cd _) (U (cd _) aB))) aC ?_ ae;refine D4 (z:= .agg ⟨[I 0,I 0,I 0,I 0]⟩) (bC:=λfh=>(a6 au bT bU bV lit dn dp dq table cq du cr aX cP cQ cR aJ xa b dA av k cJ g1 fh)) jS ag pb (cF fS 28) rfl (λ_ fh=>b7) (λ_ _=>rfl) ?_;intro fU g2 sj lk CC uQ ch w ae;have dE:=dK.new (rb (ty:=85) (cs:=[I 0,I 0,I 0,I 0]) (je.mk' sj CC) lk uQ);replace dE:=dE.G3;letI:=bE ae;by_cases jq:(aX.aD (k))=true
 ·refine cm (cn ht) cp hR (U (cd _) (U (cd _) (U (cd _) (U (cu 0 5 dE) (U dB (U (b1 30 15 1) (U (cu 15 4 dE) (U (f' ((dE.arr 3 rfl).arr h9) kA rk) (U (im 0 ((dE.arr 3 rfl).arr h9) (f_ k) vy) (U (U7 J J jq) (U (b1 29 16 1) (U (cu 16 4 dE) (U (b1 28 7 7) (U (b1 26 6 1) (U (cu 13 4 dE) (U (f' ((dE.arr 1 rfl).arr j2) iD jO) (U (im 0 ((dE.arr 1 rfl).arr j2) (f_ k) kz) (U (aW.ac' (e:=3) (sz:=1) (g:=g2) (o:=0) J J ag ag rfl aL rfl) aB)))))))))))))))))) (cv (afY J J J J ((dE.arr 2 rfl).arr B')) aC) ?_ ae
  refine ae8 (e:=3) (g:=g2) (j:=0) (m:=4) (n:=3) (us:=[I (cX (bA table (lit.aD k)) 0),I (cX (bA table (lit.aD k)) 1),I (cX (bA table (lit.aD k)) 2)]) (cs:=[I 0,I 0,I 0,I 0]) (cs':=[I (cX (bA table (lit.aD k)) 0),I (cX (bA table (lit.aD k)) 1),I (cX (bA table (lit.aD k)) 2),I 0]) (bC:=(a6 au bT bU bV lit dn dp dq table cq du cr aX cP cQ cR aJ xa b dA av k cJ g1 g2)) rfl lW ag ag nt (cF jt (I 3)) J J (Ga om (λ_=>rfl) aL rfl) rfl aL aL (kR rfl (kR rfl (kR rfl Cj))) (dE.box 7 rfl) (h3 rfl) (λ_=>b7) ?_;intro vL zo uR ch w ae;have gV:=dE.gM 7 rfl (lR zo uR);replace gV:=gV.G3;letI:=bE ae;refine cm (cn k0) dh lq (U (cd _) (U (cd _) (U (cd _) (U (cu 0 5 gV) aB)))) (cv (Xd (xa:=h0 [xa 0,xa 1,xa 2,xa 3,xa 4,xa 5,xa 6,I b.1,I b.2.1,I b.2.2.1,I b.2.2.2.1,I b.2.2.2.2.1,I b.2.2.2.2.2,.slice dn dp dq,dA,.slice cP cQ cR,.slice cq du cr,.slice bT bU bV,av 0,av 1,av 2,av 3,av 4,av 5] 0) (av:=h0 [xa 0,xa 1,xa 2,xa 3,xa 4,xa 5,xa 6,I b.1,I b.2.1,I b.2.2.1,I b.2.2.2.1,I b.2.2.2.2.1,I b.2.2.2.2.2,.slice dn dp dq,dA,.slice cP cQ cR,.slice cq du cr,.slice bT bU bV,av 0,av 1,av 2,av 3,av 4,av 5] 14) (xc:=h0 [xa 0,xa 1,xa 2,xa 3,xa 4,xa 5,xa 6,I b.1,I b.2.1,I b.2.2.1,I b.2.2.2.1,I b.2.2.2.2.1,I b.2.2.2.2.2,.slice dn dp dq,dA,.slice cP cQ cR,.slice cq du cr,.slice bT bU bV,av 0,av 1,av 2,av 3,av 4,av 5] 17) J J J J (gV.box 4 rfl) ((gV.arr 1 rfl).arr j2) ((gV.arr 2 rfl).arr B') rU) aC) ?_ ae;refine D4 (z:=I 0) (bC:=λfh=>(a6 au bT bU bV lit dn dp dq table cq du cr aX cP cQ cR aJ xa b dA av k cJ g1 g2 fh)) ql ag pd (cF kf 42) rfl (λ_ fh=>b7) (λ_ _=>rfl) ?_;intro jy g4 agk oQ Ho jh ch w ae;have ek:=gV.new (rb (ty:=3) (cs:=[I 0]) (je.mk' agk Ho) oQ jh);replace ek:=ek.zg;letI:=bE ae;refine cm (cn nS) bz [] (U (cd _) (U (cd _) (U (cd _) aB))) aC ?_ ae;refine oP 0 [I (bA table (lit.aD k)).2.2.2.2.1] (a6 au bT bU bV lit dn dp dq table cq du cr aX cP cQ cR aJ xa b dA av k cJ g1 g2 g4) ry pe (cF mY (.tuple ⟨[]⟩)) (ek.box 8 rfl) ?_;intro CD Hp Hq ch w ae;have k5:=ek.gM 8 rfl (lR Hp Hq);replace k5:=k5.zg;letI:=bE ae;by_cases z0:(e_ b ((k:Nat):Int)).2.2=(b.2.2.2.2.2-1)
  ·refine cm (cn mF) d' kb (U (cd _) (U (cd _) (U (cd _) (U (cu 0 5 k5) (U dB (U (b1 28 7 7) (U (b1 25 0 6) (U (j_ 7 6 4 k5) (U (b1 23 3 3) (U (b1 3 2 1) (U (cu 12 4 k5) (U gU (U bf (U (cu 0 8 k5) (U (aW.kO (g:=g2) (o:=0) (j:=3) (n:=4) (e:=3) (sz:=1) J J J ag ag J J aL rfl) aB))))))))))))))) (cv (Hc J J J J ai) (cv (nr J J J J aj) aC)) ?_ ae
   refine oP 3 [I (cX (bA table (lit.aD k)) 0),I (cX (bA table (lit.aD k)) 1),I (cX (bA table (lit.aD k)) 2),I (given 15 (bA table (lit.aD k)).2.2.2.2.1 3 true)] (a6 au bT bU bV lit dn dp dq table cq du cr aX cP cQ cR aJ xa b dA av k cJ g1 g2 g4) Cx G7 (cF nU (.tuple ⟨[]⟩)) (k5.box 7 rfl) ?_;intro Hr P5 P6 ch w ae;have nX:=k5.gM 7 rfl (lR P5 P6);replace nX:=nX.zg;letI:=bE ae;refine cm (cn nV) eS [] (U (cd _) (U (cd _) (U (cd _) (U (cu 0 5 nX) aB)))) aC ?_ ae;refine e5 (Y:=Unit) (bC:=λaF=>(a6 au bT bU bV lit dn dp dq table cq du cr aX cP cQ cR aJ xa b dA av k cJ g1 g2 g4)) nX [0,3,4,7,5,8] (λ_=>[_,_,_,cb _ _ [I (ix (bA table (lit.aD k)).2.2.2.2.1 au (eE b aX k 6) ((cX (bA table (lit.aD k)) 0),(cX (bA table (lit.aD k)) 1),(cX (bA table (lit.aD k)) 2),(given 15 (bA table (lit.aD k)).2.2.2.2.1 3 true))).1,I (ix (bA table (lit.aD k)).2.2.2.2.1 au (eE b aX k 6) ((cX (bA table (lit.aD k)) 0),(cX (bA table (lit.aD k)) 1),(cX (bA table (lit.aD k)) 2),(given 15 (bA table (lit.aD k)).2.2.2.2.1 3 true))).2.1,I (ix (bA table (lit.aD k)).2.2.2.2.1 au (eE b aX k 6) ((cX (bA table (lit.aD k)) 0),(cX (bA table (lit.aD k)) 1),(cX (bA table (lit.aD k)) 2),(given 15 (bA table (lit.aD k)).2.2.2.2.1 3 true))).2.2.1,I (ix (bA table (lit.aD k)).2.2.2.2.1 au (eE b aX k 6) ((cX (bA table (lit.aD k)) 0),(cX (bA table (lit.aD k)) 1),(cX (bA table (lit.aD k)) 2),(given 15 (bA table (lit.aD k)).2.2.2.2.1 3 true))).2.2.2],_,_]) (λ_=>[]) PI G8 (cF mH (.tuple ⟨[]⟩)) (ez:=λw hw cM ay=>PY.any (xa:=xa) (av:=av) (out:=((cX (bA table (lit.aD k)) 0),(cX (bA table (lit.aD k)) 1),(cX (bA table (lit.aD k)) 2),(given 15 (bA table (lit.aD k)).2.2.2.2.1 3 true))) (F:=(bA table (lit.aD k)).2.2.2.2.1) _ ay k ai ao az py jZ gg) (rest:= ?_);intro P7 _ ph ch w ae;replace ph:=ph.zg;letI:=bE ae;refine cm (cn mm) fq [] (U (cd _) (U (cd _) (U (cd _) (U (j_ 0 4 7 ph) aB)))) aC ?_ ae;refine D6 (g:=g1) (j:=0) (n:=4) (us:=[I (ix (bA table (lit.aD k)).2.2.2.2.1 au (eE b aX k 6) ((cX (bA table (lit.aD k)) 0),(cX (bA table (lit.aD k)) 1),(cX (bA table (lit.aD k)) 2),(given 15 (bA table (lit.aD k)).2.2.2.2.1 3 true))).1,I (ix (bA table (lit.aD k)).2.2.2.2.1 au (eE b aX k 6) ((cX (bA table (lit.aD k)) 0),(cX (bA table (lit.aD k)) 1),(cX (bA table (lit.aD k)) 2),(given 15 (bA table (lit.aD k)).2.2.2.2.1 3 true))).2.1,I (ix (bA table (lit.aD k)).2.2.2.2.1 au (eE b aX k 6) ((cX (bA table (lit.aD k)) 0),(cX (bA table (lit.aD k)) 1),(cX (bA table (lit.aD k)) 2),(given 15 (bA table (lit.aD k)).2.2.2.2.1 3 true))).2.2.1,I (ix (bA table (lit.aD k)).2.2.2.2.1 au (eE b aX k 6) ((cX (bA table (lit.aD k)) 0),(cX (bA table (lit.aD k)) 1),(cX (bA table (lit.aD k)) 2),(given 15 (bA table (lit.aD k)).2.2.2.2.1 3 true))).2.2.2]) (cs:=[I 0,I 0,I 0,I 0]) (cs':=[I (ix (bA table (lit.aD k)).2.2.2.2.1 au (eE b aX k 6) ((cX (bA table (lit.aD k)) 0),(cX (bA table (lit.aD k)) 1),(cX (bA table (lit.aD k)) 2),(given 15 (bA table (lit.aD k)).2.2.2.2.1 3 true))).1,I (ix (bA table (lit.aD k)).2.2.2.2.1 au (eE b aX k 6) ((cX (bA table (lit.aD k)) 0),(cX (bA table (lit.aD k)) 1),(cX (bA table (lit.aD k)) 2),(given 15 (bA table (lit.aD k)).2.2.2.2.1 3 true))).2.1,I (ix (bA table (lit.aD k)).2.2.2.2.1 au (eE b aX k 6) ((cX (bA table (lit.aD k)) 0),(cX (bA table (lit.aD k)) 1),(cX (bA table (lit.aD k)) 2),(given 15 (bA table (lit.aD k)).2.2.2.2.1 3 true))).2.2.1,I (ix (bA table (lit.aD k)).2.2.2.2.1 au (eE b aX k 6) ((cX (bA table (lit.aD k)) 0),(cX (bA table (lit.aD k)) 1),(cX (bA table (lit.aD k)) 2),(given 15 (bA table (lit.aD k)).2.2.2.2.1 3 true))).2.2.2]) (bC:=(a6 au bT bU bV lit dn dp dq table cq du cr aX cP cQ cR aJ xa b dA av k cJ g1 g2 g4)) rfl P2 ag G9 (cF sT (.tuple ⟨[]⟩)) J J J J J (kR rfl (kR rfl (kR rfl (kR rfl Cj)))) (ph.box 6 rfl) (h3 rfl) (λ_=>b7) ?_;intro P8 P9 P' ch w ae;have tR:=ph.gM 6 rfl (lR P9 P');replace tR:=tR.zg;letI:=bE ae;refine cm (cn sU) bz [] (U (cd _) (U (cd _) (U (cd _) aB))) aC ?_ ae;exact GH (v:= .agg ⟨[al 52,al 53,al 54,al 55]⟩) (cs:=[I (ix (bA table (lit.aD k)).2.2.2.2.1 au (eE b aX k 6) ((cX (bA table (lit.aD k)) 0),(cX (bA table (lit.aD k)) 1),(cX (bA table (lit.aD k)) 2),(given 15 (bA table (lit.aD k)).2.2.2.2.1 3 true))).1,I (ix (bA table (lit.aD k)).2.2.2.2.1 au (eE b aX k 6) ((cX (bA table (lit.aD k)) 0),(cX (bA table (lit.aD k)) 1),(cX (bA table (lit.aD k)) 2),(given 15 (bA table (lit.aD k)).2.2.2.2.1 3 true))).2.1,I (ix (bA table (lit.aD k)).2.2.2.2.1 au (eE b aX k 6) ((cX (bA table (lit.aD k)) 0),(cX (bA table (lit.aD k)) 1),(cX (bA table (lit.aD k)) 2),(given 15 (bA table (lit.aD k)).2.2.2.2.1 3 true))).2.2.1,I (ix (bA table (lit.aD k)).2.2.2.2.1 au (eE b aX k 6) ((cX (bA table (lit.aD k)) 0),(cX (bA table (lit.aD k)) 1),(cX (bA table (lit.aD k)) 2),(given 15 (bA table (lit.aD k)).2.2.2.2.1 3 true))).2.2.2]) PX J J (tR.box 6 rfl) ag (show bZ Tryd.prog (sizeOf 85)=some 4 by kernel_rfl) J J λw2 zu bk=>⟨(by first|(rw[P0 aY (by unfold sR;omega)];exact⟨(),rfl,((tR.pick [0,1,2,3,4] rfl).done bk)⟩)|(rw[P1 aY (by unfold sR;omega)];exact⟨(),rfl,((tR.pick [0,1,2,3,4] rfl).done bk)⟩)|(rw[PZ aY];exact⟨(),rfl,((tR.pick [0,1,2,3,4] rfl).done bk)⟩)),zu⟩
  ·refine cm (cn mF) hs mZ (U (cd _) (U (cd _) (U (cd _) (U (cu 0 5 k5) (U dB (U (b1 28 7 7) (U (b1 25 0 6) (U (j_ 7 6 4 k5) (U (b1 23 3 3) (U (b1 3 2 1) (U (cu 12 4 k5) (U gU (U a' aB))))))))))))) (cv (Hc J J J J ai) aC) ?_ ae
   refine e5 (Y:=Unit) (bC:=λaF=>(a6 au bT bU bV lit dn dp dq table cq du cr aX cP cQ cR aJ xa b dA av k cJ g1 g2 g4)) k5 [0,3,4,7,5,8] (λ_=>[_,_,_,cb _ _ [I (ix (bA table (lit.aD k)).2.2.2.2.1 au (eE b aX k 6) ((cX (bA table (lit.aD k)) 0),(cX (bA table (lit.aD k)) 1),(cX (bA table (lit.aD k)) 2),0)).1,I (ix (bA table (lit.aD k)).2.2.2.2.1 au (eE b aX k 6) ((cX (bA table (lit.aD k)) 0),(cX (bA table (lit.aD k)) 1),(cX (bA table (lit.aD k)) 2),0)).2.1,I (ix (bA table (lit.aD k)).2.2.2.2.1 au (eE b aX k 6) ((cX (bA table (lit.aD k)) 0),(cX (bA table (lit.aD k)) 1),(cX (bA table (lit.aD k)) 2),0)).2.2.1,I (ix (bA table (lit.aD k)).2.2.2.2.1 au (eE b aX k 6) ((cX (bA table (lit.aD k)) 0),(cX (bA table (lit.aD k)) 1),(cX (bA table (lit.aD k)) 2),0)).2.2.2],_,_]) (λ_=>[]) agj zk (cF r1 (.tuple ⟨[]⟩)) (ez:=λw hw cM ay=>PY.any (xa:=xa) (av:=av) (out:=((cX (bA table (lit.aD k)) 0),(cX (bA table (lit.aD k)) 1),(cX (bA table (lit.aD k)) 2),0)) (F:=(bA table (lit.aD k)).2.2.2.2.1) _ ay k ai ao az py jZ gg) (rest:= ?_);intro Hr _ nX ch w ae;replace nX:=nX.zg;letI:=bE ae;refine cm (cn sW) hN [] (U (cd _) (U (cd _) (U (cd _) (U (j_ 0 4 7 nX) aB)))) aC ?_ ae;refine D6 (g:=g1) (j:=0) (n:=4) (us:=[I (ix (bA table (lit.aD k)).2.2.2.2.1 au (eE b aX k 6) ((cX (bA table (lit.aD k)) 0),(cX (bA table (lit.aD k)) 1),(cX (bA table (lit.aD k)) 2),0)).1,I (ix (bA table (lit.aD k)).2.2.2.2.1 au (eE b aX k 6) ((cX (bA table (lit.aD k)) 0),(cX (bA table (lit.aD k)) 1),(cX (bA table (lit.aD k)) 2),0)).2.1,I (ix (bA table (lit.aD k)).2.2.2.2.1 au (eE b aX k 6) ((cX (bA table (lit.aD k)) 0),(cX (bA table (lit.aD k)) 1),(cX (bA table (lit.aD k)) 2),0)).2.2.1,I (ix (bA table (lit.aD k)).2.2.2.2.1 au (eE b aX k 6) ((cX (bA table (lit.aD k)) 0),(cX (bA table (lit.aD k)) 1),(cX (bA table (lit.aD k)) 2),0)).2.2.2]) (cs:=[I 0,I 0,I 0,I 0]) (cs':=[I (ix (bA table (lit.aD k)).2.2.2.2.1 au (eE b aX k 6) ((cX (bA table (lit.aD k)) 0),(cX (bA table (lit.aD k)) 1),(cX (bA table (lit.aD k)) 2),0)).1,I (ix (bA table (lit.aD k)).2.2.2.2.1 au (eE b aX k 6) ((cX (bA table (lit.aD k)) 0),(cX (bA table (lit.aD k)) 1),(cX (bA table (lit.aD k)) 2),0)).2.1,I (ix (bA table (lit.aD k)).2.2.2.2.1 au (eE b aX k 6) ((cX (bA table (lit.aD k)) 0),(cX (bA table (lit.aD k)) 1),(cX (bA table (lit.aD k)) 2),0)).2.2.1,I (ix (bA table (lit.aD k)).2.2.2.2.1 au (eE b aX k 6) ((cX (bA table (lit.aD k)) 0),(cX (bA table (lit.aD k)) 1),(cX (bA table (lit.aD k)) 2),0)).2.2.2]) (bC:=(a6 au bT bU bV lit dn dp dq table cq du cr aX cP cQ cR aJ xa b dA av k cJ g1 g2 g4)) rfl P3 ag P4 (cF pU (.tuple ⟨[]⟩)) J J J J J (kR rfl (kR rfl (kR rfl (kR rfl Cj)))) (nX.box 6 rfl) (h3 rfl) (λ_=>b7) ?_;intro P7 agl agm ch w ae;have ph:=nX.gM 6 rfl (lR agl agm);replace ph:=ph.zg;letI:=bE ae;refine cm (cn rz) bz [] (U (cd _) (U (cd _) (U (cd _) aB))) aC ?_ ae;exact GH (v:= .agg ⟨[al 56,al 57,al 58,al 59]⟩) (cs:=[I (ix (bA table (lit.aD k)).2.2.2.2.1 au (eE b aX k 6) ((cX (bA table (lit.aD k)) 0),(cX (bA table (lit.aD k)) 1),(cX (bA table (lit.aD k)) 2),0)).1,I (ix (bA table (lit.aD k)).2.2.2.2.1 au (eE b aX k 6) ((cX (bA table (lit.aD k)) 0),(cX (bA table (lit.aD k)) 1),(cX (bA table (lit.aD k)) 2),0)).2.1,I (ix (bA table (lit.aD k)).2.2.2.2.1 au (eE b aX k 6) ((cX (bA table (lit.aD k)) 0),(cX (bA table (lit.aD k)) 1),(cX (bA table (lit.aD k)) 2),0)).2.2.1,I (ix (bA table (lit.aD k)).2.2.2.2.1 au (eE b aX k 6) ((cX (bA table (lit.aD k)) 0),(cX (bA table (lit.aD k)) 1),(cX (bA table (lit.aD k)) 2),0)).2.2.2]) Hk J J (ph.box 6 rfl) ag (show bZ Tryd.prog (sizeOf 85)=some 4 by kernel_rfl) J J λw2 zu bk=>⟨(by first|(rw[P0 aY (by unfold sR;omega)];exact⟨(),rfl,((ph.pick [0,1,2,3,4] rfl).done bk)⟩)|(rw[P1 aY (by unfold sR;omega)];exact⟨(),rfl,((ph.pick [0,1,2,3,4] rfl).done bk)⟩)|(rw[PZ aY];exact⟨(),rfl,((ph.pick [0,1,2,3,4] rfl).done bk)⟩)),zu⟩
 ·refine cm (cn ht) hS [] (U (cd _) (U (cd _) (U (cd _) (U (cu 0 5 dE) (U dB (U (b1 30 15 1) (U (cu 15 4 dE) (U (f' ((dE.arr 3 rfl).arr h9) kA rk) (U (im 0 ((dE.arr 3 rfl).arr h9) (f_ k) vy) (U (U8 J J jq) (U (j_ 0 4 7 dE) aB))))))))))) aC ?_ ae
  refine D6 (g:=g1) (j:=0) (n:=4) (us:=[I 0,I 0,I 0,I 0]) (cs:=[I 0,I 0,I 0,I 0]) (cs':=[I 0,I 0,I 0,I 0]) (bC:=(a6 au bT bU bV lit dn dp dq table cq du cr aX cP cQ cR aJ xa b dA av k cJ g1 g2)) rfl Hl ag Hm (cF sZ (.tuple ⟨[]⟩)) J J J J J (kR rfl (kR rfl (kR rfl (kR rfl Cj)))) (dE.box 6 rfl) (h3 rfl) (λ_=>b7) ?_;intro vL zo uR ch w ae;have gV:=dE.gM 6 rfl (lR zo uR);replace gV:=gV.G3;letI:=bE ae;refine cm (cn s0) bz [] (U (cd _) (U (cd _) (U (cd _) aB))) aC ?_ ae;exact GH (v:= .agg ⟨[I 0,I 0,I 0,I 0]⟩) (cs:=[I 0,I 0,I 0,I 0]) Hn J J (gV.box 6 rfl) ag (show bZ Tryd.prog (sizeOf 85)=some 4 by kernel_rfl) J J λw2 zu bk=>⟨(by first|(rw[P0 aY (by unfold sR;omega)];exact⟨(),rfl,((gV.pick [0,1,2,3,4] rfl).done bk)⟩)|(rw[P1 aY (by unfold sR;omega)];exact⟨(),rfl,((gV.pick [0,1,2,3,4] rfl).done bk)⟩)|(rw[PZ aY];exact⟨(),rfl,((gV.pick [0,1,2,3,4] rfl).done bk)⟩)),zu⟩
end Xv
end a1
namespace a1
namespace Xw
noncomputable def body:Code:=(Tryd.f60.body).getD .skip
def N:Nat:=57
def aZ:c6:={sl:=bm [(3,3),(2,2),(1,1),(0,0)],ms:=[],A:=start}
def bz:aU:=[(.bh 34 2,28),
 (.dt 28,28),
 (.bQ 80 28 5,35),
 (.bh 45 35,6),
 (.cV 45 6 0,36),
 (.bh 85 36,.agg ⟨[37,38,39,40]⟩)]
def h2:dm:=[(61,[28,0],34)]
def bt:List bG:=[⟨.cells [42,43,44,45],85,0⟩]
def cl:ax:=bm [(20,41),(19,.agg ⟨[37,38,39,40]⟩),(7,bj 0 0),(6,34),(3,3),(2,2),(1,1),(0,0)]
abbrev fG:=at' 57 bz h2 body aZ
theorem b4:mi cl bt fG=some [(0,0),(1,1),(3,3),(37,37),(38,38),(39,39),(40,40),(2,2),(I 0,41),(34,34),(I 0,42),(I 0,43),(I 0,44),(I 0,45)]:=ag
def bY:Code:=nJ body [1,1,0,1,4]
def fJ:List hj:=lp body [1,1,0,1,4] []
theorem bs:lP fG=bY:=ag
theorem cw:gi fG=fJ:=ag
def uS:ax:=bm [(20,I 0),(19,.agg ⟨[37,38,39,40]⟩),(7,bj 0 0),(6,34),(3,3),(2,2),(1,1),(0,0)]
theorem dD:bF (aN cl bt) uS bt=some [(0,0),(1,1),(3,3),(37,37),(38,38),(39,39),(40,40),(2,2),(41,I 0),(34,34),(42,42),(43,43),(44,44),(45,45)]:=ag
def cp:aU:=[(.bQ 87 3 1,46),
 (.cV 85 46 (I 0),46),
 (.bh 3 46,30),
 (.bin .gtr 3 30 (I 0),.bool true),
 (.bin .gtr 3 37 (I 0),.bool true),
 (.bin .lss 3 1 (I 0),.bool true),
 (.bin .eql 3 37 47,.bool true)]
def hR:dm:=[(62,[30,34,I 0,.bool true],47)]
theorem hq:eV cl bt (at' 57 cp hR bY (aN uS bt))=some [(0,0),(1,1),(3,3),(37,37),(38,38),(39,39),(40,40),(2,2),(I 1,41),(34,34),(37,42),(43,43),(44,44),(45,45)]:=ag
def dh:aU:=[(.bQ 87 3 1,46),
 (.cV 85 46 (I 0),46),
 (.bh 3 46,30),
 (.bin .gtr 3 30 (I 0),.bool true),
 (.bin .gtr 3 37 (I 0),.bool true),
 (.bin .lss 3 1 (I 0),.bool true),
 (.bin .eql 3 37 47,.bool false)]
def lq:dm:=[(62,[30,34,I 0,.bool true],47)]
theorem ka:eV cl bt (at' 57 dh lq bY (aN uS bt))=some [(0,0),(1,1),(3,3),(37,37),(38,38),(39,39),(40,40),(2,2),(I 1,41),(34,34),(42,42),(43,43),(44,44),(45,45)]:=ag
def d':aU:=[(.bQ 87 3 1,46),
 (.cV 85 46 (I 0),46),
 (.bh 3 46,30),
 (.bin .gtr 3 30 (I 0),.bool true),
 (.bin .gtr 3 37 (I 0),.bool true),
 (.bin .lss 3 1 (I 0),.bool false),
 (.bin .eql 3 37 48,.bool true)]
def kb:dm:=[(62,[30,34,I 0,.bool false],48)]
theorem gy:eV cl bt (at' 57 d' kb bY (aN uS bt))=some [(0,0),(1,1),(3,3),(37,37),(38,38),(39,39),(40,40),(2,2),(I 1,41),(34,34),(37,42),(43,43),(44,44),(45,45)]:=ag
def eS:aU:=[(.bQ 87 3 1,46),
 (.cV 85 46 (I 0),46),
 (.bh 3 46,30),
 (.bin .gtr 3 30 (I 0),.bool true),
 (.bin .gtr 3 37 (I 0),.bool true),
 (.bin .lss 3 1 (I 0),.bool false),
 (.bin .eql 3 37 48,.bool false)]
def nW:dm:=[(62,[30,34,I 0,.bool false],48)]
theorem iC:eV cl bt (at' 57 eS nW bY (aN uS bt))=some [(0,0),(1,1),(3,3),(37,37),(38,38),(39,39),(40,40),(2,2),(I 1,41),(34,34),(42,42),(43,43),(44,44),(45,45)]:=ag
def fq:aU:=[(.bQ 87 3 1,46),
 (.cV 85 46 (I 0),46),
 (.bh 3 46,30),
 (.bin .gtr 3 30 (I 0),.bool true),
 (.bin .gtr 3 37 (I 0),.bool false)]
theorem lA:eV cl bt (at' 57 fq [] bY (aN uS bt))=some [(0,0),(1,1),(3,3),(37,37),(38,38),(39,39),(40,40),(2,2),(I 1,41),(34,34),(42,42),(43,43),(44,44),(45,45)]:=ag
def hs:aU:=[(.bQ 87 3 1,46),
 (.cV 85 46 (I 0),46),
 (.bh 3 46,30),
 (.bin .gtr 3 30 (I 0),.bool false)]
theorem np:eV cl bt (at' 57 hs [] bY (aN uS bt))=some [(0,0),(1,1),(3,3),(37,37),(38,38),(39,39),(40,40),(2,2),(I 1,41),(34,34),(42,42),(43,43),(44,44),(45,45)]:=ag
def CE:ax:=bm [(20,I 1),(19,.agg ⟨[37,38,39,40]⟩),(7,bj 0 0),(6,34),(3,3),(2,2),(1,1),(0,0)]
theorem k2:bF (aN cl bt) CE bt=some [(0,0),(1,1),(3,3),(37,37),(38,38),(39,39),(40,40),(2,2),(41,I 1),(34,34),(42,42),(43,43),(44,44),(45,45)]:=ag
def hN:aU:=[(.bQ 87 3 1,46),
 (.cV 85 46 (I 1),49),
 (.bh 3 49,31),
 (.bin .gtr 3 31 (I 0),.bool true),
 (.bin .gtr 3 38 (I 0),.bool true),
 (.bin .lss 3 1 (I 0),.bool true),
 (.bin .eql 3 38 50,.bool true)]
def vM:dm:=[(62,[31,34,I 1,.bool true],50)]
theorem lV:eV cl bt (at' 57 hN vM bY (aN CE bt))=some [(0,0),(1,1),(3,3),(37,37),(38,38),(39,39),(40,40),(2,2),(I 2,41),(34,34),(42,42),(38,43),(44,44),(45,45)]:=ag
def hS:aU:=[(.bQ 87 3 1,46),
 (.cV 85 46 (I 1),49),
 (.bh 3 49,31),
 (.bin .gtr 3 31 (I 0),.bool true),
 (.bin .gtr 3 38 (I 0),.bool true),
 (.bin .lss 3 1 (I 0),.bool true),
 (.bin .eql 3 38 50,.bool false)]
def sI:dm:=[(62,[31,34,I 1,.bool true],50)]
theorem jS:eV cl bt (at' 57 hS sI bY (aN CE bt))=some [(0,0),(1,1),(3,3),(37,37),(38,38),(39,39),(40,40),(2,2),(I 2,41),(34,34),(42,42),(43,43),(44,44),(45,45)]:=ag
def jT:aU:=[(.bQ 87 3 1,46),
 (.cV 85 46 (I 1),49),
 (.bh 3 49,31),
 (.bin .gtr 3 31 (I 0),.bool true),
 (.bin .gtr 3 38 (I 0),.bool true),
 (.bin .lss 3 1 (I 0),.bool false),
 (.bin .eql 3 38 51,.bool true)]
def AQ:dm:=[(62,[31,34,I 1,.bool false],51)]
theorem pb:eV cl bt (at' 57 jT AQ bY (aN CE bt))=some [(0,0),(1,1),(3,3),(37,37),(38,38),(39,39),(40,40),(2,2),(I 2,41),(34,34),(42,42),(38,43),(44,44),(45,45)]:=ag
def jx:aU:=[(.bQ 87 3 1,46),
 (.cV 85 46 (I 1),49),
 (.bh 3 49,31),
 (.bin .gtr 3 31 (I 0),.bool true),
 (.bin .gtr 3 38 (I 0),.bool true),
 (.bin .lss 3 1 (I 0),.bool false),
 (.bin .eql 3 38 51,.bool false)]
def Hs:dm:=[(62,[31,34,I 1,.bool false],51)]
theorem xg:eV cl bt (at' 57 jx Hs bY (aN CE bt))=some [(0,0),(1,1),(3,3),(37,37),(38,38),(39,39),(40,40),(2,2),(I 2,41),(34,34),(42,42),(43,43),(44,44),(45,45)]:=ag
def kD:aU:=[(.bQ 87 3 1,46),
 (.cV 85 46 (I 1),49),
 (.bh 3 49,31),
 (.bin .gtr 3 31 (I 0),.bool true),
 (.bin .gtr 3 38 (I 0),.bool false)]
theorem pg:eV cl bt (at' 57 kD [] bY (aN CE bt))=some [(0,0),(1,1),(3,3),(37,37),(38,38),(39,39),(40,40),(2,2),(I 2,41),(34,34),(42,42),(43,43),(44,44),(45,45)]:=ag
def mI:aU:=[(.bQ 87 3 1,46),
 (.cV 85 46 (I 1),49),
 (.bh 3 49,31),
 (.bin .gtr 3 31 (I 0),.bool false)]
theorem sK:eV cl bt (at' 57 mI [] bY (aN CE bt))=some [(0,0),(1,1),(3,3),(37,37),(38,38),(39,39),(40,40),(2,2),(I 2,41),(34,34),(42,42),(43,43),(44,44),(45,45)]:=ag
def CF:ax:=bm [(20,I 2),(19,.agg ⟨[37,38,39,40]⟩),(7,bj 0 0),(6,34),(3,3),(2,2),(1,1),(0,0)]
theorem ru:bF (aN cl bt) CF bt=some [(0,0),(1,1),(3,3),(37,37),(38,38),(39,39),(40,40),(2,2),(41,I 2),(34,34),(42,42),(43,43),(44,44),(45,45)]:=ag
def lX:aU:=[(.bQ 87 3 1,46),
 (.cV 85 46 (I 2),52),
 (.bh 3 52,32),
 (.bin .gtr 3 32 (I 0),.bool true),
 (.bin .gtr 3 39 (I 0),.bool true),
 (.bin .lss 3 1 (I 0),.bool true),
 (.bin .eql 3 39 53,.bool true)]
def Ht:dm:=[(62,[32,34,I 2,.bool true],53)]
theorem lW:eV cl bt (at' 57 lX Ht bY (aN CF bt))=some [(0,0),(1,1),(3,3),(37,37),(38,38),(39,39),(40,40),(2,2),(I 3,41),(34,34),(42,42),(43,43),(39,44),(45,45)]:=ag
def nu:aU:=[(.bQ 87 3 1,46),
 (.cV 85 46 (I 2),52),
 (.bh 3 52,32),
 (.bin .gtr 3 32 (I 0),.bool true),
 (.bin .gtr 3 39 (I 0),.bool true),
 (.bin .lss 3 1 (I 0),.bool true),
 (.bin .eql 3 39 53,.bool false)]
def Hu:dm:=[(62,[32,34,I 2,.bool true],53)]
theorem om:eV cl bt (at' 57 nu Hu bY (aN CF bt))=some [(0,0),(1,1),(3,3),(37,37),(38,38),(39,39),(40,40),(2,2),(I 3,41),(34,34),(42,42),(43,43),(44,44),(45,45)]:=ag
def s3:aU:=[(.bQ 87 3 1,46),
 (.cV 85 46 (I 2),52),
 (.bh 3 52,32),
 (.bin .gtr 3 32 (I 0),.bool true),
 (.bin .gtr 3 39 (I 0),.bool true),
 (.bin .lss 3 1 (I 0),.bool false),
 (.bin .eql 3 39 54,.bool true)]
def AR:dm:=[(62,[32,34,I 2,.bool false],54)]
theorem nt:eV cl bt (at' 57 s3 AR bY (aN CF bt))=some [(0,0),(1,1),(3,3),(37,37),(38,38),(39,39),(40,40),(2,2),(I 3,41),(34,34),(42,42),(43,43),(39,44),(45,45)]:=ag
def uW:aU:=[(.bQ 87 3 1,46),
 (.cV 85 46 (I 2),52),
 (.bh 3 52,32),
 (.bin .gtr 3 32 (I 0),.bool true),
 (.bin .gtr 3 39 (I 0),.bool true),
 (.bin .lss 3 1 (I 0),.bool false),
 (.bin .eql 3 39 54,.bool false)]
def Hv:dm:=[(62,[32,34,I 2,.bool false],54)]
theorem ot:eV cl bt (at' 57 uW Hv bY (aN CF bt))=some [(0,0),(1,1),(3,3),(37,37),(38,38),(39,39),(40,40),(2,2),(I 3,41),(34,34),(42,42),(43,43),(44,44),(45,45)]:=ag
def uX:aU:=[(.bQ 87 3 1,46),
 (.cV 85 46 (I 2),52),
 (.bh 3 52,32),
 (.bin .gtr 3 32 (I 0),.bool true),
 (.bin .gtr 3 39 (I 0),.bool false)]
theorem uU:eV cl bt (at' 57 uX [] bY (aN CF bt))=some [(0,0),(1,1),(3,3),(37,37),(38,38),(39,39),(40,40),(2,2),(I 3,41),(34,34),(42,42),(43,43),(44,44),(45,45)]:=ag
def uY:aU:=[(.bQ 87 3 1,46),
 (.cV 85 46 (I 2),52),
 (.bh 3 52,32),
 (.bin .gtr 3 32 (I 0),.bool false)]
theorem sL:eV cl bt (at' 57 uY [] bY (aN CF bt))=some [(0,0),(1,1),(3,3),(37,37),(38,38),(39,39),(40,40),(2,2),(I 3,41),(34,34),(42,42),(43,43),(44,44),(45,45)]:=ag
def lu:ax:=bm [(20,I 3),(19,.agg ⟨[37,38,39,40]⟩),(7,bj 0 0),(6,34),(3,3),(2,2),(1,1),(0,0)]
theorem sF:bF (aN cl bt) lu bt=some [(0,0),(1,1),(3,3),(37,37),(38,38),(39,39),(40,40),(2,2),(41,I 3),(34,34),(42,42),(43,43),(44,44),(45,45)]:=ag
def vO:aU:=[(.bQ 87 3 1,46),
 (.cV 85 46 (I 3),55),
 (.bh 3 55,33),
 (.bin .gtr 3 33 (I 0),.bool true),
 (.bin .gtr 3 40 (I 0),.bool true),
 (.bin .lss 3 1 (I 0),.bool true),
 (.bin .eql 3 40 56,.bool true)]
def Hw:dm:=[(62,[33,34,I 3,.bool true],56)]
theorem ql:eV cl bt (at' 57 vO Hw bY (aN lu bt))=some [(0,0),(1,1),(3,3),(37,37),(38,38),(39,39),(40,40),(2,2),(I 4,41),(34,34),(42,42),(43,43),(44,44),(40,45)]:=ag
def vP:aU:=[(.bQ 87 3 1,46),
 (.cV 85 46 (I 3),55),
 (.bh 3 55,33),
 (.bin .gtr 3 33 (I 0),.bool true),
 (.bin .gtr 3 40 (I 0),.bool true),
 (.bin .lss 3 1 (I 0),.bool true),
 (.bin .eql 3 40 56,.bool false)]
def Hx:dm:=[(62,[33,34,I 3,.bool true],56)]
theorem pd:eV cl bt (at' 57 vP Hx bY (aN lu bt))=some [(0,0),(1,1),(3,3),(37,37),(38,38),(39,39),(40,40),(2,2),(I 4,41),(34,34),(42,42),(43,43),(44,44),(45,45)]:=ag
def vQ:aU:=[(.bQ 87 3 1,46),
 (.cV 85 46 (I 3),55),
 (.bh 3 55,33),
 (.bin .gtr 3 33 (I 0),.bool true),
 (.bin .gtr 3 40 (I 0),.bool true),
 (.bin .lss 3 1 (I 0),.bool false),
 (.bin .eql 3 40 57,.bool true)]
def Hy:dm:=[(62,[33,34,I 3,.bool false],57)]
theorem qm:eV cl bt (at' 57 vQ Hy bY (aN lu bt))=some [(0,0),(1,1),(3,3),(37,37),(38,38),(39,39),(40,40),(2,2),(I 4,41),(34,34),(42,42),(43,43),(44,44),(40,45)]:=ag
def vR:aU:=[(.bQ 87 3 1,46),
 (.cV 85 46 (I 3),55),
 (.bh 3 55,33),
 (.bin .gtr 3 33 (I 0),.bool true),
 (.bin .gtr 3 40 (I 0),.bool true),
 (.bin .lss 3 1 (I 0),.bool false),
 (.bin .eql 3 40 57,.bool false)]
def Hz:dm:=[(62,[33,34,I 3,.bool false],57)]
theorem sG:eV cl bt (at' 57 vR Hz bY (aN lu bt))=some [(0,0),(1,1),(3,3),(37,37),(38,38),(39,39),(40,40),(2,2),(I 4,41),(34,34),(42,42),(43,43),(44,44),(45,45)]:=ag
def AS:aU:=[(.bQ 87 3 1,46),
 (.cV 85 46 (I 3),55),
 (.bh 3 55,33),
 (.bin .gtr 3 33 (I 0),.bool true),
 (.bin .gtr 3 40 (I 0),.bool false)]
theorem uM:eV cl bt (at' 57 AS [] bY (aN lu bt))=some [(0,0),(1,1),(3,3),(37,37),(38,38),(39,39),(40,40),(2,2),(I 4,41),(34,34),(42,42),(43,43),(44,44),(45,45)]:=ag
def zv:aU:=[(.bQ 87 3 1,46),
 (.cV 85 46 (I 3),55),
 (.bh 3 55,33),
 (.bin .gtr 3 33 (I 0),.bool false)]
theorem sM:eV cl bt (at' 57 zv [] bY (aN lu bt))=some [(0,0),(1,1),(3,3),(37,37),(38,38),(39,39),(40,40),(2,2),(I 4,41),(34,34),(42,42),(43,43),(44,44),(45,45)]:=ag
def uV:ax:=bm [(20,I 4),(19,.agg ⟨[37,38,39,40]⟩),(7,bj 0 0),(6,34),(3,3),(2,2),(1,1),(0,0)]
theorem ry:bF (aN cl bt) uV bt=some [(0,0),(1,1),(3,3),(37,37),(38,38),(39,39),(40,40),(2,2),(41,I 4),(34,34),(42,42),(43,43),(44,44),(45,45)]:=ag
def zw:aU:=[(.bin .neq 85 (.agg ⟨[42,43,44,45]⟩) (.agg ⟨[I 0,I 0,I 0,I 0]⟩),.bool false)]
theorem pe:fu Tryd.prog Tryd.f60 (jf 57 zw [] fJ (at' 57 [] [] bY (aN uV bt)))=some (.tuple ⟨[]⟩):=ag
def yf:aU:=[(.bin .neq 85 (.agg ⟨[42,43,44,45]⟩) (.agg ⟨[I 0,I 0,I 0,I 0]⟩),.bool true),
 (.bh 34 2,28)]
theorem uT:eW (jf 57 yf [] fJ (at' 57 [] [] bY (aN uV bt)))=some (63,[28,0,.agg ⟨[42,43,44,45]⟩]):=ag
abbrev eT:=jf 57 yf [] fJ (at' 57 [] [] bY (aN uV bt))
def cY:List bG:=[]
def c8:ax:=bm []
def c0:ax:=dS 57 c8 56 (.tuple ⟨[]⟩)
theorem xe:bF (hQ Tryd.prog eT) c8 cY=some []:=ag
def c5:ct:=(body,[1,1,1,1,2],4)
theorem Hg:fu Tryd.prog Tryd.f60 (bD 57 [] [] c5 (aN c0 cY))=some (.tuple ⟨[]⟩):=ag
@[reducible] noncomputable def a6 (aQ:List e2) (cZ:bH) (cT:Nat) (gone:List Nat) (dX:bH) (dY:Nat) (au:List cc) (bT:bH) (bU bV:Nat) (lit:List Int) (dn:bH) (dp dq:Nat) (table:List dx) (cq:bH) (du cr aJ:Nat) (xa:Nat->ad) (av:Nat->ad) (xc:Nat->ad) (nv:Nat->ad) (dg eC:Nat) (x:e2) (n:Nat) (dW:Int) (i:Nat:=0) (hE:Int:=0) (eU:Int:=0) (fj:Int:=0) (gu:Int:=0) (vS:List e2:=[]) (hd:bH:=none) (hf:Nat:=0) (vT:List Nat:=[]) (kk:bH:=none) (kl:Nat:=0):List ad:=[I ((n:Nat):Int),I dW,bj dg 0,bj eC 0,aO cZ aQ cT,aO dX gone dY,.slice bT bU bV,.slice dn dp dq,.slice cq du cr,xa 0,xa 1,xa 2,xa 3,xa 4,xa 5,xa 6,xa 7,xa 8,xa 9,xa 10,xa 11,xa 12,av 0,av 1,xc 0,xc 1,nv 0,nv 1,bj aJ 0,I ((x.1:Nat):Int),I x.2.1,I x.2.2.1,I x.2.2.2.1,I x.2.2.2.2,I (bA table (lit.aD n)).2.2.2.2.1,bj aJ 17,fM (.slice bT bU bV) (n*4),I (au.aD (n)).1,I (au.aD (n)).2.1,I (au.aD (n)).2.2.1,I (au.aD (n)).2.2.2,I ((i:Nat):Int),I hE,I eU,I fj,I gu,bj eC 1,I (given x.2.1 (bA table (lit.aD n)).2.2.2.2.1 0 true),I (given x.2.1 (bA table (lit.aD n)).2.2.2.2.1 0 false),bj eC 2,I (given x.2.2.1 (bA table (lit.aD n)).2.2.2.2.1 1 true),I (given x.2.2.1 (bA table (lit.aD n)).2.2.2.2.1 1 false),bj eC 3,I (given x.2.2.2.1 (bA table (lit.aD n)).2.2.2.2.1 2 true),I (given x.2.2.2.1 (bA table (lit.aD n)).2.2.2.2.1 2 false),bj eC 4,I (given x.2.2.2.2 (bA table (lit.aD n)).2.2.2.2.1 3 true),I (given x.2.2.2.2 (bA table (lit.aD n)).2.2.2.2.1 3 false),aO hd vS hf,aO kk vT kl]
theorem any (W:aG) {aQ:List e2} {cZ:bH} {cT:Nat} {gone:List Nat} {dX:bH} {dY:Nat} {au:List cc} {bT:bH} {bU bV:Nat} {lit:List Int} {dn:bH} {dp dq:Nat} {table:List dx} {cq:bH} {du cr aJ:Nat} {xa:Nat->ad} {av:Nat->ad} {xc:Nat->ad} {nv:Nat->ad} {dg eC:Nat} {x:e2} (gm:dO (a7 W) [pL cZ aQ cT,uI dX gone dY,mj bT bU bV au,j4 dn dp dq lit,rq cq du cr table,cb aJ 80 [xa 0,xa 1,xa 2,xa 3,xa 4,xa 5,xa 6,xa 7,xa 8,xa 9,xa 10,xa 11,xa 12,.slice dn dp dq,av 0,av 1,.slice cq du cr,.slice bT bU bV,xc 0,xc 1,aO cZ aQ cT,aO dX gone dY,nv 0,nv 1],cb dg 34 [bj aJ 0],cb eC 87 [I ((x.1:Nat):Int),I x.2.1,I x.2.2.1,I x.2.2.2.1,I x.2.2.2.2]]) (n:Nat) (dW:Int) (aT:n<au.length) (lk:n<lit.length) (hlen:aQ.length<=300000) (FY:gone.length<=300000) (Xx:0<=x.2.1/\x.2.1<=15/\0<=x.2.2.1/\x.2.2.1<=15/\0<=x.2.2.2.1/\x.2.2.2.1<=15/\0<=x.2.2.2.2/\x.2.2.2.2<=15) (gg:1<=(bA table (lit.aD n)).2.2.2.2.1/\(bA table (lit.aD n)).2.2.2.2.1<=16):Calls Tryd.prog 60 #[I ((n:Nat):Int),I dW,bj dg 0,bj eC 0] W λe w'=>(∃y:fa×fa,e= .returned (.tuple #[])/\dw (a7 W) [pL cZ aQ cT,uI dX gone dY,mj bT bU bV au,j4 dn dp dq lit,rq cq du cr table,cb aJ 80 [xa 0,xa 1,xa 2,xa 3,xa 4,xa 5,xa 6,xa 7,xa 8,xa 9,xa 10,xa 11,xa 12,.slice dn dp dq,av 0,av 1,.slice cq du cr,.slice bT bU bV,xc 0,xc 1,aO cZ aQ cT,aO dX gone dY,nv 0,nv 1],cb dg 34 [bj aJ 0],cb eC 87 [I ((x.1:Nat):Int),I x.2.1,I x.2.2.1,I x.2.2.2.1,I x.2.2.2.2]] (a7 w') [kd rl 5 pK (.slice y.1.1 (xd aQ n (pN (bA table (lit.aD n)).2.2.2.2.1 x.2 (au.aD n) dW)).length y.1.2) (xd aQ n (pN (bA table (lit.aD n)).2.2.2.2.1 x.2 (au.aD n) dW)),fY nO 1 mD (.slice y.2.1 (uL gone n (pN (bA table (lit.aD n)).2.2.2.2.1 x.2 (au.aD n) dW)).length y.2.2) (uL gone n (pN (bA table (lit.aD n)).2.2.2.2.1 x.2 (au.aD n) dW)),fY oK 4 kh (.slice bT bU bV) (yd au n (pN (bA table (lit.aD n)).2.2.2.2.1 x.2 (au.aD n) dW)),j4 dn dp dq lit,rq cq du cr table,cb aJ lF (List.set (List.set [xa 0,xa 1,xa 2,xa 3,xa 4,xa 5,xa 6,xa 7,xa 8,xa 9,xa 10,xa 11,xa 12,.slice dn dp dq,av 0,av 1,.slice cq du cr,.slice bT bU bV,xc 0,xc 1,aO cZ aQ cT,aO dX gone dY,nv 0,nv 1] 20 (.slice y.1.1 (xd aQ n (pN (bA table (lit.aD n)).2.2.2.2.1 x.2 (au.aD n) dW)).length y.1.2)) 21 (.slice y.2.1 (uL gone n (pN (bA table (lit.aD n)).2.2.2.2.1 x.2 (au.aD n) dW)).length y.2.2)),cb dg x8 [bj aJ 0],cb eC Xc [I ((x.1:Nat):Int),I x.2.1,I x.2.2.1,I x.2.2.2.1,I x.2.2.2.2]])/\cO 0 W w':=by
 refine lg (a6 aQ cZ cT gone dX dY au bT bU bV lit dn dp dq table cq du cr aJ xa av xc nv dg eC x n dW) body aZ N [al 0,al 1,al 2,al 3] Tryd.func60 λa ae=> ?_
 letI:=bE ae;have a_:=cC.start W _ gm;refine br bz h2 (U (cu 0 6 a_) (U dB (U (b1 45 17 1) (U (cu 17 5 a_) (U (f' ((a_.arr 2 rfl).arr eH) kg kS) (U (aW.p_ ((a_.arr 2 rfl).arr eH) (f_ n) J J GD kS J J J) aB)))))) (cv (Xd (xa:=h0 [xa 0,xa 1,xa 2,xa 3,xa 4,xa 5,xa 6,xa 7,xa 8,xa 9,xa 10,xa 11,xa 12,.slice dn dp dq,av 0,av 1,.slice cq du cr,.slice bT bU bV,xc 0,xc 1,aO cZ aQ cT,aO dX gone dY,nv 0,nv 1] 0) (av:=h0 [xa 0,xa 1,xa 2,xa 3,xa 4,xa 5,xa 6,xa 7,xa 8,xa 9,xa 10,xa 11,xa 12,.slice dn dp dq,av 0,av 1,.slice cq du cr,.slice bT bU bV,xc 0,xc 1,aO cZ aQ cT,aO dX gone dY,nv 0,nv 1] 14) (xc:=h0 [xa 0,xa 1,xa 2,xa 3,xa 4,xa 5,xa 6,xa 7,xa 8,xa 9,xa 10,xa 11,xa 12,.slice dn dp dq,av 0,av 1,.slice cq du cr,.slice bT bU bV,xc 0,xc 1,aO cZ aQ cT,aO dX gone dY,nv 0,nv 1] 17) J J J J (a_.box 5 rfl) ((a_.arr 3 rfl).arr j2) ((a_.arr 4 rfl).arr B') lk) aC) ?_ ae;refine nP (fW:=(λ(⟨i,hE,eU,fj,gu⟩:Nat×Int×Int×Int×Int)=>bc (a7 W) (a6 aQ cZ cT gone dX dY au bT bU bV lit dn dp dq table cq du cr aJ xa av xc nv dg eC x n dW i hE eU fj gu))) (λ(⟨i,hE,eU,fj,gu⟩:Nat×Int×Int×Int×Int)=>i<=4/\(hE=if 0<i then qk (bA table (lit.aD n)).2.2.2.2.1 x.2 (au.aD n) dW 0 else 0)/\(eU=if 1<i then qk (bA table (lit.aD n)).2.2.2.2.1 x.2 (au.aD n) dW 1 else 0)/\(fj=if 2<i then qk (bA table (lit.aD n)).2.2.2.2.1 x.2 (au.aD n) dW 2 else 0)/\(gu=if 3<i then qk (bA table (lit.aD n)).2.2.2.2.1 x.2 (au.aD n) dW 3 else 0)) (λ(⟨i,hE,eU,fj,gu⟩:Nat×Int×Int×Int×Int)=>4-i) ⟨0,0,0,0,0⟩ b4 b7 (λ_ _ h=>h) (by exact⟨aj,rfl,rfl,rfl,rfl⟩) ?_;intro⟨i,hE,eU,fj,gu⟩ aK ch w ae;letI:=bE ae;refine nK bs cw ?_;have PN:=aK.1;rcases(show i=0\/i=1\/i=2\/i=3\/i=4 by omega) with fb|fb|fb|fb|fb
 ·replace ae:=Here.nQ (bc (a7 W) (a6 aQ cZ cT gone dX dY au bT bU bV lit dn dp dq table cq du cr aJ xa av xc nv dg eC x n dW i hE eU fj gu)) dD b7 ae
  by_cases lM:0<x.2.1
  ·by_cases jc:0<(au.aD (n)).1
   ·by_cases hY:dW<0
    ·by_cases oa:(au.aD (n)).1=(given x.2.1 (bA table (lit.aD n)).2.2.2.2.1 0 true)
     ·refine br cp hR (U (b1 85 1 4) (U (aW.kO (g:=eC) (o:=1) (j:=0) (n:=4) (e:=3) (sz:=1) J J J ag ag J J aL rfl) (U (cu 1 7 a_) (U bf (U bf (U bf (U bf aB))))))) (cv (nr J J J J aj) aC) ?_ ae
      exact e3 ⟨1,(au.aD (n)).1,eU,fj,gu⟩ hq b7 (by subst fb;obtain⟨_,ea,q1,aI,bS⟩:=aK;refine⟨aj,?_,?_,?_,?_⟩;all_goals first|(rw[aV aL];exact q1.trans (aV aL))|(rw[aV aL];exact aI.trans (aV aL))|(rw[aV aL];exact bS.trans (aV aL))|(rw[aP aL];exact WZ (gO aY) aY aY aY))
     ·refine br dh lq (U (b1 85 1 4) (U (aW.kO (g:=eC) (o:=1) (j:=0) (n:=4) (e:=3) (sz:=1) J J J ag ag J J aL rfl) (U (cu 1 7 a_) (U bf (U bf (U bf (U a' aB))))))) (cv (nr J J J J aj) aC) ?_ ae
      exact e3 ⟨1,hE,eU,fj,gu⟩ ka b7 (by subst fb;obtain⟨_,ea,q1,aI,bS⟩:=aK;refine⟨aj,?_,?_,?_,?_⟩;all_goals first|(rw[aV aL];exact q1.trans (aV aL))|(rw[aV aL];exact aI.trans (aV aL))|(rw[aV aL];exact bS.trans (aV aL))|(rw[aP aL];exact(ea.trans (aV aL)).trans (KX λa b d=>by (rw[gO aY] at d;exact absurd d aY))))
    ·by_cases oa:(au.aD (n)).1=(given x.2.1 (bA table (lit.aD n)).2.2.2.2.1 0 false)
     ·refine br d' kb (U (b1 85 1 4) (U (aW.kO (g:=eC) (o:=1) (j:=0) (n:=4) (e:=3) (sz:=1) J J J ag ag J J aL rfl) (U (cu 1 7 a_) (U bf (U bf (U a' (U bf aB))))))) (cv (nr J J J J aj) aC) ?_ ae
      exact e3 ⟨1,(au.aD (n)).1,eU,fj,gu⟩ gy b7 (by subst fb;obtain⟨_,ea,q1,aI,bS⟩:=aK;refine⟨aj,?_,?_,?_,?_⟩;all_goals first|(rw[aV aL];exact q1.trans (aV aL))|(rw[aV aL];exact aI.trans (aV aL))|(rw[aV aL];exact bS.trans (aV aL))|(rw[aP aL];exact WZ (dT aY) aY aY aY))
     ·refine br eS nW (U (b1 85 1 4) (U (aW.kO (g:=eC) (o:=1) (j:=0) (n:=4) (e:=3) (sz:=1) J J J ag ag J J aL rfl) (U (cu 1 7 a_) (U bf (U bf (U a' (U a' aB))))))) (cv (nr J J J J aj) aC) ?_ ae
      exact e3 ⟨1,hE,eU,fj,gu⟩ iC b7 (by subst fb;obtain⟨_,ea,q1,aI,bS⟩:=aK;refine⟨aj,?_,?_,?_,?_⟩;all_goals first|(rw[aV aL];exact q1.trans (aV aL))|(rw[aV aL];exact aI.trans (aV aL))|(rw[aV aL];exact bS.trans (aV aL))|(rw[aP aL];exact(ea.trans (aV aL)).trans (KX λa b d=>by (rw[dT aY] at d;exact absurd d aY))))
   ·refine br fq [] (U (b1 85 1 4) (U (aW.kO (g:=eC) (o:=1) (j:=0) (n:=4) (e:=3) (sz:=1) J J J ag ag J J aL rfl) (U (cu 1 7 a_) (U bf (U a' aB))))) aC ?_ ae
    exact e3 ⟨1,hE,eU,fj,gu⟩ lA b7 (by subst fb;obtain⟨_,ea,q1,aI,bS⟩:=aK;refine⟨aj,?_,?_,?_,?_⟩;all_goals first|(rw[aV aL];exact q1.trans (aV aL))|(rw[aV aL];exact aI.trans (aV aL))|(rw[aV aL];exact bS.trans (aV aL))|(rw[aP aL];exact(ea.trans (aV aL)).trans (KX λa b d=>by exact absurd b aY)))
  ·refine br hs [] (U (b1 85 1 4) (U (aW.kO (g:=eC) (o:=1) (j:=0) (n:=4) (e:=3) (sz:=1) J J J ag ag J J aL rfl) (U (cu 1 7 a_) (U a' aB)))) aC ?_ ae
   exact e3 ⟨1,hE,eU,fj,gu⟩ np b7 (by subst fb;obtain⟨_,ea,q1,aI,bS⟩:=aK;refine⟨aj,?_,?_,?_,?_⟩;all_goals first|(rw[aV aL];exact q1.trans (aV aL))|(rw[aV aL];exact aI.trans (aV aL))|(rw[aV aL];exact bS.trans (aV aL))|(rw[aP aL];exact(ea.trans (aV aL)).trans (KX λa b d=>by exact absurd a aY)))
 ·replace ae:=Here.nQ (bc (a7 W) (a6 aQ cZ cT gone dX dY au bT bU bV lit dn dp dq table cq du cr aJ xa av xc nv dg eC x n dW i hE eU fj gu)) k2 b7 ae
  by_cases lM:0<x.2.2.1
  ·by_cases jc:0<(au.aD (n)).2.1
   ·by_cases hY:dW<0
    ·by_cases oa:(au.aD (n)).2.1=(given x.2.2.1 (bA table (lit.aD n)).2.2.2.2.1 1 true)
     ·refine br hN vM (U (b1 85 1 4) (U (aW.kO (g:=eC) (o:=1) (j:=1) (n:=4) (e:=3) (sz:=1) J J J ag ag J J aL rfl) (U (cu 2 7 a_) (U bf (U bf (U bf (U bf aB))))))) (cv (nr J J J J aj) aC) ?_ ae
      exact e3 ⟨2,hE,(au.aD (n)).2.1,fj,gu⟩ lV b7 (by subst fb;obtain⟨_,ea,q1,aI,bS⟩:=aK;refine⟨aj,?_,?_,?_,?_⟩;all_goals first|(rw[aP aL];exact ea.trans (aP aL))|(rw[aV aL];exact aI.trans (aV aL))|(rw[aV aL];exact bS.trans (aV aL))|(rw[aP aL];exact W0 (gO aY) aY aY aY))
     ·refine br hS sI (U (b1 85 1 4) (U (aW.kO (g:=eC) (o:=1) (j:=1) (n:=4) (e:=3) (sz:=1) J J J ag ag J J aL rfl) (U (cu 2 7 a_) (U bf (U bf (U bf (U a' aB))))))) (cv (nr J J J J aj) aC) ?_ ae
      exact e3 ⟨2,hE,eU,fj,gu⟩ jS b7 (by subst fb;obtain⟨_,ea,q1,aI,bS⟩:=aK;refine⟨aj,?_,?_,?_,?_⟩;all_goals first|(rw[aP aL];exact ea.trans (aP aL))|(rw[aV aL];exact aI.trans (aV aL))|(rw[aV aL];exact bS.trans (aV aL))|(rw[aP aL];exact(q1.trans (aV aL)).trans (KY λa b d=>by (rw[gO aY] at d;exact absurd d aY))))
    ·by_cases oa:(au.aD (n)).2.1=(given x.2.2.1 (bA table (lit.aD n)).2.2.2.2.1 1 false)
     ·refine br jT AQ (U (b1 85 1 4) (U (aW.kO (g:=eC) (o:=1) (j:=1) (n:=4) (e:=3) (sz:=1) J J J ag ag J J aL rfl) (U (cu 2 7 a_) (U bf (U bf (U a' (U bf aB))))))) (cv (nr J J J J aj) aC) ?_ ae
      exact e3 ⟨2,hE,(au.aD (n)).2.1,fj,gu⟩ pb b7 (by subst fb;obtain⟨_,ea,q1,aI,bS⟩:=aK;refine⟨aj,?_,?_,?_,?_⟩;all_goals first|(rw[aP aL];exact ea.trans (aP aL))|(rw[aV aL];exact aI.trans (aV aL))|(rw[aV aL];exact bS.trans (aV aL))|(rw[aP aL];exact W0 (dT aY) aY aY aY))
     ·refine br jx Hs (U (b1 85 1 4) (U (aW.kO (g:=eC) (o:=1) (j:=1) (n:=4) (e:=3) (sz:=1) J J J ag ag J J aL rfl) (U (cu 2 7 a_) (U bf (U bf (U a' (U a' aB))))))) (cv (nr J J J J aj) aC) ?_ ae
      exact e3 ⟨2,hE,eU,fj,gu⟩ xg b7 (by subst fb;obtain⟨_,ea,q1,aI,bS⟩:=aK;refine⟨aj,?_,?_,?_,?_⟩;all_goals first|(rw[aP aL];exact ea.trans (aP aL))|(rw[aV aL];exact aI.trans (aV aL))|(rw[aV aL];exact bS.trans (aV aL))|(rw[aP aL];exact(q1.trans (aV aL)).trans (KY λa b d=>by (rw[dT aY] at d;exact absurd d aY))))
   ·refine br kD [] (U (b1 85 1 4) (U (aW.kO (g:=eC) (o:=1) (j:=1) (n:=4) (e:=3) (sz:=1) J J J ag ag J J aL rfl) (U (cu 2 7 a_) (U bf (U a' aB))))) aC ?_ ae
    exact e3 ⟨2,hE,eU,fj,gu⟩ pg b7 (by subst fb;obtain⟨_,ea,q1,aI,bS⟩:=aK;refine⟨aj,?_,?_,?_,?_⟩;all_goals first|(rw[aP aL];exact ea.trans (aP aL))|(rw[aV aL];exact aI.trans (aV aL))|(rw[aV aL];exact bS.trans (aV aL))|(rw[aP aL];exact(q1.trans (aV aL)).trans (KY λa b d=>by exact absurd b aY)))
  ·refine br mI [] (U (b1 85 1 4) (U (aW.kO (g:=eC) (o:=1) (j:=1) (n:=4) (e:=3) (sz:=1) J J J ag ag J J aL rfl) (U (cu 2 7 a_) (U a' aB)))) aC ?_ ae
   exact e3 ⟨2,hE,eU,fj,gu⟩ sK b7 (by subst fb;obtain⟨_,ea,q1,aI,bS⟩:=aK;refine⟨aj,?_,?_,?_,?_⟩;all_goals first|(rw[aP aL];exact ea.trans (aP aL))|(rw[aV aL];exact aI.trans (aV aL))|(rw[aV aL];exact bS.trans (aV aL))|(rw[aP aL];exact(q1.trans (aV aL)).trans (KY λa b d=>by exact absurd a aY)))
 ·replace ae:=Here.nQ (bc (a7 W) (a6 aQ cZ cT gone dX dY au bT bU bV lit dn dp dq table cq du cr aJ xa av xc nv dg eC x n dW i hE eU fj gu)) ru b7 ae
  by_cases lM:0<x.2.2.2.1
  ·by_cases jc:0<(au.aD (n)).2.2.1
   ·by_cases hY:dW<0
    ·by_cases oa:(au.aD (n)).2.2.1=(given x.2.2.2.1 (bA table (lit.aD n)).2.2.2.2.1 2 true)
     ·refine br lX Ht (U (b1 85 1 4) (U (aW.kO (g:=eC) (o:=1) (j:=2) (n:=4) (e:=3) (sz:=1) J J J ag ag J J aL rfl) (U (cu 3 7 a_) (U bf (U bf (U bf (U bf aB))))))) (cv (nr J J J J aj) aC) ?_ ae
      exact e3 ⟨3,hE,eU,(au.aD (n)).2.2.1,gu⟩ lW b7 (by subst fb;obtain⟨_,ea,q1,aI,bS⟩:=aK;refine⟨aj,?_,?_,?_,?_⟩;all_goals first|(rw[aP aL];exact ea.trans (aP aL))|(rw[aP aL];exact q1.trans (aP aL))|(rw[aV aL];exact bS.trans (aV aL))|(rw[aP aL];exact W1 (gO aY) aY aY aY))
     ·refine br nu Hu (U (b1 85 1 4) (U (aW.kO (g:=eC) (o:=1) (j:=2) (n:=4) (e:=3) (sz:=1) J J J ag ag J J aL rfl) (U (cu 3 7 a_) (U bf (U bf (U bf (U a' aB))))))) (cv (nr J J J J aj) aC) ?_ ae
      exact e3 ⟨3,hE,eU,fj,gu⟩ om b7 (by subst fb;obtain⟨_,ea,q1,aI,bS⟩:=aK;refine⟨aj,?_,?_,?_,?_⟩;all_goals first|(rw[aP aL];exact ea.trans (aP aL))|(rw[aP aL];exact q1.trans (aP aL))|(rw[aV aL];exact bS.trans (aV aL))|(rw[aP aL];exact(aI.trans (aV aL)).trans (KZ λa b d=>by (rw[gO aY] at d;exact absurd d aY))))
    ·by_cases oa:(au.aD (n)).2.2.1=(given x.2.2.2.1 (bA table (lit.aD n)).2.2.2.2.1 2 false)
     ·refine br s3 AR (U (b1 85 1 4) (U (aW.kO (g:=eC) (o:=1) (j:=2) (n:=4) (e:=3) (sz:=1) J J J ag ag J J aL rfl) (U (cu 3 7 a_) (U bf (U bf (U a' (U bf aB))))))) (cv (nr J J J J aj) aC) ?_ ae
      exact e3 ⟨3,hE,eU,(au.aD (n)).2.2.1,gu⟩ nt b7 (by subst fb;obtain⟨_,ea,q1,aI,bS⟩:=aK;refine⟨aj,?_,?_,?_,?_⟩;all_goals first|(rw[aP aL];exact ea.trans (aP aL))|(rw[aP aL];exact q1.trans (aP aL))|(rw[aV aL];exact bS.trans (aV aL))|(rw[aP aL];exact W1 (dT aY) aY aY aY))
     ·refine br uW Hv (U (b1 85 1 4) (U (aW.kO (g:=eC) (o:=1) (j:=2) (n:=4) (e:=3) (sz:=1) J J J ag ag J J aL rfl) (U (cu 3 7 a_) (U bf (U bf (U a' (U a' aB))))))) (cv (nr J J J J aj) aC) ?_ ae
      exact e3 ⟨3,hE,eU,fj,gu⟩ ot b7 (by subst fb;obtain⟨_,ea,q1,aI,bS⟩:=aK;refine⟨aj,?_,?_,?_,?_⟩;all_goals first|(rw[aP aL];exact ea.trans (aP aL))|(rw[aP aL];exact q1.trans (aP aL))|(rw[aV aL];exact bS.trans (aV aL))|(rw[aP aL];exact(aI.trans (aV aL)).trans (KZ λa b d=>by (rw[dT aY] at d;exact absurd d aY))))
   ·refine br uX [] (U (b1 85 1 4) (U (aW.kO (g:=eC) (o:=1) (j:=2) (n:=4) (e:=3) (sz:=1) J J J ag ag J J aL rfl) (U (cu 3 7 a_) (U bf (U a' aB))))) aC ?_ ae
    exact e3 ⟨3,hE,eU,fj,gu⟩ uU b7 (by subst fb;obtain⟨_,ea,q1,aI,bS⟩:=aK;refine⟨aj,?_,?_,?_,?_⟩;all_goals first|(rw[aP aL];exact ea.trans (aP aL))|(rw[aP aL];exact q1.trans (aP aL))|(rw[aV aL];exact bS.trans (aV aL))|(rw[aP aL];exact(aI.trans (aV aL)).trans (KZ λa b d=>by exact absurd b aY)))
  ·refine br uY [] (U (b1 85 1 4) (U (aW.kO (g:=eC) (o:=1) (j:=2) (n:=4) (e:=3) (sz:=1) J J J ag ag J J aL rfl) (U (cu 3 7 a_) (U a' aB)))) aC ?_ ae
   exact e3 ⟨3,hE,eU,fj,gu⟩ sL b7 (by subst fb;obtain⟨_,ea,q1,aI,bS⟩:=aK;refine⟨aj,?_,?_,?_,?_⟩;all_goals first|(rw[aP aL];exact ea.trans (aP aL))|(rw[aP aL];exact q1.trans (aP aL))|(rw[aV aL];exact bS.trans (aV aL))|(rw[aP aL];exact(aI.trans (aV aL)).trans (KZ λa b d=>by exact absurd a aY)))
 ·replace ae:=Here.nQ (bc (a7 W) (a6 aQ cZ cT gone dX dY au bT bU bV lit dn dp dq table cq du cr aJ xa av xc nv dg eC x n dW i hE eU fj gu)) sF b7 ae
  by_cases lM:0<x.2.2.2.2
  ·by_cases jc:0<(au.aD (n)).2.2.2
   ·by_cases hY:dW<0
    ·by_cases oa:(au.aD (n)).2.2.2=(given x.2.2.2.2 (bA table (lit.aD n)).2.2.2.2.1 3 true)
     ·refine br vO Hw (U (b1 85 1 4) (U (aW.kO (g:=eC) (o:=1) (j:=3) (n:=4) (e:=3) (sz:=1) J J J ag ag J J aL rfl) (U (cu 4 7 a_) (U bf (U bf (U bf (U bf aB))))))) (cv (nr J J J J aj) aC) ?_ ae
      exact e3 ⟨4,hE,eU,fj,(au.aD (n)).2.2.2⟩ ql b7 (by subst fb;obtain⟨_,ea,q1,aI,bS⟩:=aK;refine⟨aj,?_,?_,?_,?_⟩;all_goals first|(rw[aP aL];exact ea.trans (aP aL))|(rw[aP aL];exact q1.trans (aP aL))|(rw[aP aL];exact aI.trans (aP aL))|(rw[aP aL];exact W2 (gO aY) aY aY aY))
     ·refine br vP Hx (U (b1 85 1 4) (U (aW.kO (g:=eC) (o:=1) (j:=3) (n:=4) (e:=3) (sz:=1) J J J ag ag J J aL rfl) (U (cu 4 7 a_) (U bf (U bf (U bf (U a' aB))))))) (cv (nr J J J J aj) aC) ?_ ae
      exact e3 ⟨4,hE,eU,fj,gu⟩ pd b7 (by subst fb;obtain⟨_,ea,q1,aI,bS⟩:=aK;refine⟨aj,?_,?_,?_,?_⟩;all_goals first|(rw[aP aL];exact ea.trans (aP aL))|(rw[aP aL];exact q1.trans (aP aL))|(rw[aP aL];exact aI.trans (aP aL))|(rw[aP aL];exact(bS.trans (aV aL)).trans (K0 λa b d=>by (rw[gO aY] at d;exact absurd d aY))))
    ·by_cases oa:(au.aD (n)).2.2.2=(given x.2.2.2.2 (bA table (lit.aD n)).2.2.2.2.1 3 false)
     ·refine br vQ Hy (U (b1 85 1 4) (U (aW.kO (g:=eC) (o:=1) (j:=3) (n:=4) (e:=3) (sz:=1) J J J ag ag J J aL rfl) (U (cu 4 7 a_) (U bf (U bf (U a' (U bf aB))))))) (cv (nr J J J J aj) aC) ?_ ae
      exact e3 ⟨4,hE,eU,fj,(au.aD (n)).2.2.2⟩ qm b7 (by subst fb;obtain⟨_,ea,q1,aI,bS⟩:=aK;refine⟨aj,?_,?_,?_,?_⟩;all_goals first|(rw[aP aL];exact ea.trans (aP aL))|(rw[aP aL];exact q1.trans (aP aL))|(rw[aP aL];exact aI.trans (aP aL))|(rw[aP aL];exact W2 (dT aY) aY aY aY))
     ·refine br vR Hz (U (b1 85 1 4) (U (aW.kO (g:=eC) (o:=1) (j:=3) (n:=4) (e:=3) (sz:=1) J J J ag ag J J aL rfl) (U (cu 4 7 a_) (U bf (U bf (U a' (U a' aB))))))) (cv (nr J J J J aj) aC) ?_ ae
      exact e3 ⟨4,hE,eU,fj,gu⟩ sG b7 (by subst fb;obtain⟨_,ea,q1,aI,bS⟩:=aK;refine⟨aj,?_,?_,?_,?_⟩;all_goals first|(rw[aP aL];exact ea.trans (aP aL))|(rw[aP aL];exact q1.trans (aP aL))|(rw[aP aL];exact aI.trans (aP aL))|(rw[aP aL];exact(bS.trans (aV aL)).trans (K0 λa b d=>by (rw[dT aY] at d;exact absurd d aY))))
   ·refine br AS [] (U (b1 85 1 4) (U (aW.kO (g:=eC) (o:=1) (j:=3) (n:=4) (e:=3) (sz:=1) J J J ag ag J J aL rfl) (U (cu 4 7 a_) (U bf (U a' aB))))) aC ?_ ae
    exact e3 ⟨4,hE,eU,fj,gu⟩ uM b7 (by subst fb;obtain⟨_,ea,q1,aI,bS⟩:=aK;refine⟨aj,?_,?_,?_,?_⟩;all_goals first|(rw[aP aL];exact ea.trans (aP aL))|(rw[aP aL];exact q1.trans (aP aL))|(rw[aP aL];exact aI.trans (aP aL))|(rw[aP aL];exact(bS.trans (aV aL)).trans (K0 λa b d=>by exact absurd b aY)))
  ·refine br zv [] (U (b1 85 1 4) (U (aW.kO (g:=eC) (o:=1) (j:=3) (n:=4) (e:=3) (sz:=1) J J J ag ag J J aL rfl) (U (cu 4 7 a_) (U a' aB)))) aC ?_ ae
   exact e3 ⟨4,hE,eU,fj,gu⟩ sM b7 (by subst fb;obtain⟨_,ea,q1,aI,bS⟩:=aK;refine⟨aj,?_,?_,?_,?_⟩;all_goals first|(rw[aP aL];exact ea.trans (aP aL))|(rw[aP aL];exact q1.trans (aP aL))|(rw[aP aL];exact aI.trans (aP aL))|(rw[aP aL];exact(bS.trans (aV aL)).trans (K0 λa b d=>by exact absurd a aY)))
 ·replace ae:=Here.nQ (bc (a7 W) (a6 aQ cZ cT gone dX dY au bT bU bV lit dn dp dq table cq du cr aJ xa av xc nv dg eC x n dW i hE eU fj gu)) ry b7 ae
  refine br [] [] aB aC ?_ ae;by_cases ea:((hE,eU,fj,gu):cc)=((0,0,0,0):cc)
  ·refine j3 zw [] (U (WY J J J J (by rw[gO ea];rfl)) aB) aC ?_
   exact b2 pe λw2 bk=>(by obtain⟨_,ea,q1,aI,bS⟩:=aK;have dR:=W3 (ea.trans (aP aj)) (q1.trans (aP aj)) (aI.trans (aP aj)) (bS.trans (aP aj));rw[<-dR];clear dR ea q1 aI bS;(obtain⟨bs,cw,dD⟩:=af2 (l:=aQ) (g:=gone) (li:=au) (n:=n) (show ((hE,eU,fj,gu):cc)=z4 by assumption);rw[bs,cw,dD];exact⟨((_,_),(_,_)),rfl,((a_.pick [0,1,2,3,4,5,6,7] rfl).done bk)⟩))
  ·refine j3 yf [] (U (WY J J J J (by rw[dT ea];rfl)) (U (cu 0 6 a_) aB)) aC ?_
   obtain⟨vS,K9⟩:=ey (aQ++[(n,(hE,eU,fj,gu))]);obtain⟨vT,K'⟩:=ey (gone++[n]);obtain⟨K_,La⟩:=ey (au.set n (tG (hE,eU,fj,gu) (au.aD n)));refine e5 (Y:=fa×fa) (bC:=λaF=>(a6 aQ cZ cT gone dX dY au bT bU bV lit dn dp dq table cq du cr aJ xa av xc nv dg eC x n dW i hE eU fj gu vS aF.1.1 aF.1.2 vT aF.2.1 aF.2.2)) a_ [0,1,2,5] (λaF=>[oN _ _ _ aF.1.1 vS aF.1.2,zd _ _ _ aF.2.1 vT aF.2.2,qL _ _ _ bT bU bV K_,cb _ _ [_,_,_,_,_,_,_,_,_,_,_,_,_,_,_,_,_,_,_,_,aO aF.1.1 vS aF.1.2,aO aF.2.1 vT aF.2.2,_,_]]) (λ_=>[]) uT xe (cF c0 (.tuple ⟨[]⟩)) (ez:=λw hw cM ay=>by rw[K9,K',La];exact PH.any (xa:=h0 [xa 0,xa 1,xa 2,xa 3,xa 4,xa 5,xa 6,xa 7,xa 8,xa 9,xa 10,xa 11,xa 12,.slice dn dp dq,av 0,av 1,.slice cq du cr] 0) (av:=xc) (xc:=nv) _ ay n (hE,eU,fj,gu) aT aj aj) (rest:= ?_);intro fN ⟨⟨hd,hf⟩,⟨kk,kl⟩⟩ bP ch w ae;replace bP:=bP.G3;letI:=bE ae;refine cm (cn c5) [] [] aB aC ?_ ae;exact b2 Hg λw2 bk=>(by obtain⟨_,ea,q1,aI,bS⟩:=aK;have dR:=W3 (ea.trans (aP aj)) (q1.trans (aP aj)) (aI.trans (aP aj)) (bS.trans (aP aj));rw[<-dR];clear dR ea q1 aI bS;(obtain⟨bs,cw,dD⟩:=af3 (l:=aQ) (g:=gone) (li:=au) (n:=n) (show ¬((hE,eU,fj,gu):cc)=z4 by assumption);rw[bs,cw,dD];subst_vars;exact⟨((_,_),(_,_)),rfl,(bP.done bk)⟩))
end Xw
end a1
namespace a1
namespace Xy
noncomputable def body:Code:=(Tryd.f59.body).getD .skip
def N:Nat:=77
def aZ:c6:={sl:=bm [(2,.func (.func 60) ⟨[]⟩ ⟨[2,3]⟩),(1,1),(0,0)],ms:=[],A:=start}
def bz:aU:=[(.dt 0,0),
 (.bQ 80 0 1,33),
 (.bQ 28 33 0,33),
 (.bh 25 33,.agg ⟨[17,18,19,20,21,22]⟩)]
def h2:dm:=[(84,[.agg ⟨[17,18,19,20,21,22]⟩,1],.tuple ⟨[.agg ⟨[34,35,36]⟩,37]⟩)]
def bt:List bG:=[⟨.cells [34,35,36],23,0⟩]
def cl:ax:=bm [(24,38),(6,bj 0 0),(2,.func (.func 60) ⟨[]⟩ ⟨[2,3]⟩),(0,0)]
abbrev fG:=at' 77 bz h2 body aZ
theorem b4:mi cl bt fG=some [(0,0),(2,2),(3,3),(I 0,38),(34,34),(35,35),(36,36)]:=ag
def bY:Code:=nJ body [1,1,4]
def fJ:List hj:=lp body [1,1,4] []
theorem bs:lP fG=bY:=ag
theorem cw:gi fG=fJ:=ag
def cp:aU:=[(.bin .lss 3 38 (I 3),.bool true)]
def e7:List bG:=[⟨.cells [34,35,36],23,0⟩]
def kj:ax:=bm [(28,41),(27,.agg ⟨[I (-1),I 1]⟩),(24,38),(8,38),(6,bj 0 0),(2,.func (.func 60) ⟨[]⟩ ⟨[2,3]⟩),(0,0)]
abbrev qn:=at' 77 cp [] bY (aN cl bt)
theorem dD:mi kj e7 qn=some [(0,0),(2,2),(3,3),(38,38),(38,38),(I 0,41),(34,34),(35,35),(36,36)]:=ag
def gD:Code:=nJ bY [1,1,0,4,1,1,4]
def sJ:List hj:=lp bY [1,1,0,4,1,1,4] []
theorem hq:lP qn=gD:=ag
theorem ka:gi qn=sJ:=ag
def oq:ax:=bm [(28,I 0),(27,.agg ⟨[I (-1),I 1]⟩),(24,38),(8,38),(6,bj 0 0),(2,.func (.func 60) ⟨[]⟩ ⟨[2,3]⟩),(0,0)]
theorem gy:bF (aN kj e7) oq e7=some [(0,0),(2,2),(3,3),(38,38),(38,38),(41,I 0),(34,34),(35,35),(36,36)]:=ag
def dh:aU:=[(.bin .eql 3 38 (I 0),.bool true),
 (.bin .add 3 34 (I (-1)),44),
 (.dt 0,0),
 (.bQ 80 0 1,33),
 (.bQ 28 33 0,33),
 (.bh 25 33,.agg ⟨[17,18,19,20,21,22]⟩)]
def kG:List bG:=[⟨.cells [al 34,al 35,al 36],23,0⟩]
def kH:ax:=bm [(58,.agg ⟨[al 49,al 50,al 51]⟩),(57,.agg ⟨[al 17,al 18,al 19,al 20,al 21,al 22]⟩),(28,al 48),(27,.agg ⟨[I (-1),I 1]⟩),(24,al 38),(12,al 47),(8,al 38),(6,bj 0 0),(2,.func (.func 60) ⟨[]⟩ ⟨[al 2,al 3]⟩),(0,al 0)]
def kI:ct:=(gD,[1,1,0,4,1,1,1,0],6)
def d':aU:=[(.bin .geq 3 52 (I 0),.bool true),
 (.dt 0,0),
 (.bQ 80 0 3,53),
 (.bh 30 53,9),
 (.cV 30 9 52,54),
 (.bh 4 54,55),
 (.cz 55,.bool true)]
def kb:dm:=[(55,[.agg ⟨[17,18,19,20,21,22]⟩,.agg ⟨[49,50,51]⟩],52)]
theorem iC:eW (bD 77 d' kb kI (aN kH kG))=some (60,[52,47,2,3]):=ag
abbrev eT:=bD 77 d' kb kI (aN kH kG)
def cY:List bG:=[⟨.cells [34,35,36],23,0⟩]
def c8:ax:=bm [(28,48),(27,.agg ⟨[I (-1),I 1]⟩),(24,38),(8,38),(6,bj 0 0),(2,.func (.func 60) ⟨[]⟩ ⟨[2,3]⟩),(0,0)]
def c0:ax:=dS 77 c8 74 (.tuple ⟨[]⟩)
theorem k2:bF (hQ Tryd.prog eT) c8 cY=some [(0,0),(2,2),(3,3),(38,38),(38,38),(48,48),(34,34),(35,35),(36,36)]:=ag
def c5:ct:=(gD,[1,1,0,4,1,1,1,1,1,2],4)
def eS:aU:=[(.bin .add 3 48 (I 1),56)]
theorem pg:eV kj e7 (bD 77 eS [] c5 (aN c0 cY))=some [(0,0),(2,2),(3,3),(38,38),(38,38),(56,41),(34,34),(35,35),(36,36)]:=ag
def fq:aU:=[(.bin .geq 3 52 (I 0),.bool true),
 (.dt 0,0),
 (.bQ 80 0 3,53),
 (.bh 30 53,9),
 (.cV 30 9 52,54),
 (.bh 4 54,55),
 (.cz 55,.bool false),
 (.bin .add 3 48 (I 1),56)]
def qN:dm:=[(55,[.agg ⟨[17,18,19,20,21,22]⟩,.agg ⟨[49,50,51]⟩],52)]
theorem sK:eV kj e7 (bD 77 fq qN kI (aN kH kG))=some [(0,0),(2,2),(3,3),(38,38),(38,38),(56,41),(34,34),(35,35),(36,36)]:=ag
def hs:aU:=[(.bin .add 3 48 (I 1),56)]
def mZ:dm:=[(55,[.agg ⟨[17,18,19,20,21,22]⟩,.agg ⟨[49,50,51]⟩],I (-1))]
theorem ru:eV kj e7 (bD 77 hs mZ kI (aN kH kG))=some [(0,0),(2,2),(3,3),(38,38),(38,38),(56,41),(34,34),(35,35),(36,36)]:=ag
theorem lW:qi (at' 77 dh [] gD (aN oq e7))=oM kI:=ag
theorem om:bF (b0 (at' 77 dh [] gD (aN oq e7))) kH kG=some [(0,0),(17,17),(18,18),(19,19),(20,20),(21,21),(22,22),(2,2),(3,3),(38,38),(38,38),(I 0,47),(I 0,48),(44,49),(35,50),(36,51),(34,34),(35,35),(36,36)]:=ag
def hN:aU:=[(.bin .eql 3 38 (I 0),.bool false),
 (.bin .eql 3 38 (I 1),.bool true),
 (.bin .add 3 35 (I (-1)),45),
 (.dt 0,0),
 (.bQ 80 0 1,33),
 (.bQ 28 33 0,33),
 (.bh 25 33,.agg ⟨[17,18,19,20,21,22]⟩)]
theorem nt:qi (at' 77 hN [] gD (aN oq e7))=oM kI:=ag
theorem ot:bF (b0 (at' 77 hN [] gD (aN oq e7))) kH kG=some [(0,0),(17,17),(18,18),(19,19),(20,20),(21,21),(22,22),(2,2),(3,3),(38,38),(38,38),(I 0,47),(I 0,48),(34,49),(45,50),(36,51),(34,34),(35,35),(36,36)]:=ag
def hS:aU:=[(.bin .eql 3 38 (I 0),.bool false),
 (.bin .eql 3 38 (I 1),.bool false),
 (.bin .add 3 36 (I (-1)),46),
 (.dt 0,0),
 (.bQ 80 0 1,33),
 (.bQ 28 33 0,33),
 (.bh 25 33,.agg ⟨[17,18,19,20,21,22]⟩)]
theorem uU:qi (at' 77 hS [] gD (aN oq e7))=oM kI:=ag
theorem sL:bF (b0 (at' 77 hS [] gD (aN oq e7))) kH kG=some [(0,0),(17,17),(18,18),(19,19),(20,20),(21,21),(22,22),(2,2),(3,3),(38,38),(38,38),(I (-1),47),(I 0,48),(34,49),(35,50),(46,51),(34,34),(35,35),(36,36)]:=ag
def lu:ax:=bm [(28,I 1),(27,.agg ⟨[I (-1),I 1]⟩),(24,38),(8,38),(6,bj 0 0),(2,.func (.func 60) ⟨[]⟩ ⟨[2,3]⟩),(0,0)]
theorem sF:bF (aN kj e7) lu e7=some [(0,0),(2,2),(3,3),(38,38),(38,38),(41,I 1),(34,34),(35,35),(36,36)]:=ag
def jT:aU:=[(.bin .eql 3 38 (I 0),.bool true),
 (.bin .add 3 34 (I 1),59),
 (.dt 0,0),
 (.bQ 80 0 1,33),
 (.bQ 28 33 0,33),
 (.bh 25 33,.agg ⟨[17,18,19,20,21,22]⟩)]
theorem ql:qi (at' 77 jT [] gD (aN lu e7))=oM kI:=ag
theorem pd:bF (b0 (at' 77 jT [] gD (aN lu e7))) kH kG=some [(0,0),(17,17),(18,18),(19,19),(20,20),(21,21),(22,22),(2,2),(3,3),(38,38),(38,38),(I 0,47),(I 1,48),(59,49),(35,50),(36,51),(34,34),(35,35),(36,36)]:=ag
def jx:aU:=[(.bin .eql 3 38 (I 0),.bool false),
 (.bin .eql 3 38 (I 1),.bool true),
 (.bin .add 3 35 (I 1),60),
 (.dt 0,0),
 (.bQ 80 0 1,33),
 (.bQ 28 33 0,33),
 (.bh 25 33,.agg ⟨[17,18,19,20,21,22]⟩)]
theorem qm:qi (at' 77 jx [] gD (aN lu e7))=oM kI:=ag
theorem sG:bF (b0 (at' 77 jx [] gD (aN lu e7))) kH kG=some [(0,0),(17,17),(18,18),(19,19),(20,20),(21,21),(22,22),(2,2),(3,3),(38,38),(38,38),(I 0,47),(I 1,48),(34,49),(60,50),(36,51),(34,34),(35,35),(36,36)]:=ag
def kD:aU:=[(.bin .eql 3 38 (I 0),.bool false),
 (.bin .eql 3 38 (I 1),.bool false),
 (.bin .add 3 36 (I 1),61),
 (.dt 0,0),
 (.bQ 80 0 1,33),
 (.bQ 28 33 0,33),
 (.bh 25 33,.agg ⟨[17,18,19,20,21,22]⟩)]
theorem uM:qi (at' 77 kD [] gD (aN lu e7))=oM kI:=ag
theorem sM:bF (b0 (at' 77 kD [] gD (aN lu e7))) kH kG=some [(0,0),(17,17),(18,18),(19,19),(20,20),(21,21),(22,22),(2,2),(3,3),(38,38),(38,38),(I 1,47),(I 1,48),(34,49),(35,50),(61,51),(34,34),(35,35),(36,36)]:=ag
def uV:ax:=bm [(28,I 2),(27,.agg ⟨[I (-1),I 1]⟩),(24,38),(8,38),(6,bj 0 0),(2,.func (.func 60) ⟨[]⟩ ⟨[2,3]⟩),(0,0)]
theorem ry:bF (aN kj e7) uV e7=some [(0,0),(2,2),(3,3),(38,38),(38,38),(41,I 2),(34,34),(35,35),(36,36)]:=ag
def lX:aU:=[(.bin .add 3 38 (I 1),62)]
theorem pe:eV cl bt (jf 77 lX [] sJ (at' 77 [] [] gD (aN uV e7)))=some [(0,0),(2,2),(3,3),(62,38),(34,34),(35,35),(36,36)]:=ag
def nu:aU:=[(.bin .lss 3 38 (I 3),.bool false)]
theorem uT:fu Tryd.prog Tryd.f59 (jf 77 [] [] fJ (at' 77 nu [] bY (aN cl bt)))=some (.tuple ⟨[]⟩):=ag
@[reducible] noncomputable def a6 (aQ:List e2) (cZ:bH) (cT:Nat) (gone:List Nat) (dX:bH) (dY:Nat) (bT:bH) (bU bV:Nat) (dn:bH) (dp dq:Nat) (cq:bH) (du cr:Nat) (aX:List Bool) (cP:bH) (cQ cR aJ:Nat) (xa:Nat->ad) (b:cx) (dA:ad) (av:Nat->ad) (xc:Nat->ad) (dg eC:Nat) (x:e2) (k:Nat) (l1:List e2:=[]) (s4:bH:=none) (s5:Nat:=0) (g1:List Nat:=[]) (eL:bH:=none) (fP:Nat:=0) (bO:Nat:=0) (jo:List e2:=[]) (r2:bH:=none) (r3:Nat:=0) (g2:List Nat:=[]) (eY:bH:=none) (ew:Nat:=0) (t1:Nat:=0) (iI:Nat:=0) (vS:List e2:=[]) (hd:bH:=none) (hf:Nat:=0) (vT:List Nat:=[]) (kk:bH:=none) (kl:Nat:=0):List ad:=[bj aJ 0,I ((k:Nat):Int),bj dg 0,bj eC 0,aO cZ aQ cT,aO dX gone dY,.slice bT bU bV,.slice dn dp dq,.slice cq du cr,.slice cP cQ cR,xa 0,xa 1,xa 2,xa 3,xa 4,xa 5,xa 6,I b.1,I b.2.1,I b.2.2.1,I b.2.2.2.1,I b.2.2.2.2.1,I b.2.2.2.2.2,dA,av 0,av 1,xc 0,xc 1,I ((x.1:Nat):Int),I x.2.1,I x.2.2.1,I x.2.2.2.1,I x.2.2.2.2,bj aJ 7,I (e_ b ((k:Nat):Int)).1,I (e_ b ((k:Nat):Int)).2.1,I (e_ b ((k:Nat):Int)).2.2,.bool (decide (0<=((k:Nat):Int)/\((k:Nat):Int)<gj b)),I ((bO:Nat):Int),aO s4 l1 s5,aO eL g1 fP,I ((t1:Nat):Int),aO r2 jo r3,aO eY g2 ew,I ((e_ b ((k:Nat):Int)).1+(-1)),I ((e_ b ((k:Nat):Int)).2.1+(-1)),I ((e_ b ((k:Nat):Int)).2.2+(-1)),I (mU (2*bO+t1)),I ((iI:Nat):Int),I (fw b k (2*bO+t1)).1,I (fw b k (2*bO+t1)).2.1,I (fw b k (2*bO+t1)).2.2,I ((cE b (fw b k (2*bO+t1)):Nat):Int),bj aJ 15,fM (.slice cP cQ cR) (cE b (fw b k (2*bO+t1))*1),.bool (aX.aD (cE b (fw b k (2*bO+t1)))),I ((iI+1:Nat):Int),aO hd vS hf,aO kk vT kl,I ((e_ b ((k:Nat):Int)).1+1),I ((e_ b ((k:Nat):Int)).2.1+1),I ((e_ b ((k:Nat):Int)).2.2+1),I ((bO+1:Nat):Int)]
theorem any (W:aG) {aQ:List e2} {cZ:bH} {cT:Nat} {gone:List Nat} {dX:bH} {dY:Nat} {au:List cc} {bT:bH} {bU bV:Nat} {lit:List Int} {dn:bH} {dp dq:Nat} {table:List dx} {cq:bH} {du cr:Nat} {aX:List Bool} {cP:bH} {cQ cR aJ:Nat} {xa:Nat->ad} {b:cx} {dA:ad} {av:Nat->ad} {xc:Nat->ad} {dg eC:Nat} {x:e2} (gm:dO (a7 W) [pL cZ aQ cT,uI dX gone dY,mj bT bU bV au,j4 dn dp dq lit,rq cq du cr table,h1 cP cQ cR aX,cb aJ 80 [xa 0,xa 1,xa 2,xa 3,xa 4,xa 5,xa 6,I b.1,I b.2.1,I b.2.2.1,I b.2.2.2.1,I b.2.2.2.2.1,I b.2.2.2.2.2,.slice dn dp dq,dA,.slice cP cQ cR,.slice cq du cr,.slice bT bU bV,av 0,av 1,aO cZ aQ cT,aO dX gone dY,xc 0,xc 1],cb dg 34 [bj aJ 0],cb eC 87 [I ((x.1:Nat):Int),I x.2.1,I x.2.2.1,I x.2.2.2.1,I x.2.2.2.2]]) (k:Nat) (ai:okB b) (ao:k<aX.length) (az:aX.length=(gj b).toNat) (py:au.length=aX.length) (El:lit.length=aX.length) (hlen:aQ.length<=200000) (FY:gone.length<=200000) (Xx:0<=x.2.1/\x.2.1<=15/\0<=x.2.2.1/\x.2.2.1<=15/\0<=x.2.2.2.1/\x.2.2.2.1<=15/\0<=x.2.2.2.2/\x.2.2.2.2<=15) (gg:∀n,n<aX.length->1<=(bA table (lit.aD n)).2.2.2.2.1/\(bA table (lit.aD n)).2.2.2.2.1<=16):Calls Tryd.prog 59 #[bj aJ 0,I ((k:Nat):Int),.func (.func 60) #[] #[bj dg 0,bj eC 0]] W λe w'=>(∃y:fa×fa,e= .returned (.tuple #[])/\dw (a7 W) [pL cZ aQ cT,uI dX gone dY,mj bT bU bV au,j4 dn dp dq lit,rq cq du cr table,h1 cP cQ cR aX,cb aJ 80 [xa 0,xa 1,xa 2,xa 3,xa 4,xa 5,xa 6,I b.1,I b.2.1,I b.2.2.1,I b.2.2.2.1,I b.2.2.2.2.1,I b.2.2.2.2.2,.slice dn dp dq,dA,.slice cP cQ cR,.slice cq du cr,.slice bT bU bV,av 0,av 1,aO cZ aQ cT,aO dX gone dY,xc 0,xc 1],cb dg 34 [bj aJ 0],cb eC 87 [I ((x.1:Nat):Int),I x.2.1,I x.2.2.1,I x.2.2.2.1,I x.2.2.2.2]] (a7 w') [kd rl 5 pK (.slice y.1.1 (kF table lit x.2 (eE b aX k 6) (aQ,gone,au)).1.length y.1.2) (kF table lit x.2 (eE b aX k 6) (aQ,gone,au)).1,fY nO 1 mD (.slice y.2.1 (kF table lit x.2 (eE b aX k 6) (aQ,gone,au)).2.1.length y.2.2) (kF table lit x.2 (eE b aX k 6) (aQ,gone,au)).2.1,fY oK 4 kh (.slice bT bU bV) (kF table lit x.2 (eE b aX k 6) (aQ,gone,au)).2.2,j4 dn dp dq lit,rq cq du cr table,h1 cP cQ cR aX,cb aJ lF (List.set (List.set [xa 0,xa 1,xa 2,xa 3,xa 4,xa 5,xa 6,I b.1,I b.2.1,I b.2.2.1,I b.2.2.2.1,I b.2.2.2.2.1,I b.2.2.2.2.2,.slice dn dp dq,dA,.slice cP cQ cR,.slice cq du cr,.slice bT bU bV,av 0,av 1,aO cZ aQ cT,aO dX gone dY,xc 0,xc 1] 20 (.slice y.1.1 (kF table lit x.2 (eE b aX k 6) (aQ,gone,au)).1.length y.1.2)) 21 (.slice y.2.1 (kF table lit x.2 (eE b aX k 6) (aQ,gone,au)).2.1.length y.2.2)),cb dg x8 [bj aJ 0],cb eC Xc [I ((x.1:Nat):Int),I x.2.1,I x.2.2.1,I x.2.2.2.1,I x.2.2.2.2]])/\cO 0 W w':=by
 refine lg (a6 aQ cZ cT gone dX dY bT bU bV dn dp dq cq du cr aX cP cQ cR aJ xa b dA av xc dg eC x k) body aZ N [al 0,al 1,.func (.func 60) ⟨[]⟩ ⟨[al 2,al 3]⟩] Tryd.func59 λa ae=> ?_
 letI:=bE ae;have a_:=cC.start W _ gm;have w_:=K5 ao az;have Cf:=K7 ai (((k:Nat):Int));refine br bz h2 (U dB (U (b1 28 7 7) (U (b1 25 0 6) (U (j_ 7 6 6 a_) aB)))) (cv (Hc J J J J ai) aC) ?_ ae;refine nP (fW:=(λ(⟨hr,l1,s4,s5,g1,eL,fP,w1,bO⟩:Mem×List e2×Option Addr×Nat×List Nat×Option Addr×Nat×List cc×Nat)=>bc hr (a6 aQ cZ cT gone dX dY bT bU bV dn dp dq cq du cr aX cP cQ cR aJ xa b dA av xc dg eC x k l1 s4 s5 g1 eL fP bO))) (λ(⟨hr,l1,s4,s5,g1,eL,fP,w1,bO⟩:Mem×List e2×Option Addr×Nat×List Nat×Option Addr×Nat×List cc×Nat)=>cC 0 (a7 W) a_.mL hr [pL s4 l1 s5,uI eL g1 fP,mj bT bU bV w1,j4 dn dp dq lit,rq cq du cr table,h1 cP cQ cR aX,cb aJ 80 [xa 0,xa 1,xa 2,xa 3,xa 4,xa 5,xa 6,I b.1,I b.2.1,I b.2.2.1,I b.2.2.2.1,I b.2.2.2.2.1,I b.2.2.2.2.2,.slice dn dp dq,dA,.slice cP cQ cR,.slice cq du cr,.slice bT bU bV,av 0,av 1,aO s4 l1 s5,aO eL g1 fP,xc 0,xc 1],cb dg 34 [bj aJ 0],cb eC 87 [I ((x.1:Nat):Int),I x.2.1,I x.2.2.1,I x.2.2.2.1,I x.2.2.2.2]]/\(bO<=3/\CB table lit x.2 (eE b aX k (2*bO)) (2*bO) aQ gone au l1 g1 w1)) (λ(⟨hr,l1,s4,s5,g1,eL,fP,w1,bO⟩:Mem×List e2×Option Addr×Nat×List Nat×Option Addr×Nat×List cc×Nat)=>3-bO) ⟨(a7 W),aQ,cZ,cT,gone,dX,dY,au,0⟩ b4 b7 (λ_ _ h=>h) (by exact⟨(a_.pick [0,1,2,3,4,5,6,7,8] rfl),by exact⟨aj,agc⟩⟩) ?_;intro⟨hr,l1,s4,s5,g1,eL,fP,w1,bO⟩ aK ch w ae;letI:=bE ae;refine nK bs cw ?_;have bX:=aK.1;have oI:=aK.2.1;have q4:=aK.2.2;have z6:=aK.2.2.2.2.2.1;have agn:=aK.2.2.2.2.2.2.1;have Gt:=aK.2.2.2.2.2.2.2;by_cases lM:((bO:Nat):Int)<3
 ·refine br cp [] (U bf aB) aC ?_ ae
  refine nP (fW:=(λ(⟨fU,jo,r2,r3,g2,eY,ew,w2,t1⟩:Mem×List e2×Option Addr×Nat×List Nat×Option Addr×Nat×List cc×Nat)=>bc fU (a6 aQ cZ cT gone dX dY bT bU bV dn dp dq cq du cr aX cP cQ cR aJ xa b dA av xc dg eC x k l1 s4 s5 g1 eL fP bO jo r2 r3 g2 eY ew t1))) (λ(⟨fU,jo,r2,r3,g2,eY,ew,w2,t1⟩:Mem×List e2×Option Addr×Nat×List Nat×Option Addr×Nat×List cc×Nat)=>cC 0 (a7 W) a_.mL fU [pL r2 jo r3,uI eY g2 ew,mj bT bU bV w2,j4 dn dp dq lit,rq cq du cr table,h1 cP cQ cR aX,cb aJ 80 [xa 0,xa 1,xa 2,xa 3,xa 4,xa 5,xa 6,I b.1,I b.2.1,I b.2.2.1,I b.2.2.2.1,I b.2.2.2.2.1,I b.2.2.2.2.2,.slice dn dp dq,dA,.slice cP cQ cR,.slice cq du cr,.slice bT bU bV,av 0,av 1,aO r2 jo r3,aO eY g2 ew,xc 0,xc 1],cb dg 34 [bj aJ 0],cb eC 87 [I ((x.1:Nat):Int),I x.2.1,I x.2.2.1,I x.2.2.2.1,I x.2.2.2.2]]/\(t1<=2/\bO<3/\CB table lit x.2 (eE b aX k (2*bO+t1)) (2*bO+t1) aQ gone au jo g2 w2)) (λ(⟨fU,jo,r2,r3,g2,eY,ew,w2,t1⟩:Mem×List e2×Option Addr×Nat×List Nat×Option Addr×Nat×List cc×Nat)=>2-t1) ⟨hr,l1,s4,s5,g1,eL,fP,w1,0⟩ dD b7 (λ_ _ h=>h) (by exact⟨(bX.pick [0,1,2,3,4,5,6,7,8] rfl),by exact⟨aj,aj,q4⟩⟩) ?_;intro⟨fU,jo,r2,r3,g2,eY,ew,w2,t1⟩ aK ch w ae;letI:=bE ae;refine nK hq ka ?_;have gN:=aK.1;have Xq:=aK.2.1;have Xr:=aK.2.2.1;have mf:=aK.2.2.2;have xS:=aK.2.2.2.2.2.2.1;have y6:=aK.2.2.2.2.2.2.2.1;have alm:=aK.2.2.2.2.2.2.2.2;refine PC (N:=N) (B:=0) (w0:=W) (λ(iI:Nat)=>bc fU (a6 aQ cZ cT gone dX dY bT bU bV dn dp dq cq du cr aX cP cQ cR aJ xa b dA av xc dg eC x k l1 s4 s5 g1 eL fP bO jo r2 r3 g2 eY ew t1 iI)) (λ(iI:Nat)=>iI=t1/\t1<2) kH kG kI ?_ λpS=> ?_
  ·intro iI aK ch w ae
   letI:=bE ae;have Xs:cE b (fw b k (2*bO+t1))<aX.length:=K6 ao az _;have Xt:=aK.1;have Xu:=aK.2;by_cases jq:fz (fw b k (2*bO+t1)) b
   ·by_cases c9:(aX.aD (cE b (fw b k (2*bO+t1))))=true
    ·refine zf d' kb (U bf (U dB (U (b1 30 15 1) (U (cu 15 6 gN) (U (f' ((gN.arr 5 rfl).arr h9) kA rk) (U (im 0 ((gN.arr 5 rfl).arr h9) (f_ (cE b (fw b k (2*bO+t1)))) vy) (U (yY J J c9) aB))))))) (cv (ye J J J J ai jq) aC) ?_ ae
     obtain⟨vS,K9⟩:=ey (xd jo (cE b (fw b k (2*bO+t1))) (pN (bA table (lit.aD (cE b (fw b k (2*bO+t1))))).2.2.2.2.1 x.2 (w2.aD (cE b (fw b k (2*bO+t1)))) (mU (2*bO+t1))));obtain⟨vT,K'⟩:=ey (uL g2 (cE b (fw b k (2*bO+t1))) (pN (bA table (lit.aD (cE b (fw b k (2*bO+t1))))).2.2.2.2.1 x.2 (w2.aD (cE b (fw b k (2*bO+t1)))) (mU (2*bO+t1))));obtain⟨K_,La⟩:=ey (yd w2 (cE b (fw b k (2*bO+t1))) (pN (bA table (lit.aD (cE b (fw b k (2*bO+t1))))).2.2.2.2.1 x.2 (w2.aD (cE b (fw b k (2*bO+t1)))) (mU (2*bO+t1))));refine e5 (Y:=fa×fa) (bC:=λaF=>(a6 aQ cZ cT gone dX dY bT bU bV dn dp dq cq du cr aX cP cQ cR aJ xa b dA av xc dg eC x k l1 s4 s5 g1 eL fP bO jo r2 r3 g2 eY ew t1 iI vS aF.1.1 aF.1.2 vT aF.2.1 aF.2.2)) gN [0,1,2,3,4,6,7,8] (λaF=>[oN _ _ _ aF.1.1 vS aF.1.2,zd _ _ _ aF.2.1 vT aF.2.2,qL _ _ _ bT bU bV K_,_,_,cb _ _ [_,_,_,_,_,_,_,_,_,_,_,_,_,_,_,_,_,_,_,_,aO aF.1.1 vS aF.1.2,aO aF.2.1 vT aF.2.2,_,_],_,_]) (λ_=>[]) iC k2 (cF c0 (.tuple ⟨[]⟩)) (ez:=λw hw cM ay=>by rw[K9,K',La];exact Xw.any (xa:=h0 [xa 0,xa 1,xa 2,xa 3,xa 4,xa 5,xa 6,I b.1,I b.2.1,I b.2.2.1,I b.2.2.2.1,I b.2.2.2.2.1,I b.2.2.2.2.2] 0) (av:=h0 [dA,.slice cP cQ cR] 0) (xc:=av) (nv:=xc) (x:=x) _ ay (cE b (fw b k (2*bO+t1))) (mU (2*bO+t1)) aj aj aj aj Xx (gg _ aj)) (rest:= ?_);intro fN ⟨⟨hd,hf⟩,⟨kk,kl⟩⟩ bP ch w ae;replace bP:=bP.zg;letI:=bE ae;refine cm (cn c5) eS [] (U gU aB) aC ?_ ae;exact e3 ⟨fN,vS,hd,hf,vT,kk,kl,K_,iI+1⟩ pg b7 (by exact⟨bP,by obtain⟨dd,dM⟩:=aK;subst dd;(subst K9 K' La;exact⟨aj,aj,agd mf (PT (j:=2*bO+iI) ao az aj jq c9)⟩)⟩)
    ·refine zf fq qN (U bf (U dB (U (b1 30 15 1) (U (cu 15 6 gN) (U (f' ((gN.arr 5 rfl).arr h9) kA rk) (U (im 0 ((gN.arr 5 rfl).arr h9) (f_ (cE b (fw b k (2*bO+t1)))) vy) (U (DZ J J c9) (U gU aB)))))))) (cv (ye J J J J ai jq) aC) ?_ ae
     exact e3 ⟨fU,jo,r2,r3,g2,eY,ew,w2,iI+1⟩ sK b7 (by exact⟨(gN.pick [0,1,2,3,4,5,6,7,8] rfl),by obtain⟨dd,dM⟩:=aK;subst dd;exact⟨aj,aj,Xn mf (PU (j:=2*bO+iI) ao az aj jq c9)⟩⟩)
   ·refine zf hs mZ (U gU aB) (cv (Hd J J J J ai jq) aC) ?_ ae
    exact e3 ⟨fU,jo,r2,r3,g2,eY,ew,w2,iI+1⟩ ru b7 (by exact⟨(gN.pick [0,1,2,3,4,5,6,7,8] rfl),by obtain⟨dd,dM⟩:=aK;subst dd;exact⟨aj,aj,Xn mf (PV (j:=2*bO+iI) ao az aj jq)⟩⟩)
  ·rcases(show t1=0\/t1=1\/t1=2 by omega) with l3|l3|l3
   ·replace ae:=Here.nQ (bc fU (a6 aQ cZ cT gone dX dY bT bU bV dn dp dq cq du cr aX cP cQ cR aJ xa b dA av xc dg eC x k l1 s4 s5 g1 eL fP bO jo r2 r3 g2 eY ew t1)) gy b7 ae
    by_cases ea:((bO:Nat):Int)=0
    ·refine br dh [] (U bf (U gU (U dB (U (b1 28 7 7) (U (b1 25 0 6) (U (j_ 7 6 6 gN) aB)))))) aC ?_ ae
     subst l3;rcases(show bO=0\/bO=1\/bO=2 by omega) with rfl|rfl|rfl<;>try (exfalso;omega)
     exact qM pS (0) lW om b7 (by exact⟨rfl,aj⟩)
    ·by_cases q1:((bO:Nat):Int)=1
     ·refine br hN [] (U a' (U bf (U gU (U dB (U (b1 28 7 7) (U (b1 25 0 6) (U (j_ 7 6 6 gN) aB))))))) aC ?_ ae
      subst l3;rcases(show bO=0\/bO=1\/bO=2 by omega) with rfl|rfl|rfl<;>try (exfalso;omega)
      exact qM pS (0) nt ot b7 (by exact⟨rfl,aj⟩)
     ·refine br hS [] (U a' (U a' (U gU (U dB (U (b1 28 7 7) (U (b1 25 0 6) (U (j_ 7 6 6 gN) aB))))))) aC ?_ ae
      subst l3;rcases(show bO=0\/bO=1\/bO=2 by omega) with rfl|rfl|rfl<;>try (exfalso;omega)
      exact qM pS (0) uU sL b7 (by exact⟨rfl,aj⟩)
   ·replace ae:=Here.nQ (bc fU (a6 aQ cZ cT gone dX dY bT bU bV dn dp dq cq du cr aX cP cQ cR aJ xa b dA av xc dg eC x k l1 s4 s5 g1 eL fP bO jo r2 r3 g2 eY ew t1)) sF b7 ae
    by_cases ea:((bO:Nat):Int)=0
    ·refine br jT [] (U bf (U gU (U dB (U (b1 28 7 7) (U (b1 25 0 6) (U (j_ 7 6 6 gN) aB)))))) aC ?_ ae
     subst l3;rcases(show bO=0\/bO=1\/bO=2 by omega) with rfl|rfl|rfl<;>try (exfalso;omega)
     exact qM pS (1) ql pd b7 (by exact⟨rfl,aj⟩)
    ·by_cases q1:((bO:Nat):Int)=1
     ·refine br jx [] (U a' (U bf (U gU (U dB (U (b1 28 7 7) (U (b1 25 0 6) (U (j_ 7 6 6 gN) aB))))))) aC ?_ ae
      subst l3;rcases(show bO=0\/bO=1\/bO=2 by omega) with rfl|rfl|rfl<;>try (exfalso;omega)
      exact qM pS (1) qm sG b7 (by exact⟨rfl,aj⟩)
     ·refine br kD [] (U a' (U a' (U gU (U dB (U (b1 28 7 7) (U (b1 25 0 6) (U (j_ 7 6 6 gN) aB))))))) aC ?_ ae
      subst l3;rcases(show bO=0\/bO=1\/bO=2 by omega) with rfl|rfl|rfl<;>try (exfalso;omega)
      exact qM pS (1) uM sM b7 (by exact⟨rfl,aj⟩)
   ·replace ae:=Here.nQ (bc fU (a6 aQ cZ cT gone dX dY bT bU bV dn dp dq cq du cr aX cP cQ cR aJ xa b dA av xc dg eC x k l1 s4 s5 g1 eL fP bO jo r2 r3 g2 eY ew t1)) ry b7 ae
    refine br [] [] aB aC ?_ ae;refine j3 lX [] (U gU aB) aC ?_;exact e3 ⟨fU,jo,r2,r3,g2,eY,ew,w2,bO+1⟩ pe b7 (by exact⟨(gN.pick [0,1,2,3,4,5,6,7,8] rfl),by obtain⟨_,_,jm⟩:=aK.2;subst l3;exact⟨aj,by rw[show 2*(bO+1)=2*bO+2 by omega];exact jm⟩⟩)
 ·refine br nu [] (U a' aB) aC ?_ ae
  refine j3 [] [] aB aC ?_;exact b2 uT λw2 bk=>(by obtain rfl:bO=3:=aj;obtain⟨bs,cw,dD,_⟩:=q4;subst bs cw dD;exact⟨((_,_),(_,_)),rfl,((bX.pick [0,1,2,3,4,5,6,7,8] rfl).done bk)⟩)
end Xy
end a1
namespace a1
namespace Xz
noncomputable def body:Code:=(Tryd.f66.body).getD .skip
def N:Nat:=8
def aZ:c6:={sl:=bm [(2,2),(1,1),(0,0)],ms:=[],A:=start}
def bz:aU:=[(.bh 34 2,27)]
theorem b4:eW (at' 8 bz [] body aZ)=some (35,[27,0]):=ag
abbrev eT:=at' 8 bz [] body aZ
def cY:List bG:=[]
def c8:ax:=bm []
def c0:ax:=dS 8 c8 7 (.tuple ⟨[]⟩)
theorem dD:bF (hQ Tryd.prog eT) c8 cY=some []:=ag
def c5:ct:=(body,[],3)
theorem lA:fu Tryd.prog Tryd.f66 (bD 8 [] [] c5 (aN c0 cY))=some (.tuple ⟨[]⟩):=ag
@[reducible] noncomputable def a6 (aE:List Nat) (dy:bH) (dv:Nat) (ec:bH) (ef eg aJ:Nat) (xa:Nat->ad) (dg n:Nat) (dW:Int) (vU:List Nat:=[]) (hd:bH:=none) (hf:Nat:=0):List ad:=[I ((n:Nat):Int),I dW,bj dg 0,aO dy aE dv,.slice ec ef eg,xa 0,xa 1,xa 2,xa 3,xa 4,xa 5,xa 6,xa 7,xa 8,xa 9,xa 10,xa 11,xa 12,xa 13,xa 14,xa 15,xa 16,xa 17,xa 18,xa 19,xa 20,xa 21,bj aJ 0,aO hd vU hf]
theorem any (W:aG) {aE:List Nat} {dy:bH} {dv:Nat} {waits:List Bool} {ec:bH} {ef eg aJ:Nat} {xa:Nat->ad} {dg:Nat} (gm:dO (a7 W) [pa dy aE dv,h1 ec ef eg waits,cb aJ 80 [xa 0,xa 1,xa 2,xa 3,xa 4,xa 5,xa 6,xa 7,xa 8,xa 9,xa 10,xa 11,xa 12,xa 13,xa 14,xa 15,xa 16,xa 17,xa 18,xa 19,xa 20,xa 21,aO dy aE dv,.slice ec ef eg],cb dg 34 [bj aJ 0]]) (n:Nat) (dW:Int) (ao:n<waits.length) (hlen:aE.length<=300000):Calls Tryd.prog 66 #[I ((n:Nat):Int),I dW,bj dg 0] W λe w'=>(∃y:bH×Nat,e= .returned (.tuple #[])/\dw (a7 W) [pa dy aE dv,h1 ec ef eg waits,cb aJ 80 [xa 0,xa 1,xa 2,xa 3,xa 4,xa 5,xa 6,xa 7,xa 8,xa 9,xa 10,xa 11,xa 12,xa 13,xa 14,xa 15,xa 16,xa 17,xa 18,xa 19,xa 20,xa 21,aO dy aE dv,.slice ec ef eg],cb dg 34 [bj aJ 0]] (a7 w') [kd nO 1 mD (.slice y.1 (mE aE waits n).length y.2) (mE aE waits n),fY mT 1 iw (.slice ec ef eg) (og waits n),cb aJ lF (List.set [xa 0,xa 1,xa 2,xa 3,xa 4,xa 5,xa 6,xa 7,xa 8,xa 9,xa 10,xa 11,xa 12,xa 13,xa 14,xa 15,xa 16,xa 17,xa 18,xa 19,xa 20,xa 21,aO dy aE dv,.slice ec ef eg] 22 (.slice y.1 (mE aE waits n).length y.2)),cb dg x8 [bj aJ 0]])/\cO 0 W w':=by
 refine lg (a6 aE dy dv ec ef eg aJ xa dg n dW) body aZ N [al 0,al 1,al 2] Tryd.func66 λa ae=> ?_
 letI:=bE ae;have a_:=cC.start W _ gm;refine br bz [] (U (cu 0 3 a_) aB) aC ?_ ae;obtain⟨vU,Lb⟩:=ey (mE aE waits n);obtain⟨Lc,Ld⟩:=ey (og waits n);refine e5 (Y:=fa) (bC:=λaF=>(a6 aE dy dv ec ef eg aJ xa dg n dW vU aF.1 aF.2)) a_ [0,1,2] (λaF=>[oN _ _ _ aF.1 vU aF.2,qL _ _ _ ec ef eg Lc,cb _ _ [_,_,_,_,_,_,_,_,_,_,_,_,_,_,_,_,_,_,_,_,_,_,aO aF.1 vU aF.2,_]]) (λ_=>[]) b4 dD (cF c0 (.tuple ⟨[]⟩)) (ez:=λw hw cM ay=>by rw[Lb,Ld];exact Ha.any (xa:=xa) _ ay n aj aj) (rest:= ?_);intro fN ⟨hd,hf⟩ bP ch w ae;replace bP:=bP.vJ;letI:=bE ae;refine cm (cn c5) [] [] aB aC ?_ ae;exact b2 lA λw2 bk=>(by subst_vars;exact⟨(_,_),rfl,(bP.done bk)⟩)
end Xz
end a1
namespace a1
namespace XA
noncomputable def body:Code:=(Tryd.f59.body).getD .skip
def N:Nat:=77
def aZ:c6:={sl:=bm [(2,.func (.func 66) ⟨[]⟩ ⟨[2]⟩),(1,1),(0,0)],ms:=[],A:=start}
def bz:aU:=[(.dt 0,0),
 (.bQ 80 0 1,27),
 (.bQ 28 27 0,27),
 (.bh 25 27,.agg ⟨[13,14,15,16,17,18]⟩)]
def h2:dm:=[(84,[.agg ⟨[13,14,15,16,17,18]⟩,1],.tuple ⟨[.agg ⟨[28,29,30]⟩,31]⟩)]
def bt:List bG:=[⟨.cells [28,29,30],23,0⟩]
def cl:ax:=bm [(24,32),(6,bj 0 0),(2,.func (.func 66) ⟨[]⟩ ⟨[2]⟩),(0,0)]
abbrev fG:=at' 77 bz h2 body aZ
theorem b4:mi cl bt fG=some [(0,0),(2,2),(I 0,32),(28,28),(29,29),(30,30)]:=ag
def bY:Code:=nJ body [1,1,4]
def fJ:List hj:=lp body [1,1,4] []
theorem bs:lP fG=bY:=ag
theorem cw:gi fG=fJ:=ag
def cp:aU:=[(.bin .lss 3 32 (I 3),.bool true)]
def e7:List bG:=[⟨.cells [28,29,30],23,0⟩]
def kj:ax:=bm [(28,34),(27,.agg ⟨[I (-1),I 1]⟩),(24,32),(8,32),(6,bj 0 0),(2,.func (.func 66) ⟨[]⟩ ⟨[2]⟩),(0,0)]
abbrev qn:=at' 77 cp [] bY (aN cl bt)
theorem dD:mi kj e7 qn=some [(0,0),(2,2),(32,32),(32,32),(I 0,34),(28,28),(29,29),(30,30)]:=ag
def gD:Code:=nJ bY [1,1,0,4,1,1,4]
def sJ:List hj:=lp bY [1,1,0,4,1,1,4] []
theorem hq:lP qn=gD:=ag
theorem ka:gi qn=sJ:=ag
def oq:ax:=bm [(28,I 0),(27,.agg ⟨[I (-1),I 1]⟩),(24,32),(8,32),(6,bj 0 0),(2,.func (.func 66) ⟨[]⟩ ⟨[2]⟩),(0,0)]
theorem gy:bF (aN kj e7) oq e7=some [(0,0),(2,2),(32,32),(32,32),(34,I 0),(28,28),(29,29),(30,30)]:=ag
def dh:aU:=[(.bin .eql 3 32 (I 0),.bool true),
 (.bin .add 3 28 (I (-1)),36),
 (.dt 0,0),
 (.bQ 80 0 1,27),
 (.bQ 28 27 0,27),
 (.bh 25 27,.agg ⟨[13,14,15,16,17,18]⟩)]
def kG:List bG:=[⟨.cells [al 28,al 29,al 30],23,0⟩]
def kH:ax:=bm [(58,.agg ⟨[al 41,al 42,al 43]⟩),(57,.agg ⟨[al 13,al 14,al 15,al 16,al 17,al 18]⟩),(28,al 40),(27,.agg ⟨[I (-1),I 1]⟩),(24,al 32),(12,al 39),(8,al 32),(6,bj 0 0),(2,.func (.func 66) ⟨[]⟩ ⟨[al 2]⟩),(0,al 0)]
def kI:ct:=(gD,[1,1,0,4,1,1,1,0],6)
def d':aU:=[(.bin .geq 3 44 (I 0),.bool true),
 (.dt 0,0),
 (.bQ 80 0 3,45),
 (.bh 30 45,5),
 (.cV 30 5 44,46),
 (.bh 4 46,47),
 (.cz 47,.bool true)]
def kb:dm:=[(55,[.agg ⟨[13,14,15,16,17,18]⟩,.agg ⟨[41,42,43]⟩],44)]
theorem iC:eW (bD 77 d' kb kI (aN kH kG))=some (66,[44,39,2]):=ag
abbrev eT:=bD 77 d' kb kI (aN kH kG)
def cY:List bG:=[⟨.cells [28,29,30],23,0⟩]
def c8:ax:=bm [(28,40),(27,.agg ⟨[I (-1),I 1]⟩),(24,32),(8,32),(6,bj 0 0),(2,.func (.func 66) ⟨[]⟩ ⟨[2]⟩),(0,0)]
def c0:ax:=dS 77 c8 74 (.tuple ⟨[]⟩)
theorem k2:bF (hQ Tryd.prog eT) c8 cY=some [(0,0),(2,2),(32,32),(32,32),(40,40),(28,28),(29,29),(30,30)]:=ag
def c5:ct:=(gD,[1,1,0,4,1,1,1,1,1,2],4)
def eS:aU:=[(.bin .add 3 40 (I 1),48)]
theorem pg:eV kj e7 (bD 77 eS [] c5 (aN c0 cY))=some [(0,0),(2,2),(32,32),(32,32),(48,34),(28,28),(29,29),(30,30)]:=ag
def fq:aU:=[(.bin .geq 3 44 (I 0),.bool true),
 (.dt 0,0),
 (.bQ 80 0 3,45),
 (.bh 30 45,5),
 (.cV 30 5 44,46),
 (.bh 4 46,47),
 (.cz 47,.bool false),
 (.bin .add 3 40 (I 1),48)]
def qN:dm:=[(55,[.agg ⟨[13,14,15,16,17,18]⟩,.agg ⟨[41,42,43]⟩],44)]
theorem sK:eV kj e7 (bD 77 fq qN kI (aN kH kG))=some [(0,0),(2,2),(32,32),(32,32),(48,34),(28,28),(29,29),(30,30)]:=ag
def hs:aU:=[(.bin .add 3 40 (I 1),48)]
def mZ:dm:=[(55,[.agg ⟨[13,14,15,16,17,18]⟩,.agg ⟨[41,42,43]⟩],I (-1))]
theorem ru:eV kj e7 (bD 77 hs mZ kI (aN kH kG))=some [(0,0),(2,2),(32,32),(32,32),(48,34),(28,28),(29,29),(30,30)]:=ag
theorem lW:qi (at' 77 dh [] gD (aN oq e7))=oM kI:=ag
theorem om:bF (b0 (at' 77 dh [] gD (aN oq e7))) kH kG=some [(0,0),(13,13),(14,14),(15,15),(16,16),(17,17),(18,18),(2,2),(32,32),(32,32),(I 0,39),(I 0,40),(36,41),(29,42),(30,43),(28,28),(29,29),(30,30)]:=ag
def hN:aU:=[(.bin .eql 3 32 (I 0),.bool false),
 (.bin .eql 3 32 (I 1),.bool true),
 (.bin .add 3 29 (I (-1)),37),
 (.dt 0,0),
 (.bQ 80 0 1,27),
 (.bQ 28 27 0,27),
 (.bh 25 27,.agg ⟨[13,14,15,16,17,18]⟩)]
theorem nt:qi (at' 77 hN [] gD (aN oq e7))=oM kI:=ag
theorem ot:bF (b0 (at' 77 hN [] gD (aN oq e7))) kH kG=some [(0,0),(13,13),(14,14),(15,15),(16,16),(17,17),(18,18),(2,2),(32,32),(32,32),(I 0,39),(I 0,40),(28,41),(37,42),(30,43),(28,28),(29,29),(30,30)]:=ag
def hS:aU:=[(.bin .eql 3 32 (I 0),.bool false),
 (.bin .eql 3 32 (I 1),.bool false),
 (.bin .add 3 30 (I (-1)),38),
 (.dt 0,0),
 (.bQ 80 0 1,27),
 (.bQ 28 27 0,27),
 (.bh 25 27,.agg ⟨[13,14,15,16,17,18]⟩)]
theorem uU:qi (at' 77 hS [] gD (aN oq e7))=oM kI:=ag
theorem sL:bF (b0 (at' 77 hS [] gD (aN oq e7))) kH kG=some [(0,0),(13,13),(14,14),(15,15),(16,16),(17,17),(18,18),(2,2),(32,32),(32,32),(I (-1),39),(I 0,40),(28,41),(29,42),(38,43),(28,28),(29,29),(30,30)]:=ag
def lu:ax:=bm [(28,I 1),(27,.agg ⟨[I (-1),I 1]⟩),(24,32),(8,32),(6,bj 0 0),(2,.func (.func 66) ⟨[]⟩ ⟨[2]⟩),(0,0)]
theorem sF:bF (aN kj e7) lu e7=some [(0,0),(2,2),(32,32),(32,32),(34,I 1),(28,28),(29,29),(30,30)]:=ag
def jT:aU:=[(.bin .eql 3 32 (I 0),.bool true),
 (.bin .add 3 28 (I 1),50),
 (.dt 0,0),
 (.bQ 80 0 1,27),
 (.bQ 28 27 0,27),
 (.bh 25 27,.agg ⟨[13,14,15,16,17,18]⟩)]
theorem ql:qi (at' 77 jT [] gD (aN lu e7))=oM kI:=ag
theorem pd:bF (b0 (at' 77 jT [] gD (aN lu e7))) kH kG=some [(0,0),(13,13),(14,14),(15,15),(16,16),(17,17),(18,18),(2,2),(32,32),(32,32),(I 0,39),(I 1,40),(50,41),(29,42),(30,43),(28,28),(29,29),(30,30)]:=ag
def jx:aU:=[(.bin .eql 3 32 (I 0),.bool false),
 (.bin .eql 3 32 (I 1),.bool true),
 (.bin .add 3 29 (I 1),51),
 (.dt 0,0),
 (.bQ 80 0 1,27),
 (.bQ 28 27 0,27),
 (.bh 25 27,.agg ⟨[13,14,15,16,17,18]⟩)]
theorem qm:qi (at' 77 jx [] gD (aN lu e7))=oM kI:=ag
theorem sG:bF (b0 (at' 77 jx [] gD (aN lu e7))) kH kG=some [(0,0),(13,13),(14,14),(15,15),(16,16),(17,17),(18,18),(2,2),(32,32),(32,32),(I 0,39),(I 1,40),(28,41),(51,42),(30,43),(28,28),(29,29),(30,30)]:=ag
def kD:aU:=[(.bin .eql 3 32 (I 0),.bool false),
 (.bin .eql 3 32 (I 1),.bool false),
 (.bin .add 3 30 (I 1),52),
 (.dt 0,0),
 (.bQ 80 0 1,27),
 (.bQ 28 27 0,27),
 (.bh 25 27,.agg ⟨[13,14,15,16,17,18]⟩)]
theorem uM:qi (at' 77 kD [] gD (aN lu e7))=oM kI:=ag
theorem sM:bF (b0 (at' 77 kD [] gD (aN lu e7))) kH kG=some [(0,0),(13,13),(14,14),(15,15),(16,16),(17,17),(18,18),(2,2),(32,32),(32,32),(I 1,39),(I 1,40),(28,41),(29,42),(52,43),(28,28),(29,29),(30,30)]:=ag
def uV:ax:=bm [(28,I 2),(27,.agg ⟨[I (-1),I 1]⟩),(24,32),(8,32),(6,bj 0 0),(2,.func (.func 66) ⟨[]⟩ ⟨[2]⟩),(0,0)]
theorem ry:bF (aN kj e7) uV e7=some [(0,0),(2,2),(32,32),(32,32),(34,I 2),(28,28),(29,29),(30,30)]:=ag
def lX:aU:=[(.bin .add 3 32 (I 1),53)]
theorem pe:eV cl bt (jf 77 lX [] sJ (at' 77 [] [] gD (aN uV e7)))=some [(0,0),(2,2),(53,32),(28,28),(29,29),(30,30)]:=ag
def nu:aU:=[(.bin .lss 3 32 (I 3),.bool false)]
theorem uT:fu Tryd.prog Tryd.f59 (jf 77 [] [] fJ (at' 77 nu [] bY (aN cl bt)))=some (.tuple ⟨[]⟩):=ag
@[reducible] noncomputable def a6 (aE:List Nat) (dy:bH) (dv:Nat) (ec:bH) (ef eg:Nat) (aX:List Bool) (cP:bH) (cQ cR aJ:Nat) (xa:Nat->ad) (b:cx) (k4:ad) (dA:ad) (av:Nat->ad) (dg k:Nat) (g1:List Nat:=[]) (eL:bH:=none) (fP:Nat:=0) (bO:Nat:=0) (g2:List Nat:=[]) (eY:bH:=none) (ew:Nat:=0) (t1:Nat:=0) (iI:Nat:=0) (vU:List Nat:=[]) (hd:bH:=none) (hf:Nat:=0):List ad:=[bj aJ 0,I ((k:Nat):Int),bj dg 0,aO dy aE dv,.slice ec ef eg,.slice cP cQ cR,xa 0,xa 1,xa 2,xa 3,xa 4,xa 5,xa 6,I b.1,I b.2.1,I b.2.2.1,I b.2.2.2.1,I b.2.2.2.2.1,I b.2.2.2.2.2,k4,dA,av 0,av 1,av 2,av 3,av 4,av 5,bj aJ 7,I (e_ b ((k:Nat):Int)).1,I (e_ b ((k:Nat):Int)).2.1,I (e_ b ((k:Nat):Int)).2.2,.bool (decide (0<=((k:Nat):Int)/\((k:Nat):Int)<gj b)),I ((bO:Nat):Int),aO eL g1 fP,I ((t1:Nat):Int),aO eY g2 ew,I ((e_ b ((k:Nat):Int)).1+(-1)),I ((e_ b ((k:Nat):Int)).2.1+(-1)),I ((e_ b ((k:Nat):Int)).2.2+(-1)),I (mU (2*bO+t1)),I ((iI:Nat):Int),I (fw b k (2*bO+t1)).1,I (fw b k (2*bO+t1)).2.1,I (fw b k (2*bO+t1)).2.2,I ((cE b (fw b k (2*bO+t1)):Nat):Int),bj aJ 15,fM (.slice cP cQ cR) (cE b (fw b k (2*bO+t1))*1),.bool (aX.aD (cE b (fw b k (2*bO+t1)))),I ((iI+1:Nat):Int),aO hd vU hf,I ((e_ b ((k:Nat):Int)).1+1),I ((e_ b ((k:Nat):Int)).2.1+1),I ((e_ b ((k:Nat):Int)).2.2+1),I ((bO+1:Nat):Int)]
theorem any (W:aG) {aE:List Nat} {dy:bH} {dv:Nat} {waits:List Bool} {ec:bH} {ef eg:Nat} {aX:List Bool} {cP:bH} {cQ cR aJ:Nat} {xa:Nat->ad} {b:cx} {k4:ad} {dA:ad} {av:Nat->ad} {dg:Nat} (gm:dO (a7 W) [pa dy aE dv,h1 ec ef eg waits,h1 cP cQ cR aX,cb aJ 80 [xa 0,xa 1,xa 2,xa 3,xa 4,xa 5,xa 6,I b.1,I b.2.1,I b.2.2.1,I b.2.2.2.1,I b.2.2.2.2.1,I b.2.2.2.2.2,k4,dA,.slice cP cQ cR,av 0,av 1,av 2,av 3,av 4,av 5,aO dy aE dv,.slice ec ef eg],cb dg 34 [bj aJ 0]]) (k:Nat) (ai:okB b) (ao:k<aX.length) (az:aX.length=(gj b).toNat) (hw:waits.length=aX.length) (hlen:aE.length<=200000):Calls Tryd.prog 59 #[bj aJ 0,I ((k:Nat):Int),.func (.func 66) #[] #[bj dg 0]] W λe w'=>(∃y:bH×Nat,e= .returned (.tuple #[])/\dw (a7 W) [pa dy aE dv,h1 ec ef eg waits,h1 cP cQ cR aX,cb aJ 80 [xa 0,xa 1,xa 2,xa 3,xa 4,xa 5,xa 6,I b.1,I b.2.1,I b.2.2.1,I b.2.2.2.1,I b.2.2.2.2.1,I b.2.2.2.2.2,k4,dA,.slice cP cQ cR,av 0,av 1,av 2,av 3,av 4,av 5,aO dy aE dv,.slice ec ef eg],cb dg 34 [bj aJ 0]] (a7 w') [kd nO 1 mD (.slice y.1 (tN (eE b aX k 6) (aE,waits)).1.length y.2) (tN (eE b aX k 6) (aE,waits)).1,fY mT 1 iw (.slice ec ef eg) (tN (eE b aX k 6) (aE,waits)).2,h1 cP cQ cR aX,cb aJ lF (List.set [xa 0,xa 1,xa 2,xa 3,xa 4,xa 5,xa 6,I b.1,I b.2.1,I b.2.2.1,I b.2.2.2.1,I b.2.2.2.2.1,I b.2.2.2.2.2,k4,dA,.slice cP cQ cR,av 0,av 1,av 2,av 3,av 4,av 5,aO dy aE dv,.slice ec ef eg] 22 (.slice y.1 (tN (eE b aX k 6) (aE,waits)).1.length y.2)),cb dg x8 [bj aJ 0]])/\cO 0 W w':=by
 refine lg (a6 aE dy dv ec ef eg aX cP cQ cR aJ xa b k4 dA av dg k) body aZ N [al 0,al 1,.func (.func 66) ⟨[]⟩ ⟨[al 2]⟩] Tryd.func59 λa ae=> ?_
 letI:=bE ae;have a_:=cC.start W _ gm;have w_:=K5 ao az;have Cf:=K7 ai (((k:Nat):Int));refine br bz h2 (U dB (U (b1 28 7 7) (U (b1 25 0 6) (U (j_ 7 6 3 a_) aB)))) (cv (Hc J J J J ai) aC) ?_ ae;refine nP (fW:=(λ(⟨hr,g1,eL,fP,w1,bO⟩:Mem×List Nat×Option Addr×Nat×List Bool×Nat)=>bc hr (a6 aE dy dv ec ef eg aX cP cQ cR aJ xa b k4 dA av dg k g1 eL fP bO))) (λ(⟨hr,g1,eL,fP,w1,bO⟩:Mem×List Nat×Option Addr×Nat×List Bool×Nat)=>cC 0 (a7 W) a_.mL hr [pa eL g1 fP,h1 ec ef eg w1,h1 cP cQ cR aX,cb aJ 80 [xa 0,xa 1,xa 2,xa 3,xa 4,xa 5,xa 6,I b.1,I b.2.1,I b.2.2.1,I b.2.2.2.1,I b.2.2.2.2.1,I b.2.2.2.2.2,k4,dA,.slice cP cQ cR,av 0,av 1,av 2,av 3,av 4,av 5,aO eL g1 fP,.slice ec ef eg],cb dg 34 [bj aJ 0]]/\(bO<=3/\CA (eE b aX k (2*bO)) (2*bO) aE waits g1 w1)) (λ(⟨hr,g1,eL,fP,w1,bO⟩:Mem×List Nat×Option Addr×Nat×List Bool×Nat)=>3-bO) ⟨(a7 W),aE,dy,dv,waits,0⟩ b4 b7 (λ_ _ h=>h) (by exact⟨(a_.pick [0,1,2,3,4] rfl),by exact⟨aj,af'⟩⟩) ?_;intro⟨hr,g1,eL,fP,w1,bO⟩ aK ch w ae;letI:=bE ae;refine nK bs cw ?_;have bX:=aK.1;have oI:=aK.2.1;have q4:=aK.2.2;have z6:=aK.2.2.2.2.1;have agn:=aK.2.2.2.2.2;by_cases lM:((bO:Nat):Int)<3
 ·refine br cp [] (U bf aB) aC ?_ ae
  refine nP (fW:=(λ(⟨fU,g2,eY,ew,w2,t1⟩:Mem×List Nat×Option Addr×Nat×List Bool×Nat)=>bc fU (a6 aE dy dv ec ef eg aX cP cQ cR aJ xa b k4 dA av dg k g1 eL fP bO g2 eY ew t1))) (λ(⟨fU,g2,eY,ew,w2,t1⟩:Mem×List Nat×Option Addr×Nat×List Bool×Nat)=>cC 0 (a7 W) a_.mL fU [pa eY g2 ew,h1 ec ef eg w2,h1 cP cQ cR aX,cb aJ 80 [xa 0,xa 1,xa 2,xa 3,xa 4,xa 5,xa 6,I b.1,I b.2.1,I b.2.2.1,I b.2.2.2.1,I b.2.2.2.2.1,I b.2.2.2.2.2,k4,dA,.slice cP cQ cR,av 0,av 1,av 2,av 3,av 4,av 5,aO eY g2 ew,.slice ec ef eg],cb dg 34 [bj aJ 0]]/\(t1<=2/\bO<3/\CA (eE b aX k (2*bO+t1)) (2*bO+t1) aE waits g2 w2)) (λ(⟨fU,g2,eY,ew,w2,t1⟩:Mem×List Nat×Option Addr×Nat×List Bool×Nat)=>2-t1) ⟨hr,g1,eL,fP,w1,0⟩ dD b7 (λ_ _ h=>h) (by exact⟨(bX.pick [0,1,2,3,4] rfl),by exact⟨aj,aj,q4⟩⟩) ?_;intro⟨fU,g2,eY,ew,w2,t1⟩ aK ch w ae;letI:=bE ae;refine nK hq ka ?_;have gN:=aK.1;have Xq:=aK.2.1;have Xr:=aK.2.2.1;have mf:=aK.2.2.2;have xS:=aK.2.2.2.2.2.1;have y6:=aK.2.2.2.2.2.2;refine PC (N:=N) (B:=0) (w0:=W) (λ(iI:Nat)=>bc fU (a6 aE dy dv ec ef eg aX cP cQ cR aJ xa b k4 dA av dg k g1 eL fP bO g2 eY ew t1 iI)) (λ(iI:Nat)=>iI=t1/\t1<2) kH kG kI ?_ λpS=> ?_
  ·intro iI aK ch w ae
   letI:=bE ae;have Xs:cE b (fw b k (2*bO+t1))<aX.length:=K6 ao az _;have Xt:=aK.1;have Xu:=aK.2;by_cases jq:fz (fw b k (2*bO+t1)) b
   ·by_cases c9:(aX.aD (cE b (fw b k (2*bO+t1))))=true
    ·refine zf d' kb (U bf (U dB (U (b1 30 15 1) (U (cu 15 3 gN) (U (f' ((gN.arr 2 rfl).arr h9) kA rk) (U (im 0 ((gN.arr 2 rfl).arr h9) (f_ (cE b (fw b k (2*bO+t1)))) vy) (U (yY J J c9) aB))))))) (cv (ye J J J J ai jq) aC) ?_ ae
     obtain⟨vU,Lb⟩:=ey (mE g2 w2 (cE b (fw b k (2*bO+t1))));obtain⟨Lc,Ld⟩:=ey (og w2 (cE b (fw b k (2*bO+t1))));refine e5 (Y:=fa) (bC:=λaF=>(a6 aE dy dv ec ef eg aX cP cQ cR aJ xa b k4 dA av dg k g1 eL fP bO g2 eY ew t1 iI vU aF.1 aF.2)) gN [0,1,3,4] (λaF=>[oN _ _ _ aF.1 vU aF.2,qL _ _ _ ec ef eg Lc,cb _ _ [_,_,_,_,_,_,_,_,_,_,_,_,_,_,_,_,_,_,_,_,_,_,aO aF.1 vU aF.2,_],_]) (λ_=>[]) iC k2 (cF c0 (.tuple ⟨[]⟩)) (ez:=λw hw cM ay=>by rw[Lb,Ld];exact Xz.any (xa:=h0 [xa 0,xa 1,xa 2,xa 3,xa 4,xa 5,xa 6,I b.1,I b.2.1,I b.2.2.1,I b.2.2.2.1,I b.2.2.2.2.1,I b.2.2.2.2.2,k4,dA,.slice cP cQ cR,av 0,av 1,av 2,av 3,av 4,av 5] 0) _ ay (cE b (fw b k (2*bO+t1))) (mU (2*bO+t1)) aj aj) (rest:= ?_);intro fN ⟨hd,hf⟩ bP ch w ae;replace bP:=bP.qj;letI:=bE ae;refine cm (cn c5) eS [] (U gU aB) aC ?_ ae;exact e3 ⟨fN,vU,hd,hf,Lc,iI+1⟩ pg b7 (by exact⟨bP,by obtain⟨dd,dM⟩:=aK;subst dd;(subst Lb Ld;exact⟨aj,aj,af_ mf (PT (j:=2*bO+iI) ao az aj jq c9)⟩)⟩)
    ·refine zf fq qN (U bf (U dB (U (b1 30 15 1) (U (cu 15 3 gN) (U (f' ((gN.arr 2 rfl).arr h9) kA rk) (U (im 0 ((gN.arr 2 rfl).arr h9) (f_ (cE b (fw b k (2*bO+t1)))) vy) (U (DZ J J c9) (U gU aB)))))))) (cv (ye J J J J ai jq) aC) ?_ ae
     exact e3 ⟨fU,g2,eY,ew,w2,iI+1⟩ sK b7 (by exact⟨(gN.pick [0,1,2,3,4] rfl),by obtain⟨dd,dM⟩:=aK;subst dd;exact⟨aj,aj,Xl mf (PU (j:=2*bO+iI) ao az aj jq c9)⟩⟩)
   ·refine zf hs mZ (U gU aB) (cv (Hd J J J J ai jq) aC) ?_ ae
    exact e3 ⟨fU,g2,eY,ew,w2,iI+1⟩ ru b7 (by exact⟨(gN.pick [0,1,2,3,4] rfl),by obtain⟨dd,dM⟩:=aK;subst dd;exact⟨aj,aj,Xl mf (PV (j:=2*bO+iI) ao az aj jq)⟩⟩)
  ·rcases(show t1=0\/t1=1\/t1=2 by omega) with l3|l3|l3
   ·replace ae:=Here.nQ (bc fU (a6 aE dy dv ec ef eg aX cP cQ cR aJ xa b k4 dA av dg k g1 eL fP bO g2 eY ew t1)) gy b7 ae
    by_cases ea:((bO:Nat):Int)=0
    ·refine br dh [] (U bf (U gU (U dB (U (b1 28 7 7) (U (b1 25 0 6) (U (j_ 7 6 3 gN) aB)))))) aC ?_ ae
     subst l3;rcases(show bO=0\/bO=1\/bO=2 by omega) with rfl|rfl|rfl<;>try (exfalso;omega)
     exact qM pS (0) lW om b7 (by exact⟨rfl,aj⟩)
    ·by_cases q1:((bO:Nat):Int)=1
     ·refine br hN [] (U a' (U bf (U gU (U dB (U (b1 28 7 7) (U (b1 25 0 6) (U (j_ 7 6 3 gN) aB))))))) aC ?_ ae
      subst l3;rcases(show bO=0\/bO=1\/bO=2 by omega) with rfl|rfl|rfl<;>try (exfalso;omega)
      exact qM pS (0) nt ot b7 (by exact⟨rfl,aj⟩)
     ·refine br hS [] (U a' (U a' (U gU (U dB (U (b1 28 7 7) (U (b1 25 0 6) (U (j_ 7 6 3 gN) aB))))))) aC ?_ ae
      subst l3;rcases(show bO=0\/bO=1\/bO=2 by omega) with rfl|rfl|rfl<;>try (exfalso;omega)
      exact qM pS (0) uU sL b7 (by exact⟨rfl,aj⟩)
   ·replace ae:=Here.nQ (bc fU (a6 aE dy dv ec ef eg aX cP cQ cR aJ xa b k4 dA av dg k g1 eL fP bO g2 eY ew t1)) sF b7 ae
    by_cases ea:((bO:Nat):Int)=0
    ·refine br jT [] (U bf (U gU (U dB (U (b1 28 7 7) (U (b1 25 0 6) (U (j_ 7 6 3 gN) aB)))))) aC ?_ ae
     subst l3;rcases(show bO=0\/bO=1\/bO=2 by omega) with rfl|rfl|rfl<;>try (exfalso;omega)
     exact qM pS (1) ql pd b7 (by exact⟨rfl,aj⟩)
    ·by_cases q1:((bO:Nat):Int)=1
     ·refine br jx [] (U a' (U bf (U gU (U dB (U (b1 28 7 7) (U (b1 25 0 6) (U (j_ 7 6 3 gN) aB))))))) aC ?_ ae
      subst l3;rcases(show bO=0\/bO=1\/bO=2 by omega) with rfl|rfl|rfl<;>try (exfalso;omega)
      exact qM pS (1) qm sG b7 (by exact⟨rfl,aj⟩)
     ·refine br kD [] (U a' (U a' (U gU (U dB (U (b1 28 7 7) (U (b1 25 0 6) (U (j_ 7 6 3 gN) aB))))))) aC ?_ ae
      subst l3;rcases(show bO=0\/bO=1\/bO=2 by omega) with rfl|rfl|rfl<;>try (exfalso;omega)
      exact qM pS (1) uM sM b7 (by exact⟨rfl,aj⟩)
   ·replace ae:=Here.nQ (bc fU (a6 aE dy dv ec ef eg aX cP cQ cR aJ xa b k4 dA av dg k g1 eL fP bO g2 eY ew t1)) ry b7 ae
    refine br [] [] aB aC ?_ ae;refine j3 lX [] (U gU aB) aC ?_;exact e3 ⟨fU,g2,eY,ew,w2,bO+1⟩ pe b7 (by exact⟨(gN.pick [0,1,2,3,4] rfl),by obtain⟨_,_,jm⟩:=aK.2;subst l3;exact⟨aj,by rw[show 2*(bO+1)=2*bO+2 by omega];exact jm⟩⟩)
 ·refine br nu [] (U a' aB) aC ?_ ae
  refine j3 [] [] aB aC ?_;exact b2 uT λw2 bk=>(by obtain rfl:bO=3:=aj;obtain⟨bs,cw,_,_⟩:=q4;subst bs cw;exact⟨(_,_),rfl,((bX.pick [0,1,2,3,4] rfl).done bk)⟩)
end XA
end a1
namespace a1
namespace XB
noncomputable def body:Code:=(Tryd.f64.body).getD .skip
def N:Nat:=19
def aZ:c6:={sl:=bm [(0,0)],ms:=[],A:=start}
def bz:aU:=[(.dt 0,0),
 (.bQ 78 0 0,0),
 (.bh 26 0,1),
 (.cV 26 1 (I 0),25),
 (.bh 3 25,26),
 (.p4 26 1 (some (I 1)) none none,27)]
theorem b4:hc (at' 19 bz [] body aZ)=some (26,0,27):=ag
abbrev eT:=at' 19 bz [] body aZ
def cY:List bG:=[]
def c8:ax:=bm [(3,26),(2,I 0)]
def c0:ax:=match e8 19 c8 none (.tuple ⟨[]⟩) with|some s=>s|none=> .nil
theorem bs:bF (b0 eT) c8 cY=some [(26,26)]:=ag
def c5:ct:=(body,[1,1,0],9)
theorem gy:fu Tryd.prog Tryd.f64 (bD 19 [] [] c5 (aN c0 cY))=some 26:=ag
@[reducible] noncomputable def a6 (aE:List Nat) (dy:bH) (dv aJ:Nat) (xa:Nat->ad) (av:Nat->ad):List ad:=[bj aJ 22,aO dy aE dv,xa 0,xa 1,xa 2,xa 3,xa 4,xa 5,xa 6,xa 7,xa 8,xa 9,xa 10,xa 11,xa 12,xa 13,xa 14,xa 15,xa 16,xa 17,xa 18,xa 19,xa 20,xa 21,av 0,fM (aO dy aE dv) (0*1),I (((aE.aD (0)):Nat):Int),.slice (lC dy dv 1 1) (aE.length-1) (dv-1)]
theorem any (W:aG) {aE:List Nat} {dy:bH} {dv aJ:Nat} {xa:Nat->ad} {av:Nat->ad} (gm:dO (a7 W) [pa dy aE dv,cb aJ 80 [xa 0,xa 1,xa 2,xa 3,xa 4,xa 5,xa 6,xa 7,xa 8,xa 9,xa 10,xa 11,xa 12,xa 13,xa 14,xa 15,xa 16,xa 17,xa 18,xa 19,xa 20,xa 21,aO dy aE dv,av 0]]) (hlen:0<aE.length):Calls Tryd.prog 64 #[bj aJ 22] W λe w'=>(∃y:bH×Nat,e= .returned (I ((aE.aD 0:Nat):Int))/\dw (a7 W) [pa dy aE dv,cb aJ 80 [xa 0,xa 1,xa 2,xa 3,xa 4,xa 5,xa 6,xa 7,xa 8,xa 9,xa 10,xa 11,xa 12,xa 13,xa 14,xa 15,xa 16,xa 17,xa 18,xa 19,xa 20,xa 21,aO dy aE dv,av 0]] (a7 w') [kd nO 1 mD (.slice y.1 (aE.drop 1).length y.2) (aE.drop 1),cb aJ lF (List.set [xa 0,xa 1,xa 2,xa 3,xa 4,xa 5,xa 6,xa 7,xa 8,xa 9,xa 10,xa 11,xa 12,xa 13,xa 14,xa 15,xa 16,xa 17,xa 18,xa 19,xa 20,xa 21,aO dy aE dv,av 0] 22 (.slice y.1 (aE.drop 1).length y.2))])/\cO 0 W w':=by
 refine lg (a6 aE dy dv aJ xa av) body aZ N [al 0] Tryd.func64 λa ae=> ?_
 letI:=bE ae;have a_:=cC.start W _ gm;refine br bz [] (U dB (U (b1 26 0 1) (U (cu 22 1 a_) (U (Cv ((a_.j8 0 rfl).arr kZ) (show 0<aE.length by omega) vF O6) (U (im 0 ((a_.j8 0 rfl).arr kZ) (f_ 0) kz) (U (aW.J2 J J J vF O6 J J (show 1<=aE.length by omega) rfl) aB)))))) aC ?_ ae;refine oP 22 [xa 0,xa 1,xa 2,xa 3,xa 4,xa 5,xa 6,xa 7,xa 8,xa 9,xa 10,xa 11,xa 12,xa 13,xa 14,xa 15,xa 16,xa 17,xa 18,xa 19,xa 20,xa 21,.slice (lC dy dv 1 1) (aE.length-1) (dv-1),av 0] (a6 aE dy dv aJ xa av) b4 bs (cF c0 (.tuple ⟨[]⟩)) (a_.box 1 rfl) ?_;intro fN k3 gb ch w ae;have bP:=a_.gM 1 rfl (lR k3 gb);have xh:=bP.gM 0 rfl (D5 ((bP.j8 0 rfl).drop kZ (show 1<=aE.length by omega)) (λ_ _ h _=>h) λ_ h=> .inl (OM h));replace xh:=xh.AN;letI:=bE ae;refine cm (cn c5) [] [] aB aC ?_ ae;exact b2 gy λw2 bk=>(by refine⟨(lC dy dv 1 1,dv-1),rfl,?_⟩;rw[List.length_drop];exact(xh.done bk))
end XB
namespace XC
noncomputable def body:Code:=(Tryd.f67.body).getD .skip
def N:Nat:=19
def aZ:c6:={sl:=bm [(0,0)],ms:=[],A:=start}
def bz:aU:=[(.dt 0,0),
 (.bQ 73 0 0,0),
 (.bh 71 0,1),
 (.cV 71 1 (I 0),25),
 (.bh 89 25,.agg ⟨[26,27,28]⟩),
 (.p4 71 1 (some (I 1)) none none,29)]
theorem b4:hc (at' 19 bz [] body aZ)=some (71,0,29):=ag
abbrev eT:=at' 19 bz [] body aZ
def cY:List bG:=[⟨.cells [I 0,I 0,.bool false],89,0⟩,⟨.cells [26,27,28],89,0⟩]
def c8:ax:=bm [(3,bj 1 0),(2,bj 0 0)]
def c0:ax:=match e8 19 c8 none (.tuple ⟨[]⟩) with|some s=>s|none=> .nil
theorem bs:bF (b0 eT) c8 cY=some [(26,26),(27,27),(28,28)]:=ag
def c5:ct:=(body,[1,1,0],9)
theorem gy:fu Tryd.prog Tryd.f67 (bD 19 [] [] c5 (aN c0 cY))=some (.agg ⟨[26,27,28]⟩):=ag
@[reducible] noncomputable def a6 (bI:List gJ) (c1:bH) (cW aJ:Nat) (xa:Nat->ad) (av:Nat->ad):List ad:=[bj aJ 19,aO c1 bI cW,xa 0,xa 1,xa 2,xa 3,xa 4,xa 5,xa 6,xa 7,xa 8,xa 9,xa 10,xa 11,xa 12,xa 13,xa 14,xa 15,xa 16,xa 17,xa 18,av 0,av 1,av 2,av 3,fM (aO c1 bI cW) (0*3),I (((bI.aD (0)).1:Nat):Int),I (bI.aD (0)).2.1,.bool (bI.aD (0)).2.2,.slice (lC c1 cW 1 3) (bI.length-1) (cW-1)]
theorem any (W:aG) {bI:List gJ} {c1:bH} {cW aJ:Nat} {xa:Nat->ad} {av:Nat->ad} (gm:dO (a7 W) [qh c1 bI cW,cb aJ 80 [xa 0,xa 1,xa 2,xa 3,xa 4,xa 5,xa 6,xa 7,xa 8,xa 9,xa 10,xa 11,xa 12,xa 13,xa 14,xa 15,xa 16,xa 17,xa 18,aO c1 bI cW,av 0,av 1,av 2,av 3]]) (hlen:0<bI.length):Calls Tryd.prog 67 #[bj aJ 19] W λe w'=>(∃y:bH×Nat,e= .returned (Q.val (bI.aD 0))/\dw (a7 W) [qh c1 bI cW,cb aJ 80 [xa 0,xa 1,xa 2,xa 3,xa 4,xa 5,xa 6,xa 7,xa 8,xa 9,xa 10,xa 11,xa 12,xa 13,xa 14,xa 15,xa 16,xa 17,xa 18,aO c1 bI cW,av 0,av 1,av 2,av 3]] (a7 w') [kd qI 3 oL (.slice y.1 (bI.drop 1).length y.2) (bI.drop 1),cb aJ lF (List.set [xa 0,xa 1,xa 2,xa 3,xa 4,xa 5,xa 6,xa 7,xa 8,xa 9,xa 10,xa 11,xa 12,xa 13,xa 14,xa 15,xa 16,xa 17,xa 18,aO c1 bI cW,av 0,av 1,av 2,av 3] 19 (.slice y.1 (bI.drop 1).length y.2))])/\cO 0 W w':=by
 refine lg (a6 bI c1 cW aJ xa av) body aZ N [al 0] Tryd.func67 λa ae=> ?_
 letI:=bE ae;have a_:=cC.start W _ gm;refine br bz [] (U dB (U (b1 71 0 1) (U (cu 19 1 a_) (U (Cv ((a_.j8 0 rfl).arr rW) (show 0<bI.length by omega) wY O7) (U (aW.p_ ((a_.j8 0 rfl).arr rW) (f_ 0) J J aeH O7 J J J) (U (aW.J2 J J J wY O7 J J (show 1<=bI.length by omega) rfl) aB)))))) aC ?_ ae;refine oP 19 [xa 0,xa 1,xa 2,xa 3,xa 4,xa 5,xa 6,xa 7,xa 8,xa 9,xa 10,xa 11,xa 12,xa 13,xa 14,xa 15,xa 16,xa 17,xa 18,.slice (lC c1 cW 1 3) (bI.length-1) (cW-1),av 0,av 1,av 2,av 3] (a6 bI c1 cW aJ xa av) b4 bs (cF c0 (.tuple ⟨[]⟩)) (a_.box 1 rfl) ?_;intro fN k3 gb ch w ae;have bP:=a_.gM 1 rfl (lR k3 gb);have xh:=bP.gM 0 rfl (D5 ((bP.j8 0 rfl).drop rW (show 1<=bI.length by omega)) (λ_ _ h _=>h) λ_ h=> .inl (OM h));replace xh:=xh.AN;letI:=bE ae;refine cm (cn c5) [] [] aB aC ?_ ae;exact b2 gy λw2 bk=>(by refine⟨(lC c1 cW 1 3,cW-1),rfl,?_⟩;rw[List.length_drop];exact(xh.done bk))
end XC
namespace XD
noncomputable def body:Code:=(Tryd.f58.body).getD .skip
def N:Nat:=19
def aZ:c6:={sl:=bm [(0,0)],ms:=[],A:=start}
def bz:aU:=[(.dt 0,0),
 (.bQ 76 0 0,0),
 (.bh 74 0,1),
 (.cV 74 1 (I 0),25),
 (.bh 87 25,.agg ⟨[26,27,28,29,30]⟩),
 (.p4 74 1 (some (I 1)) none none,31)]
theorem b4:hc (at' 19 bz [] body aZ)=some (74,0,31):=ag
abbrev eT:=at' 19 bz [] body aZ
def cY:List bG:=[⟨.cells [I 0,I 0,I 0,I 0,I 0],87,0⟩,⟨.cells [26,27,28,29,30],87,0⟩]
def c8:ax:=bm [(3,bj 1 0),(2,bj 0 0)]
def c0:ax:=match e8 19 c8 none (.tuple ⟨[]⟩) with|some s=>s|none=> .nil
theorem bs:bF (b0 eT) c8 cY=some [(26,26),(27,27),(28,28),(29,29),(30,30)]:=ag
def c5:ct:=(body,[1,1,0],9)
theorem gy:fu Tryd.prog Tryd.f58 (bD 19 [] [] c5 (aN c0 cY))=some (.agg ⟨[26,27,28,29,30]⟩):=ag
@[reducible] noncomputable def a6 (aQ:List e2) (cZ:bH) (cT aJ:Nat) (xa:Nat->ad) (av:Nat->ad):List ad:=[bj aJ 20,aO cZ aQ cT,xa 0,xa 1,xa 2,xa 3,xa 4,xa 5,xa 6,xa 7,xa 8,xa 9,xa 10,xa 11,xa 12,xa 13,xa 14,xa 15,xa 16,xa 17,xa 18,xa 19,av 0,av 1,av 2,fM (aO cZ aQ cT) (0*5),I (((aQ.aD (0)).1:Nat):Int),I (aQ.aD (0)).2.1,I (aQ.aD (0)).2.2.1,I (aQ.aD (0)).2.2.2.1,I (aQ.aD (0)).2.2.2.2,.slice (lC cZ cT 1 5) (aQ.length-1) (cT-1)]
theorem any (W:aG) {aQ:List e2} {cZ:bH} {cT aJ:Nat} {xa:Nat->ad} {av:Nat->ad} (gm:dO (a7 W) [pL cZ aQ cT,cb aJ 80 [xa 0,xa 1,xa 2,xa 3,xa 4,xa 5,xa 6,xa 7,xa 8,xa 9,xa 10,xa 11,xa 12,xa 13,xa 14,xa 15,xa 16,xa 17,xa 18,xa 19,aO cZ aQ cT,av 0,av 1,av 2]]) (hlen:0<aQ.length):Calls Tryd.prog 58 #[bj aJ 20] W λe w'=>(∃y:bH×Nat,e= .returned (jR.val (aQ.aD 0))/\dw (a7 W) [pL cZ aQ cT,cb aJ 80 [xa 0,xa 1,xa 2,xa 3,xa 4,xa 5,xa 6,xa 7,xa 8,xa 9,xa 10,xa 11,xa 12,xa 13,xa 14,xa 15,xa 16,xa 17,xa 18,xa 19,aO cZ aQ cT,av 0,av 1,av 2]] (a7 w') [kd rl 5 pK (.slice y.1 (aQ.drop 1).length y.2) (aQ.drop 1),cb aJ lF (List.set [xa 0,xa 1,xa 2,xa 3,xa 4,xa 5,xa 6,xa 7,xa 8,xa 9,xa 10,xa 11,xa 12,xa 13,xa 14,xa 15,xa 16,xa 17,xa 18,xa 19,aO cZ aQ cT,av 0,av 1,av 2] 20 (.slice y.1 (aQ.drop 1).length y.2))])/\cO 0 W w':=by
 refine lg (a6 aQ cZ cT aJ xa av) body aZ N [al 0] Tryd.func58 λa ae=> ?_
 letI:=bE ae;have a_:=cC.start W _ gm;refine br bz [] (U dB (U (b1 74 0 1) (U (cu 20 1 a_) (U (Cv ((a_.j8 0 rfl).arr rm) (show 0<aQ.length by omega) uF O9) (U (aW.p_ ((a_.j8 0 rfl).arr rm) (f_ 0) J J aeO O9 J J J) (U (aW.J2 J J J uF O9 J J (show 1<=aQ.length by omega) rfl) aB)))))) aC ?_ ae;refine oP 20 [xa 0,xa 1,xa 2,xa 3,xa 4,xa 5,xa 6,xa 7,xa 8,xa 9,xa 10,xa 11,xa 12,xa 13,xa 14,xa 15,xa 16,xa 17,xa 18,xa 19,.slice (lC cZ cT 1 5) (aQ.length-1) (cT-1),av 0,av 1,av 2] (a6 aQ cZ cT aJ xa av) b4 bs (cF c0 (.tuple ⟨[]⟩)) (a_.box 1 rfl) ?_;intro fN k3 gb ch w ae;have bP:=a_.gM 1 rfl (lR k3 gb);have xh:=bP.gM 0 rfl (D5 ((bP.j8 0 rfl).drop rm (show 1<=aQ.length by omega)) (λ_ _ h _=>h) λ_ h=> .inl (OM h));replace xh:=xh.AN;letI:=bE ae;refine cm (cn c5) [] [] aB aC ?_ ae;exact b2 gy λw2 bk=>(by refine⟨(lC cZ cT 1 5,cT-1),rfl,?_⟩;rw[List.length_drop];exact(xh.done bk))
end XD
end a1
namespace a1
structure gY where
 au:List cc
 aQ:List e2
 gone:List Nat
 aE:List Nat
 waits:List Bool
 reqs:List gJ
 lit:List Int
 aX:List Bool
def s6 (l:List Nat) (s:List Nat×List Bool):List Nat×List Bool:=l.foldl (λs k=>(mE s.1 s.2 k,og s.2 k)) s
def oR (i:Nat) (now old:cc):cc:=pJ λc=>if c<i then max (dP now c) (dP old c) else dP old c
def qO (i:Nat) (now old:cc):Bool:=(decide (0<i)&&decide (dP old 0<dP now 0))||(decide (1<i)&&decide (dP old 1<dP now 1))||(decide (2<i)&&decide (dP old 2<dP now 2))||(decide (3<i)&&decide (dP old 3<dP now 3))
variable (table:List dx) (b:cx)
def xi (u:gY) (x:e2) (r:List e2):List e2×List Nat×List cc:=kF table u.lit x.2 (eE b u.aX x.1 6) (r,u.gone,u.au)
def yg (u:gY) (x:e2) (r:List e2):gY:=
 if (xi table b u x r).1.length=0 then
  {u with aQ:=(xi table b u x r).1,gone:=[],au:=(xi table b u x r).2.2,aE:=(s6 (xi table b u x r).2.1 (u.aE,u.waits)).1,waits:=(s6 (xi table b u x r).2.1 (u.aE,u.waits)).2}
 else {u with aQ:=(xi table b u x r).1,gone:=(xi table b u x r).2.1,au:=(xi table b u x r).2.2}
def Ev (u:gY) (k:Nat):cc:=jH table u.lit u.au u.aX b k
def yh (u:gY) (k:Nat) (r:List Nat):gY:=
 if qO 4 (Ev table b u k) (u.au.getD k default)=true then
  {u with au:=u.au.set k (oR 4 (Ev table b u k) (u.au.getD k default)),aE:=(tN (eE b u.aX k 6) (r,u.waits.set k false)).1,waits:=(tN (eE b u.aX k 6) (r,u.waits.set k false)).2}
 else {u with au:=u.au.set k (oR 4 (Ev table b u k) (u.au.getD k default)),aE:=r,waits:=u.waits.set k false}
def Le (u:gY) (x:gJ) (r:List gJ):gY:=
 {u with aQ:=u.aQ++[(x.1,u.au.getD x.1 default)],gone:=u.gone++[x.1],au:=u.au.set x.1 (tG (u.au.getD x.1 default) (u.au.getD x.1 default)),lit:=u.lit.set x.1 x.2.1,aX:=u.aX.set x.1 x.2.2,reqs:=r}
def fK (u:gY):Bool×gY:=
 if 0<u.aQ.length then (true,yg table b u (u.aQ.getD 0 default) (u.aQ.drop 1))
 else if 0<u.aE.length then (true,yh table b u (u.aE.getD 0 default) (u.aE.drop 1))
 else if 0<u.reqs.length then (true,Le u (u.reqs.getD 0 default) (u.reqs.drop 1))
 else (false,u)
variable {table b}
theorem Ew {u:gY} (h:0<u.aQ.length):fK table b u=(true,yg table b u (u.aQ.getD 0 default) (u.aQ.drop 1)):=aP h
theorem Ex {u:gY} (h:¬0<u.aQ.length) (ah:0<u.aE.length):fK table b u=(true,yh table b u (u.aE.getD 0 default) (u.aE.drop 1)):=(aV h).trans (aP ah)
theorem HA {u:gY} (h:¬0<u.aQ.length) (ah:¬0<u.aE.length) (aH:0<u.reqs.length):fK table b u=(true,Le u (u.reqs.getD 0 default) (u.reqs.drop 1)):=(aV h).trans ((aV ah).trans (aP aH))
theorem Ey {u:gY} (h:¬0<u.aQ.length) (ah:¬0<u.aE.length) (aH:¬0<u.reqs.length):fK table b u=(false,u):=(aV h).trans ((aV ah).trans (aV aH))
end a1
namespace a1
section
variable {N jR:cc} {l b8:List cc} {k:Nat}
theorem ago:oR 0 N jR=jR:=cc.ext' λc aA=>by
 unfold oR;rw[ri aA,aV (Nat.not_lt_zero c)]
theorem Lf (i:Nat):oR i N jR=(if 0<i then max N.1 jR.1 else jR.1,if 1<i then max N.2.1 jR.2.1 else jR.2.1,if 2<i then max N.2.2.1 jR.2.2.1 else jR.2.2.1,if 3<i then max N.2.2.2 jR.2.2.2 else jR.2.2.2):=rfl
theorem AT {α:Type} {l:List α} {k:Nat} {x d:α} (ao:k<l.length):(l.set k x).getD k d=x:=by
 rw[y5 ao,aP rfl]
theorem P_ (ao:k<l.length) (h:b8=l.set k (oR 0 N (l.getD k default))):b8.set k (max N.1 (b8.getD k default).1,(b8.getD k default).2.1,(b8.getD k default).2.2.1,(b8.getD k default).2.2.2)=l.set k (oR 1 N (l.getD k default)):=by
 subst h;rw[AT ao,List.set_set];rfl
theorem Qa (ao:k<l.length) (h:b8=l.set k (oR 1 N (l.getD k default))):b8.set k ((b8.getD k default).1,max N.2.1 (b8.getD k default).2.1,(b8.getD k default).2.2.1,(b8.getD k default).2.2.2)=l.set k (oR 2 N (l.getD k default)):=by
 subst h;rw[AT ao,List.set_set];rfl
theorem Qb (ao:k<l.length) (h:b8=l.set k (oR 2 N (l.getD k default))):b8.set k ((b8.getD k default).1,(b8.getD k default).2.1,max N.2.2.1 (b8.getD k default).2.2.1,(b8.getD k default).2.2.2)=l.set k (oR 3 N (l.getD k default)):=by
 subst h;rw[AT ao,List.set_set];rfl
theorem Qc (ao:k<l.length) (h:b8=l.set k (oR 3 N (l.getD k default))):b8.set k ((b8.getD k default).1,(b8.getD k default).2.1,(b8.getD k default).2.2.1,max N.2.2.2 (b8.getD k default).2.2.2)=l.set k (oR 4 N (l.getD k default)):=by
 subst h;rw[AT ao,List.set_set];rfl
theorem Qd (ao:k<l.length) (h:b8=l.set k (oR 0 N (l.getD k default))):qO 1 N (l.getD k default)=(qO 0 N (l.getD k default)||decide ((b8.getD k default).1<N.1)):=by
 subst h;rw[AT ao];simp [qO,Lf,dP]
theorem Qe (ao:k<l.length) (h:b8=l.set k (oR 1 N (l.getD k default))):qO 2 N (l.getD k default)=(qO 1 N (l.getD k default)||decide ((b8.getD k default).2.1<N.2.1)):=by
 subst h;rw[AT ao];simp [qO,Lf,dP]
theorem Qf (ao:k<l.length) (h:b8=l.set k (oR 2 N (l.getD k default))):qO 3 N (l.getD k default)=(qO 2 N (l.getD k default)||decide ((b8.getD k default).2.2.1<N.2.2.1)):=by
 subst h;rw[AT ao];simp [qO,Lf,dP]
theorem Qg (ao:k<l.length) (h:b8=l.set k (oR 3 N (l.getD k default))):qO 4 N (l.getD k default)=(qO 3 N (l.getD k default)||decide ((b8.getD k default).2.2.2<N.2.2.2)):=by
 subst h;rw[AT ao];simp [qO,Lf,dP]
theorem Lg {m:Bool} {p:Prop} [Decidable p] {r:Bool} (h:r=(m||decide p)) (hm:true=m):true=r:=by rw[h,<-hm];rfl
theorem Lh {m:Bool} {p:Prop} [Decidable p] {r:Bool} (h:r=(m||decide p)) (hp:p):true=r:=by rw[h];simp [hp]
theorem Li {m:Bool} {p:Prop} [Decidable p] {r:Bool} (h:r=(m||decide p)) (hm:false=m) (hp:¬p):false=r:=by rw[h,<-hm];simp [hp]
end
section
variable {g pj:List Nat} {w r4:List Bool} {l:List Nat} {j:Nat}
theorem agp (s:List Nat×List Bool) (k:Nat):s6 (l++[k]) s=(mE (s6 l s).1 (s6 l s).2 k,og (s6 l s).2 k):=by
 unfold s6;rw[List.foldl_append];rfl
theorem XE {s:List Nat×List Bool} (bg:pj=(s6 (l.take j) s).1) (hw:r4=(s6 (l.take j) s).2) (aq:j<l.length):mE pj r4 (l.getD j default)=(s6 (l.take (j+1)) s).1/\og r4 (l.getD j default)=(s6 (l.take (j+1)) s).2:=by
 have:l.take (j+1)=l.take j++[l.getD j default]:=by
  rw[List.take_add_one,eP,ig aq];rfl
 rw[this,agp,<-bg,<-hw];exact⟨rfl,rfl⟩
end
theorem agq {b:cx} {sh:List Bool} {k j:Nat} {p:Nat×Int} (h:p∈eE b sh k j):p.1<sh.length:=by
 unfold eE at h;have ah:=(List.mem_filter.1 h).2;rcases Nat.lt_or_ge p.1 sh.length with aH|aH
 ·exact aH
 ·rw[eP,List.getElem?_eq_none aH] at ah
  cases ah
theorem agr (b:cx) (sh:List Bool) (k j:Nat):(eE b sh k j).length<=j:=by
 unfold eE zp;exact Nat.le_trans (List.length_filter_le _ _) (VY _ _ _ _ _)
theorem XF {N:Nat} {table:List dx} {lit:List Int} {old:cc}:∀(l:List (Nat×Int)) (s:List e2×List Nat×List cc),(∀p∈l,p.1<N)->(∀k∈s.2.1,k<N)->
  (∀k∈(kF table lit old l s).2.1,k<N)/\(kF table lit old l s).2.1.length<=s.2.1.length+l.length/\(kF table lit old l s).2.2.length=s.2.2.length/\(kF table lit old l s).1.length<=s.1.length+l.length
 |[],s,_,h=>⟨h,c4 _,rfl,c4 _⟩
 |p::l,s,af,h=>by
  have ai:∀k∈(sH table lit old s p).2.1,k<N:=by
   intro k ao;unfold sH uL at ao;simp only at ao;split at ao
   ·exact h k ao
   ·rcases List.mem_append.1 ao with ao|ao
    ·exact h k ao
    ·rw[List.mem_singleton.1 ao];exact af p (by simp)
  obtain⟨q1,aI,bS,fo⟩:=XF l (sH table lit old s p) (λq cy=>af q (by simp [cy])) ai;refine⟨q1,?_,?_,?_⟩
  ·have:(sH table lit old s p).2.1.length<=s.2.1.length+1:=by
    unfold sH uL;simp only;split<;>simp
   have e:(kF table lit old (p::l) s)=kF table lit old l (sH table lit old s p):=rfl;rw[e];simp only [List.length_cons];omega
  ·have:(sH table lit old s p).2.2.length=s.2.2.length:=by
    unfold sH yd;simp only;split<;>simp
   exact bS.trans this
  ·have:(sH table lit old s p).1.length<=s.1.length+1:=Xm _ _ _
   have e:(kF table lit old (p::l) s)=kF table lit old l (sH table lit old s p):=rfl;rw[e];simp only [List.length_cons];omega
theorem XG {b:cx} {sh:List Bool} {k:Nat} {table:List dx} {lit:List Int} {old:cc} {s:List e2×List Nat×List cc} (h:∀k∈s.2.1,k<sh.length):
  (∀j,j<(kF table lit old (eE b sh k 6) s).2.1.length->((kF table lit old (eE b sh k 6) s).2.1.getD j default)<sh.length)/\(kF table lit old (eE b sh k 6) s).2.1.length<=s.2.1.length+6:=by
 obtain⟨q1,aI,_⟩:=XF (N:=sh.length) (table:=table) (lit:=lit) (old:=old) (eE b sh k 6) s (λp hp=>agq hp) h;have:=agr b sh k 6;refine⟨λj aq=> ?_,aj⟩;rw[eP,ig aq];exact q1 _ (List.getElem_mem aq)
theorem Qh {α:Type} {d:α} {l:List α} {p:α->Prop} (h:∀x∈l,p x):l.length=0\/p (l.getD 0 d):=by
 cases l with
 |nil=>exact .inl rfl
 |cons x r=>exact .inr (h x (by simp))
section
variable {table:List dx} {b:cx} {au fC:List cc} {aQ cj d:List e2} {gone fR:List Nat} {aE pj:List Nat} {waits r4:List Bool} {reqs:List gJ} {lit:List Int} {aX:List Bool}
theorem ags {j:Nat} (h:aQ.length≠0) (bu:d=aQ.drop 1) (b4:cj=(kF table lit (aQ.getD 0 default).2 (eE b aX (aQ.getD 0 default).1 6) (d,gone,au)).1)
  (bs:fR=(kF table lit (aQ.getD 0 default).2 (eE b aX (aQ.getD 0 default).1 6) (d,gone,au)).2.1) (cw:fC=(kF table lit (aQ.getD 0 default).2 (eE b aX (aQ.getD 0 default).1 6) (d,gone,au)).2.2)
  (de:cj.length=0) (aq:j=fR.length) (Ez:pj=(s6 (fR.take j) (aE,waits)).1) (Lj:r4=(s6 (fR.take j) (aE,waits)).2):
  fK table b ⟨au,aQ,gone,aE,waits,reqs,lit,aX⟩=(true,⟨fC,cj,[],pj,r4,reqs,lit,aX⟩):=by
 subst aq;rw[List.take_length] at Ez Lj;rw[Ew (by show 0<aQ.length;omega)];unfold yg xi;simp only [<-bu,<-b4,<-bs,<-cw,aP de,<-Ez,<-Lj]
theorem agt (h:aQ.length≠0) (bu:d=aQ.drop 1) (b4:cj=(kF table lit (aQ.getD 0 default).2 (eE b aX (aQ.getD 0 default).1 6) (d,gone,au)).1)
  (bs:fR=(kF table lit (aQ.getD 0 default).2 (eE b aX (aQ.getD 0 default).1 6) (d,gone,au)).2.1) (cw:fC=(kF table lit (aQ.getD 0 default).2 (eE b aX (aQ.getD 0 default).1 6) (d,gone,au)).2.2)
  (de:cj.length≠0):
  fK table b ⟨au,aQ,gone,aE,waits,reqs,lit,aX⟩=(true,⟨fC,cj,fR,aE,waits,reqs,lit,aX⟩):=by
 rw[Ew (by show 0<aQ.length;omega)];unfold yg xi;simp only [<-bu,<-b4,<-bs,<-cw,aV de]
theorem agu {b8:List cc} {d:List Nat} {w2:List Bool} (h:aQ.length=0) (ah:aE.length≠0) (bu:d=aE.drop 1) (hw:w2=waits.set (aE.getD 0 default) false)
  (e:b8=au.set (aE.getD 0 default) (oR 4 (jH table lit au aX b (aE.getD 0 default)) (au.getD (aE.getD 0 default) default)))
  (hm:false=qO 4 (jH table lit au aX b (aE.getD 0 default)) (au.getD (aE.getD 0 default) default)):
  fK table b ⟨au,aQ,gone,aE,waits,reqs,lit,aX⟩=(true,⟨b8,aQ,gone,d,w2,reqs,lit,aX⟩):=by
 rw[Ex (by show ¬0<aQ.length;omega) (by show 0<aE.length;omega)];unfold yh Ev;simp only [<-hm,<-bu,<-hw,<-e,Bool.false_eq_true,if_false]
theorem agv {b8:List cc} {d g2:List Nat} {w2 BH:List Bool} (h:aQ.length=0) (ah:aE.length≠0) (bu:d=aE.drop 1) (hw:w2=waits.set (aE.getD 0 default) false)
  (e:b8=au.set (aE.getD 0 default) (oR 4 (jH table lit au aX b (aE.getD 0 default)) (au.getD (aE.getD 0 default) default)))
  (hm:true=qO 4 (jH table lit au aX b (aE.getD 0 default)) (au.getD (aE.getD 0 default) default))
  (Ez:g2=(tN (eE b aX (aE.getD 0 default) 6) (d,w2)).1) (Lj:BH=(tN (eE b aX (aE.getD 0 default) 6) (d,w2)).2):
  fK table b ⟨au,aQ,gone,aE,waits,reqs,lit,aX⟩=(true,⟨b8,aQ,gone,g2,BH,reqs,lit,aX⟩):=by
 rw[Ex (by show ¬0<aQ.length;omega) (by show 0<aE.length;omega)];unfold yh Ev;simp only [<-hm,<-bu,<-hw,<-e,<-Ez,<-Lj,if_true]
theorem agw {d:List gJ} {jo:List cc} {i3:List Int} {tv:List Bool} (h:aQ.length=0) (ah:aE.length=0) (aH:reqs.length≠0) (bu:d=reqs.drop 1)
  (b4:cj=aQ++[((reqs.getD 0 default).1,au.getD (reqs.getD 0 default).1 default)]) (bs:fR=gone++[(reqs.getD 0 default).1])
  (cw:jo=au.set (reqs.getD 0 default).1 (tG (au.getD (reqs.getD 0 default).1 default) (au.getD (reqs.getD 0 default).1 default)))
  (dD:i3=lit.set (reqs.getD 0 default).1 (reqs.getD 0 default).2.1) (hq:tv=aX.set (reqs.getD 0 default).1 (reqs.getD 0 default).2.2):
  fK table b ⟨au,aQ,gone,aE,waits,reqs,lit,aX⟩=(true,⟨jo,cj,fR,aE,waits,d,i3,tv⟩):=by
 rw[HA (by show ¬0<aQ.length;omega) (by show ¬0<aE.length;omega) (by show 0<reqs.length;omega)];unfold Le;simp only [<-bu,<-b4,<-bs,<-cw,<-dD,<-hq]
end
end a1
namespace a1
namespace XH
noncomputable def body:Code:=(Tryd.f36.body).getD .skip
def N:Nat:=152
noncomputable abbrev b9:=fu Tryd.prog Tryd.f36
def aZ:c6:={sl:=bm [(0,0)],ms:=[],A:=start}
def bz:aU:=[(.cz (I 34),I 34),
 (.cz (I 87),I 87)]
theorem b4:uC (at' 152 bz [] body aZ)=some (34,0):=ag
abbrev eT:=at' 152 bz [] body aZ
def cY:List bG:=[]
def c8:ax:=bm []
def c0:ax:=dS 152 c8 1 25
theorem bs:bF (b0 eT) c8 cY=some []:=ag
def c5:ct:=(body,[0],1)
def cp:aU:=[(.cz (I 34),I 34),
 (.cz (I 87),I 87),
 (.bh 34 25,0),
 (.dt 0,0),
 (.bQ 80 0 8,26),
 (.dt 26,26),
 (.bQ 76 26 0,26),
 (.bh 74 26,2),
 (.len #[74] 3 2,27),
 (.bin .eql 3 27 (I 0),.bool true),
 (.bQ 80 0 10,28),
 (.dt 28,28),
 (.bQ 78 28 0,28),
 (.bh 26 28,4),
 (.len #[26] 3 4,29),
 (.bin .eql 3 29 (I 0),.bool true),
 (.bQ 80 0 7,30),
 (.dt 30,30),
 (.bQ 73 30 0,30),
 (.bh 71 30,1),
 (.len #[71] 3 1,31),
 (.bin .eql 3 31 (I 0),.bool true)]
theorem gy:b9 (bD 152 cp [] c5 (aN c0 cY))=some (.bool false):=ag
def dh:aU:=[(.cz (I 34),I 34),
 (.cz (I 87),I 87),
 (.bh 34 25,0),
 (.dt 0,0),
 (.bQ 80 0 8,26),
 (.dt 26,26),
 (.bQ 76 26 0,26),
 (.bh 74 26,2),
 (.len #[74] 3 2,27),
 (.bin .eql 3 27 (I 0),.bool true),
 (.bQ 80 0 10,28),
 (.dt 28,28),
 (.bQ 78 28 0,28),
 (.bh 26 28,4),
 (.len #[26] 3 4,29),
 (.bin .eql 3 29 (I 0),.bool true),
 (.bQ 80 0 7,30),
 (.dt 30,30),
 (.bQ 73 30 0,30),
 (.bh 71 30,1),
 (.len #[71] 3 1,31),
 (.bin .eql 3 31 (I 0),.bool false)]
theorem iC:eW (bD 152 dh [] c5 (aN c0 cY))=some (67,[30]):=ag
abbrev h':=bD 152 dh [] c5 {sl:=c0,ms:=[],A:=cS cY}
def fm:List bG:=[]
def fT:ax:=bm [(2,.bool false),(1,25)]
def eO:ax:=dS 152 fT 120 (.agg ⟨[33,34,35]⟩)
theorem k2:bF (hQ Tryd.prog h') fT fm=some [(25,25)]:=ag
def ga:ct:=(body,[1,0,4,1,3,1,3,1,2,0],4)
def d':aU:=[(.cz (I 34),I 34),
 (.cz (I 87),I 87),
 (.bh 34 25,0),
 (.dt 0,0),
 (.bQ 80 0 5,36),
 (.bh 45 36,6),
 (.cV 45 6 33,37),
 (.bh 85 37,.agg ⟨[38,39,40,41]⟩)]
theorem pg:eW (bD 152 d' [] ga (aN eO fm))=some (63,[0,33,.agg ⟨[38,39,40,41]⟩]):=ag
abbrev lr:=bD 152 d' [] ga {sl:=eO,ms:=[],A:=cS fm}
def hF:List bG:=[⟨.cells [33,34,35],89,0⟩]
def iG:ax:=bm [(10,bj 0 0),(2,.bool false),(1,25)]
def fS:ax:=dS 152 iG 132 (.tuple ⟨[]⟩)
theorem lW:bF (hQ Tryd.prog lr) iG hF=some [(25,25),(33,33),(34,34),(35,35)]:=ag
def ht:ct:=(body,[1,0,4,1,3,1,3,1,2,1,0],12)
abbrev h5:=bD 152 bz [] ht {sl:=fS,ms:=[],A:=cS hF}
def eS:aU:=[(.cz (I 34),I 34),
 (.cz (I 87),I 87),
 (.bh 34 25,0),
 (.dt 0,0),
 (.bQ 80 0 1,44),
 (.bQ 28 44 1,45),
 (.bh 26 45,7),
 (.bQ 80 0 3,46),
 (.bh 30 46,9),
 (.cV 26 7 33,47)]
theorem sL:Pl Tryd.prog eS [] 152 1000 10 18 19 h5=some (3,47,34):=ag
theorem sF:hc (AL 152 bz [] (Ef 18 19 h5) (hl h5) (gi h5) (KF Tryd.prog eS [] 152 1000 10 18 19 h5))=some (3,47,34):=ag
abbrev pc:=AL 152 bz [] (Ef 18 19 h5) (hl h5) (gi h5) (KF Tryd.prog eS [] 152 1000 10 18 19 h5)
def kC:List bG:=[]
def lH:ax:=bm [(149,35),(145,33),(143,9),(2,.bool false)]
def jt:ax:=match e8 152 lH none (.tuple ⟨[]⟩) with|some s=>s|none=> .nil
theorem ql:bF (b0 pc) lH kC=some [(9,9),(33,33),(35,35)]:=ag
def k0:ct:=(body,[1,0,4,1,3,1,3,1,2,1,1],19)
def fq:aU:=[(.cz (I 34),I 34),
 (.cz (I 87),I 87),
 (.cV 30 9 33,48)]
theorem sM:hc (bD 152 fq [] k0 (aN jt kC))=some (4,48,35):=ag
abbrev oo:=bD 152 fq [] k0 {sl:=jt,ms:=[],A:=cS kC}
def lh:List bG:=[]
def ml:ax:=bm [(2,.bool false)]
def kf:ax:=match e8 152 ml none (.tuple ⟨[]⟩) with|some s=>s|none=> .nil
theorem ry:bF (b0 oo) ml lh=some []:=ag
def nS:ct:=(body,[1,0,4,1,3,1,3,1,2,1,1],21)
theorem xe:b9 (bD 152 bz [] nS (aN kf lh))=some (.bool true):=ag
def hs:aU:=[(.cz (I 34),I 34),
 (.cz (I 87),I 87),
 (.bh 34 25,0),
 (.dt 0,0),
 (.bQ 80 0 8,26),
 (.dt 26,26),
 (.bQ 76 26 0,26),
 (.bh 74 26,2),
 (.len #[74] 3 2,27),
 (.bin .eql 3 27 (I 0),.bool true),
 (.bQ 80 0 10,28),
 (.dt 28,28),
 (.bQ 78 28 0,28),
 (.bh 26 28,4),
 (.len #[26] 3 4,29),
 (.bin .eql 3 29 (I 0),.bool false)]
theorem Cx:eW (bD 152 hs [] c5 (aN c0 cY))=some (64,[28]):=ag
abbrev uN:=bD 152 hs [] c5 {sl:=c0,ms:=[],A:=cS cY}
def mX:List bG:=[]
def pP:ax:=bm [(2,.bool false),(1,25)]
def mY:ax:=dS 152 pP 55 50
theorem PW:bF (hQ Tryd.prog uN) pP mX=some [(25,25)]:=ag
def mF:ct:=(body,[1,0,4,1,3,1,2,0],4)
def hN:aU:=[(.cz (I 34),I 34),
 (.cz (I 87),I 87),
 (.bh 34 25,0),
 (.dt 0,0),
 (.bQ 80 0 11,51),
 (.bh 30 51,5),
 (.cV 30 5 50,52)]
theorem PK:hc (bD 152 hN [] mF (aN mY mX))=some (4,52,(.bool false)):=ag
abbrev uO:=bD 152 hN [] mF {sl:=mY,ms:=[],A:=cS mX}
def nT:List bG:=[]
def pQ:ax:=bm [(6,50),(2,.bool false),(1,25)]
def nU:ax:=match e8 152 pQ none (.tuple ⟨[]⟩) with|some s=>s|none=> .nil
theorem G8:bF (b0 uO) pQ nT=some [(25,25),(50,50)]:=ag
def nV:ct:=(body,[1,0,4,1,3,1,2,1,0],7)
def hS:aU:=[(.cz (I 34),I 34),
 (.cz (I 87),I 87),
 (.bh 34 25,0)]
theorem P2:eW (bD 152 hS [] nV (aN nU nT))=some (65,[0,50]):=ag
abbrev uP:=bD 152 hS [] nV {sl:=nU,ms:=[],A:=cS nT}
def mG:List bG:=[]
def pR:ax:=bm [(6,50),(2,.bool false),(1,25)]
def mH:ax:=dS 152 pR 64 (.agg ⟨[53,54,55,56]⟩)
theorem PL:bF (hQ Tryd.prog uP) pR mG=some [(25,25),(50,50)]:=ag
def mm:ct:=(body,[1,0,4,1,3,1,2,1,1,0],3)
def bt:List bG:=[⟨.cells [53,54,55,56],85,0⟩]
def cl:ax:=bm [(65,58),(8,57),(7,bj 0 0),(6,50),(2,.bool false),(1,25)]
abbrev fG:=bD 152 bz [] mm {sl:=mH,ms:=[],A:=cS mG}
theorem Qi:mi cl bt fG=some [(25,25),(I 0,58),(.bool false,57),(50,50),(53,53),(54,54),(55,55),(56,56)]:=ag
def bY:Code:=nJ body [1,0,4,1,3,1,2,1,1,1,1,0,1,4]
def fJ:List hj:=lp body [1,0,4,1,3,1,2,1,1,1,1,0,1,4] []
theorem Qj:lP fG=bY:=ag
theorem zk:gi fG=fJ:=ag
def Qk:ax:=bm [(65,I 0),(8,.bool true),(7,bj 0 0),(6,50),(2,.bool false),(1,25)]
theorem zl:bF (aN cl bt) Qk bt=some [(25,25),(58,I 0),(57,.bool true),(50,50),(53,53),(54,54),(55,55),(56,56)]:=ag
def jT:aU:=[(.cz (I 34),I 34),
 (.cz (I 87),I 87),
 (.bh 34 25,0),
 (.dt 0,0),
 (.bQ 80 0 5,36),
 (.bh 45 36,6),
 (.cV 45 6 50,59),
 (.cV 85 59 (I 0),60),
 (.bh 3 60,61),
 (.eZ #[3,3] 3 53 61,62)]
theorem zm:hc (at' 152 jT [] bY (aN Qk bt))=some (3,60,62):=ag
abbrev zq:=at' 152 jT [] bY (aN Qk bt)
def sS:List bG:=[⟨.cells [53,54,55,56],85,0⟩]
def tO:ax:=bm [(65,I 0),(8,.bool true),(7,bj 0 0),(6,50),(2,.bool false),(1,25)]
def sT:ax:=match e8 152 tO none (.tuple ⟨[]⟩) with|some s=>s|none=> .nil
theorem zn:bF (b0 zq) tO sS=some [(25,25),(50,50),(53,53),(54,54),(55,55),(56,56)]:=ag
def sU:ct:=(bY,[1,1,0,4,1,1],22)
theorem agx:eV cl bt (bD 152 bz [] sU (aN sT sS))=some [(25,25),(I 1,58),(.bool true,57),(50,50),(53,53),(54,54),(55,55),(56,56)]:=ag
def HB:ax:=bm [(65,I 0),(8,.bool false),(7,bj 0 0),(6,50),(2,.bool false),(1,25)]
theorem agy:bF (aN cl bt) HB bt=some [(25,25),(58,I 0),(57,.bool false),(50,50),(53,53),(54,54),(55,55),(56,56)]:=ag
def jx:aU:=[(.cz (I 34),I 34),
 (.cz (I 87),I 87),
 (.bh 34 25,0),
 (.dt 0,0),
 (.bQ 80 0 5,36),
 (.bh 45 36,6),
 (.cV 45 6 50,59),
 (.cV 85 59 (I 0),60),
 (.bh 3 60,61),
 (.bin .gtr 3 53 61,.bool true),
 (.eZ #[3,3] 3 53 61,62)]
theorem Ql:hc (at' 152 jx [] bY (aN HB bt))=some (3,60,62):=ag
abbrev zs:=at' 152 jx [] bY (aN HB bt)
def sV:List bG:=[⟨.cells [53,54,55,56],85,0⟩]
def tP:ax:=bm [(65,I 0),(8,.bool true),(7,bj 0 0),(6,50),(2,.bool false),(1,25)]
def r1:ax:=match e8 152 tP none (.tuple ⟨[]⟩) with|some s=>s|none=> .nil
theorem Hk:bF (b0 zs) tP sV=some [(25,25),(50,50),(53,53),(54,54),(55,55),(56,56)]:=ag
def sW:ct:=(bY,[1,1,0,4,1,1],22)
theorem Qm:eV cl bt (bD 152 bz [] sW (aN r1 sV))=some [(25,25),(I 1,58),(.bool true,57),(50,50),(53,53),(54,54),(55,55),(56,56)]:=ag
def kD:aU:=[(.cz (I 34),I 34),
 (.cz (I 87),I 87),
 (.bh 34 25,0),
 (.dt 0,0),
 (.bQ 80 0 5,36),
 (.bh 45 36,6),
 (.cV 45 6 50,59),
 (.cV 85 59 (I 0),60),
 (.bh 3 60,61),
 (.bin .gtr 3 53 61,.bool false),
 (.eZ #[3,3] 3 53 61,62)]
theorem agz:hc (at' 152 kD [] bY (aN HB bt))=some (3,60,62):=ag
abbrev vN:=at' 152 kD [] bY (aN HB bt)
def pT:List bG:=[⟨.cells [53,54,55,56],85,0⟩]
def sX:ax:=bm [(65,I 0),(8,.bool false),(7,bj 0 0),(6,50),(2,.bool false),(1,25)]
def pU:ax:=match e8 152 sX none (.tuple ⟨[]⟩) with|some s=>s|none=> .nil
theorem Hn:bF (b0 vN) sX pT=some [(25,25),(50,50),(53,53),(54,54),(55,55),(56,56)]:=ag
def rz:ct:=(bY,[1,1,0,4,1,1],22)
theorem agA:eV cl bt (bD 152 bz [] rz (aN pU pT))=some [(25,25),(I 1,58),(.bool false,57),(50,50),(53,53),(54,54),(55,55),(56,56)]:=ag
def Qn:ax:=bm [(65,I 1),(8,.bool true),(7,bj 0 0),(6,50),(2,.bool false),(1,25)]
theorem HC:bF (aN cl bt) Qn bt=some [(25,25),(58,I 1),(57,.bool true),(50,50),(53,53),(54,54),(55,55),(56,56)]:=ag
def mI:aU:=[(.cz (I 34),I 34),
 (.cz (I 87),I 87),
 (.bh 34 25,0),
 (.dt 0,0),
 (.bQ 80 0 5,36),
 (.bh 45 36,6),
 (.cV 45 6 50,59),
 (.cV 85 59 (I 1),63),
 (.bh 3 63,64),
 (.eZ #[3,3] 3 54 64,65)]
theorem agB:hc (at' 152 mI [] bY (aN Qn bt))=some (3,63,65):=ag
abbrev zt:=at' 152 mI [] bY (aN Qn bt)
def sY:List bG:=[⟨.cells [53,54,55,56],85,0⟩]
def tQ:ax:=bm [(65,I 1),(8,.bool true),(7,bj 0 0),(6,50),(2,.bool false),(1,25)]
def sZ:ax:=match e8 152 tQ none (.tuple ⟨[]⟩) with|some s=>s|none=> .nil
theorem agC:bF (b0 zt) tQ sY=some [(25,25),(50,50),(53,53),(54,54),(55,55),(56,56)]:=ag
def s0:ct:=(bY,[1,1,0,4,1,1],22)
theorem Qo:eV cl bt (bD 152 bz [] s0 (aN sZ sY))=some [(25,25),(I 2,58),(.bool true,57),(50,50),(53,53),(54,54),(55,55),(56,56)]:=ag
def HD:ax:=bm [(65,I 1),(8,.bool false),(7,bj 0 0),(6,50),(2,.bool false),(1,25)]
theorem Qp:bF (aN cl bt) HD bt=some [(25,25),(58,I 1),(57,.bool false),(50,50),(53,53),(54,54),(55,55),(56,56)]:=ag
def lX:aU:=[(.cz (I 34),I 34),
 (.cz (I 87),I 87),
 (.bh 34 25,0),
 (.dt 0,0),
 (.bQ 80 0 5,36),
 (.bh 45 36,6),
 (.cV 45 6 50,59),
 (.cV 85 59 (I 1),63),
 (.bh 3 63,64),
 (.bin .gtr 3 54 64,.bool true),
 (.eZ #[3,3] 3 54 64,65)]
theorem Qq:hc (at' 152 lX [] bY (aN HD bt))=some (3,63,65):=ag
abbrev CG:=at' 152 lX [] bY (aN HD bt)
def xj:List bG:=[⟨.cells [53,54,55,56],85,0⟩]
def uu:ax:=bm [(65,I 1),(8,.bool true),(7,bj 0 0),(6,50),(2,.bool false),(1,25)]
def xk:ax:=match e8 152 uu none (.tuple ⟨[]⟩) with|some s=>s|none=> .nil
theorem Qr:bF (b0 CG) uu xj=some [(25,25),(50,50),(53,53),(54,54),(55,55),(56,56)]:=ag
def xl:ct:=(bY,[1,1,0,4,1,1],22)
theorem CH:eV cl bt (bD 152 bz [] xl (aN xk xj))=some [(25,25),(I 2,58),(.bool true,57),(50,50),(53,53),(54,54),(55,55),(56,56)]:=ag
def nu:aU:=[(.cz (I 34),I 34),
 (.cz (I 87),I 87),
 (.bh 34 25,0),
 (.dt 0,0),
 (.bQ 80 0 5,36),
 (.bh 45 36,6),
 (.cV 45 6 50,59),
 (.cV 85 59 (I 1),63),
 (.bh 3 63,64),
 (.bin .gtr 3 54 64,.bool false),
 (.eZ #[3,3] 3 54 64,65)]
theorem HE:hc (at' 152 nu [] bY (aN HD bt))=some (3,63,65):=ag
abbrev AU:=at' 152 nu [] bY (aN HD bt)
def yi:List bG:=[⟨.cells [53,54,55,56],85,0⟩]
def zx:ax:=bm [(65,I 1),(8,.bool false),(7,bj 0 0),(6,50),(2,.bool false),(1,25)]
def yj:ax:=match e8 152 zx none (.tuple ⟨[]⟩) with|some s=>s|none=> .nil
theorem agD:bF (b0 AU) zx yi=some [(25,25),(50,50),(53,53),(54,54),(55,55),(56,56)]:=ag
def EA:ct:=(bY,[1,1,0,4,1,1],22)
theorem agE:eV cl bt (bD 152 bz [] EA (aN yj yi))=some [(25,25),(I 2,58),(.bool false,57),(50,50),(53,53),(54,54),(55,55),(56,56)]:=ag
def Qs:ax:=bm [(65,I 2),(8,.bool true),(7,bj 0 0),(6,50),(2,.bool false),(1,25)]
theorem Qt:bF (aN cl bt) Qs bt=some [(25,25),(58,I 2),(57,.bool true),(50,50),(53,53),(54,54),(55,55),(56,56)]:=ag
def s3:aU:=[(.cz (I 34),I 34),
 (.cz (I 87),I 87),
 (.bh 34 25,0),
 (.dt 0,0),
 (.bQ 80 0 5,36),
 (.bh 45 36,6),
 (.cV 45 6 50,59),
 (.cV 85 59 (I 2),66),
 (.bh 3 66,67),
 (.eZ #[3,3] 3 55 67,68)]
theorem HF:hc (at' 152 s3 [] bY (aN Qs bt))=some (3,66,68):=ag
abbrev HG:=at' 152 s3 [] bY (aN Qs bt)
def xm:List bG:=[⟨.cells [53,54,55,56],85,0⟩]
def AV:ax:=bm [(65,I 2),(8,.bool true),(7,bj 0 0),(6,50),(2,.bool false),(1,25)]
def xn:ax:=match e8 152 AV none (.tuple ⟨[]⟩) with|some s=>s|none=> .nil
theorem agF:bF (b0 HG) AV xm=some [(25,25),(50,50),(53,53),(54,54),(55,55),(56,56)]:=ag
def vV:ct:=(bY,[1,1,0,4,1,1],22)
theorem agG:eV cl bt (bD 152 bz [] vV (aN xn xm))=some [(25,25),(I 3,58),(.bool true,57),(50,50),(53,53),(54,54),(55,55),(56,56)]:=ag
def HH:ax:=bm [(65,I 2),(8,.bool false),(7,bj 0 0),(6,50),(2,.bool false),(1,25)]
theorem agH:bF (aN cl bt) HH bt=some [(25,25),(58,I 2),(57,.bool false),(50,50),(53,53),(54,54),(55,55),(56,56)]:=ag
def uW:aU:=[(.cz (I 34),I 34),
 (.cz (I 87),I 87),
 (.bh 34 25,0),
 (.dt 0,0),
 (.bQ 80 0 5,36),
 (.bh 45 36,6),
 (.cV 45 6 50,59),
 (.cV 85 59 (I 2),66),
 (.bh 3 66,67),
 (.bin .gtr 3 55 67,.bool true),
 (.eZ #[3,3] 3 55 67,68)]
theorem HI:hc (at' 152 uW [] bY (aN HH bt))=some (3,66,68):=ag
abbrev HJ:=at' 152 uW [] bY (aN HH bt)
def yk:List bG:=[⟨.cells [53,54,55,56],85,0⟩]
def AW:ax:=bm [(65,I 2),(8,.bool true),(7,bj 0 0),(6,50),(2,.bool false),(1,25)]
def yl:ax:=match e8 152 AW none (.tuple ⟨[]⟩) with|some s=>s|none=> .nil
theorem Qu:bF (b0 HJ) AW yk=some [(25,25),(50,50),(53,53),(54,54),(55,55),(56,56)]:=ag
def vW:ct:=(bY,[1,1,0,4,1,1],22)
theorem Qv:eV cl bt (bD 152 bz [] vW (aN yl yk))=some [(25,25),(I 3,58),(.bool true,57),(50,50),(53,53),(54,54),(55,55),(56,56)]:=ag
def uX:aU:=[(.cz (I 34),I 34),
 (.cz (I 87),I 87),
 (.bh 34 25,0),
 (.dt 0,0),
 (.bQ 80 0 5,36),
 (.bh 45 36,6),
 (.cV 45 6 50,59),
 (.cV 85 59 (I 2),66),
 (.bh 3 66,67),
 (.bin .gtr 3 55 67,.bool false),
 (.eZ #[3,3] 3 55 67,68)]
theorem agI:hc (at' 152 uX [] bY (aN HH bt))=some (3,66,68):=ag
abbrev AX:=at' 152 uX [] bY (aN HH bt)
def zy:List bG:=[⟨.cells [53,54,55,56],85,0⟩]
def zz:ax:=bm [(65,I 2),(8,.bool false),(7,bj 0 0),(6,50),(2,.bool false),(1,25)]
def zA:ax:=match e8 152 zz none (.tuple ⟨[]⟩) with|some s=>s|none=> .nil
theorem Qw:bF (b0 AX) zz zy=some [(25,25),(50,50),(53,53),(54,54),(55,55),(56,56)]:=ag
def HK:ct:=(bY,[1,1,0,4,1,1],22)
theorem agJ:eV cl bt (bD 152 bz [] HK (aN zA zy))=some [(25,25),(I 3,58),(.bool false,57),(50,50),(53,53),(54,54),(55,55),(56,56)]:=ag
def Qx:ax:=bm [(65,I 3),(8,.bool true),(7,bj 0 0),(6,50),(2,.bool false),(1,25)]
theorem Qy:bF (aN cl bt) Qx bt=some [(25,25),(58,I 3),(57,.bool true),(50,50),(53,53),(54,54),(55,55),(56,56)]:=ag
def uY:aU:=[(.cz (I 34),I 34),
 (.cz (I 87),I 87),
 (.bh 34 25,0),
 (.dt 0,0),
 (.bQ 80 0 5,36),
 (.bh 45 36,6),
 (.cV 45 6 50,59),
 (.cV 85 59 (I 3),69),
 (.bh 3 69,70),
 (.eZ #[3,3] 3 56 70,71)]
theorem agK:hc (at' 152 uY [] bY (aN Qx bt))=some (3,69,71):=ag
abbrev Qz:=at' 152 uY [] bY (aN Qx bt)
def EB:List bG:=[⟨.cells [53,54,55,56],85,0⟩]
def HL:ax:=bm [(65,I 3),(8,.bool true),(7,bj 0 0),(6,50),(2,.bool false),(1,25)]
def EC:ax:=match e8 152 HL none (.tuple ⟨[]⟩) with|some s=>s|none=> .nil
theorem QA:bF (b0 Qz) HL EB=some [(25,25),(50,50),(53,53),(54,54),(55,55),(56,56)]:=ag
def ED:ct:=(bY,[1,1,0,4,1,1],22)
theorem agL:eV cl bt (bD 152 bz [] ED (aN EC EB))=some [(25,25),(I 4,58),(.bool true,57),(50,50),(53,53),(54,54),(55,55),(56,56)]:=ag
def HM:ax:=bm [(65,I 3),(8,.bool false),(7,bj 0 0),(6,50),(2,.bool false),(1,25)]
theorem QB:bF (aN cl bt) HM bt=some [(25,25),(58,I 3),(57,.bool false),(50,50),(53,53),(54,54),(55,55),(56,56)]:=ag
def vO:aU:=[(.cz (I 34),I 34),
 (.cz (I 87),I 87),
 (.bh 34 25,0),
 (.dt 0,0),
 (.bQ 80 0 5,36),
 (.bh 45 36,6),
 (.cV 45 6 50,59),
 (.cV 85 59 (I 3),69),
 (.bh 3 69,70),
 (.bin .gtr 3 56 70,.bool true),
 (.eZ #[3,3] 3 56 70,71)]
theorem agM:hc (at' 152 vO [] bY (aN HM bt))=some (3,69,71):=ag
abbrev QC:=at' 152 vO [] bY (aN HM bt)
def EE:List bG:=[⟨.cells [53,54,55,56],85,0⟩]
def HN:ax:=bm [(65,I 3),(8,.bool true),(7,bj 0 0),(6,50),(2,.bool false),(1,25)]
def EF:ax:=match e8 152 HN none (.tuple ⟨[]⟩) with|some s=>s|none=> .nil
theorem QD:bF (b0 QC) HN EE=some [(25,25),(50,50),(53,53),(54,54),(55,55),(56,56)]:=ag
def EG:ct:=(bY,[1,1,0,4,1,1],22)
theorem QE:eV cl bt (bD 152 bz [] EG (aN EF EE))=some [(25,25),(I 4,58),(.bool true,57),(50,50),(53,53),(54,54),(55,55),(56,56)]:=ag
def vP:aU:=[(.cz (I 34),I 34),
 (.cz (I 87),I 87),
 (.bh 34 25,0),
 (.dt 0,0),
 (.bQ 80 0 5,36),
 (.bh 45 36,6),
 (.cV 45 6 50,59),
 (.cV 85 59 (I 3),69),
 (.bh 3 69,70),
 (.bin .gtr 3 56 70,.bool false),
 (.eZ #[3,3] 3 56 70,71)]
theorem HO:hc (at' 152 vP [] bY (aN HM bt))=some (3,69,71):=ag
abbrev QF:=at' 152 vP [] bY (aN HM bt)
def EH:List bG:=[⟨.cells [53,54,55,56],85,0⟩]
def HP:ax:=bm [(65,I 3),(8,.bool false),(7,bj 0 0),(6,50),(2,.bool false),(1,25)]
def EI:ax:=match e8 152 HP none (.tuple ⟨[]⟩) with|some s=>s|none=> .nil
theorem QG:bF (b0 QF) HP EH=some [(25,25),(50,50),(53,53),(54,54),(55,55),(56,56)]:=ag
def EJ:ct:=(bY,[1,1,0,4,1,1],22)
theorem agN:eV cl bt (bD 152 bz [] EJ (aN EI EH))=some [(25,25),(I 4,58),(.bool false,57),(50,50),(53,53),(54,54),(55,55),(56,56)]:=ag
def QH:ax:=bm [(65,I 4),(8,.bool true),(7,bj 0 0),(6,50),(2,.bool false),(1,25)]
theorem agO:bF (aN cl bt) QH bt=some [(25,25),(58,I 4),(57,.bool true),(50,50),(53,53),(54,54),(55,55),(56,56)]:=ag
theorem QI:eW (jf 152 hS [] fJ (at' 152 bz [] bY (aN QH bt)))=some (59,[0,50,.func (.func 66) ⟨[]⟩ ⟨[25]⟩]):=ag
abbrev QJ:=jf 152 hS [] fJ (at' 152 bz [] bY (aN QH bt))
def CI:List bG:=[]
def HQ:ax:=bm [(2,.bool false)]
def CJ:ax:=dS 152 HQ 110 (.tuple ⟨[]⟩)
theorem agP:bF (b0 QJ) HQ CI=some []:=ag
def AY:ct:=(body,[1,0,4,1,3,1,2,1,1,1,1,1,1,2],4)
theorem QK:b9 (bD 152 bz [] AY (aN CJ CI))=some (.bool true):=ag
def XI:ax:=bm [(65,I 4),(8,.bool false),(7,bj 0 0),(6,50),(2,.bool false),(1,25)]
theorem agQ:bF (aN cl bt) XI bt=some [(25,25),(58,I 4),(57,.bool false),(50,50),(53,53),(54,54),(55,55),(56,56)]:=ag
theorem agR:b9 (jf 152 bz [] fJ (at' 152 bz [] bY (aN XI bt)))=some (.bool true):=ag
def vQ:aU:=[(.cz (I 34),I 34),
 (.cz (I 87),I 87),
 (.bh 34 25,0),
 (.dt 0,0),
 (.bQ 80 0 8,26),
 (.dt 26,26),
 (.bQ 76 26 0,26),
 (.bh 74 26,2),
 (.len #[74] 3 2,27),
 (.bin .eql 3 27 (I 0),.bool false)]
theorem QL:eW (bD 152 vQ [] c5 (aN c0 cY))=some (58,[26]):=ag
abbrev QM:=bD 152 vQ [] c5 {sl:=c0,ms:=[],A:=cS cY}
def EK:List bG:=[]
def HR:ax:=bm [(2,.bool false),(1,25)]
def EL:ax:=dS 152 HR 20 (.agg ⟨[74,75,76,77,78]⟩)
theorem agS:bF (hQ Tryd.prog QM) HR EK=some [(25,25)]:=ag
def EM:ct:=(body,[1,0,4,1,2,0],4)
theorem QN:Am (bD 152 bz [] EM (aN EL EK))=some 87:=ag
abbrev EN:=bD 152 bz [] EM {sl:=EL,ms:=[],A:=cS EK}
def CK:List bG:=[]
def EO:ax:=bm [(20,.agg ⟨[74,75,76,77,78]⟩),(2,.bool false),(1,25)]
def CL:ax:=dS 152 EO 3 79
theorem QO:bF (b0 EN) EO CK=some [(25,25),(74,74),(75,75),(76,76),(77,77),(78,78)]:=ag
def QP:ct:=(body,[1,0,4,1,2,0],5)
theorem agT:hc (bD 152 bz [] QP (aN CL CK))=some (87,79,(.agg ⟨[74,75,76,77,78]⟩)):=ag
abbrev QQ:=bD 152 bz [] QP {sl:=CL,ms:=[],A:=cS CK}
def CM:List bG:=[]
def HS:ax:=bm [(3,79),(2,.bool false),(1,25)]
def CN:ax:=match e8 152 HS none (.tuple ⟨[]⟩) with|some s=>s|none=> .nil
theorem agU:bF (b0 QQ) HS CM=some [(25,25),(79,79)]:=ag
def CO:ct:=(body,[1,0,4,1,2,0],6)
def vR:aU:=[(.cz (I 34),I 34),
 (.cz (I 87),I 87),
 (.bh 34 25,0),
 (.bQ 87 79 0,79),
 (.bh 3 79,74)]
theorem agV:eW (bD 152 vR [] CO (aN CN CM))=some (59,[0,74,.func (.func 60) ⟨[]⟩ ⟨[25,79]⟩]):=ag
abbrev QR:=bD 152 vR [] CO {sl:=CN,ms:=[],A:=cS CM}
def EP:List bG:=[]
def HT:ax:=bm [(2,.bool false),(1,25)]
def ER:ax:=dS 152 HT 25 (.tuple ⟨[]⟩)
theorem agW:bF (b0 QR) HT EP=some [(25,25)]:=ag
def CP:ct:=(body,[1,0,4,1,2,1,0],5)
def AS:aU:=[(.cz (I 34),I 34),
 (.cz (I 87),I 87),
 (.bh 34 25,0),
 (.dt 0,0),
 (.bQ 80 0 8,26),
 (.dt 26,26),
 (.bQ 76 26 0,26),
 (.bh 74 26,80),
 (.len #[74] 3 80,82),
 (.bin .eql 3 82 (I 0),.bool true),
 (.bQ 80 0 9,83),
 (.bh 26 83,81),
 (.len #[26] 3 81,84)]
def e7:List bG:=[]
def kj:ax:=bm [(35,85),(34,84),(33,81),(2,.bool false),(1,25)]
abbrev qn:=bD 152 AS [] CP {sl:=ER,ms:=[],A:=cS EP}
theorem agX:mi kj e7 qn=some [(25,25),(I 0,85),(81,81),(84,84)]:=ag
def gD:Code:=nJ body [1,0,4,1,2,1,1,1,2,0,1,4]
def sJ:List hj:=lp body [1,0,4,1,2,1,1,1,2,0,1,4] []
theorem QS:lP qn=gD:=ag
theorem agY:gi qn=sJ:=ag
def zv:aU:=[(.cz (I 34),I 34),
 (.cz (I 87),I 87),
 (.bin .lss 3 85 84,.bool true),
 (.cV 26 81 85,87),
 (.bh 3 87,88),
 (.bh 34 25,0)]
theorem agZ:eW (at' 152 zv [] gD (aN kj e7))=some (35,[0,88]):=ag
abbrev ES:=at' 152 zv [] gD (aN kj e7)
def ET:List bG:=[]
def EU:ax:=bm [(35,85),(34,84),(33,81),(2,.bool false),(1,25)]
def EV:ax:=dS 152 EU 41 (.tuple ⟨[]⟩)
theorem QT:bF (hQ Tryd.prog ES) EU ET=some [(25,25),(85,85),(81,81),(84,84)]:=ag
def XJ:ct:=(gD,[1,1,0,4,1],3)
def HU:aU:=[(.cz (I 34),I 34),
 (.cz (I 87),I 87),
 (.bin .add 3 85 (I 1),90)]
theorem ag0:eV kj e7 (bD 152 HU [] XJ (aN EV ET))=some [(25,25),(90,85),(81,81),(84,84)]:=ag
def zw:aU:=[(.cz (I 34),I 34),
 (.cz (I 87),I 87),
 (.bin .lss 3 85 84,.bool false)]
def yf:aU:=[(.cz (I 34),I 34),
 (.cz (I 87),I 87),
 (.bh 34 25,0),
 (.dt 0,0),
 (.bQ 80 0 9,83)]
theorem ag1:hc (jf 152 yf [] sJ (at' 152 zw [] gD (aN kj e7)))=some (26,83,(.slice none 0 0)):=ag
abbrev QU:=jf 152 yf [] sJ (at' 152 zw [] gD (aN kj e7))
def HV:List bG:=[]
def HW:ax:=bm [(2,.bool false)]
def HX:ax:=match e8 152 HW none (.tuple ⟨[]⟩) with|some s=>s|none=> .nil
theorem ag2:bF (b0 QU) HW HV=some []:=ag
def HY:ct:=(body,[1,0,4,1,2,1,1,1,2,1],4)
theorem ag3:b9 (bD 152 bz [] HY (aN HX HV))=some (.bool true):=ag
def HZ:aU:=[(.cz (I 34),I 34),
 (.cz (I 87),I 87),
 (.bh 34 25,0),
 (.dt 0,0),
 (.bQ 80 0 8,26),
 (.dt 26,26),
 (.bQ 76 26 0,26),
 (.bh 74 26,80),
 (.len #[74] 3 80,82),
 (.bin .eql 3 82 (I 0),.bool false)]
theorem ag4:b9 (bD 152 HZ [] CP (aN ER EP))=some (.bool true):=ag
@[reducible] noncomputable def a6 (bI:List gJ) (c1:bH) (cW:Nat) (aQ:List e2) (cZ:bH) (cT:Nat) (gone:List Nat) (dX:bH) (dY:Nat) (aE:List Nat) (dy:bH) (dv:Nat) (ec:bH) (ef eg:Nat) (au:List cc) (bT:bH) (bU bV:Nat) (lit:List Int) (dn:bH) (dp dq:Nat) (table:List dx) (cq:bH) (du cr:Nat) (aX:List Bool) (cP:bH) (cQ cR aJ:Nat) (xa:Nat->ad) (b:cx) (dA:ad) (hv:ad) (b8:List cc:=[]) (i:Nat:=0) (kJ:Bool:=false) (pj:List Nat:=[]) (j:Nat:=0) (qU:bH:=none) (xo:Nat:=0) (cJ:Nat:=0) (zB:List gJ:=[]) (gA:bH:=none) (gB:Nat:=0) (CQ:List e2:=[]) (jU:bH:=none) (jV:Nat:=0) (CR:List Nat:=[]) (Lk:bH:=none) (Ll:Nat:=0) (km:List Nat:=[]) (H0:List Nat:=[]) (pk:bH:=none) (pn:Nat:=0) (kE:List e2:=[]) (g2:Nat:=0) (tS:List e2:=[]) (mJ:List Nat:=[]) (zC:bH:=none) (zD:Nat:=0) (EW:List Nat:=[]) (r5:bH:=none) (r6:Nat:=0):List ad:=[bj aJ 0,aO c1 bI cW,aO cZ aQ cT,aO dX gone dY,aO dy aE dv,.slice ec ef eg,.slice bT bU bV,.slice dn dp dq,.slice cq du cr,.slice cP cQ cR,xa 0,xa 1,xa 2,xa 3,xa 4,xa 5,xa 6,I b.1,I b.2.1,I b.2.2.1,I b.2.2.2.1,I b.2.2.2.2.1,I b.2.2.2.2.2,dA,hv,bj cJ 0,bj aJ 20,I ((aQ.length:Nat):Int),bj aJ 22,I ((aE.length:Nat):Int),bj aJ 19,I ((bI.length:Nat):Int),aO gA zB gB,I (((bI.getD 0 default).1:Nat):Int),I (bI.getD 0 default).2.1,.bool (bI.getD 0 default).2.2,bj aJ 17,fM (.slice bT bU bV) ((bI.getD 0 default).1*4),I (au.getD ((bI.getD 0 default).1) default).1,I (au.getD ((bI.getD 0 default).1) default).2.1,I (au.getD ((bI.getD 0 default).1) default).2.2.1,I (au.getD ((bI.getD 0 default).1) default).2.2.2,aO jU CQ jV,aO Lk CR Ll,bj aJ 7,bj aJ 13,bj aJ 15,fM (.slice dn dp dq) ((bI.getD 0 default).1*1),fM (.slice cP cQ cR) ((bI.getD 0 default).1*1),aO gA km gB,I (((aE.getD 0 default):Nat):Int),bj aJ 23,fM (.slice ec ef eg) ((aE.getD 0 default)*1),I (jH table lit au aX b ((aE.getD 0 default))).1,I (jH table lit au aX b ((aE.getD 0 default))).2.1,I (jH table lit au aX b ((aE.getD 0 default))).2.2.1,I (jH table lit au aX b ((aE.getD 0 default))).2.2.2,.bool kJ,I ((i:Nat):Int),fM (.slice bT bU bV) ((aE.getD 0 default)*4),fM (.slice bT bU bV) ((aE.getD 0 default)*4+0),I (b8.getD ((aE.getD 0 default)) default).1,I (max (jH table lit au aX b ((aE.getD 0 default))).1 (b8.getD ((aE.getD 0 default)) default).1),fM (.slice bT bU bV) ((aE.getD 0 default)*4+1),I (b8.getD ((aE.getD 0 default)) default).2.1,I (max (jH table lit au aX b ((aE.getD 0 default))).2.1 (b8.getD ((aE.getD 0 default)) default).2.1),fM (.slice bT bU bV) ((aE.getD 0 default)*4+2),I (b8.getD ((aE.getD 0 default)) default).2.2.1,I (max (jH table lit au aX b ((aE.getD 0 default))).2.2.1 (b8.getD ((aE.getD 0 default)) default).2.2.1),fM (.slice bT bU bV) ((aE.getD 0 default)*4+3),I (b8.getD ((aE.getD 0 default)) default).2.2.2,I (max (jH table lit au aX b ((aE.getD 0 default))).2.2.2 (b8.getD ((aE.getD 0 default)) default).2.2.2),aO pk H0 pn,aO gA kE gB,I (((aQ.getD 0 default).1:Nat):Int),I (aQ.getD 0 default).2.1,I (aQ.getD 0 default).2.2.1,I (aQ.getD 0 default).2.2.2.1,I (aQ.getD 0 default).2.2.2.2,bj g2 0,aO pk tS pn,aO zC mJ zD,I ((tS.length:Nat):Int),bj aJ 21,I ((mJ.length:Nat):Int),I ((j:Nat):Int),aO qU pj xo,fM (aO zC mJ zD) (j*1),I (((mJ.getD (j) default):Nat):Int),aO r5 EW r6,I ((j+1:Nat):Int)]
theorem any (W:aG) {bI:List gJ} {c1:bH} {cW:Nat} {aQ:List e2} {cZ:bH} {cT:Nat} {gone:List Nat} {dX:bH} {dY:Nat} {aE:List Nat} {dy:bH} {dv:Nat} {waits:List Bool} {ec:bH} {ef eg:Nat} {au:List cc} {bT:bH} {bU bV:Nat} {lit:List Int} {dn:bH} {dp dq:Nat} {table:List dx} {cq:bH} {du cr:Nat} {aX:List Bool} {cP:bH} {cQ cR aJ:Nat} {xa:Nat->ad} {b:cx} {dA:ad} {hv:ad} (gm:dO (a7 W) [qh c1 bI cW,pL cZ aQ cT,uI dX gone dY,pa dy aE dv,h1 ec ef eg waits,mj bT bU bV au,j4 dn dp dq lit,rq cq du cr table,h1 cP cQ cR aX,cb aJ 80 [xa 0,xa 1,xa 2,xa 3,xa 4,xa 5,xa 6,I b.1,I b.2.1,I b.2.2.1,I b.2.2.2.1,I b.2.2.2.2.1,I b.2.2.2.2.2,.slice dn dp dq,dA,.slice cP cQ cR,.slice cq du cr,.slice bT bU bV,hv,aO c1 bI cW,aO cZ aQ cT,aO dX gone dY,aO dy aE dv,.slice ec ef eg]]) (ai:okB b) (az:aX.length=(gj b).toNat) (py:au.length=aX.length) (El:lit.length=aX.length) (hw:waits.length=aX.length) (ag5:∀x∈aQ,x.1<aX.length/\0<=x.2.1/\x.2.1<=15/\0<=x.2.2.1/\x.2.2.1<=15/\0<=x.2.2.2.1/\x.2.2.2.1<=15/\0<=x.2.2.2.2/\x.2.2.2.2<=15) (ag6:∀k∈aE,k<aX.length) (n5:∀k∈gone,k<aX.length) (ag7:∀x∈bI,x.1<aX.length) (jZ:∀n,n<aX.length->0<=(au.getD n default).1/\(au.getD n default).1<=15/\0<=(au.getD n default).2.1/\(au.getD n default).2.1<=15/\0<=(au.getD n default).2.2.1/\(au.getD n default).2.2.1<=15/\0<=(au.getD n default).2.2.2/\(au.getD n default).2.2.2<=15) (gg:∀n,n<aX.length->1<=(bA table (lit.getD n default)).2.2.2.2.1/\(bA table (lit.getD n default)).2.2.2.2.1<=16) (af:aQ.length<=50000) (ah:gone.length<=50000) (aH:aE.length<=50000):Calls Tryd.prog 36 #[bj aJ 0] W λe w'=>(∃y:fa×fa×fa×fa,e= .returned (.bool (fK table b (⟨au,aQ,gone,aE,waits,bI,lit,aX⟩:gY)).1)/\dw (a7 W) [qh c1 bI cW,pL cZ aQ cT,uI dX gone dY,pa dy aE dv,h1 ec ef eg waits,mj bT bU bV au,j4 dn dp dq lit,rq cq du cr table,h1 cP cQ cR aX,cb aJ 80 [xa 0,xa 1,xa 2,xa 3,xa 4,xa 5,xa 6,I b.1,I b.2.1,I b.2.2.1,I b.2.2.2.1,I b.2.2.2.2.1,I b.2.2.2.2.2,.slice dn dp dq,dA,.slice cP cQ cR,.slice cq du cr,.slice bT bU bV,hv,aO c1 bI cW,aO cZ aQ cT,aO dX gone dY,aO dy aE dv,.slice ec ef eg]] (a7 w') [kd qI 3 oL (.slice y.1.1 (fK table b (⟨au,aQ,gone,aE,waits,bI,lit,aX⟩:gY)).2.reqs.length y.1.2) (fK table b (⟨au,aQ,gone,aE,waits,bI,lit,aX⟩:gY)).2.reqs,kd rl 5 pK (.slice y.2.1.1 (fK table b (⟨au,aQ,gone,aE,waits,bI,lit,aX⟩:gY)).2.aQ.length y.2.1.2) (fK table b (⟨au,aQ,gone,aE,waits,bI,lit,aX⟩:gY)).2.aQ,fY nO 1 mD (.slice y.2.2.1.1 (fK table b (⟨au,aQ,gone,aE,waits,bI,lit,aX⟩:gY)).2.gone.length y.2.2.1.2) (fK table b (⟨au,aQ,gone,aE,waits,bI,lit,aX⟩:gY)).2.gone,kd nO 1 mD (.slice y.2.2.2.1 (fK table b (⟨au,aQ,gone,aE,waits,bI,lit,aX⟩:gY)).2.aE.length y.2.2.2.2) (fK table b (⟨au,aQ,gone,aE,waits,bI,lit,aX⟩:gY)).2.aE,fY mT 1 iw (.slice ec ef eg) (fK table b (⟨au,aQ,gone,aE,waits,bI,lit,aX⟩:gY)).2.waits,fY oK 4 kh (.slice bT bU bV) (fK table b (⟨au,aQ,gone,aE,waits,bI,lit,aX⟩:gY)).2.au,fY lD 1 gq (.slice dn dp dq) (fK table b (⟨au,aQ,gone,aE,waits,bI,lit,aX⟩:gY)).2.lit,rq cq du cr table,fY mT 1 iw (.slice cP cQ cR) (fK table b (⟨au,aQ,gone,aE,waits,bI,lit,aX⟩:gY)).2.aX,cb aJ lF (List.set (List.set (List.set (List.set [xa 0,xa 1,xa 2,xa 3,xa 4,xa 5,xa 6,I b.1,I b.2.1,I b.2.2.1,I b.2.2.2.1,I b.2.2.2.2.1,I b.2.2.2.2.2,.slice dn dp dq,dA,.slice cP cQ cR,.slice cq du cr,.slice bT bU bV,hv,aO c1 bI cW,aO cZ aQ cT,aO dX gone dY,aO dy aE dv,.slice ec ef eg] 19 (.slice y.1.1 (fK table b (⟨au,aQ,gone,aE,waits,bI,lit,aX⟩:gY)).2.reqs.length y.1.2)) 20 (.slice y.2.1.1 (fK table b (⟨au,aQ,gone,aE,waits,bI,lit,aX⟩:gY)).2.aQ.length y.2.1.2)) 21 (.slice y.2.2.1.1 (fK table b (⟨au,aQ,gone,aE,waits,bI,lit,aX⟩:gY)).2.gone.length y.2.2.1.2)) 22 (.slice y.2.2.2.1 (fK table b (⟨au,aQ,gone,aE,waits,bI,lit,aX⟩:gY)).2.aE.length y.2.2.2.2))])/\cO 0 W w':=by
 refine lg (a6 bI c1 cW aQ cZ cT gone dX dY aE dy dv ec ef eg au bT bU bV lit dn dp dq table cq du cr aX cP cQ cR aJ xa b dA hv) body aZ N [al 0] Tryd.func36 λa ae=> ?_
 letI:=bE ae;have a_:=cC.start W _ gm;have aw:=Qh (d:=default) ag5;have aln:=Qh (d:=default) ag6;have alo:=Qh (d:=default) ag7;refine br bz [] (U (cd _) (U (cd _) aB)) aC ?_ ae;refine wT (u:=bj aJ 0) (cs:=[bj aJ 0]) (bC:=λfh=>(a6 bI c1 cW aQ cZ cT gone dX dY aE dy dv ec ef eg au bT bU bV lit dn dp dq table cq du cr aX cP cQ cR aJ xa b dA hv [] 0 false [] 0 none 0 fh)) b4 J J J bs (cF c0 25) rfl (λ_ fh=>yT) (λ_ _=>rfl) ?_;intro fN cJ hh k3 gb ch w ae;have bP:=a_.new (rb k3 hh gb);replace bP:=bP.nq;letI:=bE ae;by_cases lM:((aQ.length:Nat):Int)=0
 ·by_cases jc:((aE.length:Nat):Int)=0
  ·by_cases hY:((bI.length:Nat):Int)=0
   ·refine cm (cn c5) cp [] (U (cd _) (U (cd _) (U (cu 0 10 bP) (U dB (U (b1 76 20 1) (U dB (U (b1 74 0 1) (U (cu 20 9 bP) (U (e4 ((bP.j8 1 rfl).arr rm) uF) (U bf (U (b1 78 22 1) (U dB (U (b1 26 0 1) (U (cu 22 9 bP) (U (e4 ((bP.j8 3 rfl).arr kZ) vF) (U bf (U (b1 73 19 1) (U dB (U (b1 71 0 1) (U (cu 19 9 bP) (U (e4 ((bP.j8 0 rfl).arr rW) wY) (U bf aB)))))))))))))))))))))) aC ?_ ae
    exact b2 gy λw2 bk=>(by (have qb:=Ey (table:=table) (b:=b) (u:=(⟨au,aQ,gone,aE,waits,bI,lit,aX⟩:gY)) (by show ¬0<aQ.length;omega) (by show ¬0<aE.length;omega) (by show ¬0<bI.length;omega);rw[qb];exact⟨((_,_),(_,_),(_,_),(_,_)),rfl,((bP.pick [0,1,2,3,4,5,6,7,8,9] rfl).done bk)⟩))
   ·refine cm (cn c5) dh [] (U (cd _) (U (cd _) (U (cu 0 10 bP) (U dB (U (b1 76 20 1) (U dB (U (b1 74 0 1) (U (cu 20 9 bP) (U (e4 ((bP.j8 1 rfl).arr rm) uF) (U bf (U (b1 78 22 1) (U dB (U (b1 26 0 1) (U (cu 22 9 bP) (U (e4 ((bP.j8 3 rfl).arr kZ) vF) (U bf (U (b1 73 19 1) (U dB (U (b1 71 0 1) (U (cu 19 9 bP) (U (e4 ((bP.j8 0 rfl).arr rW) wY) (U a' aB)))))))))))))))))))))) aC ?_ ae
    obtain⟨zB,XK⟩:=ey (bI.drop 1);refine e5 (Y:=fa) (bC:=λaF=>(a6 bI c1 cW aQ cZ cT gone dX dY aE dy dv ec ef eg au bT bU bV lit dn dp dq table cq du cr aX cP cQ cR aJ xa b dA hv [] 0 false [] 0 none 0 cJ zB aF.1 aF.2)) bP [0,9] (λaF=>[oN _ _ _ aF.1 zB aF.2,cb _ _ [_,_,_,_,_,_,_,_,_,_,_,_,_,_,_,_,_,_,_,aO aF.1 zB aF.2,_,_,_,_]]) (λ_=>[]) iC k2 (cF eO (.agg ⟨[33,34,35]⟩)) (ez:=λw hw cM ay=>by rw[XK];exact XC.any (xa:=h0 [xa 0,xa 1,xa 2,xa 3,xa 4,xa 5,xa 6,I b.1,I b.2.1,I b.2.2.1,I b.2.2.2.1,I b.2.2.2.2.1,I b.2.2.2.2.2,.slice dn dp dq,dA,.slice cP cQ cR,.slice cq du cr,.slice bT bU bV,hv] 0) (av:=h0 [aO cZ aQ cT,aO dX gone dY,aO dy aE dv,.slice ec ef eg] 0) _ ay aj) (rest:= ?_);intro hr ⟨gA,gB⟩ dK ch w ae;replace dK:=dK.nq;letI:=bE ae;refine cm (cn ga) d' [] (U (cd _) (U (cd _) (U (cu 0 10 dK) (U dB (U (b1 45 17 1) (U (cu 17 9 dK) (U (f' ((dK.arr 5 rfl).arr eH) kg kS) (U (aW.p_ ((dK.arr 5 rfl).arr eH) (f_ ((bI.getD 0 default).1)) J J GD kS J J J) aB)))))))) aC ?_ ae;obtain⟨CQ,XL⟩:=ey (aQ++[(((bI.getD 0 default).1),(au.getD ((bI.getD 0 default).1) default))]);obtain⟨CR,XM⟩:=ey (gone++[((bI.getD 0 default).1)]);obtain⟨ag8,XO⟩:=ey (au.set ((bI.getD 0 default).1) (tG (au.getD ((bI.getD 0 default).1) default) (au.getD ((bI.getD 0 default).1) default)));refine e5 (Y:=fa×fa) (bC:=λaF=>(a6 bI c1 cW aQ cZ cT gone dX dY aE dy dv ec ef eg au bT bU bV lit dn dp dq table cq du cr aX cP cQ cR aJ xa b dA hv [] 0 false [] 0 none 0 cJ zB gA gB CQ aF.1.1 aF.1.2 CR aF.2.1 aF.2.2)) dK [1,2,5,9] (λaF=>[oN _ _ _ aF.1.1 CQ aF.1.2,zd _ _ _ aF.2.1 CR aF.2.2,qL _ _ _ bT bU bV ag8,cb _ _ [_,_,_,_,_,_,_,_,_,_,_,_,_,_,_,_,_,_,_,_,aO aF.1.1 CQ aF.1.2,aO aF.2.1 CR aF.2.2,_,_]]) (λ_=>[]) pg lW (cF fS (.tuple ⟨[]⟩)) (ez:=λw hw cM ay=>by rw[XL,XM,XO];exact PH.any (xa:=h0 [xa 0,xa 1,xa 2,xa 3,xa 4,xa 5,xa 6,I b.1,I b.2.1,I b.2.2.1,I b.2.2.2.1,I b.2.2.2.2.1,I b.2.2.2.2.2,.slice dn dp dq,dA,.slice cP cQ cR,.slice cq du cr] 0) (av:=h0 [hv,aO gA zB gB] 0) (xc:=h0 [aO dy aE dv,.slice ec ef eg] 0) _ ay ((bI.getD 0 default).1) (au.getD ((bI.getD 0 default).1) default) aj aj aj) (rest:= ?_);intro fU ⟨⟨jU,jV⟩,⟨Lk,Ll⟩⟩ dE ch w ae;replace dE:=dE.nq;letI:=bE ae;refine cm (cn ht) bz [] (U (cd _) (U (cd _) aB)) aC ?_ ae;refine afl (F:=eS) (T:=[]) mixed (U (cd _) (U (cd _) (U (cu 0 10 dE) (U dB (U (b1 28 7 7) (U (b1 26 6 1) (U (cu 13 9 dE) (U (b1 30 15 1) (U (cu 15 9 dE) (U (f' ((dE.arr 6 rfl).arr j2) iD jO) aB)))))))))) aC sL (afm (k:=1) (u:= .slice dn dp dq) (ld:=I (bI.getD 0 default).2.1) (l:=lit) (i:=(bI.getD 0 default).1) (j:=0) ag j2 aL J J J J (dE.arr 6 rfl) (show (bI.getD 0 default).1<lit.length by omega)) λch w ae=> ?_
    refine DU (F:=bz) (T:=[]) (bN:=1000) (d:=10) mixed (U (cd _) (U (cd _) aB)) aC ?_ ae;obtain⟨ag9,y3⟩:=ey (lit.set (bI.getD 0 default).1 (bI.getD 0 default).2.1);have XP:ag9.length=lit.length:=by rw[y3];exact List.length_set
    refine oO 0 (a6 bI c1 cW aQ cZ cT gone dX dY aE dy dv ec ef eg au bT bU bV lit dn dp dq table cq du cr aX cP cQ cR aJ xa b dA hv [] 0 false [] 0 none 0 cJ zB gA gB CQ jU jV CR Lk Ll) y3 sF j2 ql (cF jt (.tuple ⟨[]⟩)) (dE.arr 6 rfl) (show (bI.getD 0 default).1<lit.length by omega) ?_ (hy:=λz de=>by obtain rfl:=rZ de;rfl);intro vL ag' uR ch w ae;have gV:=dE.gM 6 rfl (nL ag' uR);replace gV:=gV.nq;letI:=bE ae;refine cm (cn k0) fq [] (U (cd _) (U (cd _) (U (f' ((gV.arr 8 rfl).arr h9) kA rk) aB))) aC ?_ ae;obtain⟨ag_,gC⟩:=ey (aX.set (bI.getD 0 default).1 (bI.getD 0 default).2.2);have oQ:ag_.length=aX.length:=by rw[gC];exact List.length_set
    refine oO 0 (a6 bI c1 cW aQ cZ cT gone dX dY aE dy dv ec ef eg au bT bU bV lit dn dp dq table cq du cr aX cP cQ cR aJ xa b dA hv [] 0 false [] 0 none 0 cJ zB gA gB CQ jU jV CR Lk Ll) gC sM h9 ry (cF kf (.tuple ⟨[]⟩)) (gV.arr 8 rfl) (show (bI.getD 0 default).1<aX.length by omega) ?_ (hy:=λz de=>by obtain rfl:=rZ de;rfl);intro jy k1 jh ch w ae;have ek:=gV.gM 8 rfl (nL k1 jh);replace ek:=ek.nq;letI:=bE ae;refine cm (cn nS) bz [] (U (cd _) (U (cd _) aB)) aC ?_ ae;exact b2 xe λw2 bk=>(by (have qb:=agw (table:=table) (b:=b) (waits:=waits) (aE:=aE) aj aj aj XK XL XM XO y3 gC;rw[qb];exact⟨((_,_),(_,_),(_,_),(_,_)),rfl,((ek.pick [0,1,2,3,4,5,6,7,8,9] rfl).done bk)⟩))
  ·refine cm (cn c5) hs [] (U (cd _) (U (cd _) (U (cu 0 10 bP) (U dB (U (b1 76 20 1) (U dB (U (b1 74 0 1) (U (cu 20 9 bP) (U (e4 ((bP.j8 1 rfl).arr rm) uF) (U bf (U (b1 78 22 1) (U dB (U (b1 26 0 1) (U (cu 22 9 bP) (U (e4 ((bP.j8 3 rfl).arr kZ) vF) (U a' aB)))))))))))))))) aC ?_ ae
   obtain⟨km,Lm⟩:=ey (aE.drop 1);refine e5 (Y:=fa) (bC:=λaF=>(a6 bI c1 cW aQ cZ cT gone dX dY aE dy dv ec ef eg au bT bU bV lit dn dp dq table cq du cr aX cP cQ cR aJ xa b dA hv [] 0 false [] 0 none 0 cJ [] aF.1 aF.2 [] none 0 [] none 0 km)) bP [3,9] (λaF=>[oN _ _ _ aF.1 km aF.2,cb _ _ [_,_,_,_,_,_,_,_,_,_,_,_,_,_,_,_,_,_,_,_,_,_,aO aF.1 km aF.2,_]]) (λ_=>[]) Cx PW (cF mY 50) (ez:=λw hw cM ay=>by rw[Lm];exact XB.any (xa:=h0 [xa 0,xa 1,xa 2,xa 3,xa 4,xa 5,xa 6,I b.1,I b.2.1,I b.2.2.1,I b.2.2.2.1,I b.2.2.2.2.1,I b.2.2.2.2.2,.slice dn dp dq,dA,.slice cP cQ cR,.slice cq du cr,.slice bT bU bV,hv,aO c1 bI cW,aO cZ aQ cT,aO dX gone dY] 0) (av:=h0 [.slice ec ef eg] 0) _ ay aj) (rest:= ?_);intro hr ⟨gA,gB⟩ dK ch w ae;replace dK:=dK.nq;letI:=bE ae;refine cm (cn mF) hN [] (U (cd _) (U (cd _) (U (cu 0 10 dK) (U dB (U (b1 30 23 1) (U (cu 23 9 dK) (U (f' ((dK.arr 4 rfl).arr h9) kA rk) aB))))))) aC ?_ ae;obtain⟨AZ,jb⟩:=ey (waits.set (aE.getD 0 default) false);have lk:AZ.length=waits.length:=by rw[jb];exact List.length_set
   refine oO 0 (a6 bI c1 cW aQ cZ cT gone dX dY aE dy dv ec ef eg au bT bU bV lit dn dp dq table cq du cr aX cP cQ cR aJ xa b dA hv [] 0 false [] 0 none 0 cJ [] gA gB [] none 0 [] none 0 km) jb PK h9 G8 (cF nU (.tuple ⟨[]⟩)) (dK.arr 4 rfl) (show (aE.getD 0 default)<waits.length by omega) ?_ (hy:=λz de=>by obtain rfl:=rZ de;rfl);intro fU sx uQ ch w ae;have dE:=dK.gM 4 rfl (nL sx uQ);replace dE:=dE.nq;letI:=bE ae;refine cm (cn nV) hS [] (U (cd _) (U (cd _) (U (cu 0 10 dE) aB))) aC ?_ ae;refine e5 (Y:=Unit) (bC:=λaF=>(a6 bI c1 cW aQ cZ cT gone dX dY aE dy dv ec ef eg au bT bU bV lit dn dp dq table cq du cr aX cP cQ cR aJ xa b dA hv [] 0 false [] 0 none 0 cJ [] gA gB [] none 0 [] none 0 km)) dE [5,6,7,8,9] (λ_=>[_,_,_,_,_]) (λ_=>[]) P2 PL (cF mH (.agg ⟨[53,54,55,56]⟩)) (ez:=λw hw cM ay=>Xv.any (xa:=xa) (av:=h0 [hv,aO c1 bI cW,aO cZ aQ cT,aO dX gone dY,aO gA km gB,.slice ec ef eg] 0) _ ay ((aE.getD 0 default)) ai aj az py El jZ (gg _ aj)) (rest:= ?_);intro vL _ gV ch w ae;replace gV:=gV.nq;letI:=bE ae;refine cm (cn mm) bz [] (U (cd _) (U (cd _) aB)) aC ?_ ae;refine nP (fW:=(λ(⟨M,b8,i,kJ⟩:Mem×List cc×Nat×Bool)=>bc M (a6 bI c1 cW aQ cZ cT gone dX dY aE dy dv ec ef eg au bT bU bV lit dn dp dq table cq du cr aX cP cQ cR aJ xa b dA hv b8 i kJ [] 0 none 0 cJ [] gA gB [] none 0 [] none 0 km))) (λ(⟨M,b8,i,kJ⟩:Mem×List cc×Nat×Bool)=>cC 0 (a7 W) a_.mL M [qh c1 bI cW,pL cZ aQ cT,uI dX gone dY,pa gA km gB,h1 ec ef eg AZ,mj bT bU bV b8,j4 dn dp dq lit,rq cq du cr table,h1 cP cQ cR aX,cb aJ 80 [xa 0,xa 1,xa 2,xa 3,xa 4,xa 5,xa 6,I b.1,I b.2.1,I b.2.2.1,I b.2.2.2.1,I b.2.2.2.2.1,I b.2.2.2.2.2,.slice dn dp dq,dA,.slice cP cQ cR,.slice cq du cr,.slice bT bU bV,hv,aO c1 bI cW,aO cZ aQ cT,aO dX gone dY,aO gA km gB,.slice ec ef eg],cb cJ 34 [bj aJ 0]]/\(i<=4/\b8=au.set (aE.getD 0 default) (oR i (jH table lit au aX b (aE.getD 0 default)) (au.getD (aE.getD 0 default) default))/\b8.length=au.length/\kJ=qO i (jH table lit au aX b (aE.getD 0 default)) (au.getD (aE.getD 0 default) default))) (λ(⟨M,b8,i,kJ⟩:Mem×List cc×Nat×Bool)=>4-i) ⟨vL,au,0,false⟩ Qi b7 (λ_ _ h=>h) (by exact⟨gV,by exact⟨aj,by rw[ago,V_ aj],rfl,rfl⟩⟩) ?_;intro⟨M,b8,i,kJ⟩ aK ch w ae;letI:=bE ae;refine nK Qj zk ?_;have bX:=aK.1;have PN:=aK.2.1;have nY:=aK.2.2.1;have alp:=aK.2.2.2.1;have jm:=(show (aE.getD 0 default)<au.length by omega);rcases(show i=0\/i=1\/i=2\/i=3\/i=4 by omega) with fb|fb|fb|fb|fb
   ·rcases Bool.eq_false_or_eq_true kJ with k6|k6
    ·replace ae:=Here.move (s2:=(bc M (a6 bI c1 cW aQ cZ cT gone dX dY aE dy dv ec ef eg au bT bU bV lit dn dp dq table cq du cr aX cP cQ cR aJ xa b dA hv b8 i kJ [] 0 none 0 cJ [] gA gB [] none 0 [] none 0 km))) zl (lo (w3 J J J J) (lo (wV rfl fb) (lo (x6 rfl k6) b7))) (λ_ _ h=>h) (by exact Nat.zero_le _) (by exact jF rfl) ae
     refine br jT [] (U (cd _) (U (cd _) (U (cu 0 10 bX) (U dB (U (b1 45 17 1) (U (cu 17 9 bX) (U (f' ((bX.arr 5 rfl).arr eH) kg kS) (U (aW.nI (j:=0) (n:=4) (e:=3) J J J ag jO (nm ((bX.arr 5 rfl).arr eH) (show (aE.getD 0 default)<b8.length by omega)) aL J J J J) (U (im 0 ((bX.arr 5 rfl).arr eH) (f_ (aE.getD 0 default)) kz) (U (aW.jL J J J J J J) aB)))))))))) aC ?_ ae;obtain⟨iH,gC⟩:=ey (b8.set (aE.getD 0 default) ((max (jH table lit au aX b ((aE.getD 0 default))).1 (b8.getD ((aE.getD 0 default)) default).1),(b8.getD (aE.getD 0 default) default).2.1,(b8.getD (aE.getD 0 default) default).2.2.1,(b8.getD (aE.getD 0 default) default).2.2.2));have oQ:iH.length=b8.length:=by rw[gC];exact List.length_set
     refine oO 0 (a6 bI c1 cW aQ cZ cT gone dX dY aE dy dv ec ef eg au bT bU bV lit dn dp dq table cq du cr aX cP cQ cR aJ xa b dA hv b8 i kJ [] 0 none 0 cJ [] gA gB [] none 0 [] none 0 km) gC zm eH zn (cF sT (.tuple ⟨[]⟩)) (bX.arr 5 rfl) (show (aE.getD 0 default)<b8.length by omega) ?_ (hy:=λz de=>by obtain rfl:=rZ de;rfl);intro jy k1 jh ch w ae;have ek:=bX.gM 5 rfl (nL k1 jh);replace ek:=ek.nq;letI:=bE ae;refine cm (cn sU) bz [] (U (cd _) (U (cd _) aB)) aC ?_ ae;exact e3 ⟨jy,iH,1,true⟩ agx b7 (by exact⟨ek,by subst fb;subst k6;exact⟨aj,by rw[gC];exact P_ jm nY,aj,by exact Lg (Qd jm nY) aK.2.2.2.2⟩⟩)
    ·replace ae:=Here.move (s2:=(bc M (a6 bI c1 cW aQ cZ cT gone dX dY aE dy dv ec ef eg au bT bU bV lit dn dp dq table cq du cr aX cP cQ cR aJ xa b dA hv b8 i kJ [] 0 none 0 cJ [] gA gB [] none 0 [] none 0 km))) agy (lo (w3 J J J J) (lo (wV rfl fb) (lo (x6 rfl k6) b7))) (λ_ _ h=>h) (by exact Nat.zero_le _) (by exact jF rfl) ae
     by_cases v0:(b8.getD ((aE.getD 0 default)) default).1<(jH table lit au aX b ((aE.getD 0 default))).1
     ·refine br jx [] (U (cd _) (U (cd _) (U (cu 0 10 bX) (U dB (U (b1 45 17 1) (U (cu 17 9 bX) (U (f' ((bX.arr 5 rfl).arr eH) kg kS) (U (aW.nI (j:=0) (n:=4) (e:=3) J J J ag jO (nm ((bX.arr 5 rfl).arr eH) (show (aE.getD 0 default)<b8.length by omega)) aL J J J J) (U (im 0 ((bX.arr 5 rfl).arr eH) (f_ (aE.getD 0 default)) kz) (U bf (U (aW.jL J J J J J J) aB))))))))))) aC ?_ ae
      obtain⟨iH,gC⟩:=ey (b8.set (aE.getD 0 default) ((max (jH table lit au aX b ((aE.getD 0 default))).1 (b8.getD ((aE.getD 0 default)) default).1),(b8.getD (aE.getD 0 default) default).2.1,(b8.getD (aE.getD 0 default) default).2.2.1,(b8.getD (aE.getD 0 default) default).2.2.2));have oQ:iH.length=b8.length:=by rw[gC];exact List.length_set
      refine oO 0 (a6 bI c1 cW aQ cZ cT gone dX dY aE dy dv ec ef eg au bT bU bV lit dn dp dq table cq du cr aX cP cQ cR aJ xa b dA hv b8 i kJ [] 0 none 0 cJ [] gA gB [] none 0 [] none 0 km) gC Ql eH Hk (cF r1 (.tuple ⟨[]⟩)) (bX.arr 5 rfl) (show (aE.getD 0 default)<b8.length by omega) ?_ (hy:=λz de=>by obtain rfl:=rZ de;rfl);intro jy k1 jh ch w ae;have ek:=bX.gM 5 rfl (nL k1 jh);replace ek:=ek.nq;letI:=bE ae;refine cm (cn sW) bz [] (U (cd _) (U (cd _) aB)) aC ?_ ae;exact e3 ⟨jy,iH,1,true⟩ Qm b7 (by exact⟨ek,by subst fb;subst k6;exact⟨aj,by rw[gC];exact P_ jm nY,aj,by exact Lh (Qd jm nY) aY⟩⟩)
     ·refine br kD [] (U (cd _) (U (cd _) (U (cu 0 10 bX) (U dB (U (b1 45 17 1) (U (cu 17 9 bX) (U (f' ((bX.arr 5 rfl).arr eH) kg kS) (U (aW.nI (j:=0) (n:=4) (e:=3) J J J ag jO (nm ((bX.arr 5 rfl).arr eH) (show (aE.getD 0 default)<b8.length by omega)) aL J J J J) (U (im 0 ((bX.arr 5 rfl).arr eH) (f_ (aE.getD 0 default)) kz) (U a' (U (aW.jL J J J J J J) aB))))))))))) aC ?_ ae
      obtain⟨iH,gC⟩:=ey (b8.set (aE.getD 0 default) ((max (jH table lit au aX b ((aE.getD 0 default))).1 (b8.getD ((aE.getD 0 default)) default).1),(b8.getD (aE.getD 0 default) default).2.1,(b8.getD (aE.getD 0 default) default).2.2.1,(b8.getD (aE.getD 0 default) default).2.2.2));have oQ:iH.length=b8.length:=by rw[gC];exact List.length_set
      refine oO 0 (a6 bI c1 cW aQ cZ cT gone dX dY aE dy dv ec ef eg au bT bU bV lit dn dp dq table cq du cr aX cP cQ cR aJ xa b dA hv b8 i kJ [] 0 none 0 cJ [] gA gB [] none 0 [] none 0 km) gC agz eH Hn (cF pU (.tuple ⟨[]⟩)) (bX.arr 5 rfl) (show (aE.getD 0 default)<b8.length by omega) ?_ (hy:=λz de=>by obtain rfl:=rZ de;rfl);intro jy k1 jh ch w ae;have ek:=bX.gM 5 rfl (nL k1 jh);replace ek:=ek.nq;letI:=bE ae;refine cm (cn rz) bz [] (U (cd _) (U (cd _) aB)) aC ?_ ae;exact e3 ⟨jy,iH,1,false⟩ agA b7 (by exact⟨ek,by subst fb;subst k6;exact⟨aj,by rw[gC];exact P_ jm nY,aj,by exact Li (Qd jm nY) aK.2.2.2.2 aY⟩⟩)
   ·rcases Bool.eq_false_or_eq_true kJ with k6|k6
    ·replace ae:=Here.move (s2:=(bc M (a6 bI c1 cW aQ cZ cT gone dX dY aE dy dv ec ef eg au bT bU bV lit dn dp dq table cq du cr aX cP cQ cR aJ xa b dA hv b8 i kJ [] 0 none 0 cJ [] gA gB [] none 0 [] none 0 km))) HC (lo (w3 J J J J) (lo (wV rfl fb) (lo (x6 rfl k6) b7))) (λ_ _ h=>h) (by exact Nat.zero_le _) (by exact jF rfl) ae
     refine br mI [] (U (cd _) (U (cd _) (U (cu 0 10 bX) (U dB (U (b1 45 17 1) (U (cu 17 9 bX) (U (f' ((bX.arr 5 rfl).arr eH) kg kS) (U (aW.nI (j:=1) (n:=4) (e:=3) J J J ag jO (nm ((bX.arr 5 rfl).arr eH) (show (aE.getD 0 default)<b8.length by omega)) aL J J J J) (U (im 1 ((bX.arr 5 rfl).arr eH) (f_ (aE.getD 0 default)) kz) (U (aW.jL J J J J J J) aB)))))))))) aC ?_ ae;obtain⟨iH,gC⟩:=ey (b8.set (aE.getD 0 default) ((b8.getD (aE.getD 0 default) default).1,(max (jH table lit au aX b ((aE.getD 0 default))).2.1 (b8.getD ((aE.getD 0 default)) default).2.1),(b8.getD (aE.getD 0 default) default).2.2.1,(b8.getD (aE.getD 0 default) default).2.2.2));have oQ:iH.length=b8.length:=by rw[gC];exact List.length_set
     refine oO 1 (a6 bI c1 cW aQ cZ cT gone dX dY aE dy dv ec ef eg au bT bU bV lit dn dp dq table cq du cr aX cP cQ cR aJ xa b dA hv b8 i kJ [] 0 none 0 cJ [] gA gB [] none 0 [] none 0 km) gC agB eH agC (cF sZ (.tuple ⟨[]⟩)) (bX.arr 5 rfl) (show (aE.getD 0 default)<b8.length by omega) ?_ (hy:=λz de=>by obtain rfl:=rZ de;rfl);intro jy k1 jh ch w ae;have ek:=bX.gM 5 rfl (nL k1 jh);replace ek:=ek.nq;letI:=bE ae;refine cm (cn s0) bz [] (U (cd _) (U (cd _) aB)) aC ?_ ae;exact e3 ⟨jy,iH,2,true⟩ Qo b7 (by exact⟨ek,by subst fb;subst k6;exact⟨aj,by rw[gC];exact Qa jm nY,aj,by exact Lg (Qe jm nY) aK.2.2.2.2⟩⟩)
    ·replace ae:=Here.move (s2:=(bc M (a6 bI c1 cW aQ cZ cT gone dX dY aE dy dv ec ef eg au bT bU bV lit dn dp dq table cq du cr aX cP cQ cR aJ xa b dA hv b8 i kJ [] 0 none 0 cJ [] gA gB [] none 0 [] none 0 km))) Qp (lo (w3 J J J J) (lo (wV rfl fb) (lo (x6 rfl k6) b7))) (λ_ _ h=>h) (by exact Nat.zero_le _) (by exact jF rfl) ae
     by_cases v0:(b8.getD ((aE.getD 0 default)) default).2.1<(jH table lit au aX b ((aE.getD 0 default))).2.1
     ·refine br lX [] (U (cd _) (U (cd _) (U (cu 0 10 bX) (U dB (U (b1 45 17 1) (U (cu 17 9 bX) (U (f' ((bX.arr 5 rfl).arr eH) kg kS) (U (aW.nI (j:=1) (n:=4) (e:=3) J J J ag jO (nm ((bX.arr 5 rfl).arr eH) (show (aE.getD 0 default)<b8.length by omega)) aL J J J J) (U (im 1 ((bX.arr 5 rfl).arr eH) (f_ (aE.getD 0 default)) kz) (U bf (U (aW.jL J J J J J J) aB))))))))))) aC ?_ ae
      obtain⟨iH,gC⟩:=ey (b8.set (aE.getD 0 default) ((b8.getD (aE.getD 0 default) default).1,(max (jH table lit au aX b ((aE.getD 0 default))).2.1 (b8.getD ((aE.getD 0 default)) default).2.1),(b8.getD (aE.getD 0 default) default).2.2.1,(b8.getD (aE.getD 0 default) default).2.2.2));have oQ:iH.length=b8.length:=by rw[gC];exact List.length_set
      refine oO 1 (a6 bI c1 cW aQ cZ cT gone dX dY aE dy dv ec ef eg au bT bU bV lit dn dp dq table cq du cr aX cP cQ cR aJ xa b dA hv b8 i kJ [] 0 none 0 cJ [] gA gB [] none 0 [] none 0 km) gC Qq eH Qr (cF xk (.tuple ⟨[]⟩)) (bX.arr 5 rfl) (show (aE.getD 0 default)<b8.length by omega) ?_ (hy:=λz de=>by obtain rfl:=rZ de;rfl);intro jy k1 jh ch w ae;have ek:=bX.gM 5 rfl (nL k1 jh);replace ek:=ek.nq;letI:=bE ae;refine cm (cn xl) bz [] (U (cd _) (U (cd _) aB)) aC ?_ ae;exact e3 ⟨jy,iH,2,true⟩ CH b7 (by exact⟨ek,by subst fb;subst k6;exact⟨aj,by rw[gC];exact Qa jm nY,aj,by exact Lh (Qe jm nY) aY⟩⟩)
     ·refine br nu [] (U (cd _) (U (cd _) (U (cu 0 10 bX) (U dB (U (b1 45 17 1) (U (cu 17 9 bX) (U (f' ((bX.arr 5 rfl).arr eH) kg kS) (U (aW.nI (j:=1) (n:=4) (e:=3) J J J ag jO (nm ((bX.arr 5 rfl).arr eH) (show (aE.getD 0 default)<b8.length by omega)) aL J J J J) (U (im 1 ((bX.arr 5 rfl).arr eH) (f_ (aE.getD 0 default)) kz) (U a' (U (aW.jL J J J J J J) aB))))))))))) aC ?_ ae
      obtain⟨iH,gC⟩:=ey (b8.set (aE.getD 0 default) ((b8.getD (aE.getD 0 default) default).1,(max (jH table lit au aX b ((aE.getD 0 default))).2.1 (b8.getD ((aE.getD 0 default)) default).2.1),(b8.getD (aE.getD 0 default) default).2.2.1,(b8.getD (aE.getD 0 default) default).2.2.2));have oQ:iH.length=b8.length:=by rw[gC];exact List.length_set
      refine oO 1 (a6 bI c1 cW aQ cZ cT gone dX dY aE dy dv ec ef eg au bT bU bV lit dn dp dq table cq du cr aX cP cQ cR aJ xa b dA hv b8 i kJ [] 0 none 0 cJ [] gA gB [] none 0 [] none 0 km) gC HE eH agD (cF yj (.tuple ⟨[]⟩)) (bX.arr 5 rfl) (show (aE.getD 0 default)<b8.length by omega) ?_ (hy:=λz de=>by obtain rfl:=rZ de;rfl);intro jy k1 jh ch w ae;have ek:=bX.gM 5 rfl (nL k1 jh);replace ek:=ek.nq;letI:=bE ae;refine cm (cn EA) bz [] (U (cd _) (U (cd _) aB)) aC ?_ ae;exact e3 ⟨jy,iH,2,false⟩ agE b7 (by exact⟨ek,by subst fb;subst k6;exact⟨aj,by rw[gC];exact Qa jm nY,aj,by exact Li (Qe jm nY) aK.2.2.2.2 aY⟩⟩)
   ·rcases Bool.eq_false_or_eq_true kJ with k6|k6
    ·replace ae:=Here.move (s2:=(bc M (a6 bI c1 cW aQ cZ cT gone dX dY aE dy dv ec ef eg au bT bU bV lit dn dp dq table cq du cr aX cP cQ cR aJ xa b dA hv b8 i kJ [] 0 none 0 cJ [] gA gB [] none 0 [] none 0 km))) Qt (lo (w3 J J J J) (lo (wV rfl fb) (lo (x6 rfl k6) b7))) (λ_ _ h=>h) (by exact Nat.zero_le _) (by exact jF rfl) ae
     refine br s3 [] (U (cd _) (U (cd _) (U (cu 0 10 bX) (U dB (U (b1 45 17 1) (U (cu 17 9 bX) (U (f' ((bX.arr 5 rfl).arr eH) kg kS) (U (aW.nI (j:=2) (n:=4) (e:=3) J J J ag jO (nm ((bX.arr 5 rfl).arr eH) (show (aE.getD 0 default)<b8.length by omega)) aL J J J J) (U (im 2 ((bX.arr 5 rfl).arr eH) (f_ (aE.getD 0 default)) kz) (U (aW.jL J J J J J J) aB)))))))))) aC ?_ ae;obtain⟨iH,gC⟩:=ey (b8.set (aE.getD 0 default) ((b8.getD (aE.getD 0 default) default).1,(b8.getD (aE.getD 0 default) default).2.1,(max (jH table lit au aX b ((aE.getD 0 default))).2.2.1 (b8.getD ((aE.getD 0 default)) default).2.2.1),(b8.getD (aE.getD 0 default) default).2.2.2));have oQ:iH.length=b8.length:=by rw[gC];exact List.length_set
     refine oO 2 (a6 bI c1 cW aQ cZ cT gone dX dY aE dy dv ec ef eg au bT bU bV lit dn dp dq table cq du cr aX cP cQ cR aJ xa b dA hv b8 i kJ [] 0 none 0 cJ [] gA gB [] none 0 [] none 0 km) gC HF eH agF (cF xn (.tuple ⟨[]⟩)) (bX.arr 5 rfl) (show (aE.getD 0 default)<b8.length by omega) ?_ (hy:=λz de=>by obtain rfl:=rZ de;rfl);intro jy k1 jh ch w ae;have ek:=bX.gM 5 rfl (nL k1 jh);replace ek:=ek.nq;letI:=bE ae;refine cm (cn vV) bz [] (U (cd _) (U (cd _) aB)) aC ?_ ae;exact e3 ⟨jy,iH,3,true⟩ agG b7 (by exact⟨ek,by subst fb;subst k6;exact⟨aj,by rw[gC];exact Qb jm nY,aj,by exact Lg (Qf jm nY) aK.2.2.2.2⟩⟩)
    ·replace ae:=Here.move (s2:=(bc M (a6 bI c1 cW aQ cZ cT gone dX dY aE dy dv ec ef eg au bT bU bV lit dn dp dq table cq du cr aX cP cQ cR aJ xa b dA hv b8 i kJ [] 0 none 0 cJ [] gA gB [] none 0 [] none 0 km))) agH (lo (w3 J J J J) (lo (wV rfl fb) (lo (x6 rfl k6) b7))) (λ_ _ h=>h) (by exact Nat.zero_le _) (by exact jF rfl) ae
     by_cases v0:(b8.getD ((aE.getD 0 default)) default).2.2.1<(jH table lit au aX b ((aE.getD 0 default))).2.2.1
     ·refine br uW [] (U (cd _) (U (cd _) (U (cu 0 10 bX) (U dB (U (b1 45 17 1) (U (cu 17 9 bX) (U (f' ((bX.arr 5 rfl).arr eH) kg kS) (U (aW.nI (j:=2) (n:=4) (e:=3) J J J ag jO (nm ((bX.arr 5 rfl).arr eH) (show (aE.getD 0 default)<b8.length by omega)) aL J J J J) (U (im 2 ((bX.arr 5 rfl).arr eH) (f_ (aE.getD 0 default)) kz) (U bf (U (aW.jL J J J J J J) aB))))))))))) aC ?_ ae
      obtain⟨iH,gC⟩:=ey (b8.set (aE.getD 0 default) ((b8.getD (aE.getD 0 default) default).1,(b8.getD (aE.getD 0 default) default).2.1,(max (jH table lit au aX b ((aE.getD 0 default))).2.2.1 (b8.getD ((aE.getD 0 default)) default).2.2.1),(b8.getD (aE.getD 0 default) default).2.2.2));have oQ:iH.length=b8.length:=by rw[gC];exact List.length_set
      refine oO 2 (a6 bI c1 cW aQ cZ cT gone dX dY aE dy dv ec ef eg au bT bU bV lit dn dp dq table cq du cr aX cP cQ cR aJ xa b dA hv b8 i kJ [] 0 none 0 cJ [] gA gB [] none 0 [] none 0 km) gC HI eH Qu (cF yl (.tuple ⟨[]⟩)) (bX.arr 5 rfl) (show (aE.getD 0 default)<b8.length by omega) ?_ (hy:=λz de=>by obtain rfl:=rZ de;rfl);intro jy k1 jh ch w ae;have ek:=bX.gM 5 rfl (nL k1 jh);replace ek:=ek.nq;letI:=bE ae;refine cm (cn vW) bz [] (U (cd _) (U (cd _) aB)) aC ?_ ae;exact e3 ⟨jy,iH,3,true⟩ Qv b7 (by exact⟨ek,by subst fb;subst k6;exact⟨aj,by rw[gC];exact Qb jm nY,aj,by exact Lh (Qf jm nY) aY⟩⟩)
     ·refine br uX [] (U (cd _) (U (cd _) (U (cu 0 10 bX) (U dB (U (b1 45 17 1) (U (cu 17 9 bX) (U (f' ((bX.arr 5 rfl).arr eH) kg kS) (U (aW.nI (j:=2) (n:=4) (e:=3) J J J ag jO (nm ((bX.arr 5 rfl).arr eH) (show (aE.getD 0 default)<b8.length by omega)) aL J J J J) (U (im 2 ((bX.arr 5 rfl).arr eH) (f_ (aE.getD 0 default)) kz) (U a' (U (aW.jL J J J J J J) aB))))))))))) aC ?_ ae
      obtain⟨iH,gC⟩:=ey (b8.set (aE.getD 0 default) ((b8.getD (aE.getD 0 default) default).1,(b8.getD (aE.getD 0 default) default).2.1,(max (jH table lit au aX b ((aE.getD 0 default))).2.2.1 (b8.getD ((aE.getD 0 default)) default).2.2.1),(b8.getD (aE.getD 0 default) default).2.2.2));have oQ:iH.length=b8.length:=by rw[gC];exact List.length_set
      refine oO 2 (a6 bI c1 cW aQ cZ cT gone dX dY aE dy dv ec ef eg au bT bU bV lit dn dp dq table cq du cr aX cP cQ cR aJ xa b dA hv b8 i kJ [] 0 none 0 cJ [] gA gB [] none 0 [] none 0 km) gC agI eH Qw (cF zA (.tuple ⟨[]⟩)) (bX.arr 5 rfl) (show (aE.getD 0 default)<b8.length by omega) ?_ (hy:=λz de=>by obtain rfl:=rZ de;rfl);intro jy k1 jh ch w ae;have ek:=bX.gM 5 rfl (nL k1 jh);replace ek:=ek.nq;letI:=bE ae;refine cm (cn HK) bz [] (U (cd _) (U (cd _) aB)) aC ?_ ae;exact e3 ⟨jy,iH,3,false⟩ agJ b7 (by exact⟨ek,by subst fb;subst k6;exact⟨aj,by rw[gC];exact Qb jm nY,aj,by exact Li (Qf jm nY) aK.2.2.2.2 aY⟩⟩)
   ·rcases Bool.eq_false_or_eq_true kJ with k6|k6
    ·replace ae:=Here.move (s2:=(bc M (a6 bI c1 cW aQ cZ cT gone dX dY aE dy dv ec ef eg au bT bU bV lit dn dp dq table cq du cr aX cP cQ cR aJ xa b dA hv b8 i kJ [] 0 none 0 cJ [] gA gB [] none 0 [] none 0 km))) Qy (lo (w3 J J J J) (lo (wV rfl fb) (lo (x6 rfl k6) b7))) (λ_ _ h=>h) (by exact Nat.zero_le _) (by exact jF rfl) ae
     refine br uY [] (U (cd _) (U (cd _) (U (cu 0 10 bX) (U dB (U (b1 45 17 1) (U (cu 17 9 bX) (U (f' ((bX.arr 5 rfl).arr eH) kg kS) (U (aW.nI (j:=3) (n:=4) (e:=3) J J J ag jO (nm ((bX.arr 5 rfl).arr eH) (show (aE.getD 0 default)<b8.length by omega)) aL J J J J) (U (im 3 ((bX.arr 5 rfl).arr eH) (f_ (aE.getD 0 default)) kz) (U (aW.jL J J J J J J) aB)))))))))) aC ?_ ae;obtain⟨iH,gC⟩:=ey (b8.set (aE.getD 0 default) ((b8.getD (aE.getD 0 default) default).1,(b8.getD (aE.getD 0 default) default).2.1,(b8.getD (aE.getD 0 default) default).2.2.1,(max (jH table lit au aX b ((aE.getD 0 default))).2.2.2 (b8.getD ((aE.getD 0 default)) default).2.2.2)));have oQ:iH.length=b8.length:=by rw[gC];exact List.length_set
     refine oO 3 (a6 bI c1 cW aQ cZ cT gone dX dY aE dy dv ec ef eg au bT bU bV lit dn dp dq table cq du cr aX cP cQ cR aJ xa b dA hv b8 i kJ [] 0 none 0 cJ [] gA gB [] none 0 [] none 0 km) gC agK eH QA (cF EC (.tuple ⟨[]⟩)) (bX.arr 5 rfl) (show (aE.getD 0 default)<b8.length by omega) ?_ (hy:=λz de=>by obtain rfl:=rZ de;rfl);intro jy k1 jh ch w ae;have ek:=bX.gM 5 rfl (nL k1 jh);replace ek:=ek.nq;letI:=bE ae;refine cm (cn ED) bz [] (U (cd _) (U (cd _) aB)) aC ?_ ae;exact e3 ⟨jy,iH,4,true⟩ agL b7 (by exact⟨ek,by subst fb;subst k6;exact⟨aj,by rw[gC];exact Qc jm nY,aj,by exact Lg (Qg jm nY) aK.2.2.2.2⟩⟩)
    ·replace ae:=Here.move (s2:=(bc M (a6 bI c1 cW aQ cZ cT gone dX dY aE dy dv ec ef eg au bT bU bV lit dn dp dq table cq du cr aX cP cQ cR aJ xa b dA hv b8 i kJ [] 0 none 0 cJ [] gA gB [] none 0 [] none 0 km))) QB (lo (w3 J J J J) (lo (wV rfl fb) (lo (x6 rfl k6) b7))) (λ_ _ h=>h) (by exact Nat.zero_le _) (by exact jF rfl) ae
     by_cases v0:(b8.getD ((aE.getD 0 default)) default).2.2.2<(jH table lit au aX b ((aE.getD 0 default))).2.2.2
     ·refine br vO [] (U (cd _) (U (cd _) (U (cu 0 10 bX) (U dB (U (b1 45 17 1) (U (cu 17 9 bX) (U (f' ((bX.arr 5 rfl).arr eH) kg kS) (U (aW.nI (j:=3) (n:=4) (e:=3) J J J ag jO (nm ((bX.arr 5 rfl).arr eH) (show (aE.getD 0 default)<b8.length by omega)) aL J J J J) (U (im 3 ((bX.arr 5 rfl).arr eH) (f_ (aE.getD 0 default)) kz) (U bf (U (aW.jL J J J J J J) aB))))))))))) aC ?_ ae
      obtain⟨iH,gC⟩:=ey (b8.set (aE.getD 0 default) ((b8.getD (aE.getD 0 default) default).1,(b8.getD (aE.getD 0 default) default).2.1,(b8.getD (aE.getD 0 default) default).2.2.1,(max (jH table lit au aX b ((aE.getD 0 default))).2.2.2 (b8.getD ((aE.getD 0 default)) default).2.2.2)));have oQ:iH.length=b8.length:=by rw[gC];exact List.length_set
      refine oO 3 (a6 bI c1 cW aQ cZ cT gone dX dY aE dy dv ec ef eg au bT bU bV lit dn dp dq table cq du cr aX cP cQ cR aJ xa b dA hv b8 i kJ [] 0 none 0 cJ [] gA gB [] none 0 [] none 0 km) gC agM eH QD (cF EF (.tuple ⟨[]⟩)) (bX.arr 5 rfl) (show (aE.getD 0 default)<b8.length by omega) ?_ (hy:=λz de=>by obtain rfl:=rZ de;rfl);intro jy k1 jh ch w ae;have ek:=bX.gM 5 rfl (nL k1 jh);replace ek:=ek.nq;letI:=bE ae;refine cm (cn EG) bz [] (U (cd _) (U (cd _) aB)) aC ?_ ae;exact e3 ⟨jy,iH,4,true⟩ QE b7 (by exact⟨ek,by subst fb;subst k6;exact⟨aj,by rw[gC];exact Qc jm nY,aj,by exact Lh (Qg jm nY) aY⟩⟩)
     ·refine br vP [] (U (cd _) (U (cd _) (U (cu 0 10 bX) (U dB (U (b1 45 17 1) (U (cu 17 9 bX) (U (f' ((bX.arr 5 rfl).arr eH) kg kS) (U (aW.nI (j:=3) (n:=4) (e:=3) J J J ag jO (nm ((bX.arr 5 rfl).arr eH) (show (aE.getD 0 default)<b8.length by omega)) aL J J J J) (U (im 3 ((bX.arr 5 rfl).arr eH) (f_ (aE.getD 0 default)) kz) (U a' (U (aW.jL J J J J J J) aB))))))))))) aC ?_ ae
      obtain⟨iH,gC⟩:=ey (b8.set (aE.getD 0 default) ((b8.getD (aE.getD 0 default) default).1,(b8.getD (aE.getD 0 default) default).2.1,(b8.getD (aE.getD 0 default) default).2.2.1,(max (jH table lit au aX b ((aE.getD 0 default))).2.2.2 (b8.getD ((aE.getD 0 default)) default).2.2.2)));have oQ:iH.length=b8.length:=by rw[gC];exact List.length_set
      refine oO 3 (a6 bI c1 cW aQ cZ cT gone dX dY aE dy dv ec ef eg au bT bU bV lit dn dp dq table cq du cr aX cP cQ cR aJ xa b dA hv b8 i kJ [] 0 none 0 cJ [] gA gB [] none 0 [] none 0 km) gC HO eH QG (cF EI (.tuple ⟨[]⟩)) (bX.arr 5 rfl) (show (aE.getD 0 default)<b8.length by omega) ?_ (hy:=λz de=>by obtain rfl:=rZ de;rfl);intro jy k1 jh ch w ae;have ek:=bX.gM 5 rfl (nL k1 jh);replace ek:=ek.nq;letI:=bE ae;refine cm (cn EJ) bz [] (U (cd _) (U (cd _) aB)) aC ?_ ae;exact e3 ⟨jy,iH,4,false⟩ agN b7 (by exact⟨ek,by subst fb;subst k6;exact⟨aj,by rw[gC];exact Qc jm nY,aj,by exact Li (Qg jm nY) aK.2.2.2.2 aY⟩⟩)
   ·rcases Bool.eq_false_or_eq_true kJ with k6|k6
    ·replace ae:=Here.move (s2:=(bc M (a6 bI c1 cW aQ cZ cT gone dX dY aE dy dv ec ef eg au bT bU bV lit dn dp dq table cq du cr aX cP cQ cR aJ xa b dA hv b8 i kJ [] 0 none 0 cJ [] gA gB [] none 0 [] none 0 km))) agO (lo (w3 J J J J) (lo (wV rfl fb) (lo (x6 rfl k6) b7))) (λ_ _ h=>h) (by exact Nat.zero_le _) (by exact jF rfl) ae
     refine br bz [] (U (cd _) (U (cd _) aB)) aC ?_ ae;refine j3 hS [] (U (cd _) (U (cd _) (U (cu 0 10 bX) aB))) aC ?_;obtain⟨H0,XQ⟩:=ey ((tN (eE b aX (aE.getD 0 default) 6) (km,AZ)).1);obtain⟨aha,XR⟩:=ey ((tN (eE b aX (aE.getD 0 default) 6) (km,AZ)).2);refine e5 (Y:=fa) (bC:=λaF=>(a6 bI c1 cW aQ cZ cT gone dX dY aE dy dv ec ef eg au bT bU bV lit dn dp dq table cq du cr aX cP cQ cR aJ xa b dA hv b8 i kJ [] 0 none 0 cJ [] gA gB [] none 0 [] none 0 km H0 aF.1 aF.2)) bX [3,4,8,9,10] (λaF=>[oN _ _ _ aF.1 H0 aF.2,qL _ _ _ ec ef eg aha,_,cb _ _ [_,_,_,_,_,_,_,_,_,_,_,_,_,_,_,_,_,_,_,_,_,_,aO aF.1 H0 aF.2,_],_]) (λ_=>[]) QI agP (cF CJ (.tuple ⟨[]⟩)) (ez:=λw hw cM ay=>by rw[XQ,XR];exact XA.any (xa:=xa) (av:=h0 [.slice cq du cr,.slice bT bU bV,hv,aO c1 bI cW,aO cZ aQ cT,aO dX gone dY] 0) _ ay (aE.getD 0 default) ai aj az aj (by rw[Lm,List.length_drop];omega)) (rest:= ?_);intro jy ⟨pk,pn⟩ ek ch w ae;replace ek:=ek.nq;letI:=bE ae;refine cm (cn AY) bz [] (U (cd _) (U (cd _) aB)) aC ?_ ae;exact b2 QK λw2 bk=>(by (subst fb;subst k6;have qb:=agv (table:=table) (b:=b) (aQ:=aQ) (gone:=gone) (reqs:=bI) aj aj Lm jb aK.2.2.1 aK.2.2.2.2 XQ XR;rw[qb];exact⟨((_,_),(_,_),(_,_),(_,_)),rfl,((ek.pick [0,1,2,3,4,5,6,7,8,9] rfl).done bk)⟩))
    ·replace ae:=Here.move (s2:=(bc M (a6 bI c1 cW aQ cZ cT gone dX dY aE dy dv ec ef eg au bT bU bV lit dn dp dq table cq du cr aX cP cQ cR aJ xa b dA hv b8 i kJ [] 0 none 0 cJ [] gA gB [] none 0 [] none 0 km))) agQ (lo (w3 J J J J) (lo (wV rfl fb) (lo (x6 rfl k6) b7))) (λ_ _ h=>h) (by exact Nat.zero_le _) (by exact jF rfl) ae
     refine br bz [] (U (cd _) (U (cd _) aB)) aC ?_ ae;refine j3 bz [] (U (cd _) (U (cd _) aB)) aC ?_;exact b2 agR λw2 bk=>(by (subst fb;subst k6;have qb:=agu (table:=table) (b:=b) (aQ:=aQ) (gone:=gone) (reqs:=bI) aj aj Lm jb aK.2.2.1 aK.2.2.2.2;rw[qb];exact⟨((_,_),(_,_),(_,_),(_,_)),rfl,((bX.pick [0,1,2,3,4,5,6,7,8,9] rfl).done bk)⟩))
 ·refine cm (cn c5) vQ [] (U (cd _) (U (cd _) (U (cu 0 10 bP) (U dB (U (b1 76 20 1) (U dB (U (b1 74 0 1) (U (cu 20 9 bP) (U (e4 ((bP.j8 1 rfl).arr rm) uF) (U a' aB)))))))))) aC ?_ ae
  obtain⟨kE,Eu⟩:=ey (aQ.drop 1);refine e5 (Y:=fa) (bC:=λaF=>(a6 bI c1 cW aQ cZ cT gone dX dY aE dy dv ec ef eg au bT bU bV lit dn dp dq table cq du cr aX cP cQ cR aJ xa b dA hv [] 0 false [] 0 none 0 cJ [] aF.1 aF.2 [] none 0 [] none 0 [] [] none 0 kE)) bP [1,9] (λaF=>[oN _ _ _ aF.1 kE aF.2,cb _ _ [_,_,_,_,_,_,_,_,_,_,_,_,_,_,_,_,_,_,_,_,aO aF.1 kE aF.2,_,_,_]]) (λ_=>[]) QL agS (cF EL (.agg ⟨[74,75,76,77,78]⟩)) (ez:=λw hw cM ay=>by rw[Eu];exact XD.any (xa:=h0 [xa 0,xa 1,xa 2,xa 3,xa 4,xa 5,xa 6,I b.1,I b.2.1,I b.2.2.1,I b.2.2.2.1,I b.2.2.2.2.1,I b.2.2.2.2.2,.slice dn dp dq,dA,.slice cP cQ cR,.slice cq du cr,.slice bT bU bV,hv,aO c1 bI cW] 0) (av:=h0 [aO dX gone dY,aO dy aE dv,.slice ec ef eg] 0) _ ay aj) (rest:= ?_);intro hr ⟨gA,gB⟩ dK ch w ae;replace dK:=dK.nq;letI:=bE ae;refine cm (cn EM) bz [] (U (cd _) (U (cd _) aB)) aC ?_ ae;refine D4 (z:= .agg ⟨[I 0,I 0,I 0,I 0,I 0]⟩) (bC:=λfh=>(a6 bI c1 cW aQ cZ cT gone dX dY aE dy dv ec ef eg au bT bU bV lit dn dp dq table cq du cr aX cP cQ cR aJ xa b dA hv [] 0 false [] 0 none 0 cJ [] gA gB [] none 0 [] none 0 [] [] none 0 kE fh)) QN ag QO (cF CL 79) rfl (λ_ fh=>b7) (λ_ _=>rfl) ?_;intro fU g2 sj lk CC uQ ch w ae;have dE:=dK.new (rb (ty:=87) (cs:=[I 0,I 0,I 0,I 0,I 0]) (je.mk' sj CC) lk uQ);replace dE:=dE.vK;letI:=bE ae;refine cm (cn QP) bz [] (U (cd _) (U (cd _) aB)) aC ?_ ae;refine D6 (g:=g2) (j:=0) (n:=5) (us:=[I (((aQ.getD 0 default).1:Nat):Int),I (aQ.getD 0 default).2.1,I (aQ.getD 0 default).2.2.1,I (aQ.getD 0 default).2.2.2.1,I (aQ.getD 0 default).2.2.2.2]) (cs:=[I 0,I 0,I 0,I 0,I 0]) (cs':=[I (((aQ.getD 0 default).1:Nat):Int),I (aQ.getD 0 default).2.1,I (aQ.getD 0 default).2.2.1,I (aQ.getD 0 default).2.2.2.1,I (aQ.getD 0 default).2.2.2.2]) (bC:=(a6 bI c1 cW aQ cZ cT gone dX dY aE dy dv ec ef eg au bT bU bV lit dn dp dq table cq du cr aX cP cQ cR aJ xa b dA hv [] 0 false [] 0 none 0 cJ [] gA gB [] none 0 [] none 0 [] [] none 0 kE g2)) rfl agT ag agU (cF CN (.tuple ⟨[]⟩)) J J J J J (kR rfl (kR rfl (kR rfl (kR rfl (kR rfl Cj))))) (dE.box 11 rfl) (h3 rfl) (λ_=>b7) ?_;intro vL zo uR ch w ae;have gV:=dE.gM 11 rfl (lR zo uR);replace gV:=gV.vK;letI:=bE ae;refine cm (cn CO) vR [] (U (cd _) (U (cd _) (U (cu 0 10 gV) (U (b1 3 0 1) (U (cu 0 11 gV) aB))))) aC ?_ ae;obtain⟨tS,QV⟩:=ey ((kF table lit (aQ.getD 0 default).2 (eE b aX (aQ.getD 0 default).1 6) (kE,gone,au)).1);obtain⟨mJ,H2⟩:=ey ((kF table lit (aQ.getD 0 default).2 (eE b aX (aQ.getD 0 default).1 6) (kE,gone,au)).2.1);obtain⟨XS,QW⟩:=ey ((kF table lit (aQ.getD 0 default).2 (eE b aX (aQ.getD 0 default).1 6) (kE,gone,au)).2.2);refine e5 (Y:=fa×fa) (bC:=λaF=>(a6 bI c1 cW aQ cZ cT gone dX dY aE dy dv ec ef eg au bT bU bV lit dn dp dq table cq du cr aX cP cQ cR aJ xa b dA hv [] 0 false [] 0 none 0 cJ [] gA gB [] none 0 [] none 0 [] [] aF.1.1 aF.1.2 kE g2 tS mJ aF.2.1 aF.2.2)) gV [1,2,5,6,7,8,9,10,11] (λaF=>[oN _ _ _ aF.1.1 tS aF.1.2,zd _ _ _ aF.2.1 mJ aF.2.2,qL _ _ _ bT bU bV XS,_,_,_,cb _ _ [_,_,_,_,_,_,_,_,_,_,_,_,_,_,_,_,_,_,_,_,aO aF.1.1 tS aF.1.2,aO aF.2.1 mJ aF.2.2,_,_],_,_]) (λ_=>[]) agV agW (cF ER (.tuple ⟨[]⟩)) (ez:=λw hw cM ay=>by rw[QV,H2,QW];exact Xy.any (xa:=xa) (av:=h0 [hv,aO c1 bI cW] 0) (xc:=h0 [aO dy aE dv,.slice ec ef eg] 0) (x:=(aQ.getD 0 default)) _ ay (aQ.getD 0 default).1 ai aj az py El (by rw[Eu,List.length_drop];omega) aj (aw.resolve_left aj).2 gg) (rest:= ?_);intro jy ⟨⟨pk,pn⟩,⟨zC,zD⟩⟩ ek ch w ae;replace ek:=ek.vK;letI:=bE ae;by_cases v0:((tS.length:Nat):Int)=0
  ·refine cm (cn CP) AS [] (U (cd _) (U (cd _) (U (cu 0 10 ek) (U dB (U (b1 76 20 1) (U dB (U (b1 74 0 1) (U (cu 20 9 ek) (U (e4 ((ek.j8 1 rfl).arr rm) uF) (U bf (U (b1 26 21 1) (U (cu 21 9 ek) (U (e4 ((ek.arr 2 rfl).arr kZ) vF) aB))))))))))))) aC ?_ ae
   refine nP (fW:=(λ(⟨M,pj,r4,j,qU,xo⟩:Mem×List Nat×List Bool×Nat×Option Addr×Nat)=>bc M (a6 bI c1 cW aQ cZ cT gone dX dY aE dy dv ec ef eg au bT bU bV lit dn dp dq table cq du cr aX cP cQ cR aJ xa b dA hv [] 0 false pj j qU xo cJ [] gA gB [] none 0 [] none 0 [] [] pk pn kE g2 tS mJ zC zD))) (λ(⟨M,pj,r4,j,qU,xo⟩:Mem×List Nat×List Bool×Nat×Option Addr×Nat)=>cC 0 (a7 W) a_.mL M [qh c1 bI cW,pL pk tS pn,uI zC mJ zD,pa qU pj xo,h1 ec ef eg r4,mj bT bU bV XS,j4 dn dp dq lit,rq cq du cr table,h1 cP cQ cR aX,cb aJ 80 [xa 0,xa 1,xa 2,xa 3,xa 4,xa 5,xa 6,I b.1,I b.2.1,I b.2.2.1,I b.2.2.2.1,I b.2.2.2.2.1,I b.2.2.2.2.2,.slice dn dp dq,dA,.slice cP cQ cR,.slice cq du cr,.slice bT bU bV,hv,aO c1 bI cW,aO pk tS pn,aO zC mJ zD,aO qU pj xo,.slice ec ef eg],cb cJ 34 [bj aJ 0],cb g2 87 [I (((aQ.getD 0 default).1:Nat):Int),I (aQ.getD 0 default).2.1,I (aQ.getD 0 default).2.2.1,I (aQ.getD 0 default).2.2.2.1,I (aQ.getD 0 default).2.2.2.2]]/\(j<=mJ.length/\pj=(s6 (mJ.take j) (aE,waits)).1/\r4=(s6 (mJ.take j) (aE,waits)).2/\r4.length=waits.length/\pj.length<=aE.length+j)) (λ(⟨M,pj,r4,j,qU,xo⟩:Mem×List Nat×List Bool×Nat×Option Addr×Nat)=>mJ.length-j) ⟨jy,aE,waits,0,dy,dv⟩ agX b7 (λ_ _ h=>h) (by exact⟨ek,by exact⟨Nat.zero_le _,rfl,rfl,rfl,c4 _⟩⟩) ?_;intro⟨M,pj,r4,j,qU,xo⟩ aK ch w ae;letI:=bE ae;refine nK QS agY ?_;have gN:=aK.1;have alq:=aK.2.1;have y6:=aK.2.2.2.2.1;have xS:=aK.2.2.2.2.2;have alr:=(show j<mJ.length->mJ.getD j default<aX.length from λh=>by rw[H2] at h ⊢;exact(XG n5).1 j h);have FY:=(show mJ.length<=gone.length+6 from by rw[H2];exact(XG n5).2);by_cases z0:((j:Nat):Int)<((mJ.length:Nat):Int)
   ·refine br zv [] (U (cd _) (U (cd _) (U bf (U (f' ((gN.arr 2 rfl).arr kZ) vF O6) (U (im 0 ((gN.arr 2 rfl).arr kZ) (f_ j) kz) (U (cu 0 10 gN) aB)))))) aC ?_ ae
    obtain⟨EW,QX⟩:=ey (mE pj r4 ((mJ.getD (j) default)));obtain⟨XT,QY⟩:=ey (og r4 ((mJ.getD (j) default)));refine e5 (Y:=fa) (bC:=λaF=>(a6 bI c1 cW aQ cZ cT gone dX dY aE dy dv ec ef eg au bT bU bV lit dn dp dq table cq du cr aX cP cQ cR aJ xa b dA hv [] 0 false pj j qU xo cJ [] gA gB [] none 0 [] none 0 [] [] pk pn kE g2 tS mJ zC zD EW aF.1 aF.2)) gN [3,4,9] (λaF=>[oN _ _ _ aF.1 EW aF.2,qL _ _ _ ec ef eg XT,cb _ _ [_,_,_,_,_,_,_,_,_,_,_,_,_,_,_,_,_,_,_,_,_,_,aO aF.1 EW aF.2,_]]) (λ_=>[]) agZ QT (cF EV (.tuple ⟨[]⟩)) (ez:=λw hw cM ay=>by rw[QX,QY];exact Ha.any (xa:=h0 [xa 0,xa 1,xa 2,xa 3,xa 4,xa 5,xa 6,I b.1,I b.2.1,I b.2.2.1,I b.2.2.2.1,I b.2.2.2.2.1,I b.2.2.2.2.2,.slice dn dp dq,dA,.slice cP cQ cR,.slice cq du cr,.slice bT bU bV,hv,aO c1 bI cW,aO pk tS pn,aO zC mJ zD] 0) _ ay ((mJ.getD (j) default)) aj aj) (rest:= ?_);intro CD ⟨r5,r6⟩ k5 ch w ae;replace k5:=k5.vK;letI:=bE ae;refine cm (cn XJ) HU [] (U (cd _) (U (cd _) (U gU aB))) aC ?_ ae;exact e3 ⟨CD,EW,XT,j+1,r5,r6⟩ ag0 b7 (by exact⟨k5,by exact⟨aj,by rw[QX];exact(XE aK.2.2.1 aK.2.2.2.1 aj).1,by rw[QY];exact(XE aK.2.2.1 aK.2.2.2.1 aj).2,by rw[QY,Kx];exact y6,by have jm:=V' pj r4 (mJ.getD j default);rw[QX];omega⟩⟩)
   ·refine br zw [] (U (cd _) (U (cd _) (U a' aB))) aC ?_ ae
    refine j3 yf [] (U (cd _) (U (cd _) (U (cu 0 10 gN) (U dB (U (b1 26 21 1) aB))))) aC ?_;refine oP 21 [xa 0,xa 1,xa 2,xa 3,xa 4,xa 5,xa 6,I b.1,I b.2.1,I b.2.2.1,I b.2.2.2.1,I b.2.2.2.2.1,I b.2.2.2.2.2,.slice dn dp dq,dA,.slice cP cQ cR,.slice cq du cr,.slice bT bU bV,hv,aO c1 bI cW,aO pk tS pn,.slice none 0 0,aO qU pj xo,.slice ec ef eg] (a6 bI c1 cW aQ cZ cT gone dX dY aE dy dv ec ef eg au bT bU bV lit dn dp dq table cq du cr aX cP cQ cR aJ xa b dA hv [] 0 false pj j qU xo cJ [] gA gB [] none 0 [] none 0 [] [] pk pn kE g2 tS mJ zC zD) ag1 ag2 (cF HX (.tuple ⟨[]⟩)) (gN.box 9 rfl) ?_;intro CD Hp Hq ch w ae;have k5:=gN.gM 9 rfl (lR Hp Hq);replace k5:=k5.vK;letI:=bE ae;refine cm (cn HY) bz [] (U (cd _) (U (cd _) aB)) aC ?_ ae;exact b2 ag3 λw2 bk=>(by (have qb:=ags (table:=table) (b:=b) (reqs:=bI) aj Eu QV H2 QW aj (show j=mJ.length by omega) aK.2.2.1 aK.2.2.2.1;have ahb:=k5.gM 2 rfl (OC (v':= .slice none 0 0) (l':=([]:List Nat)) (eI.nil 0 _ _ _ _ _) (λ_ _ h _=>h) (λ_ h=>by cases h));rw[qb];exact⟨((_,_),(_,_),(none,0),(_,_)),rfl,((ahb.pick [0,1,2,3,4,5,6,7,8,9] rfl).done bk)⟩))
  ·refine cm (cn CP) HZ [] (U (cd _) (U (cd _) (U (cu 0 10 ek) (U dB (U (b1 76 20 1) (U dB (U (b1 74 0 1) (U (cu 20 9 ek) (U (e4 ((ek.j8 1 rfl).arr rm) uF) (U a' aB)))))))))) aC ?_ ae
   exact b2 ag4 λw2 bk=>(by (have qb:=agt (table:=table) (b:=b) (aE:=aE) (waits:=waits) (reqs:=bI) aj Eu QV H2 QW aj;rw[qb];exact⟨((_,_),(_,_),(_,_),(_,_)),rfl,((ek.pick [0,1,2,3,4,5,6,7,8,9] rfl).done bk)⟩))
end XH
end a1
end Go.Proofs.YtepcfjbfkedlpaaDoor
