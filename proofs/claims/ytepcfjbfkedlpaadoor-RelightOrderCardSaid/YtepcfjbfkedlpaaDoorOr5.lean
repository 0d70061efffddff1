/- Parts of the proof. -/
import Derived.Test.YtepcfjbfkedlpaaDoorOr4
import Derived.ProofKit
import Derived.Shelf.Bits.Mul64
import Derived.Ground.Names2Prog
import Derived.Shelf.GgClosure.StringsIndexFuncTop
import Derived.Ground.GgwProg
set_option maxRecDepth 100000
set_option maxHeartbeats 4000000
noncomputable section
namespace Go.Proofs.YtepcfjbfkedlpaaDoor
open Go Go.Proofs Go.RowKit
namespace AE
namespace Z8
noncomputable def body:Code:=(Tryd.f40.body).getD .skip
def N:Nat:=8
def a8:b6:={sl:=cc [(0,0)],ms:=[],A:=start}
def cj:bs:=[(.bin .eql 45 0 (.slice none 0 0),.bool true)]
theorem e0:gk Tryd.prog Tryd.f40 (at' 8 cj [] body a8)=some (.slice none 0 0):=au
def cx:bs:=[(.bin .eql 45 0 (.slice none 0 0),.bool false)]
theorem e1:qy 45 (at' 8 cx [] body a8)=some (.slice (some ⟨0,0,none⟩) 0 0,0):=au
abbrev hO:=at' 8 cx [] body a8
def eM:List bw:=[]
def eB:aG:=cc [(2,.slice none 0 0)]
def eS:aG:=fk 8 eB 7 1
theorem e2:cq (b4 hO) eB eM=some []:=au
def e3:eh:=(body,[1,1,0],3)
theorem lh:gk Tryd.prog Tryd.f40 (c1 8 [] [] e3 (b7 eS eM))=some 1:=au
@[reducible] noncomputable def bJ (l:List bM) (dI:c6) (dO:Nat) (cB:List bM:=[]) (a0:c6:=none) (dw:Nat:=0):List J:=[bA dI l dO,bA a0 cB dw]
theorem any (W:ax) {hX:J} {l:List bM} (hl:cu (aF W) 4 dM hX l) (av:l.length<=100000):Calls Tryd.prog 40 #[hX] W λe w'=>(∃a c,e= .returned (bA a l c)/\dm W.heap.size (aF w') p2 4 dM (bA a l c) l)/\cb W.heap.size W w':=by
 obtain⟨dI,dO,rfl⟩:=hl.slice;refine jO (bJ l dI dO) body a8 N [al 0] Tryd.func40 λa ah=> ?_
 letI:=cg ah;by_cases aM:dI=none
 ·refine bK cj [] (ai (aT.JL rfl nQ rfl aM) aX) aY ?_ ah
  exact bP e0 λw2 br=>(by (subst aM;exact JK hl.isNil))
 ·refine bK cx [] (ai (aT.JM rfl nQ rfl aM) aX) aY ?_ ah
  obtain⟨cB,e7⟩:=iT ([]++l);have fq:cB.length=0+l.length:=by rw[e7];simp
  refine Bv (l:=[]) (lx:=l) (l':=cB) (bh:=λqd qe=>(bJ l dI dO cB qd qe)) (T:=none) e7 e1 nQ Xy Xz XA XB ahK cz yG ahL e2 (eP eS 1) rfl (JJ au) (Bw U U λw hw=>hl.reads yG hw) (zO (show 0+l.length<=1000000 by omega)) (show (0+l.length)*Ky<=140737488355328 by unfold Ky;omega) (λ_ _ _=>zM) (λ_ _ _=>rfl) ?_;intro j9 a0 dw nW lo rz dN w ah;have uR:=lo.up rz (b2 _) (λ_ _ h=>h);letI:=cg ah;refine ep (er e3) [] [] aX aY ?_ ah;exact bP lh λw2 br=>(by (exact By nW (by rw[e7];rfl) br))
end Z8
namespace HH
noncomputable def body:Code:=(Tryd.f33.body).getD .skip
def N:Nat:=8
def a8:b6:={sl:=cc [(0,0)],ms:=[],A:=start}
def cj:bs:=[(.bin .eql 30 0 (.slice none 0 0),.bool true)]
theorem e0:gk Tryd.prog Tryd.f33 (at' 8 cj [] body a8)=some (.slice none 0 0):=au
def cx:bs:=[(.bin .eql 30 0 (.slice none 0 0),.bool false)]
theorem e1:qy 30 (at' 8 cx [] body a8)=some (.slice (some ⟨0,0,none⟩) 0 0,0):=au
abbrev hO:=at' 8 cx [] body a8
def eM:List bw:=[]
def eB:aG:=cc [(2,.slice none 0 0)]
def eS:aG:=fk 8 eB 7 1
theorem e2:cq (b4 hO) eB eM=some []:=au
def e3:eh:=(body,[1,1,0],3)
theorem lh:gk Tryd.prog Tryd.f33 (c1 8 [] [] e3 (b7 eS eM))=some 1:=au
@[reducible] noncomputable def bJ (l:List Bool) (dI:c6) (dO:Nat) (cB:List Bool:=[]) (a0:c6:=none) (dw:Nat:=0):List J:=[bA dI l dO,bA a0 cB dw]
theorem any (W:ax) {hX:J} {l:List Bool} (hl:cu (aF W) 1 iQ hX l) (av:l.length<=100000):Calls Tryd.prog 33 #[hX] W λe w'=>(∃a c,e= .returned (bA a l c)/\dm W.heap.size (aF w') mv 1 iQ (bA a l c) l)/\cb W.heap.size W w':=by
 obtain⟨dI,dO,rfl⟩:=hl.slice;refine jO (bJ l dI dO) body a8 N [al 0] Tryd.func33 λa ah=> ?_
 letI:=cg ah;by_cases aM:dI=none
 ·refine bK cj [] (ai (aT.JL rfl nv rfl aM) aX) aY ?_ ah
  exact bP e0 λw2 br=>(by (subst aM;exact JK hl.isNil))
 ·refine bK cx [] (ai (aT.JM rfl nv rfl aM) aX) aY ?_ ah
  obtain⟨cB,e7⟩:=iT ([]++l);have fq:cB.length=0+l.length:=by rw[e7];simp
  refine Bv (l:=[]) (lx:=l) (l':=cB) (bh:=λqd qe=>(bJ l dI dO cB qd qe)) (T:=none) e7 e1 nv Pk Pl Pm Pn ahD cz l4 Po e2 (eP eS 1) rfl (JJ au) (Bw U U λw hw=>hl.reads l4 hw) (zO (show 0+l.length<=1000000 by omega)) (show (0+l.length)*GK<=140737488355328 by unfold GK;omega) (λ_ _ _=>zM) (λ_ _ _=>rfl) ?_;intro j9 a0 dw nW lo rz dN w ah;have uR:=lo.up rz (b2 _) (λ_ _ h=>h);letI:=cg ah;refine ep (er e3) [] [] aX aY ?_ ah;exact bP lh λw2 br=>(by (exact By nW (by rw[e7];rfl) br))
end HH
namespace Rq
noncomputable def body:Code:=(Tryd.f77.body).getD .skip
def N:Nat:=8
def a8:b6:={sl:=cc [(0,0)],ms:=[],A:=start}
def cj:bs:=[(.bin .eql 26 0 (.slice none 0 0),.bool true)]
theorem e0:gk Tryd.prog Tryd.f77 (at' 8 cj [] body a8)=some (.slice none 0 0):=au
def cx:bs:=[(.bin .eql 26 0 (.slice none 0 0),.bool false)]
theorem e1:qy 26 (at' 8 cx [] body a8)=some (.slice (some ⟨0,0,none⟩) 0 0,0):=au
abbrev hO:=at' 8 cx [] body a8
def eM:List bw:=[]
def eB:aG:=cc [(2,.slice none 0 0)]
def eS:aG:=fk 8 eB 7 1
theorem e2:cq (b4 hO) eB eM=some []:=au
def e3:eh:=(body,[1,1,0],3)
theorem lh:gk Tryd.prog Tryd.f77 (c1 8 [] [] e3 (b7 eS eM))=some 1:=au
@[reducible] noncomputable def bJ (l:List Int) (dI:c6) (dO:Nat) (cB:List Int:=[]) (a0:c6:=none) (dw:Nat:=0):List J:=[bA dI l dO,bA a0 cB dw]
theorem any (W:ax) {hX:J} {l:List Int} (hl:cu (aF W) 1 ga hX l) (av:l.length<=100000):Calls Tryd.prog 77 #[hX] W λe w'=>(∃a c,e= .returned (bA a l c)/\dm W.heap.size (aF w') lE 1 ga (bA a l c) l)/\cb W.heap.size W w':=by
 obtain⟨dI,dO,rfl⟩:=hl.slice;refine jO (bJ l dI dO) body a8 N [al 0] Tryd.func77 λa ah=> ?_
 letI:=cg ah;by_cases aM:dI=none
 ·refine bK cj [] (ai (aT.JL rfl iK rfl aM) aX) aY ?_ ah
  exact bP e0 λw2 br=>(by (subst aM;exact JK hl.isNil))
 ·refine bK cx [] (ai (aT.JM rfl iK rfl aM) aX) aY ?_ ah
  obtain⟨cB,e7⟩:=iT ([]++l);have fq:cB.length=0+l.length:=by rw[e7];simp
  refine Bv (l:=[]) (lx:=l) (l':=cB) (bh:=λqd qe=>(bJ l dI dO cB qd qe)) (T:=none) e7 e1 iK JR JS JT JU JV cz l0 JW e2 (eP eS 1) rfl (JJ au) (Bw U U λw hw=>hl.reads l0 hw) (zO (show 0+l.length<=1000000 by omega)) (show (0+l.length)*yv<=140737488355328 by unfold yv;omega) (λ_ _ _=>zM) (λ_ _ _=>rfl) ?_;intro j9 a0 dw nW lo rz dN w ah;have uR:=lo.up rz (b2 _) (λ_ _ h=>h);letI:=cg ah;refine ep (er e3) [] [] aX aY ?_ ah;exact bP lh λw2 br=>(by (exact By nW (by rw[e7];rfl) br))
end Rq
namespace Z9
noncomputable def body:Code:=(Tryd.f32.body).getD .skip
def N:Nat:=8
def a8:b6:={sl:=cc [(0,0)],ms:=[],A:=start}
def cj:bs:=[(.bin .eql 29 0 (.slice none 0 0),.bool true)]
theorem e0:gk Tryd.prog Tryd.f32 (at' 8 cj [] body a8)=some (.slice none 0 0):=au
def cx:bs:=[(.bin .eql 29 0 (.slice none 0 0),.bool false)]
theorem e1:qy 29 (at' 8 cx [] body a8)=some (.slice (some ⟨0,0,none⟩) 0 0,0):=au
abbrev hO:=at' 8 cx [] body a8
def eM:List bw:=[]
def eB:aG:=cc [(2,.slice none 0 0)]
def eS:aG:=fk 8 eB 7 1
theorem e2:cq (b4 hO) eB eM=some []:=au
def e3:eh:=(body,[1,1,0],3)
theorem lh:gk Tryd.prog Tryd.f32 (c1 8 [] [] e3 (b7 eS eM))=some 1:=au
@[reducible] noncomputable def bJ (l:List cX) (dI:c6) (dO:Nat) (cB:List cX:=[]) (a0:c6:=none) (dw:Nat:=0):List J:=[bA dI l dO,bA a0 cB dw]
theorem any (W:ax) {hX:J} {l:List cX} (hl:cu (aF W) 8 jf hX l) (av:l.length<=100000):Calls Tryd.prog 32 #[hX] W λe w'=>(∃a c,e= .returned (bA a l c)/\dm W.heap.size (aF w') oe 8 jf (bA a l c) l)/\cb W.heap.size W w':=by
 obtain⟨dI,dO,rfl⟩:=hl.slice;refine jO (bJ l dI dO) body a8 N [al 0] Tryd.func32 λa ah=> ?_
 letI:=cg ah;by_cases aM:dI=none
 ·refine bK cj [] (ai (aT.JL rfl lF rfl aM) aX) aY ?_ ah
  exact bP e0 λw2 br=>(by (subst aM;exact JK hl.isNil))
 ·refine bK cx [] (ai (aT.JM rfl lF rfl aM) aX) aY ?_ ah
  obtain⟨cB,e7⟩:=iT ([]++l);have fq:cB.length=0+l.length:=by rw[e7];simp
  refine Bv (l:=[]) (lx:=l) (l':=cB) (bh:=λqd qe=>(bJ l dI dO cB qd qe)) (T:=none) e7 e1 lF af8 af9 af' af_ aga cz JY agb e2 (eP eS 1) rfl (JJ au) (Bw U U λw hw=>hl.reads JY hw) (zO (show 0+l.length<=1000000 by omega)) (show (0+l.length)*Ot<=140737488355328 by unfold Ot;omega) (λ_ _ _=>zM) (λ_ _ _=>rfl) ?_;intro j9 a0 dw nW lo rz dN w ah;have uR:=lo.up rz (b2 _) (λ_ _ h=>h);letI:=cg ah;refine ep (er e3) [] [] aX aY ?_ ah;exact bP lh λw2 br=>(by (exact By nW (by rw[e7];rfl) br))
end Z9
end AE
namespace AE
namespace Z'
noncomputable def body:Code:=(Tryd.f51.body).getD .skip
def N:Nat:=16
def a8:b6:={sl:=cc [(1,.func (.func 52) ⟨[]⟩ ⟨[0,1]⟩),(0,.agg ⟨[2,3,4,5,6,7,8]⟩)],ms:=[],A:=start}
theorem e0:hf (at' 16 [] [] body a8)=some (77,[8]):=au
abbrev hO:=at' 16 [] [] body a8
def eM:List bw:=[⟨.cells [2,3,4,5,6,7,8],28,0⟩,⟨.cells [I 0,I 0,I 0,I 0,I 0,I 0,.slice none 0 0],28,0⟩]
def eB:aG:=cc [(4,gT 1 0),(2,gT 0 0),(1,.func (.func 52) ⟨[]⟩ ⟨[0,1]⟩)]
def eS:aG:=fk 16 eB 8 9
theorem dn:cq (kx Tryd.prog hO) eB eM=some [(0,0),(1,1),(2,2),(3,3),(4,4),(5,5),(6,6),(7,7),(8,8)]:=au
def e3:eh:=(body,[1,0],3)
def cx:bs:=[(.bF 28 0,.agg ⟨[2,3,4,5,6,7,8]⟩),
 (.cG 28 1 0,1),
 (.bF 25 1,.agg ⟨[I 0,I 0,I 0,I 0,I 0,I 0]⟩)]
def jQ:ec:=[(78,[.agg ⟨[2,3,4,5,6,7]⟩,.agg ⟨[I 0,I 0,I 0,I 0,I 0,I 0]⟩],.agg ⟨[I 0,I 0,I 0,I 0,I 0,I 0]⟩)]
theorem mi:gk Tryd.prog Tryd.f51 (c1 16 cx jQ e3 (b7 eS eM))=some (.agg ⟨[2,3,4,5,6,7,9]⟩):=au
@[reducible] noncomputable def bJ (c9:c6) (cS c_ qM:Nat) (b:bQ) (qN:Nat) (sx:List Int:=[]) (hY:c6:=none) (hZ:Nat:=0):List J:=[gT qM 0,gT qN 0,I b.1,I b.2.1,I b.2.2.1,I b.2.2.2.1,I b.2.2.2.2.1,I b.2.2.2.2.2,.slice c9 cS c_,bA hY sx hZ]
theorem any (W:ax) {c9:c6} {cS c_:Nat} {cells:List Int} (hJ:cu (aF W) 1 ga (.slice c9 cS c_) cells) {qM:Nat} {b:bQ} (akX:i' 0 (aF W) (gT qM 0) 28 [I b.1,I b.2.1,I b.2.2.1,I b.2.2.2.1,I b.2.2.2.2.1,I b.2.2.2.2.2,.slice c9 cS c_]) {qN:Nat} (akY:i' 0 (aF W) (gT qN 0) 28 [I 0,I 0,I 0,I 0,I 0,I 0,.slice none 0 0]) (av:cells.length<=100000):Calls Tryd.prog 51 #[.agg ⟨[I b.1,I b.2.1,I b.2.2.1,I b.2.2.2.1,I b.2.2.2.2.1,I b.2.2.2.2.2,.slice c9 cS c_]⟩,.func (.func 52) #[] #[gT qM 0,gT qN 0]] W λe w'=>(∃a c,e= .returned (l_ b (bA a cells c))/\dm W.heap.size (aF w') lE 1 ga (bA a cells c) cells)/\cb W.heap.size W w':=by
 refine jO (bJ c9 cS c_ qM b qN) body a8 N [.agg ⟨[al 2,al 3,al 4,al 5,al 6,al 7,al 8]⟩,.func (.func 52) ⟨[]⟩ ⟨[al 0,al 1]⟩] Tryd.func51 λa ah=> ?_
 letI:=cg ah;have aN:=bH.qA W;refine bK [] [] aX aY ?_ ah;obtain⟨sx,AB⟩:=iT (cells);refine hH (Y:=dY) (bh:=λa6=>(bJ c9 cS c_ qM b qN sx a6.1 a6.2)) aN [] (λa6=>[]) (λa6=>[qa a6.1 sx a6.2]) e0 dn (eP eS 9) (fI:=λw hw cC aw=>by rw[AB];exact Gk (Rq.any _ ((hJ.mono aN.ext).mono hw) av)) (rest:= ?_);intro j9 ⟨hY,hZ⟩ dA dN w ah;replace dA:=dA.Aq;letI:=cg ah;refine ep (er e3) cx jQ (ai (aT.J8 (g:=qM) (o:=0) (n:=7) (akX.up dA.ext) U U U au au U U U) (ai (jG 25 0 6) (ai (aT.J8 (g:=qN) (o:=0) (n:=6) (akY.up dA.ext) U U U au au U U U) aX))) (cL (Z7 U U U U) aY) ?_ ah;exact bP mi λw2 br=>(by subst AB;exact⟨_,_,rfl,(dA.arr 0 rfl).mono (b2 _) λ_ _ _ h=>br _ _ h⟩)
end Z'
namespace Rr
noncomputable def body:Code:=(Tryd.f31.body).getD .skip
def N:Nat:=8
def a8:b6:={sl:=cc [(1,.agg ⟨[I 0,I 0,I 0,I 0,I 0,I 0,.slice none 0 0]⟩),(0,.agg ⟨[0,1,2,3,4,5,6]⟩)],ms:=[],A:=start}
def cj:bs:=[(.ez (I 28),I 28)]
theorem e0:zV (at' 8 cj [] body a8)=some (28,(.agg ⟨[0,1,2,3,4,5,6]⟩)):=au
abbrev hO:=at' 8 cj [] body a8
def eM:List bw:=[]
def eB:aG:=cc [(1,.agg ⟨[I 0,I 0,I 0,I 0,I 0,I 0,.slice none 0 0]⟩)]
def eS:aG:=fk 8 eB 2 7
theorem e1:cq (b4 hO) eB eM=some []:=au
def e3:eh:=(body,[0],1)
theorem jP:zV (c1 8 cj [] e3 (b7 eS eM))=some (28,(.agg ⟨[I 0,I 0,I 0,I 0,I 0,I 0,.slice none 0 0]⟩)):=au
abbrev ng:=c1 8 cj [] e3 {sl:=eS,ms:=[],A:=dd eM}
def j':List bw:=[]
def jr:aG:=cc [(2,7)]
def hN:aG:=fk 8 jr 3 8
theorem lh:cq (b4 ng) jr j'=some [(7,7)]:=au
def ki:eh:=(body,[0],2)
theorem o4:Ga (c1 8 cj [] ki (b7 hN j'))=some 28:=au
abbrev tC:=c1 8 cj [] ki {sl:=hN,ms:=[],A:=dd j'}
def nh:List bw:=[]
def ov:aG:=cc [(3,8),(2,7)]
def iC:aG:=fk 8 ov 4 9
theorem tD:cq (b4 tC) ov nh=some [(8,8),(7,7)]:=au
def kj:eh:=(body,[0],3)
def cx:bs:=[(.ez (I 28),I 28),
 (.bF 28 7,.agg ⟨[0,1,2,3,4,5,6]⟩)]
theorem tE:hf (c1 8 cx [] kj (b7 iC nh))=some (51,[.agg ⟨[0,1,2,3,4,5,6]⟩,.func (.func 52) ⟨[]⟩ ⟨[7,8]⟩]):=au
abbrev wb:=c1 8 cx [] kj {sl:=iC,ms:=[],A:=dd nh}
def pD:List bw:=[]
def rA:aG:=cc [(4,9)]
def lH:aG:=fk 8 rA 7 (.agg ⟨[0,1,2,3,4,5,10]⟩)
theorem wc:cq (b4 wb) rA pD=some [(9,9)]:=au
def qO:eh:=(body,[1,0],3)
theorem Cn:oM (c1 8 cj [] qO (b7 lH pD))=some (28,9,(.agg ⟨[0,1,2,3,4,5,10]⟩)):=au
abbrev tF:=c1 8 cj [] qO {sl:=lH,ms:=[],A:=dd pD}
def tG:List bw:=[]
def tH:aG:=cc [(4,9)]
def p0:aG:=match gX 8 tH none (.tuple ⟨[]⟩) with|some s=>s|none=> .nil
theorem Co:cq (b4 tF) tH tG=some [(9,9)]:=au
def HI:eh:=(body,[1,0],4)
theorem Cp:endCell Tryd.f31 (c1 8 cj [] HI (b7 p0 tG))=some (28,9):=au
@[reducible] noncomputable def bJ (c9:c6) (cS c_:Nat) (b:bQ) (e4:Nat:=0) (g1:Nat:=0) (g2:Nat:=0) (qf:List Int:=[]) (tI:c6:=none) (tJ:Nat:=0):List J:=[I b.1,I b.2.1,I b.2.2.1,I b.2.2.2.1,I b.2.2.2.2.1,I b.2.2.2.2.2,.slice c9 cS c_,gT e4 0,gT g1 0,gT g2 0,bA tI qf tJ]
theorem any (W:ax) {b:bQ} {c9:c6} {cS c_:Nat} {cells:List Int} (hJ:cu (aF W) 1 ga (.slice c9 cS c_) cells) (av:cells.length<=100000):Calls Tryd.prog 31 #[.agg ⟨[I b.1,I b.2.1,I b.2.2.1,I b.2.2.2.1,I b.2.2.2.2.1,I b.2.2.2.2.2,.slice c9 cS c_]⟩,.agg ⟨[I 0,I 0,I 0,I 0,I 0,I 0,.slice none 0 0]⟩] W λe w'=>(∃a c,e= .returned (l_ b (bA a cells c))/\dm W.heap.size (aF w') lE 1 ga (bA a cells c) cells)/\cb W.heap.size W w':=by
 refine jO (bJ c9 cS c_ b) body a8 N [.agg ⟨[al 0,al 1,al 2,al 3,al 4,al 5,al 6]⟩,.agg ⟨[I 0,I 0,I 0,I 0,I 0,I 0,.slice none 0 0]⟩] Tryd.func31 λa ah=> ?_
 letI:=cg ah;have aN:=bH.qA W;refine bK cj [] (ai (jg _) aX) aY ?_ ah;refine DW (u:= .agg ⟨[I b.1,I b.2.1,I b.2.2.1,I b.2.2.2.1,I b.2.2.2.2.1,I b.2.2.2.2.2,.slice c9 cS c_]⟩) (cs:=[I b.1,I b.2.1,I b.2.2.1,I b.2.2.2.1,I b.2.2.2.2.1,I b.2.2.2.2.2,.slice c9 cS c_]) (bh:=λhP=>(bJ c9 cS c_ b hP)) e0 U U U e1 (eP eS 7) rfl (λ_ hP=>zM) (λ_ _=>rfl) ?_;intro j9 e4 fq Rs lo dN w ah;have dA:=aN.new (yy Rs fq lo);replace dA:=dA.Aq;letI:=cg ah;refine ep (er e3) cj [] (ai (jg _) aX) aY ?_ ah;refine DW (u:= .agg ⟨[I 0,I 0,I 0,I 0,I 0,I 0,.slice none 0 0]⟩) (cs:=[I 0,I 0,I 0,I 0,I 0,I 0,.slice none 0 0]) (bh:=λhP=>(bJ c9 cS c_ b e4 hP)) jP U U U lh (eP hN 8) rfl (λ_ hP=>gb) (λ_ _=>rfl) ?_;intro pv g1 jb yA rB dN w ah;have jR:=dA.new (yy yA jb rB);replace jR:=jR.Hn;letI:=cg ah;refine ep (er ki) cj [] (ai (jg _) aX) aY ?_ ah;refine OF (z:= .agg ⟨[I 0,I 0,I 0,I 0,I 0,I 0,.slice none 0 0]⟩) (bh:=λhP=>(bJ c9 cS c_ b e4 g1 hP)) o4 au tD (eP iC 9) rfl (λ_ hP=>gb) (λ_ _=>rfl) ?_;intro oR g2 vn lb Rt HJ dN w ah;have lp:=jR.new (yy (ty:=28) (cs:=[I 0,I 0,I 0,I 0,I 0,I 0,.slice none 0 0]) (i'.mk' vn Rt) lb HJ);replace lp:=lp.yV;letI:=cg ah;refine ep (er kj) cx [] (ai (jg _) (ai (Hm 0 7 0 lp) aX)) aY ?_ ah;obtain⟨qf,HK⟩:=iT (cells);refine hH (Y:=dY) (bh:=λa6=>(bJ c9 cS c_ b e4 g1 g2 qf a6.1 a6.2)) lp [0,1] (λa6=>[_,_]) (λa6=>[qa a6.1 qf a6.2]) tE wc (eP lH (.agg ⟨[0,1,2,3,4,5,10]⟩)) (fI:=λw hw cC aw=>by rw[HK];exact akU (F:=l_ b) aw (Z'.any _ ((hJ.mono lp.ext).mono hw) (aw.box 0 rfl) (aw.box 1 rfl) av)) (rest:= ?_);intro Ru ⟨tI,tJ⟩ ow dN w ah;replace ow:=ow.Ho;letI:=cg ah;refine ep (er qO) cj [] (ai (jg _) aX) aY ?_ ah;refine OM (g:=g2) (j:=0) (n:=7) (us:=[I b.1,I b.2.1,I b.2.2.1,I b.2.2.2.1,I b.2.2.2.2.1,I b.2.2.2.2.2,bA tI qf tJ]) (cs:=[I 0,I 0,I 0,I 0,I 0,I 0,.slice none 0 0]) (cs':=[I b.1,I b.2.1,I b.2.2.1,I b.2.2.2.1,I b.2.2.2.2.1,I b.2.2.2.2.2,bA tI qf tJ]) (bh:=(bJ c9 cS c_ b e4 g1 g2 qf tI tJ)) rfl Cn au Co (eP p0 (.tuple ⟨[]⟩)) U U U U U (pX rfl (pX rfl (pX rfl (pX rfl (pX rfl (pX rfl (pX rfl Gj))))))) (ow.box 2 rfl) (gv rfl) (λ_=>gb) ?_;intro Lp Rv Cq dN w ah;have o5:=ow.mQ 2 rfl (xb Rv Cq);replace o5:=o5.Ho;letI:=cg ah;refine ep (er HI) cj [] (ai (jg _) aX) aY ?_ ah;exact OU (v:= .agg ⟨[al 0,al 1,al 2,al 3,al 4,al 5,al 10]⟩) (cs:=[I b.1,I b.2.1,I b.2.2.1,I b.2.2.2.1,I b.2.2.2.2.1,I b.2.2.2.2.2,bA tI qf tJ]) Cp U U (o5.box 2 rfl) au (show bd Tryd.prog (sizeOf 28)=some 7 by kernel_rfl) U U λw2 y0 br=>⟨(by subst HK;exact⟨_,_,rfl,(o5.arr 3 rfl).mono (b2 _) λ_ _ _ h=>br _ _ h⟩),y0⟩
end Rr
end AE
end Go.Proofs.YtepcfjbfkedlpaaDoor
namespace Go.Proofs.YtepcfjbfkedlpaaDoor
open Go Go.Proofs Go.Shelf Go.RowKit Go.Lib
section
def akZ:Go.Shelf.Ren:=⟨λ|212=>56|263=>82|264=>83|n=>n,λ|46=>104|51=>127|146=>128|53=>130|148=>131|n=>n,λ|n=>n⟩
theorem ak0:Go.Proofs.Lays.n212 Tryd.prog akZ:={
 mixed:=by kernel_rfl
 f212:=Tryd.func56.trans (congrArg some au)
 f263:=Tryd.func82.trans (congrArg some au)
 f264:=Tryd.func83.trans (congrArg some au)
 t46:=Tryd.underlying104
 a46:=Tryd.isAgg104
 z46:=Tryd.sizeOf104
 v46:=Tryd.zeroValue104
 t51:=Tryd.underlying127
 a51:=Tryd.isAgg127
 z51:=Tryd.sizeOf127
 v51:=Tryd.zeroValue127
 t53:=Tryd.underlying130
 a53:=Tryd.isAgg130
 z53:=Tryd.sizeOf130
 v53:=Tryd.zeroValue130
 t146:=Tryd.underlying128
 a146:=Tryd.isAgg128
 z146:=Tryd.sizeOf128
 v146:=Tryd.zeroValue128
 t148:=Tryd.underlying131
 a148:=Tryd.isAgg131
 z148:=Tryd.sizeOf131
 v148:=Tryd.zeroValue131}
open Go.RowKit Go.Lib in
theorem bits_Mul (x y:Nat) (ak:x<18446744073709551616) (bq:y<18446744073709551616) (w:ax):
 Calls Tryd.prog 56 #[.int .u64 x,.int .u64 y] w λe w'=>e= .returned (.tuple #[.int .u64 ((x*y/18446744073709551616:Nat):Int),.int .u64 ((x*y%18446744073709551616:Nat):Int)])/\w'=w:=Any.bits_Mul ak0 x y ak bq w
namespace AE
def jw (n i:Nat):List Bool:=List.replicate i true++List.replicate (n-i) false
theorem Z_ (n:Nat):jw n n=List.replicate n true:=by simp [jw]
theorem ak1 (n:Nat):(List.replicate n vI).take 0++[true].take (min [true].length ((List.replicate n vI).length-0))++(List.replicate n vI).drop (0+min [true].length ((List.replicate n vI).length-0))=jw n (min [true].length ((List.replicate n vI).length-0)):=by
 have bI:vI=false:=rfl;rw[bI,mc];cases n with
 |zero=>rfl
 |succ n=>
  have:min [true].length (n+1-0)=1:=by simp
  rw[this];simp [jw]
theorem ak2 {n i:Nat} (h:i<=n):(jw n i).take i++((jw n i).take i).take (min ((jw n i).take i).length ((jw n i).length-i))++(jw n i).drop (i+min ((jw n i).take i).length ((jw n i).length-i))=jw n (i+min ((jw n i).take i).length ((jw n i).length-i)):=by
 have ad:(jw n i).take i=List.replicate i true:=by
  unfold jw;rw[List.take_append_of_le_length (by simp)];simp
 have af:(jw n i).length=n:=by simp [jw];omega
 rw[ad,af,mc];generalize hm:min i (n-i)=m;have ak3:m<=i:=by omega
 have Kl:m<=n-i:=by omega
 unfold jw;rw[List.drop_append,mc,List.drop_of_length_le (by simp),Nat.add_sub_cancel_left,List.take_replicate,List.drop_replicate,Nat.min_eq_left ak3,List.nil_append,List.replicate_append_replicate];congr 2;omega
theorem ak4 {α:Type} {B:Nat} {M:Mem} {e:aJ} {k:Nat} {enc:α->List J} {a:Option Addr} {n c:Nat} {l:List α} (h:dm B M e k enc (.slice a n c) l):l.length<=c:=by
 obtain⟨aW,c',he,aq⟩:=h.queue.cap;cases he;exact aq
section
variable [a7]
theorem aac {x y r:J} {p q:Nat} (hp:dP [x,y]=true) (ao:aL r=true) (bp:ew [x,y]=[.int .u64 ((p:Nat):Int),.int .u64 ((q:Nat):Int)]) (b1:aI r= .tuple ⟨[.int .u64 0,.int .u64 ((q:Nat):Int)]⟩) (ad:p=1) (af:q<=9000000000000000000):jA Tryd.prog (56,[x,y],r):=
 mo (a:= #[.int .u64 ((p:Nat):Int),.int .u64 ((q:Nat):Int)]) hp ao bp b1 λw _=>(bits_Mul p q ar ar w).mono λe w' he=>by
  obtain⟨rfl,rfl⟩:=he;subst ad;refine⟨?_,⟨rfl,rfl,rfl,b2 _,λ_ _=>rfl⟩,b2 _⟩;rw[Nat.one_mul,Nat.div_eq_of_lt ar,Nat.mod_eq_of_lt ar];rfl
end
end AE
end
end Go.Proofs.YtepcfjbfkedlpaaDoor
namespace Go.Proofs.YtepcfjbfkedlpaaDoor
open Go Go.Proofs Go.RowKit
namespace AE
namespace aad
noncomputable def body:Code:=(Tryd.f34.body).getD .skip
def N:Nat:=48
def a8:b6:={sl:=cc [(1,1),(0,0)],ms:=[],A:=start}
def cj:bs:=[(.bin .lss 3 1 (I 0),.bool false),
 (.len #[30] 3 0,2),
 (.conv 3 104 2,3),
 (.conv 3 104 1,4),
 (.bin .gtr 104 4 (.int .u64 9223372036854775807),.bool true)]
def l9:ec:=[(56,[3,4],.tuple ⟨[.int .u64 0,4]⟩)]
def cx:bs:=[(.bin .lss 3 1 (I 0),.bool false),
 (.len #[30] 3 0,2),
 (.conv 3 104 2,3),
 (.conv 3 104 1,4),
 (.bin .gtr 104 4 (.int .u64 9223372036854775807),.bool false),
 (.conv 104 3 4,1)]
def jQ:ec:=[(56,[3,4],.tuple ⟨[.int .u64 0,4]⟩)]
theorem e0:Ka (at' 48 cx jQ body a8)=some (30,1):=au
abbrev hO:=at' 48 cx jQ body a8
def eM:List bw:=[]
def eB:aG:=cc [(4,.slice none 0 0),(0,0)]
def eS:aG:=fk 48 eB 30 5
theorem e1:cq (b4 hO) eB eM=some [(0,0)]:=au
def e3:eh:=(body,[1,1,1,1,0],3)
theorem jP:BK 30 30 (c1 48 [] [] e3 (b7 eS eM))=some (5,0):=au
abbrev ng:=c1 48 [] [] e3 {sl:=eS,ms:=[],A:=dd eM}
def j':List bw:=[]
def jr:aG:=cc [(7,5),(4,.slice none 0 0)]
def hN:aG:=fk 48 jr 33 6
theorem lh:cq (b4 ng) jr j'=some [(5,5)]:=au
def ki:eh:=(body,[1,1,1,1,1,0],3)
def eI:List bw:=[]
def eJ:aG:=cc [(8,7),(7,5),(4,.slice none 0 0)]
abbrev hy:=c1 48 [] [] ki {sl:=hN,ms:=[],A:=dd j'}
theorem o4:pS eJ eI hy=some [(5,5),(6,7)]:=au
def eW:Code:=s9 body [1,1,1,1,1,1,0,4]
def h5:List fc:=oh body [1,1,1,1,1,1,0,4] []
theorem tD:pe hy=eW:=au
theorem HL:f_ hy=h5:=au
def et:bs:=[(.len #[30] 3 5,8),
 (.bin .lss 3 7 8,.bool true),
 (.lV 30 5 (some 7) none none,9),
 (.lV 30 5 none (some 7) none,10)]
theorem HM:BK 30 30 (at' 48 et [] eW (b7 eJ eI))=some (9,10):=au
abbrev tC:=at' 48 et [] eW (b7 eJ eI)
def nh:List bw:=[]
def ov:aG:=cc [(38,7),(8,7),(7,5),(4,.slice none 0 0)]
def iC:aG:=fk 48 ov 45 11
theorem Cr:cq (b4 tC) ov nh=some [(5,5),(7,7),(7,7)]:=au
def kj:eh:=(eW,[1,4],8)
def gf:bs:=[(.bin .add 3 7 11,12)]
theorem wc:qx eJ eI (c1 48 gf [] kj (b7 iC nh))=some [(5,5),(12,7)]:=au
def hq:bs:=[(.len #[30] 3 5,8),
 (.bin .lss 3 7 8,.bool false)]
theorem Rw:gk Tryd.prog Tryd.f34 (ny 48 [] [] h5 (at' 48 hq [] eW (b7 eJ eI)))=some 5:=au
@[reducible] noncomputable def bJ (x:List Bool) (lq:c6) (lr n:Nat) (jv:List Bool:=[]) (i:Nat:=0) (cB:List Bool:=[]) (a0:c6:=none) (dw:Nat:=0):List J:=[bA lq x lr,I ((n:Nat):Int),I ((x.length:Nat):Int),.int .u64 ((x.length:Nat):Int),.int .u64 ((n:Nat):Int),bA a0 cB dw,I (((min x.length (cB.length-0)):Nat):Int),I ((i:Nat):Int),I ((jv.length:Nat):Int),.slice (k1 a0 dw i 1) (cB.length-i) (dw-i),.slice a0 i dw,I (((min (jv.take i).length (jv.length-i)):Nat):Int),I ((i+(min (jv.take i).length (jv.length-i)):Nat):Int)]
theorem any (W:ax) {x:List Bool} {lq:c6} {lr:Nat} (ma:cv (aF W) [r' 1 iQ (bA lq x lr) x]) (n:Nat) (ak:x=[true]) (av:n<=100000):Calls Tryd.prog 34 #[bA lq x lr,I ((n:Nat):Int)] W λe w'=>(∃y:c6×Nat,e= .returned (.slice y.1 n y.2)/\c5 (aF W) [r' 1 iQ (bA lq x lr) x] (aF w') [r' 1 iQ (bA lq x lr) x,h2 mv 1 iQ (.slice y.1 n y.2) (List.replicate n true)])/\cb 0 W w':=by
 refine uP (bJ x lq lr n) body a8 N [al 0,al 1] Tryd.func34 λa ah=> ?_
 letI:=cg ah;have aN:=bH.start W _ ma;have BE:x.length=1:=by rw[ak];rfl
 by_cases aM:9223372036854775807<((n:Nat):Int)
 ·refine bK cj l9 (ai bf (ai (eT ((aN.red 0 rfl).arr l4) nv) (ai (aT.F3 U U au au (k':= .u64) au (Ke ar ar) U U) (ai (aT.F3 U U au au (k':= .u64) au (Ke ar ar) U U) (ai bC aX))))) (cL (aac U U U U BE ar) aY) ?_ ah
  exfalso;omega
 ·refine bK cx jQ (ai bf (ai (eT ((aN.red 0 rfl).arr l4) nv) (ai (aT.F3 U U au au (k':= .u64) au (Ke ar ar) U U) (ai (aT.F3 U U au au (k':= .u64) au (Ke ar ar) U U) (ai bf (ai (aT.F3 U U au au (k':= .i64) au (wrap64 ar ar) U U) aX)))))) (cL (aac U U U U BE ar) aY) ?_ ah
  obtain⟨cB,e7⟩:=iT (List.replicate n vI);have fq:cB.length=n:=by rw[e7];exact mc
  refine WY (n:=n) (zr:=vI) (l':=cB) (bh:=λqd qe=>(bJ x lq lr n [] 0 cB qd qe)) e7 e0 nv Pk Pl Pm Pn rfl l4 e1 (eP eS 5) U U (by rfl) ar (by unfold GK;omega) ar (λ_ _ _=>gb) (λ_ _ _=>rfl) ?_;intro j9 a0 dw nW lo Rx dN w ah;have dA:=aN.new (J6 nW lo Rx);replace dA:=dA.Hn;letI:=cg ah;refine ep (er e3) [] [] aX aY ?_ ah;obtain⟨Ry,lS⟩:=iT (cB.take 0++x.take (min x.length (cB.length-0))++cB.drop (0+(min x.length (cB.length-0))));have jb:Ry.length=cB.length:=by rw[lS];simp only [List.length_append,List.length_take,List.length_drop];omega
  refine W2 (e:=4) (u:=bA a0 cB dw) (a:=a0) (c:=dw) (i:=0) (m:=(min x.length (cB.length-0))) (l:=cB) (ys:=x) (l':=Ry) (bh:=(bJ x lq lr n [] 0 cB a0 dw)) lS rfl jP au au l4 Po lh (eP hN 6) U U (congrArg (λz=>Value.slice a0 z dw) (show cB.length=cB.length by omega)) rfl ((congrArg (λz=>Value.slice a0 z dw) (show cB.length=cB.length by omega)).trans (ag2 _ _ _)) (W4 U U ((dA.red 0 rfl).arr l4) l4) (by apply List.ne_nil_of_length_pos;omega) ar (dA.arr 1 rfl) (λ_=>rfl) (λ_=>gb) ?_;intro pv Ge rB dN w ah;have jR:=dA.mQ 1 rfl (Gd Ge rB);replace jR:=jR.Hn;letI:=cg ah;refine ep (er ki) [] [] aX aY ?_ ah;refine ta (f':=(λ(⟨M,jv,i⟩:Mem×List Bool×Nat)=>aS M (bJ x lq lr n jv i cB a0 dw))) (λ(⟨M,jv,i⟩:Mem×List Bool×Nat)=>bH 0 (aF W) aN.IC M [r' 1 iQ (bA lq x lr) x,Ap a0 cB.length dw jv]/\(i<=n/\jv=jw n i/\jv.length=n/\(0<n->0<i))) (λ(⟨M,jv,i⟩:Mem×List Bool×Nat)=>n-i) ⟨pv,Ry,(min x.length (cB.length-0))⟩ o4 gb (λ_ _ h=>h) (by exact⟨jR,by exact⟨ar,by rw[lS];subst e7 ak;exact ak1 n,ar,ar⟩⟩) ?_;intro⟨M,jv,i⟩ bg dN w ah;letI:=cg ah;refine s' tD HL ?_;have qP:=bg.1;have Rz:=ak4 (qP.arr 1 rfl);have Ck:=bg.2.1;have apU:=bg.2.2.2.1;have Ez:=bg.2.2.2.2;by_cases oL:((i:Nat):Int)<((jv.length:Nat):Int)
  ·refine bK et [] (ai (eT ((qP.arr 1 rfl).arr l4) nv) (ai bC (ai (aT.Wh U U U nv Kt U U (show i<=cB.length by omega) rfl) (ai (aT.afU U U U nv Kt U U (show i<=dw by omega) rfl) aX)))) aY ?_ ah
   obtain⟨RA,jm⟩:=iT (jv.take i++(jv.take i).take (min (jv.take i).length (jv.length-i))++jv.drop (i+(min (jv.take i).length (jv.length-i))));have lb:RA.length=jv.length:=by rw[jm];simp only [List.length_append,List.length_take,List.length_drop];omega
   refine W2 (e:=4) (u:=bA a0 cB dw) (a:=a0) (c:=dw) (i:=i) (m:=(min (jv.take i).length (jv.length-i))) (l:=jv) (ys:=(jv.take i)) (l':=RA) (bh:=(bJ x lq lr n jv i cB a0 dw)) jm rfl HM au au l4 Po Cr (eP iC 11) U U (congrArg (λz=>Value.slice a0 z dw) (show cB.length=jv.length by omega)) rfl (congrArg (λz=>Value.slice (k1 a0 dw i 1) z (dw-i)) (show (cB.length-i)=jv.length-i by omega)) (W4 U U (((qP.arr 1 rfl).arr l4).take (show i<=cB.length by omega)) l4) (by apply List.ne_nil_of_length_pos;(simp only [List.length_take];omega)) ar (qP.arr 1 rfl) (λ_=>rfl) (λ_=>gb) ?_;intro oR vA HJ dN w ah;have lp:=qP.mQ 1 rfl (Gd vA HJ);replace lp:=lp.Hn;letI:=cg ah;refine ep (er kj) gf [] (ai k5 aX) aY ?_ ah;exact tu ⟨oR,RA,i+(min (jv.take i).length (jv.length-i))⟩ wc gb (by exact⟨lp,by have RB:(jv.take i).length=i:=(by rw[List.length_take];omega);exact⟨by rw[RB];omega,by rw[jm,bg.2.2.1];exact ak2 Ck,ar,ar⟩⟩) (by have RB:(jv.take i).length=i:=(by rw[List.length_take];omega);show n-(i+min _ _)<n-i;rw[RB];omega)
  ·refine bK hq [] (ai (eT ((qP.arr 1 rfl).arr l4) nv) (ai bf aX)) aY ?_ ah
   refine nV [] [] aX aY ?_;exact bP Rw λw2 br=>(by have iX:i=n:=ar;have hL:jv=List.replicate n true:=(by rw[bg.2.2.1,iX,Z_]);rw[<-hL,<-fq];exact⟨(_,_),rfl,((qP.pick [0,1] rfl).done br)⟩)
end aad
end AE
namespace AE
def sy (c:Int):Prop:=0<=c/\c<256
instance (c:Int):Decidable (sy c):=by unfold sy;infer_instance
def rC:List Int->Int
 |[]=> -1
 |c::r=>if sy c then (if rC r<0 then -1 else rC r+1) else 0
theorem aae:∀{l:List Int},(∀c∈l,sy c)->rC l= -1
 |[],_=>rfl
 |c::r,h=>by
  unfold rC;rw[aQ (h c (by simp)),aae λd bc=>h d (by simp [bc]),aQ cz]
theorem RC:∀{l:List Int} {i:Nat},i<l.length->(∀c∈l.take i,sy c)->¬sy (l.getD i default)->rC l=i
 |[],i,h,_,_=>by simp at h
 |c::r,0,_,_,h=>by
  unfold rC;rw[aU (show ¬sy c from h)];rfl
 |c::r,i+1,h,ad,af=>by
  unfold rC;rw[aQ (ad c (by simp)),RC (l:=r) (i:=i) (by simpa using h) (λd bc=>ad d (by simp [bc])) af,aU ar];omega
theorem ak5 {l:List Int} {i:Nat} (h:∀c∈l.take i,sy c) (ag:i<l.length) (ad:0<=l.getD i default) (af:l.getD i default<256):∀c∈l.take (i+1),sy c:=by
 have:l.take (i+1)=l.take i++[l.getD i default]:=by
  rw[List.take_add_one,dh,fA ag];rfl
 rw[this];intro c aq;rcases List.mem_append.1 aq with aq|aq
 ·exact h c aq
 ·rw[List.mem_singleton.1 aq]
  exact⟨ad,af⟩
theorem ak6 {l:List Int} {i:Nat} (h:∀c∈l.take i,sy c) (ag:l.length<=i):∀c∈l,sy c:=by
 rwa [List.take_of_length_le ag] at h
def RD:bQ:=(0,0,0,0,0,0)
def wg (b:bQ) (cells:List Int):Prop:=okB b/\(iU b\/b=RD)/\fg b<=2097152/\fg b=cells.length/\rC cells<0
instance (b:bQ) (cells:List Int):Decidable (wg b cells):=by unfold wg;infer_instance
end AE
namespace AE
namespace RE
noncomputable def body:Code:=(Tryd.f71.body).getD .skip
def N:Nat:=34
noncomputable abbrev bN:=gk Tryd.prog Tryd.f71
def a8:b6:={sl:=cc [(0,.agg ⟨[0,1,2,3,4,5]⟩)],ms:=[],A:=start}
def cx:bs:=[(.bin .lss 3 0 (I (-1048575)),.bool true)]
theorem e0:bN (tt 34 cx [] 7 (at' 34 [] [] body a8))=some (.bool false):=au
def dz:bs:=[(.bin .lss 3 0 (I (-1048575)),.bool false),
 (.bin .gtr 3 0 (I 1048575),.bool true)]
theorem e1:bN (tt 34 dz [] 7 (at' 34 [] [] body a8))=some (.bool false):=au
def et:bs:=[(.bin .lss 3 0 (I (-1048575)),.bool false),
 (.bin .gtr 3 0 (I 1048575),.bool false),
 (.bin .lss 3 1 (I (-1048575)),.bool true)]
theorem e2:bN (tt 34 et [] 7 (at' 34 [] [] body a8))=some (.bool false):=au
def gf:bs:=[(.bin .lss 3 0 (I (-1048575)),.bool false),
 (.bin .gtr 3 0 (I 1048575),.bool false),
 (.bin .lss 3 1 (I (-1048575)),.bool false),
 (.bin .gtr 3 1 (I 1048575),.bool true)]
theorem dn:bN (tt 34 gf [] 7 (at' 34 [] [] body a8))=some (.bool false):=au
def hq:bs:=[(.bin .lss 3 0 (I (-1048575)),.bool false),
 (.bin .gtr 3 0 (I 1048575),.bool false),
 (.bin .lss 3 1 (I (-1048575)),.bool false),
 (.bin .gtr 3 1 (I 1048575),.bool false),
 (.bin .lss 3 2 (I (-1048575)),.bool true)]
theorem hU:bN (tt 34 hq [] 7 (at' 34 [] [] body a8))=some (.bool false):=au
def l8:bs:=[(.bin .lss 3 0 (I (-1048575)),.bool false),
 (.bin .gtr 3 0 (I 1048575),.bool false),
 (.bin .lss 3 1 (I (-1048575)),.bool false),
 (.bin .gtr 3 1 (I 1048575),.bool false),
 (.bin .lss 3 2 (I (-1048575)),.bool false),
 (.bin .gtr 3 2 (I 1048575),.bool true)]
theorem kG:bN (tt 34 l8 [] 7 (at' 34 [] [] body a8))=some (.bool false):=au
def nX:bs:=[(.bin .lss 3 0 (I (-1048575)),.bool false),
 (.bin .gtr 3 0 (I 1048575),.bool false),
 (.bin .lss 3 1 (I (-1048575)),.bool false),
 (.bin .gtr 3 1 (I 1048575),.bool false),
 (.bin .lss 3 2 (I (-1048575)),.bool false),
 (.bin .gtr 3 2 (I 1048575),.bool false),
 (.bin .lss 3 3 (I (-1048575)),.bool true)]
theorem jP:bN (tt 34 nX [] 7 (at' 34 [] [] body a8))=some (.bool false):=au
def rD:bs:=[(.bin .lss 3 0 (I (-1048575)),.bool false),
 (.bin .gtr 3 0 (I 1048575),.bool false),
 (.bin .lss 3 1 (I (-1048575)),.bool false),
 (.bin .gtr 3 1 (I 1048575),.bool false),
 (.bin .lss 3 2 (I (-1048575)),.bool false),
 (.bin .gtr 3 2 (I 1048575),.bool false),
 (.bin .lss 3 3 (I (-1048575)),.bool false),
 (.bin .gtr 3 3 (I 1048575),.bool true)]
theorem lh:bN (tt 34 rD [] 7 (at' 34 [] [] body a8))=some (.bool false):=au
def wh:bs:=[(.bin .lss 3 0 (I (-1048575)),.bool false),
 (.bin .gtr 3 0 (I 1048575),.bool false),
 (.bin .lss 3 1 (I (-1048575)),.bool false),
 (.bin .gtr 3 1 (I 1048575),.bool false),
 (.bin .lss 3 2 (I (-1048575)),.bool false),
 (.bin .gtr 3 2 (I 1048575),.bool false),
 (.bin .lss 3 3 (I (-1048575)),.bool false),
 (.bin .gtr 3 3 (I 1048575),.bool false),
 (.bin .lss 3 4 (I (-1048575)),.bool true)]
theorem mi:bN (tt 34 wh [] 7 (at' 34 [] [] body a8))=some (.bool false):=au
def wi:bs:=[(.bin .lss 3 0 (I (-1048575)),.bool false),
 (.bin .gtr 3 0 (I 1048575),.bool false),
 (.bin .lss 3 1 (I (-1048575)),.bool false),
 (.bin .gtr 3 1 (I 1048575),.bool false),
 (.bin .lss 3 2 (I (-1048575)),.bool false),
 (.bin .gtr 3 2 (I 1048575),.bool false),
 (.bin .lss 3 3 (I (-1048575)),.bool false),
 (.bin .gtr 3 3 (I 1048575),.bool false),
 (.bin .lss 3 4 (I (-1048575)),.bool false),
 (.bin .gtr 3 4 (I 1048575),.bool true)]
theorem p4:bN (tt 34 wi [] 7 (at' 34 [] [] body a8))=some (.bool false):=au
def y1:bs:=[(.bin .lss 3 0 (I (-1048575)),.bool false),
 (.bin .gtr 3 0 (I 1048575),.bool false),
 (.bin .lss 3 1 (I (-1048575)),.bool false),
 (.bin .gtr 3 1 (I 1048575),.bool false),
 (.bin .lss 3 2 (I (-1048575)),.bool false),
 (.bin .gtr 3 2 (I 1048575),.bool false),
 (.bin .lss 3 3 (I (-1048575)),.bool false),
 (.bin .gtr 3 3 (I 1048575),.bool false),
 (.bin .lss 3 4 (I (-1048575)),.bool false),
 (.bin .gtr 3 4 (I 1048575),.bool false),
 (.bin .lss 3 5 (I (-1048575)),.bool true)]
theorem rE:bN (tt 34 y1 [] 7 (at' 34 [] [] body a8))=some (.bool false):=au
def y2:bs:=[(.bin .lss 3 0 (I (-1048575)),.bool false),
 (.bin .gtr 3 0 (I 1048575),.bool false),
 (.bin .lss 3 1 (I (-1048575)),.bool false),
 (.bin .gtr 3 1 (I 1048575),.bool false),
 (.bin .lss 3 2 (I (-1048575)),.bool false),
 (.bin .gtr 3 2 (I 1048575),.bool false),
 (.bin .lss 3 3 (I (-1048575)),.bool false),
 (.bin .gtr 3 3 (I 1048575),.bool false),
 (.bin .lss 3 4 (I (-1048575)),.bool false),
 (.bin .gtr 3 4 (I 1048575),.bool false),
 (.bin .lss 3 5 (I (-1048575)),.bool false),
 (.bin .gtr 3 5 (I 1048575),.bool true)]
theorem qg:bN (tt 34 y2 [] 7 (at' 34 [] [] body a8))=some (.bool false):=au
def AD:bs:=[(.bin .lss 3 0 (I (-1048575)),.bool false),
 (.bin .gtr 3 0 (I 1048575),.bool false),
 (.bin .lss 3 1 (I (-1048575)),.bool false),
 (.bin .gtr 3 1 (I 1048575),.bool false),
 (.bin .lss 3 2 (I (-1048575)),.bool false),
 (.bin .gtr 3 2 (I 1048575),.bool false),
 (.bin .lss 3 3 (I (-1048575)),.bool false),
 (.bin .gtr 3 3 (I 1048575),.bool false),
 (.bin .lss 3 4 (I (-1048575)),.bool false),
 (.bin .gtr 3 4 (I 1048575),.bool false),
 (.bin .lss 3 5 (I (-1048575)),.bool false),
 (.bin .gtr 3 5 (I 1048575),.bool false)]
theorem o4:bN (tt 34 AD [] 7 (at' 34 [] [] body a8))=some (.bool true):=au
@[reducible] noncomputable def bJ (b:bQ):List J:=[I b.1,I b.2.1,I b.2.2.1,I b.2.2.2.1,I b.2.2.2.2.1,I b.2.2.2.2.2]
theorem any (W:ax) (b:bQ):Calls Tryd.prog 71 #[X.val b] W λe w'=>e= .returned (.bool (decide (okB b)))/\cb W.heap.size W w':=by
 refine jO (bJ b) body a8 N [.agg ⟨[al 0,al 1,al 2,al 3,al 4,al 5]⟩] Tryd.func71 λa ah=> ?_
 letI:=cg ah;refine bK [] [] aX aY ?_ ah;by_cases aM:b.1<(-1048575)
 ·refine s6 (m:=7) (F:=cx) (T:=[]) (bm:=1000) (d:=10) mixed (ai bC aX) aY ?_
  exact bP e0 λw2 br=>(by (rw[c8 (show ¬okB b from by unfold okB;omega)];rfl))
 ·by_cases ad:1048575<b.1
  ·refine s6 (m:=7) (F:=dz) (T:=[]) (bm:=1000) (d:=10) mixed (ai bf (ai bC aX)) aY ?_
   exact bP e1 λw2 br=>(by (rw[c8 (show ¬okB b from by unfold okB;omega)];rfl))
  ·by_cases af:b.2.1<(-1048575)
   ·refine s6 (m:=7) (F:=et) (T:=[]) (bm:=1000) (d:=10) mixed (ai bf (ai bf (ai bC aX))) aY ?_
    exact bP e2 λw2 br=>(by (rw[c8 (show ¬okB b from by unfold okB;omega)];rfl))
   ·by_cases ay:1048575<b.2.1
    ·refine s6 (m:=7) (F:=gf) (T:=[]) (bm:=1000) (d:=10) mixed (ai bf (ai bf (ai bf (ai bC aX)))) aY ?_
     exact bP dn λw2 br=>(by (rw[c8 (show ¬okB b from by unfold okB;omega)];rfl))
    ·by_cases bD:b.2.2.1<(-1048575)
     ·refine s6 (m:=7) (F:=hq) (T:=[]) (bm:=1000) (d:=10) mixed (ai bf (ai bf (ai bf (ai bf (ai bC aX))))) aY ?_
      exact bP hU λw2 br=>(by (rw[c8 (show ¬okB b from by unfold okB;omega)];rfl))
     ·by_cases cD:1048575<b.2.2.1
      ·refine s6 (m:=7) (F:=l8) (T:=[]) (bm:=1000) (d:=10) mixed (ai bf (ai bf (ai bf (ai bf (ai bf (ai bC aX)))))) aY ?_
       exact bP kG λw2 br=>(by (rw[c8 (show ¬okB b from by unfold okB;omega)];rfl))
      ·by_cases cI:b.2.2.2.1<(-1048575)
       ·refine s6 (m:=7) (F:=nX) (T:=[]) (bm:=1000) (d:=10) mixed (ai bf (ai bf (ai bf (ai bf (ai bf (ai bf (ai bC aX))))))) aY ?_
        exact bP jP λw2 br=>(by (rw[c8 (show ¬okB b from by unfold okB;omega)];rfl))
       ·by_cases fK:1048575<b.2.2.2.1
        ·refine s6 (m:=7) (F:=rD) (T:=[]) (bm:=1000) (d:=10) mixed (ai bf (ai bf (ai bf (ai bf (ai bf (ai bf (ai bf (ai bC aX)))))))) aY ?_
         exact bP lh λw2 br=>(by (rw[c8 (show ¬okB b from by unfold okB;omega)];rfl))
        ·by_cases o8:b.2.2.2.2.1<(-1048575)
         ·refine s6 (m:=7) (F:=wh) (T:=[]) (bm:=1000) (d:=10) mixed (ai bf (ai bf (ai bf (ai bf (ai bf (ai bf (ai bf (ai bf (ai bC aX))))))))) aY ?_
          exact bP mi λw2 br=>(by (rw[c8 (show ¬okB b from by unfold okB;omega)];rfl))
         ·by_cases xQ:1048575<b.2.2.2.2.1
          ·refine s6 (m:=7) (F:=wi) (T:=[]) (bm:=1000) (d:=10) mixed (ai bf (ai bf (ai bf (ai bf (ai bf (ai bf (ai bf (ai bf (ai bf (ai bC aX)))))))))) aY ?_
           exact bP p4 λw2 br=>(by (rw[c8 (show ¬okB b from by unfold okB;omega)];rfl))
          ·by_cases XU:b.2.2.2.2.2<(-1048575)
           ·refine s6 (m:=7) (F:=y1) (T:=[]) (bm:=1000) (d:=10) mixed (ai bf (ai bf (ai bf (ai bf (ai bf (ai bf (ai bf (ai bf (ai bf (ai bf (ai bC aX))))))))))) aY ?_
            exact bP rE λw2 br=>(by (rw[c8 (show ¬okB b from by unfold okB;omega)];rfl))
           ·by_cases apV:1048575<b.2.2.2.2.2
            ·refine s6 (m:=7) (F:=y2) (T:=[]) (bm:=1000) (d:=10) mixed (ai bf (ai bf (ai bf (ai bf (ai bf (ai bf (ai bf (ai bf (ai bf (ai bf (ai bf (ai bC aX)))))))))))) aY ?_
             exact bP qg λw2 br=>(by (rw[c8 (show ¬okB b from by unfold okB;omega)];rfl))
            ·refine s6 (m:=7) (F:=AD) (T:=[]) (bm:=1000) (d:=10) mixed (ai bf (ai bf (ai bf (ai bf (ai bf (ai bf (ai bf (ai bf (ai bf (ai bf (ai bf (ai bf aX)))))))))))) aY ?_
             exact bP o4 λw2 br=>(by (rw[gC (show okB b from by unfold okB;omega)];rfl))
end RE
namespace aaf
noncomputable def body:Code:=(Tryd.f92.body).getD .skip
def N:Nat:=19
noncomputable abbrev bN:=gk Tryd.prog Tryd.f92
def a8:b6:={sl:=cc [(1,.func (.func 75) ⟨[]⟩ ⟨[]⟩),(0,0)],ms:=[],A:=start}
def cj:bs:=[(.len #[26] 3 0,1)]
def eI:List bw:=[]
def eJ:aG:=cc [(8,2),(7,1),(1,.func (.func 75) ⟨[]⟩ ⟨[]⟩),(0,0)]
abbrev hy:=at' 19 cj [] body a8
theorem e0:pS eJ eI hy=some [(0,0),(1,1),(I 0,2)]:=au
def eW:Code:=s9 body [1,0,1,4]
def h5:List fc:=oh body [1,0,1,4] []
theorem e1:pe hy=eW:=au
theorem e2:f_ hy=h5:=au
def cx:bs:=[(.bin .lss 3 2 1,.bool true),
 (.dC 26 0 2,3),
 (.bF 3 3,4),
 (.bin .geq 3 4 (I 0),.bool true),
 (.bin .lss 3 4 (I 256),.bool true),
 (.bin .add 3 2 (I 1),5)]
theorem dn:qx eJ eI (at' 19 cx [] eW (b7 eJ eI))=some [(0,0),(1,1),(5,2)]:=au
def dz:bs:=[(.bin .lss 3 2 1,.bool true),
 (.dC 26 0 2,3),
 (.bF 3 3,4),
 (.bin .geq 3 4 (I 0),.bool true),
 (.bin .lss 3 4 (I 256),.bool false)]
theorem hU:bN (ny 19 [] [] h5 (at' 19 dz [] eW (b7 eJ eI)))=some 2:=au
def gf:bs:=[(.bin .lss 3 2 1,.bool true),
 (.dC 26 0 2,3),
 (.bF 3 3,4),
 (.bin .geq 3 4 (I 0),.bool false)]
theorem kG:bN (ny 19 [] [] h5 (at' 19 gf [] eW (b7 eJ eI)))=some 2:=au
def hq:bs:=[(.bin .lss 3 2 1,.bool false)]
theorem jP:bN (ny 19 [] [] h5 (at' 19 hq [] eW (b7 eJ eI)))=some (I (-1)):=au
@[reducible] noncomputable def bJ (l:List Int) (dI:c6) (dO:Nat) (i:Nat:=0):List J:=[bA dI l dO,I ((l.length:Nat):Int),I ((i:Nat):Int),hW (bA dI l dO) (i*1),I (l.getD (i) default),I ((i+1:Nat):Int)]
theorem any (W:ax) {hX:J} {l:List Int} (hl:cu (aF W) 1 ga hX l) (av:l.length<=10000000):Calls Tryd.prog 92 #[hX,.func (.func 75) #[] #[]] W λe w'=>e= .returned (I (rC l))/\cb W.heap.size W w':=by
 obtain⟨dI,dO,rfl⟩:=hl.slice;refine jO (bJ l dI dO) body a8 N [al 0,.func (.func 75) ⟨[]⟩ ⟨[]⟩] Tryd.func92 λa ah=> ?_
 letI:=cg ah;refine bK cj [] (ai (eT hl iK) aX) aY ?_ ah;refine ta (f':=(λi=>aS (aF W) (bJ l dI dO i))) (λi=>i<=l.length/\∀c∈l.take i,sy c) (λi=>l.length-i) 0 e0 gb (λ_ _ h=>h) (by exact⟨Nat.zero_le _,λc aq=>by simp at aq⟩) ?_;intro i bg dN w ah;letI:=cg ah;refine s' e1 e2 ?_;have Ck:=bg.1;by_cases sK:((i:Nat):Int)<((l.length:Nat):Int)
 ·by_cases gV:0<=(l.getD (i) default)
  ·by_cases gO:(l.getD (i) default)<256
   ·refine bK cx [] (ai bC (ai (p_ hl iK yt) (ai (tw 0 hl (nb i) yu) (ai bC (ai bC (ai k5 aX)))))) aY ?_ ah
    exact tu (i+1) dn gb (by exact⟨ar,ak5 bg.2 ar bt ar⟩)
   ·refine bK dz [] (ai bC (ai (p_ hl iK yt) (ai (tw 0 hl (nb i) yu) (ai bC (ai bf aX))))) aY ?_ ah
    refine nV [] [] aX aY ?_;exact bP hU λw2 br=>(by (rw[RC (i:=i) ar bg.2 (λq=>by unfold sy at q;omega)];rfl))
  ·refine bK gf [] (ai bC (ai (p_ hl iK yt) (ai (tw 0 hl (nb i) yu) (ai bf aX)))) aY ?_ ah
   refine nV [] [] aX aY ?_;exact bP kG λw2 br=>(by (rw[RC (i:=i) ar bg.2 (λq=>by unfold sy at q;omega)];rfl))
 ·refine bK hq [] (ai bf aX) aY ?_ ah
  refine nV [] [] aX aY ?_;exact bP jP λw2 br=>(by (rw[aae (ak6 bg.2 ar)];rfl))
end aaf
end AE
namespace AE
namespace aag
noncomputable def body:Code:=(Tryd.f73.body).getD .skip
def N:Nat:=14
def a8:b6:={sl:=cc [(0,.agg ⟨[0,1,2,3,4,5]⟩)],ms:=[],A:=start}
def cj:bs:=[(.bin .mul 3 6 7,9),
 (.bin .mul 3 9 8,10)]
def l9:ec:=[(80,[.agg ⟨[0,1,2,3,4,5]⟩],.agg ⟨[6,7,8]⟩)]
theorem e0:gk Tryd.prog Tryd.f73 (at' 14 cj l9 body a8)=some 10:=au
@[reducible] noncomputable def bJ (b:bQ):List J:=[I b.1,I b.2.1,I b.2.2.1,I b.2.2.2.1,I b.2.2.2.2.1,I b.2.2.2.2.2,I (bX b).1,I (bX b).2.1,I (bX b).2.2,I ((bX b).1*(bX b).2.1),I (((bX b).1*(bX b).2.1)*(bX b).2.2)]
theorem any (W:ax) (b:bQ) (ae:okB b):Calls Tryd.prog 73 #[X.val b] W λe w'=>e= .returned (I (fg b))/\cb W.heap.size W w':=by
 refine jO (bJ b) body a8 N [.agg ⟨[al 0,al 1,al 2,al 3,al 4,al 5]⟩] Tryd.func73 λa ah=> ?_
 letI:=cg ah;have bI:=Cc ae;have aC:=Q1 ae;refine bK cj l9 (ai k5 (ai k5 aX)) (cL (Lj U U U U ae) aY) ?_ ah;exact bP e0 λw2 br=>(by rfl)
end aag
namespace RF
noncomputable def body:Code:=(Tryd.f72.body).getD .skip
def N:Nat:=8
noncomputable abbrev bN:=gk Tryd.prog Tryd.f72
def a8:b6:={sl:=cc [(0,.agg ⟨[0,1,2,3,4,5]⟩)],ms:=[],A:=start}
def cj:bs:=[(.bin .geq 3 0 0,.bool true),
 (.bin .lss 3 0 3,.bool true),
 (.bin .geq 3 1 1,.bool true),
 (.bin .lss 3 1 4,.bool true),
 (.bin .geq 3 2 2,.bool true),
 (.bin .lss 3 2 5,.bool true)]
theorem e0:bN (at' 8 cj [] body a8)=some (.bool false):=au
def cx:bs:=[(.bin .geq 3 0 0,.bool true),
 (.bin .lss 3 0 3,.bool true),
 (.bin .geq 3 1 1,.bool true),
 (.bin .lss 3 1 4,.bool true),
 (.bin .geq 3 2 2,.bool true),
 (.bin .lss 3 2 5,.bool false)]
theorem e1:bN (at' 8 cx [] body a8)=some (.bool true):=au
def dz:bs:=[(.bin .geq 3 0 0,.bool true),
 (.bin .lss 3 0 3,.bool true),
 (.bin .geq 3 1 1,.bool true),
 (.bin .lss 3 1 4,.bool false)]
theorem e2:bN (at' 8 dz [] body a8)=some (.bool true):=au
def et:bs:=[(.bin .geq 3 0 0,.bool true),
 (.bin .lss 3 0 3,.bool false)]
theorem dn:bN (at' 8 et [] body a8)=some (.bool true):=au
@[reducible] noncomputable def bJ (b:bQ):List J:=[I b.1,I b.2.1,I b.2.2.1,I b.2.2.2.1,I b.2.2.2.2.1,I b.2.2.2.2.2]
theorem any (W:ax) (b:bQ):Calls Tryd.prog 72 #[X.val b] W λe w'=>e= .returned (.bool (decide (¬iU b)))/\cb W.heap.size W w':=by
 refine jO (bJ b) body a8 N [.agg ⟨[al 0,al 1,al 2,al 3,al 4,al 5]⟩] Tryd.func72 λa ah=> ?_
 letI:=cg ah;by_cases aM:b.1<b.2.2.2.1
 ·by_cases ad:b.2.1<b.2.2.2.2.1
  ·by_cases af:b.2.2.1<b.2.2.2.2.2
   ·refine bK cj [] (ai bC (ai bC (ai bC (ai bC (ai bC (ai bC aX)))))) aY ?_ ah
    exact bP e0 λw2 br=>(by (rw[c8 (show ¬¬iU b from by unfold iU;omega)];rfl))
   ·refine bK cx [] (ai bC (ai bC (ai bC (ai bC (ai bC (ai bf aX)))))) aY ?_ ah
    exact bP e1 λw2 br=>(by (rw[gC (show ¬iU b from by unfold iU;omega)];rfl))
  ·refine bK dz [] (ai bC (ai bC (ai bC (ai bf aX)))) aY ?_ ah
   exact bP e2 λw2 br=>(by (rw[gC (show ¬iU b from by unfold iU;omega)];rfl))
 ·refine bK et [] (ai bC (ai bf aX)) aY ?_ ah
  exact bP dn λw2 br=>(by (rw[gC (show ¬iU b from by unfold iU;omega)];rfl))
end RF
end AE
namespace AE
abbrev RG:aJ:=25
theorem ak7 (p q:bQ):pT Tryd.prog 10000 RG (X.val p) (X.val q)=some ((p.1==q.1&&(p.2.1==q.2.1&&(p.2.2.1==q.2.2.1&&true)))&&((p.2.2.2.1==q.2.2.2.1&&(p.2.2.2.2.1==q.2.2.2.2.1&&(p.2.2.2.2.2==q.2.2.2.2.2&&true)))&&true)):=au
theorem ak8:Tryd.prog.eqGuardType Tryd.prog.depth RG=false:=au
theorem ak9 (p q:bQ):((p.1==q.1&&(p.2.1==q.2.1&&(p.2.2.1==q.2.2.1&&true)))&&((p.2.2.2.1==q.2.2.2.1&&(p.2.2.2.2.1==q.2.2.2.2.1&&(p.2.2.2.2.2==q.2.2.2.2.2&&true)))&&true))=decide (p=q):=by
 obtain⟨a,b,c,d,e,f⟩:=p;obtain⟨aW,b',c',mI,e',hv⟩:=q;rw[Bool.eq_iff_iff];simp [and_assoc]
section
variable [a7]
theorem HN {x y:J} {p q:bQ} (ak:aL x=true) (bq:aL y=true) (ex:aI x=X.val p) (hx:aI y=X.val q) {d:Bool} (bc:d= !decide (p=q)):aT Tryd.prog (.bin .neq RG x y,.bool d):=by
 subst bc;exact aT.JO ak8 ak bq ex hx ((ak7 p q).trans (by rw[ak9]))
theorem y3 {x r:J} {b:bQ} (hp:dP [x]=true) (ao:aL r=true) (bp:ew [x]=[X.val b]) (b1:aI r= .bool true) (h:okB b):jA Tryd.prog (71,[x],r):=
 mo (a:= #[X.val b]) hp ao bp b1 λw _=>(RE.any w b).mono λe w' he=>by rw[gC h] at he;exact he
theorem ak' {x r:J} {b:bQ} (hp:dP [x]=true) (ao:aL r=true) (bp:ew [x]=[X.val b]) (b1:aI r= .bool false) (h:¬okB b):jA Tryd.prog (71,[x],r):=
 mo (a:= #[X.val b]) hp ao bp b1 λw _=>(RE.any w b).mono λe w' he=>by rw[c8 h] at he;exact he
theorem HO {x r:J} {b:bQ} (hp:dP [x]=true) (ao:aL r=true) (bp:ew [x]=[X.val b]) (b1:aI r= .bool true) (h:¬iU b):jA Tryd.prog (72,[x],r):=
 mo (a:= #[X.val b]) hp ao bp b1 λw _=>(RF.any w b).mono λe w' he=>by rw[gC h] at he;exact he
theorem Lq {x r:J} {b:bQ} (hp:dP [x]=true) (ao:aL r=true) (bp:ew [x]=[X.val b]) (b1:aI r= .bool false) (h:¬¬iU b):jA Tryd.prog (72,[x],r):=
 mo (a:= #[X.val b]) hp ao bp b1 λw _=>(RF.any w b).mono λe w' he=>by rw[c8 h] at he;exact he
theorem AF {x r:J} {b:bQ} (hp:dP [x]=true) (ao:aL r=true) (bp:ew [x]=[X.val b]) (b1:aI r= .int .i64 (fg b)) (ae:okB b):jA Tryd.prog (73,[x],r):=
 mo (a:= #[X.val b]) hp ao bp b1 λw _=>aag.any w b ae
def HP:J:= .func (.func 75) ⟨[]⟩ ⟨[]⟩
theorem Lr {x r:J} {a:Option Addr} {n c:Nat} {l:List Int} (hp:dP [x,HP]=true) (ao:aL r=true) (bp:ew [x,HP]=[.slice a n c,HP]) (b1:aI r= .int .i64 (rC l)) (hl:cu a7.df 1 ga (.slice a n c) l) (av:l.length<=10000000):jA Tryd.prog (92,[x,HP],r):=
 mo (a:= #[.slice a n c,HP]) hp ao bp b1 λw hw=>aaf.any w (hl.mono hw) av
end
theorem aah {b:bQ} {cells:List Int} (aM:okB b) (ad:iU b\/b=RD) (af:fg b<=2097152) (ay:fg b=((cells.length:Nat):Int)) (bD:¬0<=rC cells):decide (wg b cells)=true:=gC ⟨aM,ad,af,ay,ar⟩
theorem AG {b:bQ} {cells:List Int} (h:okB b->(iU b\/b=RD)->fg b<=2097152->fg b=((cells.length:Nat):Int)->0<=rC cells):decide (wg b cells)=false:=c8 λq=>by
 obtain⟨q1,aE,ca,ey,hh⟩:=q;have:=h q1 aE ca ey;omega
end AE
namespace AE
namespace RH
noncomputable def body:Code:=(Tryd.f50.body).getD .skip
def N:Nat:=37
noncomputable abbrev bN:=gk Tryd.prog Tryd.f50
def a8:b6:={sl:=cc [(0,.agg ⟨[0,1,2,3,4,5,6]⟩)],ms:=[],A:=start}
def cj:bs:=[(.bin .neq 25 (.agg ⟨[0,1,2,3,4,5]⟩) (.agg ⟨[I 0,I 0,I 0,I 0,I 0,I 0]⟩),.bool false),
 (.bin .leq 3 7 (I 2097152),.bool true),
 (.len #[26] 3 6,8),
 (.bin .eql 3 7 8,.bool true),
 (.bin .geq 3 9 (I 0),.bool true)]
def l9:ec:=[(71,[.agg ⟨[0,1,2,3,4,5]⟩],.bool true),
 (72,[.agg ⟨[al 0,al 1,al 2,al 3,al 4,al 5]⟩],.bool true),
 (73,[.agg ⟨[al 0,al 1,al 2,al 3,al 4,al 5]⟩],al 7),
 (92,[al 6,.func (.func 75) ⟨[]⟩ ⟨[]⟩],al 9)]
theorem e0:bN (at' 37 cj l9 body a8)=some (.bool false):=au
def cx:bs:=[(.bin .neq 25 (.agg ⟨[0,1,2,3,4,5]⟩) (.agg ⟨[I 0,I 0,I 0,I 0,I 0,I 0]⟩),.bool false),
 (.bin .leq 3 7 (I 2097152),.bool true),
 (.len #[26] 3 6,8),
 (.bin .eql 3 7 8,.bool true),
 (.bin .geq 3 9 (I 0),.bool false)]
def jQ:ec:=[(71,[.agg ⟨[0,1,2,3,4,5]⟩],.bool true),
 (72,[.agg ⟨[al 0,al 1,al 2,al 3,al 4,al 5]⟩],.bool true),
 (73,[.agg ⟨[al 0,al 1,al 2,al 3,al 4,al 5]⟩],al 7),
 (92,[al 6,.func (.func 75) ⟨[]⟩ ⟨[]⟩],al 9)]
theorem e1:bN (at' 37 cx jQ body a8)=some (.bool true):=au
def dz:bs:=[(.bin .neq 25 (.agg ⟨[0,1,2,3,4,5]⟩) (.agg ⟨[I 0,I 0,I 0,I 0,I 0,I 0]⟩),.bool false),
 (.bin .leq 3 7 (I 2097152),.bool true),
 (.len #[26] 3 6,8),
 (.bin .eql 3 7 8,.bool false)]
def ot:ec:=[(71,[.agg ⟨[0,1,2,3,4,5]⟩],.bool true),
 (72,[.agg ⟨[al 0,al 1,al 2,al 3,al 4,al 5]⟩],.bool true),
 (73,[.agg ⟨[al 0,al 1,al 2,al 3,al 4,al 5]⟩],al 7)]
theorem e2:bN (at' 37 dz ot body a8)=some (.bool false):=au
def et:bs:=[(.bin .neq 25 (.agg ⟨[0,1,2,3,4,5]⟩) (.agg ⟨[I 0,I 0,I 0,I 0,I 0,I 0]⟩),.bool false),
 (.bin .leq 3 7 (I 2097152),.bool false)]
def sz:ec:=[(71,[.agg ⟨[0,1,2,3,4,5]⟩],.bool true),
 (72,[.agg ⟨[al 0,al 1,al 2,al 3,al 4,al 5]⟩],.bool true),
 (73,[.agg ⟨[al 0,al 1,al 2,al 3,al 4,al 5]⟩],al 7)]
theorem dn:bN (at' 37 et sz body a8)=some (.bool false):=au
def gf:bs:=[(.bin .neq 25 (.agg ⟨[0,1,2,3,4,5]⟩) (.agg ⟨[I 0,I 0,I 0,I 0,I 0,I 0]⟩),.bool true)]
def wj:ec:=[(71,[.agg ⟨[0,1,2,3,4,5]⟩],.bool true),
 (72,[.agg ⟨[al 0,al 1,al 2,al 3,al 4,al 5]⟩],.bool true)]
theorem hU:bN (at' 37 gf wj body a8)=some (.bool false):=au
def hq:bs:=[(.bin .leq 3 7 (I 2097152),.bool true),
 (.len #[26] 3 6,8),
 (.bin .eql 3 7 8,.bool true),
 (.bin .geq 3 9 (I 0),.bool true)]
def HQ:ec:=[(71,[.agg ⟨[0,1,2,3,4,5]⟩],.bool true),
 (72,[.agg ⟨[al 0,al 1,al 2,al 3,al 4,al 5]⟩],.bool false),
 (73,[.agg ⟨[al 0,al 1,al 2,al 3,al 4,al 5]⟩],al 7),
 (92,[al 6,.func (.func 75) ⟨[]⟩ ⟨[]⟩],al 9)]
theorem kG:bN (at' 37 hq HQ body a8)=some (.bool false):=au
def l8:bs:=[(.bin .leq 3 7 (I 2097152),.bool true),
 (.len #[26] 3 6,8),
 (.bin .eql 3 7 8,.bool true),
 (.bin .geq 3 9 (I 0),.bool false)]
def y4:ec:=[(71,[.agg ⟨[0,1,2,3,4,5]⟩],.bool true),
 (72,[.agg ⟨[al 0,al 1,al 2,al 3,al 4,al 5]⟩],.bool false),
 (73,[.agg ⟨[al 0,al 1,al 2,al 3,al 4,al 5]⟩],al 7),
 (92,[al 6,.func (.func 75) ⟨[]⟩ ⟨[]⟩],al 9)]
theorem jP:bN (at' 37 l8 y4 body a8)=some (.bool true):=au
def nX:bs:=[(.bin .leq 3 7 (I 2097152),.bool true),
 (.len #[26] 3 6,8),
 (.bin .eql 3 7 8,.bool false)]
def HR:ec:=[(71,[.agg ⟨[0,1,2,3,4,5]⟩],.bool true),
 (72,[.agg ⟨[al 0,al 1,al 2,al 3,al 4,al 5]⟩],.bool false),
 (73,[.agg ⟨[al 0,al 1,al 2,al 3,al 4,al 5]⟩],al 7)]
theorem lh:bN (at' 37 nX HR body a8)=some (.bool false):=au
def rD:bs:=[(.bin .leq 3 7 (I 2097152),.bool false)]
def AH:ec:=[(71,[.agg ⟨[0,1,2,3,4,5]⟩],.bool true),
 (72,[.agg ⟨[al 0,al 1,al 2,al 3,al 4,al 5]⟩],.bool false),
 (73,[.agg ⟨[al 0,al 1,al 2,al 3,al 4,al 5]⟩],al 7)]
theorem mi:bN (at' 37 rD AH body a8)=some (.bool false):=au
def HS:ec:=[(71,[.agg ⟨[0,1,2,3,4,5]⟩],.bool false)]
theorem p4:bN (at' 37 [] HS body a8)=some (.bool false):=au
@[reducible] noncomputable def bJ (cells:List Int) (c9:c6) (cS c_:Nat) (b:bQ):List J:=[I b.1,I b.2.1,I b.2.2.1,I b.2.2.2.1,I b.2.2.2.2.1,I b.2.2.2.2.2,.slice c9 cS c_,I (fg b),I ((cells.length:Nat):Int),I (rC cells)]
theorem any (W:ax) {b:bQ} {c9:c6} {cS c_:Nat} {cells:List Int} (hJ:cu (aF W) 1 ga (.slice c9 cS c_) cells) (av:cells.length<=10000000) (h9:cS=cells.length):Calls Tryd.prog 50 #[.agg ⟨[I b.1,I b.2.1,I b.2.2.1,I b.2.2.2.1,I b.2.2.2.2.1,I b.2.2.2.2.2,.slice c9 cS c_]⟩] W λe w'=>e= .returned (.bool (decide (wg b cells)))/\cb W.heap.size W w':=by
 refine jO (bJ cells c9 cS c_ b) body a8 N [.agg ⟨[al 0,al 1,al 2,al 3,al 4,al 5,al 6]⟩] Tryd.func50 λa ah=> ?_
 letI:=cg ah;have aN:=bH.qA W;by_cases aM:okB b
 ·by_cases ad:¬iU b
  ·by_cases af:b=((0,0,0,0,0,0):bQ)
   ·by_cases ay:(fg b)<=2097152
    ·by_cases bD:(fg b)=((cells.length:Nat):Int)
     ·by_cases cD:0<=(rC cells)
      ·refine bK cj l9 (ai (HN U U U U (by rw[gC af];rfl)) (ai bC (ai (eT (hJ.mono aN.ext) iK) (ai bC (ai bC aX))))) (cL (y3 U U U U aM) (cL (HO U U U U ad) (cL (AF U U U U bt) (cL (Lr U U U U (hJ.mono aN.ext) av) aY)))) ?_ ah
       exact bP e0 λw2 br=>(by (rw[AG (λq1 aE ca ey=>by omega)];rfl))
      ·refine bK cx jQ (ai (HN U U U U (by rw[gC af];rfl)) (ai bC (ai (eT (hJ.mono aN.ext) iK) (ai bC (ai bf aX))))) (cL (y3 U U U U aM) (cL (HO U U U U ad) (cL (AF U U U U bt) (cL (Lr U U U U (hJ.mono aN.ext) av) aY)))) ?_ ah
       exact bP e1 λw2 br=>(by (rw[aah bt (by exact .inr bt) ar ar ar];rfl))
     ·refine bK dz ot (ai (HN U U U U (by rw[gC af];rfl)) (ai bC (ai (eT (hJ.mono aN.ext) iK) (ai bf aX)))) (cL (y3 U U U U aM) (cL (HO U U U U ad) (cL (AF U U U U bt) aY))) ?_ ah
      exact bP e2 λw2 br=>(by (rw[AG (λq1 aE ca ey=>by omega)];rfl))
    ·refine bK et sz (ai (HN U U U U (by rw[gC af];rfl)) (ai bf aX)) (cL (y3 U U U U aM) (cL (HO U U U U ad) (cL (AF U U U U bt) aY))) ?_ ah
     exact bP dn λw2 br=>(by (rw[AG (λq1 aE ca ey=>by omega)];rfl))
   ·refine bK gf wj (ai (HN U U U U (by rw[c8 af];rfl)) aX) (cL (y3 U U U U aM) (cL (HO U U U U ad) aY)) ?_ ah
    exact bP hU λw2 br=>(by (rw[AG (λq1 aE ca ey=>by exact absurd (aE.resolve_left bt) bt)];rfl))
  ·by_cases af:(fg b)<=2097152
   ·by_cases ay:(fg b)=((cells.length:Nat):Int)
    ·by_cases bD:0<=(rC cells)
     ·refine bK hq HQ (ai bC (ai (eT (hJ.mono aN.ext) iK) (ai bC (ai bC aX)))) (cL (y3 U U U U aM) (cL (Lq U U U U ad) (cL (AF U U U U bt) (cL (Lr U U U U (hJ.mono aN.ext) av) aY)))) ?_ ah
      exact bP kG λw2 br=>(by (rw[AG (λq1 aE ca ey=>by omega)];rfl))
     ·refine bK l8 y4 (ai bC (ai (eT (hJ.mono aN.ext) iK) (ai bC (ai bf aX)))) (cL (y3 U U U U aM) (cL (Lq U U U U ad) (cL (AF U U U U bt) (cL (Lr U U U U (hJ.mono aN.ext) av) aY)))) ?_ ah
      exact bP jP λw2 br=>(by (rw[aah bt (by exact .inl (Classical.not_not.1 bt)) ar ar ar];rfl))
    ·refine bK nX HR (ai bC (ai (eT (hJ.mono aN.ext) iK) (ai bf aX))) (cL (y3 U U U U aM) (cL (Lq U U U U ad) (cL (AF U U U U bt) aY))) ?_ ah
     exact bP lh λw2 br=>(by (rw[AG (λq1 aE ca ey=>by omega)];rfl))
   ·refine bK rD AH (ai bf aX) (cL (y3 U U U U aM) (cL (Lq U U U U ad) (cL (AF U U U U bt) aY))) ?_ ah
    exact bP mi λw2 br=>(by (rw[AG (λq1 aE ca ey=>by omega)];rfl))
 ·refine bK [] HS aX (cL (ak' U U U U aM) aY) ?_ ah
  exact bP p4 λw2 br=>(by (rw[AG (λq1 aE ca ey=>by exact absurd q1 bt)];rfl))
end RH
end AE
namespace AE
def Ls (r:Nat):Bool:=decide (97<=r)&&decide (r<=122)
def Ct (r:Nat):Bool:= !Ls r&& !decide (r=45)
def o6 (s:fy):Prop:=(0<s.length/\s.length<=32)/\¬(((s.getD 0 0).toNat:Nat):Int)=45/\¬(((s.getD ((((s.length:Nat):Int)-1)).toNat 0).toNat:Nat):Int)=45/\Lib.idxFunc Ct true ⟨s.toArray⟩<0
instance (s:fy):Decidable (o6 s):=by unfold o6;infer_instance
abbrev RI:=fy×Bool×Bool×Bool
def ak_ (x:RI):List J:=[cr x.1,.bool x.2.1,.bool x.2.2.1,.bool x.2.2.2]
abbrev K.val (x:RI):J:= .agg ⟨ak_ x⟩
def lM (x:cX):RI:=
 if x.2.1=true then (if x.2.2.1=true then ([],false,false,false) else if x.2.2.2.1=true then ([102,97,108,108,105,110,103],true,false,true) else ([115,111,108,105,100],true,false,false))
 else if x.2.2.1=true then (if x.2.2.2.1=true then ([],false,false,false) else ([108,105,113,117,105,100],false,true,false))
 else if x.2.2.2.1=true then ([],false,false,false) else ([103,97,115],false,false,false)
section
variable {x:cX}
theorem ala (aM:¬x.2.1=true) (ad:¬x.2.2.1=true) (af:¬x.2.2.2.1=true):lM x=([103,97,115],false,false,false):=by unfold lM;rw[aU aM,aU ad,aU af]
theorem alb (aM:x.2.1=true) (ad:¬x.2.2.1=true) (af:¬x.2.2.2.1=true):lM x=([115,111,108,105,100],true,false,false):=by unfold lM;rw[aQ aM,aU ad,aU af]
theorem alc (aM:x.2.1=true) (ad:¬x.2.2.1=true) (af:x.2.2.2.1=true):lM x=([102,97,108,108,105,110,103],true,false,true):=by unfold lM;rw[aQ aM,aU ad,aQ af]
theorem ald (aM:¬x.2.1=true) (ad:x.2.2.1=true) (af:¬x.2.2.2.1=true):lM x=([108,105,113,117,105,100],false,true,false):=by unfold lM;rw[aU aM,aQ ad,aU af]
theorem ale (aM:x.2.1=true) (ad:x.2.2.1=true):lM x=([],false,false,false):=by unfold lM;rw[aQ aM,aQ ad]
theorem aai (aM:¬x.2.1=true) (af:x.2.2.2.1=true):lM x=([],false,false,false):=by unfold lM;rw[aU aM];split<;>first|rfl|rw[aQ af]
end
def hr (x:cX):Prop:=o6 x.1/\¬(lM x).1=[]/\1<=x.2.2.2.2.1/\x.2.2.2.2.1<=16/\0<=x.2.2.2.2.2.1/\x.2.2.2.2.2.1<=15/\0<=x.2.2.2.2.2.2.1/\x.2.2.2.2.2.2.1<=15/\0<=x.2.2.2.2.2.2.2/\x.2.2.2.2.2.2.2<=15
instance (x:cX):Decidable (hr x):=by unfold hr;infer_instance
def HT:cX:=([97,105,114],false,false,false,1,0,0,0)
def Cu (l:List cX) (i:Nat):List fy:=(l.take i).map (·.1)
def y5 (l:List cX) (i:Nat):Prop:=¬hr (l.getD i default)\/(l.getD i default).1∈Cu l i
instance (l:List cX) (i:Nat):Decidable (y5 l i):=by unfold y5;infer_instance
def mB (l:List cX):Int×Int:=
 if 256<l.length then (-1,2) else if l.length=0 then (-1,1) else if ¬l.getD 0 default=HT then (0,1) else
 match (List.range l.length).find? (λi=>decide (y5 l i)) with
 |some i=>(i,if hr (l.getD i default) then 10 else 1)
 |none=>(0,0)
section
variable {l:List cX}
theorem alf (h:256<l.length):mB l=(-1,2):=by unfold mB;rw[aQ h]
theorem alg (aM:¬256<l.length) (h:l.length=0):mB l=(-1,1):=by unfold mB;rw[aU aM,aQ h]
theorem alh (aM:¬256<l.length) (ad:¬l.length=0) (h:¬l.getD 0 default=HT):mB l=(0,1):=by unfold mB;rw[aU aM,aU ad,aQ h]
theorem aaj {p:Nat->Bool} {n i:Nat} (ag:i<n) (h:∀j,j<i->p j=false) (hp:p i=true):(List.range n).find? p=some i:=by
 rw[List.find?_eq_some_iff_getElem];refine⟨hp,i,by simpa using ag,by simp,λj hj=> ?_⟩;simp [h j hj]
theorem ali {i:Nat} (aM:¬256<l.length) (ad:¬l.length=0) (ha:l.getD 0 default=HT) (ag:i<l.length) (h:∀j,j<i->¬y5 l j) (ae:¬hr (l.getD i default)):mB l=((i:Int),1):=by
 unfold mB;rw[aU aM,aU ad,aU (λh=>h ha),aaj ag (λj hj=>c8 (h j hj)) (gC (.inl ae))];simp only;rw[aU ae]
theorem alj {i:Nat} (aM:¬256<l.length) (ad:¬l.length=0) (ha:l.getD 0 default=HT) (ag:i<l.length) (h:∀j,j<i->¬y5 l j) (aC:hr (l.getD i default)) (ae:(l.getD i default).1∈Cu l i):mB l=((i:Int),10):=by
 unfold mB;rw[aU aM,aU ad,aU (λh=>h ha),aaj ag (λj hj=>c8 (h j hj)) (gC (.inr ae))];simp only;rw[aQ aC]
theorem alk (aM:¬256<l.length) (ad:¬l.length=0) (ha:l.getD 0 default=HT) (h:∀j,j<l.length->¬y5 l j):mB l=(0,0):=by
 unfold mB;rw[aU aM,aU ad,aU (λh=>h ha),List.find?_eq_none.2 λj hj=>by simpa using h j (by simpa using hj)]
theorem alm {i:Nat} (aC:hr (l.getD i default)) (ae:¬(l.getD i default).1∈Cu l i):¬y5 l i:=λh=>h.elim (λh=>h aC) ae
theorem aln {i:Nat} (ag:i<l.length):Cu l (i+1)=Cu l i++[(l.getD i default).1]:=by
 unfold Cu;rw[List.take_add_one,List.map_append,fA ag,dh,fA ag];rfl
end
theorem RJ:bd Tryd.prog (underlying 120)=some (.map 9 4):=au
theorem RK:bd Tryd.prog (underlying 9)=some .string:=au
theorem alo:bd Tryd.prog (zeroValue 4)=some (.bool false):=au
theorem RL (b:Bool) (n:fy):bd Tryd.prog (Instr.checkKey b 10000 9 (cr n))=some ():=au
end AE
end Go.Proofs.YtepcfjbfkedlpaaDoor
namespace Go.Proofs.YtepcfjbfkedlpaaDoor
open Go Go.Proofs Go.Shelf Go.RowKit Go.Lib
section
def alp:Go.Shelf.Ren:=⟨λ|15=>100|20=>106|n=>n,λ|9=>9|23=>149|3=>3|4=>4|0=>0|21=>21|n=>n,λ|n=>n⟩
theorem alq:Go.Proofs.LaysGw.n15 Tryd.prog alp:={
 mixed:=by kernel_rfl
 f15:=Tryd.func100.trans (congrArg some au)
 f20:=Tryd.func106.trans (congrArg some au)
 t0:=Tryd.underlying0
 a0:=Tryd.isAgg0
 z0:=Tryd.sizeOf0
 v0:=Tryd.zeroValue0
 i0:=by kernel_rfl
 t3:=Tryd.underlying3
 a3:=Tryd.isAgg3
 z3:=Tryd.sizeOf3
 v3:=Tryd.zeroValue3
 i3:=by kernel_rfl
 t4:=Tryd.underlying4
 a4:=Tryd.isAgg4
 z4:=Tryd.sizeOf4
 v4:=Tryd.zeroValue4
 i4:=by kernel_rfl
 t9:=Tryd.underlying9
 a9:=Tryd.isAgg9
 z9:=Tryd.sizeOf9
 v9:=Tryd.zeroValue9
 i9:=by kernel_rfl
 t21:=Tryd.underlying21
 a21:=Tryd.isAgg21
 z21:=Tryd.sizeOf21
 v21:=Tryd.zeroValue21
 i21:=by kernel_rfl
 t23:=Tryd.underlying149
 a23:=Tryd.isAgg149
 z23:=Tryd.sizeOf149
 v23:=Tryd.zeroValue149
 i23:=by kernel_rfl}
open Go.RowKit Go.Lib in
theorem strings_IndexFunc (g:Nat) (I5:Array J) (alr:∀args w,(callFunc g args).run Tryd.prog w= .ok (.enter g args) w) (p:Nat->Bool) (s:ByteArray) (w:ax) (hp:PredAt Tryd.prog g I5 encR p w):
 Calls Tryd.prog 100 #[.string s,.func (.func g) #[] I5] w λe w'=>e= .returned (.int .i64 (Lib.idxFunc p true s))/\Below w.heap.size w w':=Any.strings_IndexFunc alq g I5 alr p s w hp
namespace AE
theorem als (r:Nat) (W:ax):Calls Tryd.prog 99 #[encR r] W λe w'=>e= .returned (.bool (Ls r))/\∃q,w'=W.drewN q:=by
 by_cases ad:97<=r<;>by_cases af:r<=122
 all_goals
  have s8:(97:Int)<=(r:Int)↔97<=r:=by omega
  have z2:(r:Int)<=122↔r<=122:=by omega
  go_enter Tryd.func99,Tryd.ntmps99
  go_wp2
  all_goals first|(exfalso;omega)|(go_ret;exact⟨by simp [Ls,ad,af],0,rfl⟩)
theorem alu (w:ax) (B off:Nat) (cC:B<w.heap.size) (aq:w.cell? ⟨B,off,none⟩=some (.func (.func 99) #[] #[])):
  PredAt Tryd.prog 101 #[.pointer (some ⟨B,off,none⟩)] encR Ct w:=λW r ae=>by
 have A8:W.cell? ⟨B,off,none⟩=some (.func (.func 99) #[] #[]):=(ae.cell (p:=⟨B,off,none⟩) cC).trans aq;have hL:=als r W;unfold FnGives;cases ad:Ls r<;>by_cases z2:(r:Int)=45
 all_goals
  have af:r=45↔(r:Int)=45:=by omega
  rw[ad] at hL
  go_enter Tryd.func101,Tryd.ntmps101
  go_wp2_with (go_at_call 99;refine hL.mono ?_;rintro e w' ⟨rfl,q,rfl⟩)
  all_goals first|(go_ret;exact⟨by simp [Ct,ad,af,z2],q,rfl⟩)|omega
theorem aak (g:FuncId) (u:J):aL (zF g u)=false:=by unfold zF;simp [aL,dP]
theorem aal [a7] {x r:J} {s:fy} (hp:aL x=true) (ao:aL r=true) (ex:aI x=cr s) (b1:aI r= .int .i64 (Lib.idxFunc Ct true ⟨s.toArray⟩)):
  Bp Tryd.prog (100,[x,zF 101 (.func (.func 99) ⟨[]⟩ ⟨[]⟩)],r):=by
 intro w _ us ha
 match us,ha with
 |[ev,fR],⟨ad,af,_⟩=>
  have e1:ev=cr s:=by
   rcases ad with ⟨_,h⟩|⟨g,u,B,off,h,_⟩
   ·rw[h,ex]
   ·rw[h,aak] at hp;cases hp
  rcases af with ⟨h,_⟩|⟨g,u,B,off,h,_,e2,cC,aq⟩
  ·rw[aak] at h;cases h
  ·unfold zF at h
   simp only [Value.func.injEq,Fn.func.injEq,Array.mk.injEq,List.cons.injEq,Value.agg.injEq,and_true,true_and] at h;obtain⟨rfl,rfl⟩:=h;subst e1 e2;refine(strings_IndexFunc 101 #[.pointer (some ⟨B,off,none⟩)] (enters_of Tryd.func101 au rfl) Ct ⟨s.toArray⟩ w (alu w B off cC aq)).mono λe w' ⟨he,ae⟩=> ?_
   exact⟨_,he,λφ=>by rw[<-b1];exact aD.vg φ r ao,⟨ae,b2 _⟩⟩
 |[],h=>exact h.elim
 |[_],h=>exact h.2.elim
 |_::_::_::_,h=>exact h.2.2.elim
end AE
end
end Go.Proofs.YtepcfjbfkedlpaaDoor
namespace Go.Proofs.YtepcfjbfkedlpaaDoor
open Go Go.Proofs Go.RowKit
namespace AE
namespace RM
noncomputable def body:Code:=(Tryd.f90.body).getD .skip
def N:Nat:=31
noncomputable abbrev bN:=gk Tryd.prog Tryd.f90
def a8:b6:={sl:=cc [(0,0)],ms:=[],A:=start}
def cj:bs:=[(.len #[9] 3 0,1),
 (.bin .gtr 3 1 (I 0),.bool true),
 (.bin .leq 3 1 (I 32),.bool true),
 (.eD 9 0 (I 0),2),
 (.bin .neq 5 2 (.int .u8 45),.bool false)]
theorem e0:bN (at' 31 cj [] body a8)=some (.bool false):=au
def cx:bs:=[(.len #[9] 3 0,1),
 (.bin .gtr 3 1 (I 0),.bool true),
 (.bin .leq 3 1 (I 32),.bool true),
 (.eD 9 0 (I 0),2),
 (.bin .neq 5 2 (.int .u8 45),.bool true),
 (.bin .sub 3 1 (I 1),3),
 (.eD 9 0 3,4),
 (.bin .neq 5 4 (.int .u8 45),.bool false)]
theorem e1:bN (at' 31 cx [] body a8)=some (.bool false):=au
def dz:bs:=[(.len #[9] 3 0,1),
 (.bin .gtr 3 1 (I 0),.bool true),
 (.bin .leq 3 1 (I 32),.bool true),
 (.eD 9 0 (I 0),2),
 (.bin .neq 5 2 (.int .u8 45),.bool true),
 (.bin .sub 3 1 (I 1),3),
 (.eD 9 0 3,4),
 (.bin .neq 5 4 (.int .u8 45),.bool true),
 (.bin .lss 3 5 (I 0),.bool true)]
def ot:ec:=[(100,[0,.func (.func 101) ⟨[]⟩ ⟨[.agg ⟨[.slice none 7 7,.func (.func 99) ⟨[]⟩ ⟨[]⟩]⟩]⟩],5)]
theorem e2:bN (at' 31 dz ot body a8)=some (.bool true):=au
def et:bs:=[(.len #[9] 3 0,1),
 (.bin .gtr 3 1 (I 0),.bool true),
 (.bin .leq 3 1 (I 32),.bool true),
 (.eD 9 0 (I 0),2),
 (.bin .neq 5 2 (.int .u8 45),.bool true),
 (.bin .sub 3 1 (I 1),3),
 (.eD 9 0 3,4),
 (.bin .neq 5 4 (.int .u8 45),.bool true),
 (.bin .lss 3 5 (I 0),.bool false)]
def sz:ec:=[(100,[0,.func (.func 101) ⟨[]⟩ ⟨[.agg ⟨[.slice none 7 7,.func (.func 99) ⟨[]⟩ ⟨[]⟩]⟩]⟩],5)]
theorem dn:bN (at' 31 et sz body a8)=some (.bool false):=au
def gf:bs:=[(.len #[9] 3 0,1),
 (.bin .gtr 3 1 (I 0),.bool true),
 (.bin .leq 3 1 (I 32),.bool false)]
theorem hU:bN (at' 31 gf [] body a8)=some (.bool false):=au
def hq:bs:=[(.len #[9] 3 0,1),
 (.bin .gtr 3 1 (I 0),.bool false)]
theorem kG:bN (at' 31 hq [] body a8)=some (.bool false):=au
@[reducible] noncomputable def bJ (s:fy):List J:=[cr s,I ((s.length:Nat):Int),.int .u8 (((s.getD 0 0).toNat:Nat):Int),I (((s.length:Nat):Int)-1),.int .u8 (((s.getD ((((s.length:Nat):Int)-1)).toNat 0).toNat:Nat):Int),I (Lib.idxFunc Ct true ⟨s.toArray⟩)]
theorem any (W:ax) (s:fy):Calls Tryd.prog 90 #[cr s] W λe w'=>e= .returned (.bool (decide (o6 s)))/\cb W.heap.size W w':=by
 refine jO (bJ s) body a8 N [al 0] Tryd.func90 λa ah=> ?_
 letI:=cg ah;by_cases aM:0<((s.length:Nat):Int)
 ·by_cases ad:((s.length:Nat):Int)<=32
  ·by_cases af:(((s.getD 0 0).toNat:Nat):Int)=45
   ·refine bK cj [] (ai (aT.zQ U U rj U U) (ai bC (ai bC (ai (aT.Bz (l:=s) (j:=0) (show 0<s.length by omega) U U U rj U U U) (ai sr aX))))) aY ?_ ah
    exact bP e0 λw2 br=>(by (rw[c8 (λh:o6 s=>by have ad:=h.1;have af:=h.2.1;have ay:=h.2.2.1;have bD:=h.2.2.2;omega)];rfl))
   ·by_cases ay:(((s.getD ((((s.length:Nat):Int)-1)).toNat 0).toNat:Nat):Int)=45
    ·refine bK cx [] (ai (aT.zQ U U rj U U) (ai bC (ai bC (ai (aT.Bz (l:=s) (j:=0) (show 0<s.length by omega) U U U rj U U U) (ai tv (ai k5 (ai (aT.Bz (l:=s) (j:=((((s.length:Nat):Int)-1)).toNat) (show ((((s.length:Nat):Int)-1)).toNat<s.length by omega) U U U rj rfl (F6 ar) rfl) (ai sr aX)))))))) aY ?_ ah
     exact bP e1 λw2 br=>(by (rw[c8 (λh:o6 s=>by have ad:=h.1;have af:=h.2.1;have ay:=h.2.2.1;have bD:=h.2.2.2;omega)];rfl))
    ·by_cases bD:(Lib.idxFunc Ct true ⟨s.toArray⟩)<0
     ·refine bK dz ot (ai (aT.zQ U U rj U U) (ai bC (ai bC (ai (aT.Bz (l:=s) (j:=0) (show 0<s.length by omega) U U U rj U U U) (ai tv (ai k5 (ai (aT.Bz (l:=s) (j:=((((s.length:Nat):Int)-1)).toNat) (show ((((s.length:Nat):Int)-1)).toNat<s.length by omega) U U U rj rfl (F6 ar) rfl) (ai tv (ai bC aX))))))))) (Oc (aal U U U U) aY) ?_ ah
      exact bP e2 λw2 br=>(by (rw[gC (show o6 s from ⟨⟨ar,ar⟩,bt,bt,bt⟩)];rfl))
     ·refine bK et sz (ai (aT.zQ U U rj U U) (ai bC (ai bC (ai (aT.Bz (l:=s) (j:=0) (show 0<s.length by omega) U U U rj U U U) (ai tv (ai k5 (ai (aT.Bz (l:=s) (j:=((((s.length:Nat):Int)-1)).toNat) (show ((((s.length:Nat):Int)-1)).toNat<s.length by omega) U U U rj rfl (F6 ar) rfl) (ai tv (ai bf aX))))))))) (Oc (aal U U U U) aY) ?_ ah
      exact bP dn λw2 br=>(by (rw[c8 (λh:o6 s=>by have ad:=h.1;have af:=h.2.1;have ay:=h.2.2.1;have bD:=h.2.2.2;omega)];rfl))
  ·refine bK gf [] (ai (aT.zQ U U rj U U) (ai bC (ai bf aX))) aY ?_ ah
   exact bP hU λw2 br=>(by (rw[c8 (λh:o6 s=>by have ad:=h.1;have af:=h.2.1;have ay:=h.2.2.1;have bD:=h.2.2.2;omega)];rfl))
 ·refine bK hq [] (ai (aT.zQ U U rj U U) (ai bf aX)) aY ?_ ah
  exact bP kG λw2 br=>(by (rw[c8 (λh:o6 s=>by have ad:=h.1;have af:=h.2.1;have ay:=h.2.2.1;have bD:=h.2.2.2;omega)];rfl))
end RM
namespace aam
noncomputable def body:Code:=(Tryd.f91.body).getD .skip
def N:Nat:=31
noncomputable abbrev bN:=gk Tryd.prog Tryd.f91
def a8:b6:={sl:=cc [(0,.agg ⟨[0,1,2,3,4,5,6,7]⟩)],ms:=[],A:=start}
def cj:bs:=[(.bF 151 1000000,.agg ⟨[cr [103,97,115],.bool false,.bool false,.bool false,cr [115,111,108,105,100],.bool true,.bool false,.bool false,cr [102,97,108,108,105,110,103],.bool true,.bool false,.bool true,cr [108,105,113,117,105,100],.bool false,.bool true,.bool false]⟩),
 (.bin .eql 4 (.bool false) 1,.bool false),
 (.bin .eql 4 (.bool true) 1,.bool true),
 (.bin .eql 4 (.bool false) 2,.bool false)]
theorem e0:bN (at' 31 cj [] body a8)=some (.agg ⟨[cr [],.bool false,.bool false,.bool false]⟩):=au
def cx:bs:=[(.bF 151 1000000,.agg ⟨[cr [103,97,115],.bool false,.bool false,.bool false,cr [115,111,108,105,100],.bool true,.bool false,.bool false,cr [102,97,108,108,105,110,103],.bool true,.bool false,.bool true,cr [108,105,113,117,105,100],.bool false,.bool true,.bool false]⟩),
 (.bin .eql 4 (.bool false) 1,.bool false),
 (.bin .eql 4 (.bool true) 1,.bool true),
 (.bin .eql 4 (.bool false) 2,.bool true),
 (.bin .eql 4 (.bool false) 3,.bool false),
 (.bin .eql 4 (.bool true) 3,.bool true)]
theorem e1:bN (at' 31 cx [] body a8)=some (.agg ⟨[cr [102,97,108,108,105,110,103],.bool true,.bool false,.bool true]⟩):=au
def dz:bs:=[(.bF 151 1000000,.agg ⟨[cr [103,97,115],.bool false,.bool false,.bool false,cr [115,111,108,105,100],.bool true,.bool false,.bool false,cr [102,97,108,108,105,110,103],.bool true,.bool false,.bool true,cr [108,105,113,117,105,100],.bool false,.bool true,.bool false]⟩),
 (.bin .eql 4 (.bool false) 1,.bool false),
 (.bin .eql 4 (.bool true) 1,.bool true),
 (.bin .eql 4 (.bool false) 2,.bool true),
 (.bin .eql 4 (.bool false) 3,.bool true)]
theorem e2:bN (at' 31 dz [] body a8)=some (.agg ⟨[cr [115,111,108,105,100],.bool true,.bool false,.bool false]⟩):=au
def et:bs:=[(.bF 151 1000000,.agg ⟨[cr [103,97,115],.bool false,.bool false,.bool false,cr [115,111,108,105,100],.bool true,.bool false,.bool false,cr [102,97,108,108,105,110,103],.bool true,.bool false,.bool true,cr [108,105,113,117,105,100],.bool false,.bool true,.bool false]⟩),
 (.bin .eql 4 (.bool false) 1,.bool true),
 (.bin .eql 4 (.bool false) 2,.bool false),
 (.bin .eql 4 (.bool true) 1,.bool false),
 (.bin .eql 4 (.bool true) 2,.bool true),
 (.bin .eql 4 (.bool false) 3,.bool false)]
theorem dn:bN (at' 31 et [] body a8)=some (.agg ⟨[cr [],.bool false,.bool false,.bool false]⟩):=au
def gf:bs:=[(.bF 151 1000000,.agg ⟨[cr [103,97,115],.bool false,.bool false,.bool false,cr [115,111,108,105,100],.bool true,.bool false,.bool false,cr [102,97,108,108,105,110,103],.bool true,.bool false,.bool true,cr [108,105,113,117,105,100],.bool false,.bool true,.bool false]⟩),
 (.bin .eql 4 (.bool false) 1,.bool true),
 (.bin .eql 4 (.bool false) 2,.bool false),
 (.bin .eql 4 (.bool true) 1,.bool false),
 (.bin .eql 4 (.bool true) 2,.bool true),
 (.bin .eql 4 (.bool false) 3,.bool true)]
theorem hU:bN (at' 31 gf [] body a8)=some (.agg ⟨[cr [108,105,113,117,105,100],.bool false,.bool true,.bool false]⟩):=au
def hq:bs:=[(.bF 151 1000000,.agg ⟨[cr [103,97,115],.bool false,.bool false,.bool false,cr [115,111,108,105,100],.bool true,.bool false,.bool false,cr [102,97,108,108,105,110,103],.bool true,.bool false,.bool true,cr [108,105,113,117,105,100],.bool false,.bool true,.bool false]⟩),
 (.bin .eql 4 (.bool false) 1,.bool true),
 (.bin .eql 4 (.bool false) 2,.bool true),
 (.bin .eql 4 (.bool false) 3,.bool false),
 (.bin .eql 4 (.bool true) 1,.bool false),
 (.bin .eql 4 (.bool true) 2,.bool false)]
theorem kG:bN (at' 31 hq [] body a8)=some (.agg ⟨[cr [],.bool false,.bool false,.bool false]⟩):=au
def l8:bs:=[(.bF 151 1000000,.agg ⟨[cr [103,97,115],.bool false,.bool false,.bool false,cr [115,111,108,105,100],.bool true,.bool false,.bool false,cr [102,97,108,108,105,110,103],.bool true,.bool false,.bool true,cr [108,105,113,117,105,100],.bool false,.bool true,.bool false]⟩),
 (.bin .eql 4 (.bool false) 1,.bool true),
 (.bin .eql 4 (.bool false) 2,.bool true),
 (.bin .eql 4 (.bool false) 3,.bool true)]
theorem jP:bN (at' 31 l8 [] body a8)=some (.agg ⟨[cr [103,97,115],.bool false,.bool false,.bool false]⟩):=au
@[reducible] noncomputable def bJ (x:cX):List J:=[cr x.1,.bool x.2.1,.bool x.2.2.1,.bool x.2.2.2.1,I x.2.2.2.2.1,I x.2.2.2.2.2.1,I x.2.2.2.2.2.2.1,I x.2.2.2.2.2.2.2]
theorem any (W:ax) (x:cX) (bS:mn (aF W)):Calls Tryd.prog 91 #[M.val x] W λe w'=>e= .returned (K.val (lM x))/\cb W.heap.size W w':=by
 refine jO (bJ x) body a8 N [.agg ⟨[al 0,al 1,al 2,al 3,al 4,al 5,al 6,al 7]⟩] Tryd.func91 λa ah=> ?_
 letI:=cg ah;by_cases aM:x.2.1=true
 ·by_cases ad:x.2.2.1=true
  ·refine bK cj [] (ai (BC bS (o:=0) (n:=16) U U au au U U U U) (ai (yw U U U U cz aM) (ai (DQ U U U U U aM) (ai (yw U U U U cz ad) aX)))) aY ?_ ah
   exact bP e0 λw2 br=>(by (rw[ale bt bt];rfl))
  ·by_cases af:x.2.2.2.1=true
   ·refine bK cx [] (ai (BC bS (o:=0) (n:=16) U U au au U U U U) (ai (yw U U U U cz aM) (ai (DQ U U U U U aM) (ai (vz U U U U cz ad) (ai (yw U U U U cz af) (ai (DQ U U U U U af) aX)))))) aY ?_ ah
    exact bP e1 λw2 br=>(by (rw[alc bt bt bt];rfl))
   ·refine bK dz [] (ai (BC bS (o:=0) (n:=16) U U au au U U U U) (ai (yw U U U U cz aM) (ai (DQ U U U U U aM) (ai (vz U U U U cz ad) (ai (vz U U U U cz af) aX))))) aY ?_ ah
    exact bP e2 λw2 br=>(by (rw[alb bt bt bt];rfl))
 ·by_cases ad:x.2.2.1=true
  ·by_cases af:x.2.2.2.1=true
   ·refine bK et [] (ai (BC bS (o:=0) (n:=16) U U au au U U U U) (ai (vz U U U U cz aM) (ai (yw U U U U cz ad) (ai (JZ U U U U U aM) (ai (DQ U U U U U ad) (ai (yw U U U U cz af) aX)))))) aY ?_ ah
    exact bP dn λw2 br=>(by (rw[aai bt bt];rfl))
   ·refine bK gf [] (ai (BC bS (o:=0) (n:=16) U U au au U U U U) (ai (vz U U U U cz aM) (ai (yw U U U U cz ad) (ai (JZ U U U U U aM) (ai (DQ U U U U U ad) (ai (vz U U U U cz af) aX)))))) aY ?_ ah
    exact bP hU λw2 br=>(by (rw[ald bt bt bt];rfl))
  ·by_cases af:x.2.2.2.1=true
   ·refine bK hq [] (ai (BC bS (o:=0) (n:=16) U U au au U U U U) (ai (vz U U U U cz aM) (ai (vz U U U U cz ad) (ai (yw U U U U cz af) (ai (JZ U U U U U aM) (ai (JZ U U U U U ad) aX)))))) aY ?_ ah
    exact bP kG λw2 br=>(by (rw[aai bt bt];rfl))
   ·refine bK l8 [] (ai (BC bS (o:=0) (n:=16) U U au au U U U U) (ai (vz U U U U cz aM) (ai (vz U U U U cz ad) (ai (vz U U U U cz af) aX)))) aY ?_ ah
    exact bP jP λw2 br=>(by (rw[ala bt bt bt];rfl))
end aam
end AE
namespace AE
variable [a7]
theorem k7 {x:J} {s:fy} (hp:dP [x]=true) (bp:ew [x]=[cr s]) (h:o6 s):jA Tryd.prog (90,[x],.bool true):=
 mo (a:= #[cr s]) hp rfl bp rfl λw _=>(RM.any w s).mono λe w' fm=>by rw[gC h] at fm;exact fm
theorem Cv {x:J} {s:fy} (hp:dP [x]=true) (bp:ew [x]=[cr s]) (h:¬o6 s):jA Tryd.prog (90,[x],.bool false):=
 mo (a:= #[cr s]) hp rfl bp rfl λw _=>(RM.any w s).mono λe w' fm=>by rw[c8 h] at fm;exact fm
theorem k8 {x r:J} {m:cX} (hp:dP [x]=true) (ao:aL r=true) (bp:ew [x]=[M.val m]) (b1:aI r=K.val (lM m)) (bS:mn a7.df):jA Tryd.prog (91,[x],r):=
 mo (a:= #[M.val m]) hp ao bp b1 λw hw=>aam.any w m (bS.mono hw)
end AE
namespace AE
namespace RN
noncomputable def body:Code:=(Tryd.f70.body).getD .skip
def N:Nat:=30
noncomputable abbrev bN:=gk Tryd.prog Tryd.f70
def a8:b6:={sl:=cc [(0,.agg ⟨[0,1,2,3,4,5,6,7]⟩)],ms:=[],A:=start}
def cj:bs:=[(.bin .lss 3 5 (I 0),.bool true),
 (.bin .neq 9 8 (cr []),.bool false)]
def l9:ec:=[(90,[0],.bool true),
 (91,[.agg ⟨[al 0,al 1,al 2,al 3,al 4,al 5,al 6,al 7]⟩],.agg ⟨[al 8,al 9,al 10,al 11]⟩)]
theorem e0:bN (at' 30 cj l9 body a8)=some (.bool false):=au
def cx:bs:=[(.bin .lss 3 5 (I 0),.bool true),
 (.bin .neq 9 8 (cr []),.bool true),
 (.bin .geq 3 4 (I 1),.bool true),
 (.bin .leq 3 4 (I 16),.bool true)]
def jQ:ec:=[(90,[0],.bool true),
 (91,[.agg ⟨[al 0,al 1,al 2,al 3,al 4,al 5,al 6,al 7]⟩],.agg ⟨[al 8,al 9,al 10,al 11]⟩)]
theorem e1:bN (at' 30 cx jQ body a8)=some (.bool false):=au
def dz:bs:=[(.bin .lss 3 5 (I 0),.bool true),
 (.bin .neq 9 8 (cr []),.bool true),
 (.bin .geq 3 4 (I 1),.bool true),
 (.bin .leq 3 4 (I 16),.bool false)]
def ot:ec:=[(90,[0],.bool true),
 (91,[.agg ⟨[al 0,al 1,al 2,al 3,al 4,al 5,al 6,al 7]⟩],.agg ⟨[al 8,al 9,al 10,al 11]⟩)]
theorem e2:bN (at' 30 dz ot body a8)=some (.bool false):=au
def et:bs:=[(.bin .lss 3 5 (I 0),.bool true),
 (.bin .neq 9 8 (cr []),.bool true),
 (.bin .geq 3 4 (I 1),.bool false)]
def sz:ec:=[(90,[0],.bool true),
 (91,[.agg ⟨[al 0,al 1,al 2,al 3,al 4,al 5,al 6,al 7]⟩],.agg ⟨[al 8,al 9,al 10,al 11]⟩)]
theorem dn:bN (at' 30 et sz body a8)=some (.bool false):=au
def gf:bs:=[(.bin .lss 3 5 (I 0),.bool true)]
def wj:ec:=[(90,[0],.bool false)]
theorem hU:bN (at' 30 gf wj body a8)=some (.bool false):=au
def hq:bs:=[(.bin .lss 3 5 (I 0),.bool false),
 (.bin .gtr 3 5 (I 15),.bool true),
 (.bin .neq 9 8 (cr []),.bool false)]
def HQ:ec:=[(90,[0],.bool true),
 (91,[.agg ⟨[al 0,al 1,al 2,al 3,al 4,al 5,al 6,al 7]⟩],.agg ⟨[al 8,al 9,al 10,al 11]⟩)]
theorem kG:bN (at' 30 hq HQ body a8)=some (.bool false):=au
def l8:bs:=[(.bin .lss 3 5 (I 0),.bool false),
 (.bin .gtr 3 5 (I 15),.bool true),
 (.bin .neq 9 8 (cr []),.bool true),
 (.bin .geq 3 4 (I 1),.bool true),
 (.bin .leq 3 4 (I 16),.bool true)]
def y4:ec:=[(90,[0],.bool true),
 (91,[.agg ⟨[al 0,al 1,al 2,al 3,al 4,al 5,al 6,al 7]⟩],.agg ⟨[al 8,al 9,al 10,al 11]⟩)]
theorem jP:bN (at' 30 l8 y4 body a8)=some (.bool false):=au
def nX:bs:=[(.bin .lss 3 5 (I 0),.bool false),
 (.bin .gtr 3 5 (I 15),.bool true),
 (.bin .neq 9 8 (cr []),.bool true),
 (.bin .geq 3 4 (I 1),.bool true),
 (.bin .leq 3 4 (I 16),.bool false)]
def HR:ec:=[(90,[0],.bool true),
 (91,[.agg ⟨[al 0,al 1,al 2,al 3,al 4,al 5,al 6,al 7]⟩],.agg ⟨[al 8,al 9,al 10,al 11]⟩)]
theorem lh:bN (at' 30 nX HR body a8)=some (.bool false):=au
def rD:bs:=[(.bin .lss 3 5 (I 0),.bool false),
 (.bin .gtr 3 5 (I 15),.bool true),
 (.bin .neq 9 8 (cr []),.bool true),
 (.bin .geq 3 4 (I 1),.bool false)]
def AH:ec:=[(90,[0],.bool true),
 (91,[.agg ⟨[al 0,al 1,al 2,al 3,al 4,al 5,al 6,al 7]⟩],.agg ⟨[al 8,al 9,al 10,al 11]⟩)]
theorem mi:bN (at' 30 rD AH body a8)=some (.bool false):=au
def wh:bs:=[(.bin .lss 3 5 (I 0),.bool false),
 (.bin .gtr 3 5 (I 15),.bool true)]
def HS:ec:=[(90,[0],.bool false)]
theorem p4:bN (at' 30 wh HS body a8)=some (.bool false):=au
def wi:bs:=[(.bin .lss 3 5 (I 0),.bool false),
 (.bin .gtr 3 5 (I 15),.bool false),
 (.bin .lss 3 6 (I 0),.bool true),
 (.bin .neq 9 8 (cr []),.bool false)]
def aan:ec:=[(90,[0],.bool true),
 (91,[.agg ⟨[al 0,al 1,al 2,al 3,al 4,al 5,al 6,al 7]⟩],.agg ⟨[al 8,al 9,al 10,al 11]⟩)]
theorem rE:bN (at' 30 wi aan body a8)=some (.bool false):=au
def y1:bs:=[(.bin .lss 3 5 (I 0),.bool false),
 (.bin .gtr 3 5 (I 15),.bool false),
 (.bin .lss 3 6 (I 0),.bool true),
 (.bin .neq 9 8 (cr []),.bool true),
 (.bin .geq 3 4 (I 1),.bool true),
 (.bin .leq 3 4 (I 16),.bool true)]
def aao:ec:=[(90,[0],.bool true),
 (91,[.agg ⟨[al 0,al 1,al 2,al 3,al 4,al 5,al 6,al 7]⟩],.agg ⟨[al 8,al 9,al 10,al 11]⟩)]
theorem qg:bN (at' 30 y1 aao body a8)=some (.bool false):=au
def y2:bs:=[(.bin .lss 3 5 (I 0),.bool false),
 (.bin .gtr 3 5 (I 15),.bool false),
 (.bin .lss 3 6 (I 0),.bool true),
 (.bin .neq 9 8 (cr []),.bool true),
 (.bin .geq 3 4 (I 1),.bool true),
 (.bin .leq 3 4 (I 16),.bool false)]
def aap:ec:=[(90,[0],.bool true),
 (91,[.agg ⟨[al 0,al 1,al 2,al 3,al 4,al 5,al 6,al 7]⟩],.agg ⟨[al 8,al 9,al 10,al 11]⟩)]
theorem o4:bN (at' 30 y2 aap body a8)=some (.bool false):=au
def AD:bs:=[(.bin .lss 3 5 (I 0),.bool false),
 (.bin .gtr 3 5 (I 15),.bool false),
 (.bin .lss 3 6 (I 0),.bool true),
 (.bin .neq 9 8 (cr []),.bool true),
 (.bin .geq 3 4 (I 1),.bool false)]
def aaq:ec:=[(90,[0],.bool true),
 (91,[.agg ⟨[al 0,al 1,al 2,al 3,al 4,al 5,al 6,al 7]⟩],.agg ⟨[al 8,al 9,al 10,al 11]⟩)]
theorem tD:bN (at' 30 AD aaq body a8)=some (.bool false):=au
def HU:bs:=[(.bin .lss 3 5 (I 0),.bool false),
 (.bin .gtr 3 5 (I 15),.bool false),
 (.bin .lss 3 6 (I 0),.bool true)]
def aar:ec:=[(90,[0],.bool false)]
theorem HL:bN (at' 30 HU aar body a8)=some (.bool false):=au
def HV:bs:=[(.bin .lss 3 5 (I 0),.bool false),
 (.bin .gtr 3 5 (I 15),.bool false),
 (.bin .lss 3 6 (I 0),.bool false),
 (.bin .gtr 3 6 (I 15),.bool true),
 (.bin .neq 9 8 (cr []),.bool false)]
def HW:ec:=[(90,[0],.bool true),
 (91,[.agg ⟨[al 0,al 1,al 2,al 3,al 4,al 5,al 6,al 7]⟩],.agg ⟨[al 8,al 9,al 10,al 11]⟩)]
theorem HM:bN (at' 30 HV HW body a8)=some (.bool false):=au
def aas:bs:=[(.bin .lss 3 5 (I 0),.bool false),
 (.bin .gtr 3 5 (I 15),.bool false),
 (.bin .lss 3 6 (I 0),.bool false),
 (.bin .gtr 3 6 (I 15),.bool true),
 (.bin .neq 9 8 (cr []),.bool true),
 (.bin .geq 3 4 (I 1),.bool true),
 (.bin .leq 3 4 (I 16),.bool true)]
def aat:ec:=[(90,[0],.bool true),
 (91,[.agg ⟨[al 0,al 1,al 2,al 3,al 4,al 5,al 6,al 7]⟩],.agg ⟨[al 8,al 9,al 10,al 11]⟩)]
theorem Cr:bN (at' 30 aas aat body a8)=some (.bool false):=au
def aau:bs:=[(.bin .lss 3 5 (I 0),.bool false),
 (.bin .gtr 3 5 (I 15),.bool false),
 (.bin .lss 3 6 (I 0),.bool false),
 (.bin .gtr 3 6 (I 15),.bool true),
 (.bin .neq 9 8 (cr []),.bool true),
 (.bin .geq 3 4 (I 1),.bool true),
 (.bin .leq 3 4 (I 16),.bool false)]
def aav:ec:=[(90,[0],.bool true),
 (91,[.agg ⟨[al 0,al 1,al 2,al 3,al 4,al 5,al 6,al 7]⟩],.agg ⟨[al 8,al 9,al 10,al 11]⟩)]
theorem HX:bN (at' 30 aau aav body a8)=some (.bool false):=au
def aaw:bs:=[(.bin .lss 3 5 (I 0),.bool false),
 (.bin .gtr 3 5 (I 15),.bool false),
 (.bin .lss 3 6 (I 0),.bool false),
 (.bin .gtr 3 6 (I 15),.bool true),
 (.bin .neq 9 8 (cr []),.bool true),
 (.bin .geq 3 4 (I 1),.bool false)]
def aax:ec:=[(90,[0],.bool true),
 (91,[.agg ⟨[al 0,al 1,al 2,al 3,al 4,al 5,al 6,al 7]⟩],.agg ⟨[al 8,al 9,al 10,al 11]⟩)]
theorem tE:bN (at' 30 aaw aax body a8)=some (.bool false):=au
def aay:bs:=[(.bin .lss 3 5 (I 0),.bool false),
 (.bin .gtr 3 5 (I 15),.bool false),
 (.bin .lss 3 6 (I 0),.bool false),
 (.bin .gtr 3 6 (I 15),.bool true)]
def aaz:ec:=[(90,[0],.bool false)]
theorem Cw:bN (at' 30 aay aaz body a8)=some (.bool false):=au
def aaA:bs:=[(.bin .lss 3 5 (I 0),.bool false),
 (.bin .gtr 3 5 (I 15),.bool false),
 (.bin .lss 3 6 (I 0),.bool false),
 (.bin .gtr 3 6 (I 15),.bool false),
 (.bin .lss 3 7 (I 0),.bool true),
 (.bin .neq 9 8 (cr []),.bool false)]
def aaB:ec:=[(90,[0],.bool true),
 (91,[.agg ⟨[al 0,al 1,al 2,al 3,al 4,al 5,al 6,al 7]⟩],.agg ⟨[al 8,al 9,al 10,al 11]⟩)]
theorem HY:bN (at' 30 aaA aaB body a8)=some (.bool false):=au
def aaC:bs:=[(.bin .lss 3 5 (I 0),.bool false),
 (.bin .gtr 3 5 (I 15),.bool false),
 (.bin .lss 3 6 (I 0),.bool false),
 (.bin .gtr 3 6 (I 15),.bool false),
 (.bin .lss 3 7 (I 0),.bool true),
 (.bin .neq 9 8 (cr []),.bool true),
 (.bin .geq 3 4 (I 1),.bool true),
 (.bin .leq 3 4 (I 16),.bool true)]
def aaD:ec:=[(90,[0],.bool true),
 (91,[.agg ⟨[al 0,al 1,al 2,al 3,al 4,al 5,al 6,al 7]⟩],.agg ⟨[al 8,al 9,al 10,al 11]⟩)]
theorem wc:bN (at' 30 aaC aaD body a8)=some (.bool false):=au
def aaE:bs:=[(.bin .lss 3 5 (I 0),.bool false),
 (.bin .gtr 3 5 (I 15),.bool false),
 (.bin .lss 3 6 (I 0),.bool false),
 (.bin .gtr 3 6 (I 15),.bool false),
 (.bin .lss 3 7 (I 0),.bool true),
 (.bin .neq 9 8 (cr []),.bool true),
 (.bin .geq 3 4 (I 1),.bool true),
 (.bin .leq 3 4 (I 16),.bool false)]
def aaF:ec:=[(90,[0],.bool true),
 (91,[.agg ⟨[al 0,al 1,al 2,al 3,al 4,al 5,al 6,al 7]⟩],.agg ⟨[al 8,al 9,al 10,al 11]⟩)]
theorem Rw:bN (at' 30 aaE aaF body a8)=some (.bool false):=au
def aaG:bs:=[(.bin .lss 3 5 (I 0),.bool false),
 (.bin .gtr 3 5 (I 15),.bool false),
 (.bin .lss 3 6 (I 0),.bool false),
 (.bin .gtr 3 6 (I 15),.bool false),
 (.bin .lss 3 7 (I 0),.bool true),
 (.bin .neq 9 8 (cr []),.bool true),
 (.bin .geq 3 4 (I 1),.bool false)]
def aaH:ec:=[(90,[0],.bool true),
 (91,[.agg ⟨[al 0,al 1,al 2,al 3,al 4,al 5,al 6,al 7]⟩],.agg ⟨[al 8,al 9,al 10,al 11]⟩)]
theorem RO:bN (at' 30 aaG aaH body a8)=some (.bool false):=au
def aaI:bs:=[(.bin .lss 3 5 (I 0),.bool false),
 (.bin .gtr 3 5 (I 15),.bool false),
 (.bin .lss 3 6 (I 0),.bool false),
 (.bin .gtr 3 6 (I 15),.bool false),
 (.bin .lss 3 7 (I 0),.bool true)]
def aaJ:ec:=[(90,[0],.bool false)]
theorem RP:bN (at' 30 aaI aaJ body a8)=some (.bool false):=au
def aaK:bs:=[(.bin .lss 3 5 (I 0),.bool false),
 (.bin .gtr 3 5 (I 15),.bool false),
 (.bin .lss 3 6 (I 0),.bool false),
 (.bin .gtr 3 6 (I 15),.bool false),
 (.bin .lss 3 7 (I 0),.bool false),
 (.bin .gtr 3 7 (I 15),.bool true),
 (.bin .neq 9 8 (cr []),.bool false)]
def aaL:ec:=[(90,[0],.bool true),
 (91,[.agg ⟨[al 0,al 1,al 2,al 3,al 4,al 5,al 6,al 7]⟩],.agg ⟨[al 8,al 9,al 10,al 11]⟩)]
theorem RQ:bN (at' 30 aaK aaL body a8)=some (.bool false):=au
def aaM:bs:=[(.bin .lss 3 5 (I 0),.bool false),
 (.bin .gtr 3 5 (I 15),.bool false),
 (.bin .lss 3 6 (I 0),.bool false),
 (.bin .gtr 3 6 (I 15),.bool false),
 (.bin .lss 3 7 (I 0),.bool false),
 (.bin .gtr 3 7 (I 15),.bool true),
 (.bin .neq 9 8 (cr []),.bool true),
 (.bin .geq 3 4 (I 1),.bool true),
 (.bin .leq 3 4 (I 16),.bool true)]
def aaN:ec:=[(90,[0],.bool true),
 (91,[.agg ⟨[al 0,al 1,al 2,al 3,al 4,al 5,al 6,al 7]⟩],.agg ⟨[al 8,al 9,al 10,al 11]⟩)]
theorem Cn:bN (at' 30 aaM aaN body a8)=some (.bool false):=au
def aaO:bs:=[(.bin .lss 3 5 (I 0),.bool false),
 (.bin .gtr 3 5 (I 15),.bool false),
 (.bin .lss 3 6 (I 0),.bool false),
 (.bin .gtr 3 6 (I 15),.bool false),
 (.bin .lss 3 7 (I 0),.bool false),
 (.bin .gtr 3 7 (I 15),.bool true),
 (.bin .neq 9 8 (cr []),.bool true),
 (.bin .geq 3 4 (I 1),.bool true),
 (.bin .leq 3 4 (I 16),.bool false)]
def aaP:ec:=[(90,[0],.bool true),
 (91,[.agg ⟨[al 0,al 1,al 2,al 3,al 4,al 5,al 6,al 7]⟩],.agg ⟨[al 8,al 9,al 10,al 11]⟩)]
theorem Co:bN (at' 30 aaO aaP body a8)=some (.bool false):=au
def aaQ:bs:=[(.bin .lss 3 5 (I 0),.bool false),
 (.bin .gtr 3 5 (I 15),.bool false),
 (.bin .lss 3 6 (I 0),.bool false),
 (.bin .gtr 3 6 (I 15),.bool false),
 (.bin .lss 3 7 (I 0),.bool false),
 (.bin .gtr 3 7 (I 15),.bool true),
 (.bin .neq 9 8 (cr []),.bool true),
 (.bin .geq 3 4 (I 1),.bool false)]
def aaR:ec:=[(90,[0],.bool true),
 (91,[.agg ⟨[al 0,al 1,al 2,al 3,al 4,al 5,al 6,al 7]⟩],.agg ⟨[al 8,al 9,al 10,al 11]⟩)]
theorem RR:bN (at' 30 aaQ aaR body a8)=some (.bool false):=au
def aaS:bs:=[(.bin .lss 3 5 (I 0),.bool false),
 (.bin .gtr 3 5 (I 15),.bool false),
 (.bin .lss 3 6 (I 0),.bool false),
 (.bin .gtr 3 6 (I 15),.bool false),
 (.bin .lss 3 7 (I 0),.bool false),
 (.bin .gtr 3 7 (I 15),.bool true)]
def aaT:ec:=[(90,[0],.bool false)]
theorem alv:bN (at' 30 aaS aaT body a8)=some (.bool false):=au
def aaU:bs:=[(.bin .lss 3 5 (I 0),.bool false),
 (.bin .gtr 3 5 (I 15),.bool false),
 (.bin .lss 3 6 (I 0),.bool false),
 (.bin .gtr 3 6 (I 15),.bool false),
 (.bin .lss 3 7 (I 0),.bool false),
 (.bin .gtr 3 7 (I 15),.bool false),
 (.bin .neq 9 8 (cr []),.bool false)]
def aaV:ec:=[(90,[0],.bool true),
 (91,[.agg ⟨[al 0,al 1,al 2,al 3,al 4,al 5,al 6,al 7]⟩],.agg ⟨[al 8,al 9,al 10,al 11]⟩)]
theorem HZ:bN (at' 30 aaU aaV body a8)=some (.bool false):=au
def aaW:bs:=[(.bin .lss 3 5 (I 0),.bool false),
 (.bin .gtr 3 5 (I 15),.bool false),
 (.bin .lss 3 6 (I 0),.bool false),
 (.bin .gtr 3 6 (I 15),.bool false),
 (.bin .lss 3 7 (I 0),.bool false),
 (.bin .gtr 3 7 (I 15),.bool false),
 (.bin .neq 9 8 (cr []),.bool true),
 (.bin .geq 3 4 (I 1),.bool true),
 (.bin .leq 3 4 (I 16),.bool true)]
def aaX:ec:=[(90,[0],.bool true),
 (91,[.agg ⟨[al 0,al 1,al 2,al 3,al 4,al 5,al 6,al 7]⟩],.agg ⟨[al 8,al 9,al 10,al 11]⟩)]
theorem H0:bN (at' 30 aaW aaX body a8)=some (.bool true):=au
def aaY:bs:=[(.bin .lss 3 5 (I 0),.bool false),
 (.bin .gtr 3 5 (I 15),.bool false),
 (.bin .lss 3 6 (I 0),.bool false),
 (.bin .gtr 3 6 (I 15),.bool false),
 (.bin .lss 3 7 (I 0),.bool false),
 (.bin .gtr 3 7 (I 15),.bool false),
 (.bin .neq 9 8 (cr []),.bool true),
 (.bin .geq 3 4 (I 1),.bool true),
 (.bin .leq 3 4 (I 16),.bool false)]
def aaZ:ec:=[(90,[0],.bool true),
 (91,[.agg ⟨[al 0,al 1,al 2,al 3,al 4,al 5,al 6,al 7]⟩],.agg ⟨[al 8,al 9,al 10,al 11]⟩)]
theorem Cp:bN (at' 30 aaY aaZ body a8)=some (.bool false):=au
def aa0:bs:=[(.bin .lss 3 5 (I 0),.bool false),
 (.bin .gtr 3 5 (I 15),.bool false),
 (.bin .lss 3 6 (I 0),.bool false),
 (.bin .gtr 3 6 (I 15),.bool false),
 (.bin .lss 3 7 (I 0),.bool false),
 (.bin .gtr 3 7 (I 15),.bool false),
 (.bin .neq 9 8 (cr []),.bool true),
 (.bin .geq 3 4 (I 1),.bool false)]
def aa1:ec:=[(90,[0],.bool true),
 (91,[.agg ⟨[al 0,al 1,al 2,al 3,al 4,al 5,al 6,al 7]⟩],.agg ⟨[al 8,al 9,al 10,al 11]⟩)]
theorem RS:bN (at' 30 aa0 aa1 body a8)=some (.bool false):=au
def aa2:bs:=[(.bin .lss 3 5 (I 0),.bool false),
 (.bin .gtr 3 5 (I 15),.bool false),
 (.bin .lss 3 6 (I 0),.bool false),
 (.bin .gtr 3 6 (I 15),.bool false),
 (.bin .lss 3 7 (I 0),.bool false),
 (.bin .gtr 3 7 (I 15),.bool false)]
def aa3:ec:=[(90,[0],.bool false)]
theorem alw:bN (at' 30 aa2 aa3 body a8)=some (.bool false):=au
@[reducible] noncomputable def bJ (x:cX):List J:=[cr x.1,.bool x.2.1,.bool x.2.2.1,.bool x.2.2.2.1,I x.2.2.2.2.1,I x.2.2.2.2.2.1,I x.2.2.2.2.2.2.1,I x.2.2.2.2.2.2.2,cr (lM x).1,.bool (lM x).2.1,.bool (lM x).2.2.1,.bool (lM x).2.2.2]
theorem any (W:ax) (x:cX) (bS:mn (aF W)):Calls Tryd.prog 70 #[M.val x] W λe w'=>e= .returned (.bool (decide (hr x)))/\cb W.heap.size W w':=by
 refine jO (bJ x) body a8 N [.agg ⟨[al 0,al 1,al 2,al 3,al 4,al 5,al 6,al 7]⟩] Tryd.func70 λa ah=> ?_
 letI:=cg ah;by_cases aM:x.2.2.2.2.2.1<0
 ·by_cases ad:o6 x.1
  ·by_cases af:(lM x).1=([]:fy)
   ·refine bK cj l9 (ai bC (ai (aT.BA U U U U af) aX)) (cL (k7 U U ad) (cL (k8 U U U U bS) aY)) ?_ ah
    exact bP e0 λw2 br=>(by (rw[c8 (λh:hr x=>absurd h.2.1 (by exact not_not_intro bt))];rfl))
   ·by_cases ay:1<=x.2.2.2.2.1
    ·by_cases bD:x.2.2.2.2.1<=16
     ·refine bK cx jQ (ai bC (ai (aT.nJ U U U U af) (ai bC (ai bC aX)))) (cL (k7 U U ad) (cL (k8 U U U U bS) aY)) ?_ ah
      exact bP e1 λw2 br=>(by (rw[c8 (λh:hr x=>by have:=h.2.2;omega)];rfl))
     ·refine bK dz ot (ai bC (ai (aT.nJ U U U U af) (ai bC (ai bf aX)))) (cL (k7 U U ad) (cL (k8 U U U U bS) aY)) ?_ ah
      exact bP e2 λw2 br=>(by (rw[c8 (λh:hr x=>by have:=h.2.2;omega)];rfl))
    ·refine bK et sz (ai bC (ai (aT.nJ U U U U af) (ai bf aX))) (cL (k7 U U ad) (cL (k8 U U U U bS) aY)) ?_ ah
     exact bP dn λw2 br=>(by (rw[c8 (λh:hr x=>by have:=h.2.2;omega)];rfl))
  ·refine bK gf wj (ai bC aX) (cL (Cv U U ad) aY) ?_ ah
   exact bP hU λw2 br=>(by (rw[c8 (λh:hr x=>absurd h.1 bt)];rfl))
 ·by_cases ad:15<x.2.2.2.2.2.1
  ·by_cases af:o6 x.1
   ·by_cases ay:(lM x).1=([]:fy)
    ·refine bK hq HQ (ai bf (ai bC (ai (aT.BA U U U U ay) aX))) (cL (k7 U U af) (cL (k8 U U U U bS) aY)) ?_ ah
     exact bP kG λw2 br=>(by (rw[c8 (λh:hr x=>absurd h.2.1 (by exact not_not_intro bt))];rfl))
    ·by_cases bD:1<=x.2.2.2.2.1
     ·by_cases cD:x.2.2.2.2.1<=16
      ·refine bK l8 y4 (ai bf (ai bC (ai (aT.nJ U U U U ay) (ai bC (ai bC aX))))) (cL (k7 U U af) (cL (k8 U U U U bS) aY)) ?_ ah
       exact bP jP λw2 br=>(by (rw[c8 (λh:hr x=>by have:=h.2.2;omega)];rfl))
      ·refine bK nX HR (ai bf (ai bC (ai (aT.nJ U U U U ay) (ai bC (ai bf aX))))) (cL (k7 U U af) (cL (k8 U U U U bS) aY)) ?_ ah
       exact bP lh λw2 br=>(by (rw[c8 (λh:hr x=>by have:=h.2.2;omega)];rfl))
     ·refine bK rD AH (ai bf (ai bC (ai (aT.nJ U U U U ay) (ai bf aX)))) (cL (k7 U U af) (cL (k8 U U U U bS) aY)) ?_ ah
      exact bP mi λw2 br=>(by (rw[c8 (λh:hr x=>by have:=h.2.2;omega)];rfl))
   ·refine bK wh HS (ai bf (ai bC aX)) (cL (Cv U U af) aY) ?_ ah
    exact bP p4 λw2 br=>(by (rw[c8 (λh:hr x=>absurd h.1 bt)];rfl))
  ·by_cases af:x.2.2.2.2.2.2.1<0
   ·by_cases ay:o6 x.1
    ·by_cases bD:(lM x).1=([]:fy)
     ·refine bK wi aan (ai bf (ai bf (ai bC (ai (aT.BA U U U U bD) aX)))) (cL (k7 U U ay) (cL (k8 U U U U bS) aY)) ?_ ah
      exact bP rE λw2 br=>(by (rw[c8 (λh:hr x=>absurd h.2.1 (by exact not_not_intro bt))];rfl))
     ·by_cases cD:1<=x.2.2.2.2.1
      ·by_cases cI:x.2.2.2.2.1<=16
       ·refine bK y1 aao (ai bf (ai bf (ai bC (ai (aT.nJ U U U U bD) (ai bC (ai bC aX)))))) (cL (k7 U U ay) (cL (k8 U U U U bS) aY)) ?_ ah
        exact bP qg λw2 br=>(by (rw[c8 (λh:hr x=>by have:=h.2.2;omega)];rfl))
       ·refine bK y2 aap (ai bf (ai bf (ai bC (ai (aT.nJ U U U U bD) (ai bC (ai bf aX)))))) (cL (k7 U U ay) (cL (k8 U U U U bS) aY)) ?_ ah
        exact bP o4 λw2 br=>(by (rw[c8 (λh:hr x=>by have:=h.2.2;omega)];rfl))
      ·refine bK AD aaq (ai bf (ai bf (ai bC (ai (aT.nJ U U U U bD) (ai bf aX))))) (cL (k7 U U ay) (cL (k8 U U U U bS) aY)) ?_ ah
       exact bP tD λw2 br=>(by (rw[c8 (λh:hr x=>by have:=h.2.2;omega)];rfl))
    ·refine bK HU aar (ai bf (ai bf (ai bC aX))) (cL (Cv U U ay) aY) ?_ ah
     exact bP HL λw2 br=>(by (rw[c8 (λh:hr x=>absurd h.1 bt)];rfl))
   ·by_cases ay:15<x.2.2.2.2.2.2.1
    ·by_cases bD:o6 x.1
     ·by_cases cD:(lM x).1=([]:fy)
      ·refine bK HV HW (ai bf (ai bf (ai bf (ai bC (ai (aT.BA U U U U cD) aX))))) (cL (k7 U U bD) (cL (k8 U U U U bS) aY)) ?_ ah
       exact bP HM λw2 br=>(by (rw[c8 (λh:hr x=>absurd h.2.1 (by exact not_not_intro bt))];rfl))
      ·by_cases cI:1<=x.2.2.2.2.1
       ·by_cases fK:x.2.2.2.2.1<=16
        ·refine bK aas aat (ai bf (ai bf (ai bf (ai bC (ai (aT.nJ U U U U cD) (ai bC (ai bC aX))))))) (cL (k7 U U bD) (cL (k8 U U U U bS) aY)) ?_ ah
         exact bP Cr λw2 br=>(by (rw[c8 (λh:hr x=>by have:=h.2.2;omega)];rfl))
        ·refine bK aau aav (ai bf (ai bf (ai bf (ai bC (ai (aT.nJ U U U U cD) (ai bC (ai bf aX))))))) (cL (k7 U U bD) (cL (k8 U U U U bS) aY)) ?_ ah
         exact bP HX λw2 br=>(by (rw[c8 (λh:hr x=>by have:=h.2.2;omega)];rfl))
       ·refine bK aaw aax (ai bf (ai bf (ai bf (ai bC (ai (aT.nJ U U U U cD) (ai bf aX)))))) (cL (k7 U U bD) (cL (k8 U U U U bS) aY)) ?_ ah
        exact bP tE λw2 br=>(by (rw[c8 (λh:hr x=>by have:=h.2.2;omega)];rfl))
     ·refine bK aay aaz (ai bf (ai bf (ai bf (ai bC aX)))) (cL (Cv U U bD) aY) ?_ ah
      exact bP Cw λw2 br=>(by (rw[c8 (λh:hr x=>absurd h.1 bt)];rfl))
    ·by_cases bD:x.2.2.2.2.2.2.2<0
     ·by_cases cD:o6 x.1
      ·by_cases cI:(lM x).1=([]:fy)
       ·refine bK aaA aaB (ai bf (ai bf (ai bf (ai bf (ai bC (ai (aT.BA U U U U cI) aX)))))) (cL (k7 U U cD) (cL (k8 U U U U bS) aY)) ?_ ah
        exact bP HY λw2 br=>(by (rw[c8 (λh:hr x=>absurd h.2.1 (by exact not_not_intro bt))];rfl))
       ·by_cases fK:1<=x.2.2.2.2.1
        ·by_cases o8:x.2.2.2.2.1<=16
         ·refine bK aaC aaD (ai bf (ai bf (ai bf (ai bf (ai bC (ai (aT.nJ U U U U cI) (ai bC (ai bC aX)))))))) (cL (k7 U U cD) (cL (k8 U U U U bS) aY)) ?_ ah
          exact bP wc λw2 br=>(by (rw[c8 (λh:hr x=>by have:=h.2.2;omega)];rfl))
         ·refine bK aaE aaF (ai bf (ai bf (ai bf (ai bf (ai bC (ai (aT.nJ U U U U cI) (ai bC (ai bf aX)))))))) (cL (k7 U U cD) (cL (k8 U U U U bS) aY)) ?_ ah
          exact bP Rw λw2 br=>(by (rw[c8 (λh:hr x=>by have:=h.2.2;omega)];rfl))
        ·refine bK aaG aaH (ai bf (ai bf (ai bf (ai bf (ai bC (ai (aT.nJ U U U U cI) (ai bf aX))))))) (cL (k7 U U cD) (cL (k8 U U U U bS) aY)) ?_ ah
         exact bP RO λw2 br=>(by (rw[c8 (λh:hr x=>by have:=h.2.2;omega)];rfl))
      ·refine bK aaI aaJ (ai bf (ai bf (ai bf (ai bf (ai bC aX))))) (cL (Cv U U cD) aY) ?_ ah
       exact bP RP λw2 br=>(by (rw[c8 (λh:hr x=>absurd h.1 bt)];rfl))
     ·by_cases cD:15<x.2.2.2.2.2.2.2
      ·by_cases cI:o6 x.1
       ·by_cases fK:(lM x).1=([]:fy)
        ·refine bK aaK aaL (ai bf (ai bf (ai bf (ai bf (ai bf (ai bC (ai (aT.BA U U U U fK) aX))))))) (cL (k7 U U cI) (cL (k8 U U U U bS) aY)) ?_ ah
         exact bP RQ λw2 br=>(by (rw[c8 (λh:hr x=>absurd h.2.1 (by exact not_not_intro bt))];rfl))
        ·by_cases o8:1<=x.2.2.2.2.1
         ·by_cases xQ:x.2.2.2.2.1<=16
          ·refine bK aaM aaN (ai bf (ai bf (ai bf (ai bf (ai bf (ai bC (ai (aT.nJ U U U U fK) (ai bC (ai bC aX))))))))) (cL (k7 U U cI) (cL (k8 U U U U bS) aY)) ?_ ah
           exact bP Cn λw2 br=>(by (rw[c8 (λh:hr x=>by have:=h.2.2;omega)];rfl))
          ·refine bK aaO aaP (ai bf (ai bf (ai bf (ai bf (ai bf (ai bC (ai (aT.nJ U U U U fK) (ai bC (ai bf aX))))))))) (cL (k7 U U cI) (cL (k8 U U U U bS) aY)) ?_ ah
           exact bP Co λw2 br=>(by (rw[c8 (λh:hr x=>by have:=h.2.2;omega)];rfl))
         ·refine bK aaQ aaR (ai bf (ai bf (ai bf (ai bf (ai bf (ai bC (ai (aT.nJ U U U U fK) (ai bf aX)))))))) (cL (k7 U U cI) (cL (k8 U U U U bS) aY)) ?_ ah
          exact bP RR λw2 br=>(by (rw[c8 (λh:hr x=>by have:=h.2.2;omega)];rfl))
       ·refine bK aaS aaT (ai bf (ai bf (ai bf (ai bf (ai bf (ai bC aX)))))) (cL (Cv U U cI) aY) ?_ ah
        exact bP alv λw2 br=>(by (rw[c8 (λh:hr x=>absurd h.1 bt)];rfl))
      ·by_cases cI:o6 x.1
       ·by_cases fK:(lM x).1=([]:fy)
        ·refine bK aaU aaV (ai bf (ai bf (ai bf (ai bf (ai bf (ai bf (ai (aT.BA U U U U fK) aX))))))) (cL (k7 U U cI) (cL (k8 U U U U bS) aY)) ?_ ah
         exact bP HZ λw2 br=>(by (rw[c8 (λh:hr x=>absurd h.2.1 (by exact not_not_intro bt))];rfl))
        ·by_cases o8:1<=x.2.2.2.2.1
         ·by_cases xQ:x.2.2.2.2.1<=16
          ·refine bK aaW aaX (ai bf (ai bf (ai bf (ai bf (ai bf (ai bf (ai (aT.nJ U U U U fK) (ai bC (ai bC aX))))))))) (cL (k7 U U cI) (cL (k8 U U U U bS) aY)) ?_ ah
           exact bP H0 λw2 br=>(by (rw[gC (show hr x from ⟨bt,bt,ar,ar,ar,ar,ar,ar,ar,ar⟩)];rfl))
          ·refine bK aaY aaZ (ai bf (ai bf (ai bf (ai bf (ai bf (ai bf (ai (aT.nJ U U U U fK) (ai bC (ai bf aX))))))))) (cL (k7 U U cI) (cL (k8 U U U U bS) aY)) ?_ ah
           exact bP Cp λw2 br=>(by (rw[c8 (λh:hr x=>by have:=h.2.2;omega)];rfl))
         ·refine bK aa0 aa1 (ai bf (ai bf (ai bf (ai bf (ai bf (ai bf (ai (aT.nJ U U U U fK) (ai bf aX)))))))) (cL (k7 U U cI) (cL (k8 U U U U bS) aY)) ?_ ah
          exact bP RS λw2 br=>(by (rw[c8 (λh:hr x=>by have:=h.2.2;omega)];rfl))
       ·refine bK aa2 aa3 (ai bf (ai bf (ai bf (ai bf (ai bf (ai bf aX)))))) (cL (Cv U U cI) aY) ?_ ah
        exact bP alw λw2 br=>(by (rw[c8 (λh:hr x=>absurd h.1 bt)];rfl))
end RN
end AE
namespace AE
variable [a7]
theorem aa4 {x:J} {m:cX} (hp:dP [x]=true) (bp:ew [x]=[M.val m]) (bS:mn a7.df) (h:hr m):jA Tryd.prog (70,[x],.bool true):=
 mo (a:= #[M.val m]) hp rfl bp rfl λw hw=>(RN.any w m (bS.mono hw)).mono λe w' fm=>by rw[gC h] at fm;exact fm
theorem alx {x:J} {m:cX} (hp:dP [x]=true) (bp:ew [x]=[M.val m]) (bS:mn a7.df) (h:¬hr m):jA Tryd.prog (70,[x],.bool false):=
 mo (a:= #[M.val m]) hp rfl bp rfl λw hw=>(RN.any w m (bS.mono hw)).mono λe w' fm=>by rw[c8 h] at fm;exact fm
end AE
namespace AE
namespace aa5
noncomputable def body:Code:=(Tryd.f49.body).getD .skip
def N:Nat:=42
noncomputable abbrev bN:=gk Tryd.prog Tryd.f49
def a8:b6:={sl:=cc [(0,0)],ms:=[],A:=start}
def cj:bs:=[(.ez (.bool true),.bool true),
 (.len #[29] 3 0,1),
 (.bin .gtr 3 1 (I 256),.bool true)]
theorem e0:bN (at' 42 cj [] body a8)=some (.tuple ⟨[I (-1),I 2]⟩):=au
def cx:bs:=[(.ez (.bool true),.bool true),
 (.len #[29] 3 0,1),
 (.bin .gtr 3 1 (I 256),.bool false),
 (.bin .eql 3 1 (I 0),.bool true)]
theorem e1:bN (at' 42 cx [] body a8)=some (.tuple ⟨[I (-1),I 1]⟩):=au
def dz:bs:=[(.ez (.bool true),.bool true),
 (.len #[29] 3 0,1),
 (.bin .gtr 3 1 (I 256),.bool false),
 (.bin .eql 3 1 (I 0),.bool false),
 (.dC 29 0 (I 0),2),
 (.bF 70 2,.agg ⟨[3,4,5,6,7,8,9,10]⟩),
 (.bin .neq 70 (.agg ⟨[3,4,5,6,7,8,9,10]⟩) (.agg ⟨[cr [97,105,114],.bool false,.bool false,.bool false,I 1,I 0,I 0,I 0]⟩),.bool false)]
theorem e2:DT (at' 42 dz [] body a8)=some 120:=au
abbrev hO:=at' 42 dz [] body a8
def eM:List bw:=[]
def eB:aG:=cc [(3,I 0),(2,I 0),(0,0)]
def eS:aG:=fk 42 eB 21 11
theorem dn:cq (b4 hO) eB eM=some [(0,0)]:=au
def e3:eh:=(body,[1,1,0],1)
def et:bs:=[(.ez (.bool true),.bool true),
 (.len #[29] 3 0,1)]
def eI:List bw:=[]
def eJ:aG:=cc [(24,12),(23,1),(22,0),(4,11)]
abbrev hy:=c1 42 et [] e3 {sl:=eS,ms:=[],A:=dd eM}
theorem mi:pS eJ eI hy=some [(1,1),(11,11),(I 0,12),(0,0)]:=au
def eW:Code:=s9 body [1,1,1,0,1,4]
def h5:List fc:=oh body [1,1,1,0,1,4] []
theorem p4:pe hy=eW:=au
theorem rE:f_ hy=h5:=au
def gf:bs:=[(.ez (.bool true),.bool true),
 (.bin .lss 3 12 1,.bool true),
 (.dC 29 0 12,13),
 (.bF 70 13,.agg ⟨[14,15,16,17,18,19,20,21]⟩),
 (.kX 120 11 14 false,.bool true)]
def wj:ec:=[(70,[.agg ⟨[14,15,16,17,18,19,20,21]⟩],.bool true)]
def hq:bs:=[(.ez (.bool true),.bool true)]
theorem qg:bN (ny 42 hq [] h5 (at' 42 gf wj eW (b7 eJ eI)))=some (.tuple ⟨[12,I 10]⟩):=au
def l8:bs:=[(.ez (.bool true),.bool true),
 (.bin .lss 3 12 1,.bool true),
 (.dC 29 0 12,13),
 (.bF 70 13,.agg ⟨[14,15,16,17,18,19,20,21]⟩),
 (.kX 120 11 14 false,.bool false)]
def y4:ec:=[(70,[.agg ⟨[14,15,16,17,18,19,20,21]⟩],.bool true)]
theorem o4:DU (at' 42 l8 y4 eW (b7 eJ eI))=some (120,11,14,.bool true):=au
abbrev ng:=at' 42 l8 y4 eW (b7 eJ eI)
def j':List bw:=[]
def jr:aG:=cc [(24,12),(23,1),(22,0),(4,11)]
def hN:aG:=match gX 42 jr none (.tuple ⟨[]⟩) with|some s=>s|none=> .nil
theorem tD:cq (b4 ng) jr j'=some [(1,1),(11,11),(12,12),(0,0)]:=au
def ki:eh:=(eW,[1,1,0,4,1,1,1],4)
def nX:bs:=[(.ez (.bool true),.bool true),
 (.bin .add 3 12 (I 1),22)]
theorem tE:qx eJ eI (c1 42 nX [] ki (b7 hN j'))=some [(1,1),(11,11),(22,12),(0,0)]:=au
def rD:bs:=[(.ez (.bool true),.bool true),
 (.bin .lss 3 12 1,.bool true),
 (.dC 29 0 12,13),
 (.bF 70 13,.agg ⟨[14,15,16,17,18,19,20,21]⟩)]
def AH:ec:=[(70,[.agg ⟨[14,15,16,17,18,19,20,21]⟩],.bool false)]
theorem Cw:bN (ny 42 hq [] h5 (at' 42 rD AH eW (b7 eJ eI)))=some (.tuple ⟨[12,I 1]⟩):=au
def wh:bs:=[(.ez (.bool true),.bool true),
 (.bin .lss 3 12 1,.bool false)]
theorem HY:bN (ny 42 hq [] h5 (at' 42 wh [] eW (b7 eJ eI)))=some (.tuple ⟨[I 0,I 0]⟩):=au
def wi:bs:=[(.ez (.bool true),.bool true),
 (.len #[29] 3 0,1),
 (.bin .gtr 3 1 (I 256),.bool false),
 (.bin .eql 3 1 (I 0),.bool false),
 (.dC 29 0 (I 0),2),
 (.bF 70 2,.agg ⟨[3,4,5,6,7,8,9,10]⟩),
 (.bin .neq 70 (.agg ⟨[3,4,5,6,7,8,9,10]⟩) (.agg ⟨[cr [97,105,114],.bool false,.bool false,.bool false,I 1,I 0,I 0,I 0]⟩),.bool true)]
theorem wc:bN (at' 42 wi [] body a8)=some (.tuple ⟨[I 0,I 1]⟩):=au
@[reducible] noncomputable def bJ (l:List cX) (dI:c6) (dO:Nat) (i:Nat:=0) (e4:Nat:=0):List J:=[bA dI l dO,I ((l.length:Nat):Int),hW (bA dI l dO) (0*8),cr (l.e5 (0)).1,.bool (l.e5 (0)).2.1,.bool (l.e5 (0)).2.2.1,.bool (l.e5 (0)).2.2.2.1,I (l.e5 (0)).2.2.2.2.1,I (l.e5 (0)).2.2.2.2.2.1,I (l.e5 (0)).2.2.2.2.2.2.1,I (l.e5 (0)).2.2.2.2.2.2.2,.map (some e4),I ((i:Nat):Int),hW (bA dI l dO) (i*8),cr (l.e5 (i)).1,.bool (l.e5 (i)).2.1,.bool (l.e5 (i)).2.2.1,.bool (l.e5 (i)).2.2.2.1,I (l.e5 (i)).2.2.2.2.1,I (l.e5 (i)).2.2.2.2.2.1,I (l.e5 (i)).2.2.2.2.2.2.1,I (l.e5 (i)).2.2.2.2.2.2.2,I ((i+1:Nat):Int)]
theorem any (W:ax) {hX:J} {l:List cX} (hl:cu (aF W) 8 jf hX l) (bS:mn (aF W)):Calls Tryd.prog 49 #[hX] W λe w'=>e= .returned (.tuple #[I (mB l).1,I (mB l).2])/\cb W.heap.size W w':=by
 obtain⟨dI,dO,rfl⟩:=hl.slice;refine jO (bJ l dI dO) body a8 N [al 0] Tryd.func49 λa ah=> ?_
 letI:=cg ah;by_cases aM:256<((l.length:Nat):Int)
 ·refine bK cj [] (ai (aT.ez U U) (ai (eT hl lF) (ai bC aX))) aY ?_ ah
  exact bP e0 λw2 br=>(by refine congrArg Ending.returned ?_;(rw[alf ar];rfl))
 ·by_cases ad:((l.length:Nat):Int)=0
  ·refine bK cx [] (ai (aT.ez U U) (ai (eT hl lF) (ai bf (ai bC aX)))) aY ?_ ah
   exact bP e1 λw2 br=>(by refine congrArg Ending.returned ?_;(rw[alg ar ar];rfl))
  ·by_cases af:(l.e5 (0))=((([97,105,114]:fy),false,false,false,1,0,0,0):cX)
   ·refine bK dz [] (ai (aT.ez U U) (ai (eT hl lF) (ai bf (ai bf (ai (Am hl (show 0<l.length by omega) lF qz) (ai (aT.r5 hl (nb 0) U U BB qz U U U) (ai (Wt U U U U (by rw[gC af];rfl)) aX))))))) aY ?_ ah
    obtain⟨cB,e7⟩:=iT ([]);refine agw (bh:=λhP=>(bJ l dI dO 0 hP)) e7 e2 dn (eP eS 11) rfl (λ_ hP=>gb) (λ_ _=>rfl) ?_;intro j9 e4 nW lo dN w ah;have uR:=lo.up (λi h=>by cases h) (b2 _) (λ_ _ h=>h);letI:=cg ah;refine ep (er e3) et [] (ai (aT.ez U U) (ai (eT (hl.mono uR) lF) aX)) aY ?_ ah;refine ta (f':=(λ(⟨M,b,i⟩:Mem×List fy×Nat)=>aS M (bJ l dI dO i e4))) (λ(⟨M,b,i⟩:Mem×List fy×Nat)=>uz W.heap.size M (.map (some e4)) b/\(∀i o,aF W i=some o->M i=some o)/\b=Cu l i/\i<=l.length/\∀j,j<i->¬y5 l j) (λ(⟨M,b,i⟩:Mem×List fy×Nat)=>l.length-i) ⟨j9,cB,0⟩ mi gb (λ_ _ h=>h) (by exact⟨nW,uR,e7,Nat.zero_le _,λj h=>absurd h (Nat.not_lt_zero _)⟩) ?_;intro⟨M,b,i⟩ bg dN w ah;letI:=cg ah;refine s' p4 rE ?_;have cn:=bg.1;have bn:=bg.2.1;by_cases kf:((i:Nat):Int)<((l.length:Nat):Int)
    ·by_cases q1:hr (l.e5 (i))
     ·by_cases aE:(l.e5 (i)).1∈b
      ·refine bK gf wj (ai (aT.ez U U) (ai bC (ai (p_ (hl.mono bn) lF qz) (ai (aT.r5 (hl.mono bn) (nb i) U U BB qz U U U) (ai (aT.agu U U RJ RK RL cn U U aE) aX))))) (cL (aa4 U U (by exact bS.mono bt) q1) aY) ?_ ah
       refine nV hq [] (ai (aT.ez U U) aX) aY ?_;exact bP qg λw2 br=>(by refine congrArg Ending.returned ?_;(rw[alj (i:=i) ar ar bt ar bg.2.2.2.2 bt (by rw[<-bg.2.2.1];assumption)];rfl))
      ·refine bK l8 y4 (ai (aT.ez U U) (ai bC (ai (p_ (hl.mono bn) lF qz) (ai (aT.r5 (hl.mono bn) (nb i) U U BB qz U U U) (ai (aT.agv U U RJ RK alo RL cn U U aE) aX))))) (cL (aa4 U U (by exact bS.mono bt) q1) aY) ?_ ah
       obtain⟨j3,lS⟩:=iT (b++[(l.e5 (i)).1]);refine agx (u:= .map (some e4)) (n:=(l.e5 (i)).1) (ns:=b) (ns':=j3) (bh:=(bJ l dI dO i e4)) lS o4 RJ RK RL tD (eP hN (.tuple ⟨[]⟩)) U U U U cn bt (λ_=>gb) ?_;intro pv Ge rB dN w ah;have aly:=rB.up (λi h=>(cn.known i h).2) (b2 _) bn;letI:=cg ah;refine ep (er ki) nX [] (ai (aT.ez U U) (ai k5 aX)) aY ?_ ah;exact tu ⟨pv,j3,i+1⟩ tE gb (by exact⟨Ge,aly,by rw[lS,bg.2.2.1,aln ar],ar,λj hj=>by rcases Nat.lt_succ_iff_lt_or_eq.1 hj with h|rfl;exact bg.2.2.2.2 j h;exact alm bt (by rw[<-bg.2.2.1];assumption)⟩)
     ·refine bK rD AH (ai (aT.ez U U) (ai bC (ai (p_ (hl.mono bn) lF qz) (ai (aT.r5 (hl.mono bn) (nb i) U U BB qz U U U) aX)))) (cL (alx U U (by exact bS.mono bt) q1) aY) ?_ ah
      refine nV hq [] (ai (aT.ez U U) aX) aY ?_;exact bP Cw λw2 br=>(by refine congrArg Ending.returned ?_;(rw[ali (i:=i) ar ar bt ar bg.2.2.2.2 bt];rfl))
    ·refine bK wh [] (ai (aT.ez U U) (ai bf aX)) aY ?_ ah
     refine nV hq [] (ai (aT.ez U U) aX) aY ?_;exact bP HY λw2 br=>(by refine congrArg Ending.returned ?_;(rw[alk ar ar bt (λj hj=>bg.2.2.2.2 j ar)];rfl))
   ·refine bK wi [] (ai (aT.ez U U) (ai (eT hl lF) (ai bf (ai bf (ai (Am hl (show 0<l.length by omega) lF qz) (ai (aT.r5 hl (nb 0) U U BB qz U U U) (ai (Wt U U U U (by rw[c8 af];rfl)) aX))))))) aY ?_ ah
    exact bP wc λw2 br=>(by refine congrArg Ending.returned ?_;(rw[alh ar ar bt];rfl))
end aa5
end AE
namespace AE
section
variable [a7]
theorem H2 {x r:J} {u:J} {l:List cX} (hp:dP [x]=true) (ao:aL r=true) (bp:ew [x]=[u]) (b1:aI r= .tuple #[.int .i64 (mB l).1,.int .i64 (mB l).2]) (hl:cu a7.df 8 jf u l) (bS:mn a7.df):jA Tryd.prog (49,[x],r):=
 mo (a:= #[u]) hp ao bp b1 λw hw=>aa5.any w (hl.mono hw) (bS.mono hw)
theorem RT {x r:J} {b:bQ} {cells:List Int} {a:Option Addr} {n c:Nat} (hp:dP [x]=true) (ao:aL r=true) (bp:ew [x]=[l_ b (.slice a n c)]) (b1:aI r= .bool true) (hl:cu a7.df 1 ga (.slice a n c) cells) (av:cells.length<=10000000) (h9:n=cells.length) (h:wg b cells):jA Tryd.prog (50,[x],r):=
 mo (a:= #[l_ b (.slice a n c)]) hp ao bp b1 λw hw=>(RH.any w (hl.mono hw) av h9).mono λe w' he=>by rw[gC h] at he;exact he
theorem alz {x r:J} {b:bQ} {cells:List Int} {a:Option Addr} {n c:Nat} (hp:dP [x]=true) (ao:aL r=true) (bp:ew [x]=[l_ b (.slice a n c)]) (b1:aI r= .bool false) (hl:cu a7.df 1 ga (.slice a n c) cells) (av:cells.length<=10000000) (h9:n=cells.length) (h:¬wg b cells):jA Tryd.prog (50,[x],r):=
 mo (a:= #[l_ b (.slice a n c)]) hp ao bp b1 λw hw=>(RH.any w (hl.mono hw) av h9).mono λe w' he=>by rw[c8 h] at he;exact he
end
def Lt (b:bQ) (cells:List Int) (table:List cX) (known:List Bool):Prop:=(mB table).2=0/\wg b cells/\(known.length=0\/known.length=cells.length)
instance (b:bQ) (cells:List Int) (table:List cX) (known:List Bool):Decidable (Lt b cells table known):=by unfold Lt;infer_instance
def y6 (b:bQ) (cells:List Int) (table:List cX) (known:List Bool):Int:=if Lt b cells table known then 0 else 1
theorem aa6 {b:bQ} {cells:List Int} {table:List cX} {known:List Bool} (aM:(mB table).2=0) (ad:wg b cells) (af:known.length=0\/known.length=cells.length):y6 b cells table known=0:=aQ ⟨aM,ad,af⟩
theorem RU {b:bQ} {cells:List Int} {table:List cX} {known:List Bool} (h:(mB table).2=0->wg b cells->¬(known.length=0\/known.length=cells.length)):y6 b cells table known=1:=aU λq=>h q.1 q.2.1 q.2.2
end AE
namespace AE
namespace aa7
noncomputable def body:Code:=(Tryd.f30.body).getD .skip
def N:Nat:=34
noncomputable abbrev bN:=gk Tryd.prog Tryd.f30
def a8:b6:={sl:=cc [(2,1),(1,0),(0,.agg ⟨[2,3,4,5,6,7,8]⟩)],ms:=[],A:=start}
def cj:bs:=[(.bin .neq 35 10 (I 0),.bool false),
 (.len #[30] 3 1,11),
 (.bin .neq 3 11 (I 0),.bool false)]
def l9:ec:=[(49,[0],.tuple ⟨[9,10]⟩),
 (50,[.agg ⟨[al 2,al 3,al 4,al 5,al 6,al 7,al 8]⟩],.bool true)]
theorem e0:bN (at' 34 cj l9 body a8)=some (I 0):=au
def cx:bs:=[(.bin .neq 35 10 (I 0),.bool false),
 (.len #[30] 3 1,11),
 (.bin .neq 3 11 (I 0),.bool true),
 (.len #[26] 3 8,12),
 (.bin .neq 3 11 12,.bool false)]
def jQ:ec:=[(49,[0],.tuple ⟨[9,10]⟩),
 (50,[.agg ⟨[al 2,al 3,al 4,al 5,al 6,al 7,al 8]⟩],.bool true)]
theorem e1:bN (at' 34 cx jQ body a8)=some (I 0):=au
def dz:bs:=[(.bin .neq 35 10 (I 0),.bool false),
 (.len #[30] 3 1,11),
 (.bin .neq 3 11 (I 0),.bool true),
 (.len #[26] 3 8,12),
 (.bin .neq 3 11 12,.bool true)]
def ot:ec:=[(49,[0],.tuple ⟨[9,10]⟩),
 (50,[.agg ⟨[al 2,al 3,al 4,al 5,al 6,al 7,al 8]⟩],.bool true)]
theorem e2:bN (at' 34 dz ot body a8)=some (I 1):=au
def et:bs:=[(.bin .neq 35 10 (I 0),.bool false)]
def sz:ec:=[(49,[0],.tuple ⟨[9,10]⟩),
 (50,[.agg ⟨[al 2,al 3,al 4,al 5,al 6,al 7,al 8]⟩],.bool false)]
theorem dn:bN (at' 34 et sz body a8)=some (I 1):=au
def gf:bs:=[(.bin .neq 35 10 (I 0),.bool true)]
def wj:ec:=[(49,[0],.tuple ⟨[9,10]⟩)]
theorem hU:bN (at' 34 gf wj body a8)=some (I 1):=au
@[reducible] noncomputable def bJ (cells:List Int) (c9:c6) (cS c_:Nat) (table:List cX) (kk:c6) (kl:Nat) (known:List Bool) (ix:c6) (iy:Nat) (b:bQ):List J:=[bA kk table kl,bA ix known iy,I b.1,I b.2.1,I b.2.2.1,I b.2.2.2.1,I b.2.2.2.2.1,I b.2.2.2.2.2,.slice c9 cS c_,I (mB table).1,I (mB table).2,I ((known.length:Nat):Int),I ((cells.length:Nat):Int)]
theorem any (W:ax) {b:bQ} {c9:c6} {cS c_:Nat} {cells:List Int} (hJ:cu (aF W) 1 ga (.slice c9 cS c_) cells) {ox:J} {table:List cX} (aK:cu (aF W) 8 jf ox table) {oy:J} {known:List Bool} (hd:cu (aF W) 1 iQ oy known) (bS:mn (aF W)) (av:cells.length<=10000000) (h9:cS=cells.length):Calls Tryd.prog 30 #[.agg ⟨[I b.1,I b.2.1,I b.2.2.1,I b.2.2.2.1,I b.2.2.2.2.1,I b.2.2.2.2.2,.slice c9 cS c_]⟩,ox,oy] W λe w'=>e= .returned (I (y6 b cells table known))/\cb W.heap.size W w':=by
 obtain⟨kk,kl,rfl⟩:=aK.slice;obtain⟨ix,iy,rfl⟩:=hd.slice;refine jO (bJ cells c9 cS c_ table kk kl known ix iy b) body a8 N [.agg ⟨[al 2,al 3,al 4,al 5,al 6,al 7,al 8]⟩,al 0,al 1] Tryd.func30 λa ah=> ?_
 letI:=cg ah;have aN:=bH.qA W;by_cases aM:(mB table).2=0
 ·by_cases ad:wg b cells
  ·by_cases af:((known.length:Nat):Int)=0
   ·refine bK cj l9 (ai sr (ai (eT (hd.mono aN.ext) nv) (ai sr aX))) (cL (H2 U U U U (aK.mono aN.ext) bS) (cL (RT U U U U hJ av h9 ad) aY)) ?_ ah
    exact bP e0 λw2 br=>(by (rw[aa6 bt bt ar];rfl))
   ·by_cases ay:((known.length:Nat):Int)=((cells.length:Nat):Int)
    ·refine bK cx jQ (ai sr (ai (eT (hd.mono aN.ext) nv) (ai tv (ai (eT (hJ.mono aN.ext) iK) (ai sr aX))))) (cL (H2 U U U U (aK.mono aN.ext) bS) (cL (RT U U U U hJ av h9 ad) aY)) ?_ ah
     exact bP e1 λw2 br=>(by (rw[aa6 bt bt ar];rfl))
    ·refine bK dz ot (ai sr (ai (eT (hd.mono aN.ext) nv) (ai tv (ai (eT (hJ.mono aN.ext) iK) (ai tv aX))))) (cL (H2 U U U U (aK.mono aN.ext) bS) (cL (RT U U U U hJ av h9 ad) aY)) ?_ ah
     exact bP e2 λw2 br=>(by (rw[RU (λq1 aE=>by omega)];rfl))
  ·refine bK et sz (ai sr aX) (cL (H2 U U U U (aK.mono aN.ext) bS) (cL (alz U U U U hJ av h9 ad) aY)) ?_ ah
   exact bP dn λw2 br=>(by (rw[RU (λq1 aE=>by exact absurd aE bt)];rfl))
 ·refine bK gf wj (ai tv aX) (cL (H2 U U U U (aK.mono aN.ext) bS) aY) ?_ ah
  exact bP hU λw2 br=>(by (rw[RU (λq1 aE=>by omega)];rfl))
end aa7
end AE
namespace AE
namespace aa8
noncomputable def body:Code:=(Tryd.f57.body).getD .skip
def N:Nat:=13
def a8:b6:={sl:=cc [(1,1),(0,0)],ms:=[],A:=start}
def cj:bs:=[(.dQ 0,0),
 (.cG 78 0 0,0),
 (.bF 26 0,2)]
theorem e0:qy 26 (at' 13 cj [] body a8)=some (2,1):=au
abbrev hO:=at' 13 cj [] body a8
def eM:List bw:=[]
def eB:aG:=cc [(4,0)]
def eS:aG:=fk 13 eB 10 26
theorem e1:cq (b4 hO) eB eM=some [(0,0)]:=au
def e3:eh:=(body,[],7)
def cx:bs:=[(.dQ 0,0),
 (.cG 78 0 0,0)]
theorem jP:oM (c1 13 cx [] e3 (b7 eS eM))=some (26,0,26):=au
abbrev ng:=c1 13 cx [] e3 {sl:=eS,ms:=[],A:=dd eM}
def j':List bw:=[]
def jr:aG:=cc []
def hN:aG:=match gX 13 jr none (.tuple ⟨[]⟩) with|some s=>s|none=> .nil
theorem lh:cq (b4 ng) jr j'=some []:=au
def ki:eh:=(body,[],10)
theorem o4:gk Tryd.prog Tryd.f57 (c1 13 [] [] ki (b7 hN j'))=some (.tuple ⟨[]⟩):=au
@[reducible] noncomputable def bJ (bu:List Nat) (jx:c6) (jy:Nat) (x:List Nat) (lq:c6) (lr fJ:Nat) (xa:Nat->J) (eu:J) (cB:List Nat:=[]) (a0:c6:=none) (dw:Nat:=0):List J:=[gT fJ 22,bA lq x lr,bA jx bu jy,xa 0,xa 1,xa 2,xa 3,xa 4,xa 5,xa 6,xa 7,xa 8,xa 9,xa 10,xa 11,xa 12,xa 13,xa 14,xa 15,xa 16,xa 17,xa 18,xa 19,xa 20,xa 21,eu,bA a0 cB dw]
theorem any (W:ax) {bu:List Nat} {jx:c6} {jy:Nat} {x:List Nat} {lq:c6} {lr fJ:Nat} {xa:Nat->J} {eu:J} (ma:cv (aF W) [yU jx bu jy,r' 1 p1 (bA lq x lr) x,ij fJ 80 [xa 0,xa 1,xa 2,xa 3,xa 4,xa 5,xa 6,xa 7,xa 8,xa 9,xa 10,xa 11,xa 12,xa 13,xa 14,xa 15,xa 16,xa 17,xa 18,xa 19,xa 20,xa 21,bA jx bu jy,eu]]) (hlen:bu.length+x.length<=500000):Calls Tryd.prog 57 #[gT fJ 22,bA lq x lr] W λe w'=>(∃y:c6×Nat,e= .returned (.tuple #[])/\c5 (aF W) [yU jx bu jy,r' 1 p1 (bA lq x lr) x,ij fJ 80 [xa 0,xa 1,xa 2,xa 3,xa 4,xa 5,xa 6,xa 7,xa 8,xa 9,xa 10,xa 11,xa 12,xa 13,xa 14,xa 15,xa 16,xa 17,xa 18,xa 19,xa 20,xa 21,bA jx bu jy,eu]] (aF w') [pV te 1 p1 (.slice y.1 (bu++x).length y.2) (bu++x),r' 1 p1 (bA lq x lr) x,ij fJ yH (List.set [xa 0,xa 1,xa 2,xa 3,xa 4,xa 5,xa 6,xa 7,xa 8,xa 9,xa 10,xa 11,xa 12,xa 13,xa 14,xa 15,xa 16,xa 17,xa 18,xa 19,xa 20,xa 21,bA jx bu jy,eu] 22 (.slice y.1 (bu++x).length y.2))])/\cb 0 W w':=by
 refine uP (bJ bu jx jy x lq lr fJ xa eu) body a8 N [al 0,al 1] Tryd.func57 λa ah=> ?_
 letI:=cg ah;have aN:=bH.start W _ ma;refine bK cj [] (ai ln (ai (jG 26 0 1) (ai (qJ 22 2 aN) aX))) aY ?_ ah;obtain⟨cB,e7⟩:=iT (bu++x);have fq:cB.length=bu.length+x.length:=by rw[e7];simp
 refine ON (l:=bu) (lx:=x) (l':=cB) (bh:=λqd qe=>(bJ bu jx jy x lq lr fJ xa eu cB qd qe)) (T:=(eL (bA jx bu jy))) e7 e0 Kv ahE ahF ahG ahH ahI cz nu ahJ e1 (eP eS 26) rfl (OP U U (aN.jq 0 rfl)) (Bw U U λw hw=>((aN.red 1 rfl).arr nu).reads nu hw) (zO (show bu.length+x.length<=1000000 by omega)) (show (bu.length+x.length)*Pp<=140737488355328 by unfold Pp;omega) (λ_ _ _=>gb) (λ_ _ _=>rfl) ?_;intro j9 a0 dw nW lo Rx dN w ah;have dA:=aN.mQ 0 rfl (J5 nW lo Rx);replace dA:=dA.yV;letI:=cg ah;refine ep (er e3) cx [] (ai ln (ai (jG 26 0 1) aX)) aY ?_ ah;refine Hr 22 [xa 0,xa 1,xa 2,xa 3,xa 4,xa 5,xa 6,xa 7,xa 8,xa 9,xa 10,xa 11,xa 12,xa 13,xa 14,xa 15,xa 16,xa 17,xa 18,xa 19,xa 20,xa 21,bA a0 cB dw,eu] (bJ bu jx jy x lq lr fJ xa eu cB a0 dw) jP lh (eP hN (.tuple ⟨[]⟩)) (dA.box 2 rfl) ?_;intro pv yA rB dN w ah;have jR:=dA.mQ 2 rfl (xb yA rB);replace jR:=jR.yV;letI:=cg ah;refine ep (er ki) [] [] aX aY ?_ ah;exact bP o4 λw2 br=>(by subst_vars;exact⟨(_,_),rfl,(jR.done br)⟩)
end aa8
end AE
namespace AE
namespace RV
noncomputable def body:Code:=(Tryd.f35.body).getD .skip
def N:Nat:=24
def a8:b6:={sl:=cc [(1,1),(0,0)],ms:=[],A:=start}
def cj:bs:=[(.dQ 0,0),
 (.cG 80 0 11,26),
 (.bF 30 26,3),
 (.dC 30 3 1,27),
 (.bF 4 27,28),
 (.un .not 28,.bool false)]
theorem e0:gk Tryd.prog Tryd.f35 (at' 24 cj [] body a8)=some (.tuple ⟨[]⟩):=au
def cx:bs:=[(.dQ 0,0),
 (.cG 80 0 11,26),
 (.bF 30 26,3),
 (.dC 30 3 1,27),
 (.bF 4 27,28),
 (.un .not 28,.bool true)]
theorem e1:oM (at' 24 cx [] body a8)=some (4,27,(.bool true)):=au
abbrev hO:=at' 24 cx [] body a8
def eM:List bw:=[]
def eB:aG:=cc [(1,1),(0,0)]
def eS:aG:=match gX 24 eB none (.tuple ⟨[]⟩) with|some s=>s|none=> .nil
theorem e2:cq (b4 hO) eB eM=some [(0,0),(1,1)]:=au
def e3:eh:=(body,[1,2,0],7)
def dz:bs:=[(.dQ 0,0),
 (.cG 80 0 10,29)]
abbrev ng:=c1 24 dz [] e3 {sl:=eS,ms:=[],A:=dd eM}
def j':List bw:=[]
def jr:aG:=cc [(20,29)]
def hN:aG:=(bR.set 30 depth jr 22).getD .nil
theorem lh:uB ng 0 22=some ([1],1,1):=au
theorem mi:cq (b4 ng) jr j'=some [(29,29)]:=au
theorem p4:bR.set 30 depth jr 22=some hN:=au
theorem rE:hf ((mq (b7 hN j') ng))=some (57,[29,30]):=au
abbrev tC:=(mq {sl:=hN,ms:=[],A:=dd j'} ng)
def nh:List bw:=[]
def ov:aG:=cc []
def iC:aG:=fk 24 ov 23 (.tuple ⟨[]⟩)
theorem tD:cq (kx Tryd.prog tC) ov nh=some []:=au
def kj:eh:=(body,[1,2,1],6)
theorem tE:gk Tryd.prog Tryd.f35 (c1 24 [] [] kj (b7 iC nh))=some (.tuple ⟨[]⟩):=au
@[reducible] noncomputable def bJ (bu:List Nat) (jx:c6) (jy:Nat) (waits:List Bool) (rF:c6) (rG rH fJ:Nat) (xa:Nat->J) (k:Nat) (g1:Nat:=0) (H3:List Nat:=[]) (nz:c6:=none) (nA:Nat:=0):List J:=[gT fJ 0,I ((k:Nat):Int),bA jx bu jy,.slice rF rG rH,xa 0,xa 1,xa 2,xa 3,xa 4,xa 5,xa 6,xa 7,xa 8,xa 9,xa 10,xa 11,xa 12,xa 13,xa 14,xa 15,xa 16,xa 17,xa 18,xa 19,xa 20,xa 21,gT fJ 23,hW (.slice rF rG rH) (k*1),.bool (waits.e5 (k)),gT fJ 22,.slice (some ⟨g1,0,none⟩) 1 1,bA nz H3 nA]
theorem any (W:ax) {bu:List Nat} {jx:c6} {jy:Nat} {waits:List Bool} {rF:c6} {rG rH fJ:Nat} {xa:Nat->J} (ma:cv (aF W) [yU jx bu jy,Ap rF rG rH waits,ij fJ 80 [xa 0,xa 1,xa 2,xa 3,xa 4,xa 5,xa 6,xa 7,xa 8,xa 9,xa 10,xa 11,xa 12,xa 13,xa 14,xa 15,xa 16,xa 17,xa 18,xa 19,xa 20,xa 21,bA jx bu jy,.slice rF rG rH]]) (k:Nat) (aj:k<waits.length) (hlen:bu.length<=400000):Calls Tryd.prog 35 #[gT fJ 0,I ((k:Nat):Int)] W λe w'=>(∃y:c6×Nat,e= .returned (.tuple #[])/\c5 (aF W) [yU jx bu jy,Ap rF rG rH waits,ij fJ 80 [xa 0,xa 1,xa 2,xa 3,xa 4,xa 5,xa 6,xa 7,xa 8,xa 9,xa 10,xa 11,xa 12,xa 13,xa 14,xa 15,xa 16,xa 17,xa 18,xa 19,xa 20,xa 21,bA jx bu jy,.slice rF rG rH]] (aF w') [pV te 1 p1 (.slice y.1 (mw bu waits k).length y.2) (mw bu waits k),h2 mv 1 iQ (.slice rF rG rH) (nw waits k),ij fJ yH (List.set [xa 0,xa 1,xa 2,xa 3,xa 4,xa 5,xa 6,xa 7,xa 8,xa 9,xa 10,xa 11,xa 12,xa 13,xa 14,xa 15,xa 16,xa 17,xa 18,xa 19,xa 20,xa 21,bA jx bu jy,.slice rF rG rH] 22 (.slice y.1 (mw bu waits k).length y.2))])/\cb 0 W w':=by
 refine uP (bJ bu jx jy waits rF rG rH fJ xa k) body a8 N [al 0,al 1] Tryd.func35 λa ah=> ?_
 letI:=cg ah;have aN:=bH.start W _ ma;by_cases aM:(waits.e5 (k))=true
 ·refine bK cj [] (ai ln (ai (jG 30 23 1) (ai (qJ 23 2 aN) (ai (p_ ((aN.arr 1 rfl).arr l4) nv Kt) (ai (tw 0 ((aN.arr 1 rfl).arr l4) (nb k) Wp) (ai (agj U U aM) aX)))))) aY ?_ ah
  exact bP e0 λw2 br=>(by (rw[XE bt,XG bt];exact⟨(_,_),rfl,((aN.pick [0,1,2] rfl).done br)⟩))
 ·refine bK cx [] (ai ln (ai (jG 30 23 1) (ai (qJ 23 2 aN) (ai (p_ ((aN.arr 1 rfl).arr l4) nv Kt) (ai (tw 0 ((aN.arr 1 rfl).arr l4) (nb k) Wp) (ai (agk U U aM) aX)))))) aY ?_ ah
  obtain⟨alA,e7⟩:=iT (waits.set k true);have fq:alA.length=waits.length:=by rw[e7];exact List.length_set
  refine ajZ 0 (bJ bu jx jy waits rF rG rH fJ xa k) e7 e1 l4 e2 (eP eS (.tuple ⟨[]⟩)) (aN.arr 1 rfl) (show k<waits.length by omega) ?_;intro j9 nW lo dN w ah;have dA:=aN.mQ 1 rfl (Gd nW lo);replace dA:=dA.yV;letI:=cg ah;refine ep (er e3) dz [] (ai ln (ai (jG 78 22 1) aX)) aY ?_ ah;refine xc (enc:=p1) (xs:=[k]) (q:=30) (bh:=λhP=>(bJ bu jx jy waits rF rG rH fJ xa k hP)) lh nu rfl cz cz U U (gv rfl) mi (λ_ _=>gb) p4 (λ_=>rfl) ?_;intro pv g1 ug sP RW rB jb;have jR:=dA.new (uC ug RW rB jb);letI:=cg ah;obtain⟨H3,alB⟩:=iT (bu++[k]);refine hH (Y:=dY) (bh:=λa6=>(bJ bu jx jy waits rF rG rH fJ xa k g1 H3 a6.1 a6.2)) jR [0,3,2] (λa6=>[Er _ _ _ a6.1 H3 a6.2,_,ij _ _ [_,_,_,_,_,_,_,_,_,_,_,_,_,_,_,_,_,_,_,_,_,_,bA a6.1 H3 a6.2,_]]) (λ_=>[]) rE tD (eP iC (.tuple ⟨[]⟩)) (fI:=λw hw cC aw=>by rw[alB];exact aa8.any (x:=[k]) (xa:=xg [xa 0,xa 1,xa 2,xa 3,xa 4,xa 5,xa 6,xa 7,xa 8,xa 9,xa 10,xa 11,xa 12,xa 13,xa 14,xa 15,xa 16,xa 17,xa 18,xa 19,xa 20,xa 21,bA jx bu jy,.slice rF rG rH] 0) (eu:=xg [xa 0,xa 1,xa 2,xa 3,xa 4,xa 5,xa 6,xa 7,xa 8,xa 9,xa 10,xa 11,xa 12,xa 13,xa 14,xa 15,xa 16,xa 17,xa 18,xa 19,xa 20,xa 21,bA jx bu jy,.slice rF rG rH] 23 0) _ aw (by simp only [List.length_cons,List.length_nil];omega)) (rest:= ?_);intro oR ⟨nz,nA⟩ lp dN w ah;replace lp:=lp.Ho;letI:=cg ah;refine ep (er kj) [] [] aX aY ?_ ah;exact bP tE λw2 br=>(by (subst_vars;rw[XF bt,XH bt];exact⟨(_,_),rfl,((lp.pick [0,1,2] rfl).done br)⟩))
end RV
end AE
namespace AE
section
variable [a7]
theorem Lu {x y z r:J} {b:bQ} {cells:List Int} {table:List cX} {known:List Bool} {a:Option Addr} {n c:Nat} {u v:J} (hp:dP [x,y,z]=true) (ao:aL r=true) (bp:ew [x,y,z]=[l_ b (.slice a n c),u,v]) (b1:aI r= .int .i64 (y6 b cells table known))
  (aq:cu a7.df 1 ga (.slice a n c) cells) (aK:cu a7.df 8 jf u table) (aj:cu a7.df 1 iQ v known) (bS:mn a7.df) (av:cells.length<=10000000) (h9:n=cells.length):jA Tryd.prog (30,[x,y,z],r):=
 mo (a:= #[l_ b (.slice a n c),u,v]) hp ao bp b1 λw hw=>aa7.any w (aq.mono hw) (aK.mono hw) (aj.mono hw) (bS.mono hw) av h9
end
theorem alC (w:ax) {lq:Option Addr} {lr:Nat} (ma:cv (aF w) [r' 1 iQ (.slice lq [true].length lr) [true]]) (n:Nat) (av:n<=100000):
  Calls Tryd.prog 34 #[.slice lq [true].length lr,.int .i64 ((n:Nat):Int)] w λe w'=>(∃y:Option Addr×Nat,e= .returned (.slice y.1 (List.replicate n true).length y.2)/\c5 (aF w) [r' 1 iQ (.slice lq [true].length lr) [true]] (aF w') [r' 1 iQ (.slice lq [true].length lr) [true],h2 mv 1 iQ (.slice y.1 (List.replicate n true).length y.2) (List.replicate n true)])/\cb 0 w w':=by
 have h:=aad.any w ma n rfl av;rw[mc];exact h
theorem aa9 (n:Nat):jw n 0=List.replicate n vI:=by
 unfold jw;rfl
theorem aa' {n k:Nat} {g:List Nat} {w:List Bool} (aj:k<n) (aA:g=List.range k) (hw:w=jw n k):mw g w k=List.range (k+1)/\nw w k=jw n (k+1):=by
 subst aA hw;have h:(jw n k).getD k default=false:=by
  unfold jw;rw[dh,List.getElem?_append_right (by simp),mc,Nat.sub_self,List.getElem?_replicate,aQ ar];rfl
 unfold mw nw;rw[h];refine⟨?_,?_⟩
 ·show List.range k++[k]=_
  rw[List.range_succ]
 ·show (jw n k).set k true=_
  unfold jw;rw[List.set_append_right _ _ (by simp),mc,Nat.sub_self];obtain⟨m,hm⟩:∃m,n-k=m+1:=⟨n-k-1,ar⟩;rw[hm,show n-(k+1)=m by omega,List.replicate_succ,List.set_cons_zero,List.replicate_succ',List.append_assoc];rfl
def wk (known:List Bool) (n:Nat):List Bool:=if known.length=0 then List.replicate n true else known
theorem alD {known:List Bool} {n:Nat} (h:known.length=0):wk known n=List.replicate n true:=aQ h
theorem alE {known:List Bool} {n:Nat} (h:known.length≠0):wk known n=known:=aU h
def pE (b:bQ) (cells:List Int) (table:List cX) (known:List Bool) (most:Int):Prop:=y6 b cells table known=0/\1<=most/\most<=65536
instance (b:bQ) (cells:List Int) (table:List cX) (known:List Bool) (most:Int):Decidable (pE b cells table known most):=by unfold pE;infer_instance
end AE
namespace AE
theorem c5.alF {M M':Mem} {L nN L':List b0} (aw:cv M L) (is:List Nat) (h3:jK L.length is=true) (hp:AE.pick L is=nN) (hl:L'.length=is.length) (t:c5 M nN M' L'):c5 M L M' (lj L is L'):=by
 have:=c5.lift (N:=[]) aw is h3 hp hl (by rw[List.append_nil];exact t)
 rwa [List.append_nil] at this
theorem aa_ (W:ax) {g:Nat} {A:de} {e:bW} (h:cv (aF W) [c7 g A e]) (aA:gd e.table e.b e.u):
  Calls Tryd.prog 36 #[ch g] W λx w'=>(∃a_:de,x= .returned (.bool (gJ e.table e.b e.u).1)/\c5 (aF W) [c7 g A e] (aF w') [c7 g a_ (xx e)])/\cb 0 W w':=by
 refine(Z4.any h.Ch aA).mono λx w' ak=> ?_
 obtain⟨⟨a_,rfl,t⟩,hl⟩:=ak;exact⟨⟨a_,rfl,t.packed⟩,hl⟩
structure tK (en e:bW) (d:Nat):Prop where
 eq:e={en with u:=nf en.table en.b d en.u}
 all:∀m,m<d->(gJ en.table en.b (nf en.table en.b m en.u)).1=true
 e5:gd e.table e.b e.u
 le:d+hn en.b e.u<=hn en.b en.u
theorem tK.zero {en:bW} (h:gd en.table en.b en.u):tK en en 0:=⟨rfl,λm hm=>absurd hm (Nat.not_lt_zero m),h,ar⟩
theorem tK.next {en e e':bW} {d:Nat} (h:tK en e d) (he:e'=xx e) (hu:(gJ e.table e.b e.u).1=true):tK en e' (d+1)/\hn en.b e'.u<hn en.b e.u:=by
 subst he;obtain⟨alG,n2⟩:=h.e5.unit hu;have hle:=h.le;have aZ:=h.eq;subst aZ;obtain⟨wJ,Q2⟩:=akz rfl h.all hu;have alH:hn en.b (gJ en.table en.b (nf en.table en.b d en.u)).2+1<=hn en.b (nf en.table en.b d en.u):=n2;have apW:d+hn en.b (nf en.table en.b d en.u)<=hn en.b en.u:=hle;have alI:d+1+hn en.b (gJ en.table en.b (nf en.table en.b d en.u)).2<=hn en.b en.u:=by omega
 exact⟨⟨congrArg (λu=>({en with u:=u}:bW)) wJ,Q2,alG,alI⟩,alH⟩
theorem tK.last {en e e':bW} {d f:Nat} (h:tK en e d) (he:e'=xx e) (hu:¬(gJ e.table e.b e.u).1=true) (aO:d<=f):h' en.table en.b f en.u=(d,e'.u)/\e'={en with u:=e'.u}:=by
 have c0:(gJ e.table e.b e.u).1=false:=by simpa using hu
 have iY:=(h.e5.done c0).1;have aZ:=h.eq;subst he aZ;have iB:=Q' d f en.u aO h.all (.inr c0);refine⟨?_,rfl⟩;rw[iB];exact congrArg (Prod.mk d) iY.symm
theorem tK.full {en e:bW} {d:Nat} (h:tK en e d):h' en.table en.b d en.u=(d,e.u)/\e={en with u:=e.u}:=by
 have aZ:=h.eq;subst aZ;exact⟨Q' d d en.u (b2 _) h.all (.inl rfl),rfl⟩
end AE
namespace AE
namespace abb
noncomputable def body:Code:=(Tryd.f12.body).getD .skip
def N:Nat:=9
def a8:b6:={sl:=cc [(0,0)],ms:=[],A:=start}
def eI:List bw:=[]
def eJ:aG:=cc [(3,1),(2,I 0),(0,0)]
abbrev hy:=at' 9 [] [] body a8
theorem e0:pS eJ eI hy=some [(0,0),(I 0,1)]:=au
def eW:Code:=s9 body [1,1,0,4]
def h5:List fc:=oh body [1,1,0,4] []
theorem e1:pe hy=eW:=au
theorem e2:f_ hy=h5:=au
theorem dn:hf (at' 9 [] [] eW (b7 eJ eI))=some (36,[0]):=au
abbrev hO:=at' 9 [] [] eW (b7 eJ eI)
def eM:List bw:=[]
def eB:aG:=cc [(3,1),(2,I 0),(0,0)]
def eS:aG:=fk 9 eB 5 2
theorem jP:cq (kx Tryd.prog hO) eB eM=some [(0,0),(1,1)]:=au
def e3:eh:=(eW,[0,0],2)
def cx:bs:=[(.ez 2,.bool true),
 (.bin .add 3 1 (I 1),3)]
theorem qg:qx eJ eI (c1 9 cx [] e3 (b7 eS eM))=some [(0,0),(3,1)]:=au
def dz:bs:=[(.ez 2,.bool false)]
theorem o4:gk Tryd.prog Tryd.f12 (ny 9 [] [] h5 (c1 9 dz [] e3 (b7 eS eM)))=some 1:=au
@[reducible] noncomputable def bJ (iP:Nat) (e:bW:=default) (d:Nat:=0):List J:=[gT iP 0,I ((d:Nat):Int),.bool (gJ e.table e.b e.u).1,I ((d+1:Nat):Int)]
theorem any (W:ax) {en:bW} {iP:Nat} {xy:de} (ma:cv (aF W) [c7 iP xy en]) (ff:gd en.table en.b en.u) (ao:en.u.reqs.length<=10000):Calls Tryd.prog 12 #[gT iP 0] W λe w'=>(∃A:de,e= .returned (I (((h' en.table en.b (hn en.b en.u) en.u).1:Nat):Int))/\c5 (aF W) [c7 iP xy en] (aF w') [c7 iP A {en with u:=(h' en.table en.b (hn en.b en.u) en.u).2}])/\cb 0 W w':=by
 refine uP (bJ iP) body a8 N [al 0] Tryd.func12 λa ah=> ?_
 letI:=cg ah;have aN:=bH.start W _ ma;have y7:=ff.ZC ao;refine bK [] [] aX aY ?_ ah;refine ta (f':=(λ(⟨M,e,A,d⟩:Mem×bW×de×Nat)=>aS M (bJ iP e d))) (λ(⟨M,e,A,d⟩:Mem×bW×de×Nat)=>bH 0 (aF W) aN.IC M [c7 iP A e]/\(tK en e d)) (λ(⟨M,e,A,d⟩:Mem×bW×de×Nat)=>hn en.b e.u) ⟨(aF W),en,xy,0⟩ e0 gb (λ_ _ h=>h) (by exact⟨(aN.pick [0] rfl),by exact tK.zero ff⟩) ?_;intro⟨M,e,A,d⟩ bg dN w ah;letI:=cg ah;refine s' e1 e2 ?_;have qP:=bg.1;have aA:=bg.2.e5;have alJ:=bg.2.le;refine bK [] [] aX aY ?_ ah;obtain⟨tL,iV⟩:=iT (xx e);refine hH (Y:=de) (bh:=λa6=>(bJ iP e d)) qP [0] (λa6=>[c7 iP (a6) tL]) (λ_=>[]) dn jP (eP eS 2) (fI:=λw hw cC aw=>by rw[iV];exact aa_ _ aw aA) (rest:= ?_);intro j9 Cx dA dN w ah;replace dA:=dA.Aq;letI:=cg ah;by_cases kf:(gJ e.table e.b e.u).1=true
 ·refine ep (er e3) cx [] (ai (DP U U kf) (ai k5 aX)) aY ?_ ah
  exact tu ⟨j9,tL,Cx,d+1⟩ qg gb (by exact⟨dA,by exact(bg.2.next iV bt).1⟩) (by exact(bg.2.next iV bt).2)
 ·refine ep (er e3) dz [] (ai (Ov U U kf) aX) aY ?_ ah
  refine nV [] [] aX aY ?_;exact bP o4 λw2 br=>(by obtain⟨q1,aE⟩:=bg.2.last (f:=hn en.b en.u) iV bt ar;rw[q1,<-aE];exact⟨_,rfl,(dA.done br)⟩)
end abb
end AE
namespace AE
namespace abd
noncomputable def body:Code:=(Tryd.f10.body).getD .skip
def N:Nat:=19
def a8:b6:={sl:=cc [(1,1),(0,0)],ms:=[],A:=start}
def eI:List bw:=[]
def eJ:aG:=cc [(6,2),(5,.func (.func 36) ⟨[0]⟩ ⟨[]⟩),(4,I 0),(1,1)]
abbrev hy:=at' 19 [] [] body a8
theorem e0:pS eJ eI hy=some [(1,1),(0,0),(I 0,2)]:=au
def eW:Code:=s9 body [1,1,0,4]
def h5:List fc:=oh body [1,1,0,4] []
theorem e1:pe hy=eW:=au
theorem e2:f_ hy=h5:=au
def cx:bs:=[(.bin .lss 3 2 1,.bool true)]
theorem dn:hf (at' 19 cx [] eW (b7 eJ eI))=some (36,[0]):=au
abbrev hO:=at' 19 cx [] eW (b7 eJ eI)
def eM:List bw:=[]
def eB:aG:=cc [(12,.bool true),(6,2),(5,.func (.func 36) ⟨[0]⟩ ⟨[]⟩),(4,I 0),(1,1)]
def eS:aG:=fk 19 eB 14 3
theorem jP:cq (kx Tryd.prog hO) eB eM=some [(1,1),(0,0),(2,2)]:=au
def e3:eh:=(eW,[0,0],6)
def dz:bs:=[(.ez 3,.bool true),
 (.bin .add 3 2 (I 1),4)]
theorem qg:qx eJ eI (c1 19 dz [] e3 (b7 eS eM))=some [(1,1),(0,0),(4,2)]:=au
def et:bs:=[(.ez 3,.bool false)]
theorem o4:gk Tryd.prog Tryd.f10 (ny 19 [] [] h5 (c1 19 et [] e3 (b7 eS eM)))=some 2:=au
def gf:bs:=[(.bin .lss 3 2 1,.bool false)]
theorem tD:gk Tryd.prog Tryd.f10 (ny 19 [] [] h5 (at' 19 gf [] eW (b7 eJ eI)))=some 2:=au
@[reducible] noncomputable def bJ (iP:Nat) (n:Int) (e:bW:=default) (d:Nat:=0):List J:=[gT iP 0,I n,I ((d:Nat):Int),.bool (gJ e.table e.b e.u).1,I ((d+1:Nat):Int)]
theorem any (W:ax) {en:bW} {iP:Nat} {xy:de} (ma:cv (aF W) [c7 iP xy en]) (n:Int) (ff:gd en.table en.b en.u) (ao:en.u.reqs.length<=10000):Calls Tryd.prog 10 #[gT iP 0,I n] W λe w'=>(∃A:de,e= .returned (I (((h' en.table en.b n.toNat en.u).1:Nat):Int))/\c5 (aF W) [c7 iP xy en] (aF w') [c7 iP A {en with u:=(h' en.table en.b n.toNat en.u).2}])/\cb 0 W w':=by
 refine uP (bJ iP n) body a8 N [al 0,al 1] Tryd.func10 λa ah=> ?_
 letI:=cg ah;have aN:=bH.start W _ ma;have y7:=ff.ZC ao;refine bK [] [] aX aY ?_ ah;refine ta (f':=(λ(⟨M,e,A,d⟩:Mem×bW×de×Nat)=>aS M (bJ iP n e d))) (λ(⟨M,e,A,d⟩:Mem×bW×de×Nat)=>bH 0 (aF W) aN.IC M [c7 iP A e]/\(tK en e d/\d<=n.toNat)) (λ(⟨M,e,A,d⟩:Mem×bW×de×Nat)=>hn en.b e.u) ⟨(aF W),en,xy,0⟩ e0 gb (λ_ _ h=>h) (by exact⟨(aN.pick [0] rfl),by exact⟨tK.zero ff,Nat.zero_le _⟩⟩) ?_;intro⟨M,e,A,d⟩ bg dN w ah;letI:=cg ah;refine s' e1 e2 ?_;have qP:=bg.1;have aA:=bg.2.1.e5;have alJ:=bg.2.1.le;have um:=bg.2.2;by_cases sK:((d:Nat):Int)<n
 ·refine bK cx [] (ai bC aX) aY ?_ ah
  obtain⟨tL,iV⟩:=iT (xx e);refine hH (Y:=de) (bh:=λa6=>(bJ iP n e d)) qP [0] (λa6=>[c7 iP (a6) tL]) (λ_=>[]) dn jP (eP eS 3) (fI:=λw hw cC aw=>by rw[iV];exact aa_ _ aw aA) (rest:= ?_);intro j9 Cx dA dN w ah;replace dA:=dA.Aq;letI:=cg ah;by_cases kf:(gJ e.table e.b e.u).1=true
  ·refine ep (er e3) dz [] (ai (DP U U kf) (ai k5 aX)) aY ?_ ah
   exact tu ⟨j9,tL,Cx,d+1⟩ qg gb (by exact⟨dA,by exact⟨(bg.2.1.next iV bt).1,ar⟩⟩) (by exact(bg.2.1.next iV bt).2)
  ·refine ep (er e3) et [] (ai (Ov U U kf) aX) aY ?_ ah
   refine nV [] [] aX aY ?_;exact bP o4 λw2 br=>(by first|(obtain⟨q1,aE⟩:=bg.2.1.full;obtain rfl:d=n.toNat:=ar;rw[q1,<-aE];exact⟨_,rfl,(dA.done br)⟩)|(obtain⟨q1,aE⟩:=bg.2.1.last (f:=n.toNat) iV bt ar;rw[q1,<-aE];exact⟨_,rfl,(dA.done br)⟩))
 ·refine bK gf [] (ai bf aX) aY ?_ ah
  refine nV [] [] aX aY ?_;exact bP tD λw2 br=>(by first|(obtain⟨q1,aE⟩:=bg.2.1.full;obtain rfl:d=n.toNat:=ar;rw[q1,<-aE];exact⟨_,rfl,((qP.pick [0] rfl).done br)⟩)|(obtain⟨q1,aE⟩:=bg.2.1.last (f:=n.toNat) iV bt ar;rw[q1,<-aE];exact⟨_,rfl,((qP.pick [0] rfl).done br)⟩))
end abd
end AE
namespace AE
namespace abe
noncomputable def body:Code:=(Tryd.f11.body).getD .skip
def N:Nat:=19
noncomputable abbrev bN:=gk Tryd.prog Tryd.f11
def a8:b6:={sl:=cc [(0,0)],ms:=[],A:=start}
def cj:bs:=[(.dQ 0,0),
 (.cG 80 0 8,25),
 (.dQ 25,25),
 (.cG 76 25 0,25),
 (.bF 74 25,2),
 (.len #[74] 3 2,26),
 (.bin .eql 3 26 (I 0),.bool true),
 (.cG 80 0 10,27),
 (.dQ 27,27),
 (.cG 78 27 0,27),
 (.bF 26 27,3),
 (.len #[26] 3 3,28),
 (.bin .eql 3 28 (I 0),.bool true),
 (.cG 80 0 7,29),
 (.dQ 29,29),
 (.cG 73 29 0,29),
 (.bF 71 29,1),
 (.len #[71] 3 1,30),
 (.bin .eql 3 30 (I 0),.bool true)]
theorem e0:bN (at' 19 cj [] body a8)=some (.bool true):=au
def cx:bs:=[(.dQ 0,0),
 (.cG 80 0 8,25),
 (.dQ 25,25),
 (.cG 76 25 0,25),
 (.bF 74 25,2),
 (.len #[74] 3 2,26),
 (.bin .eql 3 26 (I 0),.bool true),
 (.cG 80 0 10,27),
 (.dQ 27,27),
 (.cG 78 27 0,27),
 (.bF 26 27,3),
 (.len #[26] 3 3,28),
 (.bin .eql 3 28 (I 0),.bool true),
 (.cG 80 0 7,29),
 (.dQ 29,29),
 (.cG 73 29 0,29),
 (.bF 71 29,1),
 (.len #[71] 3 1,30),
 (.bin .eql 3 30 (I 0),.bool false)]
theorem e1:bN (at' 19 cx [] body a8)=some (.bool false):=au
def dz:bs:=[(.dQ 0,0),
 (.cG 80 0 8,25),
 (.dQ 25,25),
 (.cG 76 25 0,25),
 (.bF 74 25,2),
 (.len #[74] 3 2,26),
 (.bin .eql 3 26 (I 0),.bool true),
 (.cG 80 0 10,27),
 (.dQ 27,27),
 (.cG 78 27 0,27),
 (.bF 26 27,3),
 (.len #[26] 3 3,28),
 (.bin .eql 3 28 (I 0),.bool false)]
theorem e2:bN (at' 19 dz [] body a8)=some (.bool false):=au
def et:bs:=[(.dQ 0,0),
 (.cG 80 0 8,25),
 (.dQ 25,25),
 (.cG 76 25 0,25),
 (.bF 74 25,2),
 (.len #[74] 3 2,26),
 (.bin .eql 3 26 (I 0),.bool false)]
theorem dn:bN (at' 19 et [] body a8)=some (.bool false):=au
@[reducible] noncomputable def bJ (uS:List iN) (y8:c6) (y9:Nat) (bE:List az) (y':c6) (y_:Nat) (bu:List Nat) (jx:c6) (jy fJ:Nat) (xa:Nat->J) (v21:J) (v23:J):List J:=[gT fJ 0,bA y8 uS y9,bA y' bE y_,bA jx bu jy,xa 0,xa 1,xa 2,xa 3,xa 4,xa 5,xa 6,xa 7,xa 8,xa 9,xa 10,xa 11,xa 12,xa 13,xa 14,xa 15,xa 16,xa 17,xa 18,v21,v23,gT fJ 20,I ((bE.length:Nat):Int),gT fJ 22,I ((bu.length:Nat):Int),gT fJ 19,I ((uS.length:Nat):Int)]
theorem any (W:ax) {uS:List iN} {y8:c6} {y9:Nat} {bE:List az} {y':c6} {y_:Nat} {bu:List Nat} {jx:c6} {jy fJ:Nat} {xa:Nat->J} {v21:J} {v23:J} (ma:cv (aF W) [QW y8 uS y9,QV y' bE y_,yU jx bu jy,ij fJ 80 [xa 0,xa 1,xa 2,xa 3,xa 4,xa 5,xa 6,xa 7,xa 8,xa 9,xa 10,xa 11,xa 12,xa 13,xa 14,xa 15,xa 16,xa 17,xa 18,bA y8 uS y9,bA y' bE y_,v21,bA jx bu jy,v23]]):Calls Tryd.prog 11 #[gT fJ 0] W λe w'=>(∃y:Unit,e= .returned (.bool (decide (bE.length=0/\bu.length=0/\uS.length=0)))/\c5 (aF W) [QW y8 uS y9,QV y' bE y_,yU jx bu jy,ij fJ 80 [xa 0,xa 1,xa 2,xa 3,xa 4,xa 5,xa 6,xa 7,xa 8,xa 9,xa 10,xa 11,xa 12,xa 13,xa 14,xa 15,xa 16,xa 17,xa 18,bA y8 uS y9,bA y' bE y_,v21,bA jx bu jy,v23]] (aF w') [QW y8 uS y9,QV y' bE y_,yU jx bu jy,ij fJ yH [xa 0,xa 1,xa 2,xa 3,xa 4,xa 5,xa 6,xa 7,xa 8,xa 9,xa 10,xa 11,xa 12,xa 13,xa 14,xa 15,xa 16,xa 17,xa 18,bA y8 uS y9,bA y' bE y_,v21,bA jx bu jy,v23]])/\cb 0 W w':=by
 refine uP (bJ uS y8 y9 bE y' y_ bu jx jy fJ xa v21 v23) body a8 N [al 0] Tryd.func11 λa ah=> ?_
 letI:=cg ah;have aN:=bH.start W _ ma;by_cases aM:((bE.length:Nat):Int)=0
 ·by_cases ad:((bu.length:Nat):Int)=0
  ·by_cases af:((uS.length:Nat):Int)=0
   ·refine bK cj [] (ai ln (ai (jG 76 20 1) (ai ln (ai (jG 74 0 1) (ai (qJ 20 3 aN) (ai (eT ((aN.jq 1 rfl).arr KA) Kz) (ai bC (ai (jG 78 22 1) (ai ln (ai (jG 26 0 1) (ai (qJ 22 3 aN) (ai (eT ((aN.jq 2 rfl).arr nu) Kv) (ai bC (ai (jG 73 19 1) (ai ln (ai (jG 71 0 1) (ai (qJ 19 3 aN) (ai (eT ((aN.jq 0 rfl).arr XD) XC) (ai bC aX))))))))))))))))))) aY ?_ ah
    exact bP e0 λw2 br=>(by (rw[gC ar];exact⟨(),rfl,((aN.pick [0,1,2,3] rfl).done br)⟩))
   ·refine bK cx [] (ai ln (ai (jG 76 20 1) (ai ln (ai (jG 74 0 1) (ai (qJ 20 3 aN) (ai (eT ((aN.jq 1 rfl).arr KA) Kz) (ai bC (ai (jG 78 22 1) (ai ln (ai (jG 26 0 1) (ai (qJ 22 3 aN) (ai (eT ((aN.jq 2 rfl).arr nu) Kv) (ai bC (ai (jG 73 19 1) (ai ln (ai (jG 71 0 1) (ai (qJ 19 3 aN) (ai (eT ((aN.jq 0 rfl).arr XD) XC) (ai bf aX))))))))))))))))))) aY ?_ ah
    exact bP e1 λw2 br=>(by (rw[c8 ar];exact⟨(),rfl,((aN.pick [0,1,2,3] rfl).done br)⟩))
  ·refine bK dz [] (ai ln (ai (jG 76 20 1) (ai ln (ai (jG 74 0 1) (ai (qJ 20 3 aN) (ai (eT ((aN.jq 1 rfl).arr KA) Kz) (ai bC (ai (jG 78 22 1) (ai ln (ai (jG 26 0 1) (ai (qJ 22 3 aN) (ai (eT ((aN.jq 2 rfl).arr nu) Kv) (ai bf aX))))))))))))) aY ?_ ah
   exact bP e2 λw2 br=>(by (rw[c8 ar];exact⟨(),rfl,((aN.pick [0,1,2,3] rfl).done br)⟩))
 ·refine bK et [] (ai ln (ai (jG 76 20 1) (ai ln (ai (jG 74 0 1) (ai (qJ 20 3 aN) (ai (eT ((aN.jq 1 rfl).arr KA) Kz) (ai bf aX))))))) aY ?_ ah
  exact bP dn λw2 br=>(by (rw[c8 ar];exact⟨(),rfl,((aN.pick [0,1,2,3] rfl).done br)⟩))
end abe
namespace abf
noncomputable def body:Code:=(Tryd.f15.body).getD .skip
def N:Nat:=8
def a8:b6:={sl:=cc [(0,0)],ms:=[],A:=start}
def cj:bs:=[(.dQ 0,0),
 (.cG 80 0 5,25),
 (.bF 45 25,1)]
theorem e0:hf (at' 8 cj [] body a8)=some (40,[1]):=au
abbrev hO:=at' 8 cj [] body a8
def eM:List bw:=[]
def eB:aG:=cc [(2,.slice none 0 0)]
def eS:aG:=fk 8 eB 7 26
theorem dn:cq (kx Tryd.prog hO) eB eM=some []:=au
def e3:eh:=(body,[1,0],5)
theorem mi:gk Tryd.prog Tryd.f15 (c1 8 [] [] e3 (b7 eS eM))=some 26:=au
@[reducible] noncomputable def bJ (xA:c6) (xB xC fJ:Nat) (xa:Nat->J) (eu:Nat->J) (Lv:List bM:=[]) (hY:c6:=none) (hZ:Nat:=0):List J:=[gT fJ 0,.slice xA xB xC,xa 0,xa 1,xa 2,xa 3,xa 4,xa 5,xa 6,xa 7,xa 8,xa 9,xa 10,xa 11,xa 12,xa 13,xa 14,xa 15,xa 16,eu 0,eu 1,eu 2,eu 3,eu 4,eu 5,gT fJ 17,bA hY Lv hZ]
theorem any (W:ax) {aH:List bM} {xA:c6} {xB xC fJ:Nat} {xa:Nat->J} {eu:Nat->J} (ma:cv (aF W) [QU xA xB xC aH,ij fJ 80 [xa 0,xa 1,xa 2,xa 3,xa 4,xa 5,xa 6,xa 7,xa 8,xa 9,xa 10,xa 11,xa 12,xa 13,xa 14,xa 15,xa 16,.slice xA xB xC,eu 0,eu 1,eu 2,eu 3,eu 4,eu 5]]) (av:aH.length<=100000):Calls Tryd.prog 15 #[gT fJ 0] W λe w'=>(∃y:c6×Nat,e= .returned (bA y.1 aH y.2)/\c5 (aF W) [QU xA xB xC aH,ij fJ 80 [xa 0,xa 1,xa 2,xa 3,xa 4,xa 5,xa 6,xa 7,xa 8,xa 9,xa 10,xa 11,xa 12,xa 13,xa 14,xa 15,xa 16,.slice xA xB xC,eu 0,eu 1,eu 2,eu 3,eu 4,eu 5]] (aF w') ([QU xA xB xC aH,ij fJ 80 [xa 0,xa 1,xa 2,xa 3,xa 4,xa 5,xa 6,xa 7,xa 8,xa 9,xa 10,xa 11,xa 12,xa 13,xa 14,xa 15,xa 16,.slice xA xB xC,eu 0,eu 1,eu 2,eu 3,eu 4,eu 5]]++[Ao y.1 aH y.2]))/\cb 0 W w':=by
 refine uP (bJ xA xB xC fJ xa eu) body a8 N [al 0] Tryd.func15 λa ah=> ?_
 letI:=cg ah;have aN:=bH.start W _ ma;refine bK cj [] (ai ln (ai (jG 45 17 1) (ai (qJ 17 1 aN) aX))) aY ?_ ah;obtain⟨Lv,abg⟩:=iT (aH);refine hH (Y:=dY) (bh:=λa6=>(bJ xA xB xC fJ xa eu Lv a6.1 a6.2)) aN [0] (λa6=>[_]) (λa6=>[Ao a6.1 Lv a6.2]) e0 dn (eP eS 26) (fI:=λw hw cC aw=>by rw[abg];exact KC aw (Z8.any _ ((aw.arr 0 rfl).arr yG) av)) (rest:= ?_);intro j9 ⟨hY,hZ⟩ dA dN w ah;replace dA:=dA.yV;letI:=cg ah;refine ep (er e3) [] [] aX aY ?_ ah;exact bP mi λw2 br=>(by (subst abg;exact⟨(_,_),rfl,(dA.done br)⟩))
end abf
namespace abh
noncomputable def body:Code:=(Tryd.f17.body).getD .skip
def N:Nat:=8
def a8:b6:={sl:=cc [(0,0)],ms:=[],A:=start}
def cj:bs:=[(.dQ 0,0),
 (.cG 80 0 2,25),
 (.bF 30 25,1)]
theorem e0:hf (at' 8 cj [] body a8)=some (33,[1]):=au
abbrev hO:=at' 8 cj [] body a8
def eM:List bw:=[]
def eB:aG:=cc [(2,.slice none 0 0)]
def eS:aG:=fk 8 eB 7 26
theorem dn:cq (kx Tryd.prog hO) eB eM=some []:=au
def e3:eh:=(body,[1,0],5)
theorem mi:gk Tryd.prog Tryd.f17 (c1 8 [] [] e3 (b7 eS eM))=some 26:=au
@[reducible] noncomputable def bJ (ix:c6) (xD iy fJ:Nat) (xa:Nat->J) (eu:Nat->J) (Lw:List Bool:=[]) (hY:c6:=none) (hZ:Nat:=0):List J:=[gT fJ 0,.slice ix xD iy,xa 0,xa 1,xa 2,xa 3,xa 4,xa 5,xa 6,xa 7,xa 8,xa 9,xa 10,xa 11,xa 12,xa 13,eu 0,eu 1,eu 2,eu 3,eu 4,eu 5,eu 6,eu 7,eu 8,gT fJ 14,bA hY Lw hZ]
theorem any (W:ax) {known:List Bool} {ix:c6} {xD iy fJ:Nat} {xa:Nat->J} {eu:Nat->J} (ma:cv (aF W) [Ap ix xD iy known,ij fJ 80 [xa 0,xa 1,xa 2,xa 3,xa 4,xa 5,xa 6,xa 7,xa 8,xa 9,xa 10,xa 11,xa 12,xa 13,.slice ix xD iy,eu 0,eu 1,eu 2,eu 3,eu 4,eu 5,eu 6,eu 7,eu 8]]) (av:known.length<=100000):Calls Tryd.prog 17 #[gT fJ 0] W λe w'=>(∃y:c6×Nat,e= .returned (bA y.1 known y.2)/\c5 (aF W) [Ap ix xD iy known,ij fJ 80 [xa 0,xa 1,xa 2,xa 3,xa 4,xa 5,xa 6,xa 7,xa 8,xa 9,xa 10,xa 11,xa 12,xa 13,.slice ix xD iy,eu 0,eu 1,eu 2,eu 3,eu 4,eu 5,eu 6,eu 7,eu 8]] (aF w') ([Ap ix xD iy known,ij fJ 80 [xa 0,xa 1,xa 2,xa 3,xa 4,xa 5,xa 6,xa 7,xa 8,xa 9,xa 10,xa 11,xa 12,xa 13,.slice ix xD iy,eu 0,eu 1,eu 2,eu 3,eu 4,eu 5,eu 6,eu 7,eu 8]]++[tz y.1 known y.2]))/\cb 0 W w':=by
 refine uP (bJ ix xD iy fJ xa eu) body a8 N [al 0] Tryd.func17 λa ah=> ?_
 letI:=cg ah;have aN:=bH.start W _ ma;refine bK cj [] (ai ln (ai (jG 30 14 1) (ai (qJ 14 1 aN) aX))) aY ?_ ah;obtain⟨Lw,abi⟩:=iT (known);refine hH (Y:=dY) (bh:=λa6=>(bJ ix xD iy fJ xa eu Lw a6.1 a6.2)) aN [0] (λa6=>[_]) (λa6=>[tz a6.1 Lw a6.2]) e0 dn (eP eS 26) (fI:=λw hw cC aw=>by rw[abi];exact KC aw (HH.any _ ((aw.arr 0 rfl).arr l4) av)) (rest:= ?_);intro j9 ⟨hY,hZ⟩ dA dN w ah;replace dA:=dA.yV;letI:=cg ah;refine ep (er e3) [] [] aX aY ?_ ah;exact bP mi λw2 br=>(by (subst abi;exact⟨(_,_),rfl,(dA.done br)⟩))
end abh
end AE
namespace AE
theorem alK {b:bQ} {p:dW} (h:ei p b):0<(fg b).toNat:=by
 unfold ei at h;have aO:iU b:=by unfold iU;omega
 unfold fg;rw[At aO];dsimp only;have ad:0<(b.2.2.2.1-b.1)*(b.2.2.2.2.1-b.2.1):=Int.mul_pos ar ar;have af:0<(b.2.2.2.1-b.1)*(b.2.2.2.2.1-b.2.1)*(b.2.2.2.2.2-b.2.2.1):=Int.mul_pos ad ar;omega
theorem Cy {b:bQ} {p:dW} (h:ei p b):dD b p<(fg b).toNat:=by
 have:=Hs (b:=b) (k:=0) (sh:=List.replicate (fg b).toNat false) (by rw[mc];exact alK h) mc p
 rwa [mc] at this
def acc (b:bQ) (most:Int) (p:dW) (n:Nat):Prop:=ei p b/\¬most<=((n:Nat):Int)
instance (b:bQ) (most:Int) (p:dW) (n:Nat):Decidable (acc b most p n):=by unfold acc;infer_instance
def j1 (b:bQ) (most:Int) (p:dW) (reqs:List iN):Int:=if ei p b then (if most<=((reqs.length:Nat):Int) then 16 else 0) else 1
def AI (b:bQ) (most:Int) (p:dW) (reqs:List iN) (x:iN):List iN:=if acc b most p reqs.length then reqs++[x] else reqs
def AJ {α:Type} (b:bQ) (most:Int) (p:dW) (reqs:List iN) (l:List α) (v:α):List α:=if acc b most p reqs.length then l.set (dD b p) v else l
variable {α:Type} {b:bQ} {most:Int} {p:dW} {reqs:List iN} {x:iN} {l:List α} {v:α}
end AE
section
noncomputable section
namespace AE
namespace abj
def t:bL:=
.o (.bF 34 2) 3 1 [1]<|
.o (.dQ 3) 4 1 []<|
.o (.cG 80 4 0) 5 1 [0,28,7]<|
.o (.cG 28 5 1) 6 1 [6,26,1]<|
.o (.bF 26 6) 7 1 [1]<|
.o (.bF 3 1) 8 1 [1]<|
.o (.dC 26 7 0) 9 1 [0,3,1]<|
.st 3 9 8<|
.ret (.tuple ⟨[]⟩)
theorem gU:jj Tryd.prog 44 {} [0,1,2] 3=some t:=k4 au
theorem any {W:ax} {g gc dv:Nat} {A:de} {e:bW} {c:Int} (aN:cv (aF W) (ct (b5 g A e++[a1.box gc o2 [I c],a1.box dv fX [ch g]]))) (k:Nat) (aj:k<e.cells.length):
  jZ ej 44 [I (k:Nat),ch gc,ch dv] W (b5 g A e++[a1.box gc o2 [I c],a1.box dv fX [ch g]]) Unit (λ_=> .tuple #[]) λ_=>b5 g A {e with cells:=e.cells.set k c}++[a1.box gc o2 [I c],a1.box dv fX [ch g]]:=by
 refine mZ (ro:=[]) mixed gU [I (k:Nat),ch gc,ch dv] aN gB.none ?_;unfold t;refine cy ?_;refine yT (K:=mA) (l:=e.cells) (j:=k) c U U j8 rfl (λ_ _=>rfl) ?_;exact oX ⟨(),rfl,rfl⟩
end abj
namespace abk
def t:bL:=
.o (.bF 34 2) 3 1 [1]<|
.o (.dQ 3) 4 1 []<|
.o (.cG 80 4 2) 5 1 [14,30,1]<|
.o (.bF 30 5) 6 1 [1]<|
.o (.bF 4 1) 7 1 [1]<|
.o (.dC 30 6 0) 8 1 [0,4,1]<|
.st 4 8 7<|
.ret (.tuple ⟨[]⟩)
theorem gU:jj Tryd.prog 45 {} [0,1,2] 3=some t:=k4 au
theorem any {W:ax} {g gc dv:Nat} {A:de} {e:bW} {c:Bool} (aN:cv (aF W) (ct (b5 g A e++[a1.box gc mv [.bool c],a1.box dv fX [ch g]]))) (k:Nat) (aj:k<e.known.length):
  jZ ej 45 [I (k:Nat),ch gc,ch dv] W (b5 g A e++[a1.box gc mv [.bool c],a1.box dv fX [ch g]]) Unit (λ_=> .tuple #[]) λ_=>b5 g A {e with known:=e.known.set k c}++[a1.box gc mv [.bool c],a1.box dv fX [ch g]]:=by
 refine mZ (ro:=[]) mixed gU [I (k:Nat),ch gc,ch dv] aN gB.none ?_;unfold t;refine cy ?_;refine yT (K:=sw) (l:=e.known) (j:=k) c U U j8 rfl (λ_ _=>rfl) ?_;exact oX ⟨(),rfl,rfl⟩
end abk
def xE (e:bW) (p:dW) (e1:bW):bW:=if acc e.b e.most p e.u.reqs.length then {e1 with u:={e1.u with reqs:=e1.u.reqs++[(dD e.b p,e1.cells.getD (dD e.b p) default,e1.known.getD (dD e.b p) default)]}} else e
namespace H4
def t (f:FuncId):bL:=
.o (.dQ 0) 6 1 []<|
.o (.cG 80 6 0) 7 1 [0,28,7]<|
.o (.cG 28 7 0) 8 1 [0,25,6]<|
.o (.bF 25 8) (.agg ⟨kC 6 9⟩) 6 [6]<|
.c 55 [.agg ⟨[9,10,11,12,13,14]⟩,.agg ⟨[1,2,3]⟩] 15 1<|
.o (.bin .lss 3 15 (I 0)) 16 1 []<|
.eO 16 (
 .ret (I 1)) (
 .o (.dQ 0) 17 1 []<|
 .o (.cG 80 17 7) 18 1 [19,73,1]<|
 .o (.cG 73 18 0) 19 1 [0,71,1]<|
 .o (.bF 71 19) 20 1 [1]<|
 .o (.len #[71] 3 20) 21 1 [0,89]<|
 .o (.cG 80 17 6) 22 1 [18,3,1]<|
 .o (.bF 3 22) 23 1 [1]<|
 .o (.bin .geq 3 21 23) 24 1 []<|
 .eO 24 (
  .ret (I 16)) (
  .call f [15,4,5] (.tuple ⟨[]⟩) 0<|
  .o (.dQ 0) 25 1 []<|
  .o (.cG 80 25 7) 26 1 [19,73,1]<|
  .o (.cG 80 25 0) 27 1 [0,28,7]<|
  .o (.cG 28 27 1) 28 1 [6,26,1]<|
  .o (.bF 26 28) 29 1 [1]<|
  .o (.dC 26 29 15) 30 1 [0,3,1]<|
  .o (.bF 3 30) 31 1 [1]<|
  .o (.cG 80 25 2) 32 1 [14,30,1]<|
  .o (.bF 30 32) 33 1 [1]<|
  .o (.dC 30 33 15) 34 1 [0,4,1]<|
  .o (.bF 4 34) 35 1 [1]<|
  .tj [15,31,35] 1 1<|
  .call 69 [26,36] (.tuple ⟨[]⟩) 0<|
  .ret (I 0)))
theorem any {f:FuncId} {h:BY} (aA:jj ej 43 h [0,.agg ⟨[1,2,3]⟩,.func (.func f) #[] ⟨[4,5]⟩] 6=some (t f)) {W:ax} {g gc dv:Nat} {A:de} {e e1:bW} {ty:aJ} {l2:List J} (p:dW) (ae:okB e.b) (hl:e1.cells.length=(fg e.b).toNat) (aj:e1.known.length=e1.cells.length) (ao:e1.u.reqs.length<=400000) (qk:∀w,ei p e.b->cv (aF w) (ct (b5 g A e++[a1.box gc ty l2,a1.box dv fX [ch g]]))->jZ ej f [I (dD e.b p:Nat),ch gc,ch dv] w (b5 g A e++[a1.box gc ty l2,a1.box dv fX [ch g]]) Unit (λ_=> .tuple #[]) λ_=>b5 g A e1++[a1.box gc ty l2,a1.box dv fX [ch g]])
  (aN:cv (aF W) (ct (b5 g A e++[a1.box gc ty l2,a1.box dv fX [ch g]]))) (b8:ei p e.b->dD e.b p<(fg e.b).toNat):
  jZ ej 43 [ch g,P.val p,.func (.func f) #[] ⟨[ch gc,ch dv]⟩] W (b5 g A e++[a1.box gc ty l2,a1.box dv fX [ch g]]) dY (λ_=>I (j1 e.b e.most p e.u.reqs)) λy=>b5 g {A with q:=y} (xE e p e1)++[a1.box gc ty l2,a1.box dv fX [ch g]]:=by
 refine mZ (ro:=[]) mixed aA [ch g,I p.1,I p.2.1,I p.2.2,ch gc,ch dv] aN gB.none ?_;unfold t;refine cy ?_;refine xn (c:=v7 e.b) rfl has U U mz ?_;by_cases hp:ei p e.b
 ·have aZ:=b8 hp
  refine sq (v:=I (dD e.b p:Nat)) (λw _=>by rw[<-Lm ae hp];exact HD.any w e.b p ae) ?_;refine cy ?_;refine kE rfl (λh=>absurd h ar) λ_=> ?_
  refine cy ?_;refine kE rfl (λhm=> ?_) λhm=> ?_
  ·refine oX ⟨A.q,?_,?_⟩
   ·unfold j1
    rw[aQ hp,aQ hm];rfl
   ·unfold xE
    rw[aU (λq=>q.2 hm)]
  ·refine l6 (eb:=b5 g A e++[a1.box gc ty l2,a1.box dv fX [ch g]]) (N:=λ(_:Unit)=>b5 g A e1++[a1.box gc ty l2,a1.box dv fX [ch g]]) (v:=λ_=> .tuple #[]) (L':=λ_=>b5 g A e1++[a1.box gc ty l2,a1.box dv fX [ch g]]) [0,1,2,3,4,5,6,7,8,9,10,11,12,13] (λ_=>[]) (λw _ aN=>qk w hp aN) (λ_=> ?_) (hL:=λ_=>Hl (n:=14) U U)
   refine cy ?_;refine QL xu [(dD e.b p,e1.cells.getD (dD e.b p) default,e1.known.getD (dD e.b p) default)] rfl (λ_=>p9) λkq=> ?_
   refine l6 (eb:=b5 g A e1++[a1.red xu (.slice (some ⟨kq,0,none⟩) 1 1) [(dD e.b p,e1.cells.getD (dD e.b p) default,e1.known.getD (dD e.b p) default)]]) (L':=λy=>b5 g {A with q:=y} {e1 with u:={e1.u with reqs:=e1.u.reqs++[(dD e.b p,e1.cells.getD (dD e.b p) default,e1.known.getD (dD e.b p) default)]}}++[a1.box gc ty l2,a1.box dv fX [ch g],a1.red xu (.slice (some ⟨kq,0,none⟩) 1 1) [(dD e.b p,e1.cells.getD (dD e.b p) default,e1.known.getD (dD e.b p) default)]]) [0,1,2,3,4,5,6,7,8,9,10,11,14] (λ_=>[]) (λw _ aN=>ZI.any aN (by show e1.u.reqs.length+1<=_;omega)) (λy=> ?_);refine pB (L':=b5 g {A with q:=y} {e1 with u:={e1.u with reqs:=e1.u.reqs++[(dD e.b p,e1.cells.getD (dD e.b p) default,e1.known.getD (dD e.b p) default)]}}++[a1.box gc ty l2,a1.box dv fX [ch g]]) (λM bn=>by exact bn.pick [0,1,2,3,4,5,6,7,8,9,10,11,12,13] rfl) ⟨y,?_,?_⟩
   ·unfold j1
    rw[aQ hp,aU hm];rfl
   ·unfold xE
    rw[aQ ⟨hp,hm⟩]
 ·refine sq (v:=I (-1)) (λw _=>by rw[<-La hp];exact HD.any w e.b p ae) ?_
  refine cy ?_;refine kE rfl (λ_=> ?_) λh=>absurd cz h
  refine oX ⟨A.q,?_,?_⟩
  ·unfold j1
   rw[aU hp];rfl
  ·unfold xE
   rw[aU (λq=>hp q.1)]
end H4
end AE
end
end
section
noncomputable section
namespace AE
def rI (c:Int):Prop:=0<=c/\c<256
instance (c:Int):Decidable (rI c):=by unfold rI;infer_instance
def lN (b:bQ) (most:Int) (p:dW) (reqs:List iN) (c:Int):Int:=if rI c then j1 b most p reqs else 1
def EA (b:bQ) (most:Int) (p:dW) (reqs:List iN) (c:Int) (x:iN):List iN:=if rI c then AI b most p reqs x else reqs
def EB {α:Type} (b:bQ) (most:Int) (p:dW) (reqs:List iN) (c:Int) (l:List α) (v:α):List α:=if rI c then AJ b most p reqs l v else l
def jk (e:bW) (p:dW) (c:Int):bW:={e with u:={e.u with reqs:=EA e.b e.most p e.u.reqs c (dD e.b p,c,e.known.getD (dD e.b p) default)},cells:=EB e.b e.most p e.u.reqs c e.cells c}
def j_ (e:bW) (p:dW) (k:Bool):bW:={e with u:={e.u with reqs:=AI e.b e.most p e.u.reqs (dD e.b p,e.cells.getD (dD e.b p) default,k)},known:=AJ e.b e.most p e.u.reqs e.known k}
theorem alL {e:bW} {p:dW} {c:Int} (aq:rI c) (hl:e.cells.length=(fg e.b).toNat):xE e p {e with cells:=e.cells.set (dD e.b p) c}=jk e p c:=by
 unfold xE jk EA EB AI AJ;rw[aQ aq,aQ aq];by_cases ha:acc e.b e.most p e.u.reqs.length
 ·rw[aQ ha,aQ ha,aQ ha]
  have:(e.cells.set (dD e.b p) c).getD (dD e.b p) default=c:=by rw[BP (by rw[hl];exact Cy ha.1),aQ rfl]
  rw[this]
 ·rw[aU ha,aU ha,aU ha]
theorem alM {e:bW} {p:dW} {c:Int} (aq:¬rI c):jk e p c=e:=by
 unfold jk EA EB;rw[aU aq,aU aq]
theorem alN {e:bW} {p:dW} {k:Bool} (hl:e.known.length=(fg e.b).toNat):xE e p {e with known:=e.known.set (dD e.b p) k}=j_ e p k:=by
 unfold xE j_ AI AJ;by_cases ha:acc e.b e.most p e.u.reqs.length
 ·rw[aQ ha,aQ ha,aQ ha]
  have:(e.known.set (dD e.b p) k).getD (dD e.b p) default=k:=by rw[BP (by rw[hl];exact Cy ha.1),aQ rfl]
  rw[this]
 ·rw[aU ha,aU ha,aU ha]
namespace abl
theorem RX:jj ej 43 {pw:=[44,69]} [0,.agg ⟨[1,2,3]⟩,.func (.func 44) #[] ⟨[4,5]⟩] 6=some (H4.t 44):=k4 au
def t:bL:=
.p7 34 0<|
.p7 3 4<|
.o (.bF 3 6) 7 1 [1]<|
.o (.bin .lss 3 7 (I 0)) 8 1 []<|
.eO 8 (
 .ret (I 1)) (
 .o (.bF 3 6) 9 1 [1]<|
 .o (.bin .geq 3 9 (I 256)) 10 1 []<|
 .eO 10 (
  .ret (I 1)) (
  .o (.bF 34 5) 11 1 [1]<|
  .call 43 [11,.agg ⟨[1,2,3]⟩,.func (.func 44) ⟨[]⟩ ⟨[6,5]⟩] 12 1<|
  .ret 12))
theorem gU:jj Tryd.prog 18 {pw:=[43],marks:=[34,3]} [0,.agg ⟨[1,2,3]⟩,4] 5=some t:=k4 au
theorem any {W:ax} {g:Nat} {A:de} {e:bW} (aN:cv (aF W) (ct (b5 g A e))) (p:dW) (c:Int) (ae:okB e.b) (hl:e.cells.length=(fg e.b).toNat) (aj:e.known.length=e.cells.length) (ao:e.u.reqs.length<=400000):
  jZ ej 18 [ch g,P.val p,I c] W (b5 g A e) de (λ_=>I (lN e.b e.most p e.u.reqs c)) λa_=>b5 g a_ (jk e p c):=by
 refine mZ (ro:=[]) mixed gU [ch g,I p.1,I p.2.1,I p.2.2,I c] aN gB.none ?_;unfold t;refine B_ (cs:=[ch g]) U U (λb=>p9) λdv=> ?_
 refine B_ (cs:=[I c]) U U (λb=>p9) λgc=> ?_
 refine cy ?_;have bad:¬rI c->∃y:de,I 1=I (lN e.b e.most p e.u.reqs c)/\b5 g A e=b5 g y (jk e p c):=λaq=>⟨A,by unfold lN;rw[aU aq],by rw[alM aq]⟩
 refine kE rfl (λaM=> ?_) λaM=> ?_
 ·exact pB (L':=b5 g A e) (λM bn=>bn.pre) (bad λq=>by have:=q.1;omega)
 ·refine cy ?_
  refine kE rfl (λad=> ?_) λad=> ?_
  ·exact pB (L':=b5 g A e) (λM bn=>bn.pre) (bad λq=>by have:=q.2;omega)
  ·have aq:rI c:=⟨ar,ar⟩
   refine cy ?_;refine l6 (eb:=b5 g A e++[a1.box gc o2 [I c],a1.box dv fX [ch g]]) (N:=λ(y:dY)=>b5 g {A with q:=y} (xE e p {e with cells:=e.cells.set (dD e.b p) c})++[a1.box gc o2 [I c],a1.box dv fX [ch g]]) (v:=λ_=>I (j1 e.b e.most p e.u.reqs)) (L':=λy=>b5 g {A with q:=y} (jk e p c)++[a1.box dv fX [ch g],a1.box gc o2 [I c]]) [0,1,2,3,4,5,6,7,8,9,10,11,13,12] (λ_=>[I (j1 e.b e.most p e.u.reqs)]) (λw _ aN=>H4.any RX (e:=e) (e1:={e with cells:=e.cells.set (dD e.b p) c}) p ae (by show (e.cells.set (dD e.b p) c).length=_;rw[List.length_set];exact hl) (by show _=(e.cells.set (dD e.b p) c).length;rw[List.length_set];exact aj) ao (λw hp aN=>abj.any aN (dD e.b p) (by rw[hl];exact Cy hp)) aN Cy) (λy=> ?_) (hL:=λy=>by rw[alL aq hl];rfl);refine pB (L':=b5 g {A with q:=y} (jk e p c)) (λM bn=>bn.pre) ⟨{A with q:=y},?_,rfl⟩;unfold lN;rw[aQ aq];rfl
end abl
namespace abm
theorem RX:jj ej 43 {pw:=[45,69]} [0,.agg ⟨[1,2,3]⟩,.func (.func 45) #[] ⟨[4,5]⟩] 6=some (H4.t 45):=k4 au
def t:bL:=
.p7 34 0<|
.p7 4 4<|
.o (.bF 34 5) 7 1 [1]<|
.call 43 [7,.agg ⟨[1,2,3]⟩,.func (.func 45) ⟨[]⟩ ⟨[6,5]⟩] 8 1<|
.ret 8
theorem gU:jj Tryd.prog 19 {pw:=[43],marks:=[34,4]} [0,.agg ⟨[1,2,3]⟩,4] 5=some t:=k4 au
theorem any {W:ax} {g:Nat} {A:de} {e:bW} (aN:cv (aF W) (ct (b5 g A e))) (p:dW) (k:Bool) (ae:okB e.b) (hl:e.cells.length=(fg e.b).toNat) (aj:e.known.length=e.cells.length) (ao:e.u.reqs.length<=400000):
  jZ ej 19 [ch g,P.val p,.bool k] W (b5 g A e) de (λ_=>I (j1 e.b e.most p e.u.reqs)) λa_=>b5 g a_ (j_ e p k):=by
 refine mZ (ro:=[]) mixed gU [ch g,I p.1,I p.2.1,I p.2.2,.bool k] aN gB.none ?_;unfold t;refine B_ (cs:=[ch g]) U U (λb=>p9) λdv=> ?_
 refine B_ (cs:=[.bool k]) U U (λb=>p9) λgc=> ?_
 refine cy ?_;refine l6 (eb:=b5 g A e++[a1.box gc mv [.bool k],a1.box dv fX [ch g]]) (N:=λ(y:dY)=>b5 g {A with q:=y} (xE e p {e with known:=e.known.set (dD e.b p) k})++[a1.box gc mv [.bool k],a1.box dv fX [ch g]]) (v:=λ_=>I (j1 e.b e.most p e.u.reqs)) (L':=λy=>b5 g {A with q:=y} (j_ e p k)++[a1.box dv fX [ch g],a1.box gc mv [.bool k]]) [0,1,2,3,4,5,6,7,8,9,10,11,13,12] (λ_=>[I (j1 e.b e.most p e.u.reqs)]) (λw _ aN=>H4.any RX (e:=e) (e1:={e with known:=e.known.set (dD e.b p) k}) p ae hl (by show (e.known.set (dD e.b p) k).length=_;rw[List.length_set];exact aj) ao (λw hp aN=>abk.any aN (dD e.b p) (by rw[aj,hl];exact Cy hp)) aN Cy) (λy=> ?_) (hL:=λy=>by rw[alN (aj.trans hl)];rfl);exact pB (L':=b5 g {A with q:=y} (j_ e p k)) (λM bn=>bn.pre) ⟨{A with q:=y},rfl,rfl⟩
end abm
end AE
end
end
namespace AE
namespace abn
noncomputable def body:Code:=(Tryd.f51.body).getD .skip
def N:Nat:=16
def a8:b6:={sl:=cc [(1,.func (.func 52) ⟨[]⟩ ⟨[0,1]⟩),(0,.agg ⟨[3,4,5,6,7,8,2]⟩)],ms:=[],A:=start}
theorem e0:hf (at' 16 [] [] body a8)=some (77,[2]):=au
abbrev hO:=at' 16 [] [] body a8
def eM:List bw:=[⟨.cells [3,4,5,6,7,8,2],28,0⟩,⟨.cells [I 0,I 0,I 0,I 0,I 0,I 0,.slice none 0 0],28,0⟩]
def eB:aG:=cc [(4,gT 1 0),(2,gT 0 0),(1,.func (.func 52) ⟨[]⟩ ⟨[0,1]⟩)]
def eS:aG:=fk 16 eB 8 9
theorem dn:cq (kx Tryd.prog hO) eB eM=some [(0,0),(1,1),(3,3),(4,4),(5,5),(6,6),(7,7),(8,8),(2,2)]:=au
def e3:eh:=(body,[1,0],3)
def cx:bs:=[(.bF 28 0,.agg ⟨[3,4,5,6,7,8,2]⟩),
 (.cG 28 1 0,1),
 (.bF 25 1,.agg ⟨[I 0,I 0,I 0,I 0,I 0,I 0]⟩)]
def jQ:ec:=[(78,[.agg ⟨[3,4,5,6,7,8]⟩,.agg ⟨[I 0,I 0,I 0,I 0,I 0,I 0]⟩],.agg ⟨[I 0,I 0,I 0,I 0,I 0,I 0]⟩)]
theorem mi:gk Tryd.prog Tryd.f51 (c1 16 cx jQ e3 (b7 eS eM))=some (.agg ⟨[3,4,5,6,7,8,9]⟩):=au
@[reducible] noncomputable def bJ (c9:c6) (cS c_ qM:Nat) (b:bQ) (qN:Nat) (sx:List Int:=[]) (hY:c6:=none) (hZ:Nat:=0):List J:=[gT qM 0,gT qN 0,.slice c9 cS c_,I b.1,I b.2.1,I b.2.2.1,I b.2.2.2.1,I b.2.2.2.2.1,I b.2.2.2.2.2,bA hY sx hZ]
theorem any (W:ax) {cells:List Int} {c9:c6} {cS c_ qM:Nat} {b:bQ} {qN:Nat} (ma:cv (aF W) [vY c9 cS c_ cells,ij qM 28 [I b.1,I b.2.1,I b.2.2.1,I b.2.2.2.1,I b.2.2.2.2.1,I b.2.2.2.2.2,.slice c9 cS c_],ij qN 28 [I 0,I 0,I 0,I 0,I 0,I 0,.slice none 0 0]]) (av:cells.length<=100000):Calls Tryd.prog 51 #[.agg ⟨[I b.1,I b.2.1,I b.2.2.1,I b.2.2.2.1,I b.2.2.2.2.1,I b.2.2.2.2.2,.slice c9 cS c_]⟩,.func (.func 52) #[] #[gT qM 0,gT qN 0]] W λe w'=>(∃y:c6×Nat,e= .returned (.agg ⟨[I b.1,I b.2.1,I b.2.2.1,I b.2.2.2.1,I b.2.2.2.2.1,I b.2.2.2.2.2,bA y.1 cells y.2]⟩)/\c5 (aF W) [vY c9 cS c_ cells,ij qM 28 [I b.1,I b.2.1,I b.2.2.1,I b.2.2.2.1,I b.2.2.2.2.1,I b.2.2.2.2.2,.slice c9 cS c_],ij qN 28 [I 0,I 0,I 0,I 0,I 0,I 0,.slice none 0 0]] (aF w') [vY c9 cS c_ cells,ij qM 28 [I b.1,I b.2.1,I b.2.2.1,I b.2.2.2.1,I b.2.2.2.2.1,I b.2.2.2.2.2,.slice c9 cS c_],ij qN 28 [I 0,I 0,I 0,I 0,I 0,I 0,.slice none 0 0],qa y.1 cells y.2])/\cb 0 W w':=by
 refine uP (bJ c9 cS c_ qM b qN) body a8 N [.agg ⟨[al 3,al 4,al 5,al 6,al 7,al 8,al 2]⟩,.func (.func 52) ⟨[]⟩ ⟨[al 0,al 1]⟩] Tryd.func51 λa ah=> ?_
 letI:=cg ah;have aN:=bH.start W _ ma;refine bK [] [] aX aY ?_ ah;obtain⟨sx,AB⟩:=iT (cells);refine hH (Y:=dY) (bh:=λa6=>(bJ c9 cS c_ qM b qN sx a6.1 a6.2)) aN [0] (λa6=>[_]) (λa6=>[qa a6.1 sx a6.2]) e0 dn (eP eS 9) (fI:=λw hw cC aw=>by rw[AB];exact KC aw (Rq.any _ ((aw.arr 0 rfl).arr l0) av)) (rest:= ?_);intro j9 ⟨hY,hZ⟩ dA dN w ah;replace dA:=dA.Ho;letI:=cg ah;refine ep (er e3) cx jQ (ai (Hm 0 7 1 dA) (ai (jG 25 0 6) (ai (Hm 0 6 2 dA) aX))) (cL (Z7 U U U U) aY) ?_ ah;exact bP mi λw2 br=>(by subst AB;exact⟨(_,_),rfl,(dA.done br)⟩)
end abn
namespace abo
noncomputable def body:Code:=(Tryd.f31.body).getD .skip
def N:Nat:=8
def a8:b6:={sl:=cc [(1,.agg ⟨[I 0,I 0,I 0,I 0,I 0,I 0,.slice none 0 0]⟩),(0,.agg ⟨[1,2,3,4,5,6,0]⟩)],ms:=[],A:=start}
def cj:bs:=[(.ez (I 28),I 28)]
theorem e0:zV (at' 8 cj [] body a8)=some (28,(.agg ⟨[1,2,3,4,5,6,0]⟩)):=au
abbrev hO:=at' 8 cj [] body a8
def eM:List bw:=[]
def eB:aG:=cc [(1,.agg ⟨[I 0,I 0,I 0,I 0,I 0,I 0,.slice none 0 0]⟩)]
def eS:aG:=fk 8 eB 2 7
theorem e1:cq (b4 hO) eB eM=some []:=au
def e3:eh:=(body,[0],1)
theorem jP:zV (c1 8 cj [] e3 (b7 eS eM))=some (28,(.agg ⟨[I 0,I 0,I 0,I 0,I 0,I 0,.slice none 0 0]⟩)):=au
abbrev ng:=c1 8 cj [] e3 {sl:=eS,ms:=[],A:=dd eM}
def j':List bw:=[]
def jr:aG:=cc [(2,7)]
def hN:aG:=fk 8 jr 3 8
theorem lh:cq (b4 ng) jr j'=some [(7,7)]:=au
def ki:eh:=(body,[0],2)
theorem o4:Ga (c1 8 cj [] ki (b7 hN j'))=some 28:=au
abbrev tC:=c1 8 cj [] ki {sl:=hN,ms:=[],A:=dd j'}
def nh:List bw:=[]
def ov:aG:=cc [(3,8),(2,7)]
def iC:aG:=fk 8 ov 4 9
theorem tD:cq (b4 tC) ov nh=some [(8,8),(7,7)]:=au
def kj:eh:=(body,[0],3)
def cx:bs:=[(.ez (I 28),I 28),
 (.bF 28 7,.agg ⟨[1,2,3,4,5,6,0]⟩)]
theorem tE:hf (c1 8 cx [] kj (b7 iC nh))=some (51,[.agg ⟨[1,2,3,4,5,6,0]⟩,.func (.func 52) ⟨[]⟩ ⟨[7,8]⟩]):=au
abbrev wb:=c1 8 cx [] kj {sl:=iC,ms:=[],A:=dd nh}
def pD:List bw:=[]
def rA:aG:=cc [(4,9)]
def lH:aG:=fk 8 rA 7 (.agg ⟨[1,2,3,4,5,6,10]⟩)
theorem wc:cq (b4 wb) rA pD=some [(9,9)]:=au
def qO:eh:=(body,[1,0],3)
theorem Cn:oM (c1 8 cj [] qO (b7 lH pD))=some (28,9,(.agg ⟨[1,2,3,4,5,6,10]⟩)):=au
abbrev tF:=c1 8 cj [] qO {sl:=lH,ms:=[],A:=dd pD}
def tG:List bw:=[]
def tH:aG:=cc [(4,9)]
def p0:aG:=match gX 8 tH none (.tuple ⟨[]⟩) with|some s=>s|none=> .nil
theorem Co:cq (b4 tF) tH tG=some [(9,9)]:=au
def HI:eh:=(body,[1,0],4)
theorem Cp:endCell Tryd.f31 (c1 8 cj [] HI (b7 p0 tG))=some (28,9):=au
@[reducible] noncomputable def bJ (c9:c6) (cS c_:Nat) (b:bQ) (e4:Nat:=0) (g1:Nat:=0) (g2:Nat:=0) (qf:List Int:=[]) (tI:c6:=none) (tJ:Nat:=0):List J:=[.slice c9 cS c_,I b.1,I b.2.1,I b.2.2.1,I b.2.2.2.1,I b.2.2.2.2.1,I b.2.2.2.2.2,gT e4 0,gT g1 0,gT g2 0,bA tI qf tJ]
theorem any (W:ax) {cells:List Int} {c9:c6} {cS c_:Nat} (ma:cv (aF W) [vY c9 cS c_ cells]) {b:bQ} (av:cells.length<=100000):Calls Tryd.prog 31 #[.agg ⟨[I b.1,I b.2.1,I b.2.2.1,I b.2.2.2.1,I b.2.2.2.2.1,I b.2.2.2.2.2,.slice c9 cS c_]⟩,.agg ⟨[I 0,I 0,I 0,I 0,I 0,I 0,.slice none 0 0]⟩] W λe w'=>(∃y:c6×Nat,e= .returned (.agg ⟨[I b.1,I b.2.1,I b.2.2.1,I b.2.2.2.1,I b.2.2.2.2.1,I b.2.2.2.2.2,bA y.1 cells y.2]⟩)/\c5 (aF W) [vY c9 cS c_ cells] (aF w') [vY c9 cS c_ cells,qa y.1 cells y.2])/\cb 0 W w':=by
 refine uP (bJ c9 cS c_ b) body a8 N [.agg ⟨[al 1,al 2,al 3,al 4,al 5,al 6,al 0]⟩,.agg ⟨[I 0,I 0,I 0,I 0,I 0,I 0,.slice none 0 0]⟩] Tryd.func31 λa ah=> ?_
 letI:=cg ah;have aN:=bH.start W _ ma;refine bK cj [] (ai (jg _) aX) aY ?_ ah;refine DW (u:= .agg ⟨[I b.1,I b.2.1,I b.2.2.1,I b.2.2.2.1,I b.2.2.2.2.1,I b.2.2.2.2.2,.slice c9 cS c_]⟩) (cs:=[I b.1,I b.2.1,I b.2.2.1,I b.2.2.2.1,I b.2.2.2.2.1,I b.2.2.2.2.2,.slice c9 cS c_]) (bh:=λhP=>(bJ c9 cS c_ b hP)) e0 U U U e1 (eP eS 7) rfl (λ_ hP=>zM) (λ_ _=>rfl) ?_;intro j9 e4 fq Rs lo dN w ah;have dA:=aN.new (yy Rs fq lo);replace dA:=dA.Hn;letI:=cg ah;refine ep (er e3) cj [] (ai (jg _) aX) aY ?_ ah;refine DW (u:= .agg ⟨[I 0,I 0,I 0,I 0,I 0,I 0,.slice none 0 0]⟩) (cs:=[I 0,I 0,I 0,I 0,I 0,I 0,.slice none 0 0]) (bh:=λhP=>(bJ c9 cS c_ b e4 hP)) jP U U U lh (eP hN 8) rfl (λ_ hP=>gb) (λ_ _=>rfl) ?_;intro pv g1 jb yA rB dN w ah;have jR:=dA.new (yy yA jb rB);replace jR:=jR.yV;letI:=cg ah;refine ep (er ki) cj [] (ai (jg _) aX) aY ?_ ah;refine OF (z:= .agg ⟨[I 0,I 0,I 0,I 0,I 0,I 0,.slice none 0 0]⟩) (bh:=λhP=>(bJ c9 cS c_ b e4 g1 hP)) o4 au tD (eP iC 9) rfl (λ_ hP=>gb) (λ_ _=>rfl) ?_;intro oR g2 vn lb Rt HJ dN w ah;have lp:=jR.new (yy (ty:=28) (cs:=[I 0,I 0,I 0,I 0,I 0,I 0,.slice none 0 0]) (i'.mk' vn Rt) lb HJ);replace lp:=lp.Ho;letI:=cg ah;refine ep (er kj) cx [] (ai (jg _) (ai (Hm 0 7 1 lp) aX)) aY ?_ ah;obtain⟨qf,HK⟩:=iT (cells);refine hH (Y:=dY) (bh:=λa6=>(bJ c9 cS c_ b e4 g1 g2 qf a6.1 a6.2)) lp [0,1,2] (λa6=>[_,_,_]) (λa6=>[qa a6.1 qf a6.2]) tE wc (eP lH (.agg ⟨[1,2,3,4,5,6,10]⟩)) (fI:=λw hw cC aw=>by rw[HK];exact abn.any _ aw av) (rest:= ?_);intro Ru ⟨tI,tJ⟩ ow dN w ah;replace ow:=ow.Hp;letI:=cg ah;refine ep (er qO) cj [] (ai (jg _) aX) aY ?_ ah;refine OM (g:=g2) (j:=0) (n:=7) (us:=[I b.1,I b.2.1,I b.2.2.1,I b.2.2.2.1,I b.2.2.2.2.1,I b.2.2.2.2.2,bA tI qf tJ]) (cs:=[I 0,I 0,I 0,I 0,I 0,I 0,.slice none 0 0]) (cs':=[I b.1,I b.2.1,I b.2.2.1,I b.2.2.2.1,I b.2.2.2.2.1,I b.2.2.2.2.2,bA tI qf tJ]) (bh:=(bJ c9 cS c_ b e4 g1 g2 qf tI tJ)) rfl Cn au Co (eP p0 (.tuple ⟨[]⟩)) U U U U U (pX rfl (pX rfl (pX rfl (pX rfl (pX rfl (pX rfl (pX rfl Gj))))))) (ow.box 3 rfl) (gv rfl) (λ_=>gb) ?_;intro Lp Rv Cq dN w ah;have o5:=ow.mQ 3 rfl (xb Rv Cq);replace o5:=o5.Hp;letI:=cg ah;refine ep (er HI) cj [] (ai (jg _) aX) aY ?_ ah;exact OU (v:= .agg ⟨[al 1,al 2,al 3,al 4,al 5,al 6,al 10]⟩) (cs:=[I b.1,I b.2.1,I b.2.2.1,I b.2.2.2.1,I b.2.2.2.2.1,I b.2.2.2.2.2,bA tI qf tJ]) Cp U U (o5.box 3 rfl) au (show bd Tryd.prog (sizeOf 28)=some 7 by kernel_rfl) U U λw2 y0 br=>⟨(by subst HK;exact⟨(_,_),rfl,((o5.pick [0,4] rfl).done br)⟩),y0⟩
end abo
namespace abp
noncomputable def body:Code:=(Tryd.f22.body).getD .skip
def N:Nat:=9
def a8:b6:={sl:=cc [(0,0)],ms:=[],A:=start}
def cj:bs:=[(.dQ 0,0),
 (.cG 80 0 0,0),
 (.bF 28 0,.agg ⟨[2,3,4,5,6,7,1]⟩)]
theorem e0:hf (at' 9 cj [] body a8)=some (31,[.agg ⟨[2,3,4,5,6,7,1]⟩,.agg ⟨[I 0,I 0,I 0,I 0,I 0,I 0,.slice none 0 0]⟩]):=au
abbrev hO:=at' 9 cj [] body a8
def eM:List bw:=[⟨.cells [I 0,I 0,I 0,I 0,I 0,I 0,.slice none 0 0],28,0⟩]
def eB:aG:=cc [(2,gT 0 0)]
def eS:aG:=fk 9 eB 8 (.agg ⟨[2,3,4,5,6,7,25]⟩)
theorem dn:cq (kx Tryd.prog hO) eB eM=some []:=au
def e3:eh:=(body,[1,0],6)
theorem mi:gk Tryd.prog Tryd.f22 (c1 9 [] [] e3 (b7 eS eM))=some (.agg ⟨[2,3,4,5,6,7,25]⟩):=au
@[reducible] noncomputable def bJ (c9:c6) (cS c_ fJ:Nat) (b:bQ) (xa:Nat->J) (sx:List Int:=[]) (hY:c6:=none) (hZ:Nat:=0):List J:=[gT fJ 0,.slice c9 cS c_,I b.1,I b.2.1,I b.2.2.1,I b.2.2.2.1,I b.2.2.2.2.1,I b.2.2.2.2.2,xa 0,xa 1,xa 2,xa 3,xa 4,xa 5,xa 6,xa 7,xa 8,xa 9,xa 10,xa 11,xa 12,xa 13,xa 14,xa 15,xa 16,bA hY sx hZ]
theorem any (W:ax) {cells:List Int} {c9:c6} {cS c_ fJ:Nat} {b:bQ} {xa:Nat->J} (ma:cv (aF W) [vY c9 cS c_ cells,ij fJ 80 [I b.1,I b.2.1,I b.2.2.1,I b.2.2.2.1,I b.2.2.2.2.1,I b.2.2.2.2.2,.slice c9 cS c_,xa 0,xa 1,xa 2,xa 3,xa 4,xa 5,xa 6,xa 7,xa 8,xa 9,xa 10,xa 11,xa 12,xa 13,xa 14,xa 15,xa 16]]) (av:cells.length<=100000):Calls Tryd.prog 22 #[gT fJ 0] W λe w'=>(∃y:c6×Nat,e= .returned (.agg ⟨[I b.1,I b.2.1,I b.2.2.1,I b.2.2.2.1,I b.2.2.2.2.1,I b.2.2.2.2.2,bA y.1 cells y.2]⟩)/\c5 (aF W) [vY c9 cS c_ cells,ij fJ 80 [I b.1,I b.2.1,I b.2.2.1,I b.2.2.2.1,I b.2.2.2.2.1,I b.2.2.2.2.2,.slice c9 cS c_,xa 0,xa 1,xa 2,xa 3,xa 4,xa 5,xa 6,xa 7,xa 8,xa 9,xa 10,xa 11,xa 12,xa 13,xa 14,xa 15,xa 16]] (aF w') [vY c9 cS c_ cells,ij fJ yH [I b.1,I b.2.1,I b.2.2.1,I b.2.2.2.1,I b.2.2.2.2.1,I b.2.2.2.2.2,.slice c9 cS c_,xa 0,xa 1,xa 2,xa 3,xa 4,xa 5,xa 6,xa 7,xa 8,xa 9,xa 10,xa 11,xa 12,xa 13,xa 14,xa 15,xa 16],qa y.1 cells y.2])/\cb 0 W w':=by
 refine uP (bJ c9 cS c_ fJ b xa) body a8 N [al 0] Tryd.func22 λa ah=> ?_
 letI:=cg ah;have aN:=bH.start W _ ma;refine bK cj [] (ai ln (ai (jG 28 0 7) (ai (Hm 0 7 1 aN) aX))) aY ?_ ah;obtain⟨sx,AB⟩:=iT (cells);refine hH (Y:=dY) (bh:=λa6=>(bJ c9 cS c_ fJ b xa sx a6.1 a6.2)) aN [0] (λa6=>[_]) (λa6=>[qa a6.1 sx a6.2]) e0 dn (eP eS (.agg ⟨[2,3,4,5,6,7,25]⟩)) (fI:=λw hw cC aw=>by rw[AB];exact abo.any _ aw av) (rest:= ?_);intro j9 ⟨hY,hZ⟩ dA dN w ah;replace dA:=dA.yV;letI:=cg ah;refine ep (er e3) [] [] aX aY ?_ ah;exact bP mi λw2 br=>(by subst AB;exact⟨(_,_),rfl,(dA.done br)⟩)
end abp
end AE
namespace AE
namespace abq
noncomputable def body:Code:=(Tryd.f9.body).getD .skip
def N:Nat:=75
noncomputable abbrev bN:=gk Tryd.prog Tryd.f9
def a8:b6:={sl:=cc [(3,2),(2,1),(1,0),(0,.agg ⟨[3,4,5,6,7,8,9]⟩)],ms:=[],A:=start}
def cj:bs:=[(.ez (I 80),I 80),
 (.bin .neq 35 10 (I 0),.bool false),
 (.bin .lss 3 2 (I 1),.bool true)]
def l9:ec:=[(30,[.agg ⟨[3,4,5,6,7,8,9]⟩,0,1],10)]
theorem e0:bN (at' 75 cj l9 body a8)=some (.tuple ⟨[.pointer none,I 1]⟩):=au
def cx:bs:=[(.ez (I 80),I 80),
 (.bin .neq 35 10 (I 0),.bool false),
 (.bin .lss 3 2 (I 1),.bool false),
 (.bin .gtr 3 2 (I 65536),.bool true)]
def jQ:ec:=[(30,[.agg ⟨[3,4,5,6,7,8,9]⟩,0,1],10)]
theorem e1:bN (at' 75 cx jQ body a8)=some (.tuple ⟨[.pointer none,I 1]⟩):=au
def dz:bs:=[(.ez (I 80),I 80),
 (.bin .neq 35 10 (I 0),.bool false),
 (.bin .lss 3 2 (I 1),.bool false),
 (.bin .gtr 3 2 (I 65536),.bool false),
 (.len #[26] 3 9,11)]
def ot:ec:=[(30,[.agg ⟨[3,4,5,6,7,8,9]⟩,0,1],10)]
abbrev ic:=at' 75 dz ot body a8
theorem e2:Gx Tryd.prog 75 13 [2,5,7,9,12] ic 2=some (31,[.agg ⟨[3,4,5,6,7,8,9]⟩,.agg ⟨[I 0,I 0,I 0,I 0,I 0,I 0,.slice none 0 0]⟩]):=au
theorem dn:Gx Tryd.prog 75 13 [2,5,7,9,12] ic 5=some (31,[.agg ⟨[3,4,5,6,7,8,9]⟩,.agg ⟨[I 0,I 0,I 0,I 0,I 0,I 0,.slice none 0 0]⟩]):=au
theorem hU:Gx Tryd.prog 75 13 [2,5,7,9,12] ic 7=some (32,[0]):=au
theorem kG:Kh Tryd.prog 75 13 [2,5,7,9,12] ic 9=some (45,11):=au
theorem jP:Kh Tryd.prog 75 13 [2,5,7,9,12] ic 12=some (30,11):=au
def eM:List bw:=[]
def eB:aG:=cc [(39,2),(10,11),(9,I 0),(8,.pointer none),(2,1)]
theorem lh:(Gq Tryd.prog 75 13 [2,5,7,9,12] ic).isSome=true:=au
theorem mi:cq (Gs Tryd.prog 75 13 [2,5,7,9,12] ic) eB eM=some [(2,2),(1,1),(11,11)]:=au
def Kn:aG:=match uE 75 (gH ic) [(2,.agg ⟨[al 3,al 4,al 5,al 6,al 7,al 8,al 12]⟩),(5,.agg ⟨[al 3,al 4,al 5,al 6,al 7,al 8,al 13]⟩),(7,al 14),(9,al 15),(12,al 16)] eB with|some s=>s|none=> .nil
theorem p4:uE 75 (gH ic) [(2,.agg ⟨[3,4,5,6,7,8,12]⟩),(5,.agg ⟨[3,4,5,6,7,8,13]⟩),(7,14),(9,15),(12,16)] eB=some Kn:=au
def et:bs:=[(.ez (I 80),I 80)]
theorem rE:zV (Ep 75 et [] (yD 13 ic) (gH ic) (f_ ic) (b7 Kn eM))=some (80,(.agg ⟨[3,4,5,6,7,8,12,3,4,5,6,7,8,13,.slice none 0 0,.slice none 0 0,14,15,2,.slice none 0 0,.slice none 0 0,.slice none 0 0,.slice none 0 0,16]⟩)):=au
abbrev ng:=Ep 75 et [] (yD 13 ic) (gH ic) (f_ ic) {sl:=Kn,ms:=[],A:=dd eM}
def j':List bw:=[]
def jr:aG:=cc [(10,11),(9,I 0),(8,.pointer none),(2,1)]
def hN:aG:=fk 75 jr 43 17
theorem qg:cq (b4 ng) jr j'=some [(1,1),(11,11)]:=au
def ki:eh:=(body,[1,1,1,0],15)
theorem Cr:hf (c1 75 et [] ki (b7 hN j'))=some (33,[1]):=au
abbrev tC:=c1 75 et [] ki {sl:=hN,ms:=[],A:=dd j'}
def nh:List bw:=[]
def ov:aG:=cc [(44,17),(11,17),(10,11),(9,I 0),(8,.pointer none),(2,1)]
def iC:aG:=fk 75 ov 46 22
theorem Cw:cq (kx Tryd.prog tC) ov nh=some [(17,17),(1,1),(17,17),(11,11)]:=au
def kj:eh:=(body,[1,1,1,1,0],3)
def gf:bs:=[(.ez (I 80),I 80),
 (.dQ 17,17),
 (.cG 80 17 2,23)]
theorem RP:oM (c1 75 gf [] kj (b7 iC nh))=some (30,23,22):=au
abbrev wb:=c1 75 gf [] kj {sl:=iC,ms:=[],A:=dd nh}
def pD:List bw:=[]
def rA:aG:=cc [(11,17),(10,11),(9,I 0),(8,.pointer none),(2,1)]
def lH:aG:=match gX 75 rA none (.tuple ⟨[]⟩) with|some s=>s|none=> .nil
theorem RQ:cq (b4 wb) rA pD=some [(17,17),(1,1),(11,11)]:=au
def qO:eh:=(body,[1,1,1,1,0],6)
def hq:bs:=[(.ez (I 80),I 80),
 (.len #[30] 3 1,24),
 (.bin .eql 3 24 (I 0),.bool true)]
abbrev tF:=c1 75 hq [] qO {sl:=lH,ms:=[],A:=dd pD}
def tG:List bw:=[]
def tH:aG:=cc [(54,11),(52,17),(11,17),(10,11),(9,I 0),(8,.pointer none)]
def p0:aG:=(bR.set 25 depth tH 53).getD .nil
theorem HZ:uB tF 0 53=some ([.bool true],1,1):=au
theorem H0:cq (b4 tF) tH tG=some [(17,17),(17,17),(11,11),(11,11)]:=au
theorem Cp:bR.set 25 depth tH 53=some p0:=au
theorem RS:hf ((mq (b7 p0 tG) tF))=some (34,[25,11]):=au
abbrev RY:=(mq {sl:=p0,ms:=[],A:=dd tG} tF)
def Cz:List bw:=[]
def H5:aG:=cc [(52,17),(11,17),(10,11),(9,I 0),(8,.pointer none)]
def CA:aG:=fk 75 H5 55 26
theorem H6:cq (kx Tryd.prog RY) H5 Cz=some [(17,17),(17,17),(11,11)]:=au
def CB:eh:=(body,[1,1,1,1,1,0,1,2],4)
theorem alO:oM (c1 75 gf [] CB (b7 CA Cz))=some (30,23,26):=au
abbrev RZ:=c1 75 gf [] CB {sl:=CA,ms:=[],A:=dd Cz}
def CC:List bw:=[]
def H7:aG:=cc [(11,17),(10,11),(9,I 0),(8,.pointer none)]
def CD:aG:=match gX 75 H7 none (.tuple ⟨[]⟩) with|some s=>s|none=> .nil
theorem alP:cq (b4 RZ) H7 CC=some [(17,17),(11,11)]:=au
def CE:eh:=(body,[1,1,1,1,1,0,1,2],7)
def l8:bs:=[(.ez (I 80),I 80),
 (.dQ 17,17),
 (.cG 80 17 2,23),
 (.bF 30 23,26)]
theorem R0:hf (c1 75 l8 [] CE (b7 CD CC))=some (33,[26]):=au
abbrev R1:=c1 75 l8 [] CE {sl:=CD,ms:=[],A:=dd CC}
def CF:List bw:=[]
def H8:aG:=cc [(58,17),(11,17),(10,11),(9,I 0),(8,.pointer none)]
def CG:aG:=fk 75 H8 63 27
theorem alQ:cq (kx Tryd.prog R1) H8 CF=some [(17,17),(11,11),(17,17)]:=au
def CH:eh:=(body,[1,1,1,1,1,1,0],6)
def nX:bs:=[(.ez (I 80),I 80),
 (.dQ 17,17),
 (.cG 80 17 3,28)]
theorem R2:oM (c1 75 nX [] CH (b7 CG CF))=some (30,28,27):=au
abbrev R3:=c1 75 nX [] CH {sl:=CG,ms:=[],A:=dd CF}
def EC:List bw:=[]
def H9:aG:=cc [(11,17),(10,11),(9,I 0),(8,.pointer none)]
def ED:aG:=match gX 75 H9 none (.tuple ⟨[]⟩) with|some s=>s|none=> .nil
theorem alR:cq (b4 R3) H9 EC=some [(17,17),(11,11)]:=au
def EE:eh:=(body,[1,1,1,1,1,1,0],9)
def eI:List bw:=[]
def eJ:aG:=cc [(67,29),(66,11),(11,17),(9,I 0),(8,.pointer none)]
abbrev hy:=c1 75 et [] EE {sl:=ED,ms:=[],A:=dd EC}
theorem R4:pS eJ eI hy=some [(17,17),(I 0,29),(11,11)]:=au
def eW:Code:=s9 body [1,1,1,1,1,1,1,0,1,4]
def h5:List fc:=oh body [1,1,1,1,1,1,1,0,1,4] []
theorem R5:pe hy=eW:=au
theorem R6:f_ hy=h5:=au
def rD:bs:=[(.ez (I 80),I 80),
 (.bin .lss 3 29 11,.bool true)]
theorem alS:hf (at' 75 rD [] eW (b7 eJ eI))=some (35,[17,29]):=au
abbrev R7:=at' 75 rD [] eW (b7 eJ eI)
def H':List bw:=[]
def H_:aG:=cc [(67,29),(66,11),(11,17),(9,I 0),(8,.pointer none)]
def Ez:aG:=fk 75 H_ 72 (.tuple ⟨[]⟩)
theorem alT:cq (kx Tryd.prog R7) H_ H'=some [(17,17),(29,29),(11,11)]:=au
def Ia:eh:=(eW,[1,1,0,4,1],3)
def wh:bs:=[(.ez (I 80),I 80),
 (.bin .add 3 29 (I 1),32)]
theorem alU:qx eJ eI (c1 75 wh [] Ia (b7 Ez H'))=some [(17,17),(32,29),(11,11)]:=au
def wi:bs:=[(.ez (I 80),I 80),
 (.bin .lss 3 29 11,.bool false)]
theorem alV:bN (ny 75 et [] h5 (at' 75 wi [] eW (b7 eJ eI)))=some (.tuple ⟨[17,I 0]⟩):=au
def y1:bs:=[(.ez (I 80),I 80),
 (.len #[30] 3 1,24),
 (.bin .eql 3 24 (I 0),.bool false),
 (.dQ 17,17),
 (.cG 80 17 2,23),
 (.bF 30 23,22)]
theorem R8:hf (c1 75 y1 [] qO (b7 lH pD))=some (33,[22]):=au
abbrev EF:=c1 75 y1 [] qO {sl:=lH,ms:=[],A:=dd pD}
def CI:List bw:=[]
def EG:aG:=cc [(58,17),(11,17),(10,11),(9,I 0),(8,.pointer none)]
def CJ:aG:=fk 75 EG 63 33
theorem alW:cq (kx Tryd.prog EF) EG CI=some [(17,17),(11,11),(17,17)]:=au
def R9:eh:=(body,[1,1,1,1,1,1,0],6)
theorem R':oM (c1 75 nX [] R9 (b7 CJ CI))=some (30,28,33):=au
abbrev R_:=c1 75 nX [] R9 {sl:=CJ,ms:=[],A:=dd CI}
def EH:List bw:=[]
def Ib:aG:=cc [(11,17),(10,11),(9,I 0),(8,.pointer none)]
def EI:aG:=match gX 75 Ib none (.tuple ⟨[]⟩) with|some s=>s|none=> .nil
theorem alX:cq (b4 R_) Ib EH=some [(17,17),(11,11)]:=au
def EJ:eh:=(body,[1,1,1,1,1,1,0],9)
def Ic:List bw:=[]
def Ie:aG:=cc [(67,34),(66,11),(11,17),(9,I 0),(8,.pointer none)]
abbrev Sa:=c1 75 et [] EJ {sl:=EI,ms:=[],A:=dd EH}
theorem alY:pS Ie Ic Sa=some [(17,17),(I 0,34),(11,11)]:=au
def Ig:Code:=s9 body [1,1,1,1,1,1,1,0,1,4]
def abr:List fc:=oh body [1,1,1,1,1,1,1,0,1,4] []
theorem alZ:pe Sa=Ig:=au
theorem Sb:f_ Sa=abr:=au
def y2:bs:=[(.ez (I 80),I 80),
 (.bin .lss 3 34 11,.bool true)]
theorem al0:hf (at' 75 y2 [] Ig (b7 Ie Ic))=some (35,[17,34]):=au
abbrev Sc:=at' 75 y2 [] Ig (b7 Ie Ic)
def Ih:List bw:=[]
def Bi:aG:=cc [(67,34),(66,11),(11,17),(9,I 0),(8,.pointer none)]
def Ii:aG:=fk 75 Bi 72 (.tuple ⟨[]⟩)
theorem al1:cq (kx Tryd.prog Sc) Bi Ih=some [(17,17),(34,34),(11,11)]:=au
def Ij:eh:=(Ig,[1,1,0,4,1],3)
def AD:bs:=[(.ez (I 80),I 80),
 (.bin .add 3 34 (I 1),37)]
theorem Sd:qx Ie Ic (c1 75 AD [] Ij (b7 Ii Ih))=some [(17,17),(37,34),(11,11)]:=au
def HU:bs:=[(.ez (I 80),I 80),
 (.bin .lss 3 34 11,.bool false)]
theorem Se:bN (ny 75 et [] abr (at' 75 HU [] Ig (b7 Ie Ic)))=some (.tuple ⟨[17,I 0]⟩):=au
def HV:bs:=[(.ez (I 80),I 80),
 (.bin .neq 35 10 (I 0),.bool true)]
def HW:ec:=[(30,[.agg ⟨[3,4,5,6,7,8,9]⟩,0,1],10)]
theorem Sf:bN (at' 75 HV HW body a8)=some (.tuple ⟨[.pointer none,I 1]⟩):=au
@[reducible] noncomputable def bJ (cells:List Int) (c9:c6) (cS c_:Nat) (table:List cX) (kk:c6) (kl:Nat) (known:List Bool) (ix:c6) (iy:Nat) (most:Int) (b:bQ) (uT:List Nat:=[]) (za:c6:=none) (zb:Nat:=0) (oz:Nat:=0) (uU:List Nat:=[]) (zc:c6:=none) (zd:Nat:=0) (oA:Nat:=0) (hY:c6:=none) (hZ:Nat:=0) (kI:c6:=none) (kJ:Nat:=0) (kK:c6:=none) (kL:Nat:=0) (jH:List bM:=[]) (kM:c6:=none) (kN:Nat:=0) (jl:List Bool:=[]) (kO:c6:=none) (kP:Nat:=0) (g1:Nat:=0) (nB:List Bool:=[]) (nz:c6:=none) (nA:Nat:=0) (g4:Nat:=0) (rJ:List Bool:=[]) (uV:c6:=none) (uW:Nat:=0) (wm:List Bool:=[]) (iz:c6:=none) (iA:Nat:=0) (EK:List Nat:=[]) (jS:c6:=none) (jT:Nat:=0) (wo:List Bool:=[]) (ze:c6:=none) (zf:Nat:=0) (EL:List Nat:=[]) (Sg:c6:=none) (Sh:Nat:=0):List J:=[bA kk table kl,bA ix known iy,I most,I b.1,I b.2.1,I b.2.2.1,I b.2.2.2.1,I b.2.2.2.2.1,I b.2.2.2.2.2,.slice c9 cS c_,I (y6 b cells table known),I ((cells.length:Nat):Int),bA hY cells hZ,bA kI cells kJ,bA kK table kL,bA kM jH kN,bA kO jl kP,gT g1 0,.slice none ([]:List iN).length 0,.slice none (([]:List az)).length 0,.slice none ((([]:List Nat))).length 0,.slice none (((([]:List Nat)))).length 0,bA nz nB nA,gT g1 14,I ((known.length:Nat):Int),.slice (some ⟨g4,0,none⟩) 1 1,bA uV rJ uW,bA iz wm iA,gT g1 15,I ((oz:Nat):Int),bA za uT zb,bA jS EK jT,I ((oz+1:Nat):Int),bA ze wo zf,I ((oA:Nat):Int),bA zc uU zd,bA Sg EL Sh,I ((oA+1:Nat):Int)]
theorem any (W:ax) {b:bQ} {c9:c6} {cS c_:Nat} {cells:List Int} (hJ:cu (aF W) 1 ga (.slice c9 cS c_) cells) {ox:J} {table:List cX} (aK:cu (aF W) 8 jf ox table) {oy:J} {known:List Bool} (hd:cu (aF W) 1 iQ oy known) (most:Int) (bS:mn (aF W)) (av:cells.length<=10000) (h9:cS=cells.length) (mr:known.length<=100000) (y7:table.length<=100000):Calls Tryd.prog 9 #[.agg ⟨[I b.1,I b.2.1,I b.2.2.1,I b.2.2.2.1,I b.2.2.2.2.1,I b.2.2.2.2.2,.slice c9 cS c_]⟩,ox,oy,I most] W λe w'=>(if pE b cells table known most then (∃(g:Nat) (y:dY×ry×ry×ry×ry×ry×ry×ry),e= .returned (.tuple ⟨[gT g 0,I 0]⟩)/\c5 (aF W) [] (aF w') [pV z' 3 vH (.slice none 0 0) [],pV z_ 5 kz (.slice none 0 0) [],h2 te 1 p1 (.slice none 0 0) [],pV te 1 p1 (.slice y.1.1 (List.range cells.length).length y.1.2) (List.range cells.length),h2 mv 1 iQ (.slice y.2.1.1 y.2.1.2.1 y.2.1.2.2) (jw cells.length cells.length),h2 p2 4 dM (.slice y.2.2.1.1 y.2.2.1.2.1 y.2.2.1.2.2) (List.replicate cells.length Aa),vY y.2.2.2.1.1 y.2.2.2.1.2.1 y.2.2.2.1.2.2 cells,ajP y.2.2.2.2.1.1 y.2.2.2.2.1.2.1 y.2.2.2.2.1.2.2 table,h2 mv 1 iQ (.slice y.2.2.2.2.2.1.1 y.2.2.2.2.2.1.2.1 y.2.2.2.2.2.1.2.2) (wk known cells.length),vY y.2.2.2.2.2.2.1.1 y.2.2.2.2.2.2.1.2.1 y.2.2.2.2.2.2.1.2.2 cells,h2 mv 1 iQ (.slice y.2.2.2.2.2.2.2.1 y.2.2.2.2.2.2.2.2.1 y.2.2.2.2.2.2.2.2.2) (wk known cells.length),ij g yH [I b.1,I b.2.1,I b.2.2.1,I b.2.2.2.1,I b.2.2.2.2.1,I b.2.2.2.2.2,.slice y.2.2.2.2.2.2.1.1 y.2.2.2.2.2.2.1.2.1 y.2.2.2.2.2.2.1.2.2,I b.1,I b.2.1,I b.2.2.1,I b.2.2.2.1,I b.2.2.2.2.1,I b.2.2.2.2.2,.slice y.2.2.2.1.1 y.2.2.2.1.2.1 y.2.2.2.1.2.2,.slice y.2.2.2.2.2.2.2.1 y.2.2.2.2.2.2.2.2.1 y.2.2.2.2.2.2.2.2.2,.slice y.2.2.2.2.2.1.1 y.2.2.2.2.2.1.2.1 y.2.2.2.2.2.1.2.2,.slice y.2.2.2.2.1.1 y.2.2.2.2.1.2.1 y.2.2.2.2.1.2.2,.slice y.2.2.1.1 y.2.2.1.2.1 y.2.2.1.2.2,I most,.slice none 0 0,.slice none 0 0,.slice none 0 0,.slice y.1.1 (List.range cells.length).length y.1.2,.slice y.2.1.1 y.2.1.2.1 y.2.1.2.2]]) else e= .returned (.tuple ⟨[.pointer none,I 1]⟩))/\cb W.heap.size W w':=by
 obtain⟨kk,kl,rfl⟩:=aK.slice;obtain⟨ix,iy,rfl⟩:=hd.slice;refine jO (bJ cells c9 cS c_ table kk kl known ix iy most b) body a8 N [.agg ⟨[al 3,al 4,al 5,al 6,al 7,al 8,al 9]⟩,al 0,al 1,al 2] Tryd.func9 λa ah=> ?_
 letI:=cg ah;have aN:=bH.qA W;by_cases aM:(y6 b cells table known)=0
 ·by_cases ad:most<1
  ·refine bK cj l9 (ai (jg _) (ai sr (ai bC aX))) (cL (Lu U U U U hJ (aK.mono aN.ext) (hd.mono aN.ext) bS ar h9) aY) ?_ ah
   exact bP e0 λw2 br=>(by (rw[aU (λq:pE b cells table known most=>by have q1:=q.1;have aE:=q.2.1;have ca:=q.2.2;omega)];rfl))
  ·by_cases af:65536<most
   ·refine bK cx jQ (ai (jg _) (ai sr (ai bf (ai bC aX)))) (cL (Lu U U U U hJ (aK.mono aN.ext) (hd.mono aN.ext) bS ar h9) aY) ?_ ah
    exact bP e1 λw2 br=>(by (rw[aU (λq:pE b cells table known most=>by have q1:=q.1;have aE:=q.2.1;have ca:=q.2.2;omega)];rfl))
   ·refine bK dz ot (ai (jg _) (ai sr (ai bf (ai bf (ai (eT (hJ.mono aN.ext) iK) aX))))) (cL (Lu U U U U hJ (aK.mono aN.ext) (hd.mono aN.ext) bS ar h9) aY) ?_ ah
    obtain⟨jH,Lx⟩:=iT (List.replicate cells.length Aa);have apX:jH.length=cells.length:=by rw[Lx];exact mc
    obtain⟨jl,Ly⟩:=iT (List.replicate cells.length vI);have apY:jl.length=cells.length:=by rw[Ly];exact mc
    refine ag8 (Y:=dY×dY×dY×dY×dY) (bh:=λa6=>(bJ cells c9 cS c_ table kk kl known ix iy most b [] none 0 0 [] none 0 0 a6.1.1 a6.1.2 a6.2.1.1 a6.2.1.2 a6.2.2.1.1 a6.2.2.1.2 jH a6.2.2.2.1.1 a6.2.2.2.1.2 jl a6.2.2.2.2.1 a6.2.2.2.2.2)) (m:=13) (dp:=[(2,.agg ⟨[al 3,al 4,al 5,al 6,al 7,al 8,al 12]⟩),(5,.agg ⟨[al 3,al 4,al 5,al 6,al 7,al 8,al 13]⟩),(7,al 14),(9,al 15),(12,al 16)]) (R:=λi a6=>bif Nat.beq i 2 then qa a6.1 cells a6.2 else bif Nat.beq i 5 then qa a6.1 cells a6.2 else bif Nat.beq i 7 then K9 a6.1 table a6.2 else bif Nat.beq i 9 then Ao a6.1 jH a6.2 else bif Nat.beq i 12 then tz a6.1 jl a6.2 else vJ []) (rv:=λi a6=>bif Nat.beq i 2 then .agg ⟨[I b.1,I b.2.1,I b.2.2.1,I b.2.2.2.1,I b.2.2.2.2.1,I b.2.2.2.2.2,bA a6.1 cells a6.2]⟩ else bif Nat.beq i 5 then .agg ⟨[I b.1,I b.2.1,I b.2.2.1,I b.2.2.2.1,I b.2.2.2.2.1,I b.2.2.2.2.2,bA a6.1 cells a6.2]⟩ else bif Nat.beq i 7 then bA a6.1 table a6.2 else bif Nat.beq i 9 then bA a6.1 jH a6.2 else bif Nat.beq i 12 then bA a6.1 jl a6.2 else .bool false) (pr:=λi a6=>bif Nat.beq i 2 then a6.1 else bif Nat.beq i 5 then a6.2.1 else bif Nat.beq i 7 then a6.2.2.1 else bif Nat.beq i 9 then a6.2.2.2.1 else bif Nat.beq i 12 then a6.2.2.2.2 else (none,0)) (mk:=λys=>(ys 2,ys 5,ys 7,ys 9,ys 12)) mixed lh cz (rl (xe.arr (F:=λhQ=> .agg ⟨[I b.1,I b.2.1,I b.2.2.1,I b.2.2.2.1,I b.2.2.2.2.1,I b.2.2.2.2.2,hQ]⟩) (l:=cells) e2 rfl λw hw cC=>Rr.any _ ((hJ.mono aN.ext).mono hw) ar) (rl (xe.arr (F:=λhQ=> .agg ⟨[I b.1,I b.2.1,I b.2.2.1,I b.2.2.2.1,I b.2.2.2.2.1,I b.2.2.2.2.2,hQ]⟩) (l:=cells) dn rfl λw hw cC=>Rr.any _ ((hJ.mono aN.ext).mono hw) ar) (rl (xe.arr (F:=λhQ=>hQ) (l:=table) hU rfl λw hw cC=>Z9.any _ ((aK.mono aN.ext).mono hw) y7) (rl (xe.W8 (n:=cells.length) (zr:=Aa) (l':=jH) Lx kG nQ Xy Xz XA XB rfl yG rfl (by rfl) ar (by unfold Ky;omega) ar) (rl (xe.W8 (n:=cells.length) (zr:=vI) (l':=jl) Ly jP nv Pk Pl Pm Pn rfl l4 rfl (by rfl) ar (by unfold GK;omega) ar) O3))))) (λys=>(rl rfl (rl rfl (rl rfl (rl rfl (rl rfl O3)))))) mi p4 rfl (λa6 M'=>(rl rfl (rl rfl (rl rfl (rl rfl (rl rfl O3)))))) (λ_ _=>gb) ?_;intro⟨⟨hY,hZ⟩,⟨kI,kJ⟩,⟨kK,kL⟩,⟨kM,kN⟩,⟨kO,kP⟩⟩ j9 rz dN w ah;have dA:=aN.put (L':=[]) (N:=[qa hY cells hZ,qa kI cells kJ,K9 kK table kL,Ao kM jH kN,tz kO jl kP]) [] U U rz;replace dA:=dA.Hp;letI:=cg ah;refine FX (F:=et) (T:=[]) (bm:=1000) (d:=10) mixed (ai (jg _) aX) aY ?_ ah;refine DW (u:= .agg ⟨[I b.1,I b.2.1,I b.2.2.1,I b.2.2.2.1,I b.2.2.2.2.1,I b.2.2.2.2.2,bA hY cells hZ,I b.1,I b.2.1,I b.2.2.1,I b.2.2.2.1,I b.2.2.2.2.1,I b.2.2.2.2.2,bA kI cells kJ,.slice none 0 0,.slice none 0 0,bA kK table kL,bA kM jH kN,I most,.slice none 0 0,.slice none 0 0,.slice none 0 0,.slice none 0 0,bA kO jl kP]⟩) (cs:=[I b.1,I b.2.1,I b.2.2.1,I b.2.2.2.1,I b.2.2.2.2.1,I b.2.2.2.2.2,bA hY cells hZ,I b.1,I b.2.1,I b.2.2.1,I b.2.2.2.1,I b.2.2.2.2.1,I b.2.2.2.2.2,bA kI cells kJ,.slice none 0 0,.slice none 0 0,bA kK table kL,bA kM jH kN,I most,.slice none 0 0,.slice none 0 0,.slice none 0 0,.slice none 0 0,bA kO jl kP]) (bh:=λhP=>(bJ cells c9 cS c_ table kk kl known ix iy most b [] none 0 0 [] none 0 0 hY hZ kI kJ kK kL jH kM kN jl kO kP hP)) rE U U U qg (eP hN 17) rfl (λ_ hP=>gb) (λ_ _=>rfl) ?_;intro pv g1 jb yA rB dN w ah;have jR:=dA.new (yy yA jb rB);replace jR:=jR.new (Rm pv z' 3 vH);replace jR:=jR.new (Rm pv z_ 5 kz);replace jR:=jR.new (ZW pv te 1 p1);replace jR:=jR.new (Rm pv te 1 p1);replace jR:=jR.Zf;letI:=cg ah;refine ep (er ki) et [] (ai (jg _) aX) aY ?_ ah;obtain⟨nB,Si⟩:=iT (known);refine hH (Y:=dY) (bh:=λa6=>(bJ cells c9 cS c_ table kk kl known ix iy most b [] none 0 0 [] none 0 0 hY hZ kI kJ kK kL jH kM kN jl kO kP g1 nB a6.1 a6.2)) jR [] (λa6=>[]) (λa6=>[tz a6.1 nB a6.2]) Cr Cw (eP iC 22) (fI:=λw hw cC aw=>by rw[Si];exact Gk (HH.any _ ((hd.mono jR.ext).mono hw) ar)) (rest:= ?_);intro oR ⟨nz,nA⟩ lp dN w ah;replace lp:=lp.QY;letI:=cg ah;refine ep (er kj) gf [] (ai (jg _) (ai ln (ai (jG 30 14 1) aX))) aY ?_ ah;refine Hr 14 [I b.1,I b.2.1,I b.2.2.1,I b.2.2.2.1,I b.2.2.2.2.1,I b.2.2.2.2.2,bA hY cells hZ,I b.1,I b.2.1,I b.2.2.1,I b.2.2.2.1,I b.2.2.2.2.1,I b.2.2.2.2.2,bA kI cells kJ,bA nz nB nA,.slice none 0 0,bA kK table kL,bA kM jH kN,I most,.slice none ([]:List iN).length 0,.slice none (([]:List az)).length 0,.slice none ((([]:List Nat))).length 0,.slice none (((([]:List Nat)))).length 0,bA kO jl kP] (bJ cells c9 cS c_ table kk kl known ix iy most b [] none 0 0 [] none 0 0 hY hZ kI kJ kK kL jH kM kN jl kO kP g1 nB nz nA) RP RQ (eP lH (.tuple ⟨[]⟩)) (lp.box 5 rfl) ?_;intro Ru al2 Sj dN w ah;have ow:=lp.mQ 5 rfl (xb al2 Sj);replace ow:=ow.QY;letI:=cg ah;by_cases lW:((known.length:Nat):Int)=0
    ·refine ep (er qO) hq [] (ai (jg _) (ai (eT (hd.mono ow.ext) nv) (ai bC aX))) aY ?_ ah
     refine xc (enc:=iQ) (xs:=[true]) (q:=25) (bh:=λhP=>(bJ cells c9 cS c_ table kk kl known ix iy most b [] none 0 0 [] none 0 0 hY hZ kI kJ kK kL jH kM kN jl kO kP g1 nB nz nA hP)) HZ l4 rfl cz cz U U (gv rfl) H0 (λ_ _=>gb) Cp (λ_=>rfl) ?_;intro Lp g4 Sk al3 Sl Cq Sm;have o5:=ow.new (uC Sk Sl Cq Sm);letI:=cg ah;obtain⟨rJ,Sn⟩:=iT (List.replicate (cells.length) true);refine hH (Y:=dY) (bh:=λa6=>(bJ cells c9 cS c_ table kk kl known ix iy most b [] none 0 0 [] none 0 0 hY hZ kI kJ kK kL jH kM kN jl kO kP g1 nB nz nA g4 rJ a6.1 a6.2)) o5 [11] (λa6=>[_]) (λa6=>[tz a6.1 rJ a6.2]) RS H6 (eP CA 26) (fI:=λw hw cC aw=>by rw[Sn];exact alC _ aw (cells.length) ar) (rest:= ?_);intro Sp ⟨uV,uW⟩ uX dN w ah;replace uX:=uX.Et;letI:=cg ah;refine ep (er CB) gf [] (ai (jg _) (ai ln (ai (jG 30 14 1) aX))) aY ?_ ah;refine Hr 14 [I b.1,I b.2.1,I b.2.2.1,I b.2.2.2.1,I b.2.2.2.2.1,I b.2.2.2.2.2,bA hY cells hZ,I b.1,I b.2.1,I b.2.2.1,I b.2.2.2.1,I b.2.2.2.2.1,I b.2.2.2.2.2,bA kI cells kJ,bA uV rJ uW,.slice none 0 0,bA kK table kL,bA kM jH kN,I most,.slice none ([]:List iN).length 0,.slice none (([]:List az)).length 0,.slice none ((([]:List Nat))).length 0,.slice none (((([]:List Nat)))).length 0,bA kO jl kP] (bJ cells c9 cS c_ table kk kl known ix iy most b [] none 0 0 [] none 0 0 hY hZ kI kJ kK kL jH kM kN jl kO kP g1 nB nz nA g4 rJ uV uW) alO alP (eP CD (.tuple ⟨[]⟩)) (uX.box 5 rfl) ?_;intro Sq al4 al5 dN w ah;have tM:=uX.mQ 5 rfl (xb al4 al5);replace tM:=tM.Et;letI:=cg ah;refine ep (er CE) l8 [] (ai (jg _) (ai ln (ai (jG 30 14 1) (ai (qJ 14 5 tM) aX)))) aY ?_ ah;obtain⟨wm,abt⟩:=iT (rJ);refine hH (Y:=dY) (bh:=λa6=>(bJ cells c9 cS c_ table kk kl known ix iy most b [] none 0 0 [] none 0 0 hY hZ kI kJ kK kL jH kM kN jl kO kP g1 nB nz nA g4 rJ uV uW wm a6.1 a6.2)) tM [] (λa6=>[]) (λa6=>[tz a6.1 wm a6.2]) R0 alQ (eP CG 27) (fI:=λw hw cC aw=>by rw[abt];exact Gk (HH.any _ (((tM.arr 12 rfl).arr l4).mono hw) (by (rw[Sn,mc];omega)))) (rest:= ?_);intro al6 ⟨iz,iA⟩ AK dN w ah;replace AK:=AK.QZ;letI:=cg ah;refine ep (er CH) nX [] (ai (jg _) (ai ln (ai (jG 30 15 1) aX))) aY ?_ ah;refine Hr 15 [I b.1,I b.2.1,I b.2.2.1,I b.2.2.2.1,I b.2.2.2.2.1,I b.2.2.2.2.2,bA hY cells hZ,I b.1,I b.2.1,I b.2.2.1,I b.2.2.2.1,I b.2.2.2.2.1,I b.2.2.2.2.2,bA kI cells kJ,bA uV rJ uW,bA iz wm iA,bA kK table kL,bA kM jH kN,I most,.slice none ([]:List iN).length 0,.slice none (([]:List az)).length 0,.slice none ((([]:List Nat))).length 0,.slice none (((([]:List Nat)))).length 0,bA kO jl kP] (bJ cells c9 cS c_ table kk kl known ix iy most b [] none 0 0 [] none 0 0 hY hZ kI kJ kK kL jH kM kN jl kO kP g1 nB nz nA g4 rJ uV uW wm iz iA) R2 alR (eP ED (.tuple ⟨[]⟩)) (AK.box 5 rfl) ?_;intro abu al7 al8 dN w ah;have CK:=AK.mQ 5 rfl (xb al7 al8);replace CK:=CK.QZ;letI:=cg ah;refine ep (er EE) et [] (ai (jg _) aX) aY ?_ ah;refine ta (f':=(λ(⟨M,uT,za,zb,AL,oz⟩:Mem×List Nat×Option Addr×Nat×List Bool×Nat)=>aS M (bJ cells c9 cS c_ table kk kl known ix iy most b uT za zb oz [] none 0 0 hY hZ kI kJ kK kL jH kM kN jl kO kP g1 nB nz nA g4 rJ uV uW wm iz iA))) (λ(⟨M,uT,za,zb,AL,oz⟩:Mem×List Nat×Option Addr×Nat×List Bool×Nat)=>bH W.heap.size (aF W) [] M [qa hY cells hZ,qa kI cells kJ,K9 kK table kL,Ao kM jH kN,Ap kO jl.length kP AL,ij g1 80 [I b.1,I b.2.1,I b.2.2.1,I b.2.2.2.1,I b.2.2.2.2.1,I b.2.2.2.2.2,bA hY cells hZ,I b.1,I b.2.1,I b.2.2.1,I b.2.2.2.1,I b.2.2.2.2.1,I b.2.2.2.2.2,bA kI cells kJ,bA uV rJ uW,bA iz wm iA,bA kK table kL,bA kM jH kN,I most,.slice none ([]:List iN).length 0,.slice none (([]:List az)).length 0,.slice none ((([]:List Nat))).length 0,bA za uT zb,bA kO jl kP],pV z' 3 vH (.slice none ([]:List iN).length 0) ([]:List iN),pV z_ 5 kz (.slice none (([]:List az)).length 0) (([]:List az)),h2 te 1 p1 (.slice none ((([]:List Nat))).length 0) ((([]:List Nat))),yU za uT zb,tz uV rJ uW,tz iz wm iA]/\(oz<=cells.length/\uT=List.range oz/\AL=jw cells.length oz/\AL.length=cells.length/\uT.length=oz)) (λ(⟨M,uT,za,zb,AL,oz⟩:Mem×List Nat×Option Addr×Nat×List Bool×Nat)=>cells.length-oz) ⟨abu,(((([]:List Nat)))),none,0,jl,0⟩ R4 gb (λ_ _ h=>h) (by exact⟨(CK.pick [0,1,2,3,4,5,6,7,8,9,12,13] rfl),by exact⟨Nat.zero_le _,rfl,by rw[Ly];exact(aa9 _).symm,ar,rfl⟩⟩) ?_;intro⟨M,uT,za,zb,AL,oz⟩ bg dN w ah;letI:=cg ah;refine s' R5 R6 ?_;have qP:=bg.1;have Lz:=bg.2.1;have al9:=bg.2.2.2.2.1;have al':=bg.2.2.2.2.2;by_cases z0:((oz:Nat):Int)<((cells.length:Nat):Int)
     ·refine bK rD [] (ai (jg _) (ai bC aX)) aY ?_ ah
      obtain⟨EK,Sr⟩:=iT (mw uT AL (oz));obtain⟨abv,Ss⟩:=iT (nw AL (oz));refine hH (Y:=dY) (bh:=λa6=>(bJ cells c9 cS c_ table kk kl known ix iy most b uT za zb oz [] none 0 0 hY hZ kI kJ kK kL jH kM kN jl kO kP g1 nB nz nA g4 rJ uV uW wm iz iA EK a6.1 a6.2)) qP [9,4,5] (λa6=>[Er _ _ _ a6.1 EK a6.2,Es _ _ _ kO jl.length kP abv,ij _ _ [_,_,_,_,_,_,_,_,_,_,_,_,_,_,_,_,_,_,_,_,_,_,bA a6.1 EK a6.2,_]]) (λ_=>[]) alS alT (eP Ez (.tuple ⟨[]⟩)) (fI:=λw hw cC aw=>by rw[Sr,Ss];exact RV.any (xa:=xg [I b.1,I b.2.1,I b.2.2.1,I b.2.2.2.1,I b.2.2.2.2.1,I b.2.2.2.2.2,bA hY cells hZ,I b.1,I b.2.1,I b.2.2.1,I b.2.2.2.1,I b.2.2.2.2.1,I b.2.2.2.2.2,bA kI cells kJ,bA uV rJ uW,bA iz wm iA,bA kK table kL,bA kM jH kN,I most,.slice none ([]:List iN).length 0,.slice none (([]:List az)).length 0,.slice none ((([]:List Nat))).length 0] 0) _ aw (oz) ar ar) (rest:= ?_);intro abw ⟨jS,jT⟩ CL dN w ah;replace CL:=CL.Cb;letI:=cg ah;refine ep (er Ia) wh [] (ai (jg _) (ai k5 aX)) aY ?_ ah;exact tu ⟨abw,EK,jS,jT,abv,oz+1⟩ alU gb (by exact⟨CL,by have aw:=aa' (show oz<cells.length by omega) bg.2.2.1 bg.2.2.2.1;exact⟨ar,by rw[Sr];exact aw.1,by rw[Ss];exact aw.2,by rw[Ss,KB];omega,by rw[Sr,aw.1,List.length_range]⟩⟩)
     ·refine bK wi [] (ai (jg _) (ai bf aX)) aY ?_ ah
      refine nV et [] (ai (jg _) aX) aY ?_;exact bP alV λw2 br=>(by (have aj:oz=cells.length:=ar;have aA:=bg.2.2.1;have hw:=bg.2.2.2.1;rw[aj] at aA hw;rw[aQ (show pE b cells table known most from ⟨bt,ar,ar⟩),alD (show known.length=0 by omega)];subst abt;rw[<-Sn];rw[<-aA,<-hw,<-Lx];exact⟨_,((_,_),(_,_,_),(_,_,_),(_,_,_),(_,_,_),(_,_,_),(_,_,_),(_,_,_)),rfl,((qP.pick [6,7,8,9,4,3,1,2,11,0,10,5] rfl).done br)⟩))
    ·refine ep (er qO) y1 [] (ai (jg _) (ai (eT (hd.mono ow.ext) nv) (ai bf (ai ln (ai (jG 30 14 1) (ai (qJ 14 5 ow) aX)))))) aY ?_ ah
     obtain⟨wo,abx⟩:=iT (nB);refine hH (Y:=dY) (bh:=λa6=>(bJ cells c9 cS c_ table kk kl known ix iy most b [] none 0 0 [] none 0 0 hY hZ kI kJ kK kL jH kM kN jl kO kP g1 nB nz nA 0 [] none 0 [] none 0 [] none 0 wo a6.1 a6.2)) ow [] (λa6=>[]) (λa6=>[tz a6.1 wo a6.2]) R8 alW (eP CJ 33) (fI:=λw hw cC aw=>by rw[abx];exact Gk (HH.any _ (((ow.arr 10 rfl).arr l4).mono hw) (by (rw[Si];omega)))) (rest:= ?_);intro Lp ⟨ze,zf⟩ o5 dN w ah;replace o5:=o5.Cb;letI:=cg ah;refine ep (er R9) nX [] (ai (jg _) (ai ln (ai (jG 30 15 1) aX))) aY ?_ ah;refine Hr 15 [I b.1,I b.2.1,I b.2.2.1,I b.2.2.2.1,I b.2.2.2.2.1,I b.2.2.2.2.2,bA hY cells hZ,I b.1,I b.2.1,I b.2.2.1,I b.2.2.2.1,I b.2.2.2.2.1,I b.2.2.2.2.2,bA kI cells kJ,bA nz nB nA,bA ze wo zf,bA kK table kL,bA kM jH kN,I most,.slice none ([]:List iN).length 0,.slice none (([]:List az)).length 0,.slice none ((([]:List Nat))).length 0,.slice none (((([]:List Nat)))).length 0,bA kO jl kP] (bJ cells c9 cS c_ table kk kl known ix iy most b [] none 0 0 [] none 0 0 hY hZ kI kJ kK kL jH kM kN jl kO kP g1 nB nz nA 0 [] none 0 [] none 0 [] none 0 wo ze zf) R' alX (eP EI (.tuple ⟨[]⟩)) (o5.box 5 rfl) ?_;intro Sp al_ ama dN w ah;have uX:=o5.mQ 5 rfl (xb al_ ama);replace uX:=uX.Cb;letI:=cg ah;refine ep (er EJ) et [] (ai (jg _) aX) aY ?_ ah;refine ta (f':=(λ(⟨M,uU,zc,zd,AM,oA⟩:Mem×List Nat×Option Addr×Nat×List Bool×Nat)=>aS M (bJ cells c9 cS c_ table kk kl known ix iy most b [] none 0 0 uU zc zd oA hY hZ kI kJ kK kL jH kM kN jl kO kP g1 nB nz nA 0 [] none 0 [] none 0 [] none 0 wo ze zf))) (λ(⟨M,uU,zc,zd,AM,oA⟩:Mem×List Nat×Option Addr×Nat×List Bool×Nat)=>bH W.heap.size (aF W) [] M [qa hY cells hZ,qa kI cells kJ,K9 kK table kL,Ao kM jH kN,Ap kO jl.length kP AM,ij g1 80 [I b.1,I b.2.1,I b.2.2.1,I b.2.2.2.1,I b.2.2.2.2.1,I b.2.2.2.2.2,bA hY cells hZ,I b.1,I b.2.1,I b.2.2.1,I b.2.2.2.1,I b.2.2.2.2.1,I b.2.2.2.2.2,bA kI cells kJ,bA nz nB nA,bA ze wo zf,bA kK table kL,bA kM jH kN,I most,.slice none ([]:List iN).length 0,.slice none (([]:List az)).length 0,.slice none ((([]:List Nat))).length 0,bA zc uU zd,bA kO jl kP],pV z' 3 vH (.slice none ([]:List iN).length 0) ([]:List iN),pV z_ 5 kz (.slice none (([]:List az)).length 0) (([]:List az)),h2 te 1 p1 (.slice none ((([]:List Nat))).length 0) ((([]:List Nat))),yU zc uU zd,tz nz nB nA,tz ze wo zf]/\(oA<=cells.length/\uU=List.range oA/\AM=jw cells.length oA/\AM.length=cells.length/\uU.length=oA)) (λ(⟨M,uU,zc,zd,AM,oA⟩:Mem×List Nat×Option Addr×Nat×List Bool×Nat)=>cells.length-oA) ⟨Sp,(((([]:List Nat)))),none,0,jl,0⟩ alY gb (λ_ _ h=>h) (by exact⟨uX,by exact⟨Nat.zero_le _,rfl,by rw[Ly];exact(aa9 _).symm,ar,rfl⟩⟩) ?_;intro⟨M,uU,zc,zd,AM,oA⟩ bg dN w ah;letI:=cg ah;refine s' alZ Sb ?_;have aby:=bg.1;have Lz:=bg.2.1;have al9:=bg.2.2.2.2.1;have al':=bg.2.2.2.2.2;by_cases z0:((oA:Nat):Int)<((cells.length:Nat):Int)
     ·refine bK y2 [] (ai (jg _) (ai bC aX)) aY ?_ ah
      obtain⟨EL,St⟩:=iT (mw uU AM (oA));obtain⟨abz,Su⟩:=iT (nw AM (oA));refine hH (Y:=dY) (bh:=λa6=>(bJ cells c9 cS c_ table kk kl known ix iy most b [] none 0 0 uU zc zd oA hY hZ kI kJ kK kL jH kM kN jl kO kP g1 nB nz nA 0 [] none 0 [] none 0 [] none 0 wo ze zf EL a6.1 a6.2)) aby [9,4,5] (λa6=>[Er _ _ _ a6.1 EL a6.2,Es _ _ _ kO jl.length kP abz,ij _ _ [_,_,_,_,_,_,_,_,_,_,_,_,_,_,_,_,_,_,_,_,_,_,bA a6.1 EL a6.2,_]]) (λ_=>[]) al0 al1 (eP Ii (.tuple ⟨[]⟩)) (fI:=λw hw cC aw=>by rw[St,Su];exact RV.any (xa:=xg [I b.1,I b.2.1,I b.2.2.1,I b.2.2.2.1,I b.2.2.2.2.1,I b.2.2.2.2.2,bA hY cells hZ,I b.1,I b.2.1,I b.2.2.1,I b.2.2.2.1,I b.2.2.2.2.1,I b.2.2.2.2.2,bA kI cells kJ,bA nz nB nA,bA ze wo zf,bA kK table kL,bA kM jH kN,I most,.slice none ([]:List iN).length 0,.slice none (([]:List az)).length 0,.slice none ((([]:List Nat))).length 0] 0) _ aw (oA) ar ar) (rest:= ?_);intro Sq ⟨Sg,Sh⟩ tM dN w ah;replace tM:=tM.Cb;letI:=cg ah;refine ep (er Ij) AD [] (ai (jg _) (ai k5 aX)) aY ?_ ah;exact tu ⟨Sq,EL,Sg,Sh,abz,oA+1⟩ Sd gb (by exact⟨tM,by have aw:=aa' (show oA<cells.length by omega) bg.2.2.1 bg.2.2.2.1;exact⟨ar,by rw[St];exact aw.1,by rw[Su];exact aw.2,by rw[Su,KB];omega,by rw[St,aw.1,List.length_range]⟩⟩)
     ·refine bK HU [] (ai (jg _) (ai bf aX)) aY ?_ ah
      refine nV et [] (ai (jg _) aX) aY ?_;exact bP Se λw2 br=>(by (have aj:oA=cells.length:=ar;have aA:=bg.2.2.1;have hw:=bg.2.2.2.1;rw[aj] at aA hw;rw[aQ (show pE b cells table known most from ⟨bt,ar,ar⟩),alE (show known.length≠0 by omega)];subst abx;rw[<-Si];rw[<-aA,<-hw,<-Lx];exact⟨_,((_,_),(_,_,_),(_,_,_),(_,_,_),(_,_,_),(_,_,_),(_,_,_),(_,_,_)),rfl,((aby.pick [6,7,8,9,4,3,1,2,11,0,10,5] rfl).done br)⟩))
 ·refine bK HV HW (ai (jg _) (ai tv aX)) (cL (Lu U U U U hJ (aK.mono aN.ext) (hd.mono aN.ext) bS ar h9) aY) ?_ ah
  exact bP Sf λw2 br=>(by (rw[aU (λq:pE b cells table known most=>by have q1:=q.1;have aE:=q.2.1;have ca:=q.2.2;omega)];rfl))
end abq
end AE
namespace AE
theorem abA (W:ax) {g:Nat} {A:de} {e:bW} (h:cv (aF W) [c7 g A e]) (ff:gd e.table e.b e.u) (ao:e.u.reqs.length<=10000):
 Calls Tryd.prog 12 #[ch g] W λx w'=>(∃a_:de,x= .returned (.int .i64 (((h' e.table e.b (hn e.b e.u) e.u).1:Nat):Int))/\c5 (aF W) [c7 g A e] (aF w') [c7 g a_ {e with u:=(h' e.table e.b (hn e.b e.u) e.u).2}])/\cb 0 W w':=abb.any W h ff ao
theorem abB (W:ax) {g:Nat} {A:de} {e:bW} (h:cv (aF W) [c7 g A e]) (n:Int) (ff:gd e.table e.b e.u) (ao:e.u.reqs.length<=10000):
 Calls Tryd.prog 10 #[ch g,.int .i64 n] W λx w'=>(∃a_:de,x= .returned (.int .i64 (((h' e.table e.b n.toNat e.u).1:Nat):Int))/\c5 (aF W) [c7 g A e] (aF w') [c7 g a_ {e with u:=(h' e.table e.b n.toNat e.u).2}])/\cb 0 W w':=abd.any W h n ff ao
theorem abC (W:ax) {g:Nat} {A:de} {e:bW} (h:cv (aF W) [c7 g A e]):
  Calls Tryd.prog 11 #[ch g] W λx w'=>(∃_:Unit,x= .returned (.bool (decide (e.u.bE.length=0/\e.u.bu.length=0/\e.u.reqs.length=0)))/\c5 (aF W) [c7 g A e] (aF w') [c7 g A e])/\cb 0 W w':=by
 obtain⟨⟨li,fp,go,ru,uY,re,it,sh⟩,b,table,cells,known,most⟩:=e;have aw:=h.Ch;refine(abe.any W (xa:=xg (xv A ⟨⟨li,fp,go,ru,uY,re,it,sh⟩,b,table,cells,known,most⟩) 0) (aw.pick [0,1,3,11] rfl)).mono λx w' ak=> ?_
 obtain⟨⟨y,rfl,t⟩,hl⟩:=ak;have t2:=c5.alF aw [0,1,3,11] U U U t;exact⟨⟨(),rfl,t2.packed⟩,hl⟩
theorem LA (W:ax) {g:Nat} {A:de} {e:bW} (h:cv (aF W) [c7 g A e]) (av:e.u.aH.length<=100000):
  Calls Tryd.prog 15 #[ch g] W λx w'=>(∃y:dY,x= .returned (.slice y.1 e.u.aH.length y.2)/\c5 (aF W) [c7 g A e] (aF w') [c7 g A e,h2 p2 4 dM (.slice y.1 e.u.aH.length y.2) e.u.aH])/\cb 0 W w':=by
 obtain⟨⟨li,fp,go,ru,uY,re,it,sh⟩,b,table,cells,known,most⟩:=e;have aw:=h.Ch;refine(abf.any W (xa:=xg (xv A ⟨⟨li,fp,go,ru,uY,re,it,sh⟩,b,table,cells,known,most⟩) 0) (eu:=xg (xv A ⟨⟨li,fp,go,ru,uY,re,it,sh⟩,b,table,cells,known,most⟩) 18) (aw.pick [5,11] rfl) av).mono λx w' ak=> ?_
 obtain⟨⟨y,rfl,t⟩,hl⟩:=ak;have t2:=c5.lift (L':=[h2 p2 4 dM (dq A.l) li,ij g yH (xv A ⟨⟨li,fp,go,ru,uY,re,it,sh⟩,b,table,cells,known,most⟩)]) (N:=[h2 p2 4 dM (.slice y.1 li.length y.2) li]) aw [5,11] U U U t;exact⟨⟨y,rfl,c5.Pq t2⟩,hl⟩
theorem amb (W:ax) {g:Nat} {A:de} {e:bW} (h:cv (aF W) [c7 g A e]) (av:e.known.length<=100000):
  Calls Tryd.prog 17 #[ch g] W λx w'=>(∃y:dY,x= .returned (.slice y.1 e.known.length y.2)/\c5 (aF W) [c7 g A e] (aF w') [c7 g A e,h2 mv 1 iQ (.slice y.1 e.known.length y.2) e.known])/\cb 0 W w':=by
 obtain⟨⟨li,fp,go,ru,uY,re,it,sh⟩,b,table,cells,known,most⟩:=e;have aw:=h.Ch;refine(abh.any W (xa:=xg (xv A ⟨⟨li,fp,go,ru,uY,re,it,sh⟩,b,table,cells,known,most⟩) 0) (eu:=xg (xv A ⟨⟨li,fp,go,ru,uY,re,it,sh⟩,b,table,cells,known,most⟩) 15) (aw.pick [10,11] rfl) av).mono λx w' ak=> ?_
 obtain⟨⟨y,rfl,t⟩,hl⟩:=ak;have t2:=c5.lift (L':=[h2 mv 1 iQ (dq A.k) known,ij g yH (xv A ⟨⟨li,fp,go,ru,uY,re,it,sh⟩,b,table,cells,known,most⟩)]) (N:=[h2 mv 1 iQ (.slice y.1 known.length y.2) known]) aw [10,11] U U U t;exact⟨⟨y,rfl,c5.Pq t2⟩,hl⟩
theorem Sv (W:ax) {g:Nat} {A:de} {e:bW} (h:cv (aF W) [c7 g A e]) (av:e.cells.length<=100000):
  Calls Tryd.prog 22 #[ch g] W λx w'=>(∃y:dY,x= .returned (l_ e.b (.slice y.1 e.cells.length y.2))/\c5 (aF W) [c7 g A e] (aF w') [c7 g A e,h2 lE 1 ga (.slice y.1 e.cells.length y.2) e.cells])/\cb 0 W w':=by
 obtain⟨⟨li,fp,go,ru,uY,re,it,sh⟩,b,table,cells,known,most⟩:=e;have aw:=h.Ch;refine(abp.any W (xa:=xg (xv A ⟨⟨li,fp,go,ru,uY,re,it,sh⟩,b,table,cells,known,most⟩) 7) (aw.pick [9,11] rfl) av).mono λx w' ak=> ?_
 obtain⟨⟨y,rfl,t⟩,hl⟩:=ak;have t2:=c5.lift (L':=[h2 lE 1 ga (dq A.c) cells,ij g yH (xv A ⟨⟨li,fp,go,ru,uY,re,it,sh⟩,b,table,cells,known,most⟩)]) (N:=[h2 lE 1 ga (.slice y.1 cells.length y.2) cells]) aw [9,11] U U U t;exact⟨⟨y,rfl,c5.Pq t2⟩,hl⟩
theorem abD (W:ax) {g:Nat} {A:de} {e:bW} (h:cv (aF W) [c7 g A e]) (p:dW) (c:Int) (ae:okB e.b) (hl:e.cells.length=(fg e.b).toNat) (aj:e.known.length=e.cells.length) (ao:e.u.reqs.length<=400000):
  Calls Tryd.prog 18 #[ch g,P.val p,.int .i64 c] W λx w'=>(∃a_:de,x= .returned (.int .i64 (lN e.b e.most p e.u.reqs c))/\c5 (aF W) [c7 g A e] (aF w') [c7 g a_ (jk e p c)])/\cb 0 W w':=by
 refine(abl.any h.Ch p c ae hl aj ao).mono λx w' ak=> ?_
 obtain⟨⟨a_,rfl,t⟩,hl⟩:=ak;exact⟨⟨a_,rfl,t.packed⟩,hl⟩
theorem abE (W:ax) {g:Nat} {A:de} {e:bW} (h:cv (aF W) [c7 g A e]) (p:dW) (k:Bool) (ae:okB e.b) (hl:e.cells.length=(fg e.b).toNat) (aj:e.known.length=e.cells.length) (ao:e.u.reqs.length<=400000):
  Calls Tryd.prog 19 #[ch g,P.val p,.bool k] W λx w'=>(∃a_:de,x= .returned (.int .i64 (j1 e.b e.most p e.u.reqs))/\c5 (aF W) [c7 g A e] (aF w') [c7 g a_ (j_ e p k)])/\cb 0 W w':=by
 refine(abm.any h.Ch p k ae hl aj ao).mono λx w' ak=> ?_
 obtain⟨⟨a_,rfl,t⟩,hl⟩:=ak;exact⟨⟨a_,rfl,t.packed⟩,hl⟩
def lO (b:bQ) (cells:List Int) (table:List cX) (known:List Bool) (most:Int):bW:=
 ⟨⟨List.replicate cells.length Aa,[],[],List.range cells.length,jw cells.length cells.length,[],cells,wk known cells.length⟩,b,table,cells,wk known cells.length,most⟩
theorem abF (W:ax) {c9:Option Addr} {cS c_:Nat} {cells:List Int} (hJ:cu (aF W) 1 ga (.slice c9 cS c_) cells) {b:bQ} {ox oy:J} {table:List cX} {known:List Bool} (aK:cu (aF W) 8 jf ox table) (hd:cu (aF W) 1 iQ oy known) (most:Int)
  (bS:mn (aF W)) (av:cells.length<=10000) (h9:cS=cells.length) (mr:known.length<=100000) (y7:table.length<=100000):
  Calls Tryd.prog 9 #[l_ b (.slice c9 cS c_),ox,oy,.int .i64 most] W λx w'=>(if pE b cells table known most then (∃(g:Nat) (A:de),x= .returned (.tuple ⟨[ch g,.int .i64 0]⟩)/\c5 (aF W) [] (aF w') [c7 g A (lO b cells table known most)]) else x= .returned (.tuple ⟨[.pointer none,.int .i64 1]⟩))/\cb W.heap.size W w':=by
 refine(abq.any W hJ aK hd most bS av h9 mr y7).mono λx w' ak=> ?_
 obtain⟨h,hl⟩:=ak;refine⟨?_,hl⟩;split at h
 ·rename_i ae
  rw[aQ ae];obtain⟨g,y,rfl,t⟩:=h;have hp:c5 (aF W) [] (aF w') [c7 g ⟨(none,0),(none,0),(none,0),y.1,y.2.1,y.2.2.1,y.2.2.2.1,y.2.2.2.2.1,y.2.2.2.2.2.1,y.2.2.2.2.2.2.1,y.2.2.2.2.2.2.2⟩ (lO b cells table known most)]:=⟨t.sp.packed,t.keeps,λb ae=>t.fresh b (D8.1 ae)⟩;exact⟨g,_,rfl,hp⟩
 ·rename_i ae
  rw[aU ae];exact h
end AE
namespace AE
theorem Sw {table:List cX} (h:(mB table).2=0):Zx table:=by
 have aC:∀i,i<table.length->hr (table.getD i default):=by
  unfold mB at h;split at h
  ·cases h
  ·split at h
   ·cases h
   ·split at h
    ·cases h
    ·split at h
     ·rename_i i ag
      simp only at h;split at h<;>cases h
     ·rename_i sY
      intro i ag;have:=List.find?_eq_none.1 sY i (List.mem_range.2 ag);simp only [decide_eq_true_eq] at this;unfold y5 at this;exact Classical.not_not.1 λah=>this (.inl ah)
 intro c;unfold eG;split
 ·rename_i aq
  have:=aC c.toNat ar;unfold hr at this;obtain⟨_,_,ad,af,ay,bD,cD,cI,fK,o8⟩:=this;refine⟨ad,af,λi ag=> ?_⟩
  match i,ag with
  |0,_=>exact⟨ay,bD⟩
  |1,_=>exact⟨cD,cI⟩
  |2,_=>exact⟨fK,o8⟩
 ·refine⟨cz,cz,λi ag=> ?_⟩
  match i,ag with
  |0,_=>exact⟨cz,cz⟩
  |1,_=>exact⟨cz,cz⟩
  |2,_=>exact⟨cz,cz⟩
theorem abG {b:bQ} {cells:List Int} {table:List cX} {known:List Bool} (h:y6 b cells table known=0):Lt b cells table known:=by
 unfold y6 at h;split at h
 ·assumption
 ·cases h
theorem amc {known:List Bool} {n:Nat} (h:known.length=0\/known.length=n):(wk known n).length=n:=by
 unfold wk;split
 ·simp
 ·omega
theorem abH (n:Nat):jw n n=List.replicate n true:=Z_ n
theorem amd {b:bQ} {cells:List Int} {table:List cX} {known:List Bool} {most:Int} (h:pE b cells table known most) (av:cells.length<=10000):
  gd table b (lO b cells table known most).u/\(lO b cells table known most).cells.length=(lO b cells table known most).u.bZ.length/\(lO b cells table known most).known.length=(lO b cells table known most).u.bZ.length/\hn b (lO b cells table known most).u<=361*cells.length:=by
 obtain⟨ad,⟨af,ay,bD,cD,cI⟩,fK⟩:=abG h.1;have aj:=amc fK;have aC:(fg b).toNat=cells.length:=by omega
 have j5:(gK b).N=cells.length:=(Zt af).trans aC;have bI:dy (List.replicate cells.length Aa)=λ_ _=>0:=by
  funext k c;unfold dy;have:(List.replicate cells.length Aa).getD k z4=z4:=by
   rw[dh,List.getElem?_replicate];split<;>rfl
  rw[this];exact GC c
 have aN:(iw table (lO b cells table known most).u.lit (lO b cells table known most).u.bZ).k3 (gK b).N:=⟨λk _=>(Sw ad _).1,λk c _ aq=>(Sw ad _).2.2 c aq⟩;have hw:qD (gK b) (iw table (lO b cells table known most).u.lit (lO b cells table known most).u.bZ) (hg (lO b cells table known most).u):=by
  refine⟨by show (List.replicate cells.length Aa).length=_;rw[mc,j5],⟨?_,?_,?_,?_⟩,λ_=>⟨rfl,?_⟩,λcO=>absurd rfl cO⟩
  ·show (jw cells.length cells.length).length=_
   rw[abH,mc,j5]
  ·exact List.nodup_range
  ·intro k aj
   rw[j5];exact List.mem_range.1 aj
  ·intro k aj
   rw[j5] at aj;show (jw cells.length cells.length).getD k false=true↔k∈List.range cells.length;rw[abH,dh,List.getElem?_replicate,aQ aj];simp [aj]
  ·show po (gK b) _ (dy (List.replicate cells.length Aa)) (· ∈List.range cells.length)
   rw[bI];exact po.zero aN λk aj=>List.mem_range.2 (by rw[<-j5];exact aj)
 have ame:mu (gK b).N (hg (lO b cells table known most).u)<=361*cells.length:=by
  unfold mu;rw[aQ (show (hg (lO b cells table known most).u).bE=[] from rfl)];have:=Xq hw;have aA:(hg (lO b cells table known most).u).bu.length=cells.length:=List.length_range;omega
 refine⟨⟨Sw ad,af,?_,?_,?_,hw,⟨λx ak=>(by cases ak),?_⟩,?_,λx ak=>(by cases ak)⟩,?_,?_,?_⟩
 ·show (wk known cells.length).length=_
  rw[aj,aC]
 ·show cells.length=(wk known cells.length).length
  rw[aj]
 ·show (wk known cells.length).length<=_
  rw[aj];exact av
 ·have:=GG (hg (lO b cells table known most).u)
  show 0+_<=_;omega
 ·unfold qC
  rw[j5] at ame ⊢;omega
 ·exact aj.symm
 ·rfl
 ·unfold hn
  show mu (gK b).N (hg (lO b cells table known most).u)+qC (gK b).N*0<=_;omega
end AE
namespace AE
abbrev gu:=Int×Int×Int×Int×Int×Bool
abbrev CM:aJ:=39
theorem Sx:Tryd.prog.underlying 31=some (.slice CM):=au
def xF (x:Int×Int×Int×Int×Int×Bool):List J:=[.int .i64 x.1,.int .i64 x.2.1,.int .i64 x.2.2.1,.int .i64 x.2.2.2.1,.int .i64 x.2.2.2.2.1,.bool x.2.2.2.2.2]
theorem amf:∀x,(xF x).length=6:=λ_=>rfl
abbrev Y.val (x:gu):J:= .agg ⟨xF x⟩
def xG:List iN->List Int×List Bool->List Int×List Bool
 |[],s=>s
 |x::r,s=>xG r (s.1.set x.1 x.2.1,s.2.set x.1 x.2.2)
structure gg (e:bW):Prop where
 oB:gd e.table e.b e.u
 lc:e.cells.length=e.u.bZ.length
 kX:e.known.length=e.u.bZ.length
 EM:e.u.reqs.length<=10000
 zZ:xG e.u.reqs (e.u.lit,e.u.bZ)=(e.cells,e.known)
theorem gg.EN {e:bW} (h:gg e):e.cells.length=(fg e.b).toNat:=h.lc.trans h.oB.len
theorem gg.LB {e:bW} (h:gg e):e.known.length=e.cells.length:=h.kX.trans h.lc.symm
theorem gg.LC {e:bW} (h:gg e):e.u.reqs.length<=400000:=Nat.le_trans h.EM cz
def mC (e:bW) (n:Int):bW:={e with u:=(h' e.table e.b n.toNat e.u).2}
def jI (e:bW):bW:={e with u:=(h' e.table e.b (hn e.b e.u) e.u).2}
def k9 (x:gu):dW:=(x.2.2.1,x.2.2.2.1,x.2.2.2.2.1)
def km (e:bW) (x:gu):bW:=if x.1=1 then jk e (k9 x) x.2.1 else if x.1=2 then j_ e (k9 x) x.2.2.2.2.2 else if x.1=3 then mC e x.2.1 else if x.1=4 then jI e else e
def qh (e:bW) (x:gu):Int:=if x.1=1 then lN e.b e.most (k9 x) e.u.reqs x.2.1 else if x.1=2 then j1 e.b e.most (k9 x) e.u.reqs else 0
theorem EO {e:bW} {x:gu} (h:x.1=1):km e x=jk e (k9 x) x.2.1/\qh e x=lN e.b e.most (k9 x) e.u.reqs x.2.1:=⟨aQ h,aQ h⟩
theorem EP {e:bW} {x:gu} (ad:¬x.1=1) (h:x.1=2):km e x=j_ e (k9 x) x.2.2.2.2.2/\qh e x=j1 e.b e.most (k9 x) e.u.reqs:=by
 unfold km qh;rw[aU ad,aU ad,aQ h,aQ h];exact⟨rfl,rfl⟩
theorem ER {e:bW} {x:gu} (ad:¬x.1=1) (af:¬x.1=2) (h:x.1=3):km e x=mC e x.2.1/\qh e x=0:=by
 unfold km qh;rw[aU ad,aU ad,aU af,aU af,aQ h];exact⟨rfl,rfl⟩
theorem ES {e:bW} {x:gu} (ad:¬x.1=1) (af:¬x.1=2) (ay:¬x.1=3) (h:x.1=4):km e x=jI e/\qh e x=0:=by
 unfold km qh;rw[aU ad,aU ad,aU af,aU af,aU ay,aQ h];exact⟨rfl,rfl⟩
theorem ET {e:bW} {x:gu} (ad:¬x.1=1) (af:¬x.1=2) (ay:¬x.1=3) (h:¬x.1=4):km e x=e/\qh e x=0:=by
 unfold km qh;rw[aU ad,aU ad,aU af,aU af,aU ay,aU h];exact⟨rfl,rfl⟩
end AE
end Go.Proofs.YtepcfjbfkedlpaaDoor
namespace Go.Proofs.YtepcfjbfkedlpaaDoor
open Go Go.ChangeShapes Go.WideShapes Go.ChangeAt Go.RowKit
section
theorem LD:Tryd.prog.cellsOf 23=3:=au
theorem amg:Tryd.prog.cellsOf 25=6:=au
theorem amh:Tryd.prog.cellsOf 28=7:=au
theorem abI:Tryd.prog.cellsOf AE.CM=6:=au
theorem ami:Tryd.prog.cellsOf 26=1:=au
theorem LF:Tryd.prog.underlying 23=some (.struct (Tryd.prog.fieldsOf 23)):=au
theorem abJ:Tryd.prog.underlying 25=some (.struct (Tryd.prog.fieldsOf 25)):=au
theorem Sy:Tryd.prog.underlying 28=some (.struct (Tryd.prog.fieldsOf 28)):=au
theorem Ik:Tryd.prog.underlying AE.CM=some (.struct (Tryd.prog.fieldsOf AE.CM)):=au
section
variable {H:Type} {enc:aJ×J->H} {W:ax} {r:Reach} {cB:Nat} {base:Nat} {oN:Nat->Bool} {oO:Bool} {v:J} {d:DataW H} {p:List MemPlace}
theorem abK {t n k:Nat} {cs:List J} {x:DataW H×List MemPlace} (hu:Tryd.prog.underlying t=some (.struct (Tryd.prog.fieldsOf t))) (aj:Tryd.prog.cellsOf t=k) (h:DataW.trod enc Tryd.prog W base oN oO n t cs=some x):cs.length=k:=by
 obtain⟨_,_,_,_,hlen,_,_⟩:=DataW.trod_struct hu h;rw[hlen,aj]
theorem EU {n:Nat} {cs:List J} {x:DataW H×List MemPlace} (h:DataW.trod enc Tryd.prog W base oN oO n 3 cs=some x):∃z:Int,cs=[.int .i64 z]:=by
 obtain⟨z,e,_⟩:=DataW.trod_int Tryd.underlying3 h;exact⟨z,e⟩
theorem abL {n:Nat} {cs:List J} {x:DataW H×List MemPlace} (h:DataW.trod enc Tryd.prog W base oN oO n 4 cs=some x):∃z:Bool,cs=[.bool z]:=by
 obtain⟨z,e,_⟩:=DataW.trod_bool Tryd.underlying4 h;exact⟨z,e⟩
theorem Sz {n:Nat} {cs:List J} {x:DataW H×List MemPlace} (h:DataW.trod enc Tryd.prog W base oN oO n 23 cs=some x):∃p:AE.dW,cs=[.int .i64 p.1,.int .i64 p.2.1,.int .i64 p.2.2]:=by
 have hlen:=abK LF LD h;obtain⟨_,ud,aM,_⟩:=nK (i:=0) (ty:=3) (off:=0) LF au zR h;obtain⟨_,vt,ad,_⟩:=nK (i:=1) (ty:=3) (off:=1) LF au zR h;obtain⟨_,vu,af,_⟩:=nK (i:=2) (ty:=3) (off:=2) LF au zR h;obtain⟨z0,e0⟩:=EU aM;obtain⟨s8,e1⟩:=EU ad;obtain⟨z2,e2⟩:=EU af
 match cs,hlen,e0,e1,e2 with
 |[dw,gM,c2],_,e0,e1,e2=>
  simp only [List.drop_zero,List.drop_succ_cons,List.take_succ_cons,List.take_zero,List.cons.injEq,and_true] at e0 e1 e2;exact⟨(z0,s8,z2),by rw[e0,e1,e2]⟩
theorem amj {n:Nat} {cs:List J} {x:DataW H×List MemPlace} (h:DataW.trod enc Tryd.prog W base oN oO n AE.CM cs=some x):∃s:AE.gu,cs=AE.xF s:=by
 have hlen:=abK Ik abI h;obtain⟨_,ud,aM,_⟩:=nK (i:=0) (ty:=3) (off:=0) Ik au zR h;obtain⟨_,vt,ad,_⟩:=nK (i:=1) (ty:=3) (off:=1) Ik au zR h;obtain⟨_,vu,af,_⟩:=nK (i:=2) (ty:=23) (off:=2) Ik au LD h;obtain⟨_,DR,ay,_⟩:=nK (i:=3) (ty:=4) (off:=5) Ik au zS h;obtain⟨z0,e0⟩:=EU aM;obtain⟨s8,e1⟩:=EU ad;obtain⟨z2,e2⟩:=Sz af;obtain⟨z3,dn⟩:=abL ay
 match cs,hlen,e0,e1,e2,dn with
 |[dw,gM,c2,c3,qZ,FQ],_,e0,e1,e2,dn=>
  simp only [List.drop_zero,List.drop_succ_cons,List.take_succ_cons,List.take_zero,List.cons.injEq,and_true] at e0 e1 e2 dn;exact⟨(z0,s8,z2.1,z2.2.1,z2.2.2,z3),by rw[e0,e1,e2.1,e2.2.1,e2.2.2,dn];rfl⟩
theorem abM {α:Type} [Inhabited α] {dM:α->List J} {k t e:Nat} (hu:Tryd.prog.underlying t=some (.slice e)) (aj:Tryd.prog.cellsOf e=k) (hK:0<k) (LG:∀x,(dM x).length=k)
  (pd:∀n cs x,DataW.trod enc Tryd.prog W base oN oO n e cs=some x->∃s:α,cs=dM s) {bm:Nat} {E_:List J} {x:DataW H×List MemPlace} (h:DataW.trod enc Tryd.prog W base oN oO bm t E_=some x):
  ∃(a:Option Addr) (n c:Nat) (l:List α),E_=[.slice a n c]/\AE.cu (AE.aF W) k dM (.slice a n c) l/\n=l.length:=by
 rcases Deep.open_slice hu h with ⟨fZ,_⟩|⟨a,len,cap,m,n,zT,iZ,fZ,ae,hl,hm,sH,ak,ag⟩
 ·exact⟨none,0,0,[],fZ,.nil _ _,rfl⟩
 ·have rW:len<=m:=by rw[sH];split<;>omega
  have BH:∀i,i<len->∃s:α,∀j u,(dM s)[j]? =some u->W.cell? (a.add (i*k+j))=some u:=λi pk=>by
   obtain⟨cs',aq,aK⟩:=ag i ar;rw[aj] at aq;obtain⟨s,rfl⟩:=pd _ _ _ aK;obtain⟨_,_,DS⟩:=World.cells?_some aq;refine⟨s,λj u hj=> ?_⟩;have Ox:j<k:=by have:=(List.getElem?_eq_some_iff.1 hj).1;rwa [LG] at this
   rw[<-Deep.add_add,DS j Ox];exact hj
  let f:Nat->α:=λi=>if h:i<len then (BH i h).choose else default
  have aO:∀i,i<len->∀j u,(dM (f i))[j]? =some u->W.cell? (a.add (i*k+j))=some u:=λi pk=>by
   show ∀j u,(dM (if h:i<len then (BH i h).choose else default))[j]? =some u->_;rw[dif_pos pk];exact(BH i pk).choose_spec
  have hlen:((List.range len).map f).length=len:=by simp
  refine⟨some a,len,cap,(List.range len).map f,fZ,?_,hlen.symm⟩;rcases Nat.eq_zero_or_pos len with aM|aM
  ·subst aM
   exact .nil _ _
  ·obtain⟨lW,amk⟩:∃lW,(dM (f 0))[0]? =some lW:=⟨_,fA (by rw[LG];exact hK)⟩
   have og:=aO 0 aM 0 _ amk;rw[Nat.zero_mul,Nat.zero_add] at og;obtain⟨bk,off,spot⟩:=a;have Oy:∃cs ty fr,W.heap[bk]? =some (.cells cs ty fr)/\spot=none:=by
    unfold World.cell? at og;split at og
    ·rename_i gM t1 f1 lS
     split at og
     ·cases og
     ·rename_i jD
      refine⟨gM,t1,f1,lS,?_⟩;cases spot with
      |none=>rfl
      |some x=>exact absurd rfl jD
    ·cases og
   obtain⟨cs,ty,fr,jz,rfl⟩:=Oy;have key:AE.cu (AE.aF W) k dM (.slice (some ⟨bk,off,none⟩) ((List.range len).map f).length cap) ((List.range len).map f):=by
    refine .mk (cs:=cs) (ty:=ty) (fr:=fr) jz (by rw[hlen];exact hl) λi x ak j u hj=> ?_
    have pk:i<len:=by
     have:=(List.getElem?_eq_some_iff.1 ak).1
     rwa [hlen] at this
    have Oz:x=f i:=by
     rw[List.getElem?_map,List.getElem?_range pk] at ak;exact(Option.some.inj ak).symm
    subst Oz;have:=aO i pk j u hj;rw[AE.Addr.kc,cell_of_row W _ _ _ _ _ jz,<-Nat.add_assoc] at this;exact this
   rw[hlen] at key;exact key
theorem abN {α:Type} [Inhabited α] {dM:α->List J} {k t e:Nat} (hu:Tryd.prog.underlying t=some (.slice e)) (aj:Tryd.prog.cellsOf e=k) (hK:0<k) (LG:∀x,(dM x).length=k)
  (pd:∀n cs x,DataW.trod enc Tryd.prog W base oN oO n e cs=some x->∃s:α,cs=dM s) (aC:Value.okWide Tryd.prog W r cB t v) (h:DataW.Trod enc Tryd.prog W base oN oO t v d p):∃l:List α,AE.cu (AE.aF W) k dM v l:=by
 obtain⟨a0,BF,BG,rfl⟩:=okWide_slice hu aC;obtain⟨bm,h⟩:=h;obtain⟨a,n,c,l,ad,af,_⟩:=abM hu aj hK LG pd h;have e:Value.slice a0 BF BG= .slice a n c:=(List.cons.inj (show [Value.slice a0 BF BG]=[.slice a n c] from ad)).1;rw[e];exact⟨l,af⟩
theorem aml (aC:Value.okWide Tryd.prog W r cB 30 v) (h:DataW.Trod enc Tryd.prog W base oN oO 30 v d p):∃l:List Bool,AE.cu (AE.aF W) 1 AE.iQ v l:=
 abN Tryd.underlying30 zS cz (λ_=>rfl) (λ_ _ _ h=>abL h) aC h
theorem amm (aC:Value.okWide Tryd.prog W r cB 31 v) (h:DataW.Trod enc Tryd.prog W base oN oO 31 v d p):∃l:List AE.gu,AE.cu (AE.aF W) 6 AE.xF v l:=
 abN Tryd.underlying31 abI cz AE.amf (λ_ _ _ h=>amj h) aC h
theorem amn {cs:Array J} (h:cs.size=7):∃a b c d e f g,cs= #[a,b,c,d,e,f,g]:=by
 obtain⟨l⟩:=cs
 match l,h with
 |[a,b,c,d,e,f,g],_=>exact⟨a,b,c,d,e,f,g,rfl⟩
theorem amo (aC:Value.okWide Tryd.prog W r cB 28 v) (h:DataW.Trod enc Tryd.prog W base oN oO 28 v d p):∃(b:AE.bQ) (a:Option Addr) (n c:Nat) (cells:List Int),v=AE.l_ b (.slice a n c)/\AE.cu (AE.aF W) 1 AE.ga (.slice a n c) cells/\n=cells.length:=by
 obtain⟨cs,rfl,cl⟩:=okWide_struct Sy aC;rw[amh] at cl;obtain⟨fE,eA,gI,g',hI,h4,iG,rfl⟩:=amn cl;obtain⟨bm,h⟩:=h;obtain⟨_,ud,aM,_⟩:=nK (i:=0) (ty:=25) (off:=0) Sy au amg h;obtain⟨_,vt,ad,_⟩:=nK (i:=1) (ty:=26) (off:=6) Sy au ami h;obtain⟨_,z0,e4,_⟩:=nK (i:=0) (ty:=23) (off:=0) abJ au LD aM;obtain⟨_,s8,g1,_⟩:=nK (i:=1) (ty:=23) (off:=3) abJ au LD aM;obtain⟨kf,e0⟩:=Sz e4;obtain⟨q1,e1⟩:=Sz g1;obtain⟨a,n,c,l,e2,lC,av⟩:=abM (dM:=AE.ga) Tryd.underlying26 zR cz (λ_=>rfl) (λ_ _ _ h=>EU h) ad;have f0:[fE,eA,gI]=[.int .i64 kf.1,.int .i64 kf.2.1,.int .i64 kf.2.2]:=e0;have f1:[g',hI,h4]=[.int .i64 q1.1,.int .i64 q1.2.1,.int .i64 q1.2.2]:=e1;have f2:[iG]=[.slice a n c]:=e2;simp only [List.cons.injEq,and_true] at f0 f1 f2;refine⟨(kf.1,kf.2.1,kf.2.2,q1.1,q1.2.1,q1.2.2),a,n,c,l,?_,lC,av⟩;rw[f0.1,f0.2.1,f0.2.2,f1.1,f1.2.1,f1.2.2,f2]
end
end
end Go.Proofs.YtepcfjbfkedlpaaDoor
namespace Go.Proofs.YtepcfjbfkedlpaaDoor
open Go Go.Proofs Go.RowKit
namespace AE
theorem abO:∀(l:List iN) (x:iN) (s:List Int×List Bool),xG (l++[x]) s=((xG l s).1.set x.1 x.2.1,(xG l s).2.set x.1 x.2.2)
 |[],_,_=>rfl
 |_::l,x,s=>abO l x _
variable {table:List cX} {b:bQ}
theorem amp (u:iv):xG (gJ table b u).2.reqs ((gJ table b u).2.lit,(gJ table b u).2.bZ)=xG u.reqs (u.lit,u.bZ)/\(gJ table b u).2.reqs.length<=u.reqs.length:=by
 by_cases ad:0<u.bE.length
 ·rw[Hu ad]
  obtain⟨q1,aE,ca⟩:=ZA (table:=table) (b:=b) u (u.bE.getD 0 default) (u.bE.drop 1);dsimp only;rw[q1,aE,ca];exact⟨rfl,b2 _⟩
 ·by_cases af:0<u.bu.length
  ·rw[Hv ad af]
   obtain⟨q1,aE,ca⟩:=ZB (table:=table) (b:=b) u (u.bu.getD 0 default) (u.bu.drop 1);dsimp only;rw[q1,aE,ca];exact⟨rfl,b2 _⟩
  ·by_cases ay:0<u.reqs.length
   ·rw[Hw ad af ay]
    have:=Hy (d:=default) (List.length_pos_iff.1 ay);refine⟨?_,?_⟩
    ·conv=>rhs;rw[this]
     rfl
    ·show (u.reqs.drop 1).length<=_
     rw[List.length_drop];omega
   ·rw[Hx ad af ay]
    exact⟨rfl,b2 _⟩
theorem LH:∀(f:Nat) (u:iv),xG (h' table b f u).2.reqs ((h' table b f u).2.lit,(h' table b f u).2.bZ)=xG u.reqs (u.lit,u.bZ)/\(h' table b f u).2.reqs.length<=u.reqs.length
 |0,_=>⟨rfl,b2 _⟩
 |f+1,u=>by
  unfold h';split
  ·obtain⟨q1,aE⟩:=LH f (gJ table b u).2
   obtain⟨cJ,dk⟩:=amp (table:=table) (b:=b) u;exact⟨q1.trans cJ,Nat.le_trans aE dk⟩
  ·exact⟨rfl,b2 _⟩
def qQ (e:bW):Prop:=e.u.bE.length=0/\e.u.bu.length=0/\e.u.reqs.length=0
instance (e:bW):Decidable (qQ e):=by unfold qQ;infer_instance
def wq (e:bW):Nat:=hn e.b e.u
def zg (e:bW) (n:Int):Nat:=(h' e.table e.b n.toNat e.u).1
def uZ (e:bW):Nat:=(h' e.table e.b (hn e.b e.u) e.u).1
theorem abP {u:iv} (h:(gJ table b u).1=false):u.bE.length=0/\u.bu.length=0/\u.reqs.length=0:=by
 by_cases ad:0<u.bE.length
 ·rw[Hu ad] at h;cases h
 ·by_cases af:0<u.bu.length
  ·rw[Hv ad af] at h;cases h
  ·by_cases ay:0<u.reqs.length
   ·rw[Hw ad af ay] at h;cases h
   ·exact⟨ar,ar,ar⟩
theorem gg.run {e:bW} (h:gg e) (f:Nat) {u':iv} (hu:u'=(h' e.table e.b f e.u).2) (aA:gd e.table e.b u'):gg {e with u:=u'}:=by
 subst hu;obtain⟨q1,aE⟩:=LH (table:=e.table) (b:=e.b) f e.u;have hl:=aA.len.trans h.oB.len.symm;exact⟨aA,h.lc.trans hl.symm,h.kX.trans hl.symm,Nat.le_trans aE h.EM,q1.trans h.zZ⟩
theorem gg.Aj {e:bW} (h:gg e) (n:Int):gg (mC e n)/\zg e n<=n.toNat/\(zg e n<n.toNat->qQ (mC e n))/\zg e n+wq (mC e n)<=wq e/\(mC e n).u.reqs.length<=e.u.reqs.length:=by
 obtain⟨q1,aE⟩:=h.oB.run n.toNat;obtain⟨cJ,_,_,xR⟩:=Lg (table:=e.table) (b:=e.b) n.toNat e.u;refine⟨h.run n.toNat rfl q1,cJ,λb8=> ?_,aE,(LH (table:=e.table) (b:=e.b) n.toNat e.u).2⟩;have av:=xR.resolve_left (Nat.ne_of_lt b8);exact abP av
theorem gg.set {e:bW} (h:gg e):gg (jI e)/\qQ (jI e)/\uZ e+wq (jI e)<=wq e/\(jI e).u.reqs.length<=e.u.reqs.length:=by
 obtain⟨q1,aE,ca⟩:=h.oB.settle;exact⟨h.run _ rfl q1,abP aE,ca,(LH (table:=e.table) (b:=e.b) _ e.u).2⟩
theorem gg.full {e:bW} (h:gg e) (aw:qQ e):uG (gK e.b) (iw e.table e.cells e.known) (dy e.u.aH)/\e.u.lit=e.cells/\e.u.bZ=e.known:=by
 unfold qQ at aw;have av:gJ e.table e.b e.u=(false,e.u):=Hx ar ar ar;obtain⟨_,_,_,ao,_,aO⟩:=h.oB.done (by rw[av]);have hp:=h.zZ;rw[ao] at hp;have ad:e.u.lit=e.cells:=congrArg Prod.fst hp;have af:e.u.bZ=e.known:=congrArg Prod.snd hp;rw[ad,af] at aO;exact⟨aO,ad,af⟩
def refuse (e:bW) (p:dW):Prop:=e.most<=((e.u.reqs.length:Nat):Int)
theorem abQ {α:Type} {l:List α} {k:Nat} {d:α}:l.set k (l.getD k d)=l:=by
 apply List.ext_getElem?;intro i;rw[List.getElem?_set];split
 ·rename_i aj
  subst aj;split
  ·rename_i hl
   rw[dh,fA hl];rfl
  ·rename_i hl
   exact(List.getElem?_eq_none ar).symm
 ·rfl
theorem gg.ask {e:bW} (h:gg e) (ao:e.u.reqs.length<10000) {p:dW} (hp:ei p e.b) {x:iN} (ak:x.1=dD e.b p) {c:List Int} {k:List Bool} (aq:c=e.cells.set (dD e.b p) x.2.1) (aj:k=e.known.set (dD e.b p) x.2.2):
  gg {e with u:={e.u with reqs:=e.u.reqs++[x]},cells:=c,known:=k}/\hn e.b {e.u with reqs:=e.u.reqs++[x]}=wq e+qC (gK e.b).N:=by
 have hl:x.1<e.u.bZ.length:=by rw[ak,h.oB.len];exact Cy hp
 obtain⟨q1,aE⟩:=h.oB.ask hl;refine⟨⟨q1,?_,?_,?_,?_⟩,aE⟩
 ·subst aq;exact(List.length_set).trans h.lc
 ·subst aj;exact(List.length_set).trans h.kX
 ·show (e.u.reqs++[x]).length<=10000
  rw[List.length_append,List.length_singleton];omega
 ·show xG (e.u.reqs++[x]) _=_
  rw[abO,h.zZ,aq,aj,ak]
theorem LI {e:bW} {p:dW} {c:Int} (h:lN e.b e.most p e.u.reqs c≠0):jk e p c=e:=by
 obtain⟨u,b,table,cells,known,most⟩:=e;by_cases aq:rI c
 ·have av:¬acc b most p u.reqs.length:=λq=>h (by unfold lN j1;dsimp only;rw[aQ aq,aQ q.1,aU q.2])
  unfold jk EA EB AI AJ;dsimp only;rw[aU av,aU av,ite_self,ite_self]
 ·unfold jk EA EB
  dsimp only;rw[aU aq,aU aq]
theorem abR {e:bW} {p:dW} {k:Bool} (h:j1 e.b e.most p e.u.reqs≠0):j_ e p k=e:=by
 obtain⟨u,b,table,cells,known,most⟩:=e;have av:¬acc b most p u.reqs.length:=λq=>h (by unfold j1;dsimp only;rw[aQ q.1,aU q.2])
 unfold j_ AI AJ;dsimp only;rw[aU av,aU av]
theorem LJ {e:bW} {p:dW} {c:Int} (h:lN e.b e.most p e.u.reqs c=0):rI c/\ei p e.b/\¬e.most<=((e.u.reqs.length:Nat):Int)/\jk e p c={e with u:={e.u with reqs:=e.u.reqs++[(dD e.b p,c,e.known.getD (dD e.b p) default)]},cells:=e.cells.set (dD e.b p) c}:=by
 unfold lN j1 at h;split at h
 ·split at h
  ·split at h
   ·cases h
   ·rename_i ad af ay
    have bq:acc e.b e.most p e.u.reqs.length:=⟨af,ay⟩;unfold jk EA EB AI AJ;rw[aQ ad,aQ ad,aQ bq,aQ bq];exact⟨ad,af,ay,rfl⟩
  ·cases h
 ·cases h
theorem SA {e:bW} {p:dW} {k:Bool} (h:j1 e.b e.most p e.u.reqs=0):ei p e.b/\¬e.most<=((e.u.reqs.length:Nat):Int)/\j_ e p k={e with u:={e.u with reqs:=e.u.reqs++[(dD e.b p,e.cells.getD (dD e.b p) default,k)]},known:=e.known.set (dD e.b p) k}:=by
 unfold j1 at h;split at h
 ·split at h
  ·cases h
  ·rename_i af ay
   have bq:acc e.b e.most p e.u.reqs.length:=⟨af,ay⟩;unfold j_ AI AJ;rw[aQ bq,aQ bq];exact⟨af,ay,rfl⟩
 ·cases h
theorem gg.b_ {e:bW} (h:gg e) (ao:e.u.reqs.length<10000) (p:dW) (c:Int):gg (jk e p c)/\(lN e.b e.most p e.u.reqs c=0->(jk e p c).u.reqs.length=e.u.reqs.length+1/\wq (jk e p c)=wq e+qC (gK e.b).N)/\(lN e.b e.most p e.u.reqs c≠0->jk e p c=e):=by
 by_cases aM:lN e.b e.most p e.u.reqs c=0
 ·obtain⟨_,hp,_,he⟩:=LJ aM
  rw[he];obtain⟨q1,aE⟩:=h.ask ao hp (x:=(dD e.b p,c,e.known.getD (dD e.b p) default)) U U abQ.symm;exact⟨q1,λ_=>⟨by show (e.u.reqs++[_]).length=_;rw[List.length_append,List.length_singleton],aE⟩,λav=>absurd aM av⟩
 ·rw[LI aM]
  exact⟨h,λav=>absurd av aM,λ_=>rfl⟩
theorem gg.bF {e:bW} (h:gg e) (ao:e.u.reqs.length<10000) (p:dW) (k:Bool):gg (j_ e p k)/\(j1 e.b e.most p e.u.reqs=0->(j_ e p k).u.reqs.length=e.u.reqs.length+1/\wq (j_ e p k)=wq e+qC (gK e.b).N)/\(j1 e.b e.most p e.u.reqs≠0->j_ e p k=e):=by
 by_cases aM:j1 e.b e.most p e.u.reqs=0
 ·obtain⟨hp,_,he⟩:=SA (k:=k) aM
  rw[he];obtain⟨q1,aE⟩:=h.ask ao hp (x:=(dD e.b p,e.cells.getD (dD e.b p) default,k)) rfl abQ.symm rfl;exact⟨q1,λ_=>⟨by show (e.u.reqs++[_]).length=_;rw[List.length_append,List.length_singleton],aE⟩,λav=>absurd aM av⟩
 ·rw[abR aM]
  exact⟨h,λav=>absurd av aM,λ_=>rfl⟩
theorem amq (e:bW) (x:gu):(km e x).b=e.b/\(km e x).table=e.table/\(km e x).most=e.most:=by
 unfold km;split
 ·exact⟨rfl,rfl,rfl⟩
 ·split
  ·exact⟨rfl,rfl,rfl⟩
  ·split
   ·exact⟨rfl,rfl,rfl⟩
   ·split<;>exact⟨rfl,rfl,rfl⟩
theorem gg.do {e:bW} (h:gg e) (ao:e.u.reqs.length<10000) (x:gu):gg (km e x)/\(km e x).u.reqs.length<=e.u.reqs.length+1:=by
 unfold km;split
 ·obtain⟨q1,aE,ca⟩:=h.b_ ao (k9 x) x.2.1
  refine⟨q1,?_⟩;by_cases aM:lN e.b e.most (k9 x) e.u.reqs x.2.1=0
  ·rw[(aE aM).1];exact b2 _
  ·rw[ca aM];omega
 ·split
  ·obtain⟨q1,aE,ca⟩:=h.bF ao (k9 x) x.2.2.2.2.2
   refine⟨q1,?_⟩;by_cases aM:j1 e.b e.most (k9 x) e.u.reqs=0
   ·rw[(aE aM).1];exact b2 _
   ·rw[ca aM];omega
  ·split
   ·obtain⟨q1,_,_,_,hh⟩:=h.Aj x.2.1
    exact⟨q1,ar⟩
   ·split
    ·obtain⟨q1,_,_,hh⟩:=h.set
     exact⟨q1,ar⟩
    ·exact⟨h,ar⟩
theorem LK {b:bQ} {cells:List Int} {table:List cX} {known:List Bool} {most:Int} (h:pE b cells table known most) (av:cells.length<=10000):gg (lO b cells table known most)/\wq (lO b cells table known most)<=361*cells.length:=by
 obtain⟨q1,aE,ca,ey⟩:=amd h av;exact⟨⟨q1,aE,ca,Nat.zero_le _,rfl⟩,ey⟩
end AE
namespace AE
theorem all_eq {α:Type} [Inhabited α] {l k:List α} (hl:l.length=k.length) (h:∀j,j<l.length->l.getD j default=k.getD j default):l=k:=by
 apply List.ext_getElem hl;intro i ad af;have:=h i ad;rw[dh,dh,fA ad,fA af] at this;exact this
theorem abS {a b:Bool} {d:Bool} (ad:a=d) (af:b=d):a=b:=ad.trans af.symm
theorem abT {a b:Bool} (ad:¬a=true) (af:¬b=true):a=b:=by
 cases a<;>cases b<;>simp_all
theorem SB {α eY:Type} [Inhabited α] {f:α->eY} {l:List α} {i:Nat} (h:i<l.length):(l.take i).map f++[f (l.getD i default)]=(l.take (i+1)).map f:=by
 rw[List.take_add_one,List.map_append,fA h,dh,fA h];rfl
end AE
namespace AE
namespace SC
noncomputable def body:Code:=(Tryd.f47.body).getD .skip
def N:Nat:=20
noncomputable abbrev bN:=gk Tryd.prog Tryd.f47
def a8:b6:={sl:=cc [(0,0)],ms:=[],A:=start}
def cj:bs:=[(.len #[29] 3 0,1),
 (.bin .gtr 3 1 (I 300),.bool true)]
theorem e0:bN (at' 20 cj [] body a8)=some (.bool false):=au
def cx:bs:=[(.len #[29] 3 0,1),
 (.bin .gtr 3 1 (I 300),.bool false)]
def eI:List bw:=[]
def eJ:aG:=cc [(3,2),(0,0)]
abbrev hy:=at' 20 cx [] body a8
theorem e1:pS eJ eI hy=some [(0,0),(I 0,2)]:=au
def eW:Code:=s9 body [1,1,0,1,4]
def h5:List fc:=oh body [1,1,0,1,4] []
theorem e2:pe hy=eW:=au
theorem dn:f_ hy=h5:=au
def dz:bs:=[(.len #[29] 3 0,1),
 (.bin .lss 3 2 1,.bool true),
 (.dC 29 0 2,3),
 (.cG 70 3 0,4),
 (.bF 9 4,5),
 (.len #[9] 3 5,6),
 (.bin .gtr 3 6 (I 60),.bool true)]
theorem hU:bN (ny 20 [] [] h5 (at' 20 dz [] eW (b7 eJ eI)))=some (.bool false):=au
def gf:bs:=[(.len #[29] 3 0,1),
 (.bin .lss 3 2 1,.bool true),
 (.dC 29 0 2,3),
 (.cG 70 3 0,4),
 (.bF 9 4,5),
 (.len #[9] 3 5,6),
 (.bin .gtr 3 6 (I 60),.bool false),
 (.bin .add 3 2 (I 1),7)]
theorem kG:qx eJ eI (at' 20 gf [] eW (b7 eJ eI))=some [(0,0),(7,2)]:=au
def hq:bs:=[(.len #[29] 3 0,1),
 (.bin .lss 3 2 1,.bool false)]
theorem jP:bN (ny 20 [] [] h5 (at' 20 hq [] eW (b7 eJ eI)))=some (.bool true):=au
@[reducible] noncomputable def bJ (l:List cX) (dI:c6) (dO:Nat) (i:Nat:=0):List J:=[bA dI l dO,I ((l.length:Nat):Int),I ((i:Nat):Int),hW (bA dI l dO) (i*8),hW (bA dI l dO) (i*8+0),cr (l.getD (i) default).1,I (((l.getD (i) default).1.length:Nat):Int),I ((i+1:Nat):Int)]
theorem any (W:ax) {hX:J} {l:List cX} (hl:cu (aF W) 8 jf hX l):Calls Tryd.prog 47 #[hX] W λe w'=>e= .returned (.bool (decide (nP l)))/\cb W.heap.size W w':=by
 obtain⟨dI,dO,rfl⟩:=hl.slice;refine jO (bJ l dI dO) body a8 N [al 0] Tryd.func47 λa ah=> ?_
 letI:=cg ah;by_cases aM:300<((l.length:Nat):Int)
 ·refine bK cj [] (ai (eT hl lF) (ai bC aX)) aY ?_ ah
  exact bP e0 λw2 br=>(by first|(rw[c8 (O4 ar)];rfl)|(rw[c8 (O5 (i:=i) ar ar)];rfl)|(rw[gC (O6 ar (λj h=>bg.2 j ar))];rfl))
 ·refine bK cx [] (ai (eT hl lF) (ai bf aX)) aY ?_ ah
  refine ta (f':=(λi=>aS (aF W) (bJ l dI dO i))) (λi=>i<=l.length/\∀j,j<i->(l.getD j default).1.length<=60) (λi=>l.length-i) 0 e1 gb (λ_ _ h=>h) (by exact⟨Nat.zero_le _,λj h=>absurd h (Nat.not_lt_zero _)⟩) ?_;intro i bg dN w ah;letI:=cg ah;refine s' e2 dn ?_;by_cases sK:((i:Nat):Int)<((l.length:Nat):Int)
  ·by_cases gV:60<(((l.getD (i) default).1.length:Nat):Int)
   ·refine bK dz [] (ai (eT hl lF) (ai bC (ai (p_ hl lF qz) (ai (Wr hl (show i<l.length by omega) U U U U) (ai (tw 0 hl (nb i) Wq) (ai (aT.zQ U U rj U U) (ai bC aX))))))) aY ?_ ah
    refine nV [] [] aX aY ?_;exact bP hU λw2 br=>(by first|(rw[c8 (O4 ar)];rfl)|(rw[c8 (O5 (i:=i) ar ar)];rfl)|(rw[gC (O6 ar (λj h=>bg.2 j ar))];rfl))
   ·refine bK gf [] (ai (eT hl lF) (ai bC (ai (p_ hl lF qz) (ai (Wr hl (show i<l.length by omega) U U U U) (ai (tw 0 hl (nb i) Wq) (ai (aT.zQ U U rj U U) (ai bf (ai k5 aX)))))))) aY ?_ ah
    exact tu (i+1) kG gb (by exact⟨ar,λj h=>by rcases Nat.lt_or_ge j i with ad|ad;exact bg.2 j ad;rw[show j=i by omega];omega⟩)
  ·refine bK hq [] (ai (eT hl lF) (ai bf aX)) aY ?_ ah
   refine nV [] [] aX aY ?_;exact bP jP λw2 br=>(by first|(rw[c8 (O4 ar)];rfl)|(rw[c8 (O5 (i:=i) ar ar)];rfl)|(rw[gC (O6 ar (λj h=>bg.2 j ar))];rfl))
end SC
end AE
namespace AE
section
variable [a7]
theorem SD {x:J} {u:J} {l:List cX} (hp:dP [x]=true) (bp:ew [x]=[u]) (hl:cu a7.df 8 jf u l) (h:nP l):jA Tryd.prog (47,[x],.bool true):=
 mo (a:= #[u]) hp rfl bp rfl λw hw=>(SC.any w (hl.mono hw)).mono λe w' fm=>by rw[gC h] at fm;exact fm
theorem amr {x:J} {u:J} {l:List cX} (hp:dP [x]=true) (bp:ew [x]=[u]) (hl:cu a7.df 8 jf u l) (h:¬nP l):jA Tryd.prog (47,[x],.bool false):=
 mo (a:= #[u]) hp rfl bp rfl λw hw=>(SC.any w (hl.mono hw)).mono λe w' fm=>by rw[c8 h] at fm;exact fm
end
end AE
namespace AE
namespace SE
noncomputable def body:Code:=(Tryd.f25.body).getD .skip
def N:Nat:=22
noncomputable abbrev bN:=gk Tryd.prog Tryd.f25
def a8:b6:={sl:=cc [(2,1),(1,0),(0,.agg ⟨[2,3,4,5,6,7,8]⟩)],ms:=[],A:=start}
def cj:bs:=[(.len #[26] 3 8,9),
 (.bin .leq 3 9 (I 1000),.bool true),
 (.len #[30] 3 1,10),
 (.bin .leq 3 10 (I 1200),.bool true)]
def l9:ec:=[(47,[0],.bool true)]
theorem e0:bN (at' 22 cj l9 body a8)=some (.bool true):=au
def cx:bs:=[(.len #[26] 3 8,9),
 (.bin .leq 3 9 (I 1000),.bool true),
 (.len #[30] 3 1,10),
 (.bin .leq 3 10 (I 1200),.bool false)]
def jQ:ec:=[(47,[0],.bool true)]
theorem e1:bN (at' 22 cx jQ body a8)=some (.bool false):=au
def dz:bs:=[(.len #[26] 3 8,9),
 (.bin .leq 3 9 (I 1000),.bool false)]
def ot:ec:=[(47,[0],.bool true)]
theorem e2:bN (at' 22 dz ot body a8)=some (.bool false):=au
def sz:ec:=[(47,[0],.bool false)]
theorem dn:bN (at' 22 [] sz body a8)=some (.bool false):=au
@[reducible] noncomputable def bJ (cells:List Int) (c9:c6) (cS c_:Nat) (table:List cX) (kk:c6) (kl:Nat) (known:List Bool) (ix:c6) (iy:Nat) (b:bQ):List J:=[bA kk table kl,bA ix known iy,I b.1,I b.2.1,I b.2.2.1,I b.2.2.2.1,I b.2.2.2.2.1,I b.2.2.2.2.2,.slice c9 cS c_,I ((cells.length:Nat):Int),I ((known.length:Nat):Int)]
theorem any (W:ax) {b:bQ} {c9:c6} {cS c_:Nat} {cells:List Int} (hJ:cu (aF W) 1 ga (.slice c9 cS c_) cells) {ox:J} {table:List cX} (aK:cu (aF W) 8 jf ox table) {oy:J} {known:List Bool} (hd:cu (aF W) 1 iQ oy known) (h9:cS=cells.length):Calls Tryd.prog 25 #[.agg ⟨[I b.1,I b.2.1,I b.2.2.1,I b.2.2.2.1,I b.2.2.2.2.1,I b.2.2.2.2.2,.slice c9 cS c_]⟩,ox,oy] W λe w'=>e= .returned (.bool (decide (nP table/\cells.length<=1000/\known.length<=1200)))/\cb W.heap.size W w':=by
 obtain⟨kk,kl,rfl⟩:=aK.slice;obtain⟨ix,iy,rfl⟩:=hd.slice;refine jO (bJ cells c9 cS c_ table kk kl known ix iy b) body a8 N [.agg ⟨[al 2,al 3,al 4,al 5,al 6,al 7,al 8]⟩,al 0,al 1] Tryd.func25 λa ah=> ?_
 letI:=cg ah;have aN:=bH.qA W;by_cases aM:nP table
 ·by_cases ad:((cells.length:Nat):Int)<=1000
  ·by_cases af:((known.length:Nat):Int)<=1200
   ·refine bK cj l9 (ai (eT (hJ.mono aN.ext) iK) (ai bC (ai (eT (hd.mono aN.ext) nv) (ai bC aX)))) (cL (SD U U (aK.mono aN.ext) aM) aY) ?_ ah
    exact bP e0 λw2 br=>(by first|(rw[gC (show nP table/\cells.length<=1000/\known.length<=1200 from ⟨bt,ar,ar⟩)];rfl)|(rw[c8 (λq:nP table/\cells.length<=1000/\known.length<=1200=>by first|exact absurd q.1 bt|(have q1:=q.2.1;have aE:=q.2.2;omega))];rfl))
   ·refine bK cx jQ (ai (eT (hJ.mono aN.ext) iK) (ai bC (ai (eT (hd.mono aN.ext) nv) (ai bf aX)))) (cL (SD U U (aK.mono aN.ext) aM) aY) ?_ ah
    exact bP e1 λw2 br=>(by first|(rw[gC (show nP table/\cells.length<=1000/\known.length<=1200 from ⟨bt,ar,ar⟩)];rfl)|(rw[c8 (λq:nP table/\cells.length<=1000/\known.length<=1200=>by first|exact absurd q.1 bt|(have q1:=q.2.1;have aE:=q.2.2;omega))];rfl))
  ·refine bK dz ot (ai (eT (hJ.mono aN.ext) iK) (ai bf aX)) (cL (SD U U (aK.mono aN.ext) aM) aY) ?_ ah
   exact bP e2 λw2 br=>(by first|(rw[gC (show nP table/\cells.length<=1000/\known.length<=1200 from ⟨bt,ar,ar⟩)];rfl)|(rw[c8 (λq:nP table/\cells.length<=1000/\known.length<=1200=>by first|exact absurd q.1 bt|(have q1:=q.2.1;have aE:=q.2.2;omega))];rfl))
 ·refine bK [] sz aX (cL (amr U U (aK.mono aN.ext) aM) aY) ?_ ah
  exact bP dn λw2 br=>(by first|(rw[gC (show nP table/\cells.length<=1000/\known.length<=1200 from ⟨bt,ar,ar⟩)];rfl)|(rw[c8 (λq:nP table/\cells.length<=1000/\known.length<=1200=>by first|exact absurd q.1 bt|(have q1:=q.2.1;have aE:=q.2.2;omega))];rfl))
end SE
end AE
namespace AE
def EV (cells:List Int) (table:List cX) (known:List Bool):Prop:=nP table/\cells.length<=1000/\known.length<=1200
instance (cells:List Int) (table:List cX) (known:List Bool):Decidable (EV cells table known):=by unfold EV;infer_instance
def u0 (cells:List Int) (table:List cX) (known:List Bool) (n:Nat):Prop:=cells.length<=120/\n<=30/\EV cells table known
instance (cells:List Int) (table:List cX) (known:List Bool) (n:Nat):Decidable (u0 cells table known n):=by unfold u0;infer_instance
section
variable [a7] {x y z:J} {b:bQ} {cells:List Int} {table:List cX} {known:List Bool} {a:Option Addr} {n c:Nat} {u v:J}
theorem ams (hp:dP [x,y,z]=true) (ao:aL (.bool true)=true) (bp:ew [x,y,z]=[l_ b (.slice a n c),u,v])
  (aq:cu a7.df 1 ga (.slice a n c) cells) (aK:cu a7.df 8 jf u table) (aj:cu a7.df 1 iQ v known) (h9:n=cells.length) (h:EV cells table known):jA Tryd.prog (25,[x,y,z],.bool true):=
 mo (a:= #[l_ b (.slice a n c),u,v]) hp ao bp rfl λw hw=>(SE.any w (aq.mono hw) (aK.mono hw) (aj.mono hw) h9).mono λe w' fm=>by rw[gC (show nP table/\cells.length<=1000/\known.length<=1200 from h)] at fm;exact fm
theorem amt (hp:dP [x,y,z]=true) (ao:aL (.bool false)=true) (bp:ew [x,y,z]=[l_ b (.slice a n c),u,v])
  (aq:cu a7.df 1 ga (.slice a n c) cells) (aK:cu a7.df 8 jf u table) (aj:cu a7.df 1 iQ v known) (h9:n=cells.length) (h:¬EV cells table known):jA Tryd.prog (25,[x,y,z],.bool false):=
 mo (a:= #[l_ b (.slice a n c),u,v]) hp ao bp rfl λw hw=>(SE.any w (aq.mono hw) (aK.mono hw) (aj.mono hw) h9).mono λe w' fm=>by rw[c8 (show ¬(nP table/\cells.length<=1000/\known.length<=1200) from h)] at fm;exact fm
end
end AE
namespace AE
namespace abU
noncomputable def body:Code:=(Tryd.f7.body).getD .skip
def N:Nat:=24
noncomputable abbrev bN:=gk Tryd.prog Tryd.f7
def a8:b6:={sl:=cc [(3,2),(2,1),(1,0),(0,.agg ⟨[3,4,5,6,7,8,9]⟩)],ms:=[],A:=start}
def cj:bs:=[(.len #[26] 3 9,10),
 (.bin .leq 3 10 (I 120),.bool true),
 (.len #[31] 3 2,11),
 (.bin .leq 3 11 (I 30),.bool true)]
def l9:ec:=[(25,[.agg ⟨[3,4,5,6,7,8,9]⟩,0,1],.bool true)]
theorem e0:bN (at' 24 cj l9 body a8)=some (.bool true):=au
def cx:bs:=[(.len #[26] 3 9,10),
 (.bin .leq 3 10 (I 120),.bool true),
 (.len #[31] 3 2,11),
 (.bin .leq 3 11 (I 30),.bool true)]
def jQ:ec:=[(25,[.agg ⟨[3,4,5,6,7,8,9]⟩,0,1],.bool false)]
theorem e1:bN (at' 24 cx jQ body a8)=some (.bool false):=au
def dz:bs:=[(.len #[26] 3 9,10),
 (.bin .leq 3 10 (I 120),.bool true),
 (.len #[31] 3 2,11),
 (.bin .leq 3 11 (I 30),.bool false)]
theorem e2:bN (at' 24 dz [] body a8)=some (.bool false):=au
def et:bs:=[(.len #[26] 3 9,10),
 (.bin .leq 3 10 (I 120),.bool false)]
theorem dn:bN (at' 24 et [] body a8)=some (.bool false):=au
@[reducible] noncomputable def bJ (cells:List Int) (c9:c6) (cS c_:Nat) (table:List cX) (kk:c6) (kl:Nat) (known:List Bool) (ix:c6) (iy:Nat) (l:List gu) (dI:c6) (dO:Nat) (b:bQ):List J:=[bA kk table kl,bA ix known iy,bA dI l dO,I b.1,I b.2.1,I b.2.2.1,I b.2.2.2.1,I b.2.2.2.2.1,I b.2.2.2.2.2,.slice c9 cS c_,I ((cells.length:Nat):Int),I ((l.length:Nat):Int)]
theorem any (W:ax) {b:bQ} {c9:c6} {cS c_:Nat} {cells:List Int} (hJ:cu (aF W) 1 ga (.slice c9 cS c_) cells) {ox:J} {table:List cX} (aK:cu (aF W) 8 jf ox table) {oy:J} {known:List Bool} (hd:cu (aF W) 1 iQ oy known) {hX:J} {l:List gu} (hl:cu (aF W) 6 xF hX l) (h9:cS=cells.length):Calls Tryd.prog 7 #[.agg ⟨[I b.1,I b.2.1,I b.2.2.1,I b.2.2.2.1,I b.2.2.2.2.1,I b.2.2.2.2.2,.slice c9 cS c_]⟩,ox,oy,hX] W λe w'=>e= .returned (.bool (decide (u0 cells table known l.length)))/\cb W.heap.size W w':=by
 obtain⟨kk,kl,rfl⟩:=aK.slice;obtain⟨ix,iy,rfl⟩:=hd.slice;obtain⟨dI,dO,rfl⟩:=hl.slice;refine jO (bJ cells c9 cS c_ table kk kl known ix iy l dI dO b) body a8 N [.agg ⟨[al 3,al 4,al 5,al 6,al 7,al 8,al 9]⟩,al 0,al 1,al 2] Tryd.func7 λa ah=> ?_
 letI:=cg ah;have aN:=bH.qA W;by_cases aM:((cells.length:Nat):Int)<=120
 ·by_cases ad:((l.length:Nat):Int)<=30
  ·by_cases af:EV cells table known
   ·refine bK cj l9 (ai (eT (hJ.mono aN.ext) iK) (ai bC (ai (eT (hl.mono aN.ext) Sx) (ai bC aX)))) (cL (ams U U U (hJ.mono aN.ext) (aK.mono aN.ext) (hd.mono aN.ext) h9 af) aY) ?_ ah
    exact bP e0 λw2 br=>(by first|(rw[gC (show u0 cells table known l.length from ⟨ar,ar,bt⟩)];rfl)|(rw[c8 (λq:u0 cells table known l.length=>by first|exact absurd q.2.2 bt|(have q1:=q.1;have aE:=q.2.1;omega))];rfl))
   ·refine bK cx jQ (ai (eT (hJ.mono aN.ext) iK) (ai bC (ai (eT (hl.mono aN.ext) Sx) (ai bC aX)))) (cL (amt U U U (hJ.mono aN.ext) (aK.mono aN.ext) (hd.mono aN.ext) h9 af) aY) ?_ ah
    exact bP e1 λw2 br=>(by first|(rw[gC (show u0 cells table known l.length from ⟨ar,ar,bt⟩)];rfl)|(rw[c8 (λq:u0 cells table known l.length=>by first|exact absurd q.2.2 bt|(have q1:=q.1;have aE:=q.2.1;omega))];rfl))
  ·refine bK dz [] (ai (eT (hJ.mono aN.ext) iK) (ai bC (ai (eT (hl.mono aN.ext) Sx) (ai bf aX)))) aY ?_ ah
   exact bP e2 λw2 br=>(by first|(rw[gC (show u0 cells table known l.length from ⟨ar,ar,bt⟩)];rfl)|(rw[c8 (λq:u0 cells table known l.length=>by first|exact absurd q.2.2 bt|(have q1:=q.1;have aE:=q.2.1;omega))];rfl))
 ·refine bK et [] (ai (eT (hJ.mono aN.ext) iK) (ai bf aX)) aY ?_ ah
  exact bP dn λw2 br=>(by first|(rw[gC (show u0 cells table known l.length from ⟨ar,ar,bt⟩)];rfl)|(rw[c8 (λq:u0 cells table known l.length=>by first|exact absurd q.2.2 bt|(have q1:=q.1;have aE:=q.2.1;omega))];rfl))
end abU
end AE
namespace AE
def amu:cX:=([97,105,114],false,false,false,1,0,0,0)
def Il:List cX:=[amu,([115,116,111,110,101],true,false,false,16,0,0,0),([103,108,97,115,115],true,false,false,1,0,0,0),([108,97,109,112],true,false,false,16,15,14,10),([115,97,110,100],true,false,true,16,0,0,0),([119,97,116,101,114],false,true,false,3,0,0,0),([108,101,97,118,101,115],true,false,false,2,0,0,0),([101,109,98,101,114],true,false,false,16,9,3,0),([102,111,103],false,false,false,2,0,0,0)]
def wu:bQ:=(0,0,0,1,1,4)
def zs:bW:=lO wu [3,0,0,0] Il [] 2
def sA:bW:=jI zs
end AE
namespace AE
namespace EW
noncomputable def body:Code:=(Tryd.f28.body).getD .skip
def N:Nat:=26
noncomputable abbrev bN:=gk Tryd.prog Tryd.f28
def a8:b6:={sl:=cc [(1,1),(0,0)],ms:=[],A:=start}
def cj:bs:=[(.len #[26] 3 0,2),
 (.len #[26] 3 1,3),
 (.bin .neq 3 2 3,.bool false)]
def eI:List bw:=[]
def eJ:aG:=cc [(5,4),(1,1),(0,0)]
abbrev hy:=at' 26 cj [] body a8
theorem e0:pS eJ eI hy=some [(0,0),(1,1),(I 0,4)]:=au
def eW:Code:=s9 body [1,1,0,1,4]
def h5:List fc:=oh body [1,1,0,1,4] []
theorem e1:pe hy=eW:=au
theorem e2:f_ hy=h5:=au
def cx:bs:=[(.len #[26] 3 0,2),
 (.bin .lss 3 4 2,.bool true),
 (.dC 26 0 4,5),
 (.bF 3 5,6),
 (.dC 26 1 4,7),
 (.bF 3 7,8),
 (.bin .neq 3 6 8,.bool false),
 (.bin .add 3 4 (I 1),9)]
theorem dn:qx eJ eI (at' 26 cx [] eW (b7 eJ eI))=some [(0,0),(1,1),(9,4)]:=au
def dz:bs:=[(.len #[26] 3 0,2),
 (.bin .lss 3 4 2,.bool true),
 (.dC 26 0 4,5),
 (.bF 3 5,6),
 (.dC 26 1 4,7),
 (.bF 3 7,8),
 (.bin .neq 3 6 8,.bool true)]
theorem hU:bN (ny 26 [] [] h5 (at' 26 dz [] eW (b7 eJ eI)))=some (.bool false):=au
def gf:bs:=[(.len #[26] 3 0,2),
 (.bin .lss 3 4 2,.bool false)]
theorem kG:bN (ny 26 [] [] h5 (at' 26 gf [] eW (b7 eJ eI)))=some (.bool true):=au
def hq:bs:=[(.len #[26] 3 0,2),
 (.len #[26] 3 1,3),
 (.bin .neq 3 2 3,.bool true)]
theorem jP:bN (at' 26 hq [] body a8)=some (.bool false):=au
@[reducible] noncomputable def bJ (l:List Int) (dI:c6) (dO:Nat) (k:List Int) (wv:c6) (wx:Nat) (i:Nat:=0):List J:=[bA dI l dO,bA wv k wx,I ((l.length:Nat):Int),I ((k.length:Nat):Int),I ((i:Nat):Int),hW (bA dI l dO) (i*1),I (l.e5 (i)),hW (bA wv k wx) (i*1),I (k.e5 (i)),I ((i+1:Nat):Int)]
theorem any (W:ax) {hX:J} {l:List Int} (hl:cu (aF W) 1 ga hX l) {Im:J} {k:List Int} (aj:cu (aF W) 1 ga Im k) (av:l.length<=1000000):Calls Tryd.prog 28 #[hX,Im] W λe w'=>e= .returned (.bool (decide (l=k)))/\cb W.heap.size W w':=by
 obtain⟨dI,dO,rfl⟩:=hl.slice;obtain⟨wv,wx,rfl⟩:=aj.slice;refine jO (bJ l dI dO k wv wx) body a8 N [al 0,al 1] Tryd.func28 λa ah=> ?_
 letI:=cg ah;by_cases aM:((l.length:Nat):Int)=((k.length:Nat):Int)
 ·refine bK cj [] (ai (eT hl iK) (ai (eT aj iK) (ai sr aX))) aY ?_ ah
  refine ta (f':=(λi=>aS (aF W) (bJ l dI dO k wv wx i))) (λi=>i<=l.length/\∀j,j<i->l.e5 j=k.e5 j) (λi=>l.length-i) 0 e0 gb (λ_ _ h=>h) (by exact⟨Nat.zero_le _,λj h=>absurd h (Nat.not_lt_zero _)⟩) ?_;intro i bg dN w ah;letI:=cg ah;refine s' e1 e2 ?_;by_cases sK:((i:Nat):Int)<((l.length:Nat):Int)
  ·by_cases gV:(l.e5 (i))=(k.e5 (i))
   ·refine bK cx [] (ai (eT hl iK) (ai bC (ai (p_ hl iK yt) (ai (tw 0 hl (nb i) yu) (ai (p_ aj iK yt) (ai (tw 0 aj (nb i) yu) (ai sr (ai k5 aX)))))))) aY ?_ ah
    exact tu (i+1) dn gb (by exact⟨ar,λj h=>by rcases Nat.lt_or_ge j i with ad|ad;exact bg.2 j ad;obtain rfl:j=i:=ar;first|assumption|exact abS bt bt|exact abT bt bt⟩)
   ·refine bK dz [] (ai (eT hl iK) (ai bC (ai (p_ hl iK yt) (ai (tw 0 hl (nb i) yu) (ai (p_ aj iK yt) (ai (tw 0 aj (nb i) yu) (ai tv aX))))))) aY ?_ ah
    refine nV [] [] aX aY ?_;exact bP hU λw2 br=>(by first|(rw[c8 (λh:l=k=>by subst h;omega)];rfl)|(rw[c8 (λh:l=k=>by subst h;first|exact absurd rfl bt|exact absurd bt bt)];rfl)|(rw[gC (all_eq ar (λj hj=>bg.2 j ar))];rfl))
  ·refine bK gf [] (ai (eT hl iK) (ai bf aX)) aY ?_ ah
   refine nV [] [] aX aY ?_;exact bP kG λw2 br=>(by first|(rw[c8 (λh:l=k=>by subst h;omega)];rfl)|(rw[c8 (λh:l=k=>by subst h;first|exact absurd rfl bt|exact absurd bt bt)];rfl)|(rw[gC (all_eq ar (λj hj=>bg.2 j ar))];rfl))
 ·refine bK hq [] (ai (eT hl iK) (ai (eT aj iK) (ai tv aX))) aY ?_ ah
  exact bP jP λw2 br=>(by first|(rw[c8 (λh:l=k=>by subst h;omega)];rfl)|(rw[c8 (λh:l=k=>by subst h;first|exact absurd rfl bt|exact absurd bt bt)];rfl)|(rw[gC (all_eq ar (λj hj=>bg.2 j ar))];rfl))
end EW
end AE
namespace AE
namespace SF
noncomputable def body:Code:=(Tryd.f29.body).getD .skip
def N:Nat:=22
def a8:b6:={sl:=cc [(1,I 0),(0,0)],ms:=[],A:=start}
def cj:bs:=[(.len #[45] 3 0,1)]
def eI:List bw:=[]
def eJ:aG:=cc [(10,3),(9,1),(8,0),(5,2),(4,.slice none 0 0),(1,I 0)]
abbrev hy:=at' 22 cj [] body a8
theorem e0:pS eJ eI hy=some [(.slice none 0 0,2),(1,1),(0,0),(I 0,3)]:=au
def eW:Code:=s9 body [1,1,0,1,4]
def h5:List fc:=oh body [1,1,0,1,4] []
theorem e1:pe hy=eW:=au
theorem e2:f_ hy=h5:=au
def cx:bs:=[(.bin .lss 3 3 1,.bool true),
 (.dC 45 0 3,4),
 (.bF 85 4,.agg ⟨[5,6,7,8]⟩)]
theorem dn:Bx (b4 (at' 22 cx [] eW (b7 eJ eI))).A 1 (.slice (some ⟨1,0,none⟩) 1 1)=some [5]:=au
theorem hU:qy 26 (at' 22 cx [] eW (b7 eJ eI))=some (2,.slice (some ⟨1,0,none⟩) 1 1):=au
abbrev hO:=at' 22 cx [] eW (b7 eJ eI)
def eM:List bw:=[]
def eB:aG:=cc [(10,3),(9,1),(8,0),(5,2),(4,.slice none 0 0),(1,I 0)]
def eS:aG:=fk 22 eB 19 9
theorem kG:cq (b4 hO) eB eM=some [(2,2),(1,1),(0,0),(3,3)]:=au
def e3:eh:=(eW,[1,1,0,4,1],6)
def dz:bs:=[(.bin .add 3 3 (I 1),10)]
theorem rE:qx eJ eI (c1 22 dz [] e3 (b7 eS eM))=some [(9,2),(1,1),(0,0),(10,3)]:=au
def et:bs:=[(.bin .lss 3 3 1,.bool false)]
theorem qg:gk Tryd.prog Tryd.f29 (ny 22 [] [] h5 (at' 22 et [] eW (b7 eJ eI)))=some 2:=au
@[reducible] noncomputable def bJ (l:List bM) (dI:c6) (dO:Nat) (b:List Int:=[]) (a:c6:=none) (c:Nat:=0) (i:Nat:=0) (cB:List Int:=[]) (a0:c6:=none) (dw:Nat:=0):List J:=[bA dI l dO,I ((l.length:Nat):Int),bA a b c,I ((i:Nat):Int),hW (bA dI l dO) (i*4),I (l.e5 (i)).1,I (l.e5 (i)).2.1,I (l.e5 (i)).2.2.1,I (l.e5 (i)).2.2.2,bA a0 cB dw,I ((i+1:Nat):Int)]
theorem any (W:ax) {hX:J} {l:List bM} (hl:cu (aF W) 4 dM hX l) (av:l.length<=100000):Calls Tryd.prog 29 #[hX,I 0] W λe w'=>(∃a c,e= .returned (.slice a (l.map λx=>x.1).length c)/\dm W.heap.size (aF w') lE 1 ga (.slice a (l.map λx=>x.1).length c) (l.map λx=>x.1))/\cb W.heap.size W w':=by
 obtain⟨dI,dO,rfl⟩:=hl.slice;refine jO (bJ l dI dO) body a8 N [al 0,I 0] Tryd.func29 λa ah=> ?_
 letI:=cg ah;refine bK cj [] (ai (eT hl nQ) aX) aY ?_ ah;refine ta (f':=(λ(⟨M,b,a,c,i⟩:Mem×List Int×Option Addr×Nat×Nat)=>aS M (bJ l dI dO b a c i))) (λ(⟨M,b,a,c,i⟩:Mem×List Int×Option Addr×Nat×Nat)=>dm W.heap.size M lE 1 ga (bA a b c) b/\(∀j o,aF W j=some o->M j=some o)/\i<=l.length/\b=(l.take i).map λx=>x.1) (λ(⟨M,b,a,c,i⟩:Mem×List Int×Option Addr×Nat×Nat)=>l.length-i) ⟨aF W,[],none,0,0⟩ e0 gb (λ_ _ h=>h) (by exact⟨dm.nil _ _ _ _ _ _,λ_ _ h=>h,Nat.zero_le _,rfl⟩) ?_;intro⟨M,b,a,c,i⟩ bg dN w ah;letI:=cg ah;refine s' e1 e2 ?_;have AN:=bg;have cn:=bg.1;have bn:=bg.2.1;have Ck:=bg.2.2.1;have tS:b.length=i:=by rw[bg.2.2.2,List.length_map,List.length_take];omega
 by_cases sK:((i:Nat):Int)<((l.length:Nat):Int)
 ·refine bK cx [] (ai bC (ai (p_ (hl.mono bn) nQ sg) (ai (aT.r5 (hl.mono bn) (nb i) U U BQ sg U U U) aX))) aY ?_ ah
  obtain⟨cB,e7⟩:=iT (b++[(((l.e5 (i)).1):Int)]);have fq:cB.length=b.length+1:=by rw[e7];first|rfl|simp
  refine Bv (l:=b) (lx:=[(((l.e5 (i)).1):Int)]) (l':=cB) (bh:=λqd qe=>(bJ l dI dO b a c i cB qd qe)) (T:=(eL (bA a b c))) e7 hU iK JR JS JT JU JV cz l0 JW kG (eP eS 9) rfl (F1 U U cn) (DN dn l0 cz rfl) (zO (show b.length+1<=1000000 by omega)) (show (b.length+1)*yv<=140737488355328 by unfold yv;omega) (λ_ _ _=>gb) (λ_ _ _=>rfl) ?_;intro j9 a0 dw nW lo rz dN w ah;have uR:=lo.up rz (b2 _) bn;letI:=cg ah;refine ep (er e3) dz [] (ai k5 aX) aY ?_ ah;exact tu ⟨j9,cB,a0,dw,i+1⟩ rE gb (by exact⟨nW,uR,ar,by rw[e7,AN.2.2.2];exact SB ar⟩)
 ·refine bK et [] (ai bf aX) aY ?_ ah
  refine nV [] [] aX aY ?_;exact bP qg λw2 br=>(by exact By cn (by rw[AN.2.2.2,show i=l.length by omega,List.take_length]) br)
end SF
namespace abV
noncomputable def body:Code:=(Tryd.f29.body).getD .skip
def N:Nat:=22
def a8:b6:={sl:=cc [(1,I 2),(0,0)],ms:=[],A:=start}
def cj:bs:=[(.len #[45] 3 0,1)]
def eI:List bw:=[]
def eJ:aG:=cc [(10,3),(9,1),(8,0),(5,2),(4,.slice none 0 0),(1,I 2)]
abbrev hy:=at' 22 cj [] body a8
theorem e0:pS eJ eI hy=some [(.slice none 0 0,2),(1,1),(0,0),(I 0,3)]:=au
def eW:Code:=s9 body [1,1,0,1,4]
def h5:List fc:=oh body [1,1,0,1,4] []
theorem e1:pe hy=eW:=au
theorem e2:f_ hy=h5:=au
def cx:bs:=[(.bin .lss 3 3 1,.bool true),
 (.dC 45 0 3,4),
 (.bF 85 4,.agg ⟨[5,6,7,8]⟩)]
theorem dn:Bx (b4 (at' 22 cx [] eW (b7 eJ eI))).A 1 (.slice (some ⟨1,0,none⟩) 1 1)=some [7]:=au
theorem hU:qy 26 (at' 22 cx [] eW (b7 eJ eI))=some (2,.slice (some ⟨1,0,none⟩) 1 1):=au
abbrev hO:=at' 22 cx [] eW (b7 eJ eI)
def eM:List bw:=[]
def eB:aG:=cc [(10,3),(9,1),(8,0),(5,2),(4,.slice none 0 0),(1,I 2)]
def eS:aG:=fk 22 eB 19 9
theorem kG:cq (b4 hO) eB eM=some [(2,2),(1,1),(0,0),(3,3)]:=au
def e3:eh:=(eW,[1,1,0,4,1],6)
def dz:bs:=[(.bin .add 3 3 (I 1),10)]
theorem rE:qx eJ eI (c1 22 dz [] e3 (b7 eS eM))=some [(9,2),(1,1),(0,0),(10,3)]:=au
def et:bs:=[(.bin .lss 3 3 1,.bool false)]
theorem qg:gk Tryd.prog Tryd.f29 (ny 22 [] [] h5 (at' 22 et [] eW (b7 eJ eI)))=some 2:=au
@[reducible] noncomputable def bJ (l:List bM) (dI:c6) (dO:Nat) (b:List Int:=[]) (a:c6:=none) (c:Nat:=0) (i:Nat:=0) (cB:List Int:=[]) (a0:c6:=none) (dw:Nat:=0):List J:=[bA dI l dO,I ((l.length:Nat):Int),bA a b c,I ((i:Nat):Int),hW (bA dI l dO) (i*4),I (l.e5 (i)).1,I (l.e5 (i)).2.1,I (l.e5 (i)).2.2.1,I (l.e5 (i)).2.2.2,bA a0 cB dw,I ((i+1:Nat):Int)]
theorem any (W:ax) {hX:J} {l:List bM} (hl:cu (aF W) 4 dM hX l) (av:l.length<=100000):Calls Tryd.prog 29 #[hX,I 2] W λe w'=>(∃a c,e= .returned (.slice a (l.map λx=>x.2.2.1).length c)/\dm W.heap.size (aF w') lE 1 ga (.slice a (l.map λx=>x.2.2.1).length c) (l.map λx=>x.2.2.1))/\cb W.heap.size W w':=by
 obtain⟨dI,dO,rfl⟩:=hl.slice;refine jO (bJ l dI dO) body a8 N [al 0,I 2] Tryd.func29 λa ah=> ?_
 letI:=cg ah;refine bK cj [] (ai (eT hl nQ) aX) aY ?_ ah;refine ta (f':=(λ(⟨M,b,a,c,i⟩:Mem×List Int×Option Addr×Nat×Nat)=>aS M (bJ l dI dO b a c i))) (λ(⟨M,b,a,c,i⟩:Mem×List Int×Option Addr×Nat×Nat)=>dm W.heap.size M lE 1 ga (bA a b c) b/\(∀j o,aF W j=some o->M j=some o)/\i<=l.length/\b=(l.take i).map λx=>x.2.2.1) (λ(⟨M,b,a,c,i⟩:Mem×List Int×Option Addr×Nat×Nat)=>l.length-i) ⟨aF W,[],none,0,0⟩ e0 gb (λ_ _ h=>h) (by exact⟨dm.nil _ _ _ _ _ _,λ_ _ h=>h,Nat.zero_le _,rfl⟩) ?_;intro⟨M,b,a,c,i⟩ bg dN w ah;letI:=cg ah;refine s' e1 e2 ?_;have AN:=bg;have cn:=bg.1;have bn:=bg.2.1;have Ck:=bg.2.2.1;have tS:b.length=i:=by rw[bg.2.2.2,List.length_map,List.length_take];omega
 by_cases sK:((i:Nat):Int)<((l.length:Nat):Int)
 ·refine bK cx [] (ai bC (ai (p_ (hl.mono bn) nQ sg) (ai (aT.r5 (hl.mono bn) (nb i) U U BQ sg U U U) aX))) aY ?_ ah
  obtain⟨cB,e7⟩:=iT (b++[(((l.e5 (i)).2.2.1):Int)]);have fq:cB.length=b.length+1:=by rw[e7];first|rfl|simp
  refine Bv (l:=b) (lx:=[(((l.e5 (i)).2.2.1):Int)]) (l':=cB) (bh:=λqd qe=>(bJ l dI dO b a c i cB qd qe)) (T:=(eL (bA a b c))) e7 hU iK JR JS JT JU JV cz l0 JW kG (eP eS 9) rfl (F1 U U cn) (DN dn l0 cz rfl) (zO (show b.length+1<=1000000 by omega)) (show (b.length+1)*yv<=140737488355328 by unfold yv;omega) (λ_ _ _=>gb) (λ_ _ _=>rfl) ?_;intro j9 a0 dw nW lo rz dN w ah;have uR:=lo.up rz (b2 _) bn;letI:=cg ah;refine ep (er e3) dz [] (ai k5 aX) aY ?_ ah;exact tu ⟨j9,cB,a0,dw,i+1⟩ rE gb (by exact⟨nW,uR,ar,by rw[e7,AN.2.2.2];exact SB ar⟩)
 ·refine bK et [] (ai bf aX) aY ?_ ah
  refine nV [] [] aX aY ?_;exact bP qg λw2 br=>(by exact By cn (by rw[AN.2.2.2,show i=l.length by omega,List.take_length]) br)
end abV
namespace SG
noncomputable def body:Code:=(Tryd.f29.body).getD .skip
def N:Nat:=22
def a8:b6:={sl:=cc [(1,I 3),(0,0)],ms:=[],A:=start}
def cj:bs:=[(.len #[45] 3 0,1)]
def eI:List bw:=[]
def eJ:aG:=cc [(10,3),(9,1),(8,0),(5,2),(4,.slice none 0 0),(1,I 3)]
abbrev hy:=at' 22 cj [] body a8
theorem e0:pS eJ eI hy=some [(.slice none 0 0,2),(1,1),(0,0),(I 0,3)]:=au
def eW:Code:=s9 body [1,1,0,1,4]
def h5:List fc:=oh body [1,1,0,1,4] []
theorem e1:pe hy=eW:=au
theorem e2:f_ hy=h5:=au
def cx:bs:=[(.bin .lss 3 3 1,.bool true),
 (.dC 45 0 3,4),
 (.bF 85 4,.agg ⟨[5,6,7,8]⟩)]
theorem dn:Bx (b4 (at' 22 cx [] eW (b7 eJ eI))).A 1 (.slice (some ⟨1,0,none⟩) 1 1)=some [8]:=au
theorem hU:qy 26 (at' 22 cx [] eW (b7 eJ eI))=some (2,.slice (some ⟨1,0,none⟩) 1 1):=au
abbrev hO:=at' 22 cx [] eW (b7 eJ eI)
def eM:List bw:=[]
def eB:aG:=cc [(10,3),(9,1),(8,0),(5,2),(4,.slice none 0 0),(1,I 3)]
def eS:aG:=fk 22 eB 19 9
theorem kG:cq (b4 hO) eB eM=some [(2,2),(1,1),(0,0),(3,3)]:=au
def e3:eh:=(eW,[1,1,0,4,1],6)
def dz:bs:=[(.bin .add 3 3 (I 1),10)]
theorem rE:qx eJ eI (c1 22 dz [] e3 (b7 eS eM))=some [(9,2),(1,1),(0,0),(10,3)]:=au
def et:bs:=[(.bin .lss 3 3 1,.bool false)]
theorem qg:gk Tryd.prog Tryd.f29 (ny 22 [] [] h5 (at' 22 et [] eW (b7 eJ eI)))=some 2:=au
@[reducible] noncomputable def bJ (l:List bM) (dI:c6) (dO:Nat) (b:List Int:=[]) (a:c6:=none) (c:Nat:=0) (i:Nat:=0) (cB:List Int:=[]) (a0:c6:=none) (dw:Nat:=0):List J:=[bA dI l dO,I ((l.length:Nat):Int),bA a b c,I ((i:Nat):Int),hW (bA dI l dO) (i*4),I (l.e5 (i)).1,I (l.e5 (i)).2.1,I (l.e5 (i)).2.2.1,I (l.e5 (i)).2.2.2,bA a0 cB dw,I ((i+1:Nat):Int)]
theorem any (W:ax) {hX:J} {l:List bM} (hl:cu (aF W) 4 dM hX l) (av:l.length<=100000):Calls Tryd.prog 29 #[hX,I 3] W λe w'=>(∃a c,e= .returned (.slice a (l.map λx=>x.2.2.2).length c)/\dm W.heap.size (aF w') lE 1 ga (.slice a (l.map λx=>x.2.2.2).length c) (l.map λx=>x.2.2.2))/\cb W.heap.size W w':=by
 obtain⟨dI,dO,rfl⟩:=hl.slice;refine jO (bJ l dI dO) body a8 N [al 0,I 3] Tryd.func29 λa ah=> ?_
 letI:=cg ah;refine bK cj [] (ai (eT hl nQ) aX) aY ?_ ah;refine ta (f':=(λ(⟨M,b,a,c,i⟩:Mem×List Int×Option Addr×Nat×Nat)=>aS M (bJ l dI dO b a c i))) (λ(⟨M,b,a,c,i⟩:Mem×List Int×Option Addr×Nat×Nat)=>dm W.heap.size M lE 1 ga (bA a b c) b/\(∀j o,aF W j=some o->M j=some o)/\i<=l.length/\b=(l.take i).map λx=>x.2.2.2) (λ(⟨M,b,a,c,i⟩:Mem×List Int×Option Addr×Nat×Nat)=>l.length-i) ⟨aF W,[],none,0,0⟩ e0 gb (λ_ _ h=>h) (by exact⟨dm.nil _ _ _ _ _ _,λ_ _ h=>h,Nat.zero_le _,rfl⟩) ?_;intro⟨M,b,a,c,i⟩ bg dN w ah;letI:=cg ah;refine s' e1 e2 ?_;have AN:=bg;have cn:=bg.1;have bn:=bg.2.1;have Ck:=bg.2.2.1;have tS:b.length=i:=by rw[bg.2.2.2,List.length_map,List.length_take];omega
 by_cases sK:((i:Nat):Int)<((l.length:Nat):Int)
 ·refine bK cx [] (ai bC (ai (p_ (hl.mono bn) nQ sg) (ai (aT.r5 (hl.mono bn) (nb i) U U BQ sg U U U) aX))) aY ?_ ah
  obtain⟨cB,e7⟩:=iT (b++[(((l.e5 (i)).2.2.2):Int)]);have fq:cB.length=b.length+1:=by rw[e7];first|rfl|simp
  refine Bv (l:=b) (lx:=[(((l.e5 (i)).2.2.2):Int)]) (l':=cB) (bh:=λqd qe=>(bJ l dI dO b a c i cB qd qe)) (T:=(eL (bA a b c))) e7 hU iK JR JS JT JU JV cz l0 JW kG (eP eS 9) rfl (F1 U U cn) (DN dn l0 cz rfl) (zO (show b.length+1<=1000000 by omega)) (show (b.length+1)*yv<=140737488355328 by unfold yv;omega) (λ_ _ _=>gb) (λ_ _ _=>rfl) ?_;intro j9 a0 dw nW lo rz dN w ah;have uR:=lo.up rz (b2 _) bn;letI:=cg ah;refine ep (er e3) dz [] (ai k5 aX) aY ?_ ah;exact tu ⟨j9,cB,a0,dw,i+1⟩ rE gb (by exact⟨nW,uR,ar,by rw[e7,AN.2.2.2];exact SB ar⟩)
 ·refine bK et [] (ai bf aX) aY ?_ ah
  refine nV [] [] aX aY ?_;exact bP qg λw2 br=>(by exact By cn (by rw[AN.2.2.2,show i=l.length by omega,List.take_length]) br)
end SG
end AE
namespace AE
def EX:bW:=jk sA (0,0,0) 0
def nC:bW:=jI EX
def oC:bW:=jk nC (0,0,1) 3
def jU:bW:=j_ oC (0,0,1) true
def qR:bW:=mC jU 1
theorem abW:pE wu [3,0,0,0] Il [] 2:=of_decide_eq_true au
theorem amv:¬pE wu [3,0,0,0] Il [] 0:=λh=>by
 have:=h.2.1;omega
theorem SH:gg zs:=(LK abW cz).1
theorem abX:gg sA:=SH.set.1
theorem amw:sA.u.reqs.length<10000:=Nat.lt_of_le_of_lt SH.set.2.2.2 (by show (0:Nat)<_;decide)
theorem abY:gg EX:=(abX.b_ amw _ _).1
theorem SI:gg nC:=abY.set.1
theorem amx:lN sA.b sA.most (0,0,0) sA.u.reqs 0=0:=au
theorem amy:nC.u.reqs.length=0:=au
theorem amz:oC.u.reqs.length=1:=au
theorem amA:jU.u.reqs.length=2:=au
theorem SJ:gg oC:=(SI.b_ (by rw[amy];decide) _ _).1
theorem Io:gg jU:=(SJ.bF (by rw[amz];decide) _ _).1
theorem amB:qQ sA:=of_decide_eq_true au
theorem amC:¬qQ jU:=λh=>by have:=h.2.2;rw[amA] at this;cases this
theorem amD:(sA.u.aH.map λx=>x.1)=[15,14,13,12]:=au
theorem amE:(sA.u.aH.map λx=>x.2.2.1)=[10,9,8,7]:=au
theorem amF:(sA.u.aH.map λx=>x.2.2.2)=[0,15,15,15]:=au
theorem amG:(nC.u.aH.map λx=>x.1)=[0,0,0,0]:=au
theorem amH:(nC.u.aH.map λx=>x.2.2.2)=[15,15,15,15]:=au
theorem LL:sA.u.aH.length=4:=au
theorem SK:nC.u.aH.length=4:=au
theorem n2:0<((uZ EX:Nat):Int):=of_decide_eq_true au
theorem abZ:lN nC.b nC.most (0,0,1) nC.u.reqs 3=0:=au
theorem ab0:j1 oC.b oC.most (0,0,1) oC.u.reqs=0:=au
theorem SL:lN jU.b jU.most (0,0,1) jU.u.reqs 3=16:=au
theorem SM:lN jU.b jU.most (0,0,4) jU.u.reqs 0=1:=au
theorem ab1:jk jU (0,0,1) 3=jU:=LI (by rw[SL];decide)
theorem ab2:jk jU (0,0,4) 0=jU:=LI (by rw[SM];decide)
theorem amI:zg jU 1=1:=au
theorem LM:qR.known.length=4:=au
theorem ab3:qR.cells.length=4:=au
theorem SN:qR.cells.getD 1 default=3:=au
theorem CN {W:ax} {g:Nat} {A:de} {e e':bW} {p:dW} {c n:Int} (h:cv (aF W) [c7 g A e]) (eV:gg e) (ad:jk e p c=e') (af:lN e.b e.most p e.u.reqs c=n):
  Calls Tryd.prog 18 #[ch g,P.val p,.int .i64 c] W λx w'=>(∃a_:de,x= .returned (.int .i64 n)/\c5 (aF W) [c7 g A e] (aF w') [c7 g a_ e'])/\cb 0 W w':=by
 subst ad af;exact abD W h p c eV.oB.box eV.EN eV.LB eV.LC
theorem ab4 {W:ax} {g:Nat} {A:de} {e e':bW} {p:dW} {k:Bool} {n:Int} (h:cv (aF W) [c7 g A e]) (eV:gg e) (ad:j_ e p k=e') (af:j1 e.b e.most p e.u.reqs=n):
  Calls Tryd.prog 19 #[ch g,P.val p,.bool k] W λx w'=>(∃a_:de,x= .returned (.int .i64 n)/\c5 (aF W) [c7 g A e] (aF w') [c7 g a_ e'])/\cb 0 W w':=by
 subst ad af;exact abE W h p k eV.oB.box eV.EN eV.LB eV.LC
theorem amJ {W:ax} {g:Nat} {A:de} {e e':bW} {k:Int} {n:Int} (h:cv (aF W) [c7 g A e]) (eV:gg e) (ad:mC e k=e') (af:((zg e k:Nat):Int)=n):
  Calls Tryd.prog 10 #[ch g,.int .i64 k] W λx w'=>(∃a_:de,x= .returned (.int .i64 n)/\c5 (aF W) [c7 g A e] (aF w') [c7 g a_ e'])/\cb 0 W w':=by
 subst ad af;exact abB W h k eV.oB eV.EM
theorem LN {W:ax} {g:Nat} {A:de} {e e':bW} {n:Int} (h:cv (aF W) [c7 g A e]) (eV:gg e) (ad:jI e=e') (af:((uZ e:Nat):Int)=n):
  Calls Tryd.prog 12 #[ch g] W λx w'=>(∃a_:de,x= .returned (.int .i64 n)/\c5 (aF W) [c7 g A e] (aF w') [c7 g a_ e'])/\cb 0 W w':=by
 subst ad af;exact abA W h eV.oB eV.EM
theorem amK {W:ax} {g:Nat} {A:de} {e:bW} (h:cv (aF W) [c7 g A e]) (aw:qQ e):
  Calls Tryd.prog 11 #[ch g] W λx w'=>(∃_:Unit,x= .returned (.bool true)/\c5 (aF W) [c7 g A e] (aF w') [c7 g A e])/\cb 0 W w':=by
 have:=abC W h
 rwa [gC (show e.u.bE.length=0/\e.u.bu.length=0/\e.u.reqs.length=0 from aw)] at this
theorem amL {W:ax} {g:Nat} {A:de} {e:bW} (h:cv (aF W) [c7 g A e]) (aw:¬qQ e):
  Calls Tryd.prog 11 #[ch g] W λx w'=>(∃_:Unit,x= .returned (.bool false)/\c5 (aF W) [c7 g A e] (aF w') [c7 g A e])/\cb 0 W w':=by
 have:=abC W h
 rwa [c8 (show ¬(e.u.bE.length=0/\e.u.bu.length=0/\e.u.reqs.length=0) from aw)] at this
theorem ab5 {W:ax} {L:List b0} (aw:cv (aF W) L) {c9:Option Addr} {cS c_:Nat} {cells:List Int} (hJ:cu (aF W) 1 ga (.slice c9 cS c_) cells) {b:bQ} {ox oy:J} {table:List cX} {known:List Bool} (aK:cu (aF W) 8 jf ox table) (hd:cu (aF W) 1 iQ oy known) {most:Int}
  (bS:mn (aF W)) (av:cells.length<=10000) (h9:cS=cells.length) (mr:known.length<=100000) (y7:table.length<=100000) (ae:pE b cells table known most):
  Calls Tryd.prog 9 #[l_ b (.slice c9 cS c_),ox,oy,.int .i64 most] W λx w'=>(∃y:Nat×de,x= .returned (.tuple ⟨[ch y.1,.int .i64 0]⟩)/\c5 (aF W) L (aF w') (L++[c7 y.1 y.2 (lO b cells table known most)]))/\cb 0 W w':=
 (abF W hJ aK hd most bS av h9 mr y7).mono λx w' ak=>by
   obtain⟨h,hl⟩:=ak;rw[aQ ae] at h;obtain⟨g,A,rfl,t⟩:=h;exact⟨⟨(g,A),rfl,(aw.own.new t).GL⟩,hl.zero⟩
theorem SO {W:ax} {L:List b0} (aw:cv (aF W) L) {c9:Option Addr} {cS c_:Nat} {cells:List Int} (hJ:cu (aF W) 1 ga (.slice c9 cS c_) cells) {b:bQ} {ox oy:J} {table:List cX} {known:List Bool} (aK:cu (aF W) 8 jf ox table) (hd:cu (aF W) 1 iQ oy known) {most:Int}
  (bS:mn (aF W)) (av:cells.length<=10000) (h9:cS=cells.length) (mr:known.length<=100000) (y7:table.length<=100000) (ae:¬pE b cells table known most):
  Calls Tryd.prog 9 #[l_ b (.slice c9 cS c_),ox,oy,.int .i64 most] W λx w'=>(∃_:Unit,x= .returned (.tuple ⟨[.pointer none,.int .i64 1]⟩)/\c5 (aF W) L (aF w') L)/\cb 0 W w':=
 Ea aw ((abF W hJ aK hd most bS av h9 mr y7).mono λx w' ak=>by
  obtain⟨h,hl⟩:=ak;rw[aU ae] at h
  exact⟨h,hl⟩)
theorem Ip {P:aR} {f:FuncId} {args:Array J} {w:ax} {g:bM->Int} {l:List bM} {r:List Int} (e:l.map g=r) {L:List b0} (aw:cv (aF w) L)
  (h:Calls P f args w λe' w'=>(∃a c,e'= .returned (.slice a (l.map g).length c)/\dm w.heap.size (aF w') lE 1 ga (.slice a (l.map g).length c) (l.map g))/\cb w.heap.size w w'):
  Calls P f args w λe' w'=>(∃y:Option Addr×Nat,e'= .returned (.slice y.1 r.length y.2)/\c5 (aF w) L (aF w') (L++[h2 lE 1 ga (.slice y.1 r.length y.2) r]))/\cb 0 w w':=by
 subst e;exact KC aw h
theorem EY {P:aR} {f:FuncId} {args:Array J} {w:ax} {p:Prop} [Decidable p] (h:Calls P f args w λe w'=>e= .returned (.bool (decide p))/\cb w.heap.size w w') (hp:p):Calls P f args w λe w'=>e= .returned (.bool true)/\cb w.heap.size w w':=by
 rwa [gC hp] at h
end AE
end Go.Proofs.YtepcfjbfkedlpaaDoor
