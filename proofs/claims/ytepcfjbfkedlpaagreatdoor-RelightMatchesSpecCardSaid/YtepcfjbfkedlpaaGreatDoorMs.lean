/- RELIGHTMATCHESSPEC: the card. No condition beyond the row. -/
import Derived.Test.YtepcfjbfkedlpaaGreatDoorMs5
import Derived.Test.YtepcfjbfkedlpaaGreatDoorTie
import Derived.Test.YtepcfjbfkedlpaaGreatDoorCards
set_option maxRecDepth 100000
set_option maxHeartbeats 4000000
noncomputable section
namespace Go.Proofs.YtepcfjbfkedlpaaGreatDoor
open Go Go.Proofs Go.RowKit
section
noncomputable section
namespace AE
abbrev alC:aK:=81
abbrev eA (g:Nat) (b:bw) (v e9 vQ:J):aw bc:= .box g alC [I b.1,I b.2.1,I b.2.2.1,I b.2.2.2.1,I b.2.2.2.2.1,I b.2.2.2.2.2,v,e9,vQ]
def rb (ro:List (fk bc)) (v:J) (R:aw bc) (cells:List Int):Prop:=(∃a c,v= .slice a cells.length c)/\(R= .arr di v cells\/ix ro ⟨di,v,cells⟩)
theorem rb.src {ro:List (fk bc)} {L:List (aw bc)} {v:J} {R:aw bc} {cells:List Int} (h:rb ro v R cells) (fB:ix L R):fU ro L di v cells:=h.2.elim (λe=> .arr (e▸fB)) .ro
def iP (v:J) (n:Nat):Option cE->J
 |none=>v
 |some d=> .slice d.1 n d.2
def iQ (R:aw bc) (cells:List Int):Option cE->aw bc
 |none=>R
 |some d=> .arr di (.slice d.1 cells.length d.2) cells
theorem rb.next {ro:List (fk bc)} {v:J} {R:aw bc} {cells cells':List Int} (h:rb ro v R cells) {y:Option cE} (a_:y=none->cells'=cells):rb ro (iP v cells'.length y) (iQ R cells' y) cells':=by
 cases y with
 |none=>rw[a_ rfl];exact h
 |some d=>exact⟨⟨d.1,d.2,rfl⟩,.inl rfl⟩
def o7 (b:bw) (p:dc) (c:Int) (cells:List Int):List Int:=if kV c then oF b p c cells else cells
def xC (b:bw) (p:dc) (c:Int):Int:=if kV c then (if cX p b then 0 else 1) else 1
theorem Kh {b:bw} {p:dc} {c:Int} {cells:List Int} (h:¬(cX p b/\kV c)):o7 b p c cells=cells/\xC b p c=1:=by
 unfold o7 xC oF;by_cases h1:kV c
 ·have ae:¬cX p b:=λq=>h ⟨q,h1⟩
  rw[aI h1,aI h1,aG ae,aG ae];exact⟨rfl,rfl⟩
 ·rw[aG h1,aG h1]
  exact⟨rfl,rfl⟩
theorem aaI {b:bw} {p:dc} {c:Int} {cells:List Int} (h:cX p b) (h1:kV c):o7 b p c cells=oF b p c cells/\xC b p c=0:=by
 unfold o7 xC;rw[aI h1,aI h1,aI h];exact⟨rfl,rfl⟩
theorem alD (b:bw) (p:dc) (c:Int) (cells:List Int):(o7 b p c cells).length=cells.length:=by
 unfold o7;split
 ·exact aaD _ _ _ _
 ·rfl
namespace aaJ
def t:a7:=
.o (.dp 0) 5 1 []<|
.o (.b7 81 5 0) 6 1 [0,28,7]<|
.o (.b7 28 6 0) 7 1 [0,25,6]<|
.o (.bf 25 7) (.agg ⟨fC 6 8⟩) 6 [6]<|
.c 62 [.agg ⟨[1,2,3]⟩,.agg ⟨[8,9,10,11,12,13]⟩] 14 1<|
.o (.un .not 14) 15 1 []<|
.bb 15 (
 .ret (I 1)) (
 .o (.bin .lss 3 4 (I 0)) 16 1 []<|
 .bb 16 (
  .ret (I 1)) (
  .o (.bin .gtr 3 4 (I 255)) 17 1 []<|
  .bb 17 (
   .ret (I 1)) (
   .o (.dp 0) 18 1 []<|
   .o (.b7 81 18 0) 19 1 [0,28,7]<|
   .o (.bf 28 19) (.agg ⟨fC 7 20⟩) 7 [7]<|
   .call 63 [.agg ⟨[20,21,22,23,24,25,26]⟩,.agg ⟨[1,2,3]⟩,4] (.agg ⟨[27,28,29,30,31,32,33]⟩) 7<|
   .o (.dp 0) 34 1 []<|
   .o (.b7 81 34 0) 35 1 [0,28,7]<|
   .st 28 35 (.agg ⟨[27,28,29,30,31,32,33]⟩)<|
   .ret (I 0))))
theorem bB:cZ Tryz.prog 34 {iT:=[65,63]} [0,.agg ⟨[1,2,3]⟩,4] 5=some t:=dg az
theorem any {W:ao} {ro:List (fk bc)} {g:Nat} {b:bw} {v e9 vQ:J} {R:aw bc} {cells:List Int} (p:dc) (c:Int) (aH:bY (aE W) (bD [eA g b v e9 vQ,R])) (da:∀M,kR (aE W) (bD [eA g b v e9 vQ,R]) M->dR ro M) (fB:rb ro v R cells) (ad:okB b) (ax:cells.length=(dv b).toNat) (ak:cells.length<=100000):
  ey bc 34 [bK g,P.val p,I c] W [eA g b v e9 vQ,R] {y:Option cE // y=none->o7 b p c cells=cells} (λ_=>I (xC b p c)) λy=>[eA g b (iP v cells.length y.1) e9 vQ,iQ R (o7 b p c cells) y.1]:=by
 obtain⟨a,lF,rfl⟩:=fB.1;refine g_ (ro:=ro) mixed bB [bK g,I p.1,I p.2.1,I p.2.2,I c] aH da ?_;unfold t;have no:¬(cX p b/\kV c)->∃y:{y:Option cE // y=none->o7 b p c cells=cells},I 1=I (xC b p c)/\[eA g b (.slice a cells.length lF) e9 vQ,R]=[eA g b (iP (.slice a cells.length lF) cells.length y.1) e9 vQ,iQ R (o7 b p c cells) y.1]:=λh=>by
  obtain⟨e1,e2⟩:=Kh (cells:=cells) h;exact⟨⟨none,λ_=>e1⟩,by rw[e2],rfl⟩
 refine aN ?_;refine mN (c:=lB b) rfl has U U fL ?_;refine ew (v:= .bool (decide (cX p b))) (λw _=>J5.any w p b) ?_;refine ox rfl ?_;refine i_ rfl (λh=>bx (no λq=>h q.1)) λhp=> ?_
 refine aN ?_;refine bR rfl (λh=>bx (no λq=>by have:=q.2.1;omega)) λh1=> ?_
 refine aN ?_;refine bR rfl (λh=>bx (no λq=>by have:=q.2.2;omega)) λae=> ?_
 have ai:kV c:=⟨aj,aj⟩;obtain⟨e1,e2⟩:=aaI (cells:=cells) hp ai;refine aN ?_;refine mN (c:=[I b.1,I b.2.1,I b.2.2.1,I b.2.2.2.1,I b.2.2.2.2.1,I b.2.2.2.2.2,.slice a cells.length lF]) rfl has U U fL ?_;refine n7 (λy=>[I b.1,I b.2.1,I b.2.2.1,I b.2.2.2.1,I b.2.2.2.2.1,I b.2.2.2.2.2,.slice y.1 cells.length y.2]) (λw hw aH=>aaF.any p c aH ((fB.src has).at hw) ad ax ak) λd=> ?_
 refine aN ?_;refine sT (m:=7) (us:=[I b.1,I b.2.1,I b.2.2.1,I b.2.2.2.1,I b.2.2.2.2.1,I b.2.2.2.2.2,.slice d.1 cells.length d.2]) (cs':=[I b.1,I b.2.1,I b.2.2.1,I b.2.2.2.1,I b.2.2.2.2.1,I b.2.2.2.2.2,.slice d.1 cells.length d.2,e9,vQ]) U U fK rfl ?_;refine la (L':=[eA g b (.slice d.1 cells.length d.2) e9 vQ,aw.arr di (.slice d.1 cells.length d.2) (oF b p c cells)]) (λM aV=>by exact aV.pick [0,2] rfl) ⟨⟨some d,λh=>by cases h⟩,by rw[e2];rfl,by rw[e1];show _=[_,aw.arr di (.slice d.1 (oF b p c cells).length d.2) (oF b p c cells)];rw[aaD];rfl⟩
end aaJ
def uL (b:bw) (p:dc) (q:Bool) (sh:List Bool):List Bool:=if cX p b then sh.set (bV b p) q else sh
def Da (b:bw) (p:dc):Int:=if cX p b then 0 else 1
theorem alE (b:bw) (p:dc) (q:Bool) (sh:List Bool):(uL b p q sh).length=sh.length:=by
 unfold uL;split
 ·exact List.length_set
 ·rfl
namespace aaK
def t:a7:=
.o (.dp 0) 5 1 []<|
.o (.b7 81 5 0) 6 1 [0,28,7]<|
.o (.b7 28 6 0) 7 1 [0,25,6]<|
.o (.bf 25 7) (.agg ⟨fC 6 8⟩) 6 [6]<|
.c 64 [.agg ⟨[8,9,10,11,12,13]⟩,.agg ⟨[1,2,3]⟩] 14 1<|
.o (.bin .lss 3 14 (I 0)) 15 1 []<|
.bb 15 (
 .ret (I 1)) (
 .o (.dp 0) 16 1 []<|
 .o (.b7 81 16 2) 17 1 [8,30,1]<|
 .o (.bf 30 17) 18 1 [1]<|
 .qX 30 (.slice none 0 0) 18<|
 .o (.cm 30 19 14) 20 1 [0,4,1]<|
 .st 4 20 4<|
 .o (.dp 0) 21 1 []<|
 .o (.b7 81 21 2) 22 1 [8,30,1]<|
 .st 30 22 19<|
 .ret (I 0))
theorem bB:cZ Tryz.prog 35 {} [0,.agg ⟨[1,2,3]⟩,4] 5=some t:=dg az
theorem any {W:ao} {g:Nat} {b:bw} {v e9:J} {k:cE} {R:aw bc} {sh:List Bool} (p:dc) (q:Bool) (aH:bY (aE W) (bD [eA g b v e9 (.slice k.1 sh.length k.2),R,aw.arr c9 (.slice k.1 sh.length k.2) sh])) (ad:okB b) (ax:sh.length=(dv b).toNat) (ak:sh.length<=100000):
  ey bc 35 [bK g,P.val p,.bool q] W [eA g b v e9 (.slice k.1 sh.length k.2),R,aw.arr c9 (.slice k.1 sh.length k.2) sh] cE (λ_=>I (Da b p)) λy=>[eA g b v e9 (.slice y.1 sh.length y.2),R,aw.arr c9 (.slice y.1 sh.length y.2) (uL b p q sh)]:=by
 refine aaB c9 (λaH=> ?_) aH;refine g_ (ro:=[]) mixed bB [bK g,I p.1,I p.2.1,I p.2.2,.bool q] aH dR.none ?_;unfold t;refine aN ?_;refine mN (c:=lB b) rfl has U U fL ?_;by_cases hp:cX p b
 ·have bt:bV b p<sh.length:=by rw[ax];exact s9 hp
  refine ew (v:=I (bV b p:Nat)) (λw _=>by rw[<-w8 ad hp];exact y3.any w b p ad) ?_;refine aN ?_;refine bR rfl (λh=>absurd h aj) λ_=> ?_
  refine aN ?_
  try refine kz (u:= .slice k.1 sh.length k.2) rfl has rfl ?_
  refine Wb (K:=c9) (d:=3) (l:=[]) (v:= .slice none 0 0) (vx:= .slice k.1 sh.length k.2) (lx:=sh) U U (λa c=> .s (.s (.s .z))) (.arr (.s (.s .z))) (λcr c2=> ?_) (vE (by show 0+sh.length<=_;omega)) (by show (0+sh.length)*1<=_;omega);show X _ _ _ _ _ _ (.slice cr sh.length c2::_) [eA g b v e9 (.slice k.1 sh.length k.2),R,aw.arr c9 (.slice k.1 sh.length k.2) sh,aw.arr c9 (.slice cr sh.length c2) sh] _ _;refine ie (K:=c9) (v:= .slice cr sh.length c2) (l:=sh) (j:=bV b p) U U ?_ (hs:= .arr (.s (.s (.s .z))));refine uo (K:=c9) (v:= .slice cr sh.length c2) (l:=sh) (d:=3) (j:=bV b p) q U U (L':=[eA g b v e9 (.slice k.1 sh.length k.2),R,aw.arr c9 (.slice k.1 sh.length k.2) sh,aw.arr c9 (.slice cr sh.length c2) (sh.set (bV b p) q)]) (.s (.s (.s .z))) rfl (λ_ _=>rfl) ?_;refine aN ?_
  try refine pD (d:=0) (L':=[eA g b v e9 (.slice cr sh.length c2),R,aw.arr c9 (.slice k.1 sh.length k.2) sh,aw.arr c9 (.slice cr sh.length c2) (sh.set (bV b p) q)]) U U .z pC ?_
  refine la (L':=[eA g b v e9 (.slice cr sh.length c2),R,aw.arr c9 (.slice cr sh.length c2) (sh.set (bV b p) q)]) (λM aV=>by exact aV.pick [0,1,3] rfl) ⟨(cr,c2),?_,?_⟩
  ·unfold Da;rw[aI hp];rfl
  ·unfold uL;rw[aI hp]
 ·refine ew (v:=I (-1)) (λw _=>by rw[<-AK hp];exact y3.any w b p ad) ?_
  refine aN ?_;refine bR rfl (λ_=> ?_) λh=>absurd (show (-1:Int)<0 by decide) h
  refine la (L':=[eA g b v e9 (.slice k.1 sh.length k.2),R,aw.arr c9 (.slice k.1 sh.length k.2) sh]) (λM aV=>by exact aV.pick [0,1,2] rfl) ⟨k,?_,?_⟩
  ·unfold Da;rw[aG hp];rfl
  ·unfold uL;rw[aG hp]
end aaK
namespace aaL
def t:a7:=
.o (.dp 0) 1 1 []<|
.o (.b7 81 1 0) 2 1 [0,28,7]<|
.o (.bf 28 2) (.agg ⟨fC 7 3⟩) 7 [7]<|
.o (.b7 81 1 1) 10 1 [7,29,1]<|
.o (.bf 29 10) 11 1 [1]<|
.o (.b7 81 1 2) 12 1 [8,30,1]<|
.o (.bf 30 12) 13 1 [1]<|
.call 65 [.agg ⟨[3,4,5,6,7,8,9]⟩,11,13] (.tuple ⟨[14,15]⟩) 2<|
.ret 14
theorem bB:cZ Tryz.prog 38 {iT:=[65]} [0] 1=some t:=dg az
theorem any {W:ao} {ro:List (fk bc)} {g:Nat} {b:bw} {v e9:J} {k:cE} {R:aw bc} {cells:List Int} {table:List cc} {sh:List Bool} (F:List bq) (aH:bY (aE W) (bD [eA g b v e9 (.slice k.1 sh.length k.2),R,aw.arr c9 (.slice k.1 sh.length k.2) sh])) (da:∀M,kR (aE W) (bD [eA g b v e9 (.slice k.1 sh.length k.2),R,aw.arr c9 (.slice k.1 sh.length k.2) sh]) M->dR ro M) (fB:rb ro v R cells) (dE:ix ro ⟨gg,e9,table⟩) (Rg:lr e9=e9)
  (aF:vC table) (ad:okB b) (ax:sh.length=(dv b).toNat) (ko:cells.length=sh.length) (ak:cells.length<=10000) (jd:lD b cells table sh=0) (cl:oU (er b) (gf table cells sh) (cw F)) (Rf:F.length=sh.length):
  ey bc 38 [bK g] W [eA g b v e9 (.slice k.1 sh.length k.2),R,aw.arr c9 (.slice k.1 sh.length k.2) sh] cE (λy=> .slice y.1 F.length y.2) λy=>[eA g b v e9 (.slice k.1 sh.length k.2),R,aw.arr c9 (.slice k.1 sh.length k.2) sh,aw.arr ez (.slice y.1 F.length y.2) F]:=by
 obtain⟨a,lF,rfl⟩:=fB.1;refine g_ (ro:=ro) mixed bB [bK g] aH da ?_;unfold t;refine aN ?_;refine mN (c:=[I b.1,I b.2.1,I b.2.2.1,I b.2.2.2.1,I b.2.2.2.2.1,I b.2.2.2.2.2,.slice a cells.length lF]) rfl has U U fL ?_;refine aN ?_
 try refine kz (u:=e9) rfl has rfl ?_ (h1:=Rg)
 refine aN ?_
 try refine kz (u:= .slice k.1 sh.length k.2) rfl has rfl ?_
 refine n7 (R:=λy:cE=>aw.arr ez (.slice y.1 F.length y.2) F) (v:=λy=> .tuple ⟨[.slice y.1 F.length y.2,I 0]⟩) (λy=>[.slice y.1 F.length y.2,I 0]) (λw hw aH=>aaG.any F aH ((fB.src has).at hw) ((fU.ro dE).at hw) ((fU.arr (K:=c9) (v:= .slice k.1 sh.length k.2) (l:=sh) has).at hw) rfl aF ad ax ko ak jd cl Rf) λd=> ?_
 exact bx ⟨d,rfl,rfl⟩
end aaL
end AE
end
end
section
noncomputable section
namespace AE
theorem alF {B:Nat} {W:ao} {au:List b4} {ro:List (fk bc)} {post:J->List (aw bc)->Prop} {n:Nat} {env:List J} {L:List (aw bc)} {aL:List (eu bc)} {cB cW:a7} {al:List Nat} {op:BinOp} {t:aK} {x y:J} {fS:IntKind} {a c:Int} {p:Prop} [Decidable p] (ca:wA op=true) (ax:vh op fS a c= .bool (decide p)) (ah:ex env n x= .int fS a) (a_:ex env n y= .int fS c) (h1:p->X B W au ro post n env L aL cB) (ae:¬p->X B W au ro post n env L aL cW) (dY:aP x=true:=by rfl) (h9:aP y=true:=by rfl):X B W au ro post n env L aL (.s (.bin op t x y) al cB cW):=
 ⟨λak ho=> .s (decide p) (λM _ _=> @aZ.bi (cn M env) bc op t x y (.bool (decide p)) fS a c dY h9 rfl ca ((jS M ho ak x).trans ah) ((jS M ho ak y).trans a_) ax.symm) (λh=>h1 (of_decide_eq_true h) ak ho) λh=>ae (of_decide_eq_false h) ak ho⟩
def mS (b:bw) (x:fx) (cells:List Int):List Int:=if x.1=1 then o7 b (gK x) x.2.1 cells else cells
def o8 (b:bw) (x:fx) (sh:List Bool):List Bool:=if x.1=1 then sh else if x.1=2 then uL b (gK x) x.2.2.2.2.2 sh else sh
theorem Ki (b:bw) (x:fx) (cells:List Int):(mS b x cells).length=cells.length:=by
 unfold mS;split
 ·exact alD _ _ _ _
 ·rfl
theorem alG (b:bw) (x:fx) (sh:List Bool):(o8 b x sh).length=sh.length:=by
 unfold o8;split
 ·rfl
 ·split
  ·exact alE _ _ _ _
  ·rfl
namespace aaM
def t:a7:=
.o (.bin .eql 3 1 (I 1)) 7 1 []<|
.bb 7 (
 .call 34 [0,.agg ⟨[3,4,5]⟩,2] 8 1<|
 .ret 8) (
 .o (.bin .eql 3 1 (I 2)) 8 1 []<|
 .bb 8 (
  .call 35 [0,.agg ⟨[3,4,5]⟩,6] 9 1<|
  .ret 9) (
  .ret (I 0)))
theorem bB:cZ Tryz.prog 10 {iT:=[34,35]} [0,.agg ⟨[1,2,3,4,5,6]⟩] 7=some t:=dg az
theorem any {W:ao} {ro:List (fk bc)} {g:Nat} {b:bw} {v e9:J} {k:cE} {R:aw bc} {cells:List Int} {sh:List Bool} (x:fx) (aH:bY (aE W) (bD [eA g b v e9 (.slice k.1 sh.length k.2),R,aw.arr c9 (.slice k.1 sh.length k.2) sh])) (da:∀M,kR (aE W) (bD [eA g b v e9 (.slice k.1 sh.length k.2),R,aw.arr c9 (.slice k.1 sh.length k.2) sh]) M->dR ro M) (fB:rb ro v R cells) (ad:okB b) (ax:sh.length=(dv b).toNat) (ko:cells.length=sh.length) (ak:cells.length<=10000):
  ey bc 10 [bK g,Y.val x] W [eA g b v e9 (.slice k.1 sh.length k.2),R,aw.arr c9 (.slice k.1 sh.length k.2) sh] {y:Option cE×cE // y.1=none->mS b x cells=cells} (λ_=>I (q_ b x)) λy=>[eA g b (iP v cells.length y.1.1) e9 (.slice y.1.2.1 sh.length y.1.2.2),iQ R (mS b x cells) y.1.1,aw.arr c9 (.slice y.1.2.1 sh.length y.1.2.2) (o8 b x sh)]:=by
 refine g_ (ro:=ro) mixed bB [bK g,I x.1,I x.2.1,I x.2.2.1,I x.2.2.2.1,I x.2.2.2.2.1,.bool x.2.2.2.2.2] aH da ?_;unfold t;refine aN ?_;refine bR rfl (λh1=> ?_) λh1=> ?_
 ·have Db:mS b x cells=o7 b (gK x) x.2.1 cells:=aI h1
  have Gq:o8 b x sh=sh:=aI h1;have Gr:q_ b x=xC b (gK x) x.2.1:=aI h1;refine kA (Y:={y:Option cE // y=none->o7 b (gK x) x.2.1 cells=cells}) (v:=λ_=>I (xC b (gK x) x.2.1)) (N:=λy=>[eA g b (iP v cells.length y.1) e9 (.slice k.1 sh.length k.2),iQ R (o7 b (gK x) x.2.1 cells) y.1]) (dm:=[eA g b v e9 (.slice k.1 sh.length k.2),R]) (L':=λy=>[eA g b (iP v cells.length y.1) e9 (.slice k.1 sh.length k.2),iQ R (o7 b (gK x) x.2.1 cells) y.1,aw.arr c9 (.slice k.1 sh.length k.2) sh]) [0,1] (λ_=>[I (xC b (gK x) x.2.1)]) (λw hw aH=>aaJ.any (gK x) x.2.1 aH (λM aV=>da M (hw.on (dm:=[eA g b v e9 (.slice k.1 sh.length k.2),R]) (λi af=>Ag (L:=bD [eA g b v e9 (.slice k.1 sh.length k.2),R,aw.arr c9 (.slice k.1 sh.length k.2) sh]) (is:=[0,1]) rfl af) aV)) fB ad (ko.trans ax) aj) λy=> ?_
  refine bx ⟨⟨(y.1,k),by rw[Db];exact y.2⟩,by rw[Gr];rfl,by
   show [eA g b (iP v cells.length y.1) e9 (.slice k.1 sh.length k.2),iQ R (o7 b (gK x) x.2.1 cells) y.1,aw.arr c9 (.slice k.1 sh.length k.2) sh]=[eA g b (iP v cells.length y.1) e9 (.slice k.1 sh.length k.2),iQ R (mS b x cells) y.1,aw.arr c9 (.slice k.1 sh.length k.2) (o8 b x sh)]
   rw[Db,Gq]⟩
 ·refine aN ?_
  refine bR rfl (λae=> ?_) λae=> ?_
  ·have Db:mS b x cells=cells:=aG h1
   have Gq:o8 b x sh=uL b (gK x) x.2.2.2.2.2 sh:=by unfold o8;rw[aG h1,aI ae]
   have Gr:q_ b x=Da b (gK x):=by unfold q_;rw[aG h1,aI ae];rfl
   refine kA (Y:=cE) (v:=λ_=>I (Da b (gK x))) (N:=λy=>[eA g b v e9 (.slice y.1 sh.length y.2),R,aw.arr c9 (.slice y.1 sh.length y.2) (uL b (gK x) x.2.2.2.2.2 sh)]) (dm:=[eA g b v e9 (.slice k.1 sh.length k.2),R,aw.arr c9 (.slice k.1 sh.length k.2) sh]) (L':=λy=>[eA g b v e9 (.slice y.1 sh.length y.2),R,aw.arr c9 (.slice y.1 sh.length y.2) (uL b (gK x) x.2.2.2.2.2 sh)]) [0,1,2] (λ_=>[I (Da b (gK x))]) (λw hw aH=>aaK.any (gK x) x.2.2.2.2.2 aH ad ax aj) λy=> ?_
   exact bx ⟨⟨(none,y),λ_=>Db⟩,by rw[Gr];rfl,by rw[Gq];rfl⟩
  ·have Db:mS b x cells=cells:=aG h1
   have Gq:o8 b x sh=sh:=by unfold o8;rw[aG h1,aG ae]
   have Gr:q_ b x=0:=by unfold q_;rw[aG h1,aG ae]
   exact bx ⟨⟨(none,k),λ_=>Db⟩,by rw[Gr];rfl,by rw[Gq];rfl⟩
end aaM
namespace Rh
def t:a7:=
.c 33 [.agg ⟨[0,1,2,3,4,5,6]⟩,7,8] 10 1<|
.o (.bin .neq 35 10 (I 0)) 11 1 []<|
.bb 11 (
 .ret (.tuple ⟨[.pointer none,I 1]⟩)) (
 .o (.bin .lss 3 9 (I 1)) 12 1 []<|
 .bb 12 (
  .ret (.tuple ⟨[.pointer none,I 1]⟩)) (
  .o (.bin .gtr 3 9 (I 65536)) 13 1 []<|
  .bb 13 (
   .ret (.tuple ⟨[.pointer none,I 1]⟩)) (
   .nn 81 (.agg ⟨[0,1,2,3,4,5,6,7,.slice none 0 0]⟩)<|
   .loop [I 0] 1<|
   .o (.len #[26] 3 6) 16 1 [0,3]<|
   .o (.bin .lss 3 15 16) 17 1 []<|
   .bb 17 (
    .o (.dp 14) 18 1 []<|
    .o (.b7 81 18 2) 19 1 [8,30,1]<|
    .o (.bf 30 19) 20 1 [1]<|
    .o (.len #[30] 3 8) 21 1 [0,4]<|
    .s (.bin .eql 3 21 (I 0)) [] (
     .rT 30 20 [.bool true]<|
     .o (.dp 14) 23 1 []<|
     .o (.b7 81 23 2) 24 1 [8,30,1]<|
     .st 30 24 22<|
     .o (.bin .add 3 15 (I 1)) 25 1 []<|
     .back [25]) (
     .o (.cm 30 8 15) 22 1 [0,4,1]<|
     .o (.bf 4 22) 23 1 [1]<|
     .rT 30 20 [23]<|
     .o (.dp 14) 25 1 []<|
     .o (.b7 81 25 2) 26 1 [8,30,1]<|
     .st 30 26 24<|
     .o (.bin .add 3 15 (I 1)) 27 1 []<|
     .back [27])) (
    .c4<|
    .ret (.tuple ⟨[14,I 0]⟩)))))
theorem bB:cZ Tryz.prog 8 {marks:=[81]} [.agg ⟨[0,1,2,3,4,5,6]⟩,7,8,9] 10=some t:=dg az
theorem yes {W:ao} {b:bw} {a0 b2 cr:Option Addr} {cU bZ lj cp n2 c2:Nat} {cells:List Int} {table:List cc} {known:List Bool} {most:Int} (aH:bY (aE W) (bD ([]:List (aw bc)))) (pI:bT (aE W) 1 hv (.slice a0 cU bZ) cells) (l_:bT (aE W) 8 gm (.slice b2 lj cp) table) (kP:bT (aE W) 1 hx (.slice cr n2 c2) known) (aJ:cU=cells.length) (h1:lj=table.length) (ae:n2=known.length) (iW:cells.length<=1000000) (ai:mP b cells table known most):
  ey bc 8 [hN b (.slice a0 cU bZ),.slice b2 lj cp,.slice cr n2 c2,I most] W [] (Nat×cE) (λy=> .tuple ⟨[bK y.1,I 0]⟩) λy=>[eA y.1 b (.slice a0 cU bZ) (.slice b2 lj cp) (.slice y.2.1 (pH known cells.length).length y.2.2),aw.arr c9 (.slice y.2.1 (pH known cells.length).length y.2.2) (pH known cells.length)]:=by
 subst aJ h1 ae;obtain⟨K,bU⟩:∃K,K=pH known cells.length:=⟨_,rfl⟩;have aaN:K.length=cells.length:=by rw[bU];exact Zd (CV ai.1).2.2
 rw[<-bU];obtain⟨F,cl⟩:∃F:Nat->List Bool,F=λi=>K.take i:=⟨_,rfl⟩
 have f0:F 0=[]:=by rw[cl];rfl
 have gX:∀i,i<=cells.length->(F i).length=i:=λi af=>by rw[cl];simp [aaN,af]
 have QW:F cells.length=K:=by rw[cl,<-aaN];simp
 have fs:∀i,i<cells.length->F (i+1)=F i++[K.getD i default]:=λi af=>by
  rw[cl];show K.take (i+1)=K.take i++[K.getD i default];rw[List.take_succ_eq_append_getElem aj,c_,fy aj];rfl
 refine g_ (ro:=[⟨di,.slice a0 cells.length bZ,cells⟩,⟨gg,.slice b2 table.length cp,table⟩,⟨c9,.slice cr known.length c2,known⟩]) mixed bB [I b.1,I b.2.1,I b.2.2.1,I b.2.2.2.1,I b.2.2.2.2.1,I b.2.2.2.2.2,.slice a0 cells.length bZ,.slice b2 table.length cp,.slice cr known.length c2,I most] aH (dR.ext (.cons pI (.cons l_ (.cons kP (.nil _))))) ?_;unfold t;refine ew (v:=I 0) (λw hw=>by
  have:=Kf.any (b:=b) (hw.ro 0 _ rfl) (hw.ro 1 _ rfl) (hw.ro 2 _ rfl) U U U iW;rw[show lD b _ _ _=0 from ai.1] at this
  exact this) ?_
 refine wW U U ?_;refine q3 rfl ?_;have mW:=ai.2.1;have yH:=ai.2.2;refine aN ?_;refine bR rfl (λh=>absurd h aj) λ_=> ?_
 refine aN ?_;refine bR rfl (λh=>absurd h aj) λ_=> ?_
 refine vr (cs:=[I b.1,I b.2.1,I b.2.2.1,I b.2.2.2.1,I b.2.2.2.2.1,I b.2.2.2.2.2,.slice a0 cells.length bZ,.slice b2 table.length cp,.slice none 0 0]) U U (λg=>iy) λg=> ?_
 refine F6 (Nat×cE) (λu=>[I (u.1:Nat)]) (λu=>[eA g b (.slice a0 cells.length bZ) (.slice b2 table.length cp) (.slice u.2.1 (F u.1).length u.2.2),aw.arr c9 (.slice u.2.1 (F u.1).length u.2.2) (F u.1)]) (λu=>u.1<=cells.length) (λu=>cells.length-u.1) (0,none,0) rfl (by rw[f0];exact h4.JN c9) (Nat.zero_le _) (λu hu=> ?_);obtain⟨i,a,c⟩:=u;have hu:i<=cells.length:=hu;dsimp only;have tP:=gX i hu;refine aN ?_;refine bR rfl (λaf=> ?_) λaf=> ?_
 ·have af:i<cells.length:=by omega
  refine aN ?_
  try refine kz (u:= .slice a (F i).length c) rfl has rfl ?_
  refine aN ?_;refine alF U U U U (λbu=> ?_) λbu=> ?_
  ·have ag:K.getD i default=true:=by
    rw[bU,Yt aj,c_,List.getElem?_replicate,aI af];rfl
   refine Fm (K:=c9) (l:=F i) [true] rfl (λa c=>fK) rfl (λcr c2=> ?_) (vE (by show _+1<=_;omega)) (by show (_+1)*1<=_;omega);rw[show F i++[true]=F (i+1) by rw[fs i af,ag]];refine aN ?_;exact uE (u:=(i,a,c)) (i+1,cr,c2) rfl (h4.refl _) af (by show cells.length-(i+1)<cells.length-i;omega)
  ·have mH:known.length=cells.length:=(CV ai.1).2.2.resolve_left aj
   have bt:i<known.length:=by omega
   have ag:K.getD i default=known.getD i default:=by rw[bU,Yu aj]
   refine ie (K:=c9) (v:= .slice cr known.length c2) (l:=known) (j:=i) U U ?_ (hs:= .ro has);refine mM (K:=c9) (v:= .slice cr known.length c2) (l:=known) (j:=i) (o:=0) (u:= .bool (known.getD i default)) U U ?_ (hs:= .ro has);refine Fm (K:=c9) (l:=F i) [known.getD i default] rfl (λa c=>fK) rfl (λcr c2=> ?_) (vE (by show _+1<=_;omega)) (by show (_+1)*1<=_;omega);rw[show F i++[known.getD i default]=F (i+1) by rw[fs i af,ag]];refine aN ?_;exact uE (u:=(i,a,c)) (i+1,cr,c2) rfl (h4.refl _) af (by show cells.length-(i+1)<cells.length-i;omega)
 ·obtain rfl:i=cells.length:=by omega
  refine hV ?_;rw[QW];exact bx ⟨(g,a,c),rfl,rfl⟩
theorem no {W:ao} {b:bw} {a0 b2 cr:Option Addr} {cU bZ lj cp n2 c2:Nat} {cells:List Int} {table:List cc} {known:List Bool} {most:Int} (aH:bY (aE W) (bD ([]:List (aw bc)))) (pI:bT (aE W) 1 hv (.slice a0 cU bZ) cells) (l_:bT (aE W) 8 gm (.slice b2 lj cp) table) (kP:bT (aE W) 1 hx (.slice cr n2 c2) known) (aJ:cU=cells.length) (h1:lj=table.length) (ae:n2=known.length) (iW:cells.length<=1000000) (ai:¬mP b cells table known most):
  ey bc 8 [hN b (.slice a0 cU bZ),.slice b2 lj cp,.slice cr n2 c2,I most] W [] Unit (λ_=> .tuple ⟨[.pointer none,I 1]⟩) λ_=>[]:=by
 subst aJ h1 ae;refine g_ (ro:=[⟨di,.slice a0 cells.length bZ,cells⟩,⟨gg,.slice b2 table.length cp,table⟩,⟨c9,.slice cr known.length c2,known⟩]) mixed bB [I b.1,I b.2.1,I b.2.2.1,I b.2.2.2.1,I b.2.2.2.2.1,I b.2.2.2.2.2,.slice a0 cells.length bZ,.slice b2 table.length cp,.slice cr known.length c2,I most] aH (dR.ext (.cons pI (.cons l_ (.cons kP (.nil _))))) ?_;unfold t;refine ew (v:=I (lD b cells table known)) (λw hw=>Kf.any (b:=b) (hw.ro 0 _ rfl) (hw.ro 1 _ rfl) (hw.ro 2 _ rfl) U U U iW) ?_;refine aN ?_;refine bR rfl (λ_=>bx ⟨(),rfl,rfl⟩) λar=> ?_
 have ar:lD b cells table known=0:=Decidable.not_not.1 ar;refine aN ?_;refine bR rfl (λ_=>bx ⟨(),rfl,rfl⟩) λbm=> ?_
 refine aN ?_;refine bR rfl (λ_=>bx ⟨(),rfl,rfl⟩) λcg=> ?_
 exact absurd ⟨ar,aj,aj⟩ ai
end Rh
theorem alH {e:bJ} (h:fo e):C_ e.u.av:=λn=>by
 by_cases ak:n<e.u.bO.length
 ·exact PO (h.nz.li n ak)
 ·rw[c_,List.getElem?_eq_none (by rw[h.nz.Jz];omega)]
  intro c ai;have:AE.bF (default:bq) c=0:=yp c;show 0<=AE.bF (default:bq) c/\AE.bF (default:bq) c<=15;rw[this];decide
namespace aaO
def t:a7:=
.o (.dp 1) 2 1 []<|
.o (.b7 81 2 0) 3 1 [0,28,7]<|
.o (.bf 28 3) (.agg ⟨fC 7 4⟩) 7 [7]<|
.alt (
 .call 14 [0] (.agg ⟨[11,12,13,14,15,16,17]⟩) 7<|
 .o (.bf 28 3) (.agg ⟨fC 7 18⟩) 7 [7]<|
 .cs 36 [.agg ⟨[11,12,13,14,15,16,17]⟩,.agg ⟨[18,19,20,21,22,23,24]⟩] (
  .o (.dp 1) 25 1 []<|
  .o (.b7 81 25 2) 26 1 [8,30,1]<|
  .o (.bf 30 26) 27 1 [1]<|
  .alt (
   .call 15 [0] 28 1<|
   .o (.bf 30 26) 29 1 [1]<|
   .c 37 [28,29] 30 1<|
   .o (.un .not 30) 31 1 []<|
   .bb 31 (
    .ret (.bool false)) (
    .call 17 [0] 32 1<|
    .o (.len #[51] 3 32) 33 1 [0,85]<|
    .o (.dp 1) 34 1 []<|
    .o (.b7 81 34 0) 35 1 [0,28,7]<|
    .o (.b7 28 35 1) 36 1 [6,26,1]<|
    .o (.bf 26 36) 37 1 [1]<|
    .o (.len #[26] 3 37) 38 1 [0,3]<|
    .o (.bin .neq 3 33 38) 39 1 []<|
    .bb 39 (
     .ret (.bool false)) (
     .o (.len #[51] 3 32) 40 1 [0,85]<|
     .loop [I 0,.bool false] 2<|
     .o (.bin .lss 3 41 40) 43 1 []<|
     .bb 43 (
      .o (.cm 51 32 41) 44 1 [0,85,4]<|
      .o (.bf 85 44) (.agg ⟨fC 4 45⟩) 4 [4]<|
      .loop [42,I 0] 2<|
      .o (.bin .lss 3 50 (I 4)) 51 1 []<|
      .bb 51 (
       .o (.dP 85 (.agg ⟨[45,46,47,48]⟩) 50) 52 1 [1,4,3,1]<|
       .o (.bin .lss 3 52 (I 0)) 53 1 []<|
       .bb 53 (
        .c4<|
        .c4<|
        .ret (.bool false)) (
        .o (.bin .gtr 3 52 (I 15)) 54 1 []<|
        .bb 54 (
         .c4<|
         .c4<|
         .ret (.bool false)) (
         .o (.bin .add 3 50 (I 1)) 55 1 []<|
         .back [49,55]))) (
       .c4<|
       .o (.bin .add 3 41 (I 1)) 52 1 []<|
       .back [52,49])) (
      .c4<|
      .call 12 [0] 44 1<|
      .o (.un .not 44) 45 1 []<|
      .bb 45 (
       .ret (.bool true)) (
       .call 38 [1] 46 1<|
       .c 16 [32,46] 47 1<|
       .ret 47))))) (
   .call 15 [0] 28 1<|
   .c 37 [28,27] 29 1<|
   .o (.un .not 29) 30 1 []<|
   .bb 30 (
    .ret (.bool false)) (
    .call 17 [0] 31 1<|
    .o (.len #[51] 3 31) 32 1 [0,85]<|
    .o (.dp 1) 33 1 []<|
    .o (.b7 81 33 0) 34 1 [0,28,7]<|
    .o (.b7 28 34 1) 35 1 [6,26,1]<|
    .o (.bf 26 35) 36 1 [1]<|
    .o (.len #[26] 3 36) 37 1 [0,3]<|
    .o (.bin .neq 3 32 37) 38 1 []<|
    .bb 38 (
     .ret (.bool false)) (
     .o (.len #[51] 3 31) 39 1 [0,85]<|
     .loop [I 0,.bool false] 2<|
     .o (.bin .lss 3 40 39) 42 1 []<|
     .bb 42 (
      .o (.cm 51 31 40) 43 1 [0,85,4]<|
      .o (.bf 85 43) (.agg ⟨fC 4 44⟩) 4 [4]<|
      .loop [41,I 0] 2<|
      .o (.bin .lss 3 49 (I 4)) 50 1 []<|
      .bb 50 (
       .o (.dP 85 (.agg ⟨[44,45,46,47]⟩) 49) 51 1 [1,4,3,1]<|
       .o (.bin .lss 3 51 (I 0)) 52 1 []<|
       .bb 52 (
        .c4<|
        .c4<|
        .ret (.bool false)) (
        .o (.bin .gtr 3 51 (I 15)) 53 1 []<|
        .bb 53 (
         .c4<|
         .c4<|
         .ret (.bool false)) (
         .o (.bin .add 3 49 (I 1)) 54 1 []<|
         .back [48,54]))) (
       .c4<|
       .o (.bin .add 3 40 (I 1)) 51 1 []<|
       .back [51,48])) (
      .c4<|
      .call 12 [0] 43 1<|
      .o (.un .not 43) 44 1 []<|
      .bb 44 (
       .ret (.bool true)) (
       .call 38 [1] 45 1<|
       .c 16 [31,45] 46 1<|
       .ret 46)))))) (
  .ret (.bool false))) (
 .call 14 [0] (.agg ⟨[11,12,13,14,15,16,17]⟩) 7<|
 .cs 36 [.agg ⟨[11,12,13,14,15,16,17]⟩,.agg ⟨[4,5,6,7,8,9,10]⟩] (
  .o (.dp 1) 18 1 []<|
  .o (.b7 81 18 2) 19 1 [8,30,1]<|
  .o (.bf 30 19) 20 1 [1]<|
  .alt (
   .call 15 [0] 21 1<|
   .o (.bf 30 19) 22 1 [1]<|
   .c 37 [21,22] 23 1<|
   .o (.un .not 23) 24 1 []<|
   .bb 24 (
    .ret (.bool false)) (
    .call 17 [0] 25 1<|
    .o (.len #[51] 3 25) 26 1 [0,85]<|
    .o (.dp 1) 27 1 []<|
    .o (.b7 81 27 0) 28 1 [0,28,7]<|
    .o (.b7 28 28 1) 29 1 [6,26,1]<|
    .o (.bf 26 29) 30 1 [1]<|
    .o (.len #[26] 3 30) 31 1 [0,3]<|
    .o (.bin .neq 3 26 31) 32 1 []<|
    .bb 32 (
     .ret (.bool false)) (
     .o (.len #[51] 3 25) 33 1 [0,85]<|
     .loop [I 0,.bool false] 2<|
     .o (.bin .lss 3 34 33) 36 1 []<|
     .bb 36 (
      .o (.cm 51 25 34) 37 1 [0,85,4]<|
      .o (.bf 85 37) (.agg ⟨fC 4 38⟩) 4 [4]<|
      .loop [35,I 0] 2<|
      .o (.bin .lss 3 43 (I 4)) 44 1 []<|
      .bb 44 (
       .o (.dP 85 (.agg ⟨[38,39,40,41]⟩) 43) 45 1 [1,4,3,1]<|
       .o (.bin .lss 3 45 (I 0)) 46 1 []<|
       .bb 46 (
        .c4<|
        .c4<|
        .ret (.bool false)) (
        .o (.bin .gtr 3 45 (I 15)) 47 1 []<|
        .bb 47 (
         .c4<|
         .c4<|
         .ret (.bool false)) (
         .o (.bin .add 3 43 (I 1)) 48 1 []<|
         .back [42,48]))) (
       .c4<|
       .o (.bin .add 3 34 (I 1)) 45 1 []<|
       .back [45,42])) (
      .c4<|
      .call 12 [0] 37 1<|
      .o (.un .not 37) 38 1 []<|
      .bb 38 (
       .ret (.bool true)) (
       .call 38 [1] 39 1<|
       .c 16 [25,39] 40 1<|
       .ret 40))))) (
   .call 15 [0] 21 1<|
   .c 37 [21,20] 22 1<|
   .o (.un .not 22) 23 1 []<|
   .bb 23 (
    .ret (.bool false)) (
    .call 17 [0] 24 1<|
    .o (.len #[51] 3 24) 25 1 [0,85]<|
    .o (.dp 1) 26 1 []<|
    .o (.b7 81 26 0) 27 1 [0,28,7]<|
    .o (.b7 28 27 1) 28 1 [6,26,1]<|
    .o (.bf 26 28) 29 1 [1]<|
    .o (.len #[26] 3 29) 30 1 [0,3]<|
    .o (.bin .neq 3 25 30) 31 1 []<|
    .bb 31 (
     .ret (.bool false)) (
     .o (.len #[51] 3 24) 32 1 [0,85]<|
     .loop [I 0,.bool false] 2<|
     .o (.bin .lss 3 33 32) 35 1 []<|
     .bb 35 (
      .o (.cm 51 24 33) 36 1 [0,85,4]<|
      .o (.bf 85 36) (.agg ⟨fC 4 37⟩) 4 [4]<|
      .loop [34,I 0] 2<|
      .o (.bin .lss 3 42 (I 4)) 43 1 []<|
      .bb 43 (
       .o (.dP 85 (.agg ⟨[37,38,39,40]⟩) 42) 44 1 [1,4,3,1]<|
       .o (.bin .lss 3 44 (I 0)) 45 1 []<|
       .bb 45 (
        .c4<|
        .c4<|
        .ret (.bool false)) (
        .o (.bin .gtr 3 44 (I 15)) 46 1 []<|
        .bb 46 (
         .c4<|
         .c4<|
         .ret (.bool false)) (
         .o (.bin .add 3 42 (I 1)) 47 1 []<|
         .back [41,47]))) (
       .c4<|
       .o (.bin .add 3 33 (I 1)) 44 1 []<|
       .back [44,41])) (
      .c4<|
      .call 12 [0] 36 1<|
      .o (.un .not 36) 37 1 []<|
      .bb 37 (
       .ret (.bool true)) (
       .call 38 [1] 38 1<|
       .c 16 [24,38] 39 1<|
       .ret 39)))))) (
  .ret (.bool false)))
theorem bB:cZ Tryz.prog 11 {iT:=[38,14,17,15,12]} [0,1] 2=some t:=dg az
theorem any {W:ao} {ro:List (fk bc)} {ge g:Nat} {A:dM} {e:bJ} {v e9:J} {k:cE} {R:aw bc} (aH:bY (aE W) (bD [fm ge A e,eA g e.b v e9 (.slice k.1 e.known.length k.2),R,aw.arr c9 (.slice k.1 e.known.length k.2) e.known])) (da:∀M,kR (aE W) (bD [fm ge A e,eA g e.b v e9 (.slice k.1 e.known.length k.2),R,aw.arr c9 (.slice k.1 e.known.length k.2) e.known]) M->dR ro M) (fB:rb ro v R e.cells) (dE:ix ro ⟨gg,e9,e.table⟩) (Rg:lr e9=e9)
  (dd:fo e) (ak:e.cells.length<=10000) (jd:lD e.b e.cells e.table e.known=0):
  ey bc 11 [bK ge,bK g] W [fm ge A e,eA g e.b v e9 (.slice k.1 e.known.length k.2),R,aw.arr c9 (.slice k.1 e.known.length k.2) e.known] Unit (λ_=> .bool true) λ_=>[fm ge A e,eA g e.b v e9 (.slice k.1 e.known.length k.2),R,aw.arr c9 (.slice k.1 e.known.length k.2) e.known]:=by
 obtain⟨a,lF,rfl⟩:=fB.1;have Gs:=dd.A6;have iH:e.u.av.length=e.cells.length:=dd.nz.Jz.trans dd.lc.symm;have aaP:=alH dd;have Ri:e.known.length=(dv e.b).toNat:=Gs.trans dd.A5;obtain⟨F,cl⟩:∃F,F=e.u.av:=⟨_,rfl⟩;rw[<-cl] at iH aaP;refine g_ (ro:=ro) mixed bB [bK ge,bK g] aH da ?_;unfold t;refine aN ?_;refine mN (c:=[I e.b.1,I e.b.2.1,I e.b.2.2.1,I e.b.2.2.2.1,I e.b.2.2.2.2.1,I e.b.2.2.2.2.2,.slice a e.cells.length lF]) rfl has U U fL ?_;refine V_ ?_ ?_<;>(
  refine A3 0 (K:=di) (l:=e.cells) (λd=>[I e.b.1,I e.b.2.1,I e.b.2.2.1,I e.b.2.2.2.1,I e.b.2.2.2.2.1,I e.b.2.2.2.2.2,.slice d.1 e.cells.length d.2]) (λw _ aH=>Y_ w aH aj) λd1=> ?_
  try refine mN (c:=[I e.b.1,I e.b.2.1,I e.b.2.2.1,I e.b.2.2.2.1,I e.b.2.2.2.2.1,I e.b.2.2.2.2.2,.slice a e.cells.length lF]) rfl has U U fL ?_
  refine ahO (b:=true) (λw hw=>aae.any ((fU.arr (K:=di) (v:= .slice d1.1 e.cells.length d1.2) (l:=e.cells) has).at hw) ((fB.src has).at hw) U U aj) (λ_=> ?_) (λh=>by cases h);refine aN ?_
  try refine kz (u:= .slice k.1 e.known.length k.2) rfl has rfl ?_
  refine V_ ?_ ?_<;>(
   refine A3 0 (K:=c9) (l:=e.known) (λd=>[.slice d.1 e.known.length d.2]) (λw _ aH=>Y' w aH aj) λjK=> ?_
   try refine kz (u:= .slice k.1 e.known.length k.2) rfl has rfl ?_
   refine ew (v:= .bool true) (λw hw=>aaf.any ((fU.arr (K:=c9) (v:= .slice jK.1 e.known.length jK.2) (l:=e.known) has).at hw) ((fU.arr (K:=c9) (v:= .slice k.1 e.known.length k.2) (l:=e.known) has).at hw) U U aj) ?_;refine aN ?_;refine q3 rfl ?_;refine A3 0 (K:=ez) (l:=F) (λd=>[.slice d.1 F.length d.2]) (λw _ aH=>by
    have:=QL w aH (by rw[<-cl];omega);rw[<-cl] at this
    exact this) λo5=> ?_
   refine aN ?_
   try refine kz (u:= .slice a e.cells.length lF) rfl has rfl ?_
   refine aN ?_;refine bR rfl (λh=>absurd aj h) λ_=> ?_
   refine aN ?_;refine k_ Nat (λi=>[I (i:Nat),.bool false]) (λ_=>[fm ge A e,eA g e.b (.slice a e.cells.length lF) e9 (.slice k.1 e.known.length k.2),R,aw.arr c9 (.slice k.1 e.known.length k.2) e.known,aw.arr di (.slice d1.1 e.cells.length d1.2) e.cells,aw.arr c9 (.slice jK.1 e.known.length jK.2) e.known,aw.arr ez (.slice o5.1 F.length o5.2) F]) (λi=>i<=F.length) (λi=>F.length-i) 0 U U (Nat.zero_le _) (λi af=> ?_);refine aN ?_;refine bR rfl (λbt=> ?_) λbt=> ?_
   ·have bt:i<F.length:=by omega
    refine ie (K:=ez) (v:= .slice o5.1 F.length o5.2) (l:=F) (j:=i) U U ?_ (hs:= .arr has);refine nt (K:=ez) (v:= .slice o5.1 F.length o5.2) (l:=F) (j:=i) (o:=0) (c:=ch (F.getD i default)) U U U fL ?_ (hs:= .arr has);refine k_ Nat (λj=>[.bool false,I (j:Nat)]) (λ_=>[fm ge A e,eA g e.b (.slice a e.cells.length lF) e9 (.slice k.1 e.known.length k.2),R,aw.arr c9 (.slice k.1 e.known.length k.2) e.known,aw.arr di (.slice d1.1 e.cells.length d1.2) e.cells,aw.arr c9 (.slice jK.1 e.known.length jK.2) e.known,aw.arr ez (.slice o5.1 F.length o5.2) F]) (λj=>j<=4) (λj=>4-j) 0 U U (by show 0<=4;omega) (λj hj=> ?_);refine aN ?_;refine bR rfl (λbm=> ?_) λbm=> ?_
    ·have bm:j<4:=by omega
     have ka:=aaP i j bm;refine Jj (cs:=ch (F.getD i default)) (j:=j) (u:=I (bF (F.getD i default) j)) U U (by rw[<-vF bm];congr 1;omega) ?_;refine aN ?_;refine bR rfl (λh=>absurd h aj) λ_=> ?_
     refine aN ?_;refine bR rfl (λh=>absurd h aj) λ_=> ?_
     refine aN ?_;exact h5 (j+1) U U aj aj
    ·refine hV ?_
     refine aN ?_;exact h5 (i+1) U U aj aj
   ·refine hV ?_
    refine F7 0 (v:= .bool (decide (e.u.bz.length=0/\e.u.bp.length=0/\e.u.reqs.length=0))) (λw _ aH=>JS w aH) ?_;refine ox rfl ?_;refine i_ rfl (λ_=> ?_) λhs=> ?_
    ·exact la (L':=[fm ge A e,eA g e.b (.slice a e.cells.length lF) e9 (.slice k.1 e.known.length k.2),R,aw.arr c9 (.slice k.1 e.known.length k.2) e.known]) (λM aV=>by exact aV.pick [0,1,2,3] rfl) ⟨(),rfl,rfl⟩
    ·have alI:=(dd.full hs).1
     refine kA (v:=λ(y:cE)=> .slice y.1 F.length y.2) (N:=λy=>[eA g e.b (.slice a e.cells.length lF) e9 (.slice k.1 e.known.length k.2),R,aw.arr c9 (.slice k.1 e.known.length k.2) e.known,aw.arr ez (.slice y.1 F.length y.2) F]) (dm:=[eA g e.b (.slice a e.cells.length lF) e9 (.slice k.1 e.known.length k.2),R,aw.arr c9 (.slice k.1 e.known.length k.2) e.known]) (L':=λy=>[fm ge A e,eA g e.b (.slice a e.cells.length lF) e9 (.slice k.1 e.known.length k.2),R,aw.arr c9 (.slice k.1 e.known.length k.2) e.known,aw.arr di (.slice d1.1 e.cells.length d1.2) e.cells,aw.arr c9 (.slice jK.1 e.known.length jK.2) e.known,aw.arr ez (.slice o5.1 F.length o5.2) F,aw.arr ez (.slice y.1 F.length y.2) F]) [1,2,3] (λy=>[.slice y.1 F.length y.2]) (λw hw aH=>aaL.any F aH (λM aV=>da M (hw.on (dm:=[eA g e.b (.slice a e.cells.length lF) e9 (.slice k.1 e.known.length k.2),R,aw.arr c9 (.slice k.1 e.known.length k.2) e.known]) (λi af=>Ag (L:=bD [fm ge A e,eA g e.b (.slice a e.cells.length lF) e9 (.slice k.1 e.known.length k.2),R,aw.arr c9 (.slice k.1 e.known.length k.2) e.known,aw.arr di (.slice d1.1 e.cells.length d1.2) e.cells,aw.arr c9 (.slice jK.1 e.known.length jK.2) e.known,aw.arr ez (.slice o5.1 F.length o5.2) F]) (is:=[1,2,3]) rfl af) aV)) fB dE Rg dd.nz.yL dd.nz.box Ri Gs.symm ak jd (by rw[cl];exact alI) aj) λy=> ?_
     refine ew (v:= .bool true) (λw hw=>ZH (QV.any w ((fU.arr (K:=ez) (v:= .slice o5.1 F.length o5.2) (l:=F) has).at hw) ((fU.arr (K:=ez) (v:= .slice y.1 F.length y.2) (l:=F) has).at hw) aj) rfl) ?_
     exact la (L':=[fm ge A e,eA g e.b (.slice a e.cells.length lF) e9 (.slice k.1 e.known.length k.2),R,aw.arr c9 (.slice k.1 e.known.length k.2) e.known]) (λM aV=>by exact aV.pick [0,1,2,3] rfl) ⟨(),rfl,rfl⟩))
end aaO
end AE
end
end
section
noncomputable section
namespace AE
theorem alJ:sV bc CW 6 48=true:=az
abbrev Kj:gE bc:=vt (α:=fx) default CW 6 48 xv alJ
theorem aZ.alK [a6] {t:aK} {x:J} (ah:aP x=true) (aF:bc.underlying t=some (.pointer (bc.pointee t))) (ex:aM x= .pointer none):aZ bc (.bin .neq t x (.pointer none),.bool false):=
 pn (b:= .pointer none) ah U U ex rfl λdx dy w=>by unfold fc;simp [eqGuard,run_neq_pointer_nil w t none aF];rfl
theorem alL {B:Nat} {W:ao} {au:List b4} {ro:List (fk bc)} {post:J->List (aw bc)->Prop} {n q:Nat} {env:List J} {L:List (aw bc)} {aL:List (eu bc)} {k:a7} {al:List Nat} {t:aK} {x:J} (ah:ex (.bool false::env) (q+1) x= .pointer none) (h:X B W au ro post (q+1) (.bool false::env) L aL k) (aF:bc.underlying t=some (.pointer (bc.pointee t)):=by kernel_rfl) (dY:aP x=true:=by rfl) (aA:Nat.blt q d_=true:=by rfl) (aU:n=q:=by rfl):X B W au ro post n env L aL (.o (.bin .neq t x (.pointer none)) (aq q) 1 al k):=
 ky _ (λM _ _ af hs=>wU (@aZ.alK (cn M (_::env)) t x dY aF ((af x).trans ah)) (by rw[hs];rfl)) h rfl aA aU
theorem alM {b:bw} {x:fx} {cells:List Int}:l4 (vN b) (y2 b) (λx=>x.2.1) cells x=mS b x cells:=by
 unfold l4 mS;by_cases h1:x.1=1
 ·rw[aI h1]
  by_cases ae:kV x.2.1/\cX (gK x) b
  ·rw[aI ⟨h1,ae⟩,(aaI ae.2 ae.1).1]
   unfold oF;rw[aI ae.2];rfl
  ·rw[aG λq=>ae q.2,(Kh λq=>ae ⟨q.2,q.1⟩).1]
 ·rw[aG h1,aG λq=>h1 q.1]
theorem alN {b:bw} {x:fx} {sh:List Bool}:l4 (uJ b) (y2 b) (λx=>x.2.2.2.2.2) sh x=o8 b x sh:=by
 unfold l4 o8;by_cases h1:x.1=1
 ·rw[aI h1,aG λq=>by have:=q.1;omega]
 ·rw[aG h1]
  by_cases ae:x.1=2
  ·rw[aI ae]
   unfold uL;by_cases ar:cX (gK x) b
   ·rw[aI ⟨ae,ar⟩,aI ar]
    rfl
   ·rw[aG λq=>ar q.2,aG ar]
  ·rw[aG ae,aG λq=>ae q.1]
theorem aaQ {e:bJ} {x:fx} (h:¬iO e x=16):iO e x=q_ e.b x/\(dI e x).cells=mS e.b x e.cells/\(dI e x).known=o8 e.b x e.known/\(¬iO e x=0->dI e x=e):=by
 have alO:x.1=1->¬iO e x=0->dI e x=e:=λh1 aJ=>by
  obtain⟨q1,aB⟩:=xw (e:=e) (x:=x) h1;rw[q1];rw[aB] at aJ;exact C4 aJ
 have alP:¬x.1=1->x.1=2->¬iO e x=0->dI e x=e:=λh1 ae aJ=>by
  obtain⟨q1,aB⟩:=xx (e:=e) (x:=x) h1 ae;rw[q1];rw[aB] at aJ;exact JY aJ
 have no:¬iO e x=0->dI e x=e:=λaJ=>by
  by_cases h1:x.1=1
  ·exact alO h1 aJ
  ·by_cases ae:x.1=2
   ·exact alP h1 ae aJ
   ·exact absurd (by unfold iO;rw[aG h1,aG ae]) aJ
 by_cases hm:((e.u.reqs.length:Nat):Int)<e.most
 ·obtain⟨q1,aB,_⟩:=Gh (x:=x) hm
  exact⟨J8 hm,by rw[q1,alM],by rw[aB,alN],no⟩
 ·have ask:∀p,iB e.b e.most p e.u.reqs=if cX p e.b then 16 else 1:=λp=>by
   unfold iB;rw[aI (show e.most<=((e.u.reqs.length:Nat):Int) by omega)]
  by_cases h1:x.1=1
  ·obtain⟨q1,aB⟩:=xw (e:=e) (x:=x) h1
   have ak:¬(cX (gK x) e.b/\kV x.2.1):=λq=>h (by
    rw[aB];unfold jZ
    rw[aI q.2,ask,aI q.1])
   have dd:iO e x=1:=by
    rw[aB];unfold jZ;by_cases ai:kV x.2.1
    ·rw[aI ai,ask,aG λq=>ak ⟨q,ai⟩]
    ·rw[aG ai]
   have hs:=no (by rw[dd];decide);refine⟨?_,?_,?_,no⟩
   ·rw[dd]
    unfold q_;rw[aI h1];exact((Kh (cells:=e.cells) ak).2).symm
   ·rw[hs]
    unfold mS;rw[aI h1,(Kh ak).1]
   ·rw[hs]
    unfold o8;rw[aI h1]
  ·by_cases ae:x.1=2
   ·obtain⟨q1,aB⟩:=xx (e:=e) (x:=x) h1 ae
    have ak:¬cX (gK x) e.b:=λq=>h (by rw[aB,ask,aI q])
    have dd:iO e x=1:=by rw[aB,ask,aG ak]
    have hs:=no (by rw[dd];decide);refine⟨?_,?_,?_,no⟩
    ·rw[dd]
     unfold q_;rw[aG h1,aI ae,aG ak]
    ·rw[hs]
     unfold mS;rw[aG h1]
    ·rw[hs]
     unfold o8 uL;rw[aG h1,aI ae,aG ak]
   ·have a8:iO e x=q_ e.b x:=by unfold iO q_;rw[aG h1,aG ae,aG h1,aG ae]
    refine⟨a8,?_,?_,no⟩
    ·unfold mS dI
     rw[aG h1,aG h1,aG ae];split
     ·rfl
     ·split<;>rfl
    ·unfold o8 dI
     rw[aG h1,aG h1,aG ae,aG ae];split
     ·rfl
     ·split<;>rfl
theorem alQ {e:bJ} {x:fx} (h:iO e x=16):dI e x=e/\x.1<=2/\e.most<=((e.u.reqs.length:Nat):Int):=by
 have hm:e.most<=((e.u.reqs.length:Nat):Int):=Int.not_lt.1 λq=>by
  rw[J8 q] at h;unfold q_ at h;split at h
  ·split at h
   ·split at h<;>cases h
   ·cases h
  ·split at h
   ·split at h<;>cases h
   ·cases h
 by_cases h1:x.1=1
 ·obtain⟨q1,aB⟩:=xw (e:=e) (x:=x) h1
  rw[q1];rw[aB] at h;exact⟨C4 (by rw[h];decide),aj,hm⟩
 ·by_cases ae:x.1=2
  ·obtain⟨q1,aB⟩:=xx (e:=e) (x:=x) h1 ae
   rw[q1];rw[aB] at h;exact⟨JY (by rw[h];decide),aj,hm⟩
  ·unfold iO at h
   rw[aG h1,aG ae] at h;cases h
theorem alR {e:bJ} {x:fx} (dd:fo e) (h1:¬x.1=1) (ae:¬x.1=2):(dI e x).u.reqs.length<=e.u.reqs.length:=by
 unfold dI;rw[aG h1,aG ae];split
 ·exact(dd.wQ x.2.1).2.2.2.2
 ·split
  ·exact dd.set.2.2.2
  ·exact bL _
structure tf (bA e:bJ) (i w:Nat):Prop where
 ok:fo e
 b:e.b=bA.b
 table:e.table=bA.table
 most:e.most=bA.most
 len:e.u.reqs.length<=w
 Gt:w<=i
 vO:∀c∈e.cells,h6 c
theorem tf.do {bA e:bJ} {i w:Nat} (h:tf bA e i w) (af:i<10000) (x:fx) (w':Nat) (hw:w'<=i+1) (hl:(dI e x).u.reqs.length<=w') (xM:¬iO e x=16):tf bA (dI e x) (i+1) w':=by
 obtain⟨cB,cW,p5⟩:=Zo e x;refine⟨(h.ok.do (Nat.lt_of_le_of_lt (Nat.le_trans h.len h.Gt) af) x).1,cB.trans h.b,cW.trans h.table,p5.trans h.most,hl,hw,?_⟩;rw[(aaQ xM).2.1];unfold mS o7 oF;split
 ·split
  ·rename_i ai
   split
   ·exact Z5 ai h.vO
   ·exact h.vO
  ·exact h.vO
 ·exact h.vO
theorem tf.NR {b:bw} {cells:List Int} {table:List cc} {known:List Bool} {most:Int} {e:bJ} {i w:Nat} (ai:mP b cells table known most) (ak:cells.length<=10000) (h:tf (il b cells table known most) e i w):lD e.b e.cells e.table e.known=0/\e.cells.length=cells.length:=by
 have ad:e.b=b:=h.b;have aF:e.table=table:=h.table;obtain⟨q1,aB⟩:=ZX ai ak;have hl:e.cells.length=cells.length:=by rw[h.ok.A5,ad];exact aB.symm
 obtain⟨g1,⟨g2,g3,g4,jJ,g6⟩,g7⟩:=CV ai.1;refine⟨?_,hl⟩;rw[ad,aF];refine aI ⟨g1,⟨g2,g3,g4,by rw[hl];exact jJ,?_⟩,.inr h.ok.A6⟩;rw[JL h.vO];decide
theorem aaR {v:J} {R:aw bc} {c c':List Int} {o y:Option cE} (hl:c'.length=c.length) (a_:y=none->c'=c):iP (iP v c.length o) c.length y=iP v c'.length (y.or o)/\iQ (iQ R c o) c' y=iQ R c' (y.or o):=by
 cases y with
 |none=>rw[a_ rfl];exact⟨rfl,rfl⟩
 |some d=>exact⟨by show Value.slice d.1 c.length d.2= .slice d.1 c'.length d.2;rw[hl],rfl⟩
theorem ji.aaS {W:ao} {au:List b4} {ro:List (fk bc)} {L dm:List (aw bc)} {w:ao} (h:ji W au ro L w) (is:List Nat) (hp:pick (bD L) is=bD dm) (hU:ju (bD L).length is=true) {M:Mem} (aV:kR (aE w) (bD dm) M):kR (aE W) au M:=
 h.on (dm:=dm) (λi af=>Ag (L:=bD L) (is:=is) hU (by rw[hp];exact af)) aV
namespace aaT
def t:a7:=
.c 5 [.agg ⟨[0,1,2,3,4,5,6]⟩,7,8,10] 11 1<|
.o (.un .not 11) 12 1 []<|
.bb 12 (
 .c 6 [] 13 1<|
 .ret 13) (
 .call 7 [.agg ⟨[0,1,2,3,4,5,6]⟩,7,8,9] (.tuple ⟨[13,14]⟩) 2<|
 .call 8 [.agg ⟨[0,1,2,3,4,5,6]⟩,7,8,9] (.tuple ⟨[15,16]⟩) 2<|
 .o (.bin .neq 35 14 16) 17 1 []<|
 .bb 17 (
  .ret (.bool false)) (
  .o (.bin .eql 35 14 (I 0)) 18 1 []<|
  .o (.bin .neq 34 13 (.pointer none)) 19 1 []<|
  .o (.bin .neq 4 18 19) 20 1 []<|
  .bb 20 (
   .ret (.bool false)) (
   .o (.bin .neq 35 14 (I 0)) 21 1 []<|
   .bb 21 (
    .c 6 [] 22 1<|
    .ret 22) (
    .o (.bin .eql 34 13 (.pointer none)) 22 1 []<|
    .bb 22 (
     .c 6 [] 23 1<|
     .ret 23) (
     .o (.len #[31] 3 10) 23 1 [0,42]<|
     .loop [I 0,I 0,.bool false] 3<|
     .o (.bin .lss 3 25 23) 27 1 []<|
     .bb 27 (
      .o (.cm 31 10 25) 28 1 [0,42,6]<|
      .o (.bf 42 28) (.agg ⟨fC 6 29⟩) 6 [6]<|
      .call 9 [13,.agg ⟨[29,30,31,32,33,34]⟩] 35 1<|
      .o (.bin .eql 35 35 (I 16)) 36 1 []<|
      .bb 36 (
       .o (.bin .lss 3 24 9) 37 1 []<|
       .bb 37 (
        .c4<|
        .ret (.bool false)) (
        .o (.bin .gtr 3 29 (I 2)) 38 1 []<|
        .bb 38 (
         .c4<|
         .ret (.bool false)) (
         .o (.bin .add 3 25 (I 1)) 39 1 []<|
         .back [24,39,26]))) (
       .call 10 [15,.agg ⟨[29,30,31,32,33,34]⟩] 37 1<|
       .o (.bin .neq 35 35 37) 38 1 []<|
       .bb 38 (
        .c4<|
        .ret (.bool false)) (
        .call 11 [13,15] 39 1<|
        .o (.un .not 39) 40 1 []<|
        .bb 40 (
         .c4<|
         .ret (.bool false)) (
         .o (.bin .eql 3 29 (I 1)) 41 1 []<|
         .bb 41 (
          .o (.bin .eql 35 35 (I 0)) 42 1 []<|
          .bb 42 (
           .o (.bin .add 3 24 (I 1)) 43 1 []<|
           .o (.bin .add 3 25 (I 1)) 44 1 []<|
           .back [43,44,26]) (
           .o (.bin .add 3 25 (I 1)) 43 1 []<|
           .back [24,43,26])) (
          .o (.bin .eql 3 29 (I 2)) 42 1 []<|
          .bb 42 (
           .o (.bin .eql 35 35 (I 0)) 43 1 []<|
           .bb 43 (
            .o (.bin .add 3 24 (I 1)) 44 1 []<|
            .o (.bin .add 3 25 (I 1)) 45 1 []<|
            .back [44,45,26]) (
            .o (.bin .add 3 25 (I 1)) 44 1 []<|
            .back [24,44,26])) (
           .call 12 [13] 43 1<|
           .bb 43 (
            .o (.bin .add 3 25 (I 1)) 44 1 []<|
            .back [I 0,44,26]) (
            .o (.bin .add 3 25 (I 1)) 44 1 []<|
            .back [24,44,26]))))))) (
      .c4<|
      .call 13 [13] 28 1<|
      .c 6 [] 29 1<|
      .bb 29 (
       .call 12 [13] 30 1<|
       .bb 30 (
        .call 11 [13,15] 31 1<|
        .ret 31) (
        .ret (.bool false))) (
       .ret (.bool false))))))))
theorem bB:cZ Tryz.prog 3 {iT:=[13,7,8,9,10,11,12]} [.agg ⟨[0,1,2,3,4,5,6]⟩,7,8,9,10] 11=some t:=dg az
abbrev kW:aw bc:=aw.arr di (.slice none 0 0) []
theorem any (W:ao) {a0:gp} {cU bZ:Nat} {cells:List Int} (pI:bT (aE W) 1 hv (.slice a0 cU bZ) cells) (b:bw) {v1 e0 v3:J} {table:List cc} {known:List Bool} {l:List fx} (l_:bT (aE W) 8 gm v1 table) (kP:bT (aE W) 1 hx e0 known) (most:Int) (sD:bT (aE W) 6 xv v3 l) (bU:lP (aE W)) (fX:cU=cells.length):
  Calls Tryz.prog 3 #[hN b (.slice a0 cU bZ),v1,e0,I most,v3] W λe w'=>e= .returned (.bool true)/\cA W.heap.size W w':=by
 subst fX;obtain⟨b2,cp,rfl⟩:=l_.slice;obtain⟨cr,c2,rfl⟩:=kP.slice;obtain⟨a3,c3,rfl⟩:=sD.slice;obtain⟨ro,Dc⟩:∃ro:List (fk bc),ro=[⟨di,.slice a0 cells.length bZ,cells⟩,⟨gg,.slice b2 table.length cp,table⟩,⟨c9,.slice cr known.length c2,known⟩,⟨Kj,.slice a3 l.length c3,l⟩]:=⟨_,rfl⟩;have mc:dR ro (aE W):=by rw[Dc];exact .cons pI (.cons l_ (.cons kP (.cons sD (.nil _))))
 have b3:ix ro (⟨di,.slice a0 cells.length bZ,cells⟩:fk bc):=by rw[Dc];exact has
 have s1:ix ro (⟨gg,.slice b2 table.length cp,table⟩:fk bc):=by rw[Dc];exact has
 have s2:ix ro (⟨c9,.slice cr known.length c2,known⟩:fk bc):=by rw[Dc];exact has
 have od:ix ro (⟨Kj,.slice a3 l.length c3,l⟩:fk bc):=by rw[Dc];exact has
 have nf:∀{L:List (aw bc)} {w:ao},ji W [] ro L w->bT (aE w) 1 hv (.slice a0 cells.length bZ) cells:=λhw=>(fU.ro b3).at hw
 have cQ:∀{L:List (aw bc)} {w:ao},ji W [] ro L w->bT (aE w) 8 gm (.slice b2 table.length cp) table:=λhw=>(fU.ro s1).at hw
 have dr:∀{L:List (aw bc)} {w:ao},ji W [] ro L w->bT (aE w) 1 hx (.slice cr known.length c2) known:=λhw=>(fU.ro s2).at hw
 have fP:∀{L:List (aw bc)} {w:ao},ji W [] ro L w->bT (aE w) 6 xv (.slice a3 l.length c3) l:=λhw=>(fU.ro od).at hw
 have Rj:∀{L:List (aw bc)} (w:ao),ji W [] ro L w->Calls bc 6 #[] w λe w'=>e= .returned (.bool true)/\cA w.heap.size w w':=λw hw=>ZM.any w (bU.CO hw)
 clear Dc;refine fV (ro:=ro) mixed bB [I b.1,I b.2.1,I b.2.2.1,I b.2.2.2.1,I b.2.2.2.2.1,I b.2.2.2.2.2,.slice a0 cells.length bZ,.slice b2 table.length cp,.slice cr known.length c2,I most,.slice a3 l.length c3] mc ?_;unfold t;refine ew (v:= .bool (decide (J1 cells table known l.length))) (λw hw=>Zr.any w (b:=b) (nf hw) (cQ hw) (dr hw) (fP hw) rfl) ?_;refine ox rfl ?_;refine i_ rfl (λ_=>ew Rj (bx rfl)) λaJ=> ?_
 have lo:l.length<=30:=aJ.2.1;have q1:=aJ.2.2.2.2;have aB:=aJ.2.2.1.1;have b_:cells.length<=120:=aJ.1;by_cases lQ:mP b cells table known most
 ·obtain⟨ZY,_⟩:=J0 lQ aj
  obtain⟨ad,ax⟩:=ZX lQ aj;have jd:∀{e:bJ} {i w:Nat},tf (il b cells table known most) e i w->_:=λh=>h.NR lQ aj
  have o0:tf (il b cells table known most) (il b cells table known most) 0 0:=⟨ZY,rfl,rfl,rfl,bL _,bL _,ak_ (CV lQ.1).2.1.2.2.2.2⟩;refine n7 (R:=λy:Nat×dM=>fm y.1 y.2 (il b cells table known most)) (v:=λy=> .tuple ⟨[bK y.1,I 0]⟩) (λy=>[bK y.1,I 0]) (λw hw aH=>ZF (b:=b) aH (nf hw) (cQ hw) (dr hw) (bU.CO hw) aj rfl aj aj lQ) λy=> ?_
  obtain⟨tg,oy⟩:∃tg,tg=pH known cells.length:=⟨_,rfl⟩;refine kA (v:=λ(z:Nat×cE)=> .tuple ⟨[bK z.1,I 0]⟩) (N:=λz=>[eA z.1 b (.slice a0 cells.length bZ) (.slice b2 table.length cp) (.slice z.2.1 tg.length z.2.2),aw.arr c9 (.slice z.2.1 tg.length z.2.2) tg]) (dm:=[]) (L':=λz=>[fm y.1 y.2 (il b cells table known most),eA z.1 b (.slice a0 cells.length bZ) (.slice b2 table.length cp) (.slice z.2.1 tg.length z.2.2),aw.arr c9 (.slice z.2.1 tg.length z.2.2) tg]) [] (λz=>[bK z.1,I 0]) (λw hw aH=>by
   rw[oy]
   exact Rh.yes aH (nf hw) (cQ hw) (dr hw) U U U aj lQ) λz=> ?_
  have aaU:(il b cells table known most).known=tg:=oy.symm;have aaV:(il b cells table known most).cells=cells:=rfl;have Rk:(il b cells table known most).b=b:=rfl;have aaW:(il b cells table known most).most=most:=rfl;have aaX:(il b cells table known most).table=table:=rfl;generalize il b cells table known most=bA at o0 jd aaU aaV Rk aaW aaX ⊢;refine wW U U ?_;refine q3 rfl ?_;refine O4 U U ?_;refine ahK rfl ?_;refine O5 U U ?_;refine q3 rfl ?_;refine wW U U ?_;refine q3 rfl ?_;refine V' rfl ?_;refine q3 rfl ?_;refine aN ?_;refine F6 (Nat×Nat×bJ×dM×Option cE×cE) (λu=>[I (u.2.1:Nat),I (u.1:Nat),.bool false]) (λu=>[fm y.1 u.2.2.2.1 u.2.2.1,eA z.1 b (iP (.slice a0 cells.length bZ) u.2.2.1.cells.length u.2.2.2.2.1) (.slice b2 table.length cp) (.slice u.2.2.2.2.2.1 u.2.2.1.known.length u.2.2.2.2.2.2),aw.arr c9 (.slice u.2.2.2.2.2.1 u.2.2.1.known.length u.2.2.2.2.2.2) u.2.2.1.known,iQ kW u.2.2.1.cells u.2.2.2.2.1]) (λu=>u.1<=l.length/\tf bA u.2.2.1 u.1 u.2.1/\rb ro (iP (.slice a0 cells.length bZ) u.2.2.1.cells.length u.2.2.2.2.1) (iQ kW u.2.2.1.cells u.2.2.2.2.1) u.2.2.1.cells) (λu=>l.length-u.1) (0,0,bA,y.2,none,z.2) rfl (by
   show h4 _ _ _ _ [fm y.1 y.2 bA,eA z.1 b (.slice a0 cells.length bZ) (.slice b2 table.length cp) (.slice z.2.1 bA.known.length z.2.2),aw.arr c9 (.slice z.2.1 bA.known.length z.2.2) bA.known,kW];rw[aaU]
   exact h4.JN (L:=[fm y.1 y.2 bA,eA z.1 b (.slice a0 cells.length bZ) (.slice b2 table.length cp) (.slice z.2.1 tg.length z.2.2),aw.arr c9 (.slice z.2.1 tg.length z.2.2) tg]) di) ⟨Nat.zero_le _,o0,by
   show rb ro (.slice a0 cells.length bZ) kW bA.cells;rw[aaV]
   exact⟨⟨a0,bZ,rfl⟩,.inr b3⟩⟩ (λu hu=> ?_)
  obtain⟨i,nA,e,A,o,k⟩:=u;obtain⟨oi,aV,fB⟩:i<=l.length/\tf bA e i nA/\rb ro (iP (.slice a0 cells.length bZ) e.cells.length o) (iQ kW e.cells o) e.cells:=hu;dsimp only;have aaY:∀{e:bJ} {i w:Nat} {A:dM} {o:Option cE} {k:cE} {w0:ao} {L:List (aw bc)},tf bA e i w->rb ro (iP (.slice a0 cells.length bZ) e.cells.length o) (iQ kW e.cells o) e.cells->ji W [] ro L w0->pick (bD L) [0,1,3,2]=bD [fm y.1 A e,eA z.1 b (iP (.slice a0 cells.length bZ) e.cells.length o) (.slice b2 table.length cp) (.slice k.1 e.known.length k.2),iQ kW e.cells o,aw.arr c9 (.slice k.1 e.known.length k.2) e.known]->ju (bD L).length [0,1,3,2]=true->bY (aE w0) (bD [fm y.1 A e,eA z.1 b (iP (.slice a0 cells.length bZ) e.cells.length o) (.slice b2 table.length cp) (.slice k.1 e.known.length k.2),iQ kW e.cells o,aw.arr c9 (.slice k.1 e.known.length k.2) e.known])->ey bc 11 [bK y.1,bK z.1] w0 [fm y.1 A e,eA z.1 b (iP (.slice a0 cells.length bZ) e.cells.length o) (.slice b2 table.length cp) (.slice k.1 e.known.length k.2),iQ kW e.cells o,aw.arr c9 (.slice k.1 e.known.length k.2) e.known] Unit (λ_=> .bool true) λ_=>[fm y.1 A e,eA z.1 b (iP (.slice a0 cells.length bZ) e.cells.length o) (.slice b2 table.length cp) (.slice k.1 e.known.length k.2),iQ kW e.cells o,aw.arr c9 (.slice k.1 e.known.length k.2) e.known]:=λ{e i w A o k w0 L} aV fB hw hp hU aH=>by
   obtain⟨cB,cW⟩:=jd aV;have yP:e.b=b:=aV.b.trans Rk;have dE:ix ro (⟨gg,.slice b2 table.length cp,e.table⟩:fk bc):=by rw[aV.table,aaX];exact s1
   have:=aaO.any (ro:=ro) (ge:=y.1) (g:=z.1) (A:=A) (e:=e) (v:=iP (.slice a0 cells.length bZ) e.cells.length o) (e9:= .slice b2 table.length cp) (k:=k) (R:=iQ kW e.cells o) (W:=w0) (by rw[yP];exact aH) (λM dd=>dR.ext mc M (hw.aaS [0,1,3,2] hp hU (by rw[yP] at dd;exact dd))) fB dE rfl aV.ok aj cB;rw[yP] at this;exact this
  refine aN ?_;refine bR rfl (λaf=> ?_) λaf=> ?_
  ·have af:i<l.length:=by omega
   obtain⟨x,ah⟩:∃x,x=l.getD i default:=⟨_,rfl⟩;refine ie (K:=Kj) (v:= .slice a3 l.length c3) (l:=l) (j:=i) U U ?_ (hs:= .ro od);refine nt (K:=Kj) (v:= .slice a3 l.length c3) (l:=l) (j:=i) (o:=0) (c:=xv x) rfl (by rw[ah];rfl) rfl fL ?_ (hs:= .ro od);have ane:=aV.Gt;have hlen:=aV.len;refine r7 0 (e':=dI e x) (v:=I (iO e x)) (λw _ aH=>ZT.any w aH x aV.ok) λaS=> ?_
   refine aN ?_;refine bR rfl (λxM=> ?_) λxM=> ?_
   ·obtain⟨d1,jK,o5⟩:=alQ xM
    have anf:e.most=most:=aV.most.trans aaW;refine aN ?_;refine bR rfl (λh=>absurd h aj) λ_=> ?_
    refine aN ?_;refine bR rfl (λh=>absurd h aj) λ_=> ?_
    refine aN ?_;rw[d1];exact uE (u:=(i,nA,e,A,o,k)) (i+1,nA,e,aS,o,k) rfl (h4.refl _) ⟨af,⟨aV.ok,aV.b,aV.table,aV.most,aV.len,Nat.le_succ_of_le aV.Gt,aV.vO⟩,fB⟩ (by show l.length-(i+1)<l.length-i;omega)
   ·obtain⟨t1,t2,t3,t4⟩:=aaQ xM
    have yP:e.b=b:=aV.b.trans Rk;rw[yP] at t1 t2 t3;obtain⟨cB,cW⟩:=jd aV;have Gs:=aV.ok.A6;have Ri:e.known.length=(dv b).toNat:=by rw[Gs,cW];exact ax
    have ang:(dI e x).cells.length=e.cells.length:=by rw[t2,Ki]
    have alS:(dI e x).known.length=e.known.length:=by rw[t3,alG]
    refine kA (Y:={q:Option cE×cE // q.1=none->mS b x e.cells=e.cells}) (v:=λ_=>I (iO e x)) (N:=λq=>[eA z.1 b (iP (iP (.slice a0 cells.length bZ) e.cells.length o) e.cells.length q.1.1) (.slice b2 table.length cp) (.slice q.1.2.1 e.known.length q.1.2.2),iQ (iQ kW e.cells o) (mS b x e.cells) q.1.1,aw.arr c9 (.slice q.1.2.1 e.known.length q.1.2.2) (o8 b x e.known)]) (dm:=[eA z.1 b (iP (.slice a0 cells.length bZ) e.cells.length o) (.slice b2 table.length cp) (.slice k.1 e.known.length k.2),iQ kW e.cells o,aw.arr c9 (.slice k.1 e.known.length k.2) e.known]) (L':=λq=>[fm y.1 aS (dI e x),eA z.1 b (iP (.slice a0 cells.length bZ) (dI e x).cells.length (q.1.1.or o)) (.slice b2 table.length cp) (.slice q.1.2.1 (dI e x).known.length q.1.2.2),aw.arr c9 (.slice q.1.2.1 (dI e x).known.length q.1.2.2) (dI e x).known,iQ kW (dI e x).cells (q.1.1.or o)]) [1,3,2] (λ_=>[I (iO e x)]) (λw hw aH=>by
     rw[t1]
     exact aaM.any x aH (λM dd=>dR.ext mc M (hw.aaS [1,3,2] U U dd)) fB ad Ri Gs.symm aj) (λq=> ?_) (hL:=λq=>by
     obtain⟨⟨q1,aB⟩,aU⟩:=q;obtain⟨f_,jE⟩:=aaR (v:= .slice a0 cells.length bZ) (R:=kW) (c:=e.cells) (c':=mS b x e.cells) (o:=o) (y:=q1) (Ki _ _ _) aU;show [fm y.1 aS (dI e x),eA z.1 b (iP (iP (.slice a0 cells.length bZ) e.cells.length o) e.cells.length q1) (.slice b2 table.length cp) (.slice aB.1 e.known.length aB.2),aw.arr c9 (.slice aB.1 e.known.length aB.2) (o8 b x e.known),iQ (iQ kW e.cells o) (mS b x e.cells) q1]=[fm y.1 aS (dI e x),eA z.1 b (iP (.slice a0 cells.length bZ) (dI e x).cells.length (q1.or o)) (.slice b2 table.length cp) (.slice aB.1 (dI e x).known.length aB.2),aw.arr c9 (.slice aB.1 (dI e x).known.length aB.2) (dI e x).known,iQ kW (dI e x).cells (q1.or o)]
     rw[f_,jE,alS,t3,t2])
    obtain⟨⟨q1,aB⟩,aU⟩:=q;have Bb:rb ro (iP (.slice a0 cells.length bZ) (dI e x).cells.length (q1.or o)) (iQ kW (dI e x).cells (q1.or o)) (dI e x).cells:=by
     obtain⟨f_,jE⟩:=aaR (v:= .slice a0 cells.length bZ) (R:=kW) (c:=e.cells) (c':=mS b x e.cells) (o:=o) (y:=q1) (Ki _ _ _) aU;have:=fB.next (cells':=mS b x e.cells) aU
     rw[Ki,f_,jE] at this;rw[t2];exact this
    dsimp only;refine aN ?_;refine bR rfl (λh=>absurd rfl h) λ_=> ?_
    have a8:=aV.ok.do (Nat.lt_of_le_of_lt (Nat.le_trans aV.len aV.Gt) aj) x
    have Gu:∀w',w'<=i+1->(dI e x).u.reqs.length<=w'->tf bA (dI e x) (i+1) w':=λw' h1 ae=>aV.do aj x w' h1 ae xM
    have Rl:=Gu (nA+1) aj aj;refine kA (v:=λ(_:Unit)=> .bool true) (N:=λ_=>[fm y.1 aS (dI e x),eA z.1 b (iP (.slice a0 cells.length bZ) (dI e x).cells.length (q1.or o)) (.slice b2 table.length cp) (.slice aB.1 (dI e x).known.length aB.2),iQ kW (dI e x).cells (q1.or o),aw.arr c9 (.slice aB.1 (dI e x).known.length aB.2) (dI e x).known]) (dm:=[fm y.1 aS (dI e x),eA z.1 b (iP (.slice a0 cells.length bZ) (dI e x).cells.length (q1.or o)) (.slice b2 table.length cp) (.slice aB.1 (dI e x).known.length aB.2),iQ kW (dI e x).cells (q1.or o),aw.arr c9 (.slice aB.1 (dI e x).known.length aB.2) (dI e x).known]) (L':=λ_=>[fm y.1 aS (dI e x),eA z.1 b (iP (.slice a0 cells.length bZ) (dI e x).cells.length (q1.or o)) (.slice b2 table.length cp) (.slice aB.1 (dI e x).known.length aB.2),aw.arr c9 (.slice aB.1 (dI e x).known.length aB.2) (dI e x).known,iQ kW (dI e x).cells (q1.or o)]) [0,1,3,2] (λ_=>[.bool true]) (λw hw aH=>aaY Rl Bb hw U U aH) λ_=> ?_
    refine aN ?_;refine q3 rfl ?_;have aaZ:¬iO e x=0->(dI e x).u.reqs.length<=nA:=λh=>by rw[t4 h];exact aV.len
    refine aN ?_;refine bR rfl (λh1=> ?_) λh1=> ?_
    ·refine aN ?_
     refine bR rfl (λbu=> ?_) λbu=> ?_
     ·refine aN ?_
      exact uE (u:=(i,nA,e,A,o,k)) (i+1,nA+1,dI e x,aS,q1.or o,aB) rfl (h4.refl _) ⟨af,Rl,Bb⟩ (by show l.length-(i+1)<l.length-i;omega)
     ·refine aN ?_
      exact uE (u:=(i,nA,e,A,o,k)) (i+1,nA,dI e x,aS,q1.or o,aB) rfl (h4.refl _) ⟨af,Gu nA aj (aaZ bu),Bb⟩ (by show l.length-(i+1)<l.length-i;omega)
    ·refine aN ?_
     refine bR rfl (λae=> ?_) λae=> ?_
     ·refine aN ?_
      refine bR rfl (λbu=> ?_) λbu=> ?_
      ·refine aN ?_
       exact uE (u:=(i,nA,e,A,o,k)) (i+1,nA+1,dI e x,aS,q1.or o,aB) rfl (h4.refl _) ⟨af,Rl,Bb⟩ (by show l.length-(i+1)<l.length-i;omega)
      ·refine aN ?_
       exact uE (u:=(i,nA,e,A,o,k)) (i+1,nA,dI e x,aS,q1.or o,aB) rfl (h4.refl _) ⟨af,Gu nA aj (aaZ bu),Bb⟩ (by show l.length-(i+1)<l.length-i;omega)
     ·have anh:=alR (x:=x) aV.ok h1 ae
      refine F7 0 (v:= .bool (decide ((dI e x).u.bz.length=0/\(dI e x).u.bp.length=0/\(dI e x).u.reqs.length=0))) (λw _ aH=>JS w aH) ?_;refine bR rfl (λhs=> ?_) λhs=> ?_
      ·refine aN ?_
       exact uE (u:=(i,nA,e,A,o,k)) (i+1,0,dI e x,aS,q1.or o,aB) rfl (h4.refl _) ⟨af,Gu 0 aj aj,Bb⟩ (by show l.length-(i+1)<l.length-i;omega)
      ·refine aN ?_
       exact uE (u:=(i,nA,e,A,o,k)) (i+1,nA,dI e x,aS,q1.or o,aB) rfl (h4.refl _) ⟨af,Gu nA aj aj,Bb⟩ (by show l.length-(i+1)<l.length-i;omega)
  ·obtain rfl:i=l.length:=by omega
   refine hV ?_;obtain⟨os,st,_,alT⟩:=aV.ok.set;obtain⟨E,dd⟩:∃E,E=o3 e:=⟨_,rfl⟩;have alU:tf bA E l.length nA:=by rw[dd];exact⟨os,aV.b,aV.table,aV.most,Nat.le_trans alT aV.len,aV.Gt,aV.vO⟩
   have nR:e.cells=E.cells:=by rw[dd];rfl
   have Ad:e.known=E.known:=by rw[dd];rfl
   rw[nR] at fB;rw[<-dd] at st;refine r7 0 (e':=E) (v:=I (C3 e:Nat)) (L':=λaS=>[fm y.1 aS E,eA z.1 b (iP (.slice a0 cells.length bZ) E.cells.length o) (.slice b2 table.length cp) (.slice k.1 E.known.length k.2),aw.arr c9 (.slice k.1 E.known.length k.2) E.known,iQ kW E.cells o]) (λw _ aH=>QT aH aV.ok dd.symm rfl) (λaS=> ?_) (hP:=λaS=>by rw[nR,Ad];exact .z);refine ew Rj ?_;refine nT rfl ?_;refine F7 0 (v:= .bool true) (λw _ aH=>ZE aH st) ?_;refine nT rfl ?_;refine kA (v:=λ(_:Unit)=> .bool true) (N:=λ_=>[fm y.1 aS E,eA z.1 b (iP (.slice a0 cells.length bZ) E.cells.length o) (.slice b2 table.length cp) (.slice k.1 E.known.length k.2),iQ kW E.cells o,aw.arr c9 (.slice k.1 E.known.length k.2) E.known]) (dm:=[fm y.1 aS E,eA z.1 b (iP (.slice a0 cells.length bZ) E.cells.length o) (.slice b2 table.length cp) (.slice k.1 E.known.length k.2),iQ kW E.cells o,aw.arr c9 (.slice k.1 E.known.length k.2) E.known]) (L':=λ_=>[fm y.1 aS E,eA z.1 b (iP (.slice a0 cells.length bZ) E.cells.length o) (.slice b2 table.length cp) (.slice k.1 E.known.length k.2),aw.arr c9 (.slice k.1 E.known.length k.2) E.known,iQ kW E.cells o]) [0,1,3,2] (λ_=>[.bool true]) (λw hw aH=>aaY alU fB hw U U aH) λ_=> ?_
   exact bx rfl
 ·refine Qg (v:= .tuple ⟨[.pointer none,I 1]⟩) [.pointer none,I 1] (λw hw aH=>ZG (b:=b) aH (nf hw) (cQ hw) (dr hw) (bU.CO hw) aj rfl aj aj lQ) ?_
  refine Qg (v:= .tuple ⟨[.pointer none,I 1]⟩) [.pointer none,I 1] (λw hw aH=>Rh.no aH (nf hw) (cQ hw) (dr hw) U U U aj lQ) ?_;refine wW U U ?_;refine q3 rfl ?_;refine O4 U U ?_;refine alL rfl ?_;refine O5 U U ?_;refine q3 rfl ?_;refine wW U U ?_;refine nT rfl ?_;refine ew Rj ?_;exact bx rfl
end aaT
end AE
end
end
end Go.Proofs.YtepcfjbfkedlpaaGreatDoor
namespace Go.Proofs.YtepcfjbfkedlpaaGreatDoor
open Go Go.ChangeShapes Go.WideShapes Go.ChangeAt Go.RowKit
section
theorem alV (os:Os) (args:Array J):laidMetH Tryz.prog Rows.relightMatchesSpecRow.laid ((World.laidAll Tryz.prog os Rows.relightMatchesSpecRow.laid).forCall (λ_ _=>0) ⟨#[],args,[]⟩).memory:=by
 rw[MakeChecks.laidMetH_plain _ _ _ az];exact laidMet_laidAll _ az az
theorem alW (os:Os) (Rm:os.Started) (H:Type) (enc:aK×J->H):
  ReturnsInHanded {} Tryz.checked os 3 .any (λw args=>(Rows.relightMatchesSpecSpec.pre enc Tryz.prog Tryz.f3 [] false w args/\laidMetH Tryz.prog Rows.relightMatchesSpecRow.laid w)/\sizedMet enc Tryz.prog Tryz.f3 (OpenSpec.ofChange Rows.relightMatchesSpecSpec) false w args)
   (Rows.relightMatchesSpecSpec.post enc Tryz.prog Tryz.f3 false true false false):=by
 refine returnsInHanded_of_change_and (C:=Tryz.checked) (X:=λw _=>laidMetH Tryz.prog Rows.relightMatchesSpecRow.laid w) (λ_ _ _ al h=>h.of_heap al) own Rm az Tryz.func3
  (ChangeSpec.witness_shaped (enc:=enc) (C:=Tryz.checked) (os:=os) (X:=λw _=>laidMetH Tryz.prog Rows.relightMatchesSpecRow.laid w) false (World.laidAll Tryz.prog os Rows.relightMatchesSpecRow.laid) #[AE.hN (0,0,0,0,0,0) (.slice none 0 0),.slice none 0 0,.slice none 0 0,.int .i64 0,.slice none 0 0] 8 (World.laidAll_os _ _ _)
    (World.shaped_of_ZipB az az) az az az (alV os _)) ?_
 intro W base args ds ani before alX mc _ _ hL _;have hval:∀(j:Nat) t v,Tryz.f3.params[j]? =some t->args[j]? =some v->Value.okWide Tryz.prog W .any base t v:=alX;have Rn:=mc;obtain⟨p,q,alY,zw,rfl,_,_⟩:=mc;have jD:DataW.TrodAll enc Tryz.prog W 0 (λ_=>true) true Tryz.f3.params.toList args.toList ds p:=alY;rw[Tryz.params3] at jD hval;have aa0:=jD;obtain⟨v0,anj,hz,ank,DA,lo,fY,rfl,rfl,aJ,nf⟩:=trodAll_cons jD;obtain⟨v1,anl,d1,BI,hi,q1,rfl,rfl,rfl,h1,cQ⟩:=trodAll_cons nf;obtain⟨e0,VU,jK,Ih,fQ,aB,rfl,rfl,rfl,ae,dr⟩:=trodAll_cons cQ;obtain⟨v3,anm,o5,ads,pe,b_,rfl,rfl,rfl,ar,fP⟩:=trodAll_cons dr;obtain⟨v4,ann,ak0,ano,nF,eB,rfl,rfl,rfl,bm,tj⟩:=trodAll_cons fP;obtain⟨rfl,rfl,rfl⟩:=trodAll_nil tj;obtain rfl:args= #[v0,v1,e0,v3,v4]:=by cases args;simp_all
 obtain⟨rfl,rfl⟩:=trodVars_none zw;obtain⟨cT,a0,pO,bZ,dS,rfl,pI,fX⟩:=akA (hval 0 28 v0 U U) aJ;obtain⟨l1,l_⟩:=aeF (hval 1 29 v1 U U) h1;obtain⟨k2,kP⟩:=akx (hval 2 30 e0 U U) ae;obtain⟨z3,rfl⟩:=aeE (hval 3 3 v3 U U) ar;obtain⟨anp,alZ⟩:=aky (hval 4 31 v4 U U) bm;simp only [List.append_nil,<-List.append_assoc] at Rn aa0;have bt:∀x∈DA++hi++fQ++pe++nF,x.block<W.heap.size:=λx ah=>by simpa using Rn.lt x ah
 refine(AE.aaT.any W pI cT l_ kP z3 alZ (aeG hL rfl) fX).mono λe W' ⟨he,ad⟩=> ?_
 subst he;exact⟨_,rfl,_,_,_,[],DA++hi++fQ++pe++nF,[],Rn,trodAll_mk1 (shut_bool Tryz.underlying4 _),TS aez ad.below _ _ _ _ az aa0 bt,rfl,ad.below.frame _,λh=>by cases h⟩
theorem al0:Rows.RelightMatchesSpecSaid:=
 OpenClaim.holds_of_wide 3 Tryz.f3 U U U U U U U ⟨rfl,rfl,rfl,rfl,rfl⟩ U U U U U az Tryz.func3 az
  (of_decide_eq_true az) (by unfold Func.isWrapper;first|(rw[aI (by decide +kernel)];kernel_rfl)|(rw[aG (by decide +kernel)];exact⟨rfl,rfl⟩))
  (λos Rm H enc _=>alW os Rm H enc)
theorem relightMatchesSpec_card:Rows.RelightMatchesSpecCardSaid:=
 Claim7.holds_tied_plain_at .later [] [.widerDeep] true (true,"76b53b6cbe3988ab82f3b3be2b92116362608dbe962b522dee1f77561afb826f") false al0 (λ_ h=>by cases h) az (λ_ h=>by cases h) relightMatchesSpec_row_tie rfl ⟨rfl,rfl⟩ az rfl
  (λf fn aO lK=>by
    obtain rfl:f=3:=Option.some.inj ((show Tryz.prog.funcNamed "voxel/voxellaw34.RelightMatchesSpec"=some 3 by kernel_rfl).symm.trans aO) |>.symm;obtain rfl:fn=Tryz.f3:=(Option.some.inj (Tryz.func3.symm.trans lK)).symm;exact⟨az,λj t aF=>by
     rw[Tryz.params3] at aF;have hm:=Array.mem_of_getElem? aF;have km:(Tryz.f3.params.toList.all λu=> !Tryz.prog.wantsStandIn u)=true:=by kernel_rfl
     rw[Tryz.params3] at km;have hw:=List.all_eq_true.1 km t (by simpa using hm)
     exact(show Tryz.prog.wantsStandIn t=false by simpa using hw)⟩)
  az
#print axioms relightMatchesSpec_card
end
end Go.Proofs.YtepcfjbfkedlpaaGreatDoor
