/- RELIGHTISFULL: the card. No condition beyond the row. -/
import Derived.Test.YtepcfjbfkedlpaaGreatDoorIf5
import Derived.Test.YtepcfjbfkedlpaaGreatDoorTie
import Derived.Test.YtepcfjbfkedlpaaGreatDoorCards
set_option maxRecDepth 100000
set_option maxHeartbeats 4000000
noncomputable section
namespace Go.Proofs.YtepcfjbfkedlpaaGreatDoor
open Go Go.Proofs Go.RowKit
section
noncomputable section
namespace AE
theorem akJ (F:Int) (ar:List bA) (l:List (Nat×Int)) (p:Nat×Int) (o:bA):pv F ar (l++[p]) o=GN F (pv F ar l o) (ar.getD p.1 default):=by
 unfold pv;rw[List.foldl_append];rfl
theorem akK {b:bF} {k:Nat} {sh:List Bool} (ag:k<sh.length) (hl:sh.length=(dZ b).toNat) {j:Nat} (hj:j<6):(oU b sh (eN b k j)=true->cO (eN b k j) b/\c7 b sh k (j+1)=c7 b sh k j++[(cc b (eN b k j),oF j)])/\(¬oU b sh (eN b k j)=true->c7 b sh k (j+1)=c7 b sh k j):=by
 unfold oU;by_cases h:cO (eN b k j) b
 ·rw[aN h]
  exact⟨λav=>⟨h,Py ag hl hj h av⟩,λav=>Pz ag hl hj h av⟩
 ·rw[aO h]
  exact⟨λav=>absurd av (by simp),λ_=>PA ag hl hj h⟩
def DF (l:List bA):Prop:=∀n,xX (l.getD n default)
namespace Z4
def t:bs:=
.nE 85<|
.nE 85<|
.c 79 [.agg ⟨[0,1,2,3,4,5,6]⟩,8,.agg ⟨[10,11,12]⟩] 15 1<|
.o (.un .not 15) 16 1 []<|
.c6 16 (
 .o (.bp 85 14) (.agg ⟨h5 4 17⟩) 4 [4]<|
 .st 85 13 (.agg ⟨[17,18,19,20]⟩)<|
 .pM 85 13) (
 .c 80 [.agg ⟨[0,1,2,3,4,5,6]⟩,.agg ⟨[10,11,12]⟩] 17 1<|
 .c 81 [7,17] 18 1<|
 .c 82 [7,17] (.agg ⟨[19,20,21]⟩) 3<|
 .nE 64<|
 .st 64 22 (.agg ⟨[19,20,21]⟩)<|
 .o (.cP 85 14 (I 0)) 23 1 [1,4,3,1]<|
 .o (.bp 3 23) 24 1 [1]<|
 .o (.cP 64 22 (I 0)) 25 1 [1,3,3,1]<|
 .o (.bp 3 25) 26 1 [1]<|
 .o (.d_ #[3,3] 3 24 26) 27 1 []<|
 .st 3 23 27<|
 .o (.cP 85 14 (I 1)) 28 1 [1,4,3,1]<|
 .o (.bp 3 28) 29 1 [1]<|
 .o (.cP 64 22 (I 1)) 30 1 [1,3,3,1]<|
 .o (.bp 3 30) 31 1 [1]<|
 .o (.d_ #[3,3] 3 29 31) 32 1 []<|
 .st 3 28 32<|
 .o (.cP 85 14 (I 2)) 33 1 [1,4,3,1]<|
 .o (.bp 3 33) 34 1 [1]<|
 .o (.cP 64 22 (I 2)) 35 1 [1,3,3,1]<|
 .o (.bp 3 35) 36 1 [1]<|
 .o (.d_ #[3,3] 3 34 36) 37 1 []<|
 .st 3 33 37<|
 .call 83 [.agg ⟨[10,11,12]⟩] 38 1<|
 .loop [I 0] 1<|
 .o (.len #[130] 3 38) 40 1 [0,23]<|
 .o (.bin .lss 3 39 40) 41 1 []<|
 .c6 41 (
  .o (.cP 130 38 39) 42 1 [0,23,3]<|
  .o (.bp 23 42) (.agg ⟨h5 3 43⟩) 3 [3]<|
  .c 79 [.agg ⟨[0,1,2,3,4,5,6]⟩,8,.agg ⟨[43,44,45]⟩] 46 1<|
  .c6 46 (
   .o (.cP 85 14 (I 0)) 47 1 [1,4,3,1]<|
   .o (.bp 3 47) 48 1 [1]<|
   .o (.cP 130 38 39) 49 1 [0,23,3]<|
   .o (.bp 23 49) (.agg ⟨h5 3 50⟩) 3 [3]<|
   .c 64 [.agg ⟨[0,1,2,3,4,5]⟩,.agg ⟨[50,51,52]⟩] 53 1<|
   .o (.cP 51 9 53) 54 1 [0,85,4]<|
   .o (.cP 85 54 (I 0)) 55 1 [1,4,3,1]<|
   .o (.bp 3 55) 56 1 [1]<|
   .o (.bin .sub 3 56 18) 57 1 []<|
   .o (.d_ #[3,3] 3 48 57) 58 1 []<|
   .st 3 47 58<|
   .o (.cP 85 14 (I 1)) 59 1 [1,4,3,1]<|
   .o (.bp 3 59) 60 1 [1]<|
   .o (.cP 130 38 39) 61 1 [0,23,3]<|
   .o (.bp 23 61) (.agg ⟨h5 3 62⟩) 3 [3]<|
   .c 64 [.agg ⟨[0,1,2,3,4,5]⟩,.agg ⟨[62,63,64]⟩] 65 1<|
   .o (.cP 51 9 65) 66 1 [0,85,4]<|
   .o (.cP 85 66 (I 1)) 67 1 [1,4,3,1]<|
   .o (.bp 3 67) 68 1 [1]<|
   .o (.bin .sub 3 68 18) 69 1 []<|
   .o (.d_ #[3,3] 3 60 69) 70 1 []<|
   .st 3 59 70<|
   .o (.cP 85 14 (I 2)) 71 1 [1,4,3,1]<|
   .o (.bp 3 71) 72 1 [1]<|
   .o (.cP 130 38 39) 73 1 [0,23,3]<|
   .o (.bp 23 73) (.agg ⟨h5 3 74⟩) 3 [3]<|
   .c 64 [.agg ⟨[0,1,2,3,4,5]⟩,.agg ⟨[74,75,76]⟩] 77 1<|
   .o (.cP 51 9 77) 78 1 [0,85,4]<|
   .o (.cP 85 78 (I 2)) 79 1 [1,4,3,1]<|
   .o (.bp 3 79) 80 1 [1]<|
   .o (.bin .sub 3 80 18) 81 1 []<|
   .o (.d_ #[3,3] 3 72 81) 82 1 []<|
   .st 3 71 82<|
   .o (.cP 85 14 (I 3)) 83 1 [1,4,3,1]<|
   .o (.bp 3 83) 84 1 [1]<|
   .o (.cP 130 38 39) 85 1 [0,23,3]<|
   .o (.bp 23 85) (.agg ⟨h5 3 86⟩) 3 [3]<|
   .c 64 [.agg ⟨[0,1,2,3,4,5]⟩,.agg ⟨[86,87,88]⟩] 89 1<|
   .o (.cP 51 9 89) 90 1 [0,85,4]<|
   .o (.cP 85 90 (I 3)) 91 1 [1,4,3,1]<|
   .o (.bp 3 91) 92 1 [1]<|
   .o (.bin .sub 3 92 18) 93 1 []<|
   .o (.d_ #[3,3] 3 84 93) 94 1 []<|
   .st 3 83 94<|
   .o (.bin .add 3 39 (I 1)) 95 1 []<|
   .back [95]) (
   .o (.bin .add 3 39 (I 1)) 47 1 []<|
   .back [47])) (
  .gJ<|
  .o (.cP 130 38 (I 5)) 42 1 [0,23,3]<|
  .o (.bp 23 42) (.agg ⟨h5 3 43⟩) 3 [3]<|
  .c 79 [.agg ⟨[0,1,2,3,4,5,6]⟩,8,.agg ⟨[43,44,45]⟩] 46 1<|
  .rD 46 (
   .c 64 [.agg ⟨[0,1,2,3,4,5]⟩,.agg ⟨[43,44,45]⟩] 47 1<|
   .o (.cP 51 9 47) 48 1 [0,85,4]<|
   .o (.cP 85 48 (I 3)) 49 1 [1,4,3,1]<|
   .o (.bp 3 49) 50 1 [1]<|
   .back [50]) (
   .back [I 0]) 1<|
  .o (.bin .geq 3 45 5) 48 1 []<|
  .rD 48 (
   .back [I 15]) (
   .back [47]) 1<|
  .o (.bin .eql 3 49 (I 15)) 50 1 []<|
  .c6 50 (
   .o (.bin .eql 3 18 (I 1)) 51 1 []<|
   .rD 51 (
    .o (.cP 85 14 (I 3)) 52 1 [1,4,3,1]<|
    .st 3 52 (I 15)<|
    .back []) (
    .back []) 0<|
   .o (.cP 85 14 (I 3)) 52 1 [1,4,3,1]<|
   .o (.bp 3 52) 53 1 [1]<|
   .o (.bin .sub 3 49 18) 54 1 []<|
   .o (.d_ #[3,3] 3 53 54) 55 1 []<|
   .st 3 52 55<|
   .o (.bp 85 14) (.agg ⟨h5 4 56⟩) 4 [4]<|
   .st 85 13 (.agg ⟨[56,57,58,59]⟩)<|
   .pM 85 13) (
   .o (.cP 85 14 (I 3)) 51 1 [1,4,3,1]<|
   .o (.bp 3 51) 52 1 [1]<|
   .o (.bin .sub 3 49 18) 53 1 []<|
   .o (.d_ #[3,3] 3 52 53) 54 1 []<|
   .st 3 51 54<|
   .o (.bp 85 14) (.agg ⟨h5 4 55⟩) 4 [4]<|
   .st 85 13 (.agg ⟨[55,56,57,58]⟩)<|
   .pM 85 13)))
theorem dw:fJ Tryz.prog 45 {nF:=[83],marks:=[85,64],Vo:=[(0,4),(4,5)],Fs:=[(102,[]),(117,[]),(123,[])]} [.agg ⟨[0,1,2,3,4,5,6]⟩,7,8,9,.agg ⟨[10,11,12]⟩] 13=some t:=gE aw
theorem any {W:au} {b:bF} {a0:Option Addr} {dt dc:Nat} {cells:List Int} (BQ:b7 (aG W) 1 ih (.slice a0 dt dc) cells) {dD ej a3:Option Addr} {tL n2 x9 ez c2 c3:Nat} {table:List cr} {sh:List Bool} {ar:List bA} (vU:b7 (aG W) 8 hA (.slice dD tL ez) table) (sn:b7 (aG W) 1 hO (.slice ej n2 c2) sh) (rb:b7 (aG W) 4 ck (.slice a3 x9 c3) ar)
  (aJ:dt=cells.length) (h1:tL=table.length) (ae:n2=sh.length) (ay:x9=ar.length) (k:Nat) (ad:okB b) (ag:k<sh.length) (aC:sh.length=(dZ b).toNat) (nU:cells.length=sh.length) (jf:ar.length=sh.length) (cF:1<=(dz table (cells.getD k default)).2.2.2.2.1/\(dz table (cells.getD k default)).2.2.2.2.1<=16) (hL:DF ar):
  qF cw 45 [jW b (.slice a0 dt dc),.slice dD tL ez,.slice ej n2 c2,.slice a3 x9 c3,P.val (dV b ((k:Nat):Int))] W (.agg ⟨ck (wJ table cells ar sh b k)⟩):=by
 subst aJ h1 ae ay;obtain⟨im,fF⟩:=ZS (b:=b) (k:=k) ao;have xY:=FZ ad (k:Nat);obtain⟨p,hp⟩:∃p,p=dV b ((k:Nat):Int):=⟨_,rfl⟩;rw[<-hp] at im fF xY ⊢;have tw:oU b sh p=sh.getD k default:=by
  unfold oU;rw[aN im,fF]
 obtain⟨m,hm⟩:∃m,m=dz table (cells.getD k default):=⟨_,rfl⟩;obtain⟨F,DC⟩:∃F,F=m.2.2.2.2.1:=⟨_,rfl⟩;have uh:wJ table cells ar sh b k=if sh.getD k default=true then tV F (s0 b ar sh k) (pv F ar (c7 b sh k 6) (qT m)) else z4:=by
  rw[DC,hm];rfl
 rw[<-hm,<-DC] at cF;refine n8 (ro:=[⟨eT,.slice a0 cells.length dc,cells⟩,⟨mo,.slice dD table.length ez,table⟩,⟨h7,.slice ej sh.length c2,sh⟩,⟨dk,.slice a3 ar.length c3,ar⟩]) mixed dw [I b.1,I b.2.1,I b.2.2.1,I b.2.2.2.1,I b.2.2.2.2.1,I b.2.2.2.2.2,.slice a0 cells.length dc,.slice dD table.length ez,.slice ej sh.length c2,.slice a3 ar.length c3,I p.1,I p.2.1,I p.2.2] (.cons BQ (.cons vU (.cons sn (.cons rb (.nil _))))) ?_;unfold t;have qq:∀{L:List (aF cw)} (q:dU) (w:au),kV W [] [⟨eT,.slice a0 cells.length dc,cells⟩,⟨mo,.slice dD table.length ez,table⟩,⟨h7,.slice ej sh.length c2,sh⟩,⟨dk,.slice a3 ar.length c3,ar⟩] L w->qF cw 79 [jW b (.slice a0 cells.length dc),.slice ej sh.length c2,P.val q] w (.bool (oU b sh q)):=λq w hw=>Z1.any (hw.ro 2 _ rfl) rfl ad aC q
 have eA:∀{L:List (aF cw)} (q:dU),cO q b->∀(w:au),kV W [] [⟨eT,.slice a0 cells.length dc,cells⟩,⟨mo,.slice dD table.length ez,table⟩,⟨h7,.slice ej sh.length c2,sh⟩,⟨dk,.slice a3 ar.length c3,ar⟩] L w->qF cw 64 [.agg ⟨u6 b⟩,P.val q] w (I (cc b q:Nat)):=λq a1 w _=>by rw[<-By ad a1];exact Kj.any w b q ad
 refine wi (z:= .agg ⟨ck z4⟩) (ck z4) aw rfl (λb=>j7) λgr=> ?_
 refine wi (z:= .agg ⟨ck z4⟩) (ck z4) aw rfl (λb=>j7) λgo=> ?_
 refine iY (v:= .bool (sh.getD k default)) (λw hw=>by rw[<-tw];exact qq p w hw) ?_;refine bK ?_;refine Bn rfl (λmQ=> ?_) λmQ=> ?_
 ·have av:¬sh.getD k default=true:=by simpa using mQ
  refine sG (c:=ck z4) rfl has J J ik ?_;refine wh (m:=4) (us:=ck z4) (cs':=ck z4) J J gO rfl ?_;refine Db (L':=[]) rfl has (λM bj=>bj.pick [] rfl) ?_;rw[uh,aO av]
 ·have av:sh.getD k default=true:=by simpa using mQ
  rw[aN av] at uh;have er:ck (wJ table cells ar sh b k)=ck (tV F (s0 b ar sh k) (pv F ar (c7 b sh k 6) (qT m))):=by rw[uh]
  refine iY (v:=I (cells.getD k default)) (λw hw=>by
   have:=ZX.any (b:=b) (hw.ro 0 _ rfl) p ad im (by rw[fF];show k<cells.length;omega);rw[fF] at this
   exact this) ?_
  refine iY (v:=I F) (λw hw=>by rw[DC,hm];exact ZZ.any (hw.ro 1 _ rfl) rfl _) ?_;refine qE [I (dj m 0),I (dj m 1),I (dj m 2)] (λw hw=>by rw[hm];exact Z0.any (hw.ro 1 _ rfl) rfl _) rfl ?_;refine wi (z:= .agg ⟨[I 0,I 0,I 0]⟩) [I 0,I 0,I 0] aw rfl (λb=>j7) λge=> ?_
  refine wh (m:=3) (us:=[I (dj m 0),I (dj m 1),I (dj m 2)]) (cs':=[I (dj m 0),I (dj m 1),I (dj m 2)]) J J gO rfl ?_;refine pS (j:=0) J J ?_;refine nI (u:=I 0) rfl has rfl ?_;refine pS (j:=0) J J ?_;refine nI (u:=I (dj m 0)) rfl has rfl ?_;refine wg J J ?_;refine qD J J gO qC ?_;refine pS (j:=1) J J ?_;refine nI (u:=I 0) rfl has rfl ?_;refine pS (j:=1) J J ?_;refine nI (u:=I (dj m 1)) rfl has rfl ?_;refine wg J J ?_;refine qD J J gO qC ?_;refine pS (j:=2) J J ?_;refine nI (u:=I 0) rfl has rfl ?_;refine pS (j:=2) J J ?_;refine nI (u:=I (dj m 2)) rfl has rfl ?_;refine wg J J ?_;refine qD J J gO qC ?_;refine il (v:=λ(y:c_)=> .slice y.1 (jb p).length y.2) (dq:=[]) (N:=λ(y:c_)=>[aF.arr nj (.slice y.1 (jb p).length y.2) (jb p)]) (L':=λy=>[aF.box gr i' (ck z4),aF.box go i' (ck (qT m)),aF.box ge DE [I (dj m 0),I (dj m 1),I (dj m 2)],aF.arr nj (.slice y.1 (jb p).length y.2) (jb p)]) [] (λy=>[.slice y.1 (jb p).length y.2]) (λw _ aA=>Z3.any aA p xY) λy=> ?_
  refine u1 Nat (λi=>[I (i:Nat)]) (λi=>[aF.box gr i' (ck z4),aF.box go i' (ck (pv F ar (c7 b sh k i) (qT m))),aF.box ge DE [I (dj m 0),I (dj m 1),I (dj m 2)],aF.arr nj (.slice y.1 (jb p).length y.2) (jb p)]) (λi=>i<=6) (λi=>6-i) 0 J J (by show 0<=6;omega) (λi af=> ?_);have al4:(jb p).length=6:=rfl;refine bK ?_;refine fV rfl (λKk=> ?_) λKk=> ?_
  ·have Kk:i<6:=by omega
   have a1:(jb p).getD i default=eN b k i:=by rw[hp];exact Z2 Kk
   obtain⟨tL,n2⟩:=akK ag aC Kk;obtain⟨q,Dg⟩:∃q,q=eN b k i:=⟨_,rfl⟩;rw[<-Dg] at a1 tL n2;refine mI (K:=nj) (l:=jb p) (j:=i) J J ?_;refine qB (K:=nj) (l:=jb p) (j:=i) (o:=0) (c:=xQ q) rfl (by rw[<-a1];rfl) rfl ik ?_;refine iY (v:= .bool (oU b sh q)) (λw hw=>qq q w hw) ?_;obtain⟨o,ho⟩:∃o,o=pv F ar (c7 b sh k i) (qT m):=⟨_,rfl⟩;rw[<-ho];refine Bn rfl (λbg=> ?_) λbg=> ?_
   ·obtain⟨zR,aq⟩:=tL bg
    have b8:cc b q<ar.length:=by rw[jf,aC];exact wE zR
    obtain⟨z,bG⟩:∃z,z=ar.getD (cc b q) default:=⟨_,rfl⟩;have Kl:xX z:=bG▸hL _;have z0:0<=z.1/\z.1<=15:=Kl 0 cv;have xo:0<=z.2.1/\z.2.1<=15:=Kl 1 cv;have z2:0<=z.2.2.1/\z.2.2.1<=15:=Kl 2 cv;have z3:0<=z.2.2.2/\z.2.2.2<=15:=Kl 3 cv;refine pS (j:=0) J J ?_;refine nI (u:=I o.1) rfl has rfl ?_;refine mI (K:=nj) (l:=jb p) (j:=i) J J ?_;refine qB (K:=nj) (l:=jb p) (j:=i) (o:=0) (c:=xQ q) rfl (by rw[<-a1];rfl) rfl ik ?_;refine iY (v:=I (cc b q:Nat)) (λw hw=>eA q zR w hw) ?_;refine mI (K:=dk) (l:=ar) (j:=cc b q) J J ?_;refine Da (K:=dk) (l:=ar) (j:=cc b q) (c:=0) J J ?_;refine sF (K:=dk) (l:=ar) (j:=cc b q) (u:=I z.1) rfl (by rw[bG];rfl) ?_;refine Bm J J ?_;refine wg J J ?_;refine qD J J gO qC ?_;refine pS (j:=1) J J ?_;refine nI (u:=I o.2.1) rfl has rfl ?_;refine mI (K:=nj) (l:=jb p) (j:=i) J J ?_;refine qB (K:=nj) (l:=jb p) (j:=i) (o:=0) (c:=xQ q) rfl (by rw[<-a1];rfl) rfl ik ?_;refine iY (v:=I (cc b q:Nat)) (λw hw=>eA q zR w hw) ?_;refine mI (K:=dk) (l:=ar) (j:=cc b q) J J ?_;refine Da (K:=dk) (l:=ar) (j:=cc b q) (c:=1) J J ?_;refine sF (K:=dk) (l:=ar) (j:=cc b q) (u:=I z.2.1) rfl (by rw[bG];rfl) ?_;refine Bm J J ?_;refine wg J J ?_;refine qD J J gO qC ?_;refine pS (j:=2) J J ?_;refine nI (u:=I o.2.2.1) rfl has rfl ?_;refine mI (K:=nj) (l:=jb p) (j:=i) J J ?_;refine qB (K:=nj) (l:=jb p) (j:=i) (o:=0) (c:=xQ q) rfl (by rw[<-a1];rfl) rfl ik ?_;refine iY (v:=I (cc b q:Nat)) (λw hw=>eA q zR w hw) ?_;refine mI (K:=dk) (l:=ar) (j:=cc b q) J J ?_;refine Da (K:=dk) (l:=ar) (j:=cc b q) (c:=2) J J ?_;refine sF (K:=dk) (l:=ar) (j:=cc b q) (u:=I z.2.2.1) rfl (by rw[bG];rfl) ?_;refine Bm J J ?_;refine wg J J ?_;refine qD J J gO qC ?_;refine pS (j:=3) J J ?_;refine nI (u:=I o.2.2.2) rfl has rfl ?_;refine mI (K:=nj) (l:=jb p) (j:=i) J J ?_;refine qB (K:=nj) (l:=jb p) (j:=i) (o:=0) (c:=xQ q) rfl (by rw[<-a1];rfl) rfl ik ?_;refine iY (v:=I (cc b q:Nat)) (λw hw=>eA q zR w hw) ?_;refine mI (K:=dk) (l:=ar) (j:=cc b q) J J ?_;refine Da (K:=dk) (l:=ar) (j:=cc b q) (c:=3) J J ?_;refine sF (K:=dk) (l:=ar) (j:=cc b q) (u:=I z.2.2.2) rfl (by rw[bG];rfl) ?_;refine Bm J J ?_;refine wg J J ?_;refine qD J J gO qC ?_;refine bK ?_;refine ng (i+1) rfl ?_ ao ao;show _=[_,aF.box go i' (ck (pv F ar (c7 b sh k (i+1)) (qT m))),_,_];rw[aq,akJ,<-ho];show _=[_,aF.box go i' (ck (GN F o (ar.getD (cc b q) default))),_,_];rw[<-bG];rfl
   ·refine bK ?_
    refine ng (i+1) rfl ?_ ao ao;show _=[_,aF.box go i' (ck (pv F ar (c7 b sh k (i+1)) (qT m))),_,_];rw[n2 (by rw[bg];decide),<-ho]
  ·obtain rfl:i=6:=by omega
   refine xL ?_;obtain⟨o,ho⟩:∃o,o=pv F ar (c7 b sh k 6) (qT m):=⟨_,rfl⟩;rw[<-ho] at er;show X _ _ _ _ _ _ _ [aF.box gr i' (ck z4),aF.box go i' (ck (pv F ar (c7 b sh k 6) (qT m))),aF.box ge DE [I (dj m 0),I (dj m 1),I (dj m 2)],aF.arr nj (.slice y.1 (jb p).length y.2) (jb p)] _ _;rw[<-ho,er];have a1:(jb p).getD 5 default=eN b k 5:=by rw[hp];exact Z2 cv
   obtain⟨q,Dg⟩:∃q,q=eN b k 5:=⟨_,rfl⟩;rw[<-Dg] at a1;have Km:s0 b ar sh k=if b.2.2.2.2.2<=q.2.2 then 15 else if oU b sh q=true then (ar.getD (cc b q) default).2.2.2 else 0:=by rw[Dg];rfl
   obtain⟨iR,Dy⟩:∃iR,iR=if oU b sh q=true then (ar.getD (cc b q) default).2.2.2 else 0:=⟨_,rfl⟩
   have akL:0<=iR/\iR<=15:=by
    rw[Dy];split
    ·exact hL (cc b q) 3 cv
    ·decide
   rw[<-Dy] at Km;refine mI (K:=nj) (l:=jb p) (j:=5) J J ?_ (hj:=by show 5<6;decide);refine qB (K:=nj) (l:=jb p) (j:=5) (o:=0) (c:=xQ q) rfl (by rw[<-a1];rfl) rfl ik ?_ (hj:=by show 5<6;decide);refine iY (v:= .bool (decide (oU b sh q=true))) (λw hw=>by
    have:=qq q w hw
    rwa [show oU b sh q=decide (oU b sh q=true) by simp] at this) ?_
   refine Jv Int (λu=>[I u]) (λ_=>[aF.box gr i' (ck z4),aF.box go i' (ck o),aF.box ge DE [I (dj m 0),I (dj m 1),I (dj m 2)],aF.arr nj (.slice y.1 (jb p).length y.2) (jb p)]) (λu=>u=iR) rfl (λbg=> ?_) (λbg=> ?_) (λu hu=> ?_)
   ·have zR:cO q b:=by
     unfold oU at bg;by_cases h:cO q b
     ·exact h
     ·rw[aO h] at bg;cases bg
    have b8:cc b q<ar.length:=by rw[jf,aC];exact wE zR
    refine iY (v:=I (cc b q:Nat)) (λw hw=>eA q zR w hw) ?_;refine mI (K:=dk) (l:=ar) (j:=cc b q) J J ?_;refine Da (K:=dk) (l:=ar) (j:=cc b q) (c:=3) J J ?_;refine sF (K:=dk) (l:=ar) (j:=cc b q) (u:=I (ar.getD (cc b q) default).2.2.2) J J ?_;exact xN ((ar.getD (cc b q) default).2.2.2) J J (by rw[Dy,aN bg])
   ·exact xN (0:Int) J J (by rw[Dy,aO bg])
   ·subst hu
    refine bK ?_;refine Jv Int (λu=>[I u]) (λ_=>[aF.box gr i' (ck z4),aF.box go i' (ck o),aF.box ge DE [I (dj m 0),I (dj m 1),I (dj m 2)],aF.arr nj (.slice y.1 (jb p).length y.2) (jb p)]) (λv=>v=s0 b ar sh k) rfl (λbg=> ?_) (λbg=> ?_) (λv mx=> ?_)
    ·exact xN (15:Int) J J (by rw[Km,aN bg])
    ·exact xN u J J (by rw[Km,aO bg])
    ·have al5:0<=v/\v<=15:=by
      rw[mx,Km];split
      ·decide
      ·exact akL
     rw[<-mx];refine bK ?_;refine fV rfl (λRm=> ?_) λRm=> ?_
     ·refine bK ?_
      refine Jv Unit (λ_=>[]) (λ_=>[aF.box gr i' (ck z4),aF.box go i' (ck (o.1,o.2.1,o.2.2.1,if v=15/\F=1 then 15 else o.2.2.2)),aF.box ge DE [I (dj m 0),I (dj m 1),I (dj m 2)],aF.arr nj (.slice y.1 (jb p).length y.2) (jb p)]) (λ_=>True) rfl (λaP=> ?_) (λaP=> ?_) (λ_ _=> ?_)
      ·refine pS (j:=3) J J ?_
       refine qD (cs':=ck (o.1,o.2.1,o.2.2.1,15)) J J gO qC ?_;refine xN () rfl ?_ trivial;show _=[_,aF.box go i' (ck (o.1,o.2.1,o.2.2.1,if v=15/\F=1 then 15 else o.2.2.2)),_,_];rw[aN ⟨Rm,aP⟩]
      ·refine xN () rfl ?_ trivial
       show _=[_,aF.box go i' (ck (o.1,o.2.1,o.2.2.1,if v=15/\F=1 then 15 else o.2.2.2)),_,_];rw[aO (λq=>aP q.2)]
      ·refine pS (j:=3) J J ?_
       refine nI (u:=I (if v=15/\F=1 then 15 else o.2.2.2)) rfl has rfl ?_;refine Bm J J ?_;refine wg J J ?_;refine qD (cs':=ck (tV F v o)) J J gO qC ?_;refine sG (c:=ck (tV F v o)) rfl has J J ik ?_;refine wh (m:=4) (us:=ck (tV F v o)) (cs':=ck (tV F v o)) J J gO rfl ?_;exact Db (L':=[]) rfl has (λM bj=>bj.pick [] rfl) rfl
     ·refine pS (j:=3) J J ?_
      refine nI (u:=I o.2.2.2) rfl has rfl ?_;refine Bm J J ?_;refine wg J J ?_;refine qD (cs':=ck (tV F v o)) J J gO (by
       show u0 _ _ _ (ck (o.1,o.2.1,o.2.2.1,max (if v=15/\F=1 then 15 else o.2.2.2) (v-F)));rw[aO (λq=>Rm q.1)]
       exact qC) ?_
      refine sG (c:=ck (tV F v o)) rfl has J J ik ?_;refine wh (m:=4) (us:=ck (tV F v o)) (cs':=ck (tV F v o)) J J gO rfl ?_;exact Db (L':=[]) rfl has (λM bj=>bj.pick [] rfl) rfl
end Z4
end AE
end
end
section
noncomputable section
namespace AE
theorem Z5 {b:bF} (ad:okB b):0<=(bu b).1*(bu b).2.1/\(bu b).1*(bu b).2.1<=2097150*2097150/\0<=dZ b/\dZ b<=2097150*2097150*2097150:=by
 obtain⟨h1,ae,ay,bE,cn,cy⟩:=xS ad;have oV:0<=(bu b).1*(bu b).2.1/\(bu b).1*(bu b).2.1<=2097150*2097150:=⟨Int.mul_nonneg h1 ay,Int.mul_le_mul ae bE ay cv⟩;exact⟨oV.1,oV.2,Int.mul_nonneg oV.1 cn,Int.mul_le_mul oV.2 cy cn cv⟩
namespace Z6
def t:bs:=
.c 77 [.agg ⟨[0,1,2,3,4,5]⟩] (.agg ⟨[6,7,8]⟩) 3<|
.o (.bin .mul 3 6 7) 9 1 []<|
.o (.bin .mul 3 9 8) 10 1 []<|
.ret 10
theorem dw:fJ Tryz.prog 76 {} [.agg ⟨[0,1,2,3,4,5]⟩] 6=some t:=gE aw
theorem any {W:au} {b:bF} (ad:okB b):qF cw 76 [.agg ⟨u6 b⟩] W (I (dZ b)):=by
 obtain⟨oV,FX,m3,m4⟩:=Z5 ad;unfold dZ at m3 m4;refine n8 (ro:=[]) mixed dw [I b.1,I b.2.1,I b.2.2.1,I b.2.2.2.1,I b.2.2.2.2.1,I b.2.2.2.2.2] (.nil _) ?_;unfold t;refine qE [I (bu b).1,I (bu b).2.1,I (bu b).2.2] (λw _=>Kc.any w b ad) rfl ?_;refine FO J J ?_;refine FO J J ?_;exact e3 rfl
end Z6
namespace Z7
def t:bs:=
.o (.bin .add 3 0 3) 6 1 []<|
.o (.bin .add 3 1 4) 7 1 []<|
.o (.bin .add 3 2 5) 8 1 []<|
.ret (.agg ⟨[6,7,8]⟩)
theorem dw:fJ Tryz.prog 78 {} [.agg ⟨[0,1,2]⟩,.agg ⟨[3,4,5]⟩] 6=some t:=gE aw
theorem any {W:au} {p q:dU} (hp: -2097152<=p.1/\p.1<=2097152/\ -2097152<=p.2.1/\p.2.1<=2097152/\ -2097152<=p.2.2/\p.2.2<=2097152) (a1: -9223372036850000000<=q.1/\q.1<=9223372036850000000/\ -9223372036850000000<=q.2.1/\q.2.1<=9223372036850000000/\ -9223372036850000000<=q.2.2/\q.2.2<=9223372036850000000):qF cw 78 [P.val p,P.val q] W (P.val (p.1+q.1,p.2.1+q.2.1,p.2.2+q.2.2)):=by
 refine n8 (ro:=[]) mixed dw [I p.1,I p.2.1,I p.2.2,I q.1,I q.2.1,I q.2.2] (.nil _) ?_;unfold t;refine bK ?_;exact e3 rfl
end Z7
namespace Z8
def t:bs:=
.o (.bin .lss 3 6 (I 0)) 7 1 []<|
.c6 7 (
 .ret (.tuple ⟨[.agg ⟨[I 0,I 0,I 0]⟩,.bool false]⟩)) (
 .c 76 [.agg ⟨[0,1,2,3,4,5]⟩] 8 1<|
 .o (.bin .geq 3 6 8) 9 1 []<|
 .c6 9 (
  .ret (.tuple ⟨[.agg ⟨[I 0,I 0,I 0]⟩,.bool false]⟩)) (
  .c 77 [.agg ⟨[0,1,2,3,4,5]⟩] (.agg ⟨[10,11,12]⟩) 3<|
  .o (.bin .rem 3 6 10) 13 1 []<|
  .o (.bin .quo 3 6 10) 14 1 []<|
  .o (.bin .rem 3 14 11) 15 1 []<|
  .o (.bin .quo 3 14 11) 16 1 []<|
  .c 78 [.agg ⟨[0,1,2]⟩,.agg ⟨[13,15,16]⟩] (.agg ⟨[17,18,19]⟩) 3<|
  .ret (.tuple ⟨[.agg ⟨[17,18,19]⟩,.bool true]⟩)))
theorem dw:fJ Tryz.prog 44 {} [.agg ⟨[0,1,2,3,4,5]⟩,6] 7=some t:=gE aw
theorem any {W:au} {b:bF} (ad:okB b) {k:Nat} (ag:k<(dZ b).toNat):qF cw 44 [.agg ⟨u6 b⟩,I (k:Nat)] W (.tuple ⟨[P.val (dV b ((k:Nat):Int)),.bool true]⟩):=by
 obtain⟨bq,bJ,aZ,av,zA,h1,ae,ay⟩:=JC ag;obtain⟨ez,c2,c3⟩:=CY zA;obtain⟨xo,z2,z3,z4,al6,JQ⟩:=xS ad;have aC:((k:Nat):Int)<dZ b:=by omega
 have al7:((k:Nat):Int)<=2097150*2097150*2097150:=by
  have:=(Z5 ad).2.2.2;omega
 have ha:dV b ((k:Nat):Int)=(b.1+((k:Nat):Int)%(bu b).1,b.2.1+((k:Nat):Int)/(bu b).1%(bu b).2.1,b.2.2.1+((k:Nat):Int)/(bu b).1/(bu b).2.1):=aN ⟨ao,aC⟩;have xY:=FZ ad (k:Nat);rw[ha] at xY ⊢;have e1:(bu b).1=(bq:Nat):=by rw[av]
 have e2:(bu b).2.1=(bJ:Nat):=by rw[av]
 have dN:=ad;unfold okB at dN;have jC:0<=((k:Nat):Int)/(bu b).1:=Int.ediv_nonneg ao ao;obtain⟨y,bg⟩:∃y,y=((k:Nat):Int)/(bu b).1:=⟨_,rfl⟩;rw[<-bg] at jC xY ⊢;have xi:y<=((k:Nat):Int):=by rw[bg];exact Int.ediv_le_self _ ao
 have oV:0<=((k:Nat):Int)%(bu b).1:=Int.emod_nonneg _ ao;have FX:0<=y%(bu b).2.1:=Int.emod_nonneg _ ao;have hT:0<=y/(bu b).2.1:=Int.ediv_nonneg ao ao;refine n8 (ro:=[]) mixed dw [I b.1,I b.2.1,I b.2.2.1,I b.2.2.2.1,I b.2.2.2.2.1,I b.2.2.2.2.2,I (k:Nat)] (.nil _) ?_;unfold t;refine bK ?_;refine fV rfl (λh=>absurd h ao) λ_=> ?_
 refine iY (v:=I (dZ b)) (λw _=>Z6.any ad) ?_;refine bK ?_;refine fV rfl (λh=>absurd h ao) λ_=> ?_
 refine qE [I (bu b).1,I (bu b).2.1,I (bu b).2.2] (λw _=>Kc.any w b ad) rfl ?_;refine Pa J J ?_;refine O_ J J ?_;rw[<-bg];refine Pa J J ?_;refine O_ J J ?_;refine qE [I (b.1+((k:Nat):Int)%(bu b).1),I (b.2.1+y%(bu b).2.1),I (b.2.2.1+y/(bu b).2.1)] (λw _=>Z7.any (p:=(b.1,b.2.1,b.2.2.1)) (q:=(((k:Nat):Int)%(bu b).1,y%(bu b).2.1,y/(bu b).2.1)) (by dsimp only;omega) (by dsimp only at xY ⊢;omega)) rfl ?_;exact e3 rfl
end Z8
def pw (table:List cr) (cells:List Int) (ar:List bA) (sh:List Bool) (b:bF) (n:Nat):List bA:=(List.range n).map λk=>wJ table cells ar sh b k
theorem akM (table:List cr) (cells:List Int) (ar:List bA) (sh:List Bool) (b:bF) (n:Nat):pw table cells ar sh b (n+1)=pw table cells ar sh b n++[wJ table cells ar sh b n]:=by
 unfold pw;rw[List.range_succ,List.map_append];rfl
theorem Z9 (table:List cr) (cells:List Int) (ar:List bA) (sh:List Bool) (b:bF) (n:Nat):(pw table cells ar sh b n).length=n:=by
 unfold pw;rw[List.length_map,List.length_range]
namespace Z'
def t:bs:=
.loop [.slice none 0 0,I 0] 2<|
.o (.len #[26] 3 6) 12 1 [0,3]<|
.o (.bin .lss 3 11 12) 13 1 []<|
.c6 13 (
 .c 44 [.agg ⟨[0,1,2,3,4,5]⟩,11] (.tuple ⟨[.agg ⟨[14,15,16]⟩,17]⟩) 4<|
 .c 45 [.agg ⟨[0,1,2,3,4,5,6]⟩,7,8,9,.agg ⟨[14,15,16]⟩] (.agg ⟨[18,19,20,21]⟩) 4<|
 .uR 51 10 [18,19,20,21]<|
 .o (.bin .add 3 11 (I 1)) 23 1 []<|
 .back [22,23]) (
 .gJ<|
 .ret 10)
theorem dw:fJ Tryz.prog 18 {} [.agg ⟨[0,1,2,3,4,5,6]⟩,7,8,9] 10=some t:=gE aw
theorem any {W:au} {b:bF} {a0:Option Addr} {dt dc:Nat} {cells:List Int} (aA:b_ (aG W) (b3 ([]:List (aF cw)))) (BQ:b7 (aG W) 1 ih (.slice a0 dt dc) cells) {dD ej a3:Option Addr} {tL n2 x9 ez c2 c3:Nat} {table:List cr} {sh:List Bool} {ar:List bA} (vU:b7 (aG W) 8 hA (.slice dD tL ez) table) (sn:b7 (aG W) 1 hO (.slice ej n2 c2) sh) (rb:b7 (aG W) 4 ck (.slice a3 x9 c3) ar)
  (aJ:dt=cells.length) (h1:tL=table.length) (ae:n2=sh.length) (ay:x9=ar.length) (ad:okB b) (aC:sh.length=(dZ b).toNat) (nU:cells.length=sh.length) (jf:ar.length=sh.length) (aq:cells.length<=10000) (cF:∀k,k<sh.length->1<=(dz table (cells.getD k default)).2.2.2.2.1/\(dz table (cells.getD k default)).2.2.2.2.1<=16) (hL:DF ar):
  gY cw 18 [jW b (.slice a0 dt dc),.slice dD tL ez,.slice ej n2 c2,.slice a3 x9 c3] W [] c_ (λy=> .slice y.1 (pw table cells ar sh b cells.length).length y.2) (λy=>[aF.arr dk (.slice y.1 (pw table cells ar sh b cells.length).length y.2) (pw table cells ar sh b cells.length)]):=by
 subst aJ h1 ae ay;refine kG (ro:=[⟨eT,.slice a0 cells.length dc,cells⟩,⟨mo,.slice dD table.length ez,table⟩,⟨h7,.slice ej sh.length c2,sh⟩,⟨dk,.slice a3 ar.length c3,ar⟩]) mixed dw [I b.1,I b.2.1,I b.2.2.1,I b.2.2.2.1,I b.2.2.2.2.1,I b.2.2.2.2.2,.slice a0 cells.length dc,.slice dD table.length ez,.slice ej sh.length c2,.slice a3 ar.length c3] aA (fB.ext (.cons BQ (.cons vU (.cons sn (.cons rb (.nil _)))))) ?_;unfold t;refine Zo (Nat×c_) (λu=>[.slice u.2.1 (pw table cells ar sh b u.1).length u.2.2,I (u.1:Nat)]) (λu=>[aF.arr dk (.slice u.2.1 (pw table cells ar sh b u.1).length u.2.2) (pw table cells ar sh b u.1)]) (λu=>u.1<=cells.length) (λu=>cells.length-u.1) (0,none,0) rfl (lf.Zn dk) (Nat.zero_le _) (λu hu=> ?_);obtain⟨i,a,c⟩:=u;have hu:i<=cells.length:=hu;dsimp only;have gH:=Z9 table cells ar sh b i;refine bK ?_;refine fV rfl (λaf=> ?_) λaf=> ?_
 ·have af:i<cells.length:=by omega
  have xY:=FZ ad (i:Nat);refine qE [I (dV b ((i:Nat):Int)).1,I (dV b ((i:Nat):Int)).2.1,I (dV b ((i:Nat):Int)).2.2,.bool true] (λw _=>Z8.any ad ao) rfl ?_;refine qE (ck (wJ table cells ar sh b i)) (λw hw=>Z4.any (hw.ro 0 _ rfl) (hw.ro 1 _ rfl) (hw.ro 2 _ rfl) (hw.ro 3 _ rfl) J J J J i ad (by show i<sh.length;omega) aC nU jf (cF i (by show i<sh.length;omega)) hL) rfl ?_;refine Pc (K:=dk) (l:=pw table cells ar sh b i) [wJ table cells ar sh b i] rfl (λa c=>gO) rfl (λej c2=> ?_) (Di (by show _+1<=_;omega)) (by show (_+1)*32<=_;omega);rw[<-akM];refine bK ?_;exact ng (u:=(i,a,c)) (i+1,ej,c2) J J af (by show cells.length-(i+1)<cells.length-i;omega)
 ·obtain rfl:i=cells.length:=by omega
  refine xL ?_;exact e3 ⟨(a,c),rfl,rfl⟩
end Z'
end AE
end
end
section
noncomputable section
namespace AE
theorem akN:u2 cw BK 6 48=true:=aw
abbrev yt:hP cw:=xO (α:=gT) default BK 6 48 yn akN
theorem e4.DF {e:bN} (h:e4 e):DF e.u.ar:=λn=>by
 by_cases aq:n<e.u.bS.length
 ·exact PV (h.kt.li n aq)
 ·rw[dr,List.getElem?_eq_none (by rw[h.kt.Bw];omega)]
  intro c al;have:AE.bL (default:bA) c=0:=CS c;show 0<=AE.bL (default:bA) c/\AE.bL (default:bA) c<=15;rw[this];decide
theorem akO {table:List cr} {cells:List Int} {ar:List bA} {sh:List Bool} {b:bF} {n k:Nat} (h:k<n):(pw table cells ar sh b n)[k]? =some (wJ table cells ar sh b k):=by
 unfold pw;rw[List.getElem?_map,List.getElem?_range h];rfl
theorem e4.pw {e:bN} (h:e4 e) (s:pn e):pw e.table e.cells e.u.ar e.known e.b e.cells.length=e.u.ar:=by
 have jf:e.u.ar.length=e.cells.length:=h.kt.Bw.trans h.lc.symm;have aP:=(h.full s).1.fixed;apply List.ext_getElem ((Z9 _ _ _ _ _ _).trans jf.symm);intro k h1 ae;have ag:k<e.known.length:=by rw[h.BM,<-jf];exact ae
 have aC:e.known.length=(dZ e.b).toNat:=h.BM.trans h.BL;have iQ:k<(fQ e.b).N:=by rw[PB h.kt.box,<-aC];exact ag
 have ay:=akO (table:=e.table) (cells:=e.cells) (ar:=e.u.ar) (sh:=e.known) (b:=e.b) (n:=e.cells.length) (k:=k) ao;rw[fP h1,cx] at ay;rw[ay,akE h.kt.box ag aC (λc al=>((h.kt.sL _).2.2 c al).1) (h.kt.sL _).1 (λn=>(h.DF n 3 cv).2)];refine bA.ext' λc al=> ?_
 rw[Wz h.kt.box iQ al,aP k c iQ al];unfold cU;rw[dr,fP ae];rfl
namespace Z_
def t:bs:=
.c 5 [.agg ⟨[0,1,2,3,4,5,6]⟩,7,8,9] 10 1<|
.o (.un .not 10) 11 1 []<|
.c6 11 (
 .c 6 [] 12 1<|
 .ret 12) (
 .call 7 [.agg ⟨[0,1,2,3,4,5,6]⟩,7,8,I 100] (.tuple ⟨[12,13]⟩) 2<|
 .call 7 [.agg ⟨[0,1,2,3,4,5,6]⟩,7,8,I 100] (.tuple ⟨[14,15]⟩) 2<|
 .o (.bin .neq 35 13 (I 0)) 16 1 []<|
 .c6 16 (
  .c 6 [] 17 1<|
  .c6 17 (
   .o (.bin .eql 35 13 (I 1)) 18 1 []<|
   .c6 18 (
    .o (.bin .eql 35 15 (I 1)) 19 1 []<|
    .ret 19) (
    .ret (.bool false))) (
   .ret (.bool false))) (
  .o (.bin .neq 35 15 (I 0)) 17 1 []<|
  .c6 17 (
   .c 6 [] 18 1<|
   .c6 18 (
    .o (.bin .eql 35 13 (I 1)) 19 1 []<|
    .c6 19 (
     .o (.bin .eql 35 15 (I 1)) 20 1 []<|
     .ret 20) (
     .ret (.bool false))) (
    .ret (.bool false))) (
   .o (.bin .eql 34 12 (.pointer none)) 18 1 []<|
   .c6 18 (
    .c 6 [] 19 1<|
    .c6 19 (
     .o (.bin .eql 35 13 (I 1)) 20 1 []<|
     .c6 20 (
      .o (.bin .eql 35 15 (I 1)) 21 1 []<|
      .ret 21) (
      .ret (.bool false))) (
     .ret (.bool false))) (
    .o (.bin .eql 34 14 (.pointer none)) 19 1 []<|
    .c6 19 (
     .c 6 [] 20 1<|
     .c6 20 (
      .o (.bin .eql 35 13 (I 1)) 21 1 []<|
      .c6 21 (
       .o (.bin .eql 35 15 (I 1)) 22 1 []<|
       .ret 22) (
       .ret (.bool false))) (
      .ret (.bool false))) (
     .o (.len #[31] 3 9) 20 1 [0,42]<|
     .loop [.bool false,I 0] 2<|
     .o (.bin .lss 3 22 20) 23 1 []<|
     .c6 23 (
      .o (.cP 31 9 22) 24 1 [0,42,6]<|
      .o (.bp 42 24) (.agg ⟨h5 6 25⟩) 6 [6]<|
      .call 9 [12,.agg ⟨[25,26,27,28,29,30]⟩] 31 1<|
      .o (.bin .lss 3 25 (I 3)) 32 1 []<|
      .c6 32 (
       .call 9 [14,.agg ⟨[25,26,27,28,29,30]⟩] 33 1<|
       .o (.bin .neq 35 33 31) 34 1 []<|
       .c6 34 (
        .gJ<|
        .ret (.bool false)) (
        .o (.bin .add 3 22 (I 1)) 35 1 []<|
        .back [21,35])) (
       .o (.bin .add 3 22 (I 1)) 33 1 []<|
       .back [21,33])) (
      .gJ<|
      .call 13 [12] 24 1<|
      .call 13 [14] 25 1<|
      .call 14 [12] (.agg ⟨[26,27,28,29,30,31,32]⟩) 7<|
      .call 15 [12] 33 1<|
      .call 7 [.agg ⟨[26,27,28,29,30,31,32]⟩,7,33,I 1] (.tuple ⟨[34,35]⟩) 2<|
      .o (.bin .neq 35 35 (I 0)) 36 1 []<|
      .c6 36 (
       .ret (.bool false)) (
       .o (.bin .eql 34 34 (.pointer none)) 37 1 []<|
       .c6 37 (
        .ret (.bool false)) (
        .call 13 [34] 38 1<|
        .c 6 [] 39 1<|
        .c6 39 (
         .call 17 [12] 40 1<|
         .call 17 [14] 41 1<|
         .c 16 [40,41] 42 1<|
         .c6 42 (
          .call 17 [12] 43 1<|
          .call 17 [34] 44 1<|
          .c 16 [43,44] 45 1<|
          .c6 45 (
           .call 17 [12] 46 1<|
           .call 14 [12] (.agg ⟨[47,48,49,50,51,52,53]⟩) 7<|
           .call 15 [12] 54 1<|
           .call 17 [12] 55 1<|
           .call 18 [.agg ⟨[47,48,49,50,51,52,53]⟩,7,54,55] 56 1<|
           .c 16 [46,56] 57 1<|
           .ret 57) (
           .ret (.bool false))) (
          .ret (.bool false))) (
         .ret (.bool false))))))))))
theorem dw:fJ Tryz.prog 4 {nF:=[13,7,9,14,17,15,18]} [.agg ⟨[0,1,2,3,4,5,6]⟩,7,8,9] 10=some t:=gE aw
theorem any (W:au) {a0:dA} {dt dc:Nat} {cells:List Int} (BQ:b7 (aG W) 1 ih (.slice a0 dt dc) cells) (b:bF) {v1 fi v3:U} {table:List cr} {known:List Bool} {l:List gT} (vU:b7 (aG W) 8 hA v1 table) (sn:b7 (aG W) 1 hO fi known) (rb:b7 (aG W) 6 yn v3 l) (b0:ly (aG W)) (fO:dt=cells.length):
  Calls Tryz.prog 4 #[jW b (.slice a0 dt dc),v1,fi,v3] W λe w'=>e= .returned (.bool true)/\ch W.heap.size W w':=by
 subst fO;obtain⟨dD,ez,rfl⟩:=vU.slice;obtain⟨ej,c2,rfl⟩:=sn.slice;obtain⟨a3,c3,rfl⟩:=rb.slice;refine n8 (ro:=[⟨eT,.slice a0 cells.length dc,cells⟩,⟨mo,.slice dD table.length ez,table⟩,⟨h7,.slice ej known.length c2,known⟩,⟨yt,.slice a3 l.length c3,l⟩]) mixed dw [I b.1,I b.2.1,I b.2.2.1,I b.2.2.2.1,I b.2.2.2.2.1,I b.2.2.2.2.2,.slice a0 cells.length dc,.slice dD table.length ez,.slice ej known.length c2,.slice a3 l.length c3] (.cons BQ (.cons vU (.cons sn (.cons rb (.nil _))))) ?_;unfold t;have nX:∀{L:List (aF cw)} {w:au},kV W [] [⟨eT,.slice a0 cells.length dc,cells⟩,⟨mo,.slice dD table.length ez,table⟩,⟨h7,.slice ej known.length c2,known⟩,⟨yt,.slice a3 l.length c3,l⟩] L w->b7 (aG w) 1 ih (.slice a0 cells.length dc) cells:=λhw=>hw.ro 0 _ rfl
 have cS:∀{L:List (aF cw)} {w:au},kV W [] [⟨eT,.slice a0 cells.length dc,cells⟩,⟨mo,.slice dD table.length ez,table⟩,⟨h7,.slice ej known.length c2,known⟩,⟨yt,.slice a3 l.length c3,l⟩] L w->b7 (aG w) 8 hA (.slice dD table.length ez) table:=λhw=>hw.ro 1 _ rfl
 have dL:∀{L:List (aF cw)} {w:au},kV W [] [⟨eT,.slice a0 cells.length dc,cells⟩,⟨mo,.slice dD table.length ez,table⟩,⟨h7,.slice ej known.length c2,known⟩,⟨yt,.slice a3 l.length c3,l⟩] L w->b7 (aG w) 1 hO (.slice ej known.length c2) known:=λhw=>hw.ro 2 _ rfl
 have fZ:∀{L:List (aF cw)} {w:au},kV W [] [⟨eT,.slice a0 cells.length dc,cells⟩,⟨mo,.slice dD table.length ez,table⟩,⟨h7,.slice ej known.length c2,known⟩,⟨yt,.slice a3 l.length c3,l⟩] L w->b7 (aG w) 6 yn (.slice a3 l.length c3) l:=λhw=>hw.ro 3 _ rfl
 have Rn:∀{L:List (aF cw)} (w:au),kV W [] [⟨eT,.slice a0 cells.length dc,cells⟩,⟨mo,.slice dD table.length ez,table⟩,⟨h7,.slice ej known.length c2,known⟩,⟨yt,.slice a3 l.length c3,l⟩] L w->Calls cw 6 #[] w λe w'=>e= .returned (.bool true)/\ch w.heap.size w w':=λw hw=>Zw.any w (b0.BO hw)
 refine iY (v:= .bool (decide (tS cells table known l.length))) (λw hw=>Y_.any w (b:=b) (nX hw) (cS hw) (dL hw) (fZ hw) rfl) ?_;refine Js rfl ?_;refine xJ rfl (λ_=>iY Rn (e3 rfl)) λaJ=> ?_
 have j2:l.length<=30:=aJ.2.1;have q1:=aJ.2.2.2.2;have aE:=aJ.2.2.1.1;have b9:cells.length<=120:=aJ.1;by_cases mC:nh b cells table known 100
 ·obtain⟨ZH,_⟩:=GG mC ao
  obtain⟨ad,aC⟩:=ZF mC ao;have aac:rR (jI b cells table known 100) (jI b cells table known 100) (jI b cells table known 100) 0:=rR.zero ZH rfl (akB (J1 mC.1).2.1.2.2.2.2);obtain⟨bk,r1⟩:∃bk,bk=jI b cells table known 100:=⟨_,rfl⟩;have v_:bk.most=100:=by rw[r1];rfl
  have aad:∀{L:List (aF cw)} (w:au),kV W [] [⟨eT,.slice a0 cells.length dc,cells⟩,⟨mo,.slice dD table.length ez,table⟩,⟨h7,.slice ej known.length c2,known⟩,⟨yt,.slice a3 l.length c3,l⟩] L w->b_ (aG w) (b3 ([]:List (aF cw)))->gY cw 7 [jW b (.slice a0 cells.length dc),.slice dD table.length ez,.slice ej known.length c2,I 100] w [] (Nat×dh) (λy=> .tuple ⟨[b2 y.1,I 0]⟩) (λy=>[c5 y.1 y.2 bk]):=λw hw aA=>by
   rw[r1];exact Q9 (b:=b) aA (nX hw) (cS hw) (dL hw) (b0.BO hw) ao rfl ao ao mC
  have Co:∀e f,rR bk e f l.length->_:=λe f h=>rR.end (e:=e) (f:=f) (n:=l.length) mC ao (r1▸h)
  rw[<-r1] at aac;refine il (v:=λ(y:Nat×dh)=> .tuple ⟨[b2 y.1,I 0]⟩) (N:=λ(y:Nat×dh)=>[c5 y.1 y.2 bk]) (dq:=[]) (L':=λy=>[c5 y.1 y.2 bk]) [] (λy=>[b2 y.1,I 0]) (λw hw aA=>aad w hw aA) λy=> ?_
  refine il (v:=λ(y:Nat×dh)=> .tuple ⟨[b2 y.1,I 0]⟩) (N:=λ(y:Nat×dh)=>[c5 y.1 y.2 bk]) (dq:=[]) (L':=λz=>[c5 y.1 y.2 bk,c5 z.1 z.2 bk]) [] (λy=>[b2 y.1,I 0]) (λw hw aA=>aad w hw aA) λz=> ?_
  refine Bl J J ?_;refine xK rfl ?_;refine Bl J J ?_;refine xK rfl ?_;refine Ju rfl ?_;refine xK rfl ?_;refine Ju rfl ?_;refine xK rfl ?_;refine bK ?_;refine u1 (Nat×(bN×dh)×(bN×dh)) (λu=>[.bool false,I (u.1:Nat)]) (λu=>[c5 y.1 u.2.1.2 u.2.1.1,c5 z.1 u.2.2.2 u.2.2.1]) (λu=>u.1<=l.length/\rR bk u.2.1.1 u.2.2.1 u.1) (λu=>l.length-u.1) (0,(bk,y.2),(bk,z.2)) J J ⟨Nat.zero_le _,aac⟩ (λu hu=> ?_);obtain⟨i,⟨e,A⟩,⟨f,eH⟩⟩:=u;obtain⟨oC,ek⟩:i<=l.length/\rR bk e f i:=hu;dsimp only;refine bK ?_;refine fV rfl (λaf=> ?_) λaf=> ?_
  ·have af:i<l.length:=by omega
   obtain⟨x,ak⟩:∃x,x=l.getD i default:=⟨_,rfl⟩;obtain⟨hi,gi,q'⟩:=ek.next (by rw[v_];omega) ao x
   refine mI (K:=yt) (l:=l) (j:=i) J J ?_;refine qB (K:=yt) (l:=l) (j:=i) (o:=0) (c:=yn x) rfl (by rw[ak];rfl) rfl ik ?_;refine il (v:=λ_=>I (ni e x)) (N:=λ(aV:dh)=>[c5 y.1 aV (jB e x)]) (dq:=[c5 y.1 A e]) (L':=λaV=>[c5 y.1 aV (jB e x),c5 z.1 eH f]) [0] (λ_=>[I (ni e x)]) (λw _ aA=>Rf.any w aA x ek.tU.ok) λaV=> ?_
   refine bK ?_;refine fV rfl (λay=> ?_) λay=> ?_
   ·refine il (v:=λ_=>I (ni e x)) (N:=λ(aV:dh)=>[c5 z.1 aV (jB f x)]) (dq:=[c5 z.1 eH f]) (L':=λRo=>[c5 y.1 aV (jB e x),c5 z.1 Ro (jB f x)]) [1] (λ_=>[I (ni e x)]) (λw _ aA=>by
     have:=Rf.any w aA x ek.of.ok;rw[hi] at this
     exact this) λRo=> ?_
    refine bK ?_;refine fV rfl (λh=>absurd rfl h) λ_=> ?_
    refine bK ?_;exact ng (u:=(i,(e,A),(f,eH))) (i+1,(jB e x,aV),(jB f x,Ro)) J J ⟨af,gi⟩ (by show l.length-(i+1)<l.length-i;omega)
   ·refine bK ?_
    exact ng (u:=(i,(e,A),(f,eH))) (i+1,(jB e x,aV),(f,eH)) J J ⟨af,q' ay⟩ (by show l.length-(i+1)<l.length-i;omega)
  ·obtain rfl:i=l.length:=by omega
   refine xL ?_;obtain⟨g1,g2,g3,g4,jQ,g6,g7,g8,Bu,Kn,al8⟩:=Co e f ek;have AZ:=(ek.tU.ok.set).2.1;have cB:=g4.pw AZ;have lK:=g4.DF;obtain⟨yu,aae⟩:∃yu,yu=jI b (fS e).cells table (fS e).known 1:=⟨_,rfl⟩;rw[<-aae] at g6 Kn;have aaf:∀{w:au} {v1 fi v3:U} {a n c:_},v1= .slice a n c->b_ (aG w) (b3 ([]:List (aF cw)))->b7 (aG w) 1 ih (.slice a n c) (fS e).cells->b7 (aG w) 8 hA fi table->b7 (aG w) 1 hO v3 (fS e).known->ly (aG w)->n=(fS e).cells.length->gY cw 7 [jW b v1,fi,v3,I 1] w [] (Nat×dh) (λy=> .tuple ⟨[b2 y.1,I 0]⟩) (λy=>[c5 y.1 y.2 yu]):=λvW aA cV df qo RY akP=>by
    rw[aae,vW];exact Q9 (b:=b) aA cV df qo RY ao akP ao ao g1
   obtain⟨E,er⟩:∃E,E=fS e:=⟨_,rfl⟩;obtain⟨F,aag⟩:∃F,F=fS f:=⟨_,rfl⟩;obtain⟨H,aah⟩:∃H,H=fS yu:=⟨_,rfl⟩;rw[<-er] at g1 g2 g3 g4 g7 g8 Bu Kn cB lK aaf;rw[<-aag] at jQ Bu;rw[<-aah] at Kn;rw[g2,g3] at cB;have al9:E.u.ar.length=cells.length:=g4.kt.Bw.trans (g4.lc.symm.trans g7);have akQ:E.known.length=(dZ b).toNat:=by rw[g8];exact aC
   have sL:PD table:=by have:=g4.kt.sL;rwa [g3] at this
   have gr:∀{w:au} {A:dh},b_ (aG w) (b3 [c5 y.1 A E])->gY cw 14 [b2 y.1] w [c5 y.1 A E] c_ (λd=>jW b (.slice d.1 E.cells.length d.2)) (λd=>[c5 y.1 A E,aF.arr eT (.slice d.1 E.cells.length d.2) E.cells]):=λ{w A} aA=>by
    have:=YW w aA ao;rw[g2] at this;exact this
   refine il (v:=λ_=>I (vp e:Nat)) (N:=λ(aV:dh)=>[c5 y.1 aV E]) (dq:=[c5 y.1 A e]) (L':=λaV=>[c5 y.1 aV E,c5 z.1 eH f]) [0] (λ_=>[I (vp e:Nat)]) (λw _ aA=>GH aA ek.tU.ok er.symm rfl) λiG=> ?_
   refine il (v:=λ_=>I (vp f:Nat)) (N:=λ(aV:dh)=>[c5 z.1 aV F]) (dq:=[c5 z.1 eH f]) (L':=λaV=>[c5 y.1 iG E,c5 z.1 aV F]) [1] (λ_=>[I (vp f:Nat)]) (λw _ aA=>GH aA ek.of.ok aag.symm rfl) λl2=> ?_
   refine il (v:=λ(d:c_)=>jW b (.slice d.1 E.cells.length d.2)) (N:=λ(d:c_)=>[c5 y.1 iG E,aF.arr eT (.slice d.1 E.cells.length d.2) E.cells]) (dq:=[c5 y.1 iG E]) (L':=λd=>[c5 y.1 iG E,c5 z.1 l2 F,aF.arr eT (.slice d.1 E.cells.length d.2) E.cells]) [0] (λd=>[I b.1,I b.2.1,I b.2.2.1,I b.2.2.2.1,I b.2.2.2.2.1,I b.2.2.2.2.2,.slice d.1 E.cells.length d.2]) (λw _ aA=>gr aA) λjC=> ?_
   refine il (v:=λ(d:c_)=> .slice d.1 E.known.length d.2) (N:=λ(d:c_)=>[c5 y.1 iG E,aF.arr h7 (.slice d.1 E.known.length d.2) E.known]) (dq:=[c5 y.1 iG E]) (L':=λd=>[c5 y.1 iG E,c5 z.1 l2 F,aF.arr eT (.slice jC.1 E.cells.length jC.2) E.cells,aF.arr h7 (.slice d.1 E.known.length d.2) E.known]) [0] (λd=>[.slice d.1 E.known.length d.2]) (λw _ aA=>QY w aA ao) λhT=> ?_
   refine il (v:=λ(y:Nat×dh)=> .tuple ⟨[b2 y.1,I 0]⟩) (N:=λ(y:Nat×dh)=>[c5 y.1 y.2 yu]) (dq:=[]) (L':=λx=>[c5 y.1 iG E,c5 z.1 l2 F,aF.arr eT (.slice jC.1 E.cells.length jC.2) E.cells,aF.arr h7 (.slice hT.1 E.known.length hT.2) E.known,c5 x.1 x.2 yu]) [] (λy=>[b2 y.1,I 0]) (λw hw aA=>aaf (v1:= .slice jC.1 E.cells.length jC.2) rfl aA ((iO.arr (K:=eT) (v:= .slice jC.1 E.cells.length jC.2) (l:=E.cells) has).at hw) (cS hw) ((iO.arr (K:=h7) (v:= .slice hT.1 E.known.length hT.2) (l:=E.known) has).at hw) (b0.BO hw) rfl) λx=> ?_
   refine Bl J J ?_;refine xK rfl ?_;refine Ju rfl ?_;refine xK rfl ?_;refine il (v:=λ_=>I (vp yu:Nat)) (N:=λ(aV:dh)=>[c5 x.1 aV H]) (dq:=[c5 x.1 x.2 yu]) (L':=λaV=>[c5 y.1 iG E,c5 z.1 l2 F,aF.arr eT (.slice jC.1 E.cells.length jC.2) E.cells,aF.arr h7 (.slice hT.1 E.known.length hT.2) E.known,c5 x.1 aV H]) [4] (λ_=>[I (vp yu:Nat)]) (λw _ aA=>GH aA g6 aah.symm rfl) λtT=> ?_
   refine iY Rn ?_;refine mJ rfl ?_;have lt:∀{w:au} {g:Nat} {A:dh} {X:bN},X.u.ar=E.u.ar->b_ (aG w) (b3 [c5 g A X])->gY cw 17 [b2 g] w [c5 g A X] c_ (λd=> .slice d.1 E.u.ar.length d.2) (λd=>[c5 g A X,aF.arr dk (.slice d.1 E.u.ar.length d.2) E.u.ar]):=λ{w g A X} iU aA=>by
    have:=QX w aA (by rw[iU];omega);rw[iU] at this;exact this
   refine il (v:=λ(d:c_)=> .slice d.1 E.u.ar.length d.2) (N:=λ(d:c_)=>[c5 y.1 iG E,aF.arr dk (.slice d.1 E.u.ar.length d.2) E.u.ar]) (dq:=[c5 y.1 iG E]) (L':=λd=>[c5 y.1 iG E,c5 z.1 l2 F,aF.arr eT (.slice jC.1 E.cells.length jC.2) E.cells,aF.arr h7 (.slice hT.1 E.known.length hT.2) E.known,c5 x.1 tT H,aF.arr dk (.slice d.1 E.u.ar.length d.2) E.u.ar]) [0] (λd=>[.slice d.1 E.u.ar.length d.2]) (λw _ aA=>lt rfl aA) λnR=> ?_
   refine il (v:=λ(d:c_)=> .slice d.1 E.u.ar.length d.2) (N:=λ(d:c_)=>[c5 z.1 l2 F,aF.arr dk (.slice d.1 E.u.ar.length d.2) E.u.ar]) (dq:=[c5 z.1 l2 F]) (L':=λd=>[c5 y.1 iG E,c5 z.1 l2 F,aF.arr eT (.slice jC.1 E.cells.length jC.2) E.cells,aF.arr h7 (.slice hT.1 E.known.length hT.2) E.known,c5 x.1 tT H,aF.arr dk (.slice nR.1 E.u.ar.length nR.2) E.u.ar,aF.arr dk (.slice d.1 E.u.ar.length d.2) E.u.ar]) [1] (λd=>[.slice d.1 E.u.ar.length d.2]) (λw _ aA=>lt Bu aA) λpt=> ?_
   refine iY (v:= .bool true) (λw hw=>Ka (Kd.any w ((iO.arr (K:=dk) (v:= .slice nR.1 E.u.ar.length nR.2) (l:=E.u.ar) has).at hw) ((iO.arr (K:=dk) (v:= .slice pt.1 E.u.ar.length pt.2) (l:=E.u.ar) has).at hw) ao) rfl) ?_;refine mJ rfl ?_;refine il (v:=λ(d:c_)=> .slice d.1 E.u.ar.length d.2) (N:=λ(d:c_)=>[c5 y.1 iG E,aF.arr dk (.slice d.1 E.u.ar.length d.2) E.u.ar]) (dq:=[c5 y.1 iG E]) (L':=λd=>[c5 y.1 iG E,c5 z.1 l2 F,aF.arr eT (.slice jC.1 E.cells.length jC.2) E.cells,aF.arr h7 (.slice hT.1 E.known.length hT.2) E.known,c5 x.1 tT H,aF.arr dk (.slice nR.1 E.u.ar.length nR.2) E.u.ar,aF.arr dk (.slice pt.1 E.u.ar.length pt.2) E.u.ar,aF.arr dk (.slice d.1 E.u.ar.length d.2) E.u.ar]) [0] (λd=>[.slice d.1 E.u.ar.length d.2]) (λw _ aA=>lt rfl aA) λqR=> ?_
   refine il (v:=λ(d:c_)=> .slice d.1 E.u.ar.length d.2) (N:=λ(d:c_)=>[c5 x.1 tT H,aF.arr dk (.slice d.1 E.u.ar.length d.2) E.u.ar]) (dq:=[c5 x.1 tT H]) (L':=λd=>[c5 y.1 iG E,c5 z.1 l2 F,aF.arr eT (.slice jC.1 E.cells.length jC.2) E.cells,aF.arr h7 (.slice hT.1 E.known.length hT.2) E.known,c5 x.1 tT H,aF.arr dk (.slice nR.1 E.u.ar.length nR.2) E.u.ar,aF.arr dk (.slice pt.1 E.u.ar.length pt.2) E.u.ar,aF.arr dk (.slice qR.1 E.u.ar.length qR.2) E.u.ar,aF.arr dk (.slice d.1 E.u.ar.length d.2) E.u.ar]) [4] (λd=>[.slice d.1 E.u.ar.length d.2]) (λw _ aA=>lt Kn aA) λsX=> ?_
   refine iY (v:= .bool true) (λw hw=>Ka (Kd.any w ((iO.arr (K:=dk) (v:= .slice qR.1 E.u.ar.length qR.2) (l:=E.u.ar) has).at hw) ((iO.arr (K:=dk) (v:= .slice sX.1 E.u.ar.length sX.2) (l:=E.u.ar) has).at hw) ao) rfl) ?_;refine mJ rfl ?_;refine il (v:=λ(d:c_)=> .slice d.1 E.u.ar.length d.2) (N:=λ(d:c_)=>[c5 y.1 iG E,aF.arr dk (.slice d.1 E.u.ar.length d.2) E.u.ar]) (dq:=[c5 y.1 iG E]) (L':=λd=>[c5 y.1 iG E,c5 z.1 l2 F,aF.arr eT (.slice jC.1 E.cells.length jC.2) E.cells,aF.arr h7 (.slice hT.1 E.known.length hT.2) E.known,c5 x.1 tT H,aF.arr dk (.slice nR.1 E.u.ar.length nR.2) E.u.ar,aF.arr dk (.slice pt.1 E.u.ar.length pt.2) E.u.ar,aF.arr dk (.slice qR.1 E.u.ar.length qR.2) E.u.ar,aF.arr dk (.slice sX.1 E.u.ar.length sX.2) E.u.ar,aF.arr dk (.slice d.1 E.u.ar.length d.2) E.u.ar]) [0] (λd=>[.slice d.1 E.u.ar.length d.2]) (λw _ aA=>lt rfl aA) λwK=> ?_
   refine il (v:=λ(d:c_)=>jW b (.slice d.1 E.cells.length d.2)) (N:=λ(d:c_)=>[c5 y.1 iG E,aF.arr eT (.slice d.1 E.cells.length d.2) E.cells]) (dq:=[c5 y.1 iG E]) (L':=λd=>[c5 y.1 iG E,c5 z.1 l2 F,aF.arr eT (.slice jC.1 E.cells.length jC.2) E.cells,aF.arr h7 (.slice hT.1 E.known.length hT.2) E.known,c5 x.1 tT H,aF.arr dk (.slice nR.1 E.u.ar.length nR.2) E.u.ar,aF.arr dk (.slice pt.1 E.u.ar.length pt.2) E.u.ar,aF.arr dk (.slice qR.1 E.u.ar.length qR.2) E.u.ar,aF.arr dk (.slice sX.1 E.u.ar.length sX.2) E.u.ar,aF.arr dk (.slice wK.1 E.u.ar.length wK.2) E.u.ar,aF.arr eT (.slice d.1 E.cells.length d.2) E.cells]) [0] (λd=>[I b.1,I b.2.1,I b.2.2.1,I b.2.2.2.1,I b.2.2.2.2.1,I b.2.2.2.2.2,.slice d.1 E.cells.length d.2]) (λw _ aA=>gr aA) λzS=> ?_
   refine il (v:=λ(d:c_)=> .slice d.1 E.known.length d.2) (N:=λ(d:c_)=>[c5 y.1 iG E,aF.arr h7 (.slice d.1 E.known.length d.2) E.known]) (dq:=[c5 y.1 iG E]) (L':=λd=>[c5 y.1 iG E,c5 z.1 l2 F,aF.arr eT (.slice jC.1 E.cells.length jC.2) E.cells,aF.arr h7 (.slice hT.1 E.known.length hT.2) E.known,c5 x.1 tT H,aF.arr dk (.slice nR.1 E.u.ar.length nR.2) E.u.ar,aF.arr dk (.slice pt.1 E.u.ar.length pt.2) E.u.ar,aF.arr dk (.slice qR.1 E.u.ar.length qR.2) E.u.ar,aF.arr dk (.slice sX.1 E.u.ar.length sX.2) E.u.ar,aF.arr dk (.slice wK.1 E.u.ar.length wK.2) E.u.ar,aF.arr eT (.slice zS.1 E.cells.length zS.2) E.cells,aF.arr h7 (.slice d.1 E.known.length d.2) E.known]) [0] (λd=>[.slice d.1 E.known.length d.2]) (λw _ aA=>QY w aA ao) λDG=> ?_
   refine il (v:=λ(d:c_)=> .slice d.1 E.u.ar.length d.2) (N:=λ(d:c_)=>[c5 y.1 iG E,aF.arr dk (.slice d.1 E.u.ar.length d.2) E.u.ar]) (dq:=[c5 y.1 iG E]) (L':=λd=>[c5 y.1 iG E,c5 z.1 l2 F,aF.arr eT (.slice jC.1 E.cells.length jC.2) E.cells,aF.arr h7 (.slice hT.1 E.known.length hT.2) E.known,c5 x.1 tT H,aF.arr dk (.slice nR.1 E.u.ar.length nR.2) E.u.ar,aF.arr dk (.slice pt.1 E.u.ar.length pt.2) E.u.ar,aF.arr dk (.slice qR.1 E.u.ar.length qR.2) E.u.ar,aF.arr dk (.slice sX.1 E.u.ar.length sX.2) E.u.ar,aF.arr dk (.slice wK.1 E.u.ar.length wK.2) E.u.ar,aF.arr eT (.slice zS.1 E.cells.length zS.2) E.cells,aF.arr h7 (.slice DG.1 E.known.length DG.2) E.known,aF.arr dk (.slice d.1 E.u.ar.length d.2) E.u.ar]) [0] (λd=>[.slice d.1 E.u.ar.length d.2]) (λw _ aA=>lt rfl aA) λKo=> ?_
   refine il (v:=λ(d:c_)=> .slice d.1 E.u.ar.length d.2) (N:=λ(d:c_)=>[aF.arr dk (.slice d.1 E.u.ar.length d.2) E.u.ar]) (dq:=[]) (L':=λd=>[c5 y.1 iG E,c5 z.1 l2 F,aF.arr eT (.slice jC.1 E.cells.length jC.2) E.cells,aF.arr h7 (.slice hT.1 E.known.length hT.2) E.known,c5 x.1 tT H,aF.arr dk (.slice nR.1 E.u.ar.length nR.2) E.u.ar,aF.arr dk (.slice pt.1 E.u.ar.length pt.2) E.u.ar,aF.arr dk (.slice qR.1 E.u.ar.length qR.2) E.u.ar,aF.arr dk (.slice sX.1 E.u.ar.length sX.2) E.u.ar,aF.arr dk (.slice wK.1 E.u.ar.length wK.2) E.u.ar,aF.arr eT (.slice zS.1 E.cells.length zS.2) E.cells,aF.arr h7 (.slice DG.1 E.known.length DG.2) E.known,aF.arr dk (.slice Ko.1 E.u.ar.length Ko.2) E.u.ar,aF.arr dk (.slice d.1 E.u.ar.length d.2) E.u.ar]) [] (λd=>[.slice d.1 E.u.ar.length d.2]) (λw hw aA=>by
    have:=Z'.any (b:=b) aA ((iO.arr (K:=eT) (v:= .slice zS.1 E.cells.length zS.2) (l:=E.cells) has).at hw) (cS hw) ((iO.arr (K:=h7) (v:= .slice DG.1 E.known.length DG.2) (l:=E.known) has).at hw) ((iO.arr (K:=dk) (v:= .slice Ko.1 E.u.ar.length Ko.2) (l:=E.u.ar) has).at hw) J J J J ad akQ ao ao ao (λk _=>⟨(sL _).1,(sL _).2.1⟩) lK;rw[cB] at this
    exact this) λaai=> ?_
   refine iY (v:= .bool true) (λw hw=>Ka (Kd.any w ((iO.arr (K:=dk) (v:= .slice wK.1 E.u.ar.length wK.2) (l:=E.u.ar) has).at hw) ((iO.arr (K:=dk) (v:= .slice aai.1 E.u.ar.length aai.2) (l:=E.u.ar) has).at hw) ao) rfl) ?_;exact e3 rfl
 ·refine il (v:=λ_=> .tuple ⟨[.pointer none,I 1]⟩) (N:=λ(_:Unit)=>[]) (dq:=[]) (L':=λ_=>[]) [] (λ_=>[.pointer none,I 1]) (λw hw aA=>Q' (b:=b) aA (nX hw) (cS hw) (dL hw) (b0.BO hw) ao rfl ao ao mC) λ_=> ?_
  refine il (v:=λ_=> .tuple ⟨[.pointer none,I 1]⟩) (N:=λ(_:Unit)=>[]) (dq:=[]) (L':=λ_=>[]) [] (λ_=>[.pointer none,I 1]) (λw hw aA=>Q' (b:=b) aA (nX hw) (cS hw) (dL hw) (b0.BO hw) ao rfl ao ao mC) λ_=> ?_
  refine Bl J J ?_;refine mJ rfl ?_;refine iY Rn ?_;refine mJ rfl ?_;refine O9 J J ?_;refine mJ rfl ?_;refine O9 J J ?_;exact e3 rfl
end Z_
end AE
end
end
end Go.Proofs.YtepcfjbfkedlpaaGreatDoor
namespace Go.Proofs.YtepcfjbfkedlpaaGreatDoor
open Go Go.ChangeShapes Go.WideShapes Go.ChangeAt Go.RowKit
section
theorem akR (os:Os) (args:Array U):laidMetH Tryz.prog Rows.relightIsFullRow.laid ((World.laidAll Tryz.prog os Rows.relightIsFullRow.laid).forCall (λ_ _=>0) ⟨#[],args,[]⟩).memory:=by
 rw[MakeChecks.laidMetH_plain _ _ _ aw];exact laidMet_laidAll _ aw aw
theorem akS (os:Os) (Rp:os.Started) (H:Type) (enc:aH×U->H):
  ReturnsInHanded {} Tryz.checked os 4 .any (λw args=>(Rows.relightIsFullSpec.pre enc Tryz.prog Tryz.f4 [] false w args/\laidMetH Tryz.prog Rows.relightIsFullRow.laid w)/\sizedMet enc Tryz.prog Tryz.f4 (OpenSpec.ofChange Rows.relightIsFullSpec) false w args)
   (Rows.relightIsFullSpec.post enc Tryz.prog Tryz.f4 false true false false):=by
 refine returnsInHanded_of_change_and (C:=Tryz.checked) (X:=λw _=>laidMetH Tryz.prog Rows.relightIsFullRow.laid w) (λ_ _ _ ai h=>h.of_heap ai) own Rp aw Tryz.func4
  (ChangeSpec.witness_shaped (enc:=enc) (C:=Tryz.checked) (os:=os) (X:=λw _=>laidMetH Tryz.prog Rows.relightIsFullRow.laid w) false (World.laidAll Tryz.prog os Rows.relightIsFullRow.laid) #[AE.jW (0,0,0,0,0,0) (.slice none 0 0),.slice none 0 0,.slice none 0 0,.slice none 0 0] 8 (World.laidAll_os _ _ _)
    (World.shaped_of_ZipB aw aw) aw aw aw (akR os _)) ?_
 intro W base args ds al' before akT oz _ _ hL _;have hval:∀(j:Nat) t v,Tryz.f4.params[j]? =some t->args[j]? =some v->Value.okWide Tryz.prog W .any base t v:=akT;have Rq:=oz;obtain⟨p,q,akU,Ao,rfl,_,_⟩:=oz;have j3:DataW.TrodAll enc Tryz.prog W 0 (λ_=>true) true Tryz.f4.params.toList args.toList ds p:=akU;rw[Tryz.params4] at j3 hval;have aaj:=j3;obtain⟨v0,al_,hS,ama,yC,j2,gf,rfl,rfl,aJ,nX⟩:=trodAll_cons j3;obtain⟨v1,amb,jC,Cl,hi,q1,rfl,rfl,rfl,h1,cS⟩:=trodAll_cons nX;obtain⟨fi,V0,hT,Iu,gi,aE,rfl,rfl,rfl,ae,dL⟩:=trodAll_cons cS;obtain⟨v3,amc,nR,acK,q',b9,rfl,rfl,rfl,ay,fZ⟩:=trodAll_cons dL;obtain⟨rfl,rfl,rfl⟩:=trodAll_nil fZ;obtain rfl:args= #[v0,v1,fi,v3]:=by cases args;simp_all
 obtain⟨rfl,rfl⟩:=trodVars_none Ao;obtain⟨cX,a0,p9,dc,d',rfl,BQ,fO⟩:=ajU (hval 0 28 v0 J J) aJ;obtain⟨l1,vU⟩:=adZ (hval 1 29 v1 J J) h1;obtain⟨lq,sn⟩:=ajR (hval 2 30 fi J J) ae;obtain⟨Re,rb⟩:=ajS (hval 3 31 v3 J J) ay;simp only [List.append_nil,<-List.append_assoc] at Rq aaj;have b8:∀x∈yC++hi++gi++q',x.block<W.heap.size:=λx ak=>by simpa using Rq.lt x ak
 refine(AE.Z_.any W BQ cX vU sn rb (ad0 hL rfl) fO).mono λe W' ⟨he,ad⟩=> ?_
 subst he;exact⟨_,rfl,_,_,_,[],yC++hi++gi++q',[],Rq,trodAll_mk1 (shut_bool Tryz.underlying4 _),TV adU ad.below _ _ _ _ aw aaj b8,rfl,ad.below.frame _,λh=>by cases h⟩
theorem akV:Rows.RelightIsFullSaid:=
 OpenClaim.holds_of_wide 4 Tryz.f4 J J J J J J J ⟨rfl,rfl,rfl,rfl,rfl⟩ J J J J J aw Tryz.func4 aw
  (of_decide_eq_true aw) (by unfold Func.isWrapper;first|(rw[aN (by decide +kernel)];kernel_rfl)|(rw[aO (by decide +kernel)];exact⟨rfl,rfl⟩))
  (λos Rp H enc _=>akS os Rp H enc)
theorem relightIsFull_card:Rows.RelightIsFullCardSaid:=
 Claim7.holds_tied_plain_at .later [] [.widerDeep] true (true,"76b53b6cbe3988ab82f3b3be2b92116362608dbe962b522dee1f77561afb826f") false akV (λ_ h=>by cases h) aw (λ_ h=>by cases h) relightIsFull_row_tie rfl ⟨rfl,rfl⟩ aw rfl
  (λf fn aP l4=>by
    obtain rfl:f=4:=Option.some.inj ((show Tryz.prog.funcNamed "voxel/voxellaw34.RelightIsFull"=some 4 by kernel_rfl).symm.trans aP) |>.symm;obtain rfl:fn=Tryz.f4:=(Option.some.inj (Tryz.func4.symm.trans l4)).symm;exact⟨aw,λj t aI=>by
     rw[Tryz.params4] at aI;have hm:=Array.mem_of_getElem? aI;have kL:(Tryz.f4.params.toList.all λu=> !Tryz.prog.wantsStandIn u)=true:=by kernel_rfl
     rw[Tryz.params4] at kL;have hw:=List.all_eq_true.1 kL t (by simpa using hm)
     exact(show Tryz.prog.wantsStandIn t=false by simpa using hw)⟩)
  aw
#print axioms relightIsFull_card
end
end Go.Proofs.YtepcfjbfkedlpaaGreatDoor
