/- FACESMATCHSPEC: the card. No condition beyond the row. -/
import Derived.Test.YtmfckpdcljjdjaaDoorFm3
import Derived.Shelf.SlSortCmp.NoneTotal
import Derived.Test.YtmfckpdcljjdjaaDoorProg
import Derived.Test.YtmfckpdcljjdjaaDoorRows
import Derived.ProofKit
import Derived.Lay
import Derived.SevenTiedAt
import Derived.Carry
import Derived.Lib.SmallJoins
import Derived.Deep.Slices
import Derived.LaidSub
import Derived.Shelf.Spec.SlicesGrow
import Derived.Test.YtmfckpdcljjdjaaDoorTie
import Derived.Test.YtmfckpdcljjdjaaDoorCards
set_option maxRecDepth 100000
set_option maxHeartbeats 4000000
noncomputable section
namespace Go.Proofs.YtmfckpdcljjdjaaDoor
open Go Go.Proofs Go.RowKit
section
noncomputable section
namespace AE
theorem p_ (s:Nat):(2:Int)^s=((2^s:Nat):Int):=by rw[Int.natCast_pow];rfl
theorem Gx {s:Nat} (h:s<=14):2^s<=16384:=Nat.pow_le_pow_right (n:=2) (j:=14) cG h
theorem L9 (s:Nat):0<2^s:=Nat.pow_pos cG
theorem ss (s:Nat):0<8^s:=Nat.pow_pos cG
theorem su {s:Nat} (h:s<=14):8^s<=4398046511104:=Nat.pow_le_pow_right (n:=8) (j:=14) cG h
def eQ (t:bw):Prop:=0<=t.1/\t.1<=12
theorem wj {t:bw} (h:eQ t):t.1=((b3 t:Nat):Int)-2/\2<=b3 t/\b3 t<=14:=by
 unfold eQ at h;unfold b3;omega
theorem o8 {t:bw} (h:eQ t):4<=cp t/\cp t<=16384:=by
 obtain⟨_,h1,ad⟩:=wj h;have:=Gx ad;have bb:2^2<=2^b3 t:=Nat.pow_le_pow_right cG h1;unfold cp;omega
theorem L_ {t:bw} (_:eQ t):(4:Int)*2^t.1.toNat=cp t:=by
 unfold cp b3;rw[Nat.pow_add,p_];omega
namespace Ma
def t:aN:=
.o (.bin .shl 3 (n6 4) 0) 1 1 []<|
.ret 1
theorem bq:cL Tryd.prog 68 {} [0] 1=some t:=cT a6
theorem any {W:aj} {t0:bw} (h:eQ t0):c_ bf 68 [n6 t0.1] W (n6 (cp t0)):=by
 have U:=o8 h;have hl:=h;unfold eQ at hl;refine dc (ro:=[]) mixed bq [n6 t0.1] (.nil _) ?_;unfold t;refine o4 (a:=4) (s:=t0.1.toNat) (L_ h) rfl (by rw[Int.toNat_of_nonneg hl.1];rfl) ?_;exact bg rfl
end Ma
theorem Bu {n:Int} (h:0<=n/\n<=16384):okB (fp n):=by
 unfold okB;dsimp only;omega
theorem jt {p:bA} (h:dK p):e0 p:=by
 unfold dK at h;unfold e0;omega
theorem Mb (t:bw):Bm (fp (cp t)) t.2=bG t:=by
 unfold bG Bm;simp only [Int.zero_add];rw[Int.add_comm (cp t) t.2.1,Int.add_comm (cp t) t.2.2.1,Int.add_comm (cp t) t.2.2.2]
namespace Bv
def t:aN:=
.c 68 [0] 4 1<|
.c 67 [4] (.agg ⟨[5,6,7,8,9,10]⟩) 6<|
.c 66 [.agg ⟨[5,6,7,8,9,10]⟩,.agg ⟨[1,2,3]⟩] (.agg ⟨[11,12,13,14,15,16]⟩) 6<|
.ret (.agg ⟨[11,12,13,14,15,16]⟩)
theorem bq:cL Tryd.prog 24 {} [.agg ⟨[0,1,2,3]⟩] 4=some t:=cT a6
theorem any {W:aj} {t0:bw} (h:eQ t0) (hp:e0 t0.2):c_ bf 24 [T.val t0] W (X.val (bG t0)):=by
 have U:=o8 h;refine dc (ro:=[]) mixed bq [n6 t0.1,n6 t0.2.1,n6 t0.2.2.1,n6 t0.2.2.2] (.nil _) ?_;unfold t;refine dm (v:=n6 (cp t0)) (λw _=>Ma.any h) ?_;refine cI (im (fp (cp t0))) (λw _=>Bn.any) rfl ?_;refine cI (im (bG t0)) (λw _=>by
  have:=LN.any (W:=w) (b:=fp (cp t0)) (p:=t0.2) (Bu af) hp;rw[Mb] at this
  exact this) rfl ?_
 exact bg rfl
end Bv
namespace Bw
def t:aN:=
.o (.bin .add 3 0 (n6 2)) 4 1 []<|
.o (.bin .mul 3 (n6 3) 4) 5 1 []<|
.o (.bin .shl 3 (n6 1) 5) 6 1 []<|
.ret 6
theorem bq:cL Tryd.prog 54 {} [.agg ⟨[0,1,2,3]⟩] 4=some t:=cT a6
theorem any {W:aj} {t0:bw} (h:eQ t0):c_ bf 54 [T.val t0] W (n6 ((8^b3 t0:Nat):Int)):=by
 obtain⟨e,h1,ad⟩:=wj h;have U:=su ad;have v8:=ss (b3 t0);have hl:=h;unfold eQ at hl;refine dc (ro:=[]) mixed bq [n6 t0.1,n6 t0.2.1,n6 t0.2.2.1,n6 t0.2.2.2] (.nil _) ?_;unfold t;refine aZ ?_;refine o4 (a:=1) (s:=3*b3 t0) (v:=((8^b3 t0:Nat):Int)) (by rw[<-p9,p_];omega) rfl (by
  show n6 (3*(t0.1+2))=n6 _;rw[e]
  exact congrArg n6 af) ?_
 exact bg rfl
end Bw
def ju (l:List bw):Nat->Nat
 |0=>0
 |i+1=>ju l i+8^b3 (l.getD i default)
def rb (d:Int) (l:List bw):Int:=if d<2\/14<d then 13 else if 4096<l.length then 2 else if gh d.toNat l 0 then 0 else 1
theorem sv {p:bA} {c:Nat}:cD p=(c:Nat)↔dK p/\e3 p=c:=by
 unfold cD;by_cases h:dK p
 ·rw[aR h]
  constructor
  ·intro e;exact⟨h,af⟩
  ·intro e;rw[e.2]
 ·rw[aW h]
  constructor
  ·intro e;omega
  ·intro e;exact absurd e.1 h
theorem ua {α:Type} [Inhabited α] {l:List α} {i:Nat} (h:i<l.length):l.drop i=l.getD i default::l.drop (i+1):=by
 rw[List.drop_eq_getElem_cons h,de,fc h];rfl
theorem Mc (d c:Nat):gh d [] c↔c=8^d:=Iff.rfl
theorem Gy (d c:Nat) (t:bw) (r:List bw):gh d (t::r) c↔((0<=t.1/\t.1+2<=d)/\(dK t.2/\e3 t.2=c)/\c%8^b3 t=0/\gh d r (c+8^b3 t)):=Iff.rfl
namespace Gz
def t:aN:=
.o (.bin .lss 3 0 (n6 2)) 2 1 []<|
.a1 2 (
 .ret (n6 13)) (
 .o (.bin .gtr 3 0 (n6 14)) 3 1 []<|
 .a1 3 (
  .ret (n6 13)) (
  .o (.len #[22] 3 1) 4 1 [0,44]<|
  .o (.bin .gtr 3 4 (n6 4096)) 5 1 []<|
  .a1 5 (
   .ret (n6 2)) (
   .o (.len #[22] 3 1) 6 1 [0,44]<|
   .loop [n6 0,n6 0,n6 0] 3<|
   .o (.bin .lss 3 8 6) 10 1 []<|
   .a1 10 (
    .o (.ca 22 1 8) 11 1 [0,44,4]<|
    .o (.ld 44 11) (.agg ⟨dt 4 12⟩) 4 [4]<|
    .o (.bin .lss 3 12 (n6 0)) 16 1 []<|
    .a1 16 (
     .cu<|
     .ret (n6 1)) (
     .o (.bin .sub 3 0 (n6 2)) 17 1 []<|
     .o (.bin .gtr 3 12 17) 18 1 []<|
     .a1 18 (
      .cu<|
      .ret (n6 1)) (
      .c 53 [.agg ⟨[13,14,15]⟩] 19 1<|
      .o (.bin .neq 3 19 7) 20 1 []<|
      .a1 20 (
       .cu<|
       .ret (n6 1)) (
       .c 54 [.agg ⟨[12,13,14,15]⟩] 21 1<|
       .o (.bin .sub 3 21 (n6 1)) 22 1 []<|
       .o (.bin .and 3 7 22) 23 1 []<|
       .o (.bin .neq 3 23 (n6 0)) 24 1 []<|
       .a1 24 (
        .cu<|
        .ret (n6 1)) (
        .c 54 [.agg ⟨[12,13,14,15]⟩] 25 1<|
        .o (.bin .add 3 7 25) 26 1 []<|
        .o (.bin .add 3 8 (n6 1)) 27 1 []<|
        .back [26,27,9]))))) (
    .cu<|
    .o (.bin .mul 3 (n6 3) 0) 11 1 []<|
    .o (.bin .shl 3 (n6 1) 11) 12 1 []<|
    .o (.bin .neq 3 7 12) 13 1 []<|
    .a1 13 (
     .ret (n6 1)) (
     .ret (n6 0))))))
theorem bq:cL Tryd.prog 15 {} [0,1] 2=some t:=cT a6
theorem any {W:aj} {a:ht} {n c:Nat} {l:List bw} (d:Int) (hl:bH (aS W) 4 ef (.slice a n c) l) (ah:n=l.length) (U:l.length<=10000):c_ bf 15 [n6 d,.slice a n c] W (n6 (rb d l)):=by
 subst ah;refine dc (ro:=[⟨br,.slice a l.length c,l⟩]) mixed bq [n6 d,.slice a l.length c] (.cons hl (.nil _)) ?_;unfold t;unfold rb;refine aZ ?_;refine bD rfl (λh=>bg (by rw[aR (.inl h)];rfl)) λh0=> ?_
 refine aZ ?_;refine bD rfl (λh=>bg (by rw[aR (.inr h)];rfl)) λh1=> ?_
 rw[aW af];refine aZ ?_;refine bD rfl (λh=>bg (by rw[aR af];rfl)) λad=> ?_
 rw[aW af];have aH:((d.toNat:Nat):Int)=d:=Int.toNat_of_nonneg af;obtain⟨fb,ky⟩:∃fb,fb=d.toNat:=⟨_,rfl⟩;rw[<-ky] at aH ⊢;refine aZ ?_;refine gJ Nat (λi=>[n6 ((ju l i:Nat):Int),n6 (i:Nat),n6 0]) (λ_=>[]) (λi=>i<=l.length/\(gh fb l 0↔gh fb (l.drop i) (ju l i))/\ju l i<=i*4398046511104) (λi=>l.length-i) 0 ae ae ⟨Nat.zero_le _,Iff.rfl,bM _⟩ (λi J=> ?_);obtain⟨J,bc,bV⟩:=J;have XT:i*4398046511104<=10000*4398046511104:=Nat.mul_le_mul_right _ af;refine aZ ?_;refine bD rfl (λaM=> ?_) λaM=> ?_
 ·have aM:i<l.length:=by omega
  obtain⟨t0,o9⟩:∃t0,t0=l.getD i default:=⟨_,rfl⟩;rw[ua aM,<-o9,Gy] at bc;have no:¬((0<=t0.1/\t0.1+2<=(fb:Int))/\(dK t0.2/\e3 t0.2=ju l i)/\ju l i%8^b3 t0=0)->n6 1=n6 (if gh fb l 0 then 0 else 1):=λh=>by rw[aW λq=>h (by have:=bc.1 q;exact⟨this.1,this.2.1,this.2.2.1⟩)]
  refine ea (K:=br) (l:=l) (j:=i) ae ae ?_;refine fI (K:=br) (l:=l) (j:=i) (o:=0) (c:=ef t0) rfl (by rw[o9];rfl) rfl ew ?_;refine aZ ?_;refine bD rfl (λh=>dY (bg (no λq=>by omega))) λl1=> ?_
  refine aZ ?_;refine bD rfl (λh=>dY (bg (no λq=>by omega))) λl2=> ?_
  have cU:eQ t0:=by unfold eQ;omega
  obtain⟨e1,e2,fg⟩:=wj cU;have kk:=su fg;have yE:=ss (b3 t0);refine dm (v:=n6 (cD t0.2)) (λw _=>yD.any t0.2) ?_;refine aZ ?_;refine bD rfl (λh=>dY (bg (no λq=>h (sv.2 q.2.1)))) λBx=> ?_
  have Bx:=sv.1 (Decidable.not_not.1 Bx);refine dm (v:=n6 ((8^b3 t0:Nat):Int)) (λw _=>Bw.any cU) ?_;refine sj ae ae ?_;refine Be (3*b3 t0) (a:=((ju l i:Nat):Int)) (v:=((ju l i%8^b3 t0:Nat):Int)) (by rw[p_,p9];rfl) (b:=((8^b3 t0:Nat):Int)-1) (by rw[p_,p9]) ae ae ?_;refine F7 ae ae ?_;refine bD rfl (λh=>dY (bg (no λq=>h (by rw[q.2.2];rfl)))) λMd=> ?_
  have Md:ju l i%8^b3 t0=0:=by omega
  refine dm (v:=n6 ((8^b3 t0:Nat):Int)) (λw _=>Bw.any cU) ?_;refine aZ ?_;have en:ju l (i+1)=ju l i+8^b3 t0:=by rw[o9];rfl
  refine dN (i+1) (by rw[en];rfl) rfl ⟨aM,?_,?_⟩ af
  ·rw[bc,en]
   exact⟨λq=>q.2.2.2,λq=>⟨⟨af,af⟩,Bx,Md,q⟩⟩
  ·rw[en,Nat.add_mul]
   omega
 ·have yF:fb<=14:=by omega
  have kk:=su yF;have c3:l.drop i=[]:=List.drop_eq_nil_of_le af;rw[c3,Mc] at bc;have yE:=ss fb;refine dY ?_;refine aZ ?_;refine o4 (a:=1) (s:=3*fb) (v:=((8^fb:Nat):Int)) (by rw[<-p9,p_];omega) rfl (by
   show n6 (3*d)=n6 _
   exact congrArg n6 af) ?_
  refine aZ ?_;refine bD rfl (λh=>bg (by rw[aW λq=>h (by rw[bc.1 q])];rfl)) λh=>bg (by rw[aR (bc.2 af)];rfl)
end Gz
def g_ (t:bw) (n:Nat):List bw:=(List.range n).map λk=>(t.1,ra (e3 t.2+k*8^b3 t))
theorem sw (t:bw) (n:Nat):(g_ t n).length=n:=by unfold g_;rw[List.length_map,List.length_range]
theorem Uz (t:bw) (n:Nat):g_ t (n+1)=g_ t n++[(t.1,ra (e3 t.2+n*8^b3 t))]:=by unfold g_;rw[List.range_succ,List.map_append];rfl
namespace wk
def t:aN:=
.c 53 [.agg ⟨[1,2,3]⟩] 5 1<|
.loop [.slice none 0 0,n6 0] 2<|
.o (.bin .lss 3 7 4) 8 1 []<|
.a1 8 (
 .c 54 [.agg ⟨[0,1,2,3]⟩] 9 1<|
 .o (.bin .mul 3 7 9) 10 1 []<|
 .o (.bin .add 3 5 10) 11 1 []<|
 .c 85 [11] (.tuple ⟨[.agg ⟨[12,13,14]⟩,15]⟩) 4<|
 .ic 22 6 [0,12,13,14]<|
 .o (.bin .add 3 7 (n6 1)) 17 1 []<|
 .back [16,17]) (
 .cu<|
 .ret 6)
theorem bq:cL Tryd.prog 55 {} [.agg ⟨[0,1,2,3]⟩,4] 5=some t:=cT a6
theorem any {W:aj} {t0:bw} {n:Nat} (bV:dg (aS W) (bW ([]:List (aI bf)))) (h:eQ t0) (hp:dK t0.2) (ao:e3 t0.2+n*8^b3 t0<=4398046511104) (ah:n<=100000):
  jS bf 55 [T.val t0,n6 (n:Nat)] W [] dT (λy=> .slice y.1 n y.2) λy=>[aI.arr br (.slice y.1 n y.2) (g_ t0 n)]:=by
 obtain⟨e1,e2,fg⟩:=wj h;have yE:=ss (b3 t0);refine wb br (λbV=> ?_) bV;refine q9 (ro:=[]) mixed bq [n6 t0.1,n6 t0.2.1,n6 t0.2.2.1,n6 t0.2.2.2,n6 (n:Nat)] bV fi.none ?_;unfold t;refine dm (v:=n6 (cD t0.2)) (λw _=>yD.any t0.2) ?_;rw[show cD t0.2=((e3 t0.2:Nat):Int) from sv.2 ⟨hp,rfl⟩];refine gJ (dT×Nat) (λu=>[.slice u.1.1 u.2 u.1.2,n6 (u.2:Nat)]) (λu=>[aI.arr br (.slice u.1.1 u.2 u.1.2) (g_ t0 u.2)]) (λu=>u.2<=n) (λu=>n-u.2) ((none,0),0) ae ae (Nat.zero_le _) (λu hu=> ?_);obtain⟨⟨a,c⟩,k⟩:=u;refine aZ ?_;refine bD rfl (λaM=> ?_) λaM=> ?_
 ·have aM:k<n:=by omega
  have hk:(k+1)*8^b3 t0<=n*8^b3 t0:=Nat.mul_le_mul_right _ aM;rw[Nat.add_mul,Nat.one_mul] at hk;refine dm (v:=n6 ((8^b3 t0:Nat):Int)) (λw _=>Bw.any h) ?_;refine kD (a:=(k:Nat)) (b:=((8^b3 t0:Nat):Int)) ae ae ?_ (by rw[<-Int.natCast_mul];omega) (by rw[<-Int.natCast_mul];omega);rw[<-Int.natCast_mul];refine kC ae ae ?_;refine cI (b_ (ra (e3 t0.2+k*8^b3 t0))++[.bool true]) (λw _=>L8.any (c:=e3 t0.2+k*8^b3 t0) af) rfl ?_;refine ma (K:=br) (d:=0) (l:=g_ t0 k) (v:= .slice a k c) (L':=λa c=>[aI.arr br (.slice a (g_ t0 k++[(t0.1,ra (e3 t0.2+k*8^b3 t0))]).length c) (g_ t0 k++[(t0.1,ra (e3 t0.2+k*8^b3 t0))])]) [(t0.1,ra (e3 t0.2+k*8^b3 t0))] rfl (λa c=> .z) rfl (λa2 c2=> ?_) (lA (by rw[sw];show k+1<=_;omega)) (by rw[sw];show (k+1)*32<=_;omega);rw[<-Uz,sw];refine aZ ?_;exact dN ((a2,c2),k+1) ae ae aM (by show n-(k+1)<n-k;omega)
 ·obtain rfl:k=n:=by have:k<=n:=hu;omega
  refine dY (bg ⟨(a,c),rfl,rfl⟩)
end wk
def ub (d cu:Int):List bw×Int:=if d<2\/14<d then ([],13) else if cu<0\/d-2<cu then ([],1) else if 4096<8^(d-2-cu).toNat then ([],2) else (g_ (cu,0,0,0) (8^(d-2-cu).toNat),0)
namespace GC
def t:aN:=
.o (.bin .lss 3 0 (n6 2)) 2 1 []<|
.a1 2 (
 .ret (.tuple ⟨[.slice none 0 0,n6 13]⟩)) (
 .o (.bin .gtr 3 0 (n6 14)) 3 1 []<|
 .a1 3 (
  .ret (.tuple ⟨[.slice none 0 0,n6 13]⟩)) (
  .o (.bin .lss 3 1 (n6 0)) 4 1 []<|
  .a1 4 (
   .ret (.tuple ⟨[.slice none 0 0,n6 1]⟩)) (
   .o (.bin .sub 3 0 (n6 2)) 5 1 []<|
   .o (.bin .gtr 3 1 5) 6 1 []<|
   .a1 6 (
    .ret (.tuple ⟨[.slice none 0 0,n6 1]⟩)) (
    .o (.bin .sub 3 0 (n6 2)) 7 1 []<|
    .o (.bin .sub 3 7 1) 8 1 []<|
    .o (.bin .mul 3 (n6 3) 8) 9 1 []<|
    .o (.bin .shl 3 (n6 1) 9) 10 1 []<|
    .o (.bin .gtr 3 10 (n6 4096)) 11 1 []<|
    .a1 11 (
     .ret (.tuple ⟨[.slice none 0 0,n6 2]⟩)) (
     .call 55 [.agg ⟨[1,n6 0,n6 0,n6 0]⟩,10] 12 1<|
     .ret (.tuple ⟨[12,n6 0]⟩))))))
theorem bq:cL Tryd.prog 16 {n0:=[55]} [0,1] 2=some t:=cT a6
theorem any {W:aj} (d cu:Int) (bV:dg (aS W) (bW ([]:List (aI bf)))):
  jS bf 16 [n6 d,n6 cu] W [] dT (λy=> .tuple ⟨[.slice y.1 (ub d cu).1.length y.2,n6 (ub d cu).2]⟩) λy=>[aI.arr br (.slice y.1 (ub d cu).1.length y.2) (ub d cu).1]:=by
 refine wb br (λbV=> ?_) bV;refine q9 (ro:=[]) mixed bq [n6 d,n6 cu] bV fi.none ?_;unfold t;unfold ub;refine aZ ?_;refine bD rfl (λh=>bg (by rw[aR (.inl h)];exact⟨(none,0),rfl,rfl⟩)) λh0=> ?_
 refine aZ ?_;refine bD rfl (λh=>bg (by rw[aR (.inr h)];exact⟨(none,0),rfl,rfl⟩)) λh1=> ?_
 rw[aW (show ¬(d<2\/14<d) by omega)];refine aZ ?_;refine bD rfl (λh=>bg (by rw[aR (.inl h)];exact⟨(none,0),rfl,rfl⟩)) λad=> ?_
 refine aZ ?_;refine bD rfl (λh=>bg (by rw[aR (.inr h)];exact⟨(none,0),rfl,rfl⟩)) λal=> ?_
 rw[aW (show ¬(cu<0\/d-2<cu) by omega)];obtain⟨e,he⟩:∃e,e=(d-2-cu).toNat:=⟨_,rfl⟩;rw[<-he];have mU:d-2-cu=(e:Nat):=by omega
 have kk:=su (s:=e) af;have yE:=ss e;refine aZ ?_;refine o4 (a:=1) (s:=3*e) (v:=((8^e:Nat):Int)) (by rw[<-p9,p_];omega) rfl (by
  show n6 (3*(d-2-cu))=n6 _
  exact congrArg n6 af) ?_
 refine aZ ?_;refine bD rfl (λh=>bg (by rw[aR af];exact⟨(none,0),rfl,rfl⟩)) λbb=> ?_
 rw[aW (show ¬4096<8^e by omega)];have cU:eQ (cu,0,0,0):=by unfold eQ;dsimp only;omega
 have hl:b3 (cu,0,0,0)+e<=14:=by unfold b3;dsimp only;omega
 have UA:=su hl;rw[Nat.pow_add,Nat.mul_comm] at UA;have c3:e3 ((cu,0,0,0):bw).2=0:=yC 14;refine jB (R:=λy:dT=>aI.arr br (.slice y.1 (8^e) y.2) (g_ (cu,0,0,0) (8^e))) (v:=λy=> .slice y.1 (8^e) y.2) (λy=>[.slice y.1 (8^e) y.2]) (λw _ bV=>wk.any (t0:=(cu,0,0,0)) (n:=8^e) bV cU (show dK (0,0,0) by decide) (by rw[c3];omega) af) λy=> ?_
 refine sm (L':=[aI.arr br (.slice y.1 (8^e) y.2) (g_ (cu,0,0,0) (8^e))]) (λM aV=>by exact aV.pick [1] rfl) ⟨y,?_,?_⟩
 ·rw[sw];rfl
 ·rw[sw]
end GC
end AE
end
end
namespace AE
variable {P:aC} {B:Nat} {W:aj} {ak:List cr} {ro:List (eB P)} {post:I->List (aI P)->Prop}
section
variable {n q:Nat} {aq:List Nat} {env:List I} {L:List (aI P)} {ay:List (df P)} {k bK b0:aN} {t:az} {x y i:I}
theorem mb {op:BinOp} {kd:IntKind} {a b:Int} {p:Prop} [Decidable p] (ct:Aj op=true) (aw:xQ op kd a b= .bool (decide p)) (ag:ex env n x= .int kd a) (aT:ex env n y= .int kd b) (h1:p->X B W ak ro post n env L ay bK) (ad:¬p->X B W ak ro post n env L ay b0) (cw:aF x=true:=by rfl) (eC:aF y=true:=by rfl):X B W ak ro post n env L ay (.s (.bin op t x y) aq bK b0):=⟨λah ax=>
 .s (decide p) (λM _ _=> @bE.bi (bC M env) P op t x y _ kd a b cw eC rfl ct ((gR M ax ah x).trans ag) ((gR M ax ah y).trans aT) aw.symm) (λh=>h1 (of_decide_eq_true h) ah ax) (λh=>ad (of_decide_eq_false h) ah ax)⟩
theorem Me {s d:az} {k0 k':IntKind} {m:Int} (ag:ex (.int k' m::env) (q+1) x= .int k0 m) (h:X B W ak ro post (q+1) (.int k' m::env) L ay k) (hw:k'.wrap m=m) (hs:(P.underlying s).isSome=true:=by kernel_rfl) (aH:P.underlying d=some (.int (P.intKind d)):=by kernel_rfl) (hk:P.intKind d=k':=by kernel_rfl) (cw:aF x=true:=by rfl) (av:Nat.blt q cP=true:=by rfl) (aA:n=q:=by rfl):X B W ak ro post n env L ay (.o (.conv s d x) (bP q) 1 aq k):=
 gO _ (λM _ _ J ig=> @bE.Ra (bC M (_::env)) P s d x (bP q) k0 k' m cw rfl hs aH hk hw ((J x).trans ag) ig) h rfl av aA
theorem UB {kd n':IntKind} {a v:Int} {s:Nat} (aw:a/2^s=v) (ag:ex (.int kd v::env) (q+1) x= .int kd a) (aT:ex (.int kd v::env) (q+1) y= .int n' (s:Nat)) (h:X B W ak ro post (q+1) (.int kd v::env) L ay k) (hs:s<=kd.bits:=by decide) (cw:aF x=true:=by rfl) (eC:aF y=true:=by rfl) (av:Nat.blt q cP=true:=by rfl) (aA:n=q:=by rfl):X B W ak ro post n env L ay (.o (.bin .shr t x y) (bP q) 1 aq k):=
 gO _ (λM _ _ J ig=> @bE.shr P (bC M (_::env)) t x y (bP q) kd n' a v s aw hs cw eC rfl ((J x).trans ag) ((J y).trans aT) ig) h rfl av aA
theorem By {a:Option Addr} {m c j e aG:Nat} (ag:ex (.slice a j c::env) (q+1) x= .slice a m c) (J:ex (.slice a j c::env) (q+1) i= .int .i64 (j:Nat)) (h:X B W ak ro post (q+1) (.slice a j c::env) L ay k) (hj:j<=c) (aE:P.underlying t=some (.slice e):=by kernel_rfl) (bt:aP P (sizeOf e)=some aG:=by kernel_rfl) (cw:aF x=true:=by rfl) (pi:aF i=true:=by rfl) (av:Nat.blt q cP=true:=by rfl) (aA:n=q:=by rfl):
  X B W ak ro post n env L ay (.o (.h_ t x none (some i) none) (bP q) 1 [0,e,aG] k):=
 gO _ (λM _ _ fZ hs=> @bE.JS (bC M (_::env)) P t e aG x i (bP q) a m c j cw pi rfl aE bt ((fZ x).trans ag) ((fZ i).trans J) hj hs) h rfl av aA
end
end AE
section
noncomputable section
namespace AE
def h4 (m:Int):List bw->Nat
 |[]=>0
 |t::r=>if cD t.2<m then h4 m r+1 else 0
theorem Bz {m:Int}:∀{l:List bw} {i:Nat},i<=l.length->(∀x,x<i->cD (l.getD x default).2<m)->(i<l.length->m<=cD (l.getD i default).2)->h4 m l=i
 |[],i,h,_,_=>by have:i=0:=by simpa using h
                 rw[this];rfl
 |t::r,0,_,_,ad=>by
  unfold h4;exact aW (by have:=ad (by simp);have e:((t::r).getD 0 default).2=t.2:=rfl;rw[e] at this;omega)
 |t::r,i+1,h,h1,ad=>by
  unfold h4;have h0:cD t.2<m:=h1 0 af;rw[aR h0,Bz (i:=i) (by simpa using h) (λx ag=>h1 (x+1) af) (λJ=>ad (by simpa using J))]
def Mf (l:List bw):Prop:=∀i k,i<k->k<l.length->cD (l.getD i default).2<cD (l.getD k default).2
namespace wm
def t:aN:=
.c 81 [0] 2 1<|
.c 81 [1] 3 1<|
.a1 2 (
 .a1 3 (
  .ret (n6 0)) (
  .ret (n6 (-1)))) (
 .a1 3 (
  .ret (n6 1)) (
  .o (.bin .lss 3 0 1) 4 1 []<|
  .a1 4 (
   .ret (n6 (-1))) (
   .o (.bin .gtr 3 0 1) 5 1 []<|
   .a1 5 (
    .ret (n6 1)) (
    .ret (n6 0)))))
theorem bq:cL Tryd.prog 49 {} [0,1] 2=some t:=cT a6
theorem any {W:aj} (a b:Int):c_ bf 49 [n6 a,n6 b] W (n6 (if a<b then -1 else if b<a then 1 else 0)):=by
 have Mg:∀(w:aj) (x:Int),c_ bf 81 [n6 x] w (.bool false):=λw x=>by
  have UC:cL Tryd.prog 81 {} [0] 1=some (.o (.bin .neq 3 0 0) 1 1 []<| .ret 1):=cT a6;refine dc (ro:=[]) mixed UC [n6 x] (.nil _) ?_;refine F7 ae ae ?_;exact bg (congrArg Value.bool (kJ λh=>h rfl))
 refine dc (ro:=[]) mixed bq [n6 a,n6 b] (.nil _) ?_;unfold t;refine dm (v:= .bool false) (λw _=>Mg w a) ?_;refine dm (v:= .bool false) (λw _=>Mg w b) ?_;refine yq rfl ?_;refine yq rfl ?_;refine aZ ?_;refine bD rfl (λh=>bg ?_) λh=> ?_
 ·rw[aR h];rfl
 refine aZ ?_;refine bD rfl (λad=>bg ?_) λad=>bg ?_
 ·rw[aW h,aR ad];rfl
 ·rw[aW h,aW ad];rfl
end wm
namespace GD
def t:aN:=
.c 53 [.agg ⟨[1,2,3]⟩] 5 1<|
.c 49 [5,4] 6 1<|
.ret 6
theorem bq:cL Tryd.prog 63 {} [.agg ⟨[0,1,2,3]⟩,4] 5=some t:=cT a6
theorem any {W:aj} (x:bw) (m:Int):c_ bf 63 [T.val x,n6 m] W (n6 (if cD x.2<m then -1 else if m<cD x.2 then 1 else 0)):=by
 refine dc (ro:=[]) mixed bq [n6 x.1,n6 x.2.1,n6 x.2.2.1,n6 x.2.2.2,n6 m] (.nil _) ?_;unfold t;refine dm (v:=n6 (cD x.2)) (λw _=>yD.any x.2) ?_;refine dm (v:=n6 (if cD x.2<m then -1 else if m<cD x.2 then 1 else 0)) (λw _=>wm.any _ _) ?_;exact bg rfl
end GD
theorem UD {i j:Nat} (h:i<j):i<=(i+j)/2/\(i+j)/2<j:=by omega
theorem UE {n:Int} (h0:0<=n) (h1:n<=9223372036854775807):IntKind.u64.wrap n=n:=by
 have:IntKind.u64.wrap n=n%18446744073709551616:=rfl;rw[this];omega
namespace Mh
def t:aN:=
.o (.len #[22] 3 0) 2 1 [0,44]<|
.loop [n6 0,2] 2<|
.o (.bin .lss 3 3 4) 5 1 []<|
.a1 5 (
 .o (.bin .add 3 3 4) 6 1 []<|
 .o (.conv 3 104 6) 7 1 []<|
 .o (.bin .shr 104 7 (.int .u64 1)) 8 1 []<|
 .o (.conv 104 3 8) 9 1 []<|
 .o (.ca 22 0 9) 10 1 [0,44,4]<|
 .o (.ld 44 10) (.agg ⟨dt 4 11⟩) 4 [4]<|
 .c 63 [.agg ⟨[11,12,13,14]⟩,1] 15 1<|
 .o (.bin .lss 3 15 (n6 0)) 16 1 []<|
 .a1 16 (
  .o (.bin .add 3 9 (n6 1)) 17 1 []<|
  .back [17,4]) (
  .back [3,9])) (
 .cu<|
 .o (.bin .lss 3 3 2) 6 1 []<|
 .a1 6 (
  .o (.ca 22 0 3) 7 1 [0,44,4]<|
  .o (.ld 44 7) (.agg ⟨dt 4 8⟩) 4 [4]<|
  .c 63 [.agg ⟨[8,9,10,11]⟩,1] 12 1<|
  .o (.bin .eql 3 12 (n6 0)) 13 1 []<|
  .ret (.tuple ⟨[3,13]⟩)) (
  .ret (.tuple ⟨[3,.bool false]⟩)))
theorem bq:cL Tryd.prog 62 {} [0,1,.func (.func 63) ⟨[]⟩ ⟨[]⟩] 2=some t:=cT a6
theorem any {W:aj} {a:ht} {n c:Nat} {l:List bw} (m:Int) (hl:bH (aS W) 4 ef (.slice a n c) l) (ah:n=l.length) (U:l.length<=10000) (bc:Mf l):c_ bf 62 [.slice a n c,n6 m,.func (.func 63) ⟨[]⟩ ⟨[]⟩] W (.tuple ⟨[n6 (h4 m l:Nat),.bool (decide (h4 m l<l.length/\cD (l.getD (h4 m l) default).2=m))]⟩):=by
 subst ah;refine dc (ro:=[⟨br,.slice a l.length c,l⟩]) mixed bq [.slice a l.length c,n6 m] (.cons hl (.nil _)) ?_;unfold t;refine aZ ?_;refine gJ (Nat×Nat) (λu=>[n6 (u.1:Nat),n6 (u.2:Nat)]) (λ_=>[]) (λu=>u.1<=u.2/\u.2<=l.length/\(∀x,x<u.1->cD (l.getD x default).2<m)/\(∀x,u.2<=x->x<l.length->m<=cD (l.getD x default).2)) (λu=>u.2-u.1) (0,l.length) ae ae ⟨Nat.zero_le _,bM _,λx ag=>absurd ag (Nat.not_lt_zero x),λx h1 ad=>by dsimp only at h1;omega⟩ (λu hu=> ?_);obtain⟨i,j⟩:=u;obtain⟨h1,ad,al,bb⟩:=hu;dsimp only at h1 ad al bb;refine aZ ?_;refine bD rfl (λaM=> ?_) λaM=> ?_
 ·have aM:i<j:=by omega
  obtain⟨g1,g2⟩:=UD aM;obtain⟨g,av⟩:∃g,g=(i+j)/2:=⟨_,rfl⟩;rw[<-av] at g1 g2;refine kC (a:=(i:Nat)) (b:=(j:Nat)) ae ae ?_;refine Me (k0:= .i64) (k':= .u64) (m:=(i:Int)+j) rfl ?_ (UE af af);refine UB (kd:= .u64) (a:=(i:Int)+j) (v:=((g:Nat):Int)) (s:=1) af ae ae ?_;refine Me (k0:= .u64) (k':= .i64) (m:=((g:Nat):Int)) rfl ?_ (wrap64 af af);refine ea (K:=br) (l:=l) (j:=g) ae ae ?_;refine fI (K:=br) (l:=l) (j:=g) (o:=0) (c:=ef (l.getD g default)) ae ae ae ew ?_;refine dm (v:=n6 (if cD (l.getD g default).2<m then -1 else if m<cD (l.getD g default).2 then 1 else 0)) (λw _=>GD.any (l.getD g default) m) ?_;refine aZ ?_;refine bD rfl (λao=> ?_) λao=> ?_
  ·have ao:cD (l.getD g default).2<m:=by
    split at ao
    ·assumption
    ·split at ao<;>omega
   refine aZ ?_;refine dN (g+1,j) ae ae ⟨by dsimp only;omega,ad,λx ag=> ?_,bb⟩ (by dsimp only;omega);dsimp only at ag;rcases Nat.lt_or_ge x g with b5|b5
   ·exact Int.lt_trans (bc x g b5 af) ao
   ·rw[show x=g by omega];exact ao
  ·have ao:m<=cD (l.getD g default).2:=by
    split at ao
    ·omega
    ·omega
   refine dN (i,g) ae ae ⟨by dsimp only;omega,by dsimp only;omega,al,λx ag fW=> ?_⟩ (by dsimp only;omega);dsimp only at ag;rcases Nat.lt_or_ge g x with b5|b5
   ·have:=bc g x b5 fW
    omega
   ·rw[show x=g by omega];exact ao
 ·obtain rfl:i=j:=by omega
  have e:=Bz ad al λh=>bb i (bM _) h
  rw[e];refine dY ?_;refine aZ ?_;refine bD rfl (λev=> ?_) λev=>bg ?_
  ·have ev:i<l.length:=by omega
   refine ea (K:=br) (l:=l) (j:=i) ae ae ?_;refine fI (K:=br) (l:=l) (j:=i) (o:=0) (c:=ef (l.getD i default)) ae ae ae ew ?_;refine dm (v:=n6 (if cD (l.getD i default).2<m then -1 else if m<cD (l.getD i default).2 then 1 else 0)) (λw _=>GD.any (l.getD i default) m) ?_;refine q7 ae ae ?_;have hm:=bb i (bM _) ev;have:((if cD (l.getD i default).2<m then (-1:Int) else if m<cD (l.getD i default).2 then 1 else 0)=0)↔(i<l.length/\cD (l.getD i default).2=m):=by
    rw[aW af];split<;>omega
   rw[decide_eq_decide.2 this];exact bg rfl
  ·rw[show decide (i<l.length/\cD (l.getD i default).2=m)=false from kJ λh=>ev (by have:=h.1;dsimp only;omega)]
   rfl
end Mh
def hx (l:List bw) (p:bA):Option Nat:=l.findIdx? λt=>decide (cO p (bG t))
def wo:Option Nat->Int
 |some k=>(k:Nat)
 |none=> -1
theorem uc {α:Type} [Inhabited α] {l:List α} {i:Nat} (h:i<l.length):l.getD i default=l[i]:=by rw[de,fc h];rfl
theorem o_ {l:List bw} {p:bA} {k:Nat} (h:hx l p=some k):k<l.length/\cO p (bG (l.getD k default)):=by
 unfold hx at h;obtain⟨h1,ad,_⟩:=List.findIdx?_eq_some_iff_getElem.1 h;refine⟨h1,?_⟩;rw[uc h1];exact of_decide_eq_true ad
theorem UF {l:List bw} {p:bA} (h:hx l p=none) {k:Nat} (hk:k<l.length):¬cO p (bG (l.getD k default)):=by
 unfold hx at h;rw[List.findIdx?_eq_none_iff] at h;have:=h (l[k]) (List.getElem_mem hk);rw[uc hk];exact of_decide_eq_false this
theorem yG {d:Nat} (aH:d<=14) {l:List bw} {c k:Nat} {p:bA} (h:gh d l c) (hk:k<l.length) (hp:cO p (bG (l.getD k default))):hx l p=some k:=by
 cases e:hx l p with
 |none=>exact absurd hp (UF e hk)
 |some j=>
  obtain⟨h1,ad⟩:=o_ e;rw[Bq aH h h1 hk ad hp]
theorem hb {d:Nat} (aH:d<=14) {l:List bw} {c k:Nat} (h:gh d l c) (hk:k<l.length):eQ (l.getD k default)/\dK (l.getD k default).2/\cD (l.getD k default).2=((h3 l k:Nat):Int):=by
 obtain⟨h1,ad,_⟩:=wg h hk;refine⟨by unfold eQ;omega,ad,sv.2 ⟨ad,rfl⟩⟩
theorem GF {d:Nat} (aH:d<=14) {l:List bw} {c:Nat} (h:gh d l c):Mf l:=λi k xl hk=>by
 have:=wh h xl hk;have p:=ss (b3 (l.getD i default));rw[(hb aH h af).2.2,(hb aH h hk).2.2];omega
theorem Mi {d:Nat} (aH:d<=14) {l:List bw} (h:gh d l 0) {p:bA} (hp:dK p) {k:Nat} (hk:hx l p=some k):(h4 (cD p) l<l.length/\cD (l.getD (h4 (cD p) l) default).2=cD p/\h4 (cD p) l=k)\/(¬(h4 (cD p) l<l.length/\cD (l.getD (h4 (cD p) l) default).2=cD p)/\h4 (cD p) l=k+1):=by
 obtain⟨bK,b0⟩:=o_ hk;obtain⟨_,sx,sV⟩:=(tZ aH h bK).1 b0;have ln:cD p=((e3 p:Nat):Int):=sv.2 ⟨hp,rfl⟩;have ao:=(hb aH h bK).2.2;have lt:∀x,x<k->cD (l.getD x default).2<cD p:=λx ag=>by
  have:=GF aH h x k ag bK;omega
 rcases Nat.lt_or_ge (h3 l k) (e3 p) with b5|b5
 ·right
  have e:h4 (cD p) l=k+1:=Bz bK (λx ag=>by
   rcases Nat.lt_or_ge x k with cE|cE
   ·exact lt x cE
   ·rw[show x=k by omega];omega) λcE=>by
    have:=wh h (show k<k+1 by omega) cE;rw[(hb aH h cE).2.2];omega
  refine⟨?_,e⟩;rw[e];rintro ⟨cE,fC⟩;have:=wh h (show k<k+1 by omega) cE;rw[(hb aH h cE).2.2] at fC;omega
 ·left
  have e:h4 (cD p) l=k:=Bz (Nat.le_of_lt bK) lt λ_=>by omega
  rw[e];exact⟨bK,af,rfl⟩
theorem Mj (m:Int):∀l:List bw,h4 m l<=l.length
 |[]=>bM _
 |t::r=>by
  unfold h4;have:=Mj m r;split
  ·simpa using this
  ·exact Nat.zero_le _
namespace GG
def t:aN:=
.c 53 [.agg ⟨[1,2,3]⟩] 4 1<|
.o (.bin .lss 3 4 (n6 0)) 5 1 []<|
.a1 5 (
 .ret (n6 (-1))) (
 .c 62 [0,4,.func (.func 63) ⟨[]⟩ ⟨[]⟩] (.tuple ⟨[6,7]⟩) 2<|
 .o (.un .not 7) 8 1 []<|
 .a1 8 (
  .o (.bin .sub 3 6 (n6 1)) 9 1 []<|
  .s (.bin .lss 3 9 (n6 0)) [] (
   .ret (n6 (-1))) (
   .o (.ca 22 0 9) 10 1 [0,44,4]<|
   .o (.ld 44 10) (.agg ⟨dt 4 11⟩) 4 [4]<|
   .c 24 [.agg ⟨[11,12,13,14]⟩] (.agg ⟨[15,16,17,18,19,20]⟩) 6<|
   .c 64 [.agg ⟨[1,2,3]⟩,.agg ⟨[15,16,17,18,19,20]⟩] 21 1<|
   .o (.un .not 21) 22 1 []<|
   .a1 22 (
    .ret (n6 (-1))) (
    .ret 9))) (
  .s (.bin .lss 3 6 (n6 0)) [] (
   .ret (n6 (-1))) (
   .o (.ca 22 0 6) 9 1 [0,44,4]<|
   .o (.ld 44 9) (.agg ⟨dt 4 10⟩) 4 [4]<|
   .c 24 [.agg ⟨[10,11,12,13]⟩] (.agg ⟨[14,15,16,17,18,19]⟩) 6<|
   .c 64 [.agg ⟨[1,2,3]⟩,.agg ⟨[14,15,16,17,18,19]⟩] 20 1<|
   .o (.un .not 20) 21 1 []<|
   .a1 21 (
    .ret (n6 (-1))) (
    .ret 6))))
theorem bq:cL Tryd.prog 22 {} [0,.agg ⟨[1,2,3]⟩] 4=some t:=cT a6
theorem any {W:aj} {a:ht} {n c:Nat} {l:List bw} {d:Nat} (p:bA) (hl:bH (aS W) 4 ef (.slice a n c) l) (ah:n=l.length) (U:l.length<=10000) (aH:d<=14) (hp:gh d l 0):c_ bf 22 [.slice a n c,P.val p] W (n6 (wo (hx l p))):=by
 subst ah;refine dc (ro:=[⟨br,.slice a l.length c,l⟩]) mixed bq [.slice a l.length c,n6 p.1,n6 p.2.1,n6 p.2.2] (.cons hl (.nil _)) ?_;unfold t;refine dm (v:=n6 (cD p)) (λw _=>yD.any p) ?_;refine aZ ?_;have BA:∀{n:Nat} {env:List I},hx l p=none->ex env n (n6 (-1))=n6 (wo (hx l p)):=λh=>by rw[h];rfl
 refine bD rfl (λh0=>bg (BA ?_)) λh0=> ?_
 ·cases e:hx l p with
  |none=>rfl
  |some k=>
   obtain⟨bK,b0⟩:=o_ e;have J:=((tZ aH hp bK).1 b0).1;have:=(sv (c:=e3 p)).2 ⟨J,rfl⟩;omega
 have J:dK p:=by
  by_cases h:dK p
  ·exact h
  ·exact absurd (show cD p<0 by unfold cD;rw[aW h];decide) h0
 have v_:=Mj (cD p) l;refine cI [n6 (h4 (cD p) l:Nat),.bool (decide (h4 (cD p) l<l.length/\cD (l.getD (h4 (cD p) l) default).2=cD p))] (λw hw=>Mh.any (cD p) ((cx.ro (K:=br) (v:= .slice a l.length c) (l:=l) has).at hw) rfl U (GF aH hp)) rfl ?_;refine n9 rfl ?_;have out:∀{j:Nat},j<l.length->¬cO p (bG (l.getD j default))->(∀k,hx l p=some k->k=j)->hx l p=none:=λ{j} hj sX hk=>by
  cases e:hx l p with
  |none=>rfl
  |some k=>
   have:=hk k e;subst this;exact absurd (o_ e).2 sX
 refine mF rfl (λpw=> ?_) λpw=> ?_
 ·have un:∀k,hx l p=some k->h4 (cD p) l=k+1:=λk e=>by
   rcases Mi aH hp J e with h|h
   ·exact absurd ⟨h.1,h.2.1⟩ pw
   ·exact h.2
  refine sj ae ae ?_;refine mb (p:=((h4 (cD p) l:Nat):Int)-1<0) ae ae ae ae (λh1=>bg (BA ?_)) λh1=> ?_
  ·cases e:hx l p with
   |none=>rfl
   |some k=>have:=un k e;omega
  obtain⟨j,hj⟩:∃j,h4 (cD p) l=j+1:=⟨h4 (cD p) l-1,af⟩;have dR:((h4 (cD p) l:Nat):Int)-1=(j:Nat):=by omega
  rw[dR];have gE:j<l.length:=by omega
  obtain⟨cZ,du,_⟩:=hb aH hp gE;refine ea (K:=br) (l:=l) (j:=j) ae ae ?_;refine fI (K:=br) (l:=l) (j:=j) (o:=0) (c:=ef (l.getD j default)) ae ae ae ew ?_;refine cI (im (bG (l.getD j default))) (λw _=>Bv.any cZ (jt du)) rfl ?_;refine dm (v:= .bool (decide (cO p (bG (l.getD j default))))) (λw _=>yA.any w p _) ?_;refine n9 rfl ?_;refine mF rfl (λsX=>bg (BA (out gE sX λk e=>by have:=un k e;omega))) λGH=>bg ?_
  rw[yG aH hp gE GH];rfl
 ·have un:∀k,hx l p=some k->h4 (cD p) l=k:=λk e=>by
   rcases Mi aH hp J e with h|h
   ·exact h.2.2
   ·exact absurd pw h.1
  refine mb (p:=((h4 (cD p) l:Nat):Int)<0) ae ae ae ae (λh1=>absurd h1 af) λh1=> ?_
  obtain⟨j,hj⟩:∃j,h4 (cD p) l=j:=⟨_,rfl⟩;rw[hj] at un pw ⊢;have gE:=pw.1;obtain⟨cZ,du,_⟩:=hb aH hp gE;refine ea (K:=br) (l:=l) (j:=j) ae ae ?_;refine fI (K:=br) (l:=l) (j:=j) (o:=0) (c:=ef (l.getD j default)) ae ae ae ew ?_;refine cI (im (bG (l.getD j default))) (λw _=>Bv.any cZ (jt du)) rfl ?_;refine dm (v:= .bool (decide (cO p (bG (l.getD j default))))) (λw _=>yA.any w p _) ?_;refine n9 rfl ?_;refine mF rfl (λsX=>bg (BA (out gE sX λk e=>by have:=un k e;omega))) λGH=>bg ?_
  rw[yG aH hp gE GH];rfl
end GG
end AE
end
end
section
noncomputable section
namespace AE
section
variable {B:Nat} {W:aj} {ak:List cr} {ro:List (eB bf)} {post:I->List (aI bf)->Prop} {n q:Nat} {env:List I} {L:List (aI bf)} {ay:List (df bf)} {k:aN} {aq:List Nat} {t:az} {x y i:I}
theorem UG {ty:az} {s:oO} (ag:ex (n6 (s.length:Nat)::env) (q+1) x=iM s) (h:X B W ak ro post (q+1) (n6 (s.length:Nat)::env) L ay k) (aE:bf.underlying t=some .string:=by kernel_rfl) (cw:aF x=true:=by rfl) (av:Nat.blt q cP=true:=by rfl) (aA:n=q:=by rfl):
  X B W ak ro post n env L ay (.o (.len #[t] ty x) (bP q) 1 aq k):=
 gO _ (λM _ _ J hs=> @bE.Q_ (bC M (_::env)) bf t ty x (bP q) s cw rfl aE ((J x).trans ag) hs) h rfl av aA
end
def Mk:dr:=([],false,false,false,16,0,0,0)
def ud (table:List dr) (c:Int):dr:=if 0<=c/\c<table.length then table.getD c.toNat default else Mk
def dO (table:List dr) (c:Int):Bool:=(ud table c).2.1
theorem Ml {table:List dr} {c:Int} (h0:0<=c) (h1:c<table.length):ud table c=table.getD c.toNat default:=aR ⟨h0,h1⟩
theorem BB {table:List dr} {c:Int} (h:¬(0<=c/\c<table.length)):ud table c=Mk:=aW h
namespace Mm
def t:aN:=
.o (.bin .lss 3 1 (n6 0)) 2 1 []<|
.a1 2 (
 .ret (.agg ⟨[iM [],.bool false,.bool false,.bool false,n6 16,n6 0,n6 0,n6 0]⟩)) (
 .o (.len #[24] 3 0) 3 1 [0,97]<|
 .o (.bin .geq 3 1 3) 4 1 []<|
 .a1 4 (
  .ret (.agg ⟨[iM [],.bool false,.bool false,.bool false,n6 16,n6 0,n6 0,n6 0]⟩)) (
  .o (.ca 24 0 1) 5 1 [0,97,8]<|
  .o (.ld 97 5) (.agg ⟨dt 8 6⟩) 8 [8]<|
  .ret (.agg ⟨[6,7,8,9,10,11,12,13]⟩)))
theorem bq:cL Tryd.prog 78 {} [0,1] 2=some t:=cT a6
theorem any {W:aj} {a:ht} {n c:Nat} {table:List dr} (k:Int) (hl:bH (aS W) 8 jz (.slice a n c) table) (ah:n=table.length):c_ bf 78 [.slice a n c,n6 k] W (M.val (ud table k)):=by
 subst ah;refine dc (ro:=[⟨g',.slice a table.length c,table⟩]) mixed bq [.slice a table.length c,n6 k] (.cons hl (.nil _)) ?_;unfold t;refine aZ ?_;refine bD rfl (λh=>bg (by rw[BB af];rfl)) λh0=> ?_
 refine aZ ?_;refine bD rfl (λh=>bg (by rw[BB af];rfl)) λh1=> ?_
 rw[Ml af af];refine F9 (K:=g') (l:=table) (a:=k) ae ae ?_;refine fI (K:=g') (l:=table) (j:=k.toNat) (o:=0) (c:=jz (table.getD k.toNat default)) ae ae ae ew ?_;exact bg rfl
end Mm
namespace Mn
def t:aN:=
.o (.bin .lss 3 1 (n6 0)) 2 1 []<|
.a1 2 (
 .ret (.agg ⟨[iM [],.bool false,.bool false,.bool false,n6 16,n6 0,n6 0,n6 0]⟩)) (
 .o (.len #[24] 3 0) 3 1 [0,97]<|
 .o (.bin .geq 3 1 3) 4 1 []<|
 .a1 4 (
  .ret (.agg ⟨[iM [],.bool false,.bool false,.bool false,n6 16,n6 0,n6 0,n6 0]⟩)) (
  .o (.ca 24 0 1) 5 1 [0,97,8]<|
  .o (.ld 97 5) (.agg ⟨dt 8 6⟩) 8 [8]<|
  .ret (.agg ⟨[6,7,8,9,10,11,12,13]⟩)))
theorem bq:cL Tryd.prog 73 {} [0,1] 2=some t:=cT a6
theorem any {W:aj} {a:ht} {n c:Nat} {table:List dr} (k:Int) (hl:bH (aS W) 8 jz (.slice a n c) table) (ah:n=table.length):c_ bf 73 [.slice a n c,n6 k] W (M.val (ud table k)):=by
 subst ah;refine dc (ro:=[⟨g',.slice a table.length c,table⟩]) mixed bq [.slice a table.length c,n6 k] (.cons hl (.nil _)) ?_;unfold t;refine aZ ?_;refine bD rfl (λh=>bg (by rw[BB af];rfl)) λh0=> ?_
 refine aZ ?_;refine bD rfl (λh=>bg (by rw[BB af];rfl)) λh1=> ?_
 rw[Ml af af];refine F9 (K:=g') (l:=table) (a:=k) ae ae ?_;refine fI (K:=g') (l:=table) (j:=k.toNat) (o:=0) (c:=jz (table.getD k.toNat default)) ae ae ae ew ?_;exact bg rfl
end Mn
namespace BC
def t:aN:=
.c 78 [0,1] (.agg ⟨[2,3,4,5,6,7,8,9]⟩) 8<|
.ret 3
theorem bq:cL Tryd.prog 43 {} [0,1] 2=some t:=cT a6
theorem any {W:aj} {a:ht} {n c:Nat} {table:List dr} (k:Int) (hl:bH (aS W) 8 jz (.slice a n c) table) (ah:n=table.length):c_ bf 43 [.slice a n c,n6 k] W (.bool (dO table k)):=by
 subst ah;refine dc (ro:=[⟨g',.slice a table.length c,table⟩]) mixed bq [.slice a table.length c,n6 k] (.cons hl (.nil _)) ?_;unfold t;refine cI (jz (ud table k)) (λw hw=>Mm.any k ((cx.ro (K:=g') (v:= .slice a table.length c) (l:=table) has).at hw) rfl) rfl ?_;exact bg rfl
end BC
namespace GI
def t:aN:=
.c 73 [0,1] (.agg ⟨[2,3,4,5,6,7,8,9]⟩) 8<|
.ret 3
theorem bq:cL Tryd.prog 30 {} [0,1] 2=some t:=cT a6
theorem any {W:aj} {a:ht} {n c:Nat} {table:List dr} (k:Int) (hl:bH (aS W) 8 jz (.slice a n c) table) (ah:n=table.length):c_ bf 30 [.slice a n c,n6 k] W (.bool (dO table k)):=by
 subst ah;refine dc (ro:=[⟨g',.slice a table.length c,table⟩]) mixed bq [.slice a table.length c,n6 k] (.cons hl (.nil _)) ?_;unfold t;refine cI (jz (ud table k)) (λw hw=>Mn.any k ((cx.ro (K:=g') (v:= .slice a table.length c) (l:=table) has).at hw) rfl) rfl ?_;exact bg rfl
end GI
namespace Mo
def t:aN:=
.o (.len #[24] 3 0) 1 1 [0,97]<|
.o (.bin .gtr 3 1 (n6 300)) 2 1 []<|
.a1 2 (
 .ret (.bool false)) (
 .loop [n6 0,.bool false] 2<|
 .o (.len #[24] 3 0) 5 1 [0,97]<|
 .o (.bin .lss 3 3 5) 6 1 []<|
 .a1 6 (
  .o (.ca 24 0 3) 7 1 [0,97,8]<|
  .o (.hJ 97 7 0) 8 1 [0,9,1]<|
  .o (.ld 9 8) 9 1 [1]<|
  .o (.len #[9] 3 9) 10 1 [2]<|
  .o (.bin .gtr 3 10 (n6 60)) 11 1 []<|
  .a1 11 (
   .cu<|
   .ret (.bool false)) (
   .o (.bin .add 3 3 (n6 1)) 12 1 []<|
   .back [12,4])) (
  .cu<|
  .ret (.bool true)))
theorem bq:cL Tryd.prog 39 {} [0] 1=some t:=cT a6
theorem any {W:aj} {sy:I} {l:List dr} (hl:bH (aS W) 8 jz sy l):c_ bf 39 [sy] W (.bool (decide (qT l))):=by
 obtain⟨a,c,rfl⟩:=hl.slice;refine dc (ro:=[⟨g',.slice a l.length c,l⟩]) mixed bq [.slice a l.length c] (.cons hl (.nil _)) ?_;unfold t;refine aZ ?_;refine bD rfl (λh=>bg (fA (Sb af))) λh=> ?_
 refine gJ Nat (λi=>[n6 (i:Nat),.bool false]) (λ_=>[]) (λi=>i<=l.length/\∀j,j<i->(l.getD j default).1.length<=60) (λi=>l.length-i) 0 ae ae ⟨Nat.zero_le _,λj hj=>absurd hj (Nat.not_lt_zero j)⟩ (λi J=> ?_);obtain⟨J,bc⟩:=J;refine aZ ?_;refine bD rfl (λaM=> ?_) λaM=>dY (bg (congrArg Value.bool (jh (Sd af λj h=>bc j af)).symm))
 have aM:i<l.length:=by omega
 refine ea (K:=g') (l:=l) (j:=i) ae ae ?_;refine q8 (K:=g') (l:=l) (j:=i) rfl ?_;refine kf (K:=g') (l:=l) (j:=i) (o:=0) (u:=iM (l.getD i default).1) ae ae ?_;refine UG (s:=(l.getD i default).1) rfl ?_;refine aZ ?_;refine bD rfl (λh=>dY (bg (fA (Sc aM af)))) λh=> ?_
 refine aZ ?_;refine dN (i+1) ae ae ⟨aM,λj hj=> ?_⟩ af;rcases Nat.lt_succ_iff_lt_or_eq.1 hj with h1|h1
 ·exact bc j h1
 ·rw[h1];omega
end Mo
namespace GJ
def t:aN:=
.o (.bin .shl 3 (n6 4) 0) 4 1 []<|
.ret 4
theorem bq:cL Tryd.prog 61 {} [.agg ⟨[0,1,2,3]⟩] 4=some t:=cT a6
theorem any {W:aj} {t0:bw} (h:eQ t0):c_ bf 61 [T.val t0] W (n6 (cp t0)):=by
 have U:=o8 h;have hl:=h;unfold eQ at hl;refine dc (ro:=[]) mixed bq [n6 t0.1,n6 t0.2.1,n6 t0.2.2.1,n6 t0.2.2.2] (.nil _) ?_;unfold t;refine o4 (a:=4) (s:=t0.1.toNat) (L_ h) rfl (by rw[Int.toNat_of_nonneg hl.1];rfl) ?_;exact bg rfl
end GJ
namespace rf
def t:aN:=
.c 61 [.agg ⟨[0,1,2,3]⟩] 4 1<|
.c 36 [4] (.agg ⟨[5,6,7,8,9,10]⟩) 6<|
.c 69 [.agg ⟨[5,6,7,8,9,10]⟩,.agg ⟨[1,2,3]⟩] (.agg ⟨[11,12,13,14,15,16]⟩) 6<|
.ret (.agg ⟨[11,12,13,14,15,16]⟩)
theorem bq:cL Tryd.prog 25 {} [.agg ⟨[0,1,2,3]⟩] 4=some t:=cT a6
theorem any {W:aj} {t0:bw} (h:eQ t0) (hp:e0 t0.2):c_ bf 25 [T.val t0] W (X.val (bG t0)):=by
 have U:=o8 h;refine dc (ro:=[]) mixed bq [n6 t0.1,n6 t0.2.1,n6 t0.2.2.1,n6 t0.2.2.2] (.nil _) ?_;unfold t;refine dm (v:=n6 (cp t0)) (λw _=>GJ.any h) ?_;refine cI (im (fp (cp t0))) (λw _=>Bo.any) rfl ?_;refine cI (im (bG t0)) (λw _=>by
  have:=LO.any (W:=w) (b:=fp (cp t0)) (p:=t0.2) (Bu af) hp;rw[Mb] at this
  exact this) rfl ?_
 exact bg rfl
end rf
theorem UH {l:List bw} {p:bA} {i:Nat} (J:i<l.length) (h0:∀j,j<i->¬cO p (bG (l.getD j default))) (h:cO p (bG (l.getD i default))):hx l p=some i:=by
 unfold hx;rw[List.findIdx?_eq_some_iff_getElem];refine⟨J,?_,λj hj=> ?_⟩
 ·rw[<-uc J];exact jh h
 ·rw[<-uc af,kJ (h0 j hj)]
  exact Bool.false_ne_true
theorem UI {l:List bw} {p:bA} (h0:∀j,j<l.length->¬cO p (bG (l.getD j default))):hx l p=none:=by
 cases e:hx l p with
 |none=>rfl
 |some k=>exact absurd (o_ e).2 (h0 k (o_ e).1)
namespace Mp
def t:aN:=
.loop [n6 0,n6 0] 2<|
.o (.len #[22] 3 0) 6 1 [0,44]<|
.o (.bin .lss 3 4 6) 7 1 []<|
.a1 7 (
 .o (.ca 22 0 4) 8 1 [0,44,4]<|
 .o (.ld 44 8) (.agg ⟨dt 4 9⟩) 4 [4]<|
 .c 25 [.agg ⟨[9,10,11,12]⟩] (.agg ⟨[13,14,15,16,17,18]⟩) 6<|
 .c 65 [.agg ⟨[1,2,3]⟩,.agg ⟨[13,14,15,16,17,18]⟩] 19 1<|
 .a1 19 (
  .cu<|
  .ret 4) (
  .o (.bin .add 3 4 (n6 1)) 20 1 []<|
  .back [20,5])) (
 .cu<|
 .ret (n6 (-1)))
theorem bq:cL Tryd.prog 23 {} [0,.agg ⟨[1,2,3]⟩] 4=some t:=cT a6
theorem any {W:aj} {a:ht} {n c:Nat} {l:List bw} (p:bA) (hl:bH (aS W) 4 ef (.slice a n c) l) (ah:n=l.length) (U:l.length<=10000) (cU:∀k,k<l.length->eQ (l.getD k default)/\e0 (l.getD k default).2):c_ bf 23 [.slice a n c,P.val p] W (n6 (wo (hx l p))):=by
 subst ah;refine dc (ro:=[⟨br,.slice a l.length c,l⟩]) mixed bq [.slice a l.length c,n6 p.1,n6 p.2.1,n6 p.2.2] (.cons hl (.nil _)) ?_;unfold t;refine gJ Nat (λi=>[n6 (i:Nat),n6 0]) (λ_=>[]) (λi=>i<=l.length/\∀j,j<i->¬cO p (bG (l.getD j default))) (λi=>l.length-i) 0 ae ae ⟨Nat.zero_le _,λj hj=>absurd hj (Nat.not_lt_zero j)⟩ (λi J=> ?_);obtain⟨J,bc⟩:=J;refine aZ ?_;refine bD rfl (λaM=> ?_) λaM=>dY (bg (by rw[UI λj hj=>bc j af];rfl))
 have aM:i<l.length:=by omega
 refine ea (K:=br) (l:=l) (j:=i) ae ae ?_;refine fI (K:=br) (l:=l) (j:=i) (o:=0) (c:=ef (l.getD i default)) ae ae ae ew ?_;refine cI (im (bG (l.getD i default))) (λw _=>rf.any (cU i aM).1 (cU i aM).2) rfl ?_;refine dm (v:= .bool (decide (cO p (bG (l.getD i default))))) (λw _=>Gf.any w p _) ?_;refine bD rfl (λh=>dY (bg (by rw[UH aM bc h];rfl))) λh=> ?_
 refine aZ ?_;refine dN (i+1) ae ae ⟨aM,λj hj=> ?_⟩ af;rcases Nat.lt_succ_iff_lt_or_eq.1 hj with h1|h1
 ·exact bc j h1
 ·rw[h1];exact h
end Mp
abbrev eK:=dT×List Int
abbrev fJ (x:eK):I:= .slice x.1.1 x.2.length x.1.2
def lB (x:eK):List I:=[fJ x]
abbrev gB:fG bf:=tX (α:=eK) default 61 1 24 lB Ud
abbrev eh:=bA×Int×Int
def np (x:eh):List I:=[n6 x.1.1,n6 x.1.2.1,n6 x.1.2.2,n6 x.2.1,n6 x.2.2]
def cY (t:bw):Int:=((2^t.1.toNat:Nat):Int)
def je (t:bw) (cells:List Int) (i:Nat):eh:=(o5 t.2 (iq (fY (fp 4) (i:Nat)) (cY t)),cY t,cells.getD i default)
theorem nq {t:bw} (h:eQ t):1<=cY t/\cY t<=4096/\cp t=4*cY t:=by
 have gD:=h;unfold eQ at gD;have fl:=L9 t.1.toNat;have gb:2^t.1.toNat<=4096:=Nat.pow_le_pow_right (n:=2) (j:=12) cG af;unfold cY cp b3;rw[Nat.pow_add];omega
theorem Mq {t:bw}:(1:Int)*2^t.1.toNat=cY t:=by
 unfold cY;rw[p_];omega
theorem BD {i:Nat} (h:i<64):fY (fp 4) (i:Nat)=((i:Int)%4,(i:Int)/4%4,(i:Int)/4/4):=by
 have aw:eW (fp 4)=64:=by decide
 have e:fY (fp 4) (i:Nat)=(0+(i:Int)%(bz (fp 4)).1,0+(i:Int)/(bz (fp 4)).1%(bz (fp 4)).2.1,0+(i:Int)/(bz (fp 4)).1/(bz (fp 4)).2.1):=aR ⟨af,af⟩;rw[e];simp only [Int.zero_add];rfl
theorem GK {i:Nat} (h:i<64) {s:Int} (h1:1<=s) (ad:s<=4096):jd (iq (fY (fp 4) (i:Nat)) s)/\e0 (iq (fY (fp 4) (i:Nat)) s):=by
 rw[BD h];have m:∀x:Int,0<=x->x<=3->0<=s*x/\s*x<=4096*3:=λx al bb=>⟨Int.mul_nonneg af al,Int.mul_le_mul ad bb al cG⟩
 have a:=m ((i:Int)%4) af af;have b:=m ((i:Int)/4%4) af af;have c:=m ((i:Int)/4/4) af af;unfold jd e0 iq;dsimp only;omega
theorem wq {p:bA} (h:e0 p):jd p:=by
 unfold e0 at h;unfold jd;omega
namespace GL
def t:aN:=
.c 67 [n6 4] (.agg ⟨[6,7,8,9,10,11]⟩) 6<|
.c 77 [.agg ⟨[6,7,8,9,10,11]⟩,5] (.tuple ⟨[.agg ⟨[12,13,14]⟩,15]⟩) 4<|
.o (.bin .shl 3 (n6 1) 0) 16 1 []<|
.c 45 [.agg ⟨[12,13,14]⟩,16] (.agg ⟨[17,18,19]⟩) 3<|
.c 44 [.agg ⟨[1,2,3]⟩,.agg ⟨[17,18,19]⟩] (.agg ⟨[20,21,22]⟩) 3<|
.o (.ca 61 4 5) 23 1 [0,3,1]<|
.o (.ld 3 23) 24 1 [1]<|
.ret (.agg ⟨[20,21,22,16,24]⟩)
theorem bq:cL Tryd.prog 42 {} [.agg ⟨[0,1,2,3]⟩,4,5] 6=some t:=cT a6
theorem any {W:aj} {a:ht} {n c:Nat} {cells:List Int} {t0:bw} {i:Nat} (h:eQ t0) (hp:e0 t0.2) (hl:bH (aS W) 1 encI (.slice a n c) cells) (ah:n=cells.length) (J:i<64) (ao:i<cells.length):c_ bf 42 [T.val t0,.slice a n c,n6 (i:Nat)] W (.agg ⟨np (je t0 cells i)⟩):=by
 subst ah;have U:=nq h;have eS:=h;unfold eQ at eS;have q:=GK J U.1 U.2.1;have aw:eW (fp 4)=64:=by decide
 refine dc (ro:=[⟨hv,.slice a cells.length c,cells⟩]) mixed bq [n6 t0.1,n6 t0.2.1,n6 t0.2.2.1,n6 t0.2.2.2,.slice a cells.length c,n6 (i:Nat)] (.cons hl (.nil _)) ?_;unfold t;refine cI (im (fp 4)) (λw _=>Bn.any) rfl ?_;refine cI (b_ (fY (fp 4) (i:Nat))++[.bool true]) (λw _=>by
  have:=LR.any w (fp 4) (i:Nat) (Bu cG);rw[jh ⟨af,af⟩] at this
  exact this) rfl ?_
 refine o4 (a:=1) (s:=t0.1.toNat) Mq rfl (by rw[Int.toNat_of_nonneg eS.1];rfl) ?_;refine cI (b_ (iq (fY (fp 4) (i:Nat)) (cY t0))) (λw _=>Bj.any (p:=fY (fp 4) (i:Nat)) (n:=cY t0) q.1) rfl ?_;refine cI (b_ (o5 t0.2 (iq (fY (fp 4) (i:Nat)) (cY t0)))) (λw _=>sq.any (p:=t0.2) (q:=iq (fY (fp 4) (i:Nat)) (cY t0)) (wq hp) q.2) rfl ?_;refine ea (K:=hv) (l:=cells) (j:=i) ae ae ?_;refine kf (K:=hv) (l:=cells) (j:=i) (o:=0) (u:=n6 (cells.getD i default)) ae ae ?_;exact bg rfl
end GL
def kF (t:bw) (p:bA):Nat:=((p.1-t.2.1)/cY t+4*((p.2.1-t.2.2.1)/cY t)+16*((p.2.2-t.2.2.2)/cY t)).toNat
def cJ (l:List bw) (ai:List eK) (p:bA):Option eh:=(hx l p).map λk=>je (l.getD k default) (ai.getD k default).2 (kF (l.getD k default) p)
def cF:Option eh->eh
 |some x=>x
 |none=>((0,0,0),0,0)
abbrev GM (x:Option eh):I:= .tuple ⟨[.agg ⟨np (cF x)⟩,.bool x.isSome]⟩
theorem wu {t:bw} (h:eQ t) {p:bA} (hp:cO p (bG t)):0<=(p.1-t.2.1)/cY t/\(p.1-t.2.1)/cY t<4/\0<=(p.2.1-t.2.2.1)/cY t/\(p.2.1-t.2.2.1)/cY t<4/\0<=(p.2.2-t.2.2.2)/cY t/\(p.2.2-t.2.2.2)/cY t<4/\0<=p.1-t.2.1/\0<=p.2.1-t.2.2.1/\0<=p.2.2-t.2.2.2:=by
 obtain⟨s1,s2,j5⟩:=nq h;unfold cO bG at hp;dsimp only at hp;have key:∀x:Int,0<=x->x<4*cY t->0<=x/cY t/\x/cY t<4:=λx h1 ad=>⟨Int.ediv_nonneg h1 af,Int.ediv_lt_of_lt_mul af ad⟩
 have a:=key (p.1-t.2.1) af af;have b:=key (p.2.1-t.2.2.1) af af;have c:=key (p.2.2-t.2.2.2) af af;omega
theorem yH {t:bw} (h:eQ t) {p:bA} (hp:cO p (bG t)):kF t p<64:=by
 have:=wu h hp;unfold kF;omega
theorem Mr {t:bw} (h:eQ t) {p:bA} (hp:cO p (bG t)):fY (fp 4) (kF t p:Nat)=((p.1-t.2.1)/cY t,(p.2.1-t.2.2.1)/cY t,(p.2.2-t.2.2.2)/cY t):=by
 have:=wu h hp;rw[BD (yH h hp)];unfold kF;refine Prod.ext ?_ (Prod.ext ?_ ?_)<;>dsimp only<;>omega
theorem UJ {t:bw} (h:eQ t) {p:bA} (hp:cO p (bG t)):Bg (fp 4) ((p.1-t.2.1)/cY t,(p.2.1-t.2.2.1)/cY t,(p.2.2-t.2.2.2)/cY t)=((kF t p:Nat):Int):=by
 have q:=wu h hp;rw[LH (by unfold cO fp;dsimp only;omega)];have e:bz (fp 4)=(4,4,4):=by decide
 rw[e];unfold kF;dsimp only;omega
def nr (ai:List eK):List (eB bf):=ai.map λx=>⟨hv,fJ x,x.2⟩
theorem GN {α:Type} {β:Type 1} {f:α->β}:∀{l:List α} {x:α},x∈l->h2 (l.map f) (f x)
 |y::r,x,h=>by
  rcases List.mem_cons.1 h with rfl|h
  ·exact .z
  ·exact .s (GN h)
theorem mG {ai:List eK} {x:eK} (h:x∈ai):h2 (nr ai) (⟨hv,fJ x,x.2⟩:eB bf):=GN (f:=λx:eK=>(⟨hv,fJ x,x.2⟩:eB bf)) h
theorem sz {M:Mem}:∀{ai:List eK},(∀x∈ai,bH M 1 encI (fJ x) x.2)->fi (nr ai) M
 |[],_=> .nil M
 |x::_,h=> .cons (h x List.mem_cons_self) (sz λy aT=>h y (List.mem_cons_of_mem _ aT))
theorem BE {ai:List eK} {k:Nat} (h:k<ai.length):ai.getD k default∈ai:=by rw[uc h];exact List.getElem_mem h
structure jf (d:Nat) (l:List bw) (ai:List eK):Prop where
 aH:d<=14
 pl:gh d l 0
 len:l.length<=10000
 cl:ai.length=l.length
 GO:∀x∈ai,x.2.length=64
namespace BF
def t:aN:=
.c 22 [0,.agg ⟨[2,3,4]⟩] 5 1<|
.o (.bin .lss 3 5 (n6 0)) 6 1 []<|
.a1 6 (
 .ret (.tuple ⟨[.agg ⟨[n6 0,n6 0,n6 0,n6 0,n6 0]⟩,.bool false]⟩)) (
 .o (.ca 22 0 5) 7 1 [0,44,4]<|
 .o (.ld 44 7) (.agg ⟨dt 4 8⟩) 4 [4]<|
 .c 70 [.agg ⟨[2,3,4]⟩,.agg ⟨[9,10,11]⟩] (.agg ⟨[12,13,14]⟩) 3<|
 .c 67 [n6 4] (.agg ⟨[15,16,17,18,19,20]⟩) 6<|
 .o (.bin .shr 3 12 8) 21 1 []<|
 .o (.bin .shr 3 13 8) 22 1 []<|
 .o (.bin .shr 3 14 8) 23 1 []<|
 .c 71 [.agg ⟨[15,16,17,18,19,20]⟩,.agg ⟨[21,22,23]⟩] 24 1<|
 .o (.ca 23 1 5) 25 1 [0,61,1]<|
 .o (.ld 61 25) 26 1 [1]<|
 .c 42 [.agg ⟨[8,9,10,11]⟩,26,24] (.agg ⟨[27,28,29,30,31]⟩) 5<|
 .ret (.tuple ⟨[.agg ⟨[27,28,29,30,31]⟩,.bool true]⟩))
theorem bq:cL Tryd.prog 27 {} [0,1,.agg ⟨[2,3,4]⟩] 5=some t:=cT a6
theorem any {W:aj} {a a2:ht} {n c n2 c2:Nat} {l:List bw} {ai:List eK} {d:Nat} (p:bA) (H:jf d l ai) (hl:bH (aS W) 4 ef (.slice a n c) l) (ah:n=l.length) (hC:bH (aS W) 1 lB (.slice a2 n2 c2) ai) (gj:n2=ai.length) (fQ:∀x∈ai,bH (aS W) 1 encI (fJ x) x.2):c_ bf 27 [.slice a n c,.slice a2 n2 c2,P.val p] W (GM (cJ l ai p)):=by
 subst ah gj;refine dc (ro:=⟨br,.slice a l.length c,l⟩::⟨gB,.slice a2 ai.length c2,ai⟩::nr ai) mixed bq [.slice a l.length c,.slice a2 ai.length c2,n6 p.1,n6 p.2.1,n6 p.2.2] (.cons hl (.cons hC (sz fQ))) ?_;unfold t;refine dm (v:=n6 (wo (hx l p))) (λw hw=>GG.any (d:=d) p ((cx.ro (K:=br) (v:= .slice a l.length c) (l:=l) .z).at hw) rfl H.len H.aH H.pl) ?_;cases e:hx l p with
 |none=>
  refine p3 (a:= -1) ae ae ?_;refine o2 rfl ?_;refine bg ?_;unfold cJ;rw[e];rfl
 |some k=>
  obtain⟨bK,b0⟩:=o_ e;obtain⟨cZ,du,_⟩:=hb H.aH H.pl bK;obtain⟨s1,s2,j5⟩:=nq cZ;have rh:=cZ;unfold eQ at rh;have q:=wu cZ b0;have mS:k<ai.length:=by rw[H.cl];exact bK
  have hm:=BE mS;have bc:=(tZ H.aH H.pl bK).1 b0;show X _ _ _ _ _ _ (n6 (k:Nat)::_) _ _ _;refine p3 (a:=(k:Nat)) (b:=0) ae ae ?_;refine bD (p:=((k:Nat):Int)<0) rfl (λh=>absurd h af) λ_=> ?_
  obtain⟨t0,o9⟩:∃t0,t0=l.getD k default:=⟨_,rfl⟩;rw[<-o9] at cZ rh du q s1 s2 j5 b0;refine ea (K:=br) (l:=l) (j:=k) ae ae ?_ (hs:= .ro .z);refine fI (K:=br) (l:=l) (j:=k) (o:=0) (c:=ef t0) rfl (by rw[o9];rfl) rfl ew ?_ (hs:= .ro .z);have bR:∀x:Int,x/2^t0.1.toNat=x/cY t0:=λx=>by unfold cY;rw[p_]
  have cu:n6 t0.1=n6 (t0.1.toNat:Nat):=by rw[Int.toNat_of_nonneg rh.1]
  have XU:t0.1.toNat<=64:=by omega
  refine cI (b_ (Bi p t0.2)) (λw _=>Bk.any (p:=p) (q:=t0.2) (wq (jt bc.1)) (jt du)) rfl ?_;refine cI (im (fp 4)) (λw _=>Bn.any) rfl ?_;refine wa (a:=p.1-t0.2.1) (s:=t0.1.toNat) (bR _) rfl cu ?_;refine wa (a:=p.2.1-t0.2.2.1) (s:=t0.1.toNat) (bR _) rfl cu ?_;refine wa (a:=p.2.2-t0.2.2.2) (s:=t0.1.toNat) (bR _) rfl cu ?_;refine dm (v:=n6 (kF t0 p:Nat)) (λw _=>by
   have:=LP.any w (fp 4) ((p.1-t0.2.1)/cY t0,(p.2.1-t0.2.2.1)/cY t0,(p.2.2-t0.2.2.2)/cY t0) (Bu cG);rw[UJ cZ b0] at this
   exact this) ?_
  refine ea (K:=gB) (l:=ai) (j:=k) ae ae ?_ (hs:= .ro (.s .z));refine kf (K:=gB) (l:=ai) (j:=k) (o:=0) (u:=fJ (ai.getD k default)) ae ae ?_ (hs:= .ro (.s .z));refine cI (np (je t0 (ai.getD k default).2 (kF t0 p))) (λw hw=>GL.any cZ (jt du) ((cx.ro (K:=hv) (v:=fJ (ai.getD k default)) (l:=(ai.getD k default).2) (.s (.s (mG hm)))).at hw) rfl (yH cZ b0) (by rw[H.GO _ hm];exact yH cZ b0)) rfl ?_;refine bg ?_;unfold cJ;rw[e,o9];rfl
end BF
namespace GQ
def t:aN:=
.c 23 [0,.agg ⟨[2,3,4]⟩] 5 1<|
.o (.bin .lss 3 5 (n6 0)) 6 1 []<|
.a1 6 (
 .ret (.tuple ⟨[.agg ⟨[n6 0,n6 0,n6 0,n6 0,n6 0]⟩,.bool false]⟩)) (
 .o (.ca 22 0 5) 7 1 [0,44,4]<|
 .o (.ld 44 7) (.agg ⟨dt 4 8⟩) 4 [4]<|
 .o (.bin .shl 3 (n6 1) 8) 12 1 []<|
 .c 72 [.agg ⟨[2,3,4]⟩,.agg ⟨[9,10,11]⟩] (.agg ⟨[13,14,15]⟩) 3<|
 .o (.bin .quo 3 13 12) 16 1 []<|
 .o (.bin .quo 3 14 12) 17 1 []<|
 .o (.bin .quo 3 15 12) 18 1 []<|
 .c 38 [.agg ⟨[16,17,18]⟩,12] (.agg ⟨[19,20,21]⟩) 3<|
 .c 37 [.agg ⟨[9,10,11]⟩,.agg ⟨[19,20,21]⟩] (.agg ⟨[22,23,24]⟩) 3<|
 .o (.ca 23 1 5) 25 1 [0,61,1]<|
 .o (.ld 61 25) 26 1 [1]<|
 .o (.bin .mul 3 (n6 4) 17) 27 1 []<|
 .o (.bin .add 3 16 27) 28 1 []<|
 .o (.bin .mul 3 (n6 16) 18) 29 1 []<|
 .o (.bin .add 3 28 29) 30 1 []<|
 .o (.ca 61 26 30) 31 1 [0,3,1]<|
 .o (.ld 3 31) 32 1 [1]<|
 .ret (.tuple ⟨[.agg ⟨[22,23,24,12,32]⟩,.bool true]⟩))
theorem bq:cL Tryd.prog 28 {} [0,1,.agg ⟨[2,3,4]⟩] 5=some t:=cT a6
theorem any {W:aj} {a a2:ht} {n c n2 c2:Nat} {l:List bw} {ai:List eK} {d:Nat} (p:bA) (H:jf d l ai) (hl:bH (aS W) 4 ef (.slice a n c) l) (ah:n=l.length) (hC:bH (aS W) 1 lB (.slice a2 n2 c2) ai) (gj:n2=ai.length) (fQ:∀x∈ai,bH (aS W) 1 encI (fJ x) x.2):c_ bf 28 [.slice a n c,.slice a2 n2 c2,P.val p] W (GM (cJ l ai p)):=by
 subst ah gj;refine dc (ro:=⟨br,.slice a l.length c,l⟩::⟨gB,.slice a2 ai.length c2,ai⟩::nr ai) mixed bq [.slice a l.length c,.slice a2 ai.length c2,n6 p.1,n6 p.2.1,n6 p.2.2] (.cons hl (.cons hC (sz fQ))) ?_;unfold t;refine dm (v:=n6 (wo (hx l p))) (λw hw=>Mp.any p ((cx.ro (K:=br) (v:= .slice a l.length c) (l:=l) .z).at hw) rfl H.len λk hk=>⟨(hb H.aH H.pl hk).1,jt (hb H.aH H.pl hk).2.1⟩) ?_;cases e:hx l p with
 |none=>
  refine p3 (a:= -1) ae ae ?_;refine o2 rfl ?_;refine bg ?_;unfold cJ;rw[e];rfl
 |some k=>
  obtain⟨bK,b0⟩:=o_ e;obtain⟨cZ,du,_⟩:=hb H.aH H.pl bK;obtain⟨s1,s2,j5⟩:=nq cZ;have rh:=cZ;unfold eQ at rh;have q:=wu cZ b0;have mS:k<ai.length:=by rw[H.cl];exact bK
  have hm:=BE mS;have bc:=(tZ H.aH H.pl bK).1 b0;show X _ _ _ _ _ _ (n6 (k:Nat)::_) _ _ _;refine p3 (a:=(k:Nat)) (b:=0) ae ae ?_;refine bD (p:=((k:Nat):Int)<0) rfl (λh=>absurd h af) λ_=> ?_
  obtain⟨t0,o9⟩:∃t0,t0=l.getD k default:=⟨_,rfl⟩;rw[<-o9] at cZ rh du q s1 s2 j5 b0;have hR:=yH cZ b0;have yI:=GK hR s1 s2;rw[Mr cZ b0] at yI;have BG:=H.GO _ hm;have rV:=jt bc.1;have oj:=jt du;unfold e0 at rV oj;refine ea (K:=br) (l:=l) (j:=k) ae ae ?_ (hs:= .ro .z);refine fI (K:=br) (l:=l) (j:=k) (o:=0) (c:=ef t0) rfl (by rw[o9];rfl) rfl ew ?_ (hs:= .ro .z);refine o4 (a:=1) (s:=t0.1.toNat) Mq rfl (by rw[Int.toNat_of_nonneg rh.1];rfl) ?_;refine cI (b_ (Bi p t0.2)) (λw _=>Gh.any (p:=p) (q:=t0.2) (wq (jt bc.1)) (jt du)) rfl ?_;refine p4 (a:=p.1-t0.2.1) (b:=cY t0) ae ae ?_;refine p4 (a:=p.2.1-t0.2.2.1) (b:=cY t0) ae ae ?_;refine p4 (a:=p.2.2-t0.2.2.2) (b:=cY t0) ae ae ?_;refine cI (b_ (iq ((p.1-t0.2.1)/cY t0,(p.2.1-t0.2.2.1)/cY t0,(p.2.2-t0.2.2.2)/cY t0) (cY t0))) (λw _=>LL.any (p:=((p.1-t0.2.1)/cY t0,(p.2.1-t0.2.2.1)/cY t0,(p.2.2-t0.2.2.2)/cY t0)) (n:=cY t0) yI.1) rfl ?_;refine cI (b_ (o5 t0.2 (iq ((p.1-t0.2.1)/cY t0,(p.2.1-t0.2.2.1)/cY t0,(p.2.2-t0.2.2.2)/cY t0) (cY t0)))) (λw _=>wc.any (p:=t0.2) (q:=iq ((p.1-t0.2.1)/cY t0,(p.2.1-t0.2.2.1)/cY t0,(p.2.2-t0.2.2.2)/cY t0) (cY t0)) (wq (jt du)) yI.2) rfl ?_;refine ea (K:=gB) (l:=ai) (j:=k) ae ae ?_ (hs:= .ro (.s .z));refine kf (K:=gB) (l:=ai) (j:=k) (o:=0) (u:=fJ (ai.getD k default)) ae ae ?_ (hs:= .ro (.s .z));refine kD ae ae ?_;refine kC ae ae ?_;refine kD ae ae ?_;refine kC ae ae ?_;refine ea (K:=hv) (v:=fJ (ai.getD k default)) (l:=(ai.getD k default).2) (j:=kF t0 p) rfl (congrArg n6 (by
   unfold kF
   rw[Int.toNat_of_nonneg af])) ?_ (hs:= .ro (.s (.s (mG hm)))) (hj:=by omega)
  refine kf (K:=hv) (v:=fJ (ai.getD k default)) (l:=(ai.getD k default).2) (j:=kF t0 p) (o:=0) (u:=n6 ((ai.getD k default).2.getD (kF t0 p) default)) ae ae ?_ (hs:= .ro (.s (.s (mG hm)))) (hj:=by omega);refine bg ?_;unfold cJ;rw[e];show _=GM (some (je (l.getD k default) (ai.getD k default).2 (kF (l.getD k default) p)));rw[<-o9];unfold je;rw[Mr cZ b0];rfl
end GQ
end AE
end
end
section
noncomputable section
namespace AE
def bU (p:bA) (j:Nat) (n:Int):bA:=(p.1+(if j=0 then n else 0),p.2.1+(if j=1 then n else 0),p.2.2+(if j=2 then n else 0))
def GR (j:Nat) (n:Int):List I:=[n6 (if j=0 then n else 0),n6 (if j=1 then n else 0),n6 (if j=2 then n else 0)]
theorem UK {j:Nat} (h:j<3) (n:Int):GR j n=[n6 0,n6 0,n6 0].set j (n6 n):=by
 match j,h with
 |0,_=>rfl
 |1,_=>rfl
 |2,_=>rfl
theorem UL {j:Nat} (h:j<3) (p:bA) (n:Int):b_ (bU p j n)=(b_ p).set j (n6 (co p j+n)):=by
 obtain⟨a,b,c⟩:=p
 match j,h with
 |0,_=>simp [bU,b_,co]
 |1,_=>simp [bU,b_,co]
 |2,_=>simp [bU,b_,co]
theorem GU {p:bA} (h:e0 p) (j:Nat): -2097152<=co p j/\co p j<=2097152:=by
 unfold e0 at h
 match j with
 |0=>exact⟨h.1,h.2.1⟩
 |1=>exact⟨h.2.2.1,h.2.2.2.1⟩
 |j+2=>exact⟨h.2.2.2.2.1,h.2.2.2.2.2⟩
namespace GV
def t:aN:=
.hT 56<|
.st 56 6 (.agg ⟨[0,1,2]⟩)<|
.o (.ca 56 6 3) 7 1 [1,3,3,1]<|
.o (.ld 3 7) 8 1 [1]<|
.o (.bin .sub 3 8 (n6 1)) 9 1 []<|
.st 3 7 9<|
.o (.ca 56 6 (n6 0)) 10 1 [1,3,3,1]<|
.o (.ld 3 10) 11 1 [1]<|
.o (.ca 56 6 (n6 1)) 12 1 [1,3,3,1]<|
.o (.ld 3 12) 13 1 [1]<|
.o (.ca 56 6 (n6 2)) 14 1 [1,3,3,1]<|
.o (.ld 3 14) 15 1 [1]<|
.ret (.agg ⟨[11,13,15]⟩)
theorem bq:cL Tryd.prog 74 {marks:=[56]} [.agg ⟨[0,1,2,3,4,5]⟩] 6=some t:=cT a6
theorem any {W:aj} {q:b8} {j:Nat} (hj:q.2.1=(j:Nat)) (al:j<3) (hp:e0 q.1):c_ bf 74 [Q.val q] W (P.val (bU q.1 j (-1))):=by
 have ao:=GU hp j;refine dc (ro:=[]) mixed bq (gZ q) (.nil _) ?_;unfold t;refine o3 (z:= .agg ⟨[n6 0,n6 0,n6 0]⟩) (L':=λg=>[.box g _ [n6 0,n6 0,n6 0]]) [n6 0,n6 0,n6 0] a6 rfl (λg=> .z) (λg=> ?_);refine p6 (m:=3) (us:=b_ q.1) (cs':=b_ q.1) (L':=[.box g _ (b_ q.1)]) ae ae .z rfl ?_;refine jc (g:=g) (o:=0) (j:=j) rfl (by show n6 q.2.1=_;rw[hj]) ?_;refine js (g:=g) (o:=0+j*1) (u:=n6 (co q.1 j)) rfl has (by rw[Nat.mul_one,Nat.zero_add];exact t' q.1 al) ?_;refine sj ae ae ?_;refine yt (d:=0) (g:=g) (j:=0+j*1) (cs':=b_ (bU q.1 j (-1))) (L':=[.box g _ (b_ (bU q.1 j (-1)))]) ae ae .z (by rw[Nat.mul_one,Nat.zero_add,UL al];rfl) ?_ (by rw[Nat.mul_one,Nat.zero_add];exact al);refine jc (g:=g) (o:=0) (j:=0) ae ae ?_;refine js (g:=g) (u:=n6 (bU q.1 j (-1)).1) rfl has rfl ?_;refine jc (g:=g) (o:=0) (j:=1) ae ae ?_;refine js (g:=g) (u:=n6 (bU q.1 j (-1)).2.1) rfl has rfl ?_;refine jc (g:=g) (o:=0) (j:=2) ae ae ?_;refine js (g:=g) (u:=n6 (bU q.1 j (-1)).2.2) rfl has rfl ?_;exact bg rfl
end GV
def iu (q:b8):bA:=if q.2.2.1 then q.1 else bU q.1 q.2.1.toNat (-1)
def gK (q:b8):bA:=if q.2.2.1 then bU q.1 q.2.1.toNat (-1) else q.1
namespace GX
def t:aN:=
.a1 4 (
 .ret (.agg ⟨[0,1,2]⟩)) (
 .c 74 [.agg ⟨[0,1,2,3,.bool false,5]⟩] (.agg ⟨[6,7,8]⟩) 3<|
 .ret (.agg ⟨[6,7,8]⟩))
theorem bq:cL Tryd.prog 33 {} [.agg ⟨[0,1,2,3,4,5]⟩] 6=some t:=cT a6
theorem any {W:aj} {q:b8} (ha:0<=q.2.1/\q.2.1<3) (hp:e0 q.1):c_ bf 33 [Q.val q] W (P.val (iu q)):=by
 obtain⟨p,bd,up,aG⟩:=q;refine dc (ro:=[]) mixed bq (gZ (p,bd,up,aG)) (.nil _) ?_;unfold t;refine lz rfl (λh=>bg ?_) λh=> ?_
 ·have h:up=true:=h
  subst h;rfl
 ·have h:up=false:=h
  subst h;refine cI (b_ (bU p bd.toNat (-1))) (λw _=>GV.any (q:=(p,bd,false,aG)) (j:=bd.toNat) (by dsimp only at ha ⊢;omega) (by dsimp only at ha;omega) hp) rfl ?_;exact bg rfl
end GX
namespace Ms
def t:aN:=
.a1 4 (
 .c 74 [.agg ⟨[0,1,2,3,.bool true,5]⟩] (.agg ⟨[6,7,8]⟩) 3<|
 .ret (.agg ⟨[6,7,8]⟩)) (
 .ret (.agg ⟨[0,1,2]⟩))
theorem bq:cL Tryd.prog 32 {} [.agg ⟨[0,1,2,3,4,5]⟩] 6=some t:=cT a6
theorem any {W:aj} {q:b8} (ha:0<=q.2.1/\q.2.1<3) (hp:e0 q.1):c_ bf 32 [Q.val q] W (P.val (gK q)):=by
 obtain⟨p,bd,up,aG⟩:=q;refine dc (ro:=[]) mixed bq (gZ (p,bd,up,aG)) (.nil _) ?_;unfold t;refine lz rfl (λh=> ?_) λh=>bg ?_
 ·have h:up=true:=h
  subst h;refine cI (b_ (bU p bd.toNat (-1))) (λw _=>GV.any (q:=(p,bd,true,aG)) (j:=bd.toNat) (by dsimp only at ha ⊢;omega) (by dsimp only at ha;omega) hp) rfl ?_;exact bg rfl
 ·have h:up=false:=h
  subst h;rfl
end Ms
namespace BH
def t:aN:=
.hT 56<|
.st 56 5 (.agg ⟨[n6 0,n6 0,n6 0]⟩)<|
.o (.ca 56 5 3) 6 1 [1,3,3,1]<|
.st 3 6 4<|
.o (.ca 56 5 (n6 0)) 7 1 [1,3,3,1]<|
.o (.ld 3 7) 8 1 [1]<|
.o (.ca 56 5 (n6 1)) 9 1 [1,3,3,1]<|
.o (.ld 3 9) 10 1 [1]<|
.o (.ca 56 5 (n6 2)) 11 1 [1,3,3,1]<|
.o (.ld 3 11) 12 1 [1]<|
.c 37 [.agg ⟨[0,1,2]⟩,.agg ⟨[8,10,12]⟩] (.agg ⟨[13,14,15]⟩) 3<|
.ret (.agg ⟨[13,14,15]⟩)
theorem bq:cL Tryd.prog 51 {marks:=[56]} [.agg ⟨[0,1,2]⟩,3,4] 5=some t:=cT a6
theorem any {W:aj} {p:bA} {j:Nat} {n:Int} (al:j<3) (hp:e0 p) (ah: -100000<=n/\n<=100000):c_ bf 51 [P.val p,n6 (j:Nat),n6 n] W (P.val (bU p j n)):=by
 have hr:e0 (if j=0 then n else 0,if j=1 then n else 0,if j=2 then n else 0):=by
  unfold e0;dsimp only;refine⟨?_,?_,?_,?_,?_,?_⟩<;>split<;>omega
 refine dc (ro:=[]) mixed bq (b_ p++[n6 (j:Nat),n6 n]) (.nil _) ?_;unfold t;refine o3 (z:= .agg ⟨[n6 0,n6 0,n6 0]⟩) (L':=λg=>[.box g _ [n6 0,n6 0,n6 0]]) [n6 0,n6 0,n6 0] a6 rfl (λg=> .z) (λg=> ?_);refine p6 (m:=3) (us:=[n6 0,n6 0,n6 0]) (cs':=[n6 0,n6 0,n6 0]) (L':=[.box g _ [n6 0,n6 0,n6 0]]) ae ae .z rfl ?_;refine jc (g:=g) (o:=0) (j:=j) ae ae ?_;refine yt (d:=0) (g:=g) (j:=0+j*1) (u:=n6 n) (cs':=GR j n) (L':=[.box g _ (GR j n)]) ae ae .z (by rw[Nat.mul_one,Nat.zero_add];exact UK al n) ?_ (by rw[Nat.mul_one,Nat.zero_add];exact al);refine jc (g:=g) (o:=0) (j:=0) ae ae ?_;refine js (g:=g) (u:=n6 (if j=0 then n else 0)) rfl has rfl ?_;refine jc (g:=g) (o:=0) (j:=1) ae ae ?_;refine js (g:=g) (u:=n6 (if j=1 then n else 0)) rfl has rfl ?_;refine jc (g:=g) (o:=0) (j:=2) ae ae ?_;refine js (g:=g) (u:=n6 (if j=2 then n else 0)) rfl has rfl ?_;refine cI (b_ (bU p j n)) (λw _=>wc.any (p:=p) (q:=(if j=0 then n else 0,if j=1 then n else 0,if j=2 then n else 0)) (wq hp) hr) rfl ?_;exact bg rfl
end BH
def jT (q:b8):Nat->Int
 |0=>q.2.1
 |1=>q.1.2.2
 |2=>q.1.2.1
 |_=>q.1.1
def pa (q:b8):List I:=[n6 q.2.1,n6 q.1.2.2,n6 q.1.2.1,n6 q.1.1]
theorem BI (q:b8) {k:Nat} (h:k<4):(pa q)[k]? =some (n6 (jT q k)):=by
 match k,h with
 |0,_=>rfl
 |1,_=>rfl
 |2,_=>rfl
 |3,_=>rfl
def fR (a b:b8):Prop:=a.2.1<b.2.1\/(a.2.1=b.2.1/\(a.1.2.2<b.1.2.2\/(a.1.2.2=b.1.2.2/\(a.1.2.1<b.1.2.1\/(a.1.2.1=b.1.2.1/\a.1.1<b.1.1)))))
instance (a b:b8):Decidable (fR a b):=by unfold fR;infer_instance
theorem UM {a b:b8} {k:Nat} (h:k<4) (h0:∀j,j<k->jT a j=jT b j) (ch:jT a k≠jT b k):jT a k<jT b k↔fR a b:=by
 unfold fR
 match k,h with
 |0,_=>simp only [jT] at *;omega
 |1,_=>
  have:=h0 0 af;simp only [jT] at *;omega
 |2,_=>
  have:=h0 0 af;have:=h0 1 af;simp only [jT] at *;omega
 |3,_=>
  have:=h0 0 af;have:=h0 1 af;have:=h0 2 af;simp only [jT] at *;omega
theorem UN {a b:b8} (h0:∀j,j<4->jT a j=jT b j):¬fR a b:=by
 unfold fR;have:=h0 0 af;have:=h0 1 af;have:=h0 2 af;have:=h0 3 af;simp only [jT] at*
 omega
namespace Mt
def t:aN:=
.hT 99<|
.st 99 12 (.agg ⟨[3,2,1,0]⟩)<|
.hT 99<|
.st 99 13 (.agg ⟨[9,8,7,6]⟩)<|
.loop [n6 0,.bool false] 2<|
.o (.bin .lss 3 14 (n6 4)) 16 1 []<|
.a1 16 (
 .o (.ca 99 12 14) 17 1 [1,4,3,1]<|
 .o (.ld 3 17) 18 1 [1]<|
 .o (.ca 99 13 14) 19 1 [1,4,3,1]<|
 .o (.ld 3 19) 20 1 [1]<|
 .o (.bin .neq 3 18 20) 21 1 []<|
 .a1 21 (
  .o (.ca 99 12 14) 22 1 [1,4,3,1]<|
  .o (.ld 3 22) 23 1 [1]<|
  .o (.ca 99 13 14) 24 1 [1,4,3,1]<|
  .o (.ld 3 24) 25 1 [1]<|
  .o (.bin .lss 3 23 25) 26 1 []<|
  .cu<|
  .ret 26) (
  .o (.bin .add 3 14 (n6 1)) 22 1 []<|
  .back [22,15])) (
 .cu<|
 .ret (.bool false))
theorem bq:cL Tryd.prog 82 {marks:=[99]} [.agg ⟨[0,1,2,3,4,5]⟩,.agg ⟨[6,7,8,9,10,11]⟩] 12=some t:=cT a6
theorem any {W:aj} (a b:b8):c_ bf 82 [Q.val a,Q.val b] W (.bool (decide (fR a b))):=by
 refine dc (ro:=[]) mixed bq (gZ a++gZ b) (.nil _) ?_;unfold t;refine o3 (z:= .agg ⟨[n6 0,n6 0,n6 0,n6 0]⟩) (L':=λg=>[.box g _ [n6 0,n6 0,n6 0,n6 0]]) [n6 0,n6 0,n6 0,n6 0] a6 rfl (λg=> .z) (λg=> ?_);refine p6 (m:=4) (us:=pa a) (cs':=pa a) (L':=[.box g _ (pa a)]) ae ae .z rfl ?_;refine o3 (z:= .agg ⟨[n6 0,n6 0,n6 0,n6 0]⟩) (L':=λg2=>[.box g _ (pa a),.box g2 _ [n6 0,n6 0,n6 0,n6 0]]) [n6 0,n6 0,n6 0,n6 0] a6 rfl (λg=> .s .z) (λg2=> ?_);refine p6 (m:=4) (us:=pa b) (cs':=pa b) (L':=[.box g _ (pa a),.box g2 _ (pa b)]) ae ae (.s .z) rfl ?_;refine gJ Nat (λk=>[n6 (k:Nat),.bool false]) (λk=>[.box g _ (pa a),.box g2 _ (pa b)]) (λk=>k<=4/\∀j,j<k->jT a j=jT b j) (λk=>4-k) 0 ae ae ⟨Nat.zero_le _,λj hj=>absurd hj (Nat.not_lt_zero j)⟩ (λk hk=> ?_);obtain⟨hk,bc⟩:=hk;refine aZ ?_;refine bD rfl (λaM=> ?_) λaM=>dY (bg (fA (UN λj hj=>bc j af)))
 have aM:k<4:=by omega
 refine jc (g:=g) (o:=0) (j:=k) ae ae ?_;refine js (g:=g) (o:=0+k*1) (u:=n6 (jT a k)) rfl has (by rw[Nat.mul_one,Nat.zero_add];exact BI a aM) ?_;refine jc (g:=g2) (o:=0) (j:=k) ae ae ?_;refine js (g:=g2) (o:=0+k*1) (u:=n6 (jT b k)) rfl (.s .z) (by rw[Nat.mul_one,Nat.zero_add];exact BI b aM) ?_;refine aZ ?_;refine bD rfl (λch=> ?_) λheq=> ?_
 ·refine jc (g:=g) (o:=0) (j:=k) ae ae ?_
  refine js (g:=g) (o:=0+k*1) (u:=n6 (jT a k)) rfl has (by rw[Nat.mul_one,Nat.zero_add];exact BI a aM) ?_;refine jc (g:=g2) (o:=0) (j:=k) ae ae ?_;refine js (g:=g2) (o:=0+k*1) (u:=n6 (jT b k)) rfl (.s .z) (by rw[Nat.mul_one,Nat.zero_add];exact BI b aM) ?_;refine p3 ae ae ?_;refine dY (bg ?_);exact Bf (UM aM bc ch)
 ·refine aZ ?_
  refine dN (k+1) ae ae ⟨aM,λj hj=> ?_⟩ af;rcases Nat.lt_succ_iff_lt_or_eq.1 hj with h1|h1
  ·exact bc j h1
  ·rw[h1];exact Decidable.not_not.1 heq
end Mt
def uf (l:List b8):Nat->Int
 |0=>0
 |i+1=>uf l i+(l.getD i default).2.2.2*(l.getD i default).2.2.2
def yJ (l:List b8):Int:=uf l l.length
def yK (l:List b8):Prop:=∀q∈l,0<=q.2.2.2/\q.2.2.2<=16384
theorem GY {x:Int} (h0:0<=x) (h1:x<=16384):0<=x*x/\x*x<=268435456:=⟨Int.mul_nonneg h0 h0,Int.mul_le_mul h1 h1 h0 cG⟩
theorem GZ {l:List b8} {i:Nat} (h:i<l.length):l.getD i default∈l:=by rw[uc h];exact List.getElem_mem h
theorem G0 {l:List b8} (h:yK l):∀i,i<=l.length->0<=uf l i/\uf l i<=i*268435456
 |0,_=>⟨Int.le_refl _,Int.le_refl _⟩
 |i+1,J=>by
  have bI:=G0 h i af;have m:=h _ (GZ (show i<l.length by omega));have s:=GY m.1 m.2;unfold uf;omega
namespace G1
def t:aN:=
.o (.len #[27] 3 0) 1 1 [0,58]<|
.loop [n6 0,n6 0] 2<|
.o (.bin .lss 3 3 1) 4 1 []<|
.a1 4 (
 .o (.ca 27 0 3) 5 1 [0,58,6]<|
 .o (.ld 58 5) (.agg ⟨dt 6 6⟩) 6 [6]<|
 .o (.bin .mul 3 11 11) 12 1 []<|
 .o (.bin .add 3 2 12) 13 1 []<|
 .o (.bin .add 3 3 (n6 1)) 14 1 []<|
 .back [13,14]) (
 .cu<|
 .ret 2)
theorem bq:cL Tryd.prog 13 {} [0] 1=some t:=cT a6
theorem any {W:aj} {a:ht} {n c:Nat} {l:List b8} (hl:bH (aS W) 6 gZ (.slice a n c) l) (ah:n=l.length) (U:l.length<=10000000) (hs:yK l):c_ bf 13 [.slice a n c] W (n6 (yJ l)):=by
 subst ah;refine dc (ro:=[⟨bN,.slice a l.length c,l⟩]) mixed bq [.slice a l.length c] (.cons hl (.nil _)) ?_;unfold t;refine aZ ?_;refine gJ Nat (λi=>[n6 (uf l i),n6 (i:Nat)]) (λ_=>[]) (λi=>i<=l.length) (λi=>l.length-i) 0 ae ae (Nat.zero_le _) (λi J=> ?_);have ha:=G0 hs i J;refine aZ ?_;refine bD rfl (λaM=> ?_) λaM=>dY (bg (by rw[show i=l.length by omega];rfl))
 have aM:i<l.length:=by omega
 have m:=hs _ (GZ aM);have s:=GY m.1 m.2;refine ea (K:=bN) (l:=l) (j:=i) ae ae ?_;refine fI (K:=bN) (l:=l) (j:=i) (o:=0) (c:=gZ (l.getD i default)) ae ae ae ew ?_;refine kD (a:=(l.getD i default).2.2.2) (b:=(l.getD i default).2.2.2) ae ae ?_;refine kC ae ae ?_;refine aZ ?_;exact dN (i+1) ae ae aM af
end G1
namespace Mu
def t:aN:=
.loop [n6 0,n6 0] 2<|
.o (.len #[27] 3 0) 3 1 [0,58]<|
.o (.bin .lss 3 2 3) 4 1 []<|
.a1 4 (
 .o (.ca 27 0 2) 5 1 [0,58,6]<|
 .o (.hJ 58 5 3) 6 1 [5,3,1]<|
 .o (.ld 3 6) 7 1 [1]<|
 .o (.bin .mul 3 7 7) 8 1 []<|
 .o (.bin .add 3 1 8) 9 1 []<|
 .o (.bin .add 3 2 (n6 1)) 10 1 []<|
 .back [9,10]) (
 .cu<|
 .ret 1)
theorem bq:cL Tryd.prog 14 {} [0] 1=some t:=cT a6
theorem any {W:aj} {a:ht} {n c:Nat} {l:List b8} (hl:bH (aS W) 6 gZ (.slice a n c) l) (ah:n=l.length) (U:l.length<=10000000) (hs:yK l):c_ bf 14 [.slice a n c] W (n6 (yJ l)):=by
 subst ah;refine dc (ro:=[⟨bN,.slice a l.length c,l⟩]) mixed bq [.slice a l.length c] (.cons hl (.nil _)) ?_;unfold t;refine gJ Nat (λi=>[n6 (uf l i),n6 (i:Nat)]) (λ_=>[]) (λi=>i<=l.length) (λi=>l.length-i) 0 ae ae (Nat.zero_le _) (λi J=> ?_);have ha:=G0 hs i J;refine aZ ?_;refine bD rfl (λaM=> ?_) λaM=>dY (bg (by rw[show i=l.length by omega];rfl))
 have aM:i<l.length:=by omega
 have m:=hs _ (GZ aM);have s:=GY m.1 m.2;refine ea (K:=bN) (l:=l) (j:=i) ae ae ?_;refine q8 (K:=bN) (l:=l) (j:=i) rfl ?_;refine kf (K:=bN) (l:=l) (j:=i) (o:=5) (u:=n6 (l.getD i default).2.2.2) ae ae ?_;refine kD (a:=(l.getD i default).2.2.2) (b:=(l.getD i default).2.2.2) ae ae ?_;refine kC ae ae ?_;refine aZ ?_;exact dN (i+1) ae ae aM af
end Mu
theorem Mv {α:Type} [Inhabited α] {l k:List α} (hl:l.length=k.length) (h:∀j,j<l.length->l.getD j default=k.getD j default):l=k:=by
 apply List.ext_getElem hl;intro i h1 ad;have:=h i h1
 rwa [de,de,fc h1,fc ad] at this
theorem UO (p q:bw):l0 Tryd.prog 10000 44 (T.val p) (T.val q)=some (p.1==q.1&&((p.2.1==q.2.1&&(p.2.2.1==q.2.2.1&&(p.2.2.2==q.2.2.2&&true)))&&true)):=a6
theorem UP (p q:bw):(p.1==q.1&&((p.2.1==q.2.1&&(p.2.2.1==q.2.2.1&&(p.2.2.2==q.2.2.2&&true)))&&true))=decide (p=q):=by
 obtain⟨a,b,c,d⟩:=p;obtain⟨aL,b',c',iS⟩:=q;rw[Bool.eq_iff_iff];simp
theorem UQ (p q:b8):l0 Tryd.prog 10000 58 (Q.val p) (Q.val q)=some ((p.1.1==q.1.1&&(p.1.2.1==q.1.2.1&&(p.1.2.2==q.1.2.2&&true)))&&(p.2.1==q.2.1&&(p.2.2.1==q.2.2.1&&(p.2.2.2==q.2.2.2&&true)))):=a6
theorem UR (p q:b8):((p.1.1==q.1.1&&(p.1.2.1==q.1.2.1&&(p.1.2.2==q.1.2.2&&true)))&&(p.2.1==q.2.1&&(p.2.2.1==q.2.2.1&&(p.2.2.2==q.2.2.2&&true))))=decide (p=q):=by
 obtain⟨⟨a,b,c⟩,d,e,f⟩:=p;obtain⟨⟨aL,b',c'⟩,iS,e',gL⟩:=q;rw[Bool.eq_iff_iff];simp [and_assoc]
namespace Mw
def t:aN:=
.o (.len #[22] 3 0) 2 1 [0,44]<|
.o (.len #[22] 3 1) 3 1 [0,44]<|
.o (.bin .neq 3 2 3) 4 1 []<|
.a1 4 (
 .ret (.bool false)) (
 .loop [n6 0,.bool false] 2<|
 .o (.len #[22] 3 0) 7 1 [0,44]<|
 .o (.bin .lss 3 5 7) 8 1 []<|
 .a1 8 (
  .o (.ca 22 0 5) 9 1 [0,44,4]<|
  .o (.ld 44 9) (.agg ⟨dt 4 10⟩) 4 [4]<|
  .o (.ca 22 1 5) 14 1 [0,44,4]<|
  .o (.ld 44 14) (.agg ⟨dt 4 15⟩) 4 [4]<|
  .o (.bin .neq 44 (.agg ⟨[10,11,12,13]⟩) (.agg ⟨[15,16,17,18]⟩)) 19 1 []<|
  .a1 19 (
   .cu<|
   .ret (.bool false)) (
   .o (.bin .add 3 5 (n6 1)) 20 1 []<|
   .back [20,6])) (
  .cu<|
  .ret (.bool true)))
theorem bq:cL Tryd.prog 19 {} [0,1] 2=some t:=cT a6
theorem any {W:aj} {sy:I} {l:List bw} (hl:bH (aS W) 4 ef sy l) {yL:I} {k:List bw} (hk:bH (aS W) 4 ef yL k) (ah:l.length<=1000000):c_ bf 19 [sy,yL] W (.bool (decide (l=k))):=by
 obtain⟨a,c,rfl⟩:=hl.slice;obtain⟨a2,c2,rfl⟩:=hk.slice;refine dc (ro:=[⟨br,.slice a l.length c,l⟩,⟨br,.slice a2 k.length c2,k⟩]) mixed bq [.slice a l.length c,.slice a2 k.length c2] (.cons hl (.cons hk (.nil _))) ?_;unfold t;refine aZ ?_;refine bD rfl (λh=>bg ?_) λh=> ?_
 ·exact fA (λe=>h (by rw[e]))
 ·have pJ:l.length=k.length:=by omega
  refine gJ Nat (λi=>[n6 (i:Nat),.bool false]) (λ_=>[]) (λi=>i<=l.length/\∀j,j<i->l.getD j default=k.getD j default) (λi=>l.length-i) 0 ae ae ⟨Nat.zero_le _,λj hj=>absurd hj (Nat.not_lt_zero j)⟩ (λi J=> ?_);obtain⟨J,bc⟩:=J;refine aZ ?_;refine bD rfl (λaM=> ?_) λaM=> ?_
  ·have aM:i<l.length:=by omega
   have ev:i<k.length:=by omega
   refine ea (K:=br) (l:=l) (j:=i) ae ae ?_;refine fI (K:=br) (l:=l) (j:=i) (o:=0) (c:=ef (l.getD i default)) ae ae ae ew ?_;refine ea (K:=br) (l:=k) (j:=i) ae ae ?_;refine fI (K:=br) (l:=k) (j:=i) (o:=0) (c:=ef (k.getD i default)) ae ae ae ew ?_;refine Gb (b:=decide (l.getD i default=k.getD i default)) ae ae ((UO _ _).trans (by rw[UP])) ?_;refine mF rfl (λch=> ?_) λheq=> ?_
   ·exact dY (bg (fA (λe=>ch (by rw[e]))))
   ·refine aZ ?_
    refine dN (i+1) ae ae ⟨aM,λj hj=> ?_⟩ af;rcases Nat.lt_succ_iff_lt_or_eq.1 hj with h1|h1
    ·exact bc j h1
    ·rw[h1];exact heq
  ·refine dY (bg ?_)
   rw[jh (Mv pJ λj hj=>bc j af)];rfl
end Mw
namespace Mx
def t:aN:=
.o (.len #[27] 3 0) 2 1 [0,58]<|
.o (.len #[27] 3 1) 3 1 [0,58]<|
.o (.bin .neq 3 2 3) 4 1 []<|
.a1 4 (
 .ret (.bool false)) (
 .loop [n6 0,.bool false] 2<|
 .o (.len #[27] 3 0) 7 1 [0,58]<|
 .o (.bin .lss 3 5 7) 8 1 []<|
 .a1 8 (
  .o (.ca 27 0 5) 9 1 [0,58,6]<|
  .o (.ld 58 9) (.agg ⟨dt 6 10⟩) 6 [6]<|
  .o (.ca 27 1 5) 16 1 [0,58,6]<|
  .o (.ld 58 16) (.agg ⟨dt 6 17⟩) 6 [6]<|
  .o (.bin .neq 58 (.agg ⟨[10,11,12,13,14,15]⟩) (.agg ⟨[17,18,19,20,21,22]⟩)) 23 1 []<|
  .a1 23 (
   .cu<|
   .ret (.bool false)) (
   .o (.bin .add 3 5 (n6 1)) 24 1 []<|
   .back [24,6])) (
  .cu<|
  .ret (.bool true)))
theorem bq:cL Tryd.prog 12 {} [0,1] 2=some t:=cT a6
theorem any {W:aj} {sy:I} {l:List b8} (hl:bH (aS W) 6 gZ sy l) {yL:I} {k:List b8} (hk:bH (aS W) 6 gZ yL k) (ah:l.length<=10000000):c_ bf 12 [sy,yL] W (.bool (decide (l=k))):=by
 obtain⟨a,c,rfl⟩:=hl.slice;obtain⟨a2,c2,rfl⟩:=hk.slice;refine dc (ro:=[⟨bN,.slice a l.length c,l⟩,⟨bN,.slice a2 k.length c2,k⟩]) mixed bq [.slice a l.length c,.slice a2 k.length c2] (.cons hl (.cons hk (.nil _))) ?_;unfold t;refine aZ ?_;refine bD rfl (λh=>bg ?_) λh=> ?_
 ·exact fA (λe=>h (by rw[e]))
 ·have pJ:l.length=k.length:=by omega
  refine gJ Nat (λi=>[n6 (i:Nat),.bool false]) (λ_=>[]) (λi=>i<=l.length/\∀j,j<i->l.getD j default=k.getD j default) (λi=>l.length-i) 0 ae ae ⟨Nat.zero_le _,λj hj=>absurd hj (Nat.not_lt_zero j)⟩ (λi J=> ?_);obtain⟨J,bc⟩:=J;refine aZ ?_;refine bD rfl (λaM=> ?_) λaM=> ?_
  ·have aM:i<l.length:=by omega
   have ev:i<k.length:=by omega
   refine ea (K:=bN) (l:=l) (j:=i) ae ae ?_;refine fI (K:=bN) (l:=l) (j:=i) (o:=0) (c:=gZ (l.getD i default)) ae ae ae ew ?_;refine ea (K:=bN) (l:=k) (j:=i) ae ae ?_;refine fI (K:=bN) (l:=k) (j:=i) (o:=0) (c:=gZ (k.getD i default)) ae ae ae ew ?_;refine Gb (b:=decide (l.getD i default=k.getD i default)) ae ae ((UQ _ _).trans (by rw[UR])) ?_;refine mF rfl (λch=> ?_) λheq=> ?_
   ·exact dY (bg (fA (λe=>ch (by rw[e]))))
   ·refine aZ ?_
    refine dN (i+1) ae ae ⟨aM,λj hj=> ?_⟩ af;rcases Nat.lt_succ_iff_lt_or_eq.1 hj with h1|h1
    ·exact bc j h1
    ·rw[h1];exact heq
  ·refine dY (bg ?_)
   rw[jh (Mv pJ λj hj=>bc j af)];rfl
end Mx
def BJ (x:List Int):Prop:=x.length=64/\∀j,j<64->0<=x.getD j default/\x.getD j default<=255
instance (x:List Int):Decidable (BJ x):=by unfold BJ;infer_instance
def ug (l:List bw) (ai:List eK):Prop:=l.length=ai.length/\∀k,k<ai.length->BJ (ai.getD k default).2
instance (l:List bw) (ai:List eK):Decidable (ug l ai):=by unfold ug;infer_instance
namespace BK
def t:aN:=
.o (.len #[22] 3 0) 2 1 [0,44]<|
.o (.len #[23] 3 1) 3 1 [0,61]<|
.o (.bin .neq 3 2 3) 4 1 []<|
.a1 4 (
 .ret (.bool false)) (
 .loop [n6 0,.bool false] 2<|
 .o (.len #[23] 3 1) 7 1 [0,61]<|
 .o (.bin .lss 3 5 7) 8 1 []<|
 .a1 8 (
  .o (.ca 23 1 5) 9 1 [0,61,1]<|
  .o (.ld 61 9) 10 1 [1]<|
  .o (.len #[61] 3 10) 11 1 [0,3]<|
  .o (.bin .neq 3 11 (n6 64)) 12 1 []<|
  .a1 12 (
   .cu<|
   .ret (.bool false)) (
   .loop [6,n6 0] 2<|
   .o (.bin .lss 3 14 (n6 64)) 15 1 []<|
   .a1 15 (
    .o (.ca 23 1 5) 16 1 [0,61,1]<|
    .o (.ld 61 16) 17 1 [1]<|
    .o (.ca 61 17 14) 18 1 [0,3,1]<|
    .o (.ld 3 18) 19 1 [1]<|
    .o (.bin .lss 3 19 (n6 0)) 20 1 []<|
    .a1 20 (
     .cu<|
     .cu<|
     .ret (.bool false)) (
     .o (.ca 23 1 5) 21 1 [0,61,1]<|
     .o (.ld 61 21) 22 1 [1]<|
     .o (.ca 61 22 14) 23 1 [0,3,1]<|
     .o (.ld 3 23) 24 1 [1]<|
     .o (.bin .gtr 3 24 (n6 255)) 25 1 []<|
     .a1 25 (
      .cu<|
      .cu<|
      .ret (.bool false)) (
      .o (.bin .add 3 14 (n6 1)) 26 1 []<|
      .back [13,26]))) (
    .cu<|
    .o (.bin .add 3 5 (n6 1)) 16 1 []<|
    .back [16,13]))) (
  .cu<|
  .ret (.bool true)))
theorem bq:cL Tryd.prog 26 {} [0,1] 2=some t:=cT a6
theorem any {W:aj} {a a2:ht} {n c n2 c2:Nat} {l:List bw} {ai:List eK} (hl:bH (aS W) 4 ef (.slice a n c) l) (ah:n=l.length) (hC:bH (aS W) 1 lB (.slice a2 n2 c2) ai) (gj:n2=ai.length) (U:ai.length<=100000) (fQ:∀x∈ai,bH (aS W) 1 encI (fJ x) x.2):c_ bf 26 [.slice a n c,.slice a2 n2 c2] W (.bool (decide (ug l ai))):=by
 subst ah gj;refine dc (ro:=⟨br,.slice a l.length c,l⟩::⟨gB,.slice a2 ai.length c2,ai⟩::nr ai) mixed bq [.slice a l.length c,.slice a2 ai.length c2] (.cons hl (.cons hC (sz fQ))) ?_;unfold t;refine aZ ?_;refine bD rfl (λh=>bg (fA λq=>h (by rw[q.1]))) λh0=> ?_
 have h0:l.length=ai.length:=by omega
 refine gJ Nat (λi=>[n6 (i:Nat),.bool false]) (λ_=>[]) (λi=>i<=ai.length/\∀k,k<i->BJ (ai.getD k default).2) (λi=>ai.length-i) 0 ae ae ⟨Nat.zero_le _,λj hj=>absurd hj (Nat.not_lt_zero j)⟩ (λi J=> ?_);obtain⟨J,bc⟩:=J;refine aZ ?_;refine bD rfl (λaM=> ?_) λaM=>dY (bg (Ue ⟨h0,λk hk=>bc k af⟩))
 have aM:i<ai.length:=by omega
 have hm:=BE aM;refine ea (K:=gB) (l:=ai) (j:=i) ae ae ?_ (hs:= .ro (.s .z));refine kf (K:=gB) (l:=ai) (j:=i) (o:=0) (u:=fJ (ai.getD i default)) ae ae ?_ (hs:= .ro (.s .z));refine l_ rfl ?_;refine aZ ?_;refine bD rfl (λh=>dY (bg (fA λq=>by have:=(q.2 i aM).1;omega))) λBG=> ?_
 have BG:(ai.getD i default).2.length=64:=by omega
 refine gJ Nat (λj=>[.bool false,n6 (j:Nat)]) (λ_=>[]) (λj=>j<=64/\∀x,x<j->0<=(ai.getD i default).2.getD x default/\(ai.getD i default).2.getD x default<=255) (λj=>64-j) 0 ae ae ⟨Nat.zero_le _,λj hj=>absurd hj (Nat.not_lt_zero j)⟩ (λj hj=> ?_);obtain⟨hj,sA⟩:=hj;refine aZ ?_;refine bD rfl (λev=> ?_) λev=> ?_
 ·have ev:j<64:=by omega
  refine ea (K:=gB) (l:=ai) (j:=i) ae ae ?_ (hs:= .ro (.s .z));refine kf (K:=gB) (l:=ai) (j:=i) (o:=0) (u:=fJ (ai.getD i default)) ae ae ?_ (hs:= .ro (.s .z));refine ea (K:=hv) (v:=fJ (ai.getD i default)) (l:=(ai.getD i default).2) (j:=j) ae ae ?_ (hs:= .ro (.s (.s (mG hm)))) (hj:=by omega);refine kf (K:=hv) (v:=fJ (ai.getD i default)) (l:=(ai.getD i default).2) (j:=j) (o:=0) (u:=n6 ((ai.getD i default).2.getD j default)) ae ae ?_ (hs:= .ro (.s (.s (mG hm)))) (hj:=by omega);refine aZ ?_;refine bD rfl (λh=>dY (dY (bg (fA λq=>by have:=(q.2 i aM).2 j ev;omega)))) λl1=> ?_
  refine ea (K:=gB) (l:=ai) (j:=i) ae ae ?_ (hs:= .ro (.s .z));refine kf (K:=gB) (l:=ai) (j:=i) (o:=0) (u:=fJ (ai.getD i default)) ae ae ?_ (hs:= .ro (.s .z));refine ea (K:=hv) (v:=fJ (ai.getD i default)) (l:=(ai.getD i default).2) (j:=j) ae ae ?_ (hs:= .ro (.s (.s (mG hm)))) (hj:=by omega);refine kf (K:=hv) (v:=fJ (ai.getD i default)) (l:=(ai.getD i default).2) (j:=j) (o:=0) (u:=n6 ((ai.getD i default).2.getD j default)) ae ae ?_ (hs:= .ro (.s (.s (mG hm)))) (hj:=by omega);refine aZ ?_;refine bD rfl (λh=>dY (dY (bg (fA λq=>by have:=(q.2 i aM).2 j ev;omega)))) λl2=> ?_
  refine aZ ?_;refine dN (j+1) ae ae ⟨ev,λx ag=> ?_⟩ af;rcases Nat.lt_succ_iff_lt_or_eq.1 ag with h1|h1
  ·exact sA x h1
  ·rw[h1];omega
 ·refine dY ?_
  refine aZ ?_;refine dN (i+1) ae ae ⟨aM,λk hk=> ?_⟩ af;rcases Nat.lt_succ_iff_lt_or_eq.1 hk with h1|h1
  ·exact bc k h1
  ·rw[h1];exact⟨BG,λx ag=>sA x af⟩
end BK
end AE
end
end
end Go.Proofs.YtmfckpdcljjdjaaDoor
namespace Go.Proofs.YtmfckpdcljjdjaaDoor
open Go Go.Proofs Go.RowKit Go.Shelf
namespace AE
theorem dJ.grow {w w':aj} (h:dJ w.heap.size w w'):∃q os,w'=Sort.grow (w.drewN q) os:=by
 refine⟨w'.drawn-w.drawn,w'.heap.extract w.heap.size w'.heap.size,?_⟩;have aH:w.drawn<=w'.drawn:=h.drawn;have h1:w'.heap=w.heap++w'.heap.extract w.heap.size w'.heap.size:=by
  apply Array.ext_getElem?;intro i;rw[Array.getElem?_append];split
  ·rename_i J
   exact h.block i J
  ·rename_i J
   rw[Array.getElem?_extract];split
   ·congr 1;omega
   ·rename_i ad
    have:=h.size;rw[Array.getElem?_eq_none af]
 obtain⟨heap,tape,drawn,os,output⟩:=w';have e1:=h.below.os;have e2:=h.below.tape;have fg:=h.below.output;simp only at e1 e2 fg h1 aH ⊢;subst e1;subst e2;subst fg;unfold Sort.grow World.drewN;simp only [World.mk.injEq,and_true,true_and];exact⟨h1,af⟩
section
variable {α:Type} [Inhabited α] {k:Nat} {enc:α->List I}
theorem My (hk:∀x,(enc x).length=k) (l:List α):(Sort.flatK enc k l.toArray).toList=l.flatMap enc:=by
 apply List.ext_getElem?;intro j;rcases Nat.lt_or_ge j (l.length*k) with hj|hj
 ·have k0:0<k:=by rcases Nat.eq_zero_or_pos k with h|h;· subst h;simp at hj
                  ·exact h
  have J:j/k<l.length:=Nat.div_lt_of_lt_mul (by rwa [Nat.mul_comm] at hj);have hr:j%k<k:=Nat.mod_lt _ k0;have ad:=r9 hk l (j/k) _ (fc J) (j%k) ((enc l[j/k])[j%k]'(by rw[hk];exact hr)) (fc _);rw[Nat.div_add_mod'] at ad;rw[ad,Array.getElem?_toList,Array.getElem?_eq_getElem (by simpa using hj)];congr 1;have al:=Sort.get_flatK enc k l.toArray j (by simpa using hj);rw[getElem!_pos _ j (by simpa using hj)] at al;rw[al];have e1:l.toArray[j/k]! =l[j/k]:=by rw[getElem!_pos _ _ (by simpa using J)];simp
  rw[e1,getElem!_pos _ _ (by rw[hk];exact hr)]
 ·rw[List.getElem?_eq_none (show (Sort.flatK enc k l.toArray).toList.length<=j by simpa using hj),List.getElem?_eq_none (show (l.flatMap enc).length<=j by rw[lY hk];exact hj)]
theorem US (F cur:Array I) (h:F.size<=cur.size):(Sort.putCells id 0 F cur).toList.take F.size=F.toList:=by
 apply List.ext_getElem?;intro j;rw[List.getElem?_take];split
 ·rename_i hj
  unfold Sort.putCells;rw[Array.getElem?_toList,Array.getElem?_mapIdx,Array.getElem?_eq_getElem af,Array.getElem?_toList,Array.getElem?_eq_getElem hj];simp only [Option.map_some,Nat.zero_le,Nat.zero_add,true_and,hj,if_true,id];rw[Nat.sub_zero,getElem!_pos F j hj]
 ·rename_i hj
  rw[List.getElem?_eq_none (by simpa using hj)]
abbrev UT (cf:α->α->Int) (l:List α):={l':List α // l'.Perm l/\l'.Pairwise λx z=>ltOf cf z x=false}
theorem UU {cf:α->α->Int} {l:List α} {iS:Array α} (hp:Sort.PermIn 0 l.toArray.size l.toArray iS) (hs:Sort.SortedIn (ltOf cf) 0 l.toArray.size iS):iS.toList.Perm l/\iS.toList.Pairwise λx z=>ltOf cf z x=false:=by
 obtain⟨h1,_,al⟩:=hp;constructor
 ·have e1:iS.extract 0 l.toArray.size=iS:=by rw[<-h1];simp
  have e2:l.toArray.extract 0 l.toArray.size=l.toArray:=by simp
  rw[e1,e2] at al;exact al
 ·rw[List.pairwise_iff_getElem]
  intro i j J hj hY;have:=hs i j (Nat.zero_le _) hY (by rw[<-h1];simpa using hj);rw[getElem!_pos iS i (by simpa using J),getElem!_pos iS j (by simpa using hj)] at this;simpa using this
theorem UW {P:aC} {ρ:Go.Shelf.Ren} (L:SlLaysF0.n6 P ρ) {e:az} {a:Option Addr} {c:Nat} {l:List α} {w:aj} (UX:∀w,(isAgg (ρ.t 24)).run P w= .ok true w) (UY:∀w,(Go.sizeOf (ρ.t 24)).run P w= .ok k w) (hk:∀x,(enc x).length=k) (h1:∀x,∀v∈enc x,v.oneCell'=true)
  (cf:α->α->Int) (hO:Sort.SWO (ltOf cf)) (g:Nat) (UZ:∀args w,(callFunc g args).run P w= .ok (.enter g args) w)
  (U0:∀w x y,Calls P g #[.agg (enc x).toArray,.agg (enc y).toArray] w λe w'=>e= .returned (.int .i64 (cf x y))/\dJ w.heap.size w w')
  (hf:di 0 (aS w) e k enc (.slice a l.length c) l) (ah:l.length<4611686018427387904):
  Calls P (ρ.f 6) #[.slice a l.length c,.func (.func g) #[] #[]] w λe' w'=>(∃y:UT cf l,e'= .returned (.tuple #[])/\gx (aS w) [ni e k enc (.slice a l.length c) l] (aS w') [ni e k enc (.slice a l.length c) y.1])/\dJ 0 w w':=by
 rcases hf with ⟨aL,h0,rfl⟩|⟨iy,cap,cur,h0,hB,oM,aV,pV,vy,ez,ta⟩
 ·cases h0
  refine(AnyF.slices_SortFunc_none L a 0 (.func (.func g) #[] #[]) w).mono λe' w' he=> ?_
  obtain⟨rfl,rfl⟩:=he;exact⟨⟨⟨[],List.Perm.nil,List.Pairwise.nil⟩,rfl,Aw (B:=0) (.inl ⟨a,rfl,rfl⟩) λi o h _=>h⟩,dJ.refl 0 _⟩
 ·cases h0
  have av:w.heap[iy]? =some (.cells cur e (0,0)):=aV;have hblk:iy<w.heap.size:=(Array.getElem?_eq_some_iff.1 av).1;have oN:=My hk l;have bt:(Sort.flatK enc k l.toArray).size=l.length*k:=by simp
  have hle:l.length*k<=cur.size:=by rw[ez];exact Nat.mul_le_mul_right k pV
  have U1:Sort.HoldsK enc k w iy 0 l.toArray:=by
   intro j hj;rw[bt] at hj;refine⟨?_,frozen_of_row w _ _ _ _ av⟩;rw[cell_of_row w _ _ _ _ _ av,Nat.zero_add];have al:(cur.toList.take (l.length*k))[j]? =(Sort.flatK enc k l.toArray).toList[j]? :=by rw[ta,oN]
   rw[List.getElem?_take,aR hj,Array.getElem?_toList,Array.getElem?_toList] at al;rw[al,Array.getElem?_eq_getElem (by rw[bt];exact hj),getElem!_pos _ _ (by rw[bt];exact hj)];rfl
  have hC:CmpLays P g #[] enc k cf iy 0 l.toArray.size w:=λm os XV _ x y=>(U0 _ x y).mono λe' w' he=>⟨he.1,he.2.grow⟩
  have l3:=AnyQ.slices_SortFunc L k UX UY enc hk h1 cf hO g #[] iy 0 c l.toArray w UZ hC U1 hblk (by simpa using ah);have c3:l.toArray.size=l.length:=by simp
  rw[c3] at l3;refine l3.mono λe' w' he=> ?_
  obtain⟨rfl,iS,n,os,hp,hs,nA⟩:=he;have kL:=UU (l:=l) (by rw[c3];exact hp) (by rw[c3];exact hs);have U2:iS.size=l.length:=by rw[hp.1];simp
  obtain⟨l',eS⟩:∃l',l'=iS.toList:=⟨_,rfl⟩;have U3:iS=l'.toArray:=by rw[eS]
  rw[<-eS] at kL;have hlen:l'.length=l.length:=by rw[eS,Array.length_toList];exact U2
  rw[U3] at nA;have U4:dq (.slice (some ⟨iy,0,none⟩) l.length c)=some iy:=jN _ _ hB;have vk:(Sort.flatK enc k l'.toArray).size=l.length*k:=by simp [hlen]
  have kK:∀i,i<w.heap.size->w'.heap[i]? =(w.heap.modify iy (Sort.onCells (Sort.putCells id 0 (Sort.flatK enc k l'.toArray))))[i]? :=λi J=>by
   rw[nA];show (Sort.grow _ os).heap[i]? =_;rw[Sort.heap_grow_old _ _ (by simpa [Sort.putRowK,Sort.size_putRow] using J)];rfl
  have U5:w'.heap[iy]? =some (.cells (Sort.putCells id 0 (Sort.flatK enc k l'.toArray) cur) e (0,0)):=by
   rw[kK iy hblk,Array.getElem?_modify,aR rfl,av];rfl
  have U6:∀i,i<w.heap.size->some i≠some iy->w'.heap[i]? =w.heap[i]? :=λi J ch=>by
   rw[kK i J,Array.getElem?_modify,aW (λh=>ch (by rw[h]))]
  have eL:w.heap.size<=w'.heap.size:=by
   rw[nA];show _<=(Sort.grow _ os).heap.size;rw[Sort.size_grow];simp only [Sort.putRowK,Sort.size_putRow];exact Nat.le_add_right _ _
  have lL:(w'.os=w.os/\w'.tape=w.tape/\w'.output=w.output)/\w.drawn<=w'.drawn:=by
   rw[nA];exact⟨⟨rfl,rfl,rfl⟩,Nat.le_add_right _ _⟩
  have gM:di 0 (aS w') e k enc (.slice (some ⟨iy,0,none⟩) l.length c) l':=by
   rw[<-hlen];refine .inr ⟨iy,c,Sort.putCells id 0 (Sort.flatK enc k l'.toArray) cur,rfl,hB,Nat.zero_le _,U5,by rw[hlen];exact pV,vy,by simp [Sort.putCells,ez],?_⟩;have:=US (Sort.flatK enc k l'.toArray) cur (by rw[vk];exact hle);rw[vk,My hk l'] at this;rw[hlen];exact this
  refine⟨⟨⟨l',kL⟩,rfl,Aw gM λi o J ch=> ?_⟩,⟨⟨lL.1.1,lL.1.2.1,lL.1.2.2,eL,λi J=>absurd J (Nat.not_lt_zero i)⟩,lL.2⟩⟩;have fZ:w.heap[i]? =some o:=J;show w'.heap[i]? =some o;rw[U6 i (Array.getElem?_eq_some_iff.1 fZ).1 (λh=>ch (by rw[U4];exact h))];exact fZ
end
end AE
namespace AE
def U7:Go.Shelf.Ren:=⟨λ|6=>46|15=>80|14=>79|28=>102|29=>103|20=>94|21=>95|22=>96|23=>97|24=>98|25=>99|26=>100|27=>101|46=>107|47=>108|48=>109|49=>110|50=>111|57=>112|n=>n,λ|22=>27|24=>58|25=>77|3=>3|39=>104|0=>0|53=>120|55=>122|4=>4|46=>114|45=>113|50=>53|5=>5|9=>9|66=>123|70=>127|76=>129|77=>130|n=>n,λ|n=>n⟩
theorem U8:Go.Proofs.SlLaysF0.n6 Tryd.prog U7:={
 mixed:=by kernel_rfl
 f6:=⟨Tryd.f46.name,cG,Tryd.func46.trans (congrArg some a6)⟩
 f14:=⟨Tryd.f79.name,cG,Tryd.func79.trans (congrArg some a6)⟩
 f15:=Tryd.func80.trans (congrArg some a6)
 f20:=⟨Tryd.f94.name,cG,Tryd.func94.trans (congrArg some a6)⟩
 f21:=⟨Tryd.f95.name,cG,Tryd.func95.trans (congrArg some a6)⟩
 f22:=⟨Tryd.f96.name,cG,Tryd.func96.trans (congrArg some a6)⟩
 f23:=⟨Tryd.f97.name,cG,Tryd.func97.trans (congrArg some a6)⟩
 f24:=⟨Tryd.f98.name,cG,Tryd.func98.trans (congrArg some a6)⟩
 f25:=⟨Tryd.f99.name,cG,Tryd.func99.trans (congrArg some a6)⟩
 f26:=⟨Tryd.f100.name,cG,Tryd.func100.trans (congrArg some a6)⟩
 f27:=⟨Tryd.f101.name,cG,Tryd.func101.trans (congrArg some a6)⟩
 f28:=Tryd.func102.trans (congrArg some a6)
 f29:=Tryd.func103.trans (congrArg some a6)
 f46:=⟨Tryd.f107.name,cG,Tryd.func107.trans (congrArg some a6)⟩
 f47:=Tryd.func108.trans (congrArg some a6)
 f48:=Tryd.func109.trans (congrArg some a6)
 f49:=⟨Tryd.f110.name,cG,Tryd.func110.trans (congrArg some a6)⟩
 f50:=⟨Tryd.f111.name,cG,Tryd.func111.trans (congrArg some a6)⟩
 f57:=⟨Tryd.f112.name,cG,Tryd.func112.trans (congrArg some a6)⟩
 t0:=Tryd.underlying0
 a0:=Tryd.isAgg0
 z0:=Tryd.sizeOf0
 v0:=Tryd.zeroValue0
 t3:=Tryd.underlying3
 a3:=Tryd.isAgg3
 z3:=Tryd.sizeOf3
 v3:=Tryd.zeroValue3
 t4:=Tryd.underlying4
 a4:=Tryd.isAgg4
 z4:=Tryd.sizeOf4
 v4:=Tryd.zeroValue4
 t5:=Tryd.underlying5
 a5:=Tryd.isAgg5
 z5:=Tryd.sizeOf5
 v5:=Tryd.zeroValue5
 t9:=Tryd.underlying9
 a9:=Tryd.isAgg9
 z9:=Tryd.sizeOf9
 v9:=Tryd.zeroValue9
 t22:=Tryd.underlying27
 a22:=Tryd.isAgg27
 z22:=Tryd.sizeOf27
 v22:=Tryd.zeroValue27
 t25:=Tryd.underlying77
 a25:=Tryd.isAgg77
 z25:=Tryd.sizeOf77
 v25:=Tryd.zeroValue77
 t39:=Tryd.underlying104
 a39:=Tryd.isAgg104
 z39:=Tryd.sizeOf104
 v39:=Tryd.zeroValue104
 t45:=Tryd.underlying113
 a45:=Tryd.isAgg113
 z45:=Tryd.sizeOf113
 v45:=Tryd.zeroValue113
 t46:=Tryd.underlying114
 a46:=Tryd.isAgg114
 z46:=Tryd.sizeOf114
 v46:=Tryd.zeroValue114
 t50:=Tryd.underlying53
 a50:=Tryd.isAgg53
 z50:=Tryd.sizeOf53
 v50:=Tryd.zeroValue53
 t53:=Tryd.underlying120
 a53:=Tryd.isAgg120
 z53:=Tryd.sizeOf120
 v53:=Tryd.zeroValue120
 t55:=Tryd.underlying122
 a55:=Tryd.isAgg122
 z55:=Tryd.sizeOf122
 v55:=Tryd.zeroValue122
 t66:=Tryd.underlying123
 a66:=Tryd.isAgg123
 z66:=Tryd.sizeOf123
 v66:=Tryd.zeroValue123
 t70:=Tryd.underlying127
 a70:=Tryd.isAgg127
 z70:=Tryd.sizeOf127
 v70:=Tryd.zeroValue127
 t76:=Tryd.underlying129
 a76:=Tryd.isAgg129
 z76:=Tryd.sizeOf129
 v76:=Tryd.zeroValue129
 t77:=Tryd.underlying130
 a77:=Tryd.isAgg130
 z77:=Tryd.sizeOf130
 v77:=Tryd.zeroValue130}
end AE
end Go.Proofs.YtmfckpdcljjdjaaDoor
namespace Go.Proofs.YtmfckpdcljjdjaaDoor
open Go Go.Proofs Go.RowKit
section
noncomputable section
namespace AE
theorem U9 {P:aC} {t e:az} {n j aG:Nat} {cs:List I} {k:IntKind} (aE:P.underlying t=some (.array n e)) (bt:aP P (sizeOf e)=some aG) (ha:aP P (isAgg e)=some true) (hj:j<n) (w:aj):(Instr.index t (.agg ⟨cs⟩) (.int k (j:Nat))).run P w= .ok (.agg ⟨(cs.drop (j*aG)).take aG⟩) w:=by
 have h1:(asIntOf (.int k (j:Nat))).run P w= .ok (k,((j:Nat):Int)) w:=rfl;have aq:(0:Int)<=((j:Nat):Int)/\((j:Nat):Int)<((n:Nat):Int):=⟨af,af⟩;unfold Instr.index;simp only [Sem.run_bind,h1,Result.andThen_ok,run_underlying aE];rw[aR aq];simp only [Sem.run_bind,f' bt w,Result.andThen_ok];unfold part;simp only [Sem.run_bind,f' ha w,Result.andThen_ok,if_true,f' bt w];simp [List.extract_eq_take_drop]
theorem bE.U' [aX] {P:aC} {t e:az} {x i r:I} {n j aG:Nat} {cs:List I} {k:IntKind} (ag:aF x=true) (J:aF i=true) (hr:aF r=true) (aE:P.underlying t=some (.array n e)) (bt:aP P (sizeOf e)=some aG) (ha:aP P (isAgg e)=some true) (hj:j<n)
  (ex:aK x= .agg ⟨cs⟩) (e_:aK i= .int k (j:Nat)) (cN:aK r= .agg ⟨(cs.drop (j*aG)).take aG⟩):bE P (.ei t x i,r):=by
 refine Es (by simp [kR,ag,J]) hr rfl λc6 c7 w _=> ?_
 show (eO c6 c7 (.ei t (aK x) (aK i))).run P w=_;rw[ex,e_,cN];unfold eO;simp only [Sem.run_bind,U9 aE bt ha hj w,Result.andThen_ok];rfl
section
variable {B:Nat} {W:aj} {ak:List cr} {ro:List (eB bf)} {post:I->List (aI bf)->Prop} {n q:Nat} {env:List I} {L:List (aI bf)} {ay:List (df bf)} {k:aN} {aq:List Nat} {t:az} {x y i:I}
theorem U_ {m e j aG:Nat} {kd:IntKind} {cs c:List I} (ag:ex env n x= .agg ⟨cs⟩) (J:ex env n i= .int kd (j:Nat)) (hu:(cs.drop (j*aG)).take aG=c) (ao:c.length=aG) (h1:dX c) (h:X B W ak ro post (q+aG) (hG c aG env) L ay k) (hj:j<m:=by omega) (aE:bf.underlying t=some (.array m e):=by kernel_rfl) (bt:aP bf (sizeOf e)=some aG:=by kernel_rfl) (ha:aP bf (isAgg e)=some true:=by kernel_rfl) (cw:aF x=true:=by rfl) (pi:aF i=true:=by rfl) (yp:ho n x=true:=by rfl) (Va:ho n i=true:=by rfl) (av:Nat.blt (q+aG) cP=true:=by rfl) (aA:n=q:=by rfl):
  X B W ak ro post n env L ay (.o (.ei t x i) (.agg ⟨dt aG q⟩) aG [1,m,e,aG] k):=⟨λah ax=>
 F' c ao h1 (λM aV hr kE ig=>by
  have e:hG c aG env=c.reverse++env:=by rw[sk,tW c aG ao]
  refine @bE.U' (bC M (hG c aG env)) bf t _ x i _ m j aG cs kd cw pi (A_ aG q) aE bt ha hj ?_ ?_ (ig.trans (by rw[hu]))
  ·rw[e,<-hq (l6 M M ah) x yp,gR M ax ah,ag]
  ·rw[e,<-hq (l6 M M ah) i Va,gR M ax ah,J]) h av aA ah ax⟩
theorem BL {a b:Bool} (ag:ex (.bool (decide (a=b))::env) (q+1) x= .bool a) (aT:ex (.bool (decide (a=b))::env) (q+1) y= .bool b) (h:X B W ak ro post (q+1) (.bool (decide (a=b))::env) L ay k) (cw:aF x=true:=by rfl) (eC:aF y=true:=by rfl) (av:Nat.blt q cP=true:=by rfl) (aA:n=q:=by rfl):
  X B W ak ro post n env L ay (.o (.bin .eql 4 x y) (bP q) 1 aq k):=
 by
 cases a<;>cases b
 ·exact gO _ (λM _ _ J hs=>q5 (@R9 (bC M (_::env)) _ _ _ _ cw eC ((J x).trans ag) ((J y).trans aT) (by simp) (by simp)) (by rw[hs];rfl)) h rfl av aA
 ·exact gO _ (λM _ _ J hs=>q5 (@R8 (bC M (_::env)) _ _ _ _ cw eC ((J x).trans ag) ((J y).trans aT) (by simp) rfl) (by rw[hs];rfl)) h rfl av aA
 ·exact gO _ (λM _ _ J hs=>q5 (@R7 (bC M (_::env)) _ _ _ _ cw eC ((J x).trans ag) ((J y).trans aT) rfl (by simp)) (by rw[hs];rfl)) h rfl av aA
 ·exact gO _ (λM _ _ J hs=>q5 (@R6 (bC M (_::env)) _ _ _ _ cw eC ((J x).trans ag) ((J y).trans aT) ae ae) (by rw[hs];rfl)) h rfl av aA
end
def kX (a b:Int):Int:=if a<b then -1 else if b<a then 1 else 0
def n_:List Int->Int
 |[]=>0
 |x::r=>if x≠0 then x else n_ r
def uh (a b:b8):Int:=n_ [kX a.2.1 b.2.1,kX a.1.2.2 b.1.2.2,kX a.1.2.1 b.1.2.1,kX a.1.1 b.1.1]
theorem Vb {l:List Int} {i:Nat} (J:i<l.length) (h0:∀j,j<i->l.getD j default=0) (h:l.getD i default≠0):n_ l=l.getD i default:=by
 induction l generalizing i with
 |nil=>simp at J
 |cons x r bI=>
  unfold n_;cases i with
  |zero=>exact aR h
  |succ i=>
   have e:x=0:=h0 0 af;rw[aW (by simp [e])];exact bI (by simpa using J) (λj hj=>h0 (j+1) af) h
theorem Vc {l:List Int} (h0:∀j,j<l.length->l.getD j default=0):n_ l=0:=by
 induction l with
 |nil=>rfl
 |cons x r bI=>
  unfold n_;have e:x=0:=h0 0 (by simp);rw[aW (by simp [e])];exact bI λj hj=>h0 (j+1) (by simpa using hj)
namespace Mz
def t:aN:=
.o (.len #[61] 3 0) 1 1 [0,3]<|
.loop [n6 0,n6 0] 2<|
.o (.bin .lss 3 3 1) 4 1 []<|
.a1 4 (
 .o (.ca 61 0 3) 5 1 [0,3,1]<|
 .o (.ld 3 5) 6 1 [1]<|
 .o (.bin .neq 3 6 (n6 0)) 7 1 []<|
 .a1 7 (
  .cu<|
  .ret 6) (
  .o (.bin .add 3 3 (n6 1)) 8 1 []<|
  .back [2,8])) (
 .cu<|
 .ret (n6 0))
theorem bq:cL Tryd.prog 48 {} [0] 1=some t:=cT a6
theorem any {W:aj} {a:ht} {n c:Nat} {l:List Int} (hl:bH (aS W) 1 encI (.slice a n c) l) (ah:n=l.length) (U:l.length<=10000):c_ bf 48 [.slice a n c] W (n6 (n_ l)):=by
 subst ah;refine dc (ro:=[⟨hv,.slice a l.length c,l⟩]) mixed bq [.slice a l.length c] (.cons hl (.nil _)) ?_;unfold t;refine aZ ?_;refine gJ Nat (λi=>[n6 0,n6 (i:Nat)]) (λ_=>[]) (λi=>i<=l.length/\∀j,j<i->l.getD j default=0) (λi=>l.length-i) 0 ae ae ⟨Nat.zero_le _,λj hj=>absurd hj (Nat.not_lt_zero j)⟩ (λi J=> ?_);obtain⟨J,bc⟩:=J;refine aZ ?_;refine bD rfl (λaM=> ?_) λaM=>dY (bg (by rw[Vc λj hj=>bc j af];rfl))
 have aM:i<l.length:=by omega
 refine ea (K:=hv) (l:=l) (j:=i) ae ae ?_;refine kf (K:=hv) (l:=l) (j:=i) (o:=0) (u:=n6 (l.getD i default)) ae ae ?_;refine aZ ?_;refine bD rfl (λh=>dY (bg (by rw[Vb aM bc h];rfl))) λh=> ?_
 refine aZ ?_;refine dN (i+1) ae ae ⟨aM,λj hj=> ?_⟩ af;rcases Nat.lt_succ_iff_lt_or_eq.1 hj with h1|h1
 ·exact bc j h1
 ·rw[h1];exact Decidable.not_not.1 h
end Mz
namespace MA
def t:aN:=
.c 49 [3,9] 12 1<|
.c 49 [2,8] 13 1<|
.c 49 [1,7] 14 1<|
.c 49 [0,6] 15 1<|
.lq [12,13,14,15] 4 4<|
.c 48 [16] 17 1<|
.ret 17
theorem bq:cL Tryd.prog 47 {} [.agg ⟨[0,1,2,3,4,5]⟩,.agg ⟨[6,7,8,9,10,11]⟩] 12=some t:=cT a6
theorem any {W:aj} (a b:b8):c_ bf 47 [Q.val a,Q.val b] W (n6 (uh a b)):=by
 refine dc (ro:=[]) mixed bq (gZ a++gZ b) (.nil _) ?_;unfold t;refine dm (v:=n6 (kX a.2.1 b.2.1)) (λw _=>wm.any _ _) ?_;refine dm (v:=n6 (kX a.1.2.2 b.1.2.2)) (λw _=>wm.any _ _) ?_;refine dm (v:=n6 (kX a.1.2.1 b.1.2.1)) (λw _=>wm.any _ _) ?_;refine dm (v:=n6 (kX a.1.1 b.1.1)) (λw _=>wm.any _ _) ?_;refine yu (L':=λg=>[.red hv (.slice (some ⟨g,0,none⟩) 4 4) [kX a.2.1 b.2.1,kX a.1.2.2 b.1.2.2,kX a.1.2.1 b.1.2.1,kX a.1.1 b.1.1]]) hv [kX a.2.1 b.2.1,kX a.1.2.2 b.1.2.2,kX a.1.2.1 b.1.2.1,kX a.1.1 b.1.1] rfl (λg=> .z) λg=> ?_
 refine dm (v:=n6 (uh a b)) (λw hw=>Mz.any ((cx.red (K:=hv) (v:= .slice (some ⟨g,0,none⟩) 4 4) has).at hw) rfl (by simp)) ?_;exact bg rfl
end MA
theorem Vd (a b:b8):uh a b<0↔fR a b:=by
 unfold uh n_ n_ n_ n_ n_ kX fR
 repeat' split
 all_goals omega
theorem BM (a b:b8):ltOf uh a b=decide (fR a b):=decide_eq_decide.2 (Vd a b)
theorem Ve:Sort.SWO (ltOf uh) where
 irrefl x:=by rw[BM];exact kJ (by unfold fR;omega)
 trans x y z h1 ad:=by
  rw[BM] at h1 ad ⊢;have h1:=of_decide_eq_true h1;have ad:=of_decide_eq_true ad;refine jh ?_;unfold fR at*
  omega
 ntrans x y z h1 ad:=by
  rw[BM] at h1 ad ⊢;have h1:=of_decide_eq_false h1;have ad:=of_decide_eq_false ad;refine kJ ?_;unfold fR at*
  omega
abbrev Ord (l:List b8):={l':List b8 // l'.Perm l/\l'.Pairwise λx z=>¬fR z x}
namespace MB
theorem any {W:aj} {a:ht} {c:Nat} {l:List b8} (bV:dg (aS W) (bW [aI.arr bN (.slice a l.length c) l])) (ah:l.length<=10000000):jS bf 46 [.slice a l.length c,.func (.func 47) ⟨[]⟩ ⟨[]⟩] W [aI.arr bN (.slice a l.length c) l] (Ord l) (λ_=> .tuple ⟨[]⟩) λy=>[aI.arr bN (.slice a l.length c) y.1]:=
 (UW U8 (f' a6) (f' a6) bN.len bN.one uh Ve 47 (enters_of Tryd.func47 a6 rfl) (λw x y=>MA.any x y) (bV.ok 0 _ rfl) af).mono λe w' he=>by
   obtain⟨⟨y,rfl,aE⟩,hl⟩:=he;exact⟨⟨⟨y.1,y.2.1,y.2.2.imp λ{p q} h=>of_decide_eq_false (by rw[<-BM];exact h)⟩,rfl,aE⟩,hl⟩
end MB
end AE
end
end
section
noncomputable section
namespace AE
def eG (d:Nat):Int:=((d/2:Nat):Int)
def iv (d:Nat):Bool:=decide (d%2=1)
def lC (d:Nat):bA:=bU (0,0,0) (d/2) (if d%2=1 then 1 else -1)
def MC (d:Nat):List I:=[n6 (eG d),.bool (iv d),n6 (lC d).1,n6 (lC d).2.1,n6 (lC d).2.2]
def wv:List I:=[n6 0,.bool false,n6 (-1),n6 0,n6 0,n6 0,.bool true,n6 1,n6 0,n6 0,n6 1,.bool false,n6 0,n6 (-1),n6 0,n6 1,.bool true,n6 0,n6 1,n6 0,n6 2,.bool false,n6 0,n6 0,n6 (-1),n6 2,.bool true,n6 0,n6 0,n6 1]
theorem Vf {d:Nat} (h:d<6):(wv.drop (d*5)).take 5=MC d:=by
 match d,h with
 |0,_=>rfl
 |1,_=>rfl
 |2,_=>rfl
 |3,_=>rfl
 |4,_=>rfl
 |5,_=>rfl
theorem Vg:p7 bf 73 30 240=true:=a6
abbrev BN:fG bf:=tX (α:=Unit) () 73 30 240 (λ_=>wv) Vg
abbrev yM:I:= .slice (some ⟨0,0,none⟩) 1 1
def sB (M:Mem):Prop:=bH M 30 (λ_:Unit=>wv) yM [()]
theorem Vh (p:bA) {d:Nat} (_:d<6):o5 p (lC d)=bU p (d/2) (if d%2=1 then 1 else -1):=by
 unfold lC bU o5;simp only [Int.zero_add]
theorem Vi (p:bA) {d:Nat} (_:d<6) (hu:iv d=true) (s:Int):o5 p (iq (lC d) s)=bU p (d/2) s:=by
 have hu:d%2=1:=of_decide_eq_true hu;unfold lC bU o5 iq;rw[aR hu];simp only [Int.zero_add];refine Prod.ext ?_ (Prod.ext ?_ ?_)<;>dsimp only<;>split<;>simp
theorem Vj (d:Nat):e0 (lC d):=by
 unfold lC bU e0;dsimp only;refine⟨?_,?_,?_,?_,?_,?_⟩<;>(repeat' split)<;>omega
theorem Vk (d:Nat) {s:Int} (h0:0<=s) (h1:s<=16384):e0 (iq (lC d) s)/\jd (iq (lC d) s):=by
 have m:∀x:Int,(x=0\/x=1\/x= -1)-> -16384<=s*x/\s*x<=16384:=λx ag=>by
  rcases ag with rfl|rfl|rfl<;>omega
 have v:∀j:Nat,((0:Int)+if d/2=j then (if d%2=1 then 1 else -1) else 0)=0\/((0:Int)+if d/2=j then (if d%2=1 then 1 else -1) else 0)=1\/((0:Int)+if d/2=j then (if d%2=1 then 1 else -1) else 0)= -1:=λj=>by
  (repeat' split)<;>simp
 have a:=m _ (v 0);have b:=m _ (v 1);have c:=m _ (v 2);unfold lC bU e0 jd iq;dsimp only;omega
def iO (a:eh) (d:Nat):bA:=if iv d then bU a.1 (d/2) a.2.1 else bU a.1 (d/2) (-1)
def jU (a:eh) (d:Nat):bA:=if iv d then bU a.1 (d/2) a.2.1 else a.1
def kG (table:List dr) (a:eh) (d:Nat) (b:Option eh):Option b8:=
 if b.isSome=true/\(cF b).2.1<a.2.1 then none
 else if dO table a.2.2=(b.isSome&&dO table (cF b).2.2) then none
 else if dO table a.2.2=true then some (jU a d,eG d,iv d,a.2.1)
 else if a.2.1<(cF b).2.1 then some (jU a d,eG d,!iv d,a.2.1) else none
theorem MD {table:List dr} {a:eh} {d:Nat} {b:Option eh} (h1:b.isSome=true) (ad:(cF b).2.1<a.2.1):kG table a d b=none:=aR ⟨h1,ad⟩
theorem BO {table:List dr} {a:eh} {d:Nat} {b:Option eh} (h:¬(b.isSome=true/\(cF b).2.1<a.2.1)) (ad:dO table a.2.2=(b.isSome&&dO table (cF b).2.2)):kG table a d b=none:=by
 unfold kG;rw[aW h,aR ad]
theorem yN {table:List dr} {a:eh} {d:Nat} {b:Option eh} (h:¬(b.isSome=true/\(cF b).2.1<a.2.1)) (ad:¬dO table a.2.2=(b.isSome&&dO table (cF b).2.2)) (al:dO table a.2.2=true):kG table a d b=some (jU a d,eG d,iv d,a.2.1):=by
 unfold kG;rw[aW h,aW ad,aR al]
theorem yO {table:List dr} {a:eh} {d:Nat} {b:Option eh} (h:¬(b.isSome=true/\(cF b).2.1<a.2.1)) (ad:¬dO table a.2.2=(b.isSome&&dO table (cF b).2.2)) (al:dO table a.2.2=false) (bb:a.2.1<(cF b).2.1):kG table a d b=some (jU a d,eG d,!iv d,a.2.1):=by
 unfold kG;rw[aW h,aW ad,aW (by rw[al];exact Bool.false_ne_true),aR bb]
theorem BP {table:List dr} {a:eh} {d:Nat} {b:Option eh} (h:¬(b.isSome=true/\(cF b).2.1<a.2.1)) (ad:¬dO table a.2.2=(b.isSome&&dO table (cF b).2.2)) (al:dO table a.2.2=false) (bb:¬a.2.1<(cF b).2.1):kG table a d b=none:=by
 unfold kG;rw[aW h,aW ad,aW (by rw[al];exact Bool.false_ne_true),aW bb]
def oa (l:List bw) (ai:List eK) (table:List dr) (a:eh) (d:Nat):List b8:=(kG table a d (cJ l ai (iO a d))).toList
def ri (l:List bw) (ai:List eK) (table:List dr) (a:eh):List b8:=(List.range 6).flatMap (oa l ai table a)
def ui (l:List bw) (ai:List eK) (table:List dr) (k:Nat):List b8:=(List.range 64).flatMap λi=>ri l ai table (je (l.getD k default) (ai.getD k default).2 i)
def kg (l:List bw) (ai:List eK) (table:List dr):List b8:=(List.range l.length).flatMap (ui l ai table)
theorem qa {β:Type} (f:Nat->List β) (n:Nat):(List.range (n+1)).flatMap f=(List.range n).flatMap f++f n:=by
 rw[List.range_succ,List.flatMap_append];simp
theorem mH {β:Type} {f:Nat->List β} {c:Nat} (h:∀i,(f i).length<=c):∀n,((List.range n).flatMap f).length<=n*c
 |0=>by simp
 |n+1=>by
  rw[qa (β:=β),List.length_append,Nat.add_mul];have:=mH h n;have:=h n;omega
theorem ME (l:List bw) (ai:List eK) (table:List dr) (a:eh) (d:Nat):(oa l ai table a d).length<=1:=by
 unfold oa;cases kG table a d (cJ l ai (iO a d))<;>simp
theorem MF (l:List bw) (ai:List eK) (table:List dr) (a:eh):(ri l ai table a).length<=6:=mH (ME l ai table a) 6
theorem G2 (l:List bw) (ai:List eK) (table:List dr) (k:Nat):(ui l ai table k).length<=384:=mH (λ_=>MF l ai table _) 64
abbrev BQ (L:List b8):=dT×Ord L
namespace G3
def t:aN:=
.o (.len #[22] 3 0) 3 1 [0,44]<|
.loop [.slice none 0 0,n6 0] 2<|
.o (.bin .lss 3 5 3) 6 1 []<|
.a1 6 (
 .o (.ca 22 0 5) 7 1 [0,44,4]<|
 .o (.ld 44 7) (.agg ⟨dt 4 8⟩) 4 [4]<|
 .o (.ca 23 1 5) 12 1 [0,61,1]<|
 .o (.ld 61 12) 13 1 [1]<|
 .o (.len #[61] 3 13) 14 1 [0,3]<|
 .loop [4,n6 0] 2<|
 .o (.bin .lss 3 16 14) 17 1 []<|
 .a1 17 (
  .o (.ca 23 1 5) 18 1 [0,61,1]<|
  .o (.ld 61 18) 19 1 [1]<|
  .c 42 [.agg ⟨[8,9,10,11]⟩,19,16] (.agg ⟨[20,21,22,23,24]⟩) 5<|
  .c 43 [2,24] 25 1<|
  .o (.ld 73 1000000) (.agg ⟨dt 30 26⟩) 30 [30]<|
  .loop [15,n6 0,25] 3<|
  .o (.bin .lss 3 57 (n6 6)) 59 1 []<|
  .a1 59 (
   .o (.ei 73 (.agg ⟨[26,27,28,29,30,31,32,33,34,35,36,37,38,39,40,41,42,43,44,45,46,47,48,49,50,51,52,53,54,55]⟩) 57) (.agg ⟨dt 5 60⟩) 5 [1,6,72,5]<|
   .c 44 [.agg ⟨[20,21,22]⟩,.agg ⟨[62,63,64]⟩] (.agg ⟨[65,66,67]⟩) 3<|
   .a1 61 (
    .c 45 [.agg ⟨[62,63,64]⟩,23] (.agg ⟨[68,69,70]⟩) 3<|
    .c 44 [.agg ⟨[20,21,22]⟩,.agg ⟨[68,69,70]⟩] (.agg ⟨[71,72,73]⟩) 3<|
    .c 27 [0,1,.agg ⟨[71,72,73]⟩] (.tuple ⟨[.agg ⟨[74,75,76,77,78]⟩,79]⟩) 6<|
    .a1 79 (
     .c 43 [2,78] 80 1<|
     .o (.bin .lss 3 77 23) 81 1 []<|
     .a1 81 (
      .o (.bin .add 3 57 (n6 1)) 82 1 []<|
      .back [56,82,58]) (
      .o (.bin .eql 4 58 80) 82 1 []<|
      .a1 82 (
       .o (.bin .add 3 57 (n6 1)) 83 1 []<|
       .back [56,83,58]) (
       .a1 58 (
        .ic 27 56 [71,72,73,60,.bool true,23]<|
        .o (.bin .add 3 57 (n6 1)) 84 1 []<|
        .back [83,84,.bool true]) (
        .o (.bin .gtr 3 77 23) 83 1 []<|
        .a1 83 (
         .ic 27 56 [71,72,73,60,.bool false,23]<|
         .o (.bin .add 3 57 (n6 1)) 85 1 []<|
         .back [84,85,.bool false]) (
         .o (.bin .add 3 57 (n6 1)) 84 1 []<|
         .back [56,84,.bool false]))))) (
     .o (.bin .eql 4 58 (.bool false)) 80 1 []<|
     .a1 80 (
      .o (.bin .add 3 57 (n6 1)) 81 1 []<|
      .back [56,81,58]) (
      .a1 58 (
       .ic 27 56 [71,72,73,60,.bool true,23]<|
       .o (.bin .add 3 57 (n6 1)) 82 1 []<|
       .back [81,82,.bool true]) (
       .o (.bin .gtr 3 77 23) 81 1 []<|
       .a1 81 (
        .ic 27 56 [71,72,73,60,.bool false,23]<|
        .o (.bin .add 3 57 (n6 1)) 83 1 []<|
        .back [82,83,.bool false]) (
        .o (.bin .add 3 57 (n6 1)) 82 1 []<|
        .back [56,82,.bool false]))))) (
    .c 27 [0,1,.agg ⟨[65,66,67]⟩] (.tuple ⟨[.agg ⟨[68,69,70,71,72]⟩,73]⟩) 6<|
    .a1 73 (
     .c 43 [2,72] 74 1<|
     .o (.bin .lss 3 71 23) 75 1 []<|
     .a1 75 (
      .o (.bin .add 3 57 (n6 1)) 76 1 []<|
      .back [56,76,58]) (
      .o (.bin .eql 4 58 74) 76 1 []<|
      .a1 76 (
       .o (.bin .add 3 57 (n6 1)) 77 1 []<|
       .back [56,77,58]) (
       .a1 58 (
        .ic 27 56 [20,21,22,60,.bool false,23]<|
        .o (.bin .add 3 57 (n6 1)) 78 1 []<|
        .back [77,78,.bool true]) (
        .o (.bin .gtr 3 71 23) 77 1 []<|
        .a1 77 (
         .ic 27 56 [20,21,22,60,.bool true,23]<|
         .o (.bin .add 3 57 (n6 1)) 79 1 []<|
         .back [78,79,.bool false]) (
         .o (.bin .add 3 57 (n6 1)) 78 1 []<|
         .back [56,78,.bool false]))))) (
     .o (.bin .eql 4 58 (.bool false)) 74 1 []<|
     .a1 74 (
      .o (.bin .add 3 57 (n6 1)) 75 1 []<|
      .back [56,75,58]) (
      .a1 58 (
       .ic 27 56 [20,21,22,60,.bool false,23]<|
       .o (.bin .add 3 57 (n6 1)) 76 1 []<|
       .back [75,76,.bool true]) (
       .o (.bin .gtr 3 71 23) 75 1 []<|
       .a1 75 (
        .ic 27 56 [20,21,22,60,.bool true,23]<|
        .o (.bin .add 3 57 (n6 1)) 77 1 []<|
        .back [76,77,.bool false]) (
        .o (.bin .add 3 57 (n6 1)) 76 1 []<|
        .back [56,76,.bool false])))))) (
   .cu<|
   .o (.bin .add 3 16 (n6 1)) 60 1 []<|
   .back [56,60])) (
  .cu<|
  .o (.bin .add 3 5 (n6 1)) 18 1 []<|
  .back [15,18])) (
 .cu<|
 .call 46 [4,.func (.func 47) ⟨[]⟩ ⟨[]⟩] (.tuple ⟨[]⟩) 0<|
 .ret 4)
theorem bq:cL Tryd.prog 10 {n0:=[46],cells:=[(4,(1000000,12))]} [0,1,2] 3=some t:=cT a6
theorem any {W:aj} {a a2 a3:ht} {n c n2 c2 pb eN:Nat} {l:List bw} {ai:List eK} {table:List dr} {d:Nat} (H:jf d l ai) (bV:dg (aS W) (bW ([]:List (aI bf)))) (hl:bH (aS W) 4 ef (.slice a n c) l) (ah:n=l.length) (hC:bH (aS W) 1 lB (.slice a2 n2 c2) ai) (gj:n2=ai.length) (fQ:∀x∈ai,bH (aS W) 1 encI (fJ x) x.2) (c9:bH (aS W) 8 jz (.slice a3 pb eN) table) (yP:pb=table.length) (ky:sB (aS W)) (hs:l.length<=1000):
  jS bf 10 [.slice a n c,.slice a2 n2 c2,.slice a3 pb eN] W [] (BQ (kg l ai table)) (λy=> .slice y.1.1 (kg l ai table).length y.1.2) λy=>[aI.arr bN (.slice y.1.1 (kg l ai table).length y.1.2) y.2.1]:=by
 subst ah gj yP;refine wb bN (λbV=> ?_) bV;refine q9 (ro:=⟨br,.slice a l.length c,l⟩::⟨gB,.slice a2 ai.length c2,ai⟩::⟨g',.slice a3 table.length eN,table⟩::⟨BN,yM,[()]⟩::nr ai) mixed bq [.slice a l.length c,.slice a2 ai.length c2,.slice a3 table.length eN] bV (fi.off (.cons hl (.cons hC (.cons c9 (.cons ky (sz fQ))))) (yx bN)) ?_;unfold t;refine aZ ?_;refine gJ (dT×Nat) (λu=>[.slice u.1.1 ((List.range u.2).flatMap (ui l ai table)).length u.1.2,n6 (u.2:Nat)]) (λu=>[aI.arr bN (.slice u.1.1 ((List.range u.2).flatMap (ui l ai table)).length u.1.2) ((List.range u.2).flatMap (ui l ai table))]) (λu=>u.2<=l.length) (λu=>l.length-u.2) ((none,0),0) ae ae (Nat.zero_le _) (λu hu=> ?_);obtain⟨bj,k⟩:=u;have hu:k<=l.length:=hu;refine aZ ?_;refine bD rfl (λaM=> ?_) λaM=> ?_
 ·have aM:k<l.length:=by dsimp only at aM;omega
  obtain⟨cZ,du,_⟩:=hb H.aH H.pl aM;obtain⟨s1,s2,j5⟩:=nq cZ;have mS:k<ai.length:=by rw[H.cl];exact aM
  have hm:=BE mS;have BG:=H.GO _ hm;obtain⟨kh,uj⟩:∃kh,kh=(List.range k).flatMap (ui l ai table):=⟨_,rfl⟩;have Vl:kh.length<=k*384:=by rw[uj];exact mH (G2 l ai table) k
  dsimp only;rw[<-uj];refine ea (K:=br) (l:=l) (j:=k) ae ae ?_ (hs:= .ro .z);refine fI (K:=br) (l:=l) (j:=k) (o:=0) (c:=ef (l.getD k default)) ae ae ae ew ?_ (hs:= .ro .z);refine ea (K:=gB) (l:=ai) (j:=k) ae ae ?_ (hs:= .ro (.s .z));refine kf (K:=gB) (l:=ai) (j:=k) (o:=0) (u:=fJ (ai.getD k default)) ae ae ?_ (hs:= .ro (.s .z));refine l_ rfl ?_;refine gJ (dT×Nat) (λu=>[.slice u.1.1 (kh++(List.range u.2).flatMap λi=>ri l ai table (je (l.getD k default) (ai.getD k default).2 i)).length u.1.2,n6 (u.2:Nat)]) (λu=>[aI.arr bN (.slice u.1.1 (kh++(List.range u.2).flatMap λi=>ri l ai table (je (l.getD k default) (ai.getD k default).2 i)).length u.1.2) (kh++(List.range u.2).flatMap λi=>ri l ai table (je (l.getD k default) (ai.getD k default).2 i))]) (λu=>u.2<=64) (λu=>64-u.2) (bj,0) (by simp;rfl) (by simp) (Nat.zero_le _) (λu hu=> ?_);obtain⟨bj,i⟩:=u;have hu:i<=64:=hu;refine aZ ?_;refine bD rfl (λev=> ?_) λev=> ?_
  ·have ev:i<64:=by dsimp only at ev;omega
   obtain⟨jC,uk⟩:∃jC,jC=kh++(List.range i).flatMap λi=>ri l ai table (je (l.getD k default) (ai.getD k default).2 i):=⟨_,rfl⟩
   have Vm:jC.length<=k*384+i*6:=by
    rw[uk,List.length_append];have:=mH (f:=λi=>ri l ai table (je (l.getD k default) (ai.getD k default).2 i)) (λi=>MF l ai table _) i;omega
   dsimp only;rw[<-uk];obtain⟨A,hf⟩:∃A,A=je (l.getD k default) (ai.getD k default).2 i:=⟨_,rfl⟩;have XW:A.2.1=cY (l.getD k default):=by rw[hf];rfl
   have MG:jd A.1/\e0 A.1:=by
    have q:=(GK ev s1 s2).2;have oj:=du;have q1:0<=cY (l.getD k default)*((i:Int)%4)/\cY (l.getD k default)*((i:Int)%4)<=4096*3:=⟨Int.mul_nonneg af af,Int.mul_le_mul s2 af af cG⟩;have aJ:0<=cY (l.getD k default)*((i:Int)/4%4)/\cY (l.getD k default)*((i:Int)/4%4)<=4096*3:=⟨Int.mul_nonneg af af,Int.mul_le_mul s2 af af cG⟩;have cg:0<=cY (l.getD k default)*((i:Int)/4/4)/\cY (l.getD k default)*((i:Int)/4/4)<=4096*3:=⟨Int.mul_nonneg af af,Int.mul_le_mul s2 af af cG⟩;unfold dK at oj;have:e0 A.1:=by
     rw[hf];unfold je;rw[BD ev];unfold e0 o5 iq;dsimp only;omega
    exact⟨wq this,this⟩
   refine ea (K:=gB) (l:=ai) (j:=k) ae ae ?_ (hs:= .ro (.s .z));refine kf (K:=gB) (l:=ai) (j:=k) (o:=0) (u:=fJ (ai.getD k default)) ae ae ?_ (hs:= .ro (.s .z));refine cI (np A) (λw hw=>by
    rw[hf]
    exact GL.any cZ (jt du) ((cx.ro (K:=hv) (v:=fJ (ai.getD k default)) (l:=(ai.getD k default).2) (.s (.s (.s (.s (mG hm)))))).at hw) rfl ev af) rfl ?_
   refine dm (v:= .bool (dO table A.2.2)) (λw hw=>BC.any A.2.2 ((cx.ro (K:=g') (v:= .slice a3 table.length eN) (l:=table) (.s (.s .z))).at hw) rfl) ?_;refine fI (K:=BN) (v:=yM) (l:=[()]) (j:=0) (o:=0) (c:=wv) ae ae ae ew ?_ (hs:= .ro (.s (.s (.s .z)))) (hj:=by decide);refine gJ (dT×Nat) (λu=>[.slice u.1.1 (jC++(List.range u.2).flatMap (oa l ai table A)).length u.1.2,n6 (u.2:Nat),.bool (dO table A.2.2)]) (λu=>[aI.arr bN (.slice u.1.1 (jC++(List.range u.2).flatMap (oa l ai table A)).length u.1.2) (jC++(List.range u.2).flatMap (oa l ai table A))]) (λu=>u.2<=6) (λu=>6-u.2) (bj,0) (by simp;rfl) (by simp) (Nat.zero_le _) (λu hu=> ?_);obtain⟨bj,x⟩:=u;have hu:x<=6:=hu;refine aZ ?_;refine bD rfl (λhc=> ?_) λhc=> ?_
   ·have hc:x<6:=by dsimp only at hc;omega
    obtain⟨cM,um⟩:∃cM,cM=jC++(List.range x).flatMap (oa l ai table A):=⟨_,rfl⟩;have Vn:cM.length<=k*384+i*6+x:=by
     rw[um,List.length_append];have:=mH (ME l ai table A) x;omega
    have fg:jC++(List.range (x+1)).flatMap (oa l ai table A)=cM++(kG table A x (cJ l ai (iO A x))).toList:=by
     rw[qa (β:=b8),<-List.append_assoc,<-um];rfl
    dsimp only;rw[<-um];have kY:kG table A x (cJ l ai (iO A x))=none->jC++(List.range (x+1)).flatMap (oa l ai table A)=cM:=λh=>by
     rw[fg,h];exact List.append_nil _
    have mI:∀q,kG table A x (cJ l ai (iO A x))=some q->jC++(List.range (x+1)).flatMap (oa l ai table A)=cM++[q]:=λq h=>by
     rw[fg,h];rfl
    have ko:=Vk x (s:=A.2.1) af af;refine U_ (cs:=wv) (j:=x) (c:=MC x) ae ae (Vf hc) rfl ew ?_;refine cI (b_ (bU A.1 (x/2) (if x%2=1 then 1 else -1))) (λw _=>by
     have:=sq.any (W:=w) (p:=A.1) (q:=lC x) MG.1 (Vj x);rw[Vh _ hc] at this
     exact this) rfl ?_
    refine lz rfl (λpY=> ?_) λpY=> ?_
    ·have mc:iv x=true:=pY
     have G4:iO A x=bU A.1 (x/2) A.2.1:=aR mc;have rj:jU A x=bU A.1 (x/2) A.2.1:=aR mc;obtain⟨b,U⟩:∃b,b=cJ l ai (bU A.1 (x/2) A.2.1):=⟨_,rfl⟩;rw[G4,<-U] at kY mI;refine cI (b_ (iq (lC x) A.2.1)) (λw _=>Bj.any (p:=lC x) (n:=A.2.1) ko.2) rfl ?_;refine cI (b_ (bU A.1 (x/2) A.2.1)) (λw _=>by
      have:=sq.any (W:=w) (p:=A.1) (q:=iq (lC x) A.2.1) MG.1 ko.1;rw[Vi _ hc mc] at this
      exact this) rfl ?_
     refine cI (np (cF b)++[.bool b.isSome]) (λw hw=>by
      rw[U]
      exact BF.any (bU A.1 (x/2) A.2.1) H ((cx.ro (K:=br) (v:= .slice a l.length c) (l:=l) .z).at hw) rfl ((cx.ro (K:=gB) (v:= .slice a2 ai.length c2) (l:=ai) (.s .z)).at hw) rfl (λy aT=>(cx.ro (K:=hv) (v:=fJ y) (l:=y.2) (.s (.s (.s (.s (mG aT)))))).at hw)) rfl ?_
     refine lz rfl (λgk=> ?_) λgk=> ?_
     ·refine dm (v:= .bool (dO table (cF b).2.2)) (λw hw=>BC.any _ ((cx.ro (K:=g') (v:= .slice a3 table.length eN) (l:=table) (.s (.s .z))).at hw) rfl) ?_
      refine p3 ae ae ?_;refine bD rfl (λh1=> ?_) λh1=> ?_
      ·have ah:=kY (MD gk h1)
       refine aZ ?_;refine dN (u:=(bj,x)) (bj,x+1) ?_ ?_ ?_ ?_
       ·dsimp only;rw[ah];rfl
       ·dsimp only;rw[ah]
       ·exact hc
       ·dsimp only;omega
      ·refine BL ae ae ?_
       refine bD rfl (λad=> ?_) λad=> ?_
       ·have ah:=kY (BO (λq=>h1 q.2) (by rw[gk,Bool.true_and];exact ad))
        refine aZ ?_;refine dN (u:=(bj,x)) (bj,x+1) ?_ ?_ ?_ ?_
        ·dsimp only;rw[ah];rfl
        ·dsimp only;rw[ah]
        ·exact hc
        ·dsimp only;omega
       ·have ch:¬dO table A.2.2=(b.isSome&&dO table (cF b).2.2):=λq=>ad (by rw[gk,Bool.true_and] at q;exact q)
        refine lz rfl (λal=> ?_) λal=> ?_
        ·have ah:=mI (bU A.1 (x/2) A.2.1,eG x,true,A.2.1) ((yN (λq=>h1 q.2) ch al).trans (by rw[rj,mc]))
         refine ma (K:=bN) (d:=0) (l:=cM) (v:= .slice bj.1 cM.length bj.2) (L':=λa c=>[aI.arr bN (.slice a (cM++[(bU A.1 (x/2) A.2.1,eG x,true,A.2.1)]).length c) (cM++[(bU A.1 (x/2) A.2.1,eG x,true,A.2.1)])]) [(bU A.1 (x/2) A.2.1,eG x,true,A.2.1)] rfl (λa c=> .z) rfl (λa4 ga=> ?_) (lA (by show cM.length+1<=_;omega)) (by show (cM.length+1)*48<=_;omega);rw[<-ah];refine aZ ?_;refine dN (u:=(bj,x)) ((a4,ga),x+1) ?_ ?_ ?_ ?_
         ·dsimp only;rw[al];rfl
         ·rfl
         ·exact hc
         ·dsimp only;omega
        ·refine yn ae ae ?_
         refine bD rfl (λbb=> ?_) λbb=> ?_
         ·have ah:=mI (bU A.1 (x/2) A.2.1,eG x,false,A.2.1) ((yO (λq=>h1 q.2) ch al bb).trans (by rw[rj,mc];try rfl))
          refine ma (K:=bN) (d:=0) (l:=cM) (v:= .slice bj.1 cM.length bj.2) (L':=λa c=>[aI.arr bN (.slice a (cM++[(bU A.1 (x/2) A.2.1,eG x,false,A.2.1)]).length c) (cM++[(bU A.1 (x/2) A.2.1,eG x,false,A.2.1)])]) [(bU A.1 (x/2) A.2.1,eG x,false,A.2.1)] rfl (λa c=> .z) rfl (λa4 ga=> ?_) (lA (by show cM.length+1<=_;omega)) (by show (cM.length+1)*48<=_;omega);rw[<-ah];refine aZ ?_;refine dN (u:=(bj,x)) ((a4,ga),x+1) ?_ ?_ ?_ ?_
          ·dsimp only;rw[al];rfl
          ·rfl
          ·exact hc
          ·dsimp only;omega
         ·have ah:=kY (BP (λq=>h1 q.2) ch al bb)
          refine aZ ?_;refine dN (u:=(bj,x)) (bj,x+1) ?_ ?_ ?_ ?_
          ·dsimp only;rw[ah,al];rfl
          ·dsimp only;rw[ah]
          ·exact hc
          ·dsimp only;omega
     ·refine BL ae ae ?_
      refine bD rfl (λad=> ?_) λad=> ?_
      ·have ah:=kY (BO (λq=>by rw[gk] at q;exact absurd q.1 Bool.false_ne_true) (by rw[gk,Bool.false_and];exact ad))
       refine aZ ?_;refine dN (u:=(bj,x)) (bj,x+1) ?_ ?_ ?_ ?_
       ·dsimp only;rw[ah];rfl
       ·dsimp only;rw[ah]
       ·exact hc
       ·dsimp only;omega
      ·have ch:¬dO table A.2.2=(b.isSome&&dO table (cF b).2.2):=λq=>ad (by rw[gk,Bool.false_and] at q;exact q)
       refine lz rfl (λal=> ?_) λal=> ?_
       ·have ah:=mI (bU A.1 (x/2) A.2.1,eG x,true,A.2.1) ((yN (λq=>by rw[gk] at q;exact absurd q.1 Bool.false_ne_true) ch al).trans (by rw[rj,mc]))
        refine ma (K:=bN) (d:=0) (l:=cM) (v:= .slice bj.1 cM.length bj.2) (L':=λa c=>[aI.arr bN (.slice a (cM++[(bU A.1 (x/2) A.2.1,eG x,true,A.2.1)]).length c) (cM++[(bU A.1 (x/2) A.2.1,eG x,true,A.2.1)])]) [(bU A.1 (x/2) A.2.1,eG x,true,A.2.1)] rfl (λa c=> .z) rfl (λa4 ga=> ?_) (lA (by show cM.length+1<=_;omega)) (by show (cM.length+1)*48<=_;omega);rw[<-ah];refine aZ ?_;refine dN (u:=(bj,x)) ((a4,ga),x+1) ?_ ?_ ?_ ?_
        ·dsimp only;rw[al];rfl
        ·rfl
        ·exact hc
        ·dsimp only;omega
       ·refine yn ae ae ?_
        refine bD rfl (λbb=> ?_) λbb=> ?_
        ·have ah:=mI (bU A.1 (x/2) A.2.1,eG x,false,A.2.1) ((yO (λq=>by rw[gk] at q;exact absurd q.1 Bool.false_ne_true) ch al bb).trans (by rw[rj,mc];try rfl))
         refine ma (K:=bN) (d:=0) (l:=cM) (v:= .slice bj.1 cM.length bj.2) (L':=λa c=>[aI.arr bN (.slice a (cM++[(bU A.1 (x/2) A.2.1,eG x,false,A.2.1)]).length c) (cM++[(bU A.1 (x/2) A.2.1,eG x,false,A.2.1)])]) [(bU A.1 (x/2) A.2.1,eG x,false,A.2.1)] rfl (λa c=> .z) rfl (λa4 ga=> ?_) (lA (by show cM.length+1<=_;omega)) (by show (cM.length+1)*48<=_;omega);rw[<-ah];refine aZ ?_;refine dN (u:=(bj,x)) ((a4,ga),x+1) ?_ ?_ ?_ ?_
         ·dsimp only;rw[al];rfl
         ·rfl
         ·exact hc
         ·dsimp only;omega
        ·have ah:=kY (BP (λq=>by rw[gk] at q;exact absurd q.1 Bool.false_ne_true) ch al bb)
         refine aZ ?_;refine dN (u:=(bj,x)) (bj,x+1) ?_ ?_ ?_ ?_
         ·dsimp only;rw[ah,al];rfl
         ·dsimp only;rw[ah]
         ·exact hc
         ·dsimp only;omega
    ·have mc:iv x=false:=pY
     have fW:¬x%2=1:=of_decide_eq_false mc;have G4:iO A x=bU A.1 (x/2) (if x%2=1 then 1 else -1):=by
      unfold iO;rw[mc,aW fW];rfl
     have rj:jU A x=A.1:=by
      unfold jU;rw[mc];rfl
     obtain⟨b,U⟩:∃b,b=cJ l ai (bU A.1 (x/2) (if x%2=1 then 1 else -1)):=⟨_,rfl⟩;rw[G4,<-U] at kY mI;refine cI (np (cF b)++[.bool b.isSome]) (λw hw=>by
      rw[U]
      exact BF.any (bU A.1 (x/2) (if x%2=1 then 1 else -1)) H ((cx.ro (K:=br) (v:= .slice a l.length c) (l:=l) .z).at hw) rfl ((cx.ro (K:=gB) (v:= .slice a2 ai.length c2) (l:=ai) (.s .z)).at hw) rfl (λy aT=>(cx.ro (K:=hv) (v:=fJ y) (l:=y.2) (.s (.s (.s (.s (mG aT)))))).at hw)) rfl ?_
     refine lz rfl (λgk=> ?_) λgk=> ?_
     ·refine dm (v:= .bool (dO table (cF b).2.2)) (λw hw=>BC.any _ ((cx.ro (K:=g') (v:= .slice a3 table.length eN) (l:=table) (.s (.s .z))).at hw) rfl) ?_
      refine p3 ae ae ?_;refine bD rfl (λh1=> ?_) λh1=> ?_
      ·have ah:=kY (MD gk h1)
       refine aZ ?_;refine dN (u:=(bj,x)) (bj,x+1) ?_ ?_ ?_ ?_
       ·dsimp only;rw[ah];rfl
       ·dsimp only;rw[ah]
       ·exact hc
       ·dsimp only;omega
      ·refine BL ae ae ?_
       refine bD rfl (λad=> ?_) λad=> ?_
       ·have ah:=kY (BO (λq=>h1 q.2) (by rw[gk,Bool.true_and];exact ad))
        refine aZ ?_;refine dN (u:=(bj,x)) (bj,x+1) ?_ ?_ ?_ ?_
        ·dsimp only;rw[ah];rfl
        ·dsimp only;rw[ah]
        ·exact hc
        ·dsimp only;omega
       ·have ch:¬dO table A.2.2=(b.isSome&&dO table (cF b).2.2):=λq=>ad (by rw[gk,Bool.true_and] at q;exact q)
        refine lz rfl (λal=> ?_) λal=> ?_
        ·have ah:=mI (A.1,eG x,false,A.2.1) ((yN (λq=>h1 q.2) ch al).trans (by rw[rj,mc]))
         refine ma (K:=bN) (d:=0) (l:=cM) (v:= .slice bj.1 cM.length bj.2) (L':=λa c=>[aI.arr bN (.slice a (cM++[(A.1,eG x,false,A.2.1)]).length c) (cM++[(A.1,eG x,false,A.2.1)])]) [(A.1,eG x,false,A.2.1)] rfl (λa c=> .z) rfl (λa4 ga=> ?_) (lA (by show cM.length+1<=_;omega)) (by show (cM.length+1)*48<=_;omega);rw[<-ah];refine aZ ?_;refine dN (u:=(bj,x)) ((a4,ga),x+1) ?_ ?_ ?_ ?_
         ·dsimp only;rw[al];rfl
         ·rfl
         ·exact hc
         ·dsimp only;omega
        ·refine yn ae ae ?_
         refine bD rfl (λbb=> ?_) λbb=> ?_
         ·have ah:=mI (A.1,eG x,true,A.2.1) ((yO (λq=>h1 q.2) ch al bb).trans (by rw[rj,mc];try rfl))
          refine ma (K:=bN) (d:=0) (l:=cM) (v:= .slice bj.1 cM.length bj.2) (L':=λa c=>[aI.arr bN (.slice a (cM++[(A.1,eG x,true,A.2.1)]).length c) (cM++[(A.1,eG x,true,A.2.1)])]) [(A.1,eG x,true,A.2.1)] rfl (λa c=> .z) rfl (λa4 ga=> ?_) (lA (by show cM.length+1<=_;omega)) (by show (cM.length+1)*48<=_;omega);rw[<-ah];refine aZ ?_;refine dN (u:=(bj,x)) ((a4,ga),x+1) ?_ ?_ ?_ ?_
          ·dsimp only;rw[al];rfl
          ·rfl
          ·exact hc
          ·dsimp only;omega
         ·have ah:=kY (BP (λq=>h1 q.2) ch al bb)
          refine aZ ?_;refine dN (u:=(bj,x)) (bj,x+1) ?_ ?_ ?_ ?_
          ·dsimp only;rw[ah,al];rfl
          ·dsimp only;rw[ah]
          ·exact hc
          ·dsimp only;omega
     ·refine BL ae ae ?_
      refine bD rfl (λad=> ?_) λad=> ?_
      ·have ah:=kY (BO (λq=>by rw[gk] at q;exact absurd q.1 Bool.false_ne_true) (by rw[gk,Bool.false_and];exact ad))
       refine aZ ?_;refine dN (u:=(bj,x)) (bj,x+1) ?_ ?_ ?_ ?_
       ·dsimp only;rw[ah];rfl
       ·dsimp only;rw[ah]
       ·exact hc
       ·dsimp only;omega
      ·have ch:¬dO table A.2.2=(b.isSome&&dO table (cF b).2.2):=λq=>ad (by rw[gk,Bool.false_and] at q;exact q)
       refine lz rfl (λal=> ?_) λal=> ?_
       ·have ah:=mI (A.1,eG x,false,A.2.1) ((yN (λq=>by rw[gk] at q;exact absurd q.1 Bool.false_ne_true) ch al).trans (by rw[rj,mc]))
        refine ma (K:=bN) (d:=0) (l:=cM) (v:= .slice bj.1 cM.length bj.2) (L':=λa c=>[aI.arr bN (.slice a (cM++[(A.1,eG x,false,A.2.1)]).length c) (cM++[(A.1,eG x,false,A.2.1)])]) [(A.1,eG x,false,A.2.1)] rfl (λa c=> .z) rfl (λa4 ga=> ?_) (lA (by show cM.length+1<=_;omega)) (by show (cM.length+1)*48<=_;omega);rw[<-ah];refine aZ ?_;refine dN (u:=(bj,x)) ((a4,ga),x+1) ?_ ?_ ?_ ?_
        ·dsimp only;rw[al];rfl
        ·rfl
        ·exact hc
        ·dsimp only;omega
       ·refine yn ae ae ?_
        refine bD rfl (λbb=> ?_) λbb=> ?_
        ·have ah:=mI (A.1,eG x,true,A.2.1) ((yO (λq=>by rw[gk] at q;exact absurd q.1 Bool.false_ne_true) ch al bb).trans (by rw[rj,mc];try rfl))
         refine ma (K:=bN) (d:=0) (l:=cM) (v:= .slice bj.1 cM.length bj.2) (L':=λa c=>[aI.arr bN (.slice a (cM++[(A.1,eG x,true,A.2.1)]).length c) (cM++[(A.1,eG x,true,A.2.1)])]) [(A.1,eG x,true,A.2.1)] rfl (λa c=> .z) rfl (λa4 ga=> ?_) (lA (by show cM.length+1<=_;omega)) (by show (cM.length+1)*48<=_;omega);rw[<-ah];refine aZ ?_;refine dN (u:=(bj,x)) ((a4,ga),x+1) ?_ ?_ ?_ ?_
         ·dsimp only;rw[al];rfl
         ·rfl
         ·exact hc
         ·dsimp only;omega
        ·have ah:=kY (BP (λq=>by rw[gk] at q;exact absurd q.1 Bool.false_ne_true) ch al bb)
         refine aZ ?_;refine dN (u:=(bj,x)) (bj,x+1) ?_ ?_ ?_ ?_
         ·dsimp only;rw[ah,al];rfl
         ·dsimp only;rw[ah]
         ·exact hc
         ·dsimp only;omega
   ·obtain rfl:x=6:=by dsimp only at hc;omega
    refine dY ?_;refine aZ ?_;have mJ:kh++((List.range (i+1)).flatMap λi=>ri l ai table (je (l.getD k default) (ai.getD k default).2 i))=jC++(List.range 6).flatMap (oa l ai table A):=by
     rw[qa (β:=b8),<-List.append_assoc,<-uk,<-hf];rfl
    refine dN (u:=(bj,i)) (bj,i+1) ?_ ?_ ?_ ?_
    ·dsimp only;rw[mJ];rfl
    ·dsimp only;rw[mJ]
    ·exact ev
    ·dsimp only;omega
  ·obtain rfl:i=64:=by dsimp only at ev;omega
   refine dY ?_;refine aZ ?_;have wx:(List.range (k+1)).flatMap (ui l ai table)=kh++(List.range 64).flatMap λi=>ri l ai table (je (l.getD k default) (ai.getD k default).2 i):=by
    rw[qa (β:=b8),<-uj];rfl
   refine dN (u:=(bj,k)) (bj,k+1) ?_ ?_ ?_ ?_
   ·dsimp only;rw[wx];rfl
   ·dsimp only;rw[wx]
   ·exact aM
   ·dsimp only;omega
 ·obtain rfl:k=l.length:=by dsimp only at aM;omega
  have qI:(kg l ai table).length<=l.length*384:=mH (G2 l ai table) l.length;refine dY ?_;refine Lx (hS:=[aI.arr bN (.slice bj.1 (kg l ai table).length bj.2) (kg l ai table)]) (Y:=Ord (kg l ai table)) (v:=λ_=> .tuple ⟨[]⟩) (N:=λy=>[aI.arr bN (.slice bj.1 (kg l ai table).length bj.2) y.1]) (L':=λy=>[aI.arr bN (.slice bj.1 (kg l ai table).length bj.2) y.1]) [0] (λ_=>[]) (λw hw bV=>MB.any bV af) (λy=> ?_);exact bg ⟨(bj,y),rfl,rfl⟩
end G3
end AE
end
end
end Go.Proofs.YtmfckpdcljjdjaaDoor
namespace Go.Proofs.YtmfckpdcljjdjaaDoor
open Go Go.ChangeShapes Go.WideShapes Go.ChangeAt Go.RowKit
section
theorem own:ownKnob Tryd.prog.godebug=none:=a6
theorem Vo:laidOutB Tryd.prog=true:=a6
theorem MH {H:Type} {enc:az×I->H} {P:aC} (hl:laidOutB P=true) {W tw:aj} (U:Below W.heap.size W tw):∀(bX:List az) (vs:List I) (ds:List (DataW H)) (ps:List MemPlace),
  bX.all (λt=>P.readableRec t&&decide (t<P.types.size))=true->DataW.TrodAll enc P W 0 (λ_=>true) true bX vs ds ps->(∀x∈ps,x.block<W.heap.size)->DataW.TrodAll enc P tw 0 (λb=>decide (b<W.heap.size)) true bX vs ds ps
 |[],[],[],ps,_,h,_=>h
 |t::bX,v::vs,d::ds,ps,aE,h,aM=>by
  obtain⟨p,q,h1,ad,rfl⟩:=h;simp only [List.all_cons,b4,decide_eq_true_eq] at aE;exact⟨p,q,Below.trod hl aE.1.1 aE.1.2 h1 U (λx ag=>aM x (List.mem_append_left _ ag)),MH hl U bX vs ds q aE.2 ad λx ag=>aM x (List.mem_append_right _ ag),rfl⟩
 |[],_::_,_,_,_,h,_=>by cases h
 |[],[],_::_,_,_,h,_=>by cases h
 |_::_,[],_,_,_,h,_=>by cases h
 |_::_,_::_,[],_,_,h,_=>by cases h
theorem MI:Tryd.prog.cellsOf AE.vJ=8:=a6
theorem pc:Tryd.prog.cellsOf 3=1:=a6
theorem Vp:Tryd.prog.cellsOf 9=1:=a6
theorem BR:Tryd.prog.cellsOf 4=1:=a6
theorem Vq:Tryd.prog.cellsOf 56=3:=a6
theorem G5:Tryd.prog.cellsOf 32=3:=a6
theorem MJ:Tryd.prog.cellsOf 44=4:=a6
theorem Vr:Tryd.prog.cellsOf 61=1:=a6
theorem cellsD:Tryd.prog.cellsOf 72=5:=a6
theorem Vs:Tryd.prog.cellsOf 73=30:=a6
theorem uo:Tryd.prog.underlying AE.vJ=some (.struct (Tryd.prog.fieldsOf AE.vJ)):=a6
theorem uq:Tryd.prog.underlying 32=some (.struct (Tryd.prog.fieldsOf 32)):=a6
theorem G6:Tryd.prog.underlying 44=some (.struct (Tryd.prog.fieldsOf 44)):=a6
theorem BS:Tryd.prog.underlying 72=some (.struct (Tryd.prog.fieldsOf 72)):=a6
section
variable {H:Type} {enc:az×I->H} {W:aj} {r:Reach} {d':Nat} {base:Nat} {kZ:Nat->Bool} {k1:Bool} {v:I} {d:DataW H} {p:List MemPlace}
theorem k2 {P:aC} {t ty off k i n:Nat} {cs:List I} {x:DataW H×List MemPlace} (hu:P.underlying t=some (.struct (P.fieldsOf t))) (aB:((P.fieldsOf t)[i]?).map (λf=>(f.type,f.offset))=some (ty,off)) (hk:P.cellsOf ty=k)
  (h:DataW.trod enc P W base kZ k1 n t cs=some x):∃m y,DataW.trod enc P W base kZ k1 m ty ((cs.drop off).take k)=some y/\∀l,x.1= .agg l->l[i]? =some y.1:=by
 obtain⟨xs,m,_,ex,hlen,BU,jF⟩:=DataW.trod_struct hu h;rw[ru] at aB;obtain⟨fD,h1,ad⟩:=aB;cases ad;have b5:=jF i fD h1;have aM:i<xs.length:=by rw[BU];exact(Array.getElem?_eq_some_iff.1 h1).1
 rw[hk,fc aM] at b5;refine⟨m,_,b5,λl hl=> ?_⟩;rw[ex] at hl;injection hl with hl;rw[<-hl,List.getElem?_map,fc aM];rfl
theorem Vt (s:ByteArray):Value.string s=AE.iM s.data.toList:=by cases s;rfl
theorem Vu {n:Nat} {cs:List I} {x:DataW H×List MemPlace} (h:DataW.trod enc Tryd.prog W base kZ k1 n AE.vJ cs=some x):∃s:AE.dr,cs=AE.jz s:=by
 have hlen:cs.length=8:=by
  obtain⟨_,_,_,_,hlen,_,_⟩:=DataW.trod_struct uo h;rw[hlen,MI]
 obtain⟨_,s5,h0,_⟩:=k2 (i:=0) (ty:=9) (off:=0) uo a6 Vp h;obtain⟨_,iD,h1,_⟩:=k2 (i:=1) (ty:=4) (off:=1) uo a6 BR h;obtain⟨_,jy,ad,_⟩:=k2 (i:=2) (ty:=4) (off:=2) uo a6 BR h;obtain⟨_,XX,al,_⟩:=k2 (i:=3) (ty:=4) (off:=3) uo a6 BR h;obtain⟨_,XY,bb,_⟩:=k2 (i:=4) (ty:=3) (off:=4) uo a6 pc h;obtain⟨_,XZ,b5,_⟩:=k2 (i:=5) (ty:=56) (off:=5) uo a6 Vq h;obtain⟨rI,c3,_⟩:=DataW.trod_string Tryd.underlying9 h0;obtain⟨s1,e1,_⟩:=DataW.trod_bool Tryd.underlying4 h1;obtain⟨s2,e2,_⟩:=DataW.trod_bool Tryd.underlying4 ad;obtain⟨j5,fg,_⟩:=DataW.trod_bool Tryd.underlying4 al;obtain⟨Vv,jl,_⟩:=DataW.trod_int Tryd.underlying3 bb;obtain⟨xs,m,_,_,qI,BU,aB⟩:=DataW.trod_array Tryd.underlying56 b5;have J:∀i,i<3->∃z:Int,(((cs.drop 5).take 3).drop i).take 1=[.int .i64 z]:=λi al=>by
  have cE:=aB i al;rw[pc,Nat.mul_one,fc (show i<xs.length by omega)] at cE;obtain⟨z,e,_⟩:=DataW.trod_int Tryd.underlying3 cE;exact⟨z,e⟩
 obtain⟨z0,f0⟩:=J 0 af;obtain⟨t_,f1⟩:=J 1 af;obtain⟨pS,f2⟩:=J 2 af
 match cs,hlen,c3,e1,e2,fg,jl,f0,f1,f2 with
 |[hz,c1,c2,eN,ga,xL,xM,xN],_,c3,e1,e2,fg,jl,f0,f1,f2=>
  simp only [List.drop_zero,List.drop_succ_cons,List.take_succ_cons,List.take_zero,List.cons.injEq,and_true] at c3 e1 e2 fg jl f0 f1 f2;exact⟨(rI.data.toList,s1,s2,j5,Vv,z0,t_,pS),by rw[c3,e1,e2,fg,jl,f0,f1,f2,Vt];rfl⟩
theorem Vw (aw:Value.okWide Tryd.prog W r d' 3 v) (h:DataW.Trod enc Tryd.prog W base kZ k1 3 v d p):∃n:Int,v= .int .i64 n:=by
 obtain⟨n,rfl⟩:=okWide_int Tryd.underlying3 aw;exact⟨n,rfl⟩
theorem G7 {t n k:Nat} {cs:List I} {x:DataW H×List MemPlace} (hu:Tryd.prog.underlying t=some (.struct (Tryd.prog.fieldsOf t))) (hk:Tryd.prog.cellsOf t=k) (h:DataW.trod enc Tryd.prog W base kZ k1 n t cs=some x):cs.length=k:=by
 obtain⟨_,_,_,_,hlen,_,_⟩:=DataW.trod_struct hu h;rw[hlen,hk]
theorem yQ {n:Nat} {cs:List I} {x:DataW H×List MemPlace} (h:DataW.trod enc Tryd.prog W base kZ k1 n 3 cs=some x):∃z:Int,cs=[.int .i64 z]:=by
 obtain⟨z,e,_⟩:=DataW.trod_int Tryd.underlying3 h;exact⟨z,e⟩
theorem Vx {n:Nat} {cs:List I} {x:DataW H×List MemPlace} (h:DataW.trod enc Tryd.prog W base kZ k1 n 32 cs=some x):∃p:AE.bA,cs=[.int .i64 p.1,.int .i64 p.2.1,.int .i64 p.2.2]:=by
 have hlen:=G7 uq G5 h;obtain⟨_,s5,h0,_⟩:=k2 (i:=0) (ty:=3) (off:=0) uq a6 pc h;obtain⟨_,iD,h1,_⟩:=k2 (i:=1) (ty:=3) (off:=1) uq a6 pc h;obtain⟨_,jy,ad,_⟩:=k2 (i:=2) (ty:=3) (off:=2) uq a6 pc h;obtain⟨z0,c3⟩:=yQ h0;obtain⟨t_,e1⟩:=yQ h1;obtain⟨pS,e2⟩:=yQ ad
 match cs,hlen,c3,e1,e2 with
 |[hz,c1,c2],_,c3,e1,e2=>
  simp only [List.drop_zero,List.drop_succ_cons,List.take_succ_cons,List.take_zero,List.cons.injEq,and_true] at c3 e1 e2;exact⟨(z0,t_,pS),by rw[c3,e1,e2]⟩
theorem Vy {n:Nat} {cs:List I} {x:DataW H×List MemPlace} (h:DataW.trod enc Tryd.prog W base kZ k1 n 44 cs=some x):∃s:AE.bw,cs=AE.ef s:=by
 have hlen:=G7 G6 MJ h;obtain⟨_,s5,h0,_⟩:=k2 (i:=0) (ty:=3) (off:=0) G6 a6 pc h;obtain⟨_,iD,h1,_⟩:=k2 (i:=1) (ty:=32) (off:=1) G6 a6 G5 h;obtain⟨z0,c3⟩:=yQ h0;obtain⟨t_,e1⟩:=Vx h1
 match cs,hlen,c3,e1 with
 |[hz,c1,c2,eN],_,c3,e1=>
  simp only [List.drop_zero,List.drop_succ_cons,List.take_succ_cons,List.take_zero,List.cons.injEq,and_true] at c3 e1;exact⟨(z0,t_),by rw[c3,e1.1,e1.2.1,e1.2.2];rfl⟩
theorem MK {α:Type} [Inhabited α] {lD:α->List I} {k t e:Nat} (hu:Tryd.prog.underlying t=some (.slice e)) (hk:Tryd.prog.cellsOf e=k) (fU:0<k) (BV:∀x,(lD x).length=k)
  {Q:α->Prop} (kv:∀n cs x,DataW.trod enc Tryd.prog W base kZ k1 n e cs=some x->∃s:α,Q s/\cs=lD s) {a_:Nat} {wT:List I} {x:DataW H×List MemPlace} (h:DataW.trod enc Tryd.prog W base kZ k1 a_ t wT=some x):
  ∃(a:Option Addr) (n c:Nat) (l:List α),wT=[.slice a n c]/\AE.bH (AE.aS W) k lD (.slice a n c) l/\n=l.length/\∀s∈l,Q s:=by
 rcases Deep.open_slice hu h with ⟨ez,_⟩|⟨a,len,cap,m,n,fb,gy,ez,U,hl,hm,qh,ag,J⟩
 ·exact⟨none,0,0,[],ez,.nil _ _,rfl,λs hs=>by cases hs⟩
 ·have mT:len<=m:=by rw[qh];split<;>omega
  have yR:∀i,i<len->∃s:α,Q s/\∀j u,(lD s)[j]? =some u->W.cell? (a.add (i*k+j))=some u:=λi rk=>by
   obtain⟨cs',ao,aE⟩:=J i af;rw[hk] at ao;obtain⟨s,b2,rfl⟩:=kv _ _ _ aE;obtain⟨_,_,yI⟩:=World.cells?_some ao;refine⟨s,b2,λj u hj=> ?_⟩;have Vz:j<k:=by have:=(List.getElem?_eq_some_iff.1 hj).1;rwa [BV] at this
   rw[<-Deep.add_add,yI j Vz];exact hj
  let f:Nat->α:=λi=>if h:i<len then (yR i h).choose else default
  have aB:∀i,i<len->∀j u,(lD (f i))[j]? =some u->W.cell? (a.add (i*k+j))=some u:=λi rk=>by
   show ∀j u,(lD (if h:i<len then (yR i h).choose else default))[j]? =some u->_;rw[dif_pos rk];exact(yR i rk).choose_spec.2
  have VA:∀i,i<len->Q (f i):=λi rk=>by
   show Q (if h:i<len then (yR i h).choose else default);rw[dif_pos rk];exact(yR i rk).choose_spec.1
  have hlen:((List.range len).map f).length=len:=by simp
  refine⟨some a,len,cap,(List.range len).map f,ez,?_,hlen.symm,λs hs=>by
   obtain⟨i,J,rfl⟩:=List.mem_map.1 hs
   exact VA i (List.mem_range.1 J)⟩
  rcases Nat.eq_zero_or_pos len with h0|h0
  ·subst h0
   exact .nil _ _
  ·obtain⟨j6,VB⟩:∃j6,(lD (f 0))[0]? =some j6:=⟨_,fc (by rw[BV];exact fU)⟩
   have sn:=aB 0 h0 0 _ VB;rw[Nat.zero_mul,Nat.zero_add] at sn;obtain⟨aU,off,spot⟩:=a;have VC:∃cs ty fr,W.heap[aU]? =some (.cells cs ty fr)/\spot=none:=by
    unfold World.cell? at sn;split at sn
    ·rename_i c1 t1 f1 ml
     split at sn
     ·cases sn
     ·rename_i EY
      refine⟨c1,t1,f1,ml,?_⟩;cases spot with
      |none=>rfl
      |some x=>exact absurd rfl EY
    ·cases sn
   obtain⟨cs,ty,fr,hblk,rfl⟩:=VC;have key:AE.bH (AE.aS W) k lD (.slice (some ⟨aU,off,none⟩) ((List.range len).map f).length cap) ((List.range len).map f):=by
    refine .mk (cs:=cs) (ty:=ty) (fr:=fr) hblk (by rw[hlen];exact hl) λi x ag j u hj=> ?_
    have rk:i<len:=by
     have:=(List.getElem?_eq_some_iff.1 ag).1
     rwa [hlen] at this
    have VD:x=f i:=by
     rw[List.getElem?_map,List.getElem?_range rk] at ag;exact(Option.some.inj ag).symm
    subst VD;have:=aB i rk j u hj;rw[AE.Addr.hX,cell_of_row W _ _ _ _ _ hblk,<-Nat.add_assoc] at this;exact this
   rw[hlen] at key;exact key
theorem G8 {α:Type} [Inhabited α] {lD:α->List I} {k t e:Nat} (hu:Tryd.prog.underlying t=some (.slice e)) (hk:Tryd.prog.cellsOf e=k) (fU:0<k) (BV:∀x,(lD x).length=k)
  {Q:α->Prop} (kv:∀n cs x,DataW.trod enc Tryd.prog W base kZ k1 n e cs=some x->∃s:α,Q s/\cs=lD s) (aw:Value.okWide Tryd.prog W r d' t v) (h:DataW.Trod enc Tryd.prog W base kZ k1 t v d p):∃l:List α,AE.bH (AE.aS W) k lD v l/\∀s∈l,Q s:=by
 obtain⟨a0,ML,MN,rfl⟩:=okWide_slice hu aw;obtain⟨a_,h⟩:=h;obtain⟨a,n,c,l,h1,ad,_,al⟩:=MK hu hk fU BV kv h;have e:Value.slice a0 ML MN= .slice a n c:=(List.cons.inj (show [Value.slice a0 ML MN]=[.slice a n c] from h1)).1;rw[e];exact⟨l,ad,al⟩
theorem VE (aw:Value.okWide Tryd.prog W r d' 22 v) (h:DataW.Trod enc Tryd.prog W base kZ k1 22 v d p):∃l:List AE.bw,AE.bH (AE.aS W) 4 AE.ef v l:=by
 obtain⟨l,hl,_⟩:=G8 (lD:=AE.ef) (Q:=λ_=>True) Tryd.underlying22 MJ cG (λ_=>rfl) (λ_ _ _ h=>(Vy h).imp λ_ e=>⟨trivial,e⟩) aw h;exact⟨l,hl⟩
theorem VF (aw:Value.okWide Tryd.prog W r d' 24 v) (h:DataW.Trod enc Tryd.prog W base kZ k1 24 v d p):∃l:List AE.dr,AE.bH (AE.aS W) 8 AE.jz v l:=by
 obtain⟨l,hl,_⟩:=G8 (lD:=AE.jz) (Q:=λ_=>True) Tryd.underlying24 MI cG (λ_=>rfl) (λ_ _ _ h=>(Vu h).imp λ_ e=>⟨trivial,e⟩) aw h;exact⟨l,hl⟩
theorem VG {n:Nat} {cs:List I} {x:DataW H×List MemPlace} (h:DataW.trod enc Tryd.prog W base kZ k1 n 61 cs=some x):∃s:AE.eK,AE.bH (AE.aS W) 1 AE.encI (AE.fJ s) s.2/\cs=AE.lB s:=by
 obtain⟨a,n,c,l,e,hf,ah,_⟩:=MK (lD:=AE.encI) (Q:=λ_=>True) Tryd.underlying61 pc cG (λ_=>rfl) (λ_ _ _ h=>(yQ h).imp λ_ e=>⟨trivial,e⟩) h;subst ah;exact⟨((a,c),l),hf,e⟩
theorem VH (aw:Value.okWide Tryd.prog W r d' 23 v) (h:DataW.Trod enc Tryd.prog W base kZ k1 23 v d p):∃l:List AE.eK,AE.bH (AE.aS W) 1 AE.lB v l/\∀s∈l,AE.bH (AE.aS W) 1 AE.encI (AE.fJ s) s.2:=
 G8 (lD:=AE.lB) Tryd.underlying23 Vr cG (λ_=>rfl) (λ_ _ _ h=>VG h) aw h
theorem wy {n:Nat} {cs:List I} {x:DataW H×List MemPlace} {a c d e:Int} {u:Bool} (h:DataW.trod enc Tryd.prog W base kZ k1 n 72 cs=some x) (ag:x.1= .agg [.lit (.int .i64 a),.lit (.bool u),.agg [.lit (.int .i64 c),.lit (.int .i64 d),.lit (.int .i64 e)]]):
  cs=[.int .i64 a,.bool u,.int .i64 c,.int .i64 d,.int .i64 e]:=by
 have hlen:=G7 BS cellsD h;obtain⟨_,s5,h0,tv⟩:=k2 (i:=0) (ty:=3) (off:=0) BS a6 pc h;obtain⟨_,iD,h1,g1⟩:=k2 (i:=1) (ty:=4) (off:=1) BS a6 BR h;obtain⟨_,jy,ad,g2⟩:=k2 (i:=2) (ty:=32) (off:=2) BS a6 G5 h;have b0:=g2 _ ag;simp only [List.getElem?_cons_zero,List.getElem?_cons_succ,bS] at b0;obtain⟨_,w0,iR,f0⟩:=k2 (i:=0) (ty:=3) (off:=0) uq a6 pc ad;obtain⟨_,w1,q1,f1⟩:=k2 (i:=1) (ty:=3) (off:=1) uq a6 pc ad;obtain⟨_,cQ,aJ,f2⟩:=k2 (i:=2) (ty:=3) (off:=2) uq a6 pc ad;obtain⟨rI,c3,rfl,_⟩:=DataW.trod_int Tryd.underlying3 h0;obtain⟨s1,e1,rfl,_⟩:=DataW.trod_bool Tryd.underlying4 h1;obtain⟨t0,m0,rfl,_⟩:=DataW.trod_int Tryd.underlying3 iR;obtain⟨t1,m1,rfl,_⟩:=DataW.trod_int Tryd.underlying3 q1;obtain⟨t2,m2,rfl,_⟩:=DataW.trod_int Tryd.underlying3 aJ;have k0:=tv _ ag;have bK:=g1 _ ag;have sx:=f0 _ b0.symm;have sV:=f1 _ b0.symm;have yS:=f2 _ b0.symm;simp only [List.getElem?_cons_zero,List.getElem?_cons_succ,bS,DataW.lit.injEq,Lit.int.injEq,Lit.bool.injEq,true_and] at k0 bK sx sV yS;subst k0 bK sx sV yS
 match cs,hlen,c3,e1,m0,m1,m2 with
 |[hz,c1,c2,eN,ga],_,c3,e1,m0,m1,m2=>
  simp only [List.drop_zero,List.drop_succ_cons,List.take_succ_cons,List.take_zero,List.cons.injEq,and_true] at c3 e1 m0 m1 m2;rw[c3,e1,m0,m1,m2]
end
theorem VI {W:aj} {l:List (String×DataW Unit)} (h:laidMetH Tryd.prog l W) (hl:(l.filter λx=>x.1== "voxel/faces.sides")=[("voxel/faces.sides",Rows.laid_voxel_faces_sides)]):AE.sB (AE.aS W):=by
 have h1:=laidMetH.filter (λx=>x.1== "voxel/faces.sides") h;rw[hl,MakeChecks.laidMetH_plain _ _ _ a6] at h1;obtain⟨ps,⟨g,t,cs,a_,p,q,av,aE,aw,aH,_,_⟩,_,_⟩:=h1;obtain rfl:=Option.some.inj ((show Tryd.prog.globalNamed "voxel/faces.sides"=some 0 by kernel_rfl).symm.trans av);obtain rfl:=Option.some.inj ((show (Tryd.prog.globals[0]?).map (·.type)=some 73 by kernel_rfl).symm.trans aE);obtain⟨xs,m,_,ex,hlen,BU,aB⟩:=DataW.trod_array Tryd.underlying73 aH;rw[Vs] at hlen
 match xs,BU with
 |[zp,jk,L4,X0,X1,X2],_=>
  have fg:=DataW.agg.inj (Prod.mk.inj ex).1;simp only [List.map_cons,List.map_nil,List.cons.injEq,and_true] at fg;obtain⟨tv,g1,g2,b6,g4,ih⟩:=fg;have k0:=aB 0 af;have bK:=aB 1 af;have b0:=aB 2 af;have sx:=aB 3 af;have sV:=aB 4 af;have yS:=aB 5 af;rw[cellsD] at k0 bK b0 sx sV yS;have c3:=wy k0 tv.symm;have e1:=wy bK g1.symm;have e2:=wy b0 g2.symm;have fg:=wy sx b6.symm;have jl:=wy sV g4.symm;have mJ:=wy yS ih.symm;have ez:cs.toList=AE.wv:=by
   match cs.toList,hlen,c3,e1,e2,fg,jl,mJ with
   |[a0,db,a2,a3,a4,a5,HJ,HK,X3,a9,d',eH,fK,km,mO,uH,uI,uJ,X4,X5,hz,c1,c2,eN,ga,xL,xM,xN,X6,X7],_,c3,e1,e2,fg,jl,mJ=>
    simp only [Nat.zero_mul,Nat.one_mul,Nat.reduceMul,List.drop_zero,List.drop_succ_cons,List.take_succ_cons,List.take_zero,List.cons.injEq,and_true] at c3 e1 e2 fg jl mJ;obtain⟨rfl,rfl,rfl,rfl,rfl⟩:=c3;obtain⟨rfl,rfl,rfl,rfl,rfl⟩:=e1;obtain⟨rfl,rfl,rfl,rfl,rfl⟩:=e2;obtain⟨rfl,rfl,rfl,rfl,rfl⟩:=fg;obtain⟨rfl,rfl,rfl,rfl,rfl⟩:=jl;obtain⟨rfl,rfl,rfl,rfl,rfl⟩:=mJ;rfl
  unfold World.var? at aw;rw[av] at aw;simp only [Option.bind_some] at aw;split at aw
  ·rename_i cs' ty fr U
   cases aw;refine AE.bH.mk (cs:=cs) (ty:=ty) (fr:=fr) (off:=0) (c:=1) (l:=[()]) U (bM _) λi x ag j u hj=> ?_
   have J:i=0:=by
    have:=(List.getElem?_eq_some_iff.1 ag).1;simp at this;exact this
   subst J;rw[<-ez] at hj;simpa using hj
  ·cases aw
end
end Go.Proofs.YtmfckpdcljjdjaaDoor
namespace Go.Proofs.YtmfckpdcljjdjaaDoor
open Go Go.Proofs Go.RowKit
section
noncomputable section
namespace AE
def iw (a b:ek):ek:=(max a.1 b.1,max a.2.1 b.2.1,max a.2.2.1 b.2.2.1,min a.2.2.2.1 b.2.2.2.1,min a.2.2.2.2.1 b.2.2.2.2.1,min a.2.2.2.2.2 b.2.2.2.2.2)
def k3 (a b:ek):ek:=if gT (iw a b) then iw a b else (0,0,0,0,0,0)
abbrev fB (b:ek):bA:=(b.1,b.2.1,b.2.2.1)
abbrev gC (b:ek):bA:=(b.2.2.2.1,b.2.2.2.2.1,b.2.2.2.2.2)
def pd (a b:bA) (k:Nat):List I:=[n6 (if 0<k then b.1 else a.1),n6 (if 1<k then b.2.1 else a.2.1),n6 (if 2<k then b.2.2 else a.2.2)]
theorem MO (a b:bA) {k:Nat} (h:k<3):(pd a b k)[k]? =some (n6 (co a k)):=by
 match k,h with
 |0,_=>rfl
 |1,_=>rfl
 |2,_=>rfl
theorem MP (a b:bA) {k:Nat} (h:k<3):pd a b (k+1)=(pd a b k).set k (n6 (co b k)):=by
 match k,h with
 |0,_=>rfl
 |1,_=>rfl
 |2,_=>rfl
theorem VJ (a b:ek) (k:Nat):max (co (fB a) k) (co (fB b) k)=co (fB (iw a b)) k:=by
 match k with
 |0=>rfl
 |1=>rfl
 |k+2=>rfl
theorem VK (a b:ek) (k:Nat):min (co (gC a) k) (co (gC b) k)=co (gC (iw a b)) k:=by
 match k with
 |0=>rfl
 |1=>rfl
 |k+2=>rfl
namespace yT
def t:aN:=
.ret (.agg ⟨[0,1,2]⟩)
theorem bq:cL Tryd.prog 88 {} [.agg ⟨[0,1,2]⟩] 3=some t:=cT a6
theorem any {W:aj} (p:bA):c_ bf 88 [P.val p] W (P.val p):=by
 refine dc (ro:=[]) mixed bq (b_ p) (.nil _) ?_;unfold t;exact bg rfl
end yT
namespace G9
def t:aN:=
.ret (.agg ⟨[0,1,2]⟩)
theorem bq:cL Tryd.prog 89 {} [.agg ⟨[0,1,2]⟩] 3=some t:=cT a6
theorem any {W:aj} (p:bA):c_ bf 89 [P.val p] W (P.val p):=by
 refine dc (ro:=[]) mixed bq (b_ p) (.nil _) ?_;unfold t;exact bg rfl
end G9
namespace G'
def t:aN:=
.c 88 [.agg ⟨[0,1,2]⟩] (.agg ⟨[12,13,14]⟩) 3<|
.hT 56<|
.st 56 15 (.agg ⟨[12,13,14]⟩)<|
.c 88 [.agg ⟨[3,4,5]⟩] (.agg ⟨[16,17,18]⟩) 3<|
.hT 56<|
.st 56 19 (.agg ⟨[16,17,18]⟩)<|
.c 88 [.agg ⟨[6,7,8]⟩] (.agg ⟨[20,21,22]⟩) 3<|
.hT 56<|
.st 56 23 (.agg ⟨[20,21,22]⟩)<|
.c 88 [.agg ⟨[9,10,11]⟩] (.agg ⟨[24,25,26]⟩) 3<|
.hT 56<|
.st 56 27 (.agg ⟨[24,25,26]⟩)<|
.loop [n6 0] 1<|
.o (.bin .lss 3 28 (n6 3)) 29 1 []<|
.a1 29 (
 .o (.ca 56 15 28) 30 1 [1,3,3,1]<|
 .o (.ld 3 30) 31 1 [1]<|
 .o (.ca 56 23 28) 32 1 [1,3,3,1]<|
 .o (.ld 3 32) 33 1 [1]<|
 .o (.ep #[3,3] 3 31 33) 34 1 []<|
 .st 3 30 34<|
 .o (.ca 56 19 28) 35 1 [1,3,3,1]<|
 .o (.ld 3 35) 36 1 [1]<|
 .o (.ca 56 27 28) 37 1 [1,3,3,1]<|
 .o (.ld 3 37) 38 1 [1]<|
 .o (.lb #[3,3] 3 36 38) 39 1 []<|
 .st 3 35 39<|
 .o (.bin .add 3 28 (n6 1)) 40 1 []<|
 .back [40]) (
 .cu<|
 .o (.ld 56 15) (.agg ⟨dt 3 30⟩) 3 [3]<|
 .c 89 [.agg ⟨[30,31,32]⟩] (.agg ⟨[33,34,35]⟩) 3<|
 .o (.ld 56 19) (.agg ⟨dt 3 36⟩) 3 [3]<|
 .c 89 [.agg ⟨[36,37,38]⟩] (.agg ⟨[39,40,41]⟩) 3<|
 .c 90 [.agg ⟨[33,34,35,39,40,41]⟩] 42 1<|
 .a1 42 (
  .ret (.agg ⟨[n6 0,n6 0,n6 0,n6 0,n6 0,n6 0]⟩)) (
  .ret (.agg ⟨[33,34,35,39,40,41]⟩)))
theorem bq:cL Tryd.prog 59 {marks:=[56]} [.agg ⟨[0,1,2,3,4,5]⟩,.agg ⟨[6,7,8,9,10,11]⟩] 12=some t:=cT a6
theorem any {W:aj} (a b:ek):c_ bf 59 [X.val a,X.val b] W (X.val (k3 a b)):=by
 refine dc (ro:=[]) mixed bq (im a++im b) (.nil _) ?_;unfold t;refine cI (b_ (fB a)) (λw _=>yT.any (fB a)) rfl ?_;refine o3 (z:= .agg ⟨[n6 0,n6 0,n6 0]⟩) (L':=λg=>[.box g _ [n6 0,n6 0,n6 0]]) [n6 0,n6 0,n6 0] a6 rfl (λg=> .z) (λg1=> ?_);refine p6 (m:=3) (us:=b_ (fB a)) (cs':=b_ (fB a)) (L':=[.box g1 _ (b_ (fB a))]) ae ae .z rfl ?_;refine cI (b_ (gC a)) (λw _=>yT.any (gC a)) rfl ?_;refine o3 (z:= .agg ⟨[n6 0,n6 0,n6 0]⟩) (L':=λg=>[.box g1 _ (b_ (fB a)),.box g _ [n6 0,n6 0,n6 0]]) [n6 0,n6 0,n6 0] a6 rfl (λg=> .s .z) (λg2=> ?_);refine p6 (m:=3) (us:=b_ (gC a)) (cs':=b_ (gC a)) (L':=[.box g1 _ (b_ (fB a)),.box g2 _ (b_ (gC a))]) ae ae (.s .z) rfl ?_;refine cI (b_ (fB b)) (λw _=>yT.any (fB b)) rfl ?_;refine o3 (z:= .agg ⟨[n6 0,n6 0,n6 0]⟩) (L':=λg=>[.box g1 _ (b_ (fB a)),.box g2 _ (b_ (gC a)),.box g _ [n6 0,n6 0,n6 0]]) [n6 0,n6 0,n6 0] a6 rfl (λg=> .s (.s .z)) (λb6=> ?_);refine p6 (m:=3) (us:=b_ (fB b)) (cs':=b_ (fB b)) (L':=[.box g1 _ (b_ (fB a)),.box g2 _ (b_ (gC a)),.box b6 _ (b_ (fB b))]) ae ae (.s (.s .z)) rfl ?_;refine cI (b_ (gC b)) (λw _=>yT.any (gC b)) rfl ?_;refine o3 (z:= .agg ⟨[n6 0,n6 0,n6 0]⟩) (L':=λg=>[.box g1 _ (b_ (fB a)),.box g2 _ (b_ (gC a)),.box b6 _ (b_ (fB b)),.box g _ [n6 0,n6 0,n6 0]]) [n6 0,n6 0,n6 0] a6 rfl (λg=> .s (.s (.s .z))) (λg4=> ?_);refine p6 (m:=3) (us:=b_ (gC b)) (cs':=b_ (gC b)) (L':=[.box g1 _ (b_ (fB a)),.box g2 _ (b_ (gC a)),.box b6 _ (b_ (fB b)),.box g4 _ (b_ (gC b))]) ae ae (.s (.s (.s .z))) rfl ?_;refine gJ Nat (λk=>[n6 (k:Nat)]) (λk=>[.box g1 _ (pd (fB a) (fB (iw a b)) k),.box g2 _ (pd (gC a) (gC (iw a b)) k),.box b6 _ (b_ (fB b)),.box g4 _ (b_ (gC b))]) (λk=>k<=3) (λk=>3-k) 0 ae ae (Nat.zero_le _) (λk hk=> ?_);refine aZ ?_;refine bD rfl (λaM=> ?_) λaM=>dY ?_
 ·have aM:k<3:=by omega
  have bR:0+k*1=k:=by omega
  refine jc (g:=g1) (o:=0) (j:=k) ae ae ?_;refine js (g:=g1) (o:=0+k*1) (u:=n6 (co (fB a) k)) rfl has (by rw[bR];exact MO _ _ aM) ?_;refine jc (g:=b6) (o:=0) (j:=k) ae ae ?_;refine js (g:=b6) (o:=0+k*1) (u:=n6 (co (fB b) k)) rfl (.s (.s .z)) (by rw[bR];exact t' (fB b) aM) ?_;refine Ls (a:=co (fB a) k) (b:=co (fB b) k) ae ae ?_;rw[VJ];refine yt (d:=0) (g:=g1) (j:=0+k*1) (cs':=pd (fB a) (fB (iw a b)) (k+1)) (L':=[.box g1 _ (pd (fB a) (fB (iw a b)) (k+1)),.box g2 _ (pd (gC a) (gC (iw a b)) k),.box b6 _ (b_ (fB b)),.box g4 _ (b_ (gC b))]) ae ae .z (by rw[bR];exact MP _ _ aM) ?_ (by rw[bR];exact aM);refine jc (g:=g2) (o:=0) (j:=k) ae ae ?_;refine js (g:=g2) (o:=0+k*1) (u:=n6 (co (gC a) k)) rfl (.s .z) (by rw[bR];exact MO _ _ aM) ?_;refine jc (g:=g4) (o:=0) (j:=k) ae ae ?_;refine js (g:=g4) (o:=0+k*1) (u:=n6 (co (gC b) k)) rfl (.s (.s (.s .z))) (by rw[bR];exact t' (gC b) aM) ?_;refine F8 (a:=co (gC a) k) (b:=co (gC b) k) ae ae ?_;rw[VK];refine yt (d:=1) (g:=g2) (j:=0+k*1) (cs':=pd (gC a) (gC (iw a b)) (k+1)) (L':=[.box g1 _ (pd (fB a) (fB (iw a b)) (k+1)),.box g2 _ (pd (gC a) (gC (iw a b)) (k+1)),.box b6 _ (b_ (fB b)),.box g4 _ (b_ (gC b))]) ae ae (.s .z) (by rw[bR];exact MP _ _ aM) ?_ (by rw[bR];exact aM);refine aZ ?_;exact dN (k+1) ae ae aM af
 ·obtain rfl:k=3:=by omega
  refine F_ (g:=g1) (c:=b_ (fB (iw a b))) rfl .z ae ae ew ?_;refine cI (b_ (fB (iw a b))) (λw _=>G9.any (fB (iw a b))) rfl ?_;refine F_ (g:=g2) (c:=b_ (gC (iw a b))) rfl (.s .z) ae ae ew ?_;refine cI (b_ (gC (iw a b))) (λw _=>G9.any (gC (iw a b))) rfl ?_;refine dm (v:= .bool (!decide (gT (iw a b)))) (λw _=>Gg.any (iw a b)) ?_;refine mF rfl (λh=>bg ?_) λh=>bg ?_
  ·unfold k3
   rw[aW h];rfl
  ·unfold k3
   rw[aR h];rfl
end G'
theorem MQ {a b:ek} (ha:okB a) (U:okB b):okB (k3 a b):=by
 unfold k3;split
 ·unfold okB at*
  unfold iw;dsimp only;omega
 ·decide
theorem rl {t:bw} (h:eQ t) (hp:dK t.2):okB (bG t):=by
 have:=o8 h;unfold dK at hp;unfold okB bG;dsimp only;omega
theorem sC {t:bw} (h:eQ t):eW (bG t)=((8^b3 t:Nat):Int)/\0<=eW (bG t)/\eW (bG t)<=4398046511104:=by
 have hs:=o8 h;have kk:=su (wj h).2.2;have yE:=ss (b3 t);have aB:gT (bG t):=by
  unfold gT bG;dsimp only;omega
 have e:eW (bG t)=((8^b3 t:Nat):Int):=by
  unfold eW;rw[q' aB];unfold bG;dsimp only;rw[show t.2.1+cp t-t.2.1=cp t by omega,show t.2.2.1+cp t-t.2.2.1=cp t by omega,show t.2.2.2+cp t-t.2.2.2=cp t by omega];unfold cp;rw[<-Int.natCast_mul,<-Int.natCast_mul,<-p9,<-Nat.pow_add,<-Nat.pow_add,show b3 t+b3 t+b3 t=3*b3 t by omega]
 refine⟨e,?_,?_⟩<;>rw[e]<;>omega
def rm (fb:Nat) (t:bw):Prop:=(0<=t.1/\t.1+2<=fb)/\cO t.2 (fp ((2^fb:Nat):Int))/\t.2.1%cp t=0/\t.2.2.1%cp t=0/\t.2.2.2%cp t=0
instance (fb:Nat) (t:bw):Decidable (rm fb t):=by unfold rm;infer_instance
namespace MR
def t:aN:=
.o (.bin .lss 3 1 (n6 0)) 5 1 []<|
.a1 5 (
 .ret (.bool false)) (
 .o (.bin .sub 3 0 (n6 2)) 6 1 []<|
 .o (.bin .gtr 3 1 6) 7 1 []<|
 .a1 7 (
  .ret (.bool false)) (
  .c 61 [.agg ⟨[1,2,3,4]⟩] 8 1<|
  .o (.bin .shl 3 (n6 1) 0) 9 1 []<|
  .c 36 [9] (.agg ⟨[10,11,12,13,14,15]⟩) 6<|
  .c 65 [.agg ⟨[2,3,4]⟩,.agg ⟨[10,11,12,13,14,15]⟩] 16 1<|
  .a1 16 (
   .o (.bin .rem 3 2 8) 17 1 []<|
   .o (.bin .eql 3 17 (n6 0)) 18 1 []<|
   .a1 18 (
    .o (.bin .rem 3 3 8) 19 1 []<|
    .o (.bin .eql 3 19 (n6 0)) 20 1 []<|
    .a1 20 (
     .o (.bin .rem 3 4 8) 21 1 []<|
     .o (.bin .eql 3 21 (n6 0)) 22 1 []<|
     .ret 22) (
     .ret (.bool false))) (
    .ret (.bool false))) (
   .ret (.bool false))))
theorem bq:cL Tryd.prog 57 {} [0,.agg ⟨[1,2,3,4]⟩] 5=some t:=cT a6
theorem any {W:aj} {fb:Nat} {t0:bw} (aH:2<=fb/\fb<=14):c_ bf 57 [n6 (fb:Nat),T.val t0] W (.bool (decide (rm fb t0))):=by
 have fl:=Gx aH.2;have uU:=L9 fb;refine dc (ro:=[]) mixed bq (n6 (fb:Nat)::ef t0) (.nil _) ?_;unfold t;refine aZ ?_;refine bD rfl (λh=>bg (fA λq=>by have:=q.1.1;omega)) λl1=> ?_
 refine aZ ?_;refine bD rfl (λh=>bg (fA λq=>by have:=q.1.2;omega)) λl2=> ?_
 have cU:eQ t0:=by unfold eQ;omega
 have hs:=o8 cU;refine dm (v:=n6 (cp t0)) (λw _=>GJ.any cU) ?_;refine o4 (a:=1) (s:=fb) (v:=((2^fb:Nat):Int)) (by rw[p_];omega) ae ae ?_;refine cI (im (fp ((2^fb:Nat):Int))) (λw _=>Bo.any) rfl ?_;refine dm (v:= .bool (decide (cO t0.2 (fp ((2^fb:Nat):Int))))) (λw _=>Gf.any w t0.2 _) ?_;refine bD rfl (λh1=> ?_) λh=>bg (fA λq=>h q.2.1)
 have J:=h1;unfold cO fp at J;dsimp only at J;refine p5 (a:=t0.2.1) (b:=cp t0) ae ae ?_;refine aZ ?_;refine bD rfl (λad=> ?_) λh=>bg (fA λq=>h q.2.2.1)
 refine p5 (a:=t0.2.2.1) (b:=cp t0) ae ae ?_;refine aZ ?_;refine bD rfl (λal=> ?_) λh=>bg (fA λq=>h q.2.2.2.1)
 refine p5 (a:=t0.2.2.2) (b:=cp t0) ae ae ?_;refine aZ ?_;exact bg (Bf ⟨λh=>⟨⟨af,af⟩,h1,ad,al,h⟩,λq=>q.2.2.2.2⟩)
end MR
theorem G_ {fb:Nat} (aH:fb<=14) {t:bw} (h:rm fb t):eQ t/\dK t.2:=by
 have fl:=Gx aH;obtain⟨h1,ad,_⟩:=h;unfold cO fp at ad;dsimp only at ad;unfold eQ dK;omega
def jg (l:List bw):Nat->Int
 |0=>0
 |i+1=>jg l i+eW (bG (l.getD i default))
def wz (fb:Nat) (l:List bw):Prop:=(∀k,k<l.length->rm fb (l.getD k default))/\(∀k,k+1<l.length->cD (l.getD k default).2<cD (l.getD (k+1) default).2)/\(∀x k,x<k->k<l.length->eW (k3 (bG (l.getD x default)) (bG (l.getD k default)))<=0)/\jg l l.length=((8^fb:Nat):Int)
def yU (d:Int) (l:List bw):Int:=if d<2\/14<d then 13 else if 4096<l.length then 2 else by
 classical
 exact if wz d.toNat l then 0 else 1
namespace MS
def t:aN:=
.o (.bin .lss 3 0 (n6 2)) 2 1 []<|
.a1 2 (
 .ret (n6 13)) (
 .o (.bin .gtr 3 0 (n6 14)) 3 1 []<|
 .a1 3 (
  .ret (n6 13)) (
  .o (.len #[22] 3 1) 4 1 [0,44]<|
  .o (.bin .gtr 3 4 (n6 4096)) 5 1 []<|
  .a1 5 (
   .ret (n6 2)) (
   .loop [n6 0,n6 0,n6 0] 3<|
   .o (.len #[22] 3 1) 9 1 [0,44]<|
   .o (.bin .lss 3 8 9) 10 1 []<|
   .a1 10 (
    .o (.ca 22 1 8) 11 1 [0,44,4]<|
    .o (.ld 44 11) (.agg ⟨dt 4 12⟩) 4 [4]<|
    .c 57 [0,.agg ⟨[12,13,14,15]⟩] 16 1<|
    .o (.un .not 16) 17 1 []<|
    .a1 17 (
     .cu<|
     .ret (n6 1)) (
     .s (.bin .gtr 3 8 (n6 0)) [] (
      .o (.bin .sub 3 8 (n6 1)) 18 1 []<|
      .o (.ca 22 1 18) 19 1 [0,44,4]<|
      .o (.hJ 44 19 1) 20 1 [1,32,3]<|
      .o (.ld 32 20) (.agg ⟨dt 3 21⟩) 3 [3]<|
      .o (.ca 22 1 8) 24 1 [0,44,4]<|
      .o (.hJ 44 24 1) 25 1 [1,32,3]<|
      .o (.ld 32 25) (.agg ⟨dt 3 26⟩) 3 [3]<|
      .c 58 [.agg ⟨[21,22,23]⟩,.agg ⟨[26,27,28]⟩] 29 1<|
      .o (.bin .geq 3 29 (n6 0)) 30 1 []<|
      .a1 30 (
       .cu<|
       .ret (n6 1)) (
       .loop [7,n6 0] 2<|
       .o (.bin .lss 3 32 8) 33 1 []<|
       .a1 33 (
        .o (.ca 22 1 32) 34 1 [0,44,4]<|
        .o (.ld 44 34) (.agg ⟨dt 4 35⟩) 4 [4]<|
        .c 25 [.agg ⟨[35,36,37,38]⟩] (.agg ⟨[39,40,41,42,43,44]⟩) 6<|
        .o (.ca 22 1 8) 45 1 [0,44,4]<|
        .o (.ld 44 45) (.agg ⟨dt 4 46⟩) 4 [4]<|
        .c 25 [.agg ⟨[46,47,48,49]⟩] (.agg ⟨[50,51,52,53,54,55]⟩) 6<|
        .c 59 [.agg ⟨[39,40,41,42,43,44]⟩,.agg ⟨[50,51,52,53,54,55]⟩] (.agg ⟨[56,57,58,59,60,61]⟩) 6<|
        .c 50 [.agg ⟨[56,57,58,59,60,61]⟩] 62 1<|
        .o (.bin .gtr 3 62 (n6 0)) 63 1 []<|
        .a1 63 (
         .cu<|
         .cu<|
         .ret (n6 1)) (
         .o (.bin .add 3 32 (n6 1)) 64 1 []<|
         .back [31,64])) (
        .cu<|
        .o (.ca 22 1 8) 34 1 [0,44,4]<|
        .o (.ld 44 34) (.agg ⟨dt 4 35⟩) 4 [4]<|
        .c 25 [.agg ⟨[35,36,37,38]⟩] (.agg ⟨[39,40,41,42,43,44]⟩) 6<|
        .c 50 [.agg ⟨[39,40,41,42,43,44]⟩] 45 1<|
        .o (.bin .add 3 6 45) 46 1 []<|
        .o (.bin .add 3 8 (n6 1)) 47 1 []<|
        .back [46,31,47]))) (
      .loop [7,n6 0] 2<|
      .o (.bin .lss 3 19 8) 20 1 []<|
      .a1 20 (
       .o (.ca 22 1 19) 21 1 [0,44,4]<|
       .o (.ld 44 21) (.agg ⟨dt 4 22⟩) 4 [4]<|
       .c 25 [.agg ⟨[22,23,24,25]⟩] (.agg ⟨[26,27,28,29,30,31]⟩) 6<|
       .o (.ca 22 1 8) 32 1 [0,44,4]<|
       .o (.ld 44 32) (.agg ⟨dt 4 33⟩) 4 [4]<|
       .c 25 [.agg ⟨[33,34,35,36]⟩] (.agg ⟨[37,38,39,40,41,42]⟩) 6<|
       .c 59 [.agg ⟨[26,27,28,29,30,31]⟩,.agg ⟨[37,38,39,40,41,42]⟩] (.agg ⟨[43,44,45,46,47,48]⟩) 6<|
       .c 50 [.agg ⟨[43,44,45,46,47,48]⟩] 49 1<|
       .o (.bin .gtr 3 49 (n6 0)) 50 1 []<|
       .a1 50 (
        .cu<|
        .cu<|
        .ret (n6 1)) (
        .o (.bin .add 3 19 (n6 1)) 51 1 []<|
        .back [18,51])) (
       .cu<|
       .o (.ca 22 1 8) 21 1 [0,44,4]<|
       .o (.ld 44 21) (.agg ⟨dt 4 22⟩) 4 [4]<|
       .c 25 [.agg ⟨[22,23,24,25]⟩] (.agg ⟨[26,27,28,29,30,31]⟩) 6<|
       .c 50 [.agg ⟨[26,27,28,29,30,31]⟩] 32 1<|
       .o (.bin .add 3 6 32) 33 1 []<|
       .o (.bin .add 3 8 (n6 1)) 34 1 []<|
       .back [33,18,34])))) (
    .cu<|
    .o (.bin .mul 3 (n6 3) 0) 11 1 []<|
    .o (.bin .shl 3 (n6 1) 11) 12 1 []<|
    .o (.bin .neq 3 6 12) 13 1 []<|
    .a1 13 (
     .ret (n6 1)) (
     .ret (n6 0))))))
theorem bq:cL Tryd.prog 18 {} [0,1] 2=some t:=cT a6
theorem any {W:aj} {a:ht} {n c:Nat} {l:List bw} (d:Int) (hl:bH (aS W) 4 ef (.slice a n c) l) (ah:n=l.length) (U:l.length<=10000):c_ bf 18 [n6 d,.slice a n c] W (n6 (yU d l)):=by
 subst ah;refine dc (ro:=[⟨br,.slice a l.length c,l⟩]) mixed bq [n6 d,.slice a l.length c] (.cons hl (.nil _)) ?_;unfold t;unfold yU;refine aZ ?_;refine bD rfl (λh=>bg (by rw[aR (.inl h)];rfl)) λh0=> ?_
 refine aZ ?_;refine bD rfl (λh=>bg (by rw[aR (.inr h)];rfl)) λh1=> ?_
 rw[aW af];refine aZ ?_;refine bD rfl (λh=>bg (by rw[aR af];rfl)) λad=> ?_
 rw[aW af];have aH:((d.toNat:Nat):Int)=d:=Int.toNat_of_nonneg af;obtain⟨fb,ky⟩:∃fb,fb=d.toNat:=⟨_,rfl⟩;rw[<-ky] at aH ⊢;subst aH;have yF:fb<=14:=by omega
 have no:¬wz fb l->n6 1=n6 (by classical exact if wz fb l then 0 else 1):=λh=>by rw[aW h]
 refine gJ Nat (λi=>[n6 (jg l i),n6 0,n6 (i:Nat)]) (λ_=>[]) (λi=>i<=l.length/\(∀k,k<i->rm fb (l.getD k default))/\(∀k,k+1<i->cD (l.getD k default).2<cD (l.getD (k+1) default).2)/\(∀x k,x<k->k<i->eW (k3 (bG (l.getD x default)) (bG (l.getD k default)))<=0)/\0<=jg l i/\jg l i<=i*4398046511104) (λi=>l.length-i) 0 ae ae ⟨Nat.zero_le _,λj hj=>absurd hj (Nat.not_lt_zero j),λj hj=>absurd hj (Nat.not_lt_zero _),λ_ j _ hj=>absurd hj (Nat.not_lt_zero j),Int.le_refl _,Int.le_refl _⟩ (λi J=> ?_);obtain⟨J,MT,rV,Ha,X8,X9⟩:=J;refine aZ ?_;refine bD rfl (λaM=> ?_) λaM=> ?_
 ·have aM:i<l.length:=by omega
  refine ea (K:=br) (l:=l) (j:=i) ae ae ?_;refine fI (K:=br) (l:=l) (j:=i) (o:=0) (c:=ef (l.getD i default)) ae ae ae ew ?_;refine dm (v:= .bool (decide (rm fb (l.getD i default)))) (λw _=>MR.any ⟨af,yF⟩) ?_;refine n9 rfl ?_;refine mF rfl (λh=>dY (bg (no λq=>h (q.1 i aM)))) λaw=> ?_
  have hval:∀k,k<=i->rm fb (l.getD k default):=λk hk=>by
   rcases Nat.lt_or_eq_of_le hk with h|h
   ·exact MT k h
   ·rw[h];exact aw
  have cU:∀k,k<=i->eQ (l.getD k default)/\dK (l.getD k default).2:=λk hk=>G_ yF (hval k hk)
  refine mb (p:=0<(i:Int)) ae ae ae ae (λhp=> ?_) λhp=> ?_
  ·obtain⟨g,av⟩:∃g,i=g+1:=⟨i-1,af⟩
   refine sj (a:=(i:Nat)) (b:=1) ae ae ?_;rw[show (i:Int)-1=(g:Nat) by omega];refine ea (K:=br) (l:=l) (j:=g) ae ae ?_;refine q8 (K:=br) (l:=l) (j:=g) rfl ?_;refine fI (K:=br) (l:=l) (j:=g) (o:=1) (c:=b_ (l.getD g default).2) ae ae ae ew ?_;refine ea (K:=br) (l:=l) (j:=i) ae ae ?_;refine q8 (K:=br) (l:=l) (j:=i) rfl ?_;refine fI (K:=br) (l:=l) (j:=i) (o:=1) (c:=b_ (l.getD i default).2) ae ae ae ew ?_;refine dm (v:=n6 (if cD (l.getD g default).2<cD (l.getD i default).2 then -1 else if cD (l.getD i default).2<cD (l.getD g default).2 then 1 else 0)) (λw _=>L5.any _ _) ?_;refine aZ ?_;refine bD rfl (λh=>dY (bg (no λq=>by
    have:=q.2.1 g af;rw[<-av] at this;rw[aR this] at h
    omega))) λh=> ?_
   have ao:cD (l.getD g default).2<cD (l.getD i default).2:=by
    split at h
    ·assumption
    ·split at h<;>omega
   have Hb:∀k,k+1<i+1->cD (l.getD k default).2<cD (l.getD (k+1) default).2:=λk hk=>by
    rcases Nat.lt_or_ge (k+1) i with h1|h1
    ·exact rV k h1
    ·obtain rfl:k=g:=by omega
     rw[<-av];exact ao
   refine gJ Nat (λj=>[n6 0,n6 (j:Nat)]) (λ_=>[]) (λj=>j<=i/\∀x,x<j->eW (k3 (bG (l.getD x default)) (bG (l.getD i default)))<=0) (λj=>i-j) 0 ae ae ⟨Nat.zero_le _,λj hj=>absurd hj (Nat.not_lt_zero j)⟩ (λj hj=> ?_);obtain⟨hj,sA⟩:=hj;refine aZ ?_;refine bD rfl (λev=> ?_) λev=> ?_
   ·have ev:j<i:=by omega
    have Hc:=rl (cU j af).1 (cU j af).2;have bi:=rl (cU i (bM _)).1 (cU i (bM _)).2;refine ea (K:=br) (l:=l) (j:=j) ae ae ?_;refine fI (K:=br) (l:=l) (j:=j) (o:=0) (c:=ef (l.getD j default)) ae ae ae ew ?_;refine cI (im (bG (l.getD j default))) (λw _=>rf.any (cU j af).1 (jt (cU j af).2)) rfl ?_;refine ea (K:=br) (l:=l) (j:=i) ae ae ?_;refine fI (K:=br) (l:=l) (j:=i) (o:=0) (c:=ef (l.getD i default)) ae ae ae ew ?_;refine cI (im (bG (l.getD i default))) (λw _=>rf.any (cU i (bM _)).1 (jt (cU i (bM _)).2)) rfl ?_;refine cI (im (k3 (bG (l.getD j default)) (bG (l.getD i default)))) (λw _=>G'.any _ _) rfl ?_;refine dm (v:=n6 (eW (k3 (bG (l.getD j default)) (bG (l.getD i default))))) (λw _=>tY.any (MQ Hc bi)) ?_;refine aZ ?_;refine bD rfl (λh=>dY (dY (bg (no λq=>by have:=q.2.2.1 j i ev aM;omega)))) λh=> ?_
    refine aZ ?_;refine dN (j+1) ae ae ⟨ev,λx ag=> ?_⟩ af;rcases Nat.lt_succ_iff_lt_or_eq.1 ag with h1|h1
    ·exact sA x h1
    ·rw[h1];omega
   ·have bi:=rl (cU i (bM _)).1 (cU i (bM _)).2
    have wA:=sC (cU i (bM _)).1;refine dY ?_;refine ea (K:=br) (l:=l) (j:=i) ae ae ?_;refine fI (K:=br) (l:=l) (j:=i) (o:=0) (c:=ef (l.getD i default)) ae ae ae ew ?_;refine cI (im (bG (l.getD i default))) (λw _=>rf.any (cU i (bM _)).1 (jt (cU i (bM _)).2)) rfl ?_;refine dm (v:=n6 (eW (bG (l.getD i default)))) (λw _=>tY.any bi) ?_;refine kC ae ae ?_;refine aZ ?_;refine dN (i+1) ae ae ⟨aM,λk hk=>hval k af,Hb,λx k BW hk=> ?_,?_⟩ af
    ·rcases Nat.lt_succ_iff_lt_or_eq.1 hk with h1|h1
     ·exact Ha x k BW h1
     ·rw[h1];exact sA x af
    ·show 0<=jg l i+eW (bG (l.getD i default))/\jg l i+eW (bG (l.getD i default))<=_
     omega
  ·have Hb:∀k,k+1<i+1->cD (l.getD k default).2<cD (l.getD (k+1) default).2:=λk hk=>by omega
   refine gJ Nat (λj=>[n6 0,n6 (j:Nat)]) (λ_=>[]) (λj=>j<=i/\∀x,x<j->eW (k3 (bG (l.getD x default)) (bG (l.getD i default)))<=0) (λj=>i-j) 0 ae ae ⟨Nat.zero_le _,λj hj=>absurd hj (Nat.not_lt_zero j)⟩ (λj hj=> ?_);obtain⟨hj,sA⟩:=hj;refine aZ ?_;refine bD rfl (λev=> ?_) λev=> ?_
   ·have ev:j<i:=by omega
    have Hc:=rl (cU j af).1 (cU j af).2;have bi:=rl (cU i (bM _)).1 (cU i (bM _)).2;refine ea (K:=br) (l:=l) (j:=j) ae ae ?_;refine fI (K:=br) (l:=l) (j:=j) (o:=0) (c:=ef (l.getD j default)) ae ae ae ew ?_;refine cI (im (bG (l.getD j default))) (λw _=>rf.any (cU j af).1 (jt (cU j af).2)) rfl ?_;refine ea (K:=br) (l:=l) (j:=i) ae ae ?_;refine fI (K:=br) (l:=l) (j:=i) (o:=0) (c:=ef (l.getD i default)) ae ae ae ew ?_;refine cI (im (bG (l.getD i default))) (λw _=>rf.any (cU i (bM _)).1 (jt (cU i (bM _)).2)) rfl ?_;refine cI (im (k3 (bG (l.getD j default)) (bG (l.getD i default)))) (λw _=>G'.any _ _) rfl ?_;refine dm (v:=n6 (eW (k3 (bG (l.getD j default)) (bG (l.getD i default))))) (λw _=>tY.any (MQ Hc bi)) ?_;refine aZ ?_;refine bD rfl (λh=>dY (dY (bg (no λq=>by have:=q.2.2.1 j i ev aM;omega)))) λh=> ?_
    refine aZ ?_;refine dN (j+1) ae ae ⟨ev,λx ag=> ?_⟩ af;rcases Nat.lt_succ_iff_lt_or_eq.1 ag with h1|h1
    ·exact sA x h1
    ·rw[h1];omega
   ·have bi:=rl (cU i (bM _)).1 (cU i (bM _)).2
    have wA:=sC (cU i (bM _)).1;refine dY ?_;refine ea (K:=br) (l:=l) (j:=i) ae ae ?_;refine fI (K:=br) (l:=l) (j:=i) (o:=0) (c:=ef (l.getD i default)) ae ae ae ew ?_;refine cI (im (bG (l.getD i default))) (λw _=>rf.any (cU i (bM _)).1 (jt (cU i (bM _)).2)) rfl ?_;refine dm (v:=n6 (eW (bG (l.getD i default)))) (λw _=>tY.any bi) ?_;refine kC ae ae ?_;refine aZ ?_;refine dN (i+1) ae ae ⟨aM,λk hk=>hval k af,Hb,λx k BW hk=> ?_,?_⟩ af
    ·rcases Nat.lt_succ_iff_lt_or_eq.1 hk with h1|h1
     ·exact Ha x k BW h1
     ·rw[h1];exact sA x af
    ·show 0<=jg l i+eW (bG (l.getD i default))/\jg l i+eW (bG (l.getD i default))<=_
     omega
 ·obtain rfl:i=l.length:=by omega
  have kk:=su yF;have yE:=ss fb;refine dY ?_;refine aZ ?_;refine o4 (a:=1) (s:=3*fb) (v:=((8^fb:Nat):Int)) (by rw[<-p9,p_];omega) rfl (by
   show n6 (3*(fb:Int))=n6 _
   exact congrArg n6 af) ?_
  refine aZ ?_;refine bD rfl (λh=>bg (no λq=>h q.2.2.2)) λh=>bg (by rw[aR ⟨MT,rV,Ha,af⟩];rfl)
end MS
end AE
end
end
section
noncomputable section
namespace AE
abbrev me (l:List b8):Prop:=l.Pairwise λx z=>¬fR z x
theorem MU {x y z:b8} (h1:¬fR x y) (ad:¬fR y z):¬fR x z:=by
 unfold fR at*
 omega
theorem MV {x y:b8} (h:fR x y):¬fR y x:=by
 unfold fR at*
 omega
structure ns (A B out:List b8) (i k:Nat):Prop where
 J:i<=A.length
 hk:k<=B.length
 perm:out.Perm (A.take i++B.take k)
 Hd:me out
 low:∀x∈out,∀z,z∈A.drop i\/z∈B.drop k->¬fR z x
theorem MW {α:Type} [Inhabited α] {l:List α} {i:Nat} (h:i<l.length):l.take (i+1)=l.take i++[l.getD i default]:=by
 rw[List.take_add_one,fc h,de,fc h];rfl
theorem BX {l:List b8} (h:me l) {i:Nat} (J:i<l.length) {z:b8} (bk:z∈l.drop i):z=l.getD i default\/(z∈l.drop (i+1)/\¬fR z (l.getD i default)):=by
 have aH:=h.sublist (List.drop_sublist i l);rw[ua J] at bk aH;rcases List.mem_cons.1 bk with bk|bk
 ·exact .inl bk
 ·exact .inr ⟨bk,(List.pairwise_cons.1 aH).1 z bk⟩
theorem BY {l:List b8} {i:Nat} (J:i<l.length) {z:b8} (bk:z∈l.drop (i+1)):z∈l.drop i:=by
 rw[ua J];exact List.mem_cons_of_mem _ bk
theorem MX {out:List b8} {x:b8} (h:me out) (ag:∀y∈out,¬fR x y):me (out++[x]):=by
 refine List.pairwise_append.2 ⟨h,List.pairwise_singleton _ _,λy aT z bk=> ?_⟩;rw[List.mem_singleton] at bk;subst bk;exact ag y aT
theorem yV (x:b8):¬fR x x:=by
 unfold fR;omega
theorem ns.a {A B out:List b8} {i k:Nat} (h:ns A B out i k) (hf:me A) (dw:me B) (J:i<A.length) (ao:k<B.length->¬fR (B.getD k default) (A.getD i default)):ns A B (out++[A.getD i default]) (i+1) k:=by
 have hm:A.getD i default∈A.drop i:=by rw[ua J];exact List.mem_cons_self
 refine⟨J,h.hk,?_,MX h.Hd λy aT=>h.low y aT _ (.inl hm),λx ag z bk=> ?_⟩
 ·rw[MW J,List.append_assoc]
  refine(List.Perm.append_right _ h.perm).trans ?_;rw[List.append_assoc];exact List.Perm.append_left _ List.perm_append_comm
 ·rcases List.mem_append.1 ag with ag|ag
  ·exact h.low x ag z (bk.imp (BY J) id)
  ·rw[List.mem_singleton] at ag
   subst ag;rcases bk with bk|bk
   ·rcases BX hf J (BY J bk) with e|e
    ·rw[e];exact yV _
    ·exact e.2
   ·rcases Nat.lt_or_ge k B.length with hk|hk
    ·rcases BX dw hk bk with e|e
     ·rw[e];exact ao hk
     ·exact MU e.2 (ao hk)
    ·rw[List.drop_eq_nil_of_le hk] at bk
     cases bk
theorem ns.b {A B out:List b8} {i k:Nat} (h:ns A B out i k) (hf:me A) (dw:me B) (hk:k<B.length) (ao:i<A.length->fR (B.getD k default) (A.getD i default)):ns A B (out++[B.getD k default]) i (k+1):=by
 have hm:B.getD k default∈B.drop k:=by rw[ua hk];exact List.mem_cons_self
 refine⟨h.J,hk,?_,MX h.Hd λy aT=>h.low y aT _ (.inr hm),λx ag z bk=> ?_⟩
 ·rw[MW hk,<-List.append_assoc]
  exact List.Perm.append_right _ h.perm
 ·rcases List.mem_append.1 ag with ag|ag
  ·exact h.low x ag z (bk.imp id (BY hk))
  ·rw[List.mem_singleton] at ag
   subst ag;rcases bk with bk|bk
   ·rcases Nat.lt_or_ge i A.length with J|J
    ·have aA:=MV (ao J)
     rcases BX hf J bk with e|e
     ·rw[e];exact aA
     ·exact MU e.2 aA
    ·rw[List.drop_eq_nil_of_le J] at bk
     cases bk
   ·rcases BX dw hk (BY hk bk) with e|e
    ·rw[e];exact yV _
    ·exact e.2
theorem ns.fin {A B out:List b8} {i k:Nat} (h:ns A B out i k) (J:i=A.length) (hk:k=B.length):out.Perm (A++B)/\me out:=by
 subst J hk;have:=h.perm;rw[List.take_length,List.take_length] at this;exact⟨this,h.Hd⟩
theorem ns.zero (A B:List b8):ns A B [] 0 0:=⟨Nat.zero_le _,Nat.zero_le _,List.Perm.nil,List.Pairwise.nil,λx ag=>by cases ag⟩
def wB (l:List b8):Option (dT×List b8)->List b8
 |none=>l
 |some x=>x.2
def pe (v:I):Option (dT×List b8)->I
 |none=>v
 |some x=> .slice x.1.1 x.2.length x.1.2
def jD:Option (dT×List b8)->aI bf
 |none=> .arr bN (.slice none 0 0) []
 |some x=> .arr bN (.slice x.1.1 x.2.length x.1.2) x.2
abbrev BZ (l:List b8):={y:Option (dT×List b8) // (wB l y).Perm l/\me (wB l y)}
theorem MY {a:ht} {c:Nat} {l:List b8} (y:Option (dT×List b8)):∃a2 c2,pe (.slice a l.length c) y= .slice a2 (wB l y).length c2:=by
 cases y with
 |none=>exact⟨a,c,rfl⟩
 |some x=>exact⟨x.1.1,x.1.2,rfl⟩
theorem MZ {ro:List (eB bf)} {L:List (aI bf)} {v:I} {l:List b8} (y:Option (dT×List b8)) (h:h2 ro ⟨bN,v,l⟩) (hL:h2 L (jD y)):cx ro L bN (pe v y) (wB l y):=by
 cases y with
 |none=>exact .ro h
 |some x=>exact .arr hL
theorem VL {l:List b8} (h:l.length<2):me l:=by
 match l,h with
 |[],_=>exact .nil
 |[x],_=>exact List.pairwise_singleton _ _
namespace M0
def t:aN:=
.o (.len #[27] 3 0) 1 1 [0,58]<|
.o (.bin .lss 3 1 (n6 2)) 2 1 []<|
.a1 2 (
 .ret 0) (
 .o (.len #[27] 3 0) 3 1 [0,58]<|
 .o (.bin .quo 3 3 (n6 2)) 4 1 []<|
 .o (.h_ 27 0 none (some 4) none) 5 1 [0,58,6]<|
 .call 52 [5] 6 1<|
 .o (.len #[27] 3 0) 7 1 [0,58]<|
 .o (.bin .quo 3 7 (n6 2)) 8 1 []<|
 .o (.h_ 27 0 (some 8) none none) 9 1 [0,58,6]<|
 .call 52 [9] 10 1<|
 .loop [n6 0,.slice none 0 0,n6 0] 3<|
 .o (.len #[27] 3 6) 14 1 [0,58]<|
 .o (.bin .lss 3 13 14) 15 1 []<|
 .a1 15 (
  .o (.len #[27] 3 10) 16 1 [0,58]<|
  .s (.bin .eql 3 11 16) [] (
   .o (.ca 27 6 13) 17 1 [0,58,6]<|
   .o (.ld 58 17) (.agg ⟨dt 6 18⟩) 6 [6]<|
   .ic 27 12 [18,19,20,21,22,23]<|
   .o (.bin .add 3 13 (n6 1)) 25 1 []<|
   .back [11,24,25]) (
   .o (.len #[27] 3 6) 17 1 [0,58]<|
   .s (.bin .lss 3 13 17) [] (
    .o (.ca 27 10 11) 18 1 [0,58,6]<|
    .o (.ld 58 18) (.agg ⟨dt 6 19⟩) 6 [6]<|
    .o (.ca 27 6 13) 25 1 [0,58,6]<|
    .o (.ld 58 25) (.agg ⟨dt 6 26⟩) 6 [6]<|
    .c 82 [.agg ⟨[19,20,21,22,23,24]⟩,.agg ⟨[26,27,28,29,30,31]⟩] 32 1<|
    .o (.un .not 32) 33 1 []<|
    .a1 33 (
     .o (.ca 27 6 13) 34 1 [0,58,6]<|
     .o (.ld 58 34) (.agg ⟨dt 6 35⟩) 6 [6]<|
     .ic 27 12 [35,36,37,38,39,40]<|
     .o (.bin .add 3 13 (n6 1)) 42 1 []<|
     .back [11,41,42]) (
     .o (.ca 27 10 11) 34 1 [0,58,6]<|
     .o (.ld 58 34) (.agg ⟨dt 6 35⟩) 6 [6]<|
     .ic 27 12 [35,36,37,38,39,40]<|
     .o (.bin .add 3 11 (n6 1)) 42 1 []<|
     .back [42,41,13])) (
    .o (.ca 27 10 11) 18 1 [0,58,6]<|
    .o (.ld 58 18) (.agg ⟨dt 6 19⟩) 6 [6]<|
    .ic 27 12 [19,20,21,22,23,24]<|
    .o (.bin .add 3 11 (n6 1)) 26 1 []<|
    .back [26,25,13]))) (
  .o (.len #[27] 3 10) 16 1 [0,58]<|
  .o (.bin .lss 3 11 16) 17 1 []<|
  .a1 17 (
   .o (.len #[27] 3 10) 18 1 [0,58]<|
   .s (.bin .eql 3 11 18) [] (
    .o (.ca 27 6 13) 19 1 [0,58,6]<|
    .o (.ld 58 19) (.agg ⟨dt 6 20⟩) 6 [6]<|
    .ic 27 12 [20,21,22,23,24,25]<|
    .o (.bin .add 3 13 (n6 1)) 27 1 []<|
    .back [11,26,27]) (
    .o (.len #[27] 3 6) 19 1 [0,58]<|
    .s (.bin .lss 3 13 19) [] (
     .o (.ca 27 10 11) 20 1 [0,58,6]<|
     .o (.ld 58 20) (.agg ⟨dt 6 21⟩) 6 [6]<|
     .o (.ca 27 6 13) 27 1 [0,58,6]<|
     .o (.ld 58 27) (.agg ⟨dt 6 28⟩) 6 [6]<|
     .c 82 [.agg ⟨[21,22,23,24,25,26]⟩,.agg ⟨[28,29,30,31,32,33]⟩] 34 1<|
     .o (.un .not 34) 35 1 []<|
     .a1 35 (
      .o (.ca 27 6 13) 36 1 [0,58,6]<|
      .o (.ld 58 36) (.agg ⟨dt 6 37⟩) 6 [6]<|
      .ic 27 12 [37,38,39,40,41,42]<|
      .o (.bin .add 3 13 (n6 1)) 44 1 []<|
      .back [11,43,44]) (
      .o (.ca 27 10 11) 36 1 [0,58,6]<|
      .o (.ld 58 36) (.agg ⟨dt 6 37⟩) 6 [6]<|
      .ic 27 12 [37,38,39,40,41,42]<|
      .o (.bin .add 3 11 (n6 1)) 44 1 []<|
      .back [44,43,13])) (
     .o (.ca 27 10 11) 20 1 [0,58,6]<|
     .o (.ld 58 20) (.agg ⟨dt 6 21⟩) 6 [6]<|
     .ic 27 12 [21,22,23,24,25,26]<|
     .o (.bin .add 3 11 (n6 1)) 28 1 []<|
     .back [28,27,13]))) (
   .cu<|
   .ret 12)))
theorem bq:cL Tryd.prog 52 {n0:=[52]} [0] 1=some t:=cT a6
theorem any (N:Nat):∀{W:aj} {a:ht} {n c:Nat} {l:List b8},l.length=N->dg (aS W) (bW ([]:List (aI bf)))->bH (aS W) 6 gZ (.slice a n c) l->n=l.length->l.length<=500000->l.length<=c->
  jS bf 52 [.slice a n c] W [] (BZ l) (λy=>pe (.slice a n c) y.1) λy=>[jD y.1]:=by
 induction N using Nat.strongRecOn with|_ N bI=> ?_
 intro W a n c l qK bV hl ah U hB;subst ah qK;refine wb bN (λbV=> ?_) bV;obtain⟨h,aq⟩:∃h,h=l.length/2:=⟨_,rfl⟩;have h1:=hl.take (j:=h) af;have ad:=hl.drop (j:=h) af;have aM:(l.take h).length=h:=by rw[List.length_take];omega
 have pZ:(l.drop h).length=l.length-h:=List.length_drop;refine q9 (ro:=[⟨bN,.slice a l.length c,l⟩,⟨bN,.slice a h c,l.take h⟩,⟨bN,.slice (gQ a c h 6) (l.length-h) (c-h),l.drop h⟩]) mixed bq [.slice a l.length c] bV (fi.off (.cons hl (.cons h1 (.cons ad (.nil _)))) (yx bN)) ?_;unfold t;refine aZ ?_;refine bD rfl (λhs=>bg ⟨⟨none,List.Perm.refl _,show me l from VL af⟩,rfl,rfl⟩) λhs=> ?_
 have hs:2<=l.length:=by omega
 refine l_ rfl ?_;refine p4 (a:=(l.length:Nat)) (b:=2) ae ae ?_;rw[show ((l.length:Nat):Int)/2=(h:Nat) by omega];refine By (a:=a) (m:=l.length) (c:=c) (j:=h) ae ae ?_ af;refine jB (R:=λy:BZ (l.take h)=>jD y.1) (v:=λy=>pe (.slice a h c) y.1) (λy=>[pe (.slice a h c) y.1]) (λw hw bV=>bI h af (l:=l.take h) aM bV ((cx.ro (K:=bN) (v:= .slice a h c) (l:=l.take h) (.s .z)).at hw) aM.symm af af) (λiD=> ?_) (h1:=λy=>by cases y with|mk o p=>cases o<;>exact ew);refine l_ rfl ?_;refine p4 (a:=(l.length:Nat)) (b:=2) ae ae ?_;rw[show ((l.length:Nat):Int)/2=(h:Nat) by omega];refine Bc (a:=a) (m:=l.length) (c:=c) (j:=h) (m':=l.length-h) ae ae ae ?_;refine jB (R:=λy:BZ (l.drop h)=>jD y.1) (v:=λy=>pe (.slice (gQ a c h 6) (l.length-h) (c-h)) y.1) (λy=>[pe (.slice (gQ a c h 6) (l.length-h) (c-h)) y.1]) (λw hw bV=>bI (l.length-h) af (l:=l.drop h) pZ bV ((cx.ro (K:=bN) (v:= .slice (gQ a c h 6) (l.length-h) (c-h)) (l:=l.drop h) (.s (.s .z))).at hw) pZ.symm af af) (λjy=> ?_) (h1:=λy=>by cases y with|mk o p=>cases o<;>exact ew);obtain⟨A,B0⟩:∃A,A=wB (l.take h) iD.1:=⟨_,rfl⟩;obtain⟨gU,B1⟩:∃B,B=wB (l.drop h) jy.1:=⟨_,rfl⟩;have hf:me A:=by rw[B0];exact iD.2.2
 have dw:me gU:=by rw[B1];exact jy.2.2
 have M1:A.Perm (l.take h):=by rw[B0];exact iD.2.1
 have M3:gU.Perm (l.drop h):=by rw[B1];exact jy.2.1
 have VM:=M1.length_eq;have VN:=M3.length_eq;rw[aM] at VM;rw[pZ] at VN;obtain⟨VO,VP,M4⟩:∃a2 c2,pe (.slice a h c) iD.1= .slice a2 A.length c2:=by
  have:=MY (a:=a) (c:=c) (l:=l.take h) iD.1;rw[aM,<-B0] at this;exact this
 obtain⟨VQ,VR,M5⟩:∃a2 c2,pe (.slice (gQ a c h 6) (l.length-h) (c-h)) jy.1= .slice a2 gU.length c2:=by
  have:=MY (a:=gQ a c h 6) (c:=c-h) (l:=l.drop h) jy.1;rw[pZ,<-B1] at this;exact this
 rw[M4,M5];have sD:∀{x y z:aI bf},y=jD iD.1->cx [⟨bN,.slice a l.length c,l⟩,⟨bN,.slice a h c,l.take h⟩,⟨bN,.slice (gQ a c h 6) (l.length-h) (c-h),l.drop h⟩] [x,y,z] bN (.slice VO A.length VP) A:=λ{x y z} e=>by
  subst e;have:=MZ (ro:=[⟨bN,.slice a l.length c,l⟩,⟨bN,.slice a h c,l.take h⟩,⟨bN,.slice (gQ a c h 6) (l.length-h) (c-h),l.drop h⟩]) (L:=[x,jD iD.1,z]) iD.1 (v:= .slice a h c) (l:=l.take h) (.s .z) (.s .z);rw[M4,<-B0] at this;exact this
 have sE:∀{x y z:aI bf},z=jD jy.1->cx [⟨bN,.slice a l.length c,l⟩,⟨bN,.slice a h c,l.take h⟩,⟨bN,.slice (gQ a c h 6) (l.length-h) (c-h),l.drop h⟩] [x,y,z] bN (.slice VQ gU.length VR) gU:=λ{x y z} e=>by
  subst e;have:=MZ (ro:=[⟨bN,.slice a l.length c,l⟩,⟨bN,.slice a h c,l.take h⟩,⟨bN,.slice (gQ a c h 6) (l.length-h) (c-h),l.drop h⟩]) (L:=[x,y,jD jy.1]) jy.1 (v:= .slice (gQ a c h 6) (l.length-h) (c-h)) (l:=l.drop h) (.s (.s .z)) (.s (.s .z));rw[M5,<-B1] at this;exact this
 replace sD:=λ{x:aI bf}=>sD (x:=x) (z:=jD jy.1) rfl
 replace sE:=λ{x:aI bf}=>sE (x:=x) (y:=jD iD.1) rfl
 refine gJ (dT×List b8×Nat×Nat) (λu=>[n6 (u.2.2.2:Nat),.slice u.1.1 u.2.1.length u.1.2,n6 (u.2.2.1:Nat)]) (λu=>[aI.arr bN (.slice u.1.1 u.2.1.length u.1.2) u.2.1,jD iD.1,jD jy.1]) (λu=>ns A gU u.2.1 u.2.2.1 u.2.2.2) (λu=>(A.length-u.2.2.1)+(gU.length-u.2.2.2)) ((none,0),[],0,0) ae ae (ns.zero A gU) (λu bc=> ?_);obtain⟨bj,out,i,k⟩:=u;have bc:ns A gU out i k:=bc;have nG:out.length<=500000:=by
  have:=bc.perm.length_eq;rw[List.length_append,List.length_take,List.length_take] at this;omega
 have zL:=bc.J;have fU:=bc.hk;have rT:((bj,out,i,k):dT×List b8×Nat×Nat).2.2.2<=gU.length:=bc.hk;have kE:((bj,out,i,k):dT×List b8×Nat×Nat).2.2.1<=A.length:=bc.J;refine l_ rfl ?_;refine aZ ?_;refine bD rfl (λJ=> ?_) λJ=> ?_
 ·have J:i<A.length:=by dsimp only at J;omega
  refine l_ rfl ?_;refine mb (p:=((k:Nat):Int)=(gU.length:Nat)) ae ae ae ae (λhk=> ?_) λhk=> ?_
  ·refine ea (K:=bN) (l:=A) (j:=i) ae ae ?_ (hs:=sD)
   refine fI (K:=bN) (l:=A) (j:=i) (o:=0) (c:=gZ (A.getD i default)) ae ae ae ew ?_ (hs:=sD);refine ma (K:=bN) (d:=0) (l:=out) (v:= .slice bj.1 out.length bj.2) (L':=λa c=>[aI.arr bN (.slice a (out++[A.getD i default]).length c) (out++[A.getD i default]),jD iD.1,jD jy.1]) [A.getD i default] rfl (λa c=> .z) rfl (λa4 ga=> ?_) (lA (by show out.length+1<=_;omega)) (by show (out.length+1)*48<=_;omega);refine aZ ?_;refine dN (u:=(bj,out,i,k)) ((a4,ga),out++[A.getD i default],i+1,k) ?_ ?_ ?_ ?_
   ·rfl
   ·rfl
   ·exact bc.a hf dw J λh=>absurd h af
   ·dsimp only;omega
  ·have hk:k<gU.length:=by omega
   refine l_ rfl ?_;refine mb (p:=((i:Nat):Int)<(A.length:Nat)) ae ae ae ae (λ_=> ?_) λh=>absurd h af
   refine ea (K:=bN) (l:=gU) (j:=k) ae ae ?_ (hs:=sE);refine fI (K:=bN) (l:=gU) (j:=k) (o:=0) (c:=gZ (gU.getD k default)) ae ae ae ew ?_ (hs:=sE);refine ea (K:=bN) (l:=A) (j:=i) ae ae ?_ (hs:=sD);refine fI (K:=bN) (l:=A) (j:=i) (o:=0) (c:=gZ (A.getD i default)) ae ae ae ew ?_ (hs:=sD);refine dm (v:= .bool (decide (fR (gU.getD k default) (A.getD i default)))) (λw _=>Mt.any _ _) ?_;refine n9 rfl ?_;refine mF rfl (λaA=> ?_) λaA=> ?_
   ·refine ea (K:=bN) (l:=A) (j:=i) ae ae ?_ (hs:=sD)
    refine fI (K:=bN) (l:=A) (j:=i) (o:=0) (c:=gZ (A.getD i default)) ae ae ae ew ?_ (hs:=sD);refine ma (K:=bN) (d:=0) (l:=out) (v:= .slice bj.1 out.length bj.2) (L':=λa c=>[aI.arr bN (.slice a (out++[A.getD i default]).length c) (out++[A.getD i default]),jD iD.1,jD jy.1]) [A.getD i default] rfl (λa c=> .z) rfl (λa4 ga=> ?_) (lA (by show out.length+1<=_;omega)) (by show (out.length+1)*48<=_;omega);refine aZ ?_;refine dN (u:=(bj,out,i,k)) ((a4,ga),out++[A.getD i default],i+1,k) ?_ ?_ ?_ ?_
    ·rfl
    ·rfl
    ·exact bc.a hf dw J λ_=>aA
    ·dsimp only;omega
   ·refine ea (K:=bN) (l:=gU) (j:=k) ae ae ?_ (hs:=sE)
    refine fI (K:=bN) (l:=gU) (j:=k) (o:=0) (c:=gZ (gU.getD k default)) ae ae ae ew ?_ (hs:=sE);refine ma (K:=bN) (d:=0) (l:=out) (v:= .slice bj.1 out.length bj.2) (L':=λa c=>[aI.arr bN (.slice a (out++[gU.getD k default]).length c) (out++[gU.getD k default]),jD iD.1,jD jy.1]) [gU.getD k default] rfl (λa c=> .z) rfl (λa4 ga=> ?_) (lA (by show out.length+1<=_;omega)) (by show (out.length+1)*48<=_;omega);refine aZ ?_;refine dN (u:=(bj,out,i,k)) ((a4,ga),out++[gU.getD k default],i,k+1) ?_ ?_ ?_ ?_
    ·rfl
    ·rfl
    ·exact bc.b hf dw hk λ_=>aA
    ·dsimp only;omega
 ·have J:i=A.length:=by dsimp only at J;omega
  refine l_ rfl ?_;refine aZ ?_;refine bD rfl (λhk=> ?_) λhk=> ?_
  ·have hk:k<gU.length:=by dsimp only at hk;omega
   refine l_ rfl ?_;refine mb (p:=((k:Nat):Int)=(gU.length:Nat)) ae ae ae ae (λh=>absurd h af) λ_=> ?_
   refine l_ rfl ?_;refine mb (p:=((i:Nat):Int)<(A.length:Nat)) ae ae ae ae (λh=>absurd h af) λ_=> ?_
   refine ea (K:=bN) (l:=gU) (j:=k) ae ae ?_ (hs:=sE);refine fI (K:=bN) (l:=gU) (j:=k) (o:=0) (c:=gZ (gU.getD k default)) ae ae ae ew ?_ (hs:=sE);refine ma (K:=bN) (d:=0) (l:=out) (v:= .slice bj.1 out.length bj.2) (L':=λa c=>[aI.arr bN (.slice a (out++[gU.getD k default]).length c) (out++[gU.getD k default]),jD iD.1,jD jy.1]) [gU.getD k default] rfl (λa c=> .z) rfl (λa4 ga=> ?_) (lA (by show out.length+1<=_;omega)) (by show (out.length+1)*48<=_;omega);refine aZ ?_;refine dN (u:=(bj,out,i,k)) ((a4,ga),out++[gU.getD k default],i,k+1) ?_ ?_ ?_ ?_
   ·rfl
   ·rfl
   ·exact bc.b hf dw hk λh=>absurd h af
   ·dsimp only;omega
  ·have hk:k=gU.length:=by dsimp only at hk;omega
   obtain⟨e1,e2⟩:=bc.fin J hk;refine dY (sm (L':=[aI.arr bN (.slice bj.1 out.length bj.2) out]) (λM aV=>by exact aV.pick [0] rfl) ⟨⟨some (bj,out),?_,e2⟩,rfl,rfl⟩);exact e1.trans ((List.Perm.append M1 M3).trans (by rw[List.take_append_drop]))
end M0
end AE
end
end
section
noncomputable section
namespace AE
def lE (C:bA) (bd:Nat) (s:Int) (k:Nat):Bool:=decide (∀j,j<k->j=bd\/co C j%s=0)
theorem wC (C:bA) (bd:Nat) (s:Int) (k:Nat):lE C bd s (k+1)=(lE C bd s k&&decide (k=bd\/co C k%s=0)):=by
 unfold lE;rw[Bool.eq_iff_iff,b4,decide_eq_true_iff,decide_eq_true_iff,decide_eq_true_iff];constructor
 ·exact λh=>⟨λj hj=>h j af,h k af⟩
 ·rintro ⟨h1,ad⟩ j hj
  rcases Nat.lt_succ_iff_lt_or_eq.1 hj with al|al
  ·exact h1 j al
  ·rw[al];exact ad
def k4 (table:List dr) (x:eh) (p:bA) (bd up:Nat) (y:Option eh):Option b8:=
 if (y.isSome&&dO table (cF y).2.2)=true then none
 else if lE (bU p bd (up:Nat)) bd (if y.isSome=true then min x.2.1 (cF y).2.1 else x.2.1) 3=true then some (bU p bd (up:Nat),(bd:Nat),decide (up=1),if y.isSome=true then min x.2.1 (cF y).2.1 else x.2.1) else none
theorem VS {table:List dr} {x:eh} {p:bA} {bd up:Nat} {y:Option eh} (h:(y.isSome&&dO table (cF y).2.2)=true):k4 table x p bd up y=none:=aR h
theorem M6 {table:List dr} {x:eh} {p:bA} {bd up:Nat} {y:Option eh} {s:Int} (h:¬(y.isSome&&dO table (cF y).2.2)=true) (hs:(if y.isSome=true then min x.2.1 (cF y).2.1 else x.2.1)=s) (U:lE (bU p bd (up:Nat)) bd s 3=true):k4 table x p bd up y=some (bU p bd (up:Nat),((bd:Nat):Int),decide (up=1),s):=by
 unfold k4;rw[aW h,hs,aR U]
theorem M7 {table:List dr} {x:eh} {p:bA} {bd up:Nat} {y:Option eh} {s:Int} (h:¬(y.isSome&&dO table (cF y).2.2)=true) (hs:(if y.isSome=true then min x.2.1 (cF y).2.1 else x.2.1)=s) (U:lE (bU p bd (up:Nat)) bd s 3=false):k4 table x p bd up y=none:=by
 unfold k4;rw[aW h,hs,aW (by rw[U];exact Bool.false_ne_true)]
def pg (l:List bw) (ai:List eK) (table:List dr) (x:eh) (p:bA) (bd up:Nat):List b8:=(k4 table x p bd up (cJ l ai (bU p bd (2*(up:Int)-1)))).toList
def sF (l:List bw) (ai:List eK) (table:List dr) (x:eh) (p:bA) (bd:Nat):List b8:=(List.range 2).flatMap (pg l ai table x p bd)
def jV (l:List bw) (ai:List eK) (table:List dr) (p:bA):List b8:=if dO table (cF (cJ l ai p)).2.2=true then (List.range 3).flatMap (sF l ai table (cF (cJ l ai p)) p) else []
def rn (l:List bw) (ai:List eK) (table:List dr) (k:Nat):List b8:=(List.range (8^b3 (l.getD k default))).flatMap λi=>jV l ai table (fY (bG (l.getD k default)) (i:Nat))
def jW (l:List bw) (ai:List eK) (table:List dr):List b8:=(List.range l.length).flatMap (rn l ai table)
theorem M8 (l:List bw) (ai:List eK) (table:List dr) (x:eh) (p:bA) (bd up:Nat):(pg l ai table x p bd up).length<=1:=by
 unfold pg;cases k4 table x p bd up (cJ l ai (bU p bd (2*(up:Int)-1)))<;>simp
theorem M9 (l:List bw) (ai:List eK) (table:List dr) (x:eh) (p:bA) (bd:Nat):(sF l ai table x p bd).length<=2:=mH (M8 l ai table x p bd) 2
theorem M_ (l:List bw) (ai:List eK) (table:List dr) (p:bA):(jV l ai table p).length<=6:=by
 unfold jV;split
 ·exact mH (M9 l ai table _ p) 3
 ·simp
theorem He (l:List bw) (ai:List eK) (table:List dr):∀n,((List.range n).flatMap (rn l ai table)).length<=6*ju l n
 |0=>by simp
 |n+1=>by
  rw[qa (β:=b8),List.length_append];have h1:=He l ai table n;have ad:(rn l ai table n).length<=8^b3 (l.getD n default)*6:=mH (λi=>M_ l ai table _) _;show _<=6*(ju l n+8^b3 (l.getD n default));omega
theorem Na {d:Nat} {l:List bw} (h:gh d l 0):∀k,k<=l.length->gh d (l.drop k) (ju l k)
 |0,_=>h
 |k+1,hk=>by
  have:=Na h k af;rw[ua af,Gy] at this;exact this.2.2.2
theorem Nb {d:Nat} {l:List bw} (h:gh d l 0) {k:Nat} (hk:k<=l.length):ju l k<=8^d:=Gn (Na h k hk)
theorem VT {p:bA} (h:dK p) {j:Nat} {n:Int} (h0: -16384<=n) (h1:n<=16384):e0 (bU p j n):=by
 unfold dK at h;unfold bU e0;dsimp only;refine⟨?_,?_,?_,?_,?_,?_⟩<;>split<;>omega
theorem Nc {p:bA} (h:dK p) {j z:Nat} {n:Int} (h0:0<=n):0<=co (bU p j n) z:=by
 unfold dK at h;unfold bU
 match z with
 |0=>show 0<=p.1+_;split<;>omega
 |1=>show 0<=p.2.1+_;split<;>omega
 |z+2=>show 0<=p.2.2+_;split<;>omega
theorem wD {t:bw} (h:eQ t) (hp:dK t.2) {i:Nat} (J:i<8^b3 t):cO (fY (bG t) (i:Nat)) (bG t):=by
 have aw:=(sC h).1;have q:=LI (rl h hp) (show (0:Int)<=(i:Nat) by omega) (by unfold eW at aw;omega);have e:fY (bG t) (i:Nat)=((bG t).1+(i:Int)%(bz (bG t)).1,(bG t).2.1+(i:Int)/(bz (bG t)).1%(bz (bG t)).2.1,(bG t).2.2.1+(i:Int)/(bz (bG t)).1/(bz (bG t)).2.1):=aR ⟨af,af⟩;have hs:=o8 h;have aB:gT (bG t):=by
  unfold gT bG;dsimp only;omega
 rw[q' aB] at q e;rw[e];unfold cO;unfold bG at q ⊢;dsimp only at q ⊢;omega
theorem B2 {M:Mem} {e k:Nat} {α:Type} {enc:α->List I} {a:ht} {c:Nat} {l:List α} (h:di 0 M e k enc (.slice a l.length c) l):l.length<=c:=by
 rcases h with ⟨aL,h0,rfl⟩|⟨g,cap,cur,h0,_,_,_,h1,_⟩
 ·exact Nat.zero_le _
 ·cases h0
  exact h1
abbrev Nd (L:List b8):=dT×Ord L
namespace Nf
def t:aN:=
.loop [.slice none 0 0,n6 0] 2<|
.o (.len #[22] 3 0) 5 1 [0,44]<|
.o (.bin .lss 3 4 5) 6 1 []<|
.a1 6 (
 .o (.ca 22 0 4) 7 1 [0,44,4]<|
 .o (.ld 44 7) (.agg ⟨dt 4 8⟩) 4 [4]<|
 .c 25 [.agg ⟨[8,9,10,11]⟩] (.agg ⟨[12,13,14,15,16,17]⟩) 6<|
 .loop [3,n6 0] 2<|
 .c 50 [.agg ⟨[12,13,14,15,16,17]⟩] 20 1<|
 .o (.bin .lss 3 19 20) 21 1 []<|
 .a1 21 (
  .c 35 [.agg ⟨[12,13,14,15,16,17]⟩,19] (.tuple ⟨[.agg ⟨[22,23,24]⟩,25]⟩) 4<|
  .c 28 [0,1,.agg ⟨[22,23,24]⟩] (.tuple ⟨[.agg ⟨[26,27,28,29,30]⟩,31]⟩) 6<|
  .c 30 [2,30] 32 1<|
  .o (.un .not 32) 33 1 []<|
  .a1 33 (
   .o (.bin .add 3 19 (n6 1)) 34 1 []<|
   .back [18,34]) (
   .loop [18,n6 0] 2<|
   .o (.bin .lss 3 35 (n6 3)) 36 1 []<|
   .a1 36 (
    .loop [34,n6 0] 2<|
    .o (.bin .lss 3 38 (n6 2)) 39 1 []<|
    .a1 39 (
     .o (.bin .mul 3 (n6 2) 38) 40 1 []<|
     .o (.bin .sub 3 40 (n6 1)) 41 1 []<|
     .c 51 [.agg ⟨[22,23,24]⟩,35,41] (.agg ⟨[42,43,44]⟩) 3<|
     .c 28 [0,1,.agg ⟨[42,43,44]⟩] (.tuple ⟨[.agg ⟨[45,46,47,48,49]⟩,50]⟩) 6<|
     .c 30 [2,49] 51 1<|
     .a1 50 (
      .a1 51 (
       .o (.bin .add 3 38 (n6 1)) 52 1 []<|
       .back [37,52]) (
       .o (.lb #[3,3] 3 29 48) 52 1 []<|
       .c 51 [.agg ⟨[22,23,24]⟩,35,38] (.agg ⟨[53,54,55]⟩) 3<|
       .hT 56<|
       .st 56 56 (.agg ⟨[53,54,55]⟩)<|
       .loop [n6 0,.bool true] 2<|
       .o (.bin .lss 3 57 (n6 3)) 59 1 []<|
       .a1 59 (
        .a1 58 (
         .o (.bin .eql 3 57 35) 60 1 []<|
         .a1 60 (
          .o (.bin .add 3 57 (n6 1)) 61 1 []<|
          .back [61,.bool true]) (
          .o (.ca 56 56 57) 61 1 [1,3,3,1]<|
          .o (.ld 3 61) 62 1 [1]<|
          .o (.bin .rem 3 62 52) 63 1 []<|
          .o (.bin .eql 3 63 (n6 0)) 64 1 []<|
          .o (.bin .add 3 57 (n6 1)) 65 1 []<|
          .back [65,64])) (
         .o (.bin .add 3 57 (n6 1)) 60 1 []<|
         .back [60,.bool false])) (
        .cu<|
        .a1 58 (
         .o (.bin .eql 3 38 (n6 1)) 60 1 []<|
         .ic 27 37 [53,54,55,35,60,52]<|
         .o (.bin .add 3 38 (n6 1)) 62 1 []<|
         .back [61,62]) (
         .o (.bin .add 3 38 (n6 1)) 60 1 []<|
         .back [37,60])))) (
      .c 51 [.agg ⟨[22,23,24]⟩,35,38] (.agg ⟨[52,53,54]⟩) 3<|
      .hT 56<|
      .st 56 55 (.agg ⟨[52,53,54]⟩)<|
      .loop [n6 0,.bool true] 2<|
      .o (.bin .lss 3 56 (n6 3)) 58 1 []<|
      .a1 58 (
       .a1 57 (
        .o (.bin .eql 3 56 35) 59 1 []<|
        .a1 59 (
         .o (.bin .add 3 56 (n6 1)) 60 1 []<|
         .back [60,.bool true]) (
         .o (.ca 56 55 56) 60 1 [1,3,3,1]<|
         .o (.ld 3 60) 61 1 [1]<|
         .o (.bin .rem 3 61 29) 62 1 []<|
         .o (.bin .eql 3 62 (n6 0)) 63 1 []<|
         .o (.bin .add 3 56 (n6 1)) 64 1 []<|
         .back [64,63])) (
        .o (.bin .add 3 56 (n6 1)) 59 1 []<|
        .back [59,.bool false])) (
       .cu<|
       .a1 57 (
        .o (.bin .eql 3 38 (n6 1)) 59 1 []<|
        .ic 27 37 [52,53,54,35,59,29]<|
        .o (.bin .add 3 38 (n6 1)) 61 1 []<|
        .back [60,61]) (
        .o (.bin .add 3 38 (n6 1)) 59 1 []<|
        .back [37,59])))) (
     .cu<|
     .o (.bin .add 3 35 (n6 1)) 40 1 []<|
     .back [37,40])) (
    .cu<|
    .o (.bin .add 3 19 (n6 1)) 37 1 []<|
    .back [34,37]))) (
  .cu<|
  .o (.bin .add 3 4 (n6 1)) 22 1 []<|
  .back [18,22])) (
 .cu<|
 .call 52 [3] 7 1<|
 .ret 7)
theorem bq:cL Tryd.prog 11 {n0:=[52],marks:=[56]} [0,1,2] 3=some t:=cT a6
theorem any {W:aj} {a a2 a3:ht} {n c n2 c2 pb eN:Nat} {l:List bw} {ai:List eK} {table:List dr} {d:Nat} (H:jf d l ai) (VU:d<=5) (bV:dg (aS W) (bW ([]:List (aI bf)))) (hl:bH (aS W) 4 ef (.slice a n c) l) (ah:n=l.length) (hC:bH (aS W) 1 lB (.slice a2 n2 c2) ai) (gj:n2=ai.length) (fQ:∀x∈ai,bH (aS W) 1 encI (fJ x) x.2) (c9:bH (aS W) 8 jz (.slice a3 pb eN) table) (yP:pb=table.length):
  jS bf 11 [.slice a n c,.slice a2 n2 c2,.slice a3 pb eN] W [] (Nd (jW l ai table)) (λy=> .slice y.1.1 (jW l ai table).length y.1.2) λy=>[aI.arr bN (.slice y.1.1 (jW l ai table).length y.1.2) y.2.1]:=by
 subst ah gj yP;have X':8^d<=32768:=Nat.pow_le_pow_right (n:=8) (j:=5) cG VU;refine wb bN (λbV=> ?_) bV;refine q9 (ro:=⟨br,.slice a l.length c,l⟩::⟨gB,.slice a2 ai.length c2,ai⟩::⟨g',.slice a3 table.length eN,table⟩::nr ai) mixed bq [.slice a l.length c,.slice a2 ai.length c2,.slice a3 table.length eN] bV (fi.off (.cons hl (.cons hC (.cons c9 (sz fQ)))) (yx bN)) ?_;unfold t;refine gJ (dT×Nat) (λu=>[.slice u.1.1 ((List.range u.2).flatMap (rn l ai table)).length u.1.2,n6 (u.2:Nat)]) (λu=>[aI.arr bN (.slice u.1.1 ((List.range u.2).flatMap (rn l ai table)).length u.1.2) ((List.range u.2).flatMap (rn l ai table))]) (λu=>u.2<=l.length) (λu=>l.length-u.2) ((none,0),0) ae ae (Nat.zero_le _) (λu hu=> ?_);obtain⟨bj,k⟩:=u;have hu:k<=l.length:=hu;have hlen:=H.len;dsimp only;refine l_ rfl ?_;refine aZ ?_;refine bD rfl (λaM=> ?_) λaM=> ?_
 ·have aM:k<l.length:=by omega
  obtain⟨cZ,du,_⟩:=hb H.aH H.pl aM;have VV:=Nb H.pl (show k+1<=l.length from aM);obtain⟨kh,uj⟩:∃kh,kh=(List.range k).flatMap (rn l ai table):=⟨_,rfl⟩;have Vl:kh.length<=6*ju l k:=by rw[uj];exact He l ai table k
  obtain⟨kq,rP⟩:∃kq,kq=8^b3 (l.getD k default):=⟨_,rfl⟩;have ez:ju l (k+1)=ju l k+kq:=by rw[rP];rfl
  have Hf:=(sC cZ).1;rw[<-rP] at Hf;have VW:rn l ai table k=(List.range kq).flatMap λi=>jV l ai table (fY (bG (l.getD k default)) (i:Nat)):=by rw[rP];rfl
  rw[<-uj];refine ea (K:=br) (l:=l) (j:=k) ae ae ?_ (hs:= .ro .z);refine fI (K:=br) (l:=l) (j:=k) (o:=0) (c:=ef (l.getD k default)) ae ae ae ew ?_ (hs:= .ro .z);refine cI (im (bG (l.getD k default))) (λw _=>rf.any cZ (jt du)) rfl ?_;refine gJ (dT×Nat) (λu=>[.slice u.1.1 (kh++(List.range u.2).flatMap λi=>jV l ai table (fY (bG (l.getD k default)) (i:Nat))).length u.1.2,n6 (u.2:Nat)]) (λu=>[aI.arr bN (.slice u.1.1 (kh++(List.range u.2).flatMap λi=>jV l ai table (fY (bG (l.getD k default)) (i:Nat))).length u.1.2) (kh++(List.range u.2).flatMap λi=>jV l ai table (fY (bG (l.getD k default)) (i:Nat)))]) (λu=>u.2<=kq) (λu=>kq-u.2) (bj,0) (by simp;rfl) (by simp) (Nat.zero_le _) (λu hu=> ?_);obtain⟨bj,i⟩:=u;have hu:i<=kq:=hu;dsimp only;refine dm (v:=n6 (eW (bG (l.getD k default)))) (λw _=>tY.any (rl cZ du)) ?_;rw[Hf];refine p3 (a:=(i:Nat)) (b:=(kq:Nat)) ae ae ?_;refine bD rfl (λev=> ?_) λev=> ?_
  ·have ev:i<kq:=by omega
   obtain⟨jC,uk⟩:∃jC,jC=kh++(List.range i).flatMap λi=>jV l ai table (fY (bG (l.getD k default)) (i:Nat)):=⟨_,rfl⟩
   have Vm:jC.length<=6*ju l k+i*6:=by
    rw[uk,List.length_append];have:=mH (f:=λi=>jV l ai table (fY (bG (l.getD k default)) ((i:Nat):Int))) (λi=>M_ l ai table _) i;omega
   rw[<-uk];obtain⟨p,hp⟩:∃p,p=fY (bG (l.getD k default)) (i:Nat):=⟨_,rfl⟩;have Ng:cO p (bG (l.getD k default)):=by rw[hp];exact wD cZ du (by rw[<-rP];exact ev)
   have qj:=((tZ H.aH H.pl aM).1 Ng).1;have VX:=yG H.aH H.pl aM Ng;obtain⟨x,ag⟩:∃x,x=cF (cJ l ai p):=⟨_,rfl⟩;have vG:x.2.1=cY (l.getD k default):=by
    rw[ag];unfold cJ;rw[VX];rfl
   have X_:=nq cZ;have VY:∀{q:bA} {y:Option eh},y=cJ l ai q->y.isSome=true->1<=(cF y).2.1:=λ{q y} e hs=>by
    subst e;unfold cJ at hs ⊢;cases e:hx l q with
    |none=>rw[e] at hs;cases hs
    |some j=>exact(nq (hb H.aH H.pl (o_ e).1).1).1
   have mJ:kh++((List.range (i+1)).flatMap λi=>jV l ai table (fY (bG (l.getD k default)) (i:Nat)))=jC++jV l ai table p:=by
    rw[qa (β:=b8),<-List.append_assoc,<-uk,<-hp]
   refine cI (b_ p++[.bool true]) (λw _=>by
    rw[hp]
    exact LS.any (rl cZ du) af (by rw[Hf];omega)) rfl ?_
   refine cI (np x++[.bool (cJ l ai p).isSome]) (λw hw=>by
    rw[ag]
    exact GQ.any p H ((cx.ro (K:=br) (v:= .slice a l.length c) (l:=l) .z).at hw) rfl ((cx.ro (K:=gB) (v:= .slice a2 ai.length c2) (l:=ai) (.s .z)).at hw) rfl (λz bk=>(cx.ro (K:=hv) (v:=fJ z) (l:=z.2) (.s (.s (.s (mG bk))))).at hw)) rfl ?_
   refine dm (v:= .bool (dO table x.2.2)) (λw hw=>GI.any _ ((cx.ro (K:=g') (v:= .slice a3 table.length eN) (l:=table) (.s (.s .z))).at hw) rfl) ?_;refine n9 rfl ?_;refine lz rfl (λiK=> ?_) λiK=> ?_
   ·have iK:dO table x.2.2=false:=by simpa using iK
    have wx:jV l ai table p=[]:=by
     unfold jV;rw[<-ag,aW (by rw[iK];exact Bool.false_ne_true)]
    rw[wx,List.append_nil] at mJ;refine aZ ?_;refine dN (u:=(bj,i)) (bj,i+1) ?_ ?_ ?_ ?_
    ·dsimp only;rw[mJ];rfl
    ·dsimp only;rw[mJ]
    ·exact ev
    ·dsimp only;omega
   ·have iK:dO table x.2.2=true:=by simpa using iK
    have wx:jV l ai table p=(List.range 3).flatMap (sF l ai table x p):=by
     unfold jV;rw[<-ag,aR iK]
    rw[wx] at mJ;refine gJ (dT×Nat) (λu=>[.slice u.1.1 (jC++(List.range u.2).flatMap (sF l ai table x p)).length u.1.2,n6 (u.2:Nat)]) (λu=>[aI.arr bN (.slice u.1.1 (jC++(List.range u.2).flatMap (sF l ai table x p)).length u.1.2) (jC++(List.range u.2).flatMap (sF l ai table x p))]) (λu=>u.2<=3) (λu=>3-u.2) (bj,0) (by simp;rfl) (by simp) (Nat.zero_le _) (λu hu=> ?_);obtain⟨bj,bd⟩:=u;have hu:bd<=3:=hu;dsimp only;refine aZ ?_;refine bD rfl (λhc=> ?_) λhc=> ?_
    ·have hc:bd<3:=by omega
     obtain⟨ph,Hg⟩:∃ph,ph=jC++(List.range bd).flatMap (sF l ai table x p):=⟨_,rfl⟩;have Ya:ph.length<=6*ju l k+i*6+bd*2:=by
      rw[Hg,List.length_append];have:=mH (M9 l ai table x p) bd;omega
     rw[<-Hg];refine gJ (dT×Nat) (λu=>[.slice u.1.1 (ph++(List.range u.2).flatMap (pg l ai table x p bd)).length u.1.2,n6 (u.2:Nat)]) (λu=>[aI.arr bN (.slice u.1.1 (ph++(List.range u.2).flatMap (pg l ai table x p bd)).length u.1.2) (ph++(List.range u.2).flatMap (pg l ai table x p bd))]) (λu=>u.2<=2) (λu=>2-u.2) (bj,0) (by simp;rfl) (by simp) (Nat.zero_le _) (λu hu=> ?_);obtain⟨bj,up⟩:=u;have hu:up<=2:=hu;dsimp only;refine aZ ?_;refine bD rfl (λur=> ?_) λur=> ?_
     ·have ur:up<2:=by omega
      obtain⟨cM,um⟩:∃cM,cM=ph++(List.range up).flatMap (pg l ai table x p bd):=⟨_,rfl⟩;have Vn:cM.length<=6*ju l k+i*6+bd*2+up:=by
       rw[um,List.length_append];have:=mH (M8 l ai table x p bd) up;omega
      rw[<-um];have fg:ph++(List.range (up+1)).flatMap (pg l ai table x p bd)=cM++(k4 table x p bd up (cJ l ai (bU p bd (2*(up:Int)-1)))).toList:=by
       rw[qa (β:=b8),<-List.append_assoc,<-um];rfl
      have kY:k4 table x p bd up (cJ l ai (bU p bd (2*(up:Int)-1)))=none->ph++(List.range (up+1)).flatMap (pg l ai table x p bd)=cM:=λh=>by
       rw[fg,h];exact List.append_nil _
      have mI:∀q,k4 table x p bd up (cJ l ai (bU p bd (2*(up:Int)-1)))=some q->ph++(List.range (up+1)).flatMap (pg l ai table x p bd)=cM++[q]:=λq h=>by
       rw[fg,h];rfl
      refine kD (a:=2) (b:=(up:Nat)) ae ae ?_;refine sj ae ae ?_;refine cI (b_ (bU p bd (2*(up:Int)-1))) (λw _=>BH.any (p:=p) (j:=bd) (n:=2*(up:Int)-1) hc (jt qj) af) rfl ?_;obtain⟨y,aT⟩:∃y,y=cJ l ai (bU p bd (2*(up:Int)-1)):=⟨_,rfl⟩;rw[<-aT] at kY mI;refine cI (np (cF y)++[.bool y.isSome]) (λw hw=>by
       rw[aT]
       exact GQ.any (bU p bd (2*(up:Int)-1)) H ((cx.ro (K:=br) (v:= .slice a l.length c) (l:=l) .z).at hw) rfl ((cx.ro (K:=gB) (v:= .slice a2 ai.length c2) (l:=ai) (.s .z)).at hw) rfl (λz bk=>(cx.ro (K:=hv) (v:=fJ z) (l:=z.2) (.s (.s (.s (mG bk))))).at hw)) rfl ?_
      refine dm (v:= .bool (dO table (cF y).2.2)) (λw hw=>GI.any _ ((cx.ro (K:=g') (v:= .slice a3 table.length eN) (l:=table) (.s (.s .z))).at hw) rfl) ?_;obtain⟨C,hC⟩:∃C,C=bU p bd (up:Nat):=⟨_,rfl⟩;have Nh:e0 C:=by rw[hC];exact VT qj af af
      refine lz rfl (λgk=> ?_) λgk=> ?_
      ·refine lz rfl (λiK=> ?_) λiK=> ?_
       ·have ah:=kY (VS (by rw[show y.isSome=true from gk,show dO table (cF y).2.2=true from iK];rfl))
        refine aZ ?_;refine yy (u:=(bj,up)) (bj,up+1) ?_ (λM aV=> ?_) ?_ ?_
        ·dsimp only;rw[ah];rfl
        ·dsimp only;rw[ah];exact aV
        ·exact ur
        ·dsimp only;omega
       ·have Yb:=VY aT gk
        have nM:¬(y.isSome&&dO table (cF y).2.2)=true:=by rw[show dO table (cF y).2.2=false from iK,Bool.and_false];exact Bool.false_ne_true
        refine F8 (a:=x.2.1) (b:=(cF y).2.1) ae ae ?_;refine cI (b_ C) (λw _=>by rw[hC];exact BH.any (p:=p) (j:=bd) (n:=(up:Nat)) hc (jt qj) af) rfl ?_;refine o3 (z:= .agg ⟨[n6 0,n6 0,n6 0]⟩) (L':=λg=>[aI.arr bN (.slice bj.1 cM.length bj.2) cM,.box g _ [n6 0,n6 0,n6 0]]) [n6 0,n6 0,n6 0] a6 rfl (λg=> .s .z) (λg=> ?_);refine p6 (m:=3) (us:=b_ C) (cs':=b_ C) (L':=[aI.arr bN (.slice bj.1 cM.length bj.2) cM,.box g _ (b_ C)]) ae ae (.s .z) rfl ?_;refine gJ Nat (λk=>[n6 (k:Nat),.bool (lE C bd (min x.2.1 (cF y).2.1) k)]) (λk=>[aI.arr bN (.slice bj.1 cM.length bj.2) cM,.box g _ (b_ C)]) (λk=>k<=3) (λk=>3-k) 0 ae ae (Nat.zero_le _) (λz bk=> ?_);refine aZ ?_;refine bD rfl (λnt=> ?_) λnt=> ?_
        ·have nt:z<3:=by omega
         refine lz rfl (λU=> ?_) λU=> ?_
         ·refine q7 (a:=((z:Nat):Int)) (b:=(bd:Nat)) ae ae ?_
          refine bD rfl (λhe=> ?_) λhe=> ?_
          ·refine aZ ?_
           refine dN (u:=z) (z+1) ?_ ?_ ?_ ?_
           ·rw[wC,show lE C bd (min x.2.1 (cF y).2.1) z=true from U,jh (Or.inl af)];rfl
           ·rfl
           ·exact nt
           ·omega
          ·have k8:0<=co C z:=by
            rw[hC];exact Nc (n:=((up:Nat):Int)) qj af
           have bR:0+z*1=z:=by omega
           refine jc (g:=g) (o:=0) (j:=z) ae ae ?_;refine js (g:=g) (o:=0+z*1) (u:=n6 (co C z)) rfl (.s .z) (by rw[bR];exact t' C nt) ?_;refine p5 (a:=co C z) (b:=min x.2.1 (cF y).2.1) ae ae ?_ (by have:=GU Nh z;omega) af;refine q7 (a:=co C z%(min x.2.1 (cF y).2.1)) (b:=0) ae ae ?_;refine aZ ?_;refine dN (u:=z) (z+1) ?_ ?_ ?_ ?_
           ·rw[wC,show lE C bd (min x.2.1 (cF y).2.1) z=true from U,Bool.true_and,decide_eq_decide.2 (show (z=bd\/co C z%(min x.2.1 (cF y).2.1)=0)↔co C z%(min x.2.1 (cF y).2.1)=0 from ⟨λq=>q.resolve_left af,.inr⟩)];rfl
           ·rfl
           ·exact nt
           ·omega
         ·refine aZ ?_
          refine dN (u:=z) (z+1) ?_ ?_ ?_ ?_
          ·rw[wC,show lE C bd (min x.2.1 (cF y).2.1) z=false from U];rfl
          ·rfl
          ·exact nt
          ·omega
        ·obtain rfl:z=3:=by omega
         refine dY ?_;refine lz rfl (λU=> ?_) λU=> ?_
         ·have ah:=mI (C,((bd:Nat):Int),decide (up=1),min x.2.1 (cF y).2.1) ((M6 nM (aR gk) (by rw[<-hC];exact U)).trans (by rw[<-hC]))
          refine q7 (a:=((up:Nat):Int)) (b:=1) ae ae ?_;rw[decide_eq_decide.2 (show ((up:Nat):Int)=1↔up=1 by omega)];refine ma (K:=bN) (d:=0) (l:=cM) (v:= .slice bj.1 cM.length bj.2) (L':=λa c=>[aI.arr bN (.slice a (cM++[(C,((bd:Nat):Int),decide (up=1),min x.2.1 (cF y).2.1)]).length c) (cM++[(C,((bd:Nat):Int),decide (up=1),min x.2.1 (cF y).2.1)]),.box g _ (b_ C)]) [(C,((bd:Nat):Int),decide (up=1),min x.2.1 (cF y).2.1)] rfl (λa c=> .z) rfl (λa4 ga=> ?_) (lA (by show cM.length+1<=_;omega)) (by show (cM.length+1)*48<=_;omega);rw[<-ah];refine aZ ?_;refine yy (u:=(bj,up)) ((a4,ga),up+1) ?_ (λM aV=> ?_) ?_ ?_
          ·rfl
          ·exact aV.pick [0] rfl
          ·exact ur
          ·dsimp only;omega
         ·have ah:=kY (M7 nM (aR gk) (by rw[<-hC];exact U))
          refine aZ ?_;refine yy (u:=(bj,up)) (bj,up+1) ?_ (λM aV=> ?_) ?_ ?_
          ·dsimp only;rw[ah];rfl
          ·dsimp only;rw[ah];exact aV.pick [0] rfl
          ·exact ur
          ·dsimp only;omega
      ·have nM:¬(y.isSome&&dO table (cF y).2.2)=true:=by rw[show y.isSome=false from gk,Bool.false_and];exact Bool.false_ne_true
       have Ni:¬y.isSome=true:=by rw[show y.isSome=false from gk];exact Bool.false_ne_true
       refine cI (b_ C) (λw _=>by rw[hC];exact BH.any (p:=p) (j:=bd) (n:=(up:Nat)) hc (jt qj) af) rfl ?_;refine o3 (z:= .agg ⟨[n6 0,n6 0,n6 0]⟩) (L':=λg=>[aI.arr bN (.slice bj.1 cM.length bj.2) cM,.box g _ [n6 0,n6 0,n6 0]]) [n6 0,n6 0,n6 0] a6 rfl (λg=> .s .z) (λg=> ?_);refine p6 (m:=3) (us:=b_ C) (cs':=b_ C) (L':=[aI.arr bN (.slice bj.1 cM.length bj.2) cM,.box g _ (b_ C)]) ae ae (.s .z) rfl ?_;refine gJ Nat (λk=>[n6 (k:Nat),.bool (lE C bd (x.2.1) k)]) (λk=>[aI.arr bN (.slice bj.1 cM.length bj.2) cM,.box g _ (b_ C)]) (λk=>k<=3) (λk=>3-k) 0 ae ae (Nat.zero_le _) (λz bk=> ?_);refine aZ ?_;refine bD rfl (λnt=> ?_) λnt=> ?_
       ·have nt:z<3:=by omega
        refine lz rfl (λU=> ?_) λU=> ?_
        ·refine q7 (a:=((z:Nat):Int)) (b:=(bd:Nat)) ae ae ?_
         refine bD rfl (λhe=> ?_) λhe=> ?_
         ·refine aZ ?_
          refine dN (u:=z) (z+1) ?_ ?_ ?_ ?_
          ·rw[wC,show lE C bd (x.2.1) z=true from U,jh (Or.inl af)];rfl
          ·rfl
          ·exact nt
          ·omega
         ·have k8:0<=co C z:=by
           rw[hC];exact Nc (n:=((up:Nat):Int)) qj af
          have bR:0+z*1=z:=by omega
          refine jc (g:=g) (o:=0) (j:=z) ae ae ?_;refine js (g:=g) (o:=0+z*1) (u:=n6 (co C z)) rfl (.s .z) (by rw[bR];exact t' C nt) ?_;refine p5 (a:=co C z) (b:=x.2.1) ae ae ?_ (by have:=GU Nh z;omega) af;refine q7 (a:=co C z%(x.2.1)) (b:=0) ae ae ?_;refine aZ ?_;refine dN (u:=z) (z+1) ?_ ?_ ?_ ?_
          ·rw[wC,show lE C bd (x.2.1) z=true from U,Bool.true_and,decide_eq_decide.2 (show (z=bd\/co C z%(x.2.1)=0)↔co C z%(x.2.1)=0 from ⟨λq=>q.resolve_left af,.inr⟩)];rfl
          ·rfl
          ·exact nt
          ·omega
        ·refine aZ ?_
         refine dN (u:=z) (z+1) ?_ ?_ ?_ ?_
         ·rw[wC,show lE C bd (x.2.1) z=false from U];rfl
         ·rfl
         ·exact nt
         ·omega
       ·obtain rfl:z=3:=by omega
        refine dY ?_;refine lz rfl (λU=> ?_) λU=> ?_
        ·have ah:=mI (C,((bd:Nat):Int),decide (up=1),x.2.1) ((M6 nM (aW Ni) (by rw[<-hC];exact U)).trans (by rw[<-hC]))
         refine q7 (a:=((up:Nat):Int)) (b:=1) ae ae ?_;rw[decide_eq_decide.2 (show ((up:Nat):Int)=1↔up=1 by omega)];refine ma (K:=bN) (d:=0) (l:=cM) (v:= .slice bj.1 cM.length bj.2) (L':=λa c=>[aI.arr bN (.slice a (cM++[(C,((bd:Nat):Int),decide (up=1),x.2.1)]).length c) (cM++[(C,((bd:Nat):Int),decide (up=1),x.2.1)]),.box g _ (b_ C)]) [(C,((bd:Nat):Int),decide (up=1),x.2.1)] rfl (λa c=> .z) rfl (λa4 ga=> ?_) (lA (by show cM.length+1<=_;omega)) (by show (cM.length+1)*48<=_;omega);rw[<-ah];refine aZ ?_;refine yy (u:=(bj,up)) ((a4,ga),up+1) ?_ (λM aV=> ?_) ?_ ?_
         ·rfl
         ·exact aV.pick [0] rfl
         ·exact ur
         ·dsimp only;omega
        ·have ah:=kY (M7 nM (aW Ni) (by rw[<-hC];exact U))
         refine aZ ?_;refine yy (u:=(bj,up)) (bj,up+1) ?_ (λM aV=> ?_) ?_ ?_
         ·dsimp only;rw[ah];rfl
         ·dsimp only;rw[ah];exact aV.pick [0] rfl
         ·exact ur
         ·dsimp only;omega
     ·obtain rfl:up=2:=by omega
      have zO:jC++(List.range (bd+1)).flatMap (sF l ai table x p)=ph++(List.range 2).flatMap (pg l ai table x p bd):=by
       rw[qa (β:=b8),<-List.append_assoc,<-Hg];rfl
      refine dY ?_;refine aZ ?_;refine dN (u:=(bj,bd)) (bj,bd+1) ?_ ?_ ?_ ?_
      ·dsimp only;rw[zO];rfl
      ·dsimp only;rw[zO]
      ·exact hc
      ·dsimp only;omega
    ·obtain rfl:bd=3:=by omega
     refine dY ?_;refine aZ ?_;refine dN (u:=(bj,i)) (bj,i+1) ?_ ?_ ?_ ?_
     ·dsimp only;rw[mJ];rfl
     ·dsimp only;rw[mJ]
     ·exact ev
     ·dsimp only;omega
  ·obtain rfl:i=kq:=by omega
   have qD:(List.range (k+1)).flatMap (rn l ai table)=kh++(List.range i).flatMap λi=>jV l ai table (fY (bG (l.getD k default)) (i:Nat)):=by
    rw[qa (β:=b8),<-uj,VW]
   refine dY ?_;refine aZ ?_;refine dN (u:=(bj,k)) (bj,k+1) ?_ ?_ ?_ ?_
   ·dsimp only;rw[qD];rfl
   ·dsimp only;rw[qD]
   ·exact aM
   ·dsimp only;omega
 ·obtain rfl:k=l.length:=by omega
  have qI:(jW l ai table).length<=6*ju l l.length:=He l ai table l.length;have VV:=Nb H.pl (bM l.length);refine dY ?_;refine jB (R:=λy:BZ (jW l ai table)=>jD y.1) (v:=λy=>pe (.slice bj.1 (jW l ai table).length bj.2) y.1) (λy=>[pe (.slice bj.1 (jW l ai table).length bj.2) y.1]) (λw hw bV=>M0.any _ rfl bV ((cx.arr (K:=bN) (v:= .slice bj.1 (jW l ai table).length bj.2) (l:=jW l ai table) .z).at hw) rfl af (B2 (hw.own.ok 0 _ rfl))) (λy=> ?_) (h1:=λy=>by cases y with|mk o p=>cases o<;>exact ew);obtain⟨o,ax⟩:=y;cases o with
  |none=>exact sm (L':=[aI.arr bN (.slice bj.1 (jW l ai table).length bj.2) (jW l ai table)]) (λM aV=>by exact aV.pick [0] rfl) ⟨(bj,⟨jW l ai table,ax⟩),rfl,rfl⟩
  |some z=>
   have bk:z.2.length=(jW l ai table).length:=ax.1.length_eq;refine sm (L':=[aI.arr bN (.slice z.1.1 z.2.length z.1.2) z.2]) (λM aV=>by exact aV.pick [1] rfl) ⟨(z.1,⟨z.2,ax⟩),?_,?_⟩
   ·rw[<-bk];rfl
   ·rw[<-bk]
end Nf
end AE
end
end
section
noncomputable section
namespace AE
theorem B3 {p q:bA} (h:∀j,j<3->co p j=co q j):p=q:=by
 have h0:=h 0 af;have h1:=h 1 af;have ad:=h 2 af;exact Prod.ext h0 (Prod.ext h1 ad)
theorem pj {p:bA} {j k:Nat} {n:Int} (hj:j<3):co (bU p k n) j=co p j+(if k=j then n else 0):=by
 match j,hj with
 |0,_=>rfl
 |1,_=>rfl
 |2,_=>rfl
theorem B4 {p:bA} {k:Nat} {m n:Int}:bU (bU p k m) k n=bU p k (m+n):=by
 refine B3 λj hj=> ?_
 rw[pj hj,pj hj,pj hj];split<;>omega
theorem yW (p:bA) (k:Nat):bU p k 0=p:=by
 refine B3 λj hj=> ?_
 rw[pj hj];split<;>omega
theorem Hh {s x m:Int} (hs:0<s):x/s=m↔s*m<=x/\x<s*m+s:=by
 constructor
 ·rintro rfl
  have h1:=Int.mul_ediv_add_emod x s;have ad:=Int.emod_nonneg x (show s≠0 by omega);have al:=Int.emod_lt_of_pos x hs;omega
 ·rintro ⟨h1,ad⟩
  have a:m<=x/s:=Int.le_ediv_of_mul_le hs (by rw[Int.mul_comm];exact h1);have b:x/s<m+1:=Int.ediv_lt_of_lt_mul hs (by rw[Int.add_mul,Int.one_mul,Int.mul_comm];exact ad);omega
def qb (p:bA) (a:eh):Prop:=∀j,j<3->co a.1 j<=co p j/\co p j<co a.1 j+a.2.1
theorem VZ {p:bA} {a:eh}:qb p a↔(a.1.1<=p.1/\p.1<a.1.1+a.2.1)/\(a.1.2.1<=p.2.1/\p.2.1<a.1.2.1+a.2.1)/\(a.1.2.2<=p.2.2/\p.2.2<a.1.2.2+a.2.1):=by
 constructor
 ·exact λh=>⟨h 0 af,h 1 af,h 2 af⟩
 ·rintro ⟨h0,h1,ad⟩ j hj
  match j,hj with
  |0,_=>exact h0
  |1,_=>exact h1
  |2,_=>exact ad
theorem B5 {t:bw} (o:eQ t) {cells:List Int} {i:Nat} (J:i<64) {p:bA}:qb p (je t cells i)↔cO p (bG t)/\kF t p=i:=by
 obtain⟨s1,s2,j5⟩:=nq o;rw[VZ];unfold je;rw[BD J];dsimp only;have d1:=Hh (s:=cY t) (x:=p.1-t.2.1) (m:=(i:Int)%4) af;have d2:=Hh (s:=cY t) (x:=p.2.1-t.2.2.1) (m:=(i:Int)/4%4) af;have d3:=Hh (s:=cY t) (x:=p.2.2-t.2.2.2) (m:=(i:Int)/4/4) af;have m1:∀x:Int,0<=x->x<=3->0<=cY t*x/\cY t*x+cY t<=cp t:=λx h0 h1=>by
  refine⟨Int.mul_nonneg af h0,?_⟩;have:cY t*x<=cY t*3:=Int.mul_le_mul_of_nonneg_left h1 af;omega
 have eH:=m1 ((i:Int)%4) af af;have fK:=m1 ((i:Int)/4%4) af af;have km:=m1 ((i:Int)/4/4) af af;constructor
 ·rintro ⟨h1,ad,al⟩
  have U:cO p (bG t):=by
   unfold cO bG;dsimp only;omega
  refine⟨U,?_⟩;unfold kF;rw[d1.2 af,d2.2 af,d3.2 af];omega
 ·rintro ⟨U,ag⟩
  have q:=wu o U;unfold kF at ag;have e1:=d1.1 af;have e2:=d2.1 af;have fg:=d3.1 af;omega
section
variable {d:Nat} {l:List bw} {ai:List eK}
abbrev pk (l:List bw) (ai:List eK) (k i:Nat):eh:=je (l.getD k default) (ai.getD k default).2 i
def uu (l:List bw) (ai:List eK) (a:eh):Prop:=∃k i,k<l.length/\i<64/\a=pk l ai k i
theorem Hi (H:jf d l ai) {a:eh} (h:uu l ai a) {p:bA} (hp:qb p a):cJ l ai p=some a:=by
 obtain⟨k,i,hk,J,rfl⟩:=h;obtain⟨h1,ad⟩:=(B5 (hb H.aH H.pl hk).1 J).1 hp;unfold cJ;rw[yG H.aH H.pl hk h1];show some (je _ _ (kF _ p))=_;rw[ad]
theorem Hj (H:jf d l ai) {p:bA} {a:eh} (h:cJ l ai p=some a):uu l ai a/\qb p a:=by
 unfold cJ at h;cases e:hx l p with
 |none=>rw[e] at h;cases h
 |some k=>
  rw[e] at h;obtain⟨bK,b0⟩:=o_ e;have o:=(hb H.aH H.pl bK).1;have J:=yH o b0;cases h;exact⟨⟨k,_,bK,J,rfl⟩,(B5 o J).2 ⟨b0,rfl⟩⟩
theorem Nj {t:bw} (o:eQ t) (cells:List Int) (i:Nat):qb (je t cells i).1 (je t cells i):=λj _=>by
 have s:=(nq o).1;refine⟨Int.le_refl _,?_⟩;show co (je t cells i).1 j<co (je t cells i).1 j+cY t;omega
theorem Nk (H:jf d l ai) {k i k' j1:Nat} (hk:k<l.length) (J:i<64) (cc:k'<l.length) (fZ:j1<64) (h:(pk l ai k i).1=(pk l ai k' j1).1):k=k'/\i=j1:=by
 have o:=(hb H.aH H.pl hk).1;have o':=(hb H.aH H.pl cc).1;have s:=(nq o).1;have dp:=(nq o').1;obtain⟨h1,ad⟩:=(B5 (cells:=(ai.getD k default).2) o J (p:=(pk l ai k i).1)).1 (Nj o _ i);obtain⟨al,bb⟩:=(B5 (cells:=(ai.getD k' default).2) o' fZ (p:=(pk l ai k i).1)).1 (by rw[h];exact Nj o' _ j1);have e:=Bq H.aH H.pl hk cc h1 al;subst e;exact⟨rfl,ad.symm.trans bb⟩
theorem B6 (H:jf d l ai) {a:eh} (h:uu l ai a):1<=a.2.1/\∀j,j<3->co a.1 j%a.2.1=0:=by
 obtain⟨k,i,hk,J,rfl⟩:=h;obtain⟨cZ,du,_⟩:=hb H.aH H.pl hk;obtain⟨_,_,_,V0,_⟩:=wg H.pl hk;obtain⟨s1,s2,j5⟩:=nq cZ;have cu:=(wj cZ).2.2;obtain⟨db,a2,a3⟩:=(Bp cu _).1 V0;obtain⟨t,aE⟩:∃t,t=l.getD k default:=⟨_,rfl⟩;rw[<-aE] at cZ du s1 s2 j5 db a2 a3;refine⟨by show 1<=cY _;rw[<-aE];exact s1,?_⟩;have key:∀x:Int,0<=x->x.toNat%2^b3 t=0->∀m:Int,(x+cY t*m)%cY t=0:=λx ag hm m=>by
  rw[Int.add_mul_emod_self_left];obtain⟨c,ao⟩:=Nat.dvd_of_mod_eq_zero hm;have:x=cY t*(4*(c:Int)):=by
   rw[<-Int.mul_assoc,Int.mul_comm (cY t) 4,<-j5];unfold cp;rw[<-Int.natCast_mul,<-ao,Int.toNat_of_nonneg ag]
  rw[this,Int.mul_emod_right]
 unfold dK at du;intro j hj;show co (o5 (l.getD k default).2 (iq (fY (fp 4) (i:Nat)) (cY (l.getD k default)))) j%cY (l.getD k default)=0;rw[<-aE]
 match j,hj with
 |0,_=>exact key t.2.1 du.1 db _
 |1,_=>exact key t.2.2.1 du.2.2.1 a2 _
 |2,_=>exact key t.2.2.2 du.2.2.2.2.1 a3 _
variable {table:List dr}
def nu (l:List bw) (ai:List eK) (table:List dr) (p:bA):Bool:=(cJ l ai p).isSome&&dO table (cF (cJ l ai p)).2.2
def kH (l:List bw) (ai:List eK) (p:bA):Int:=(cF (cJ l ai p)).2.1
theorem B7 {p:bA} {a:eh} (h:cJ l ai p=some a):nu l ai table p=dO table a.2.2:=by
 unfold nu;rw[h];rfl
theorem B8 {p:bA} {a:eh} (h:cJ l ai p=some a):kH l ai p=a.2.1:=by
 unfold kH;rw[h];rfl
theorem Hk {p:bA} (h:nu l ai table p=true):∃a,cJ l ai p=some a/\dO table a.2.2=true:=by
 unfold nu at h;cases e:cJ l ai p with
 |none=>rw[e] at h;cases h
 |some a=>rw[e] at h;exact⟨a,rfl,h⟩
structure lF (l:List bw) (ai:List eK) (table:List dr) (q:b8):Prop where
 bd:0<=q.2.1/\q.2.1<3
 wE:nu l ai table (gK q)=true
 a8:nu l ai table (iu q)=false
 aG:q.2.2.2=if (cJ l ai (iu q)).isSome=true then min (kH l ai (gK q)) (kH l ai (iu q)) else kH l ai (gK q)
 hT:∀j,j<3->j≠q.2.1.toNat->co q.1 j%q.2.2.2=0
theorem wF (c:bA) (bd:Nat) (s:Int):gK (c,(bd:Nat),true,s)=bU c bd (-1):=by
 show bU c ((bd:Nat):Int).toNat (-1)=_;rw[Int.toNat_natCast]
theorem uv (c:bA) (bd:Int) (s:Int):iu (c,bd,true,s)=c:=rfl
theorem sG (c:bA) (bd:Int) (s:Int):gK (c,bd,false,s)=c:=rfl
theorem yX (c:bA) (bd:Nat) (s:Int):iu (c,(bd:Nat),false,s)=bU c bd (-1):=by
 show bU c ((bd:Nat):Int).toNat (-1)=_;rw[Int.toNat_natCast]
theorem lF.key {q r:b8} (aA:lF l ai table q) (hr:lF l ai table r) (h1:q.1=r.1) (ad:q.2.1=r.2.1):q=r:=by
 obtain⟨c,bd,up,s⟩:=q;obtain⟨c',V1,Hl,dp⟩:=r;dsimp only at h1 ad;subst h1 ad;have pY:up=Hl:=by
  cases up<;>cases Hl
  ·rfl
  ·have a:=aA.wE
   have b:=hr.a8;rw[sG] at a;rw[uv] at b;rw[a] at b;cases b
  ·have a:=aA.a8
   have b:=hr.wE;rw[uv] at a;rw[sG] at b;rw[a] at b;cases b
  ·rfl
 subst pY;have e:=aA.aG;have e':=hr.aG;have u:gK (c,bd,up,s)=gK (c,bd,up,dp):=rfl;have v:iu (c,bd,up,s)=iu (c,bd,up,dp):=rfl;rw[<-u,<-v] at e';dsimp only at e e';rw[e,e']
theorem V2 {x:eh} {p:bA} {bd up:Nat} {y:Option eh} {q:b8} (h:k4 table x p bd up y=some q):(y.isSome&&dO table (cF y).2.2)=false/\q=(bU p bd (up:Nat),((bd:Nat):Int),decide (up=1),if y.isSome=true then min x.2.1 (cF y).2.1 else x.2.1)/\∀j,j<3->j=bd\/co q.1 j%q.2.2.2=0:=by
 unfold k4 at h;by_cases h1:(y.isSome&&dO table (cF y).2.2)=true
 ·rw[aR h1] at h
  cases h
 ·rw[aW h1] at h
  generalize (if y.isSome=true then min x.2.1 (cF y).2.1 else x.2.1)=s at h ⊢;by_cases ad:lE (bU p bd (up:Nat)) bd s 3=true
  ·rw[aR ad] at h
   cases h;exact⟨by simpa using h1,rfl,of_decide_eq_true ad⟩
  ·rw[aW ad] at h
   cases h
theorem V3 {p:bA} {bd up:Nat} (hu:up<2) (s:Int):gK (bU p bd (up:Nat),((bd:Nat):Int),decide (up=1),s)=p/\iu (bU p bd (up:Nat),((bd:Nat):Int),decide (up=1),s)=bU p bd (2*(up:Int)-1):=by
 match up,hu with
 |0,_=>
  show gK (bU p bd 0,((bd:Nat):Int),false,s)=p/\iu (bU p bd 0,((bd:Nat):Int),false,s)=bU p bd (2*0-1);rw[sG,yX,yW];exact⟨rfl,rfl⟩
 |1,_=>
  show gK (bU p bd 1,((bd:Nat):Int),true,s)=p/\iu (bU p bd 1,((bd:Nat):Int),true,s)=bU p bd (2*1-1);rw[wF,uv,B4];exact⟨yW p bd,rfl⟩
theorem wG {p:bA} {bd up:Nat} (ha:bd<3) (hu:up<2) (hs:nu l ai table p=true) {q:b8} (h:k4 table (cF (cJ l ai p)) p bd up (cJ l ai (bU p bd (2*(up:Int)-1)))=some q):lF l ai table q/\gK q=p/\q.2.1=(bd:Nat)/\q.2.2.1=decide (up=1):=by
 obtain⟨h1,rfl,al⟩:=V2 h;obtain⟨u,v⟩:=V3 (p:=p) (bd:=bd) hu (if (cJ l ai (bU p bd (2*(up:Int)-1))).isSome=true then min (cF (cJ l ai p)).2.1 (cF (cJ l ai (bU p bd (2*(up:Int)-1)))).2.1 else (cF (cJ l ai p)).2.1);refine⟨⟨by dsimp only;omega,by rw[u];exact hs,by rw[v];exact h1,by rw[u,v];rfl,λj hj ch=>(al j hj).resolve_left λe=>ch (by dsimp only;omega)⟩,u,rfl,rfl⟩
theorem V4 {q:b8} (h:lF l ai table q):∃bd up:Nat,bd<3/\up<2/\k4 table (cF (cJ l ai (gK q))) (gK q) bd up (cJ l ai (bU (gK q) bd (2*(up:Int)-1)))=some q:=by
 obtain⟨c,bd,up,s⟩:=q;have rp:=h.bd;dsimp only at rp;obtain⟨j,rfl⟩:∃j:Nat,bd=(j:Nat):=⟨bd.toNat,af⟩;have key:∀(b:Nat),b<2->decide (b=1)=up->bU (gK (c,((j:Nat):Int),up,s)) j (b:Nat)=c->bU (gK (c,((j:Nat):Int),up,s)) j (2*(b:Int)-1)=iu (c,((j:Nat):Int),up,s)->k4 table (cF (cJ l ai (gK (c,((j:Nat):Int),up,s)))) (gK (c,((j:Nat):Int),up,s)) j b (cJ l ai (bU (gK (c,((j:Nat):Int),up,s)) j (2*(b:Int)-1)))=some (c,((j:Nat):Int),up,s):=λb U e1 e2 fg=>by
  have bk:=h.aG;dsimp only at bk;rw[fg];unfold k4;rw[aW (by rw[show ((cJ l ai (iu (c,((j:Nat):Int),up,s))).isSome&&dO table (cF (cJ l ai (iu (c,((j:Nat):Int),up,s)))).2.2)=false from h.a8];exact Bool.false_ne_true)];have zk:(if (cJ l ai (iu (c,((j:Nat):Int),up,s))).isSome=true then min (cF (cJ l ai (gK (c,((j:Nat):Int),up,s)))).2.1 (cF (cJ l ai (iu (c,((j:Nat):Int),up,s)))).2.1 else (cF (cJ l ai (gK (c,((j:Nat):Int),up,s)))).2.1)=s:=bk.symm;have hl:lE c j s 3=true:=jh λi J=>by
   by_cases e:i=j
   ·exact .inl e
   ·exact .inr (h.hT i J (by dsimp only;omega))
  rw[zk,e1,e2,aR hl]
 cases up with
 |true=>exact⟨j,1,af,af,key 1 af rfl (by rw[wF];exact B4.trans (yW c j)) (by rw[wF,uv];exact B4.trans (yW c j))⟩
 |false=>exact⟨j,0,af,af,key 0 af rfl (by rw[sG];exact yW c j) (by rw[sG,yX];rfl)⟩
end
end AE
end
end
section
noncomputable section
namespace AE
theorem iF {β:Type} {f:Nat->List β} {n:Nat} {q:β}:q∈(List.range n).flatMap f↔∃i,i<n/\q∈f i:=by
 rw[List.mem_flatMap];constructor
 ·rintro ⟨i,h1,ad⟩;exact⟨i,List.mem_range.1 h1,ad⟩
 ·rintro ⟨i,h1,ad⟩;exact⟨i,List.mem_range.2 h1,ad⟩
abbrev dst (l:List b8):Prop:=l.Pairwise (· ≠·)
theorem sH {f:Nat->List b8}:∀(n:Nat),(∀i,i<n->dst (f i))->(∀i j,i<j->j<n->∀x∈f i,∀y∈f j,x≠y)->dst ((List.range n).flatMap f)
 |0,_,_=>List.Pairwise.nil
 |n+1,h1,ad=>by
  rw[qa (β:=b8)];refine List.pairwise_append.2 ⟨sH n (λi J=>h1 i af) λi j hY hj=>ad i j hY af,h1 n af,λx ag y aT=> ?_⟩;obtain⟨i,J,ag⟩:=iF.1 ag;exact ad i n J af x ag y aT
theorem Nl (o:Option b8):dst o.toList:=by
 cases o with
 |none=>exact List.Pairwise.nil
 |some q=>exact List.pairwise_singleton _ _
theorem rq {o:Option b8} {q:b8}:q∈o.toList↔o=some q:=by
 cases o with
 |none=>simp
 |some x=>simp [eq_comm]
theorem Hm:∀{a b:List b8},a.Pairwise fR->b.Pairwise fR->(∀q,q∈a↔q∈b)->a=b
 |[],[],_,_,_=>rfl
 |[],y::b,_,_,h=>by have:=(h y).2 List.mem_cons_self;cases this
 |x::a,[],_,_,h=>by have:=(h x).1 List.mem_cons_self;cases this
 |x::a,y::b,ha,U,h=>by
  obtain⟨db,a2⟩:=List.pairwise_cons.1 ha;obtain⟨eH,fK⟩:=List.pairwise_cons.1 U;have e:x=y:=by
   rcases List.mem_cons.1 ((h x).1 List.mem_cons_self) with e|ag
   ·exact e
   ·rcases List.mem_cons.1 ((h y).2 List.mem_cons_self) with e|aT
    ·exact e.symm
    ·exact absurd (eH x ag) (MV (db y aT))
  subst e;rw[Hm a2 fK λq=> ?_];constructor
  ·intro aA
   rcases List.mem_cons.1 ((h q).1 (List.mem_cons_of_mem _ aA)) with e|e
   ·subst e;exact absurd (db _ aA) (yV _)
   ·exact e
  ·intro aA
   rcases List.mem_cons.1 ((h q).2 (List.mem_cons_of_mem _ aA)) with e|e
   ·subst e;exact absurd (eH _ aA) (yV _)
   ·exact e
theorem Hn {a F:List b8} (p:a.Perm F) (h:dst F):dst a:=(p.pairwise_iff λ{_ _} h=>Ne.symm h).2 h
section
variable {d:Nat} {l:List bw} {ai:List eK} {table:List dr}
theorem V5 {x y:b8} (h:¬fR y x) (al:¬(x.1=y.1/\x.2.1=y.2.1)):fR x y:=by
 obtain⟨⟨zp,jk,L4⟩,bd,up,s⟩:=x;obtain⟨⟨s5,iD,jy⟩,V1,Hl,dp⟩:=y;unfold fR at*
 simp only [Prod.mk.injEq] at*
 omega
theorem Nn {a:List b8} (h1:dst a) (ad:me a) (al:∀q∈a,lF l ai table q):a.Pairwise fR:=by
 refine List.pairwise_iff_getElem.2 λi j J hj hY=> ?_
 have e1:=List.pairwise_iff_getElem.1 h1 i j J hj hY;have e2:=List.pairwise_iff_getElem.1 ad i j J hj hY;have q1:=al _ (List.getElem_mem J);have aJ:=al _ (List.getElem_mem hj);exact V5 e2 λe=>e1 (q1.key aJ e.1 e.2)
theorem V6 {t:bw} (o:eQ t):bz (bG t)=(cp t,cp t,cp t):=by
 have hs:=o8 o;rw[q' (by unfold gT bG;dsimp only;omega)];unfold bG;dsimp only;rw[show t.2.1+cp t-t.2.1=cp t by omega,show t.2.2.1+cp t-t.2.2.1=cp t by omega,show t.2.2.2+cp t-t.2.2.2=cp t by omega]
theorem Ho {t:bw} (o:eQ t) {i:Nat} (J:i<8^b3 t):fY (bG t) (i:Nat)=(t.2.1+(i:Int)%cp t,t.2.2.1+(i:Int)/cp t%cp t,t.2.2.2+(i:Int)/cp t/cp t):=by
 have aw:=(sC o).1;have e:fY (bG t) (i:Nat)=((bG t).1+(i:Int)%(bz (bG t)).1,(bG t).2.1+(i:Int)/(bz (bG t)).1%(bz (bG t)).2.1,(bG t).2.2.1+(i:Int)/(bz (bG t)).1/(bz (bG t)).2.1):=aR ⟨af,af⟩;rw[e,V6 o];rfl
theorem V7 {t:bw} (o:eQ t) {i j:Nat} (J:i<8^b3 t) (hj:j<8^b3 t) (h:fY (bG t) (i:Nat)=fY (bG t) (j:Nat)):i=j:=by
 rw[Ho o J,Ho o hj] at h;simp only [Prod.mk.injEq] at h;obtain⟨h1,ad,al⟩:=h;have db:=Int.mul_ediv_add_emod (i:Int) (cp t);have a2:=Int.mul_ediv_add_emod (j:Int) (cp t);have eH:=Int.mul_ediv_add_emod ((i:Int)/cp t) (cp t);have fK:=Int.mul_ediv_add_emod ((j:Int)/cp t) (cp t);have fg:(i:Int)/cp t/cp t=(j:Int)/cp t/cp t:=by omega
 rw[fg] at eH;have jl:(i:Int)/cp t=(j:Int)/cp t:=by omega
 rw[jl] at db;omega
theorem V8 {t:bw} (o:eQ t) {p:bA} (hp:cO p (bG t)):∃i:Nat,i<8^b3 t/\fY (bG t) (i:Nat)=p:=by
 have hs:=o8 o;unfold cO bG at hp;dsimp only at hp;obtain⟨x,ag⟩:∃x,x=p.1-t.2.1:=⟨_,rfl⟩;obtain⟨y,aT⟩:∃y,y=p.2.1-t.2.2.1:=⟨_,rfl⟩;obtain⟨z,bk⟩:∃z,z=p.2.2-t.2.2.2:=⟨_,rfl⟩;have m1:0<=cp t*z/\cp t*z+cp t<=cp t*cp t:=by
  refine⟨Int.mul_nonneg af af,?_⟩;have:cp t*(z+1)<=cp t*cp t:=Int.mul_le_mul_of_nonneg_left af af;rw[Int.mul_add,Int.mul_one] at this;exact this
 have m2:0<=cp t*(y+cp t*z)/\cp t*(y+cp t*z)+cp t<=cp t*(cp t*cp t):=by
  refine⟨Int.mul_nonneg af af,?_⟩;have:cp t*(y+cp t*z+1)<=cp t*(cp t*cp t):=Int.mul_le_mul_of_nonneg_left af af;rw[Int.mul_add,Int.mul_one] at this;exact this
 have qD:cp t*(cp t*cp t)=((8^b3 t:Nat):Int):=by
  unfold cp;rw[<-Int.natCast_mul,<-Int.natCast_mul,<-p9,<-Nat.pow_add,<-Nat.pow_add,show b3 t+(b3 t+b3 t)=3*b3 t by omega]
 obtain⟨n,ah⟩:∃n,n=x+cp t*(y+cp t*z):=⟨_,rfl⟩;have h1:n%cp t=x:=by
  rw[ah,Int.add_mul_emod_self_left];exact Int.emod_eq_of_lt af af
 have ad:n/cp t=y+cp t*z:=by
  rw[ah,Int.add_mul_ediv_left _ _ af,Int.ediv_eq_zero_of_lt af af,Int.zero_add]
 have al:(y+cp t*z)%cp t=y:=by
  rw[Int.add_mul_emod_self_left];exact Int.emod_eq_of_lt af af
 have bb:(y+cp t*z)/cp t=z:=by
  rw[Int.add_mul_ediv_left _ _ af,Int.ediv_eq_zero_of_lt af af,Int.zero_add]
 have aM:n.toNat<8^b3 t:=by omega
 refine⟨n.toNat,aM,?_⟩;rw[Ho o aM,Int.toNat_of_nonneg af,h1,ad,al,bb];refine Prod.ext ?_ (Prod.ext ?_ ?_)<;>dsimp only<;>omega
theorem Hp {k:Nat} {p:bA} (H:jf d l ai) (hk:k<l.length) (hp:cO p (bG (l.getD k default))):(cJ l ai p).isSome=true:=by
 unfold cJ;rw[yG H.aH H.pl hk hp];rfl
theorem Hq {p:bA} (hp:(cJ l ai p).isSome=true) {q:b8}:q∈jV l ai table p↔nu l ai table p=true/\∃bd up:Nat,bd<3/\up<2/\k4 table (cF (cJ l ai p)) p bd up (cJ l ai (bU p bd (2*(up:Int)-1)))=some q:=by
 have e:nu l ai table p=dO table (cF (cJ l ai p)).2.2:=by unfold nu;rw[hp,Bool.true_and]
 unfold jV;rw[e];split
 ·rename_i h
  constructor
  ·intro aA
   obtain⟨bd,h1,aA⟩:=iF.1 aA;obtain⟨up,ad,aA⟩:=iF.1 aA;exact⟨h,bd,up,h1,ad,rq.1 aA⟩
  ·rintro ⟨_,bd,up,h1,ad,aA⟩
   exact iF.2 ⟨bd,h1,iF.2 ⟨up,ad,rq.2 aA⟩⟩
 ·rename_i h
  constructor
  ·intro aA;cases aA
  ·rintro ⟨h1,_⟩;exact absurd h1 h
theorem V9 (H:jf d l ai) {q:b8}:q∈jW l ai table↔lF l ai table q:=by
 constructor
 ·intro aA
  obtain⟨k,hk,aA⟩:=iF.1 aA;obtain⟨i,J,aA⟩:=iF.1 aA;obtain⟨cZ,du,_⟩:=hb H.aH H.pl hk;obtain⟨h1,bd,up,ad,al,bb⟩:=(Hq (Hp H hk (wD cZ du J))).1 aA;exact(wG ad al h1 bb).1
 ·intro h
  obtain⟨a,ha,_⟩:=Hk h.wE;have hs:(cJ l ai (gK q)).isSome=true:=by rw[ha];rfl
  cases e:hx l (gK q) with
  |none=>unfold cJ at ha;rw[e] at ha;cases ha
  |some k=>
   obtain⟨bK,b0⟩:=o_ e;obtain⟨i,J,he⟩:=V8 (hb H.aH H.pl bK).1 b0;obtain⟨bd,up,ad,al,bb⟩:=V4 h;refine iF.2 ⟨k,bK,iF.2 ⟨i,J,?_⟩⟩;rw[he];exact(Hq hs).2 ⟨h.wE,bd,up,ad,al,bb⟩
theorem V' (H:jf d l ai):dst (jW l ai table):=by
 have hD:∀{k i:Nat},k<l.length->i<8^b3 (l.getD k default)->∀q∈jV l ai table (fY (bG (l.getD k default)) (i:Nat)),gK q=fY (bG (l.getD k default)) (i:Nat):=λ{k i} hk J q aA=>by
  obtain⟨cZ,du,_⟩:=hb H.aH H.pl hk;obtain⟨h1,bd,up,ad,al,bb⟩:=(Hq (Hp H hk (wD cZ du J))).1 aA;exact(wG ad al h1 bb).2.1
 refine sH _ (λk hk=>sH _ (λi J=> ?_) λi j hY hj x ag y aT e=> ?_) λk k' rT cc x ag y aT e=> ?_
 ·obtain⟨cZ,du,_⟩:=hb H.aH H.pl hk
  have hs:=Hp (ai:=ai) H hk (wD cZ du J);have es:nu l ai table (fY (bG (l.getD k default)) (i:Nat))=dO table (cF (cJ l ai (fY (bG (l.getD k default)) (i:Nat)))).2.2:=by unfold nu;rw[hs,Bool.true_and]
  unfold jV;split
  ·rename_i iK
   rw[<-es] at iK;refine sH _ (λbd rp=>sH _ (λup pY=>Nl _) λu v uw aw x ag y aT e=> ?_) λu v uw aw x ag y aT e=> ?_
   ·have a:=(wG rp af iK (rq.1 ag)).2.2.2
    have b:=(wG rp aw iK (rq.1 aT)).2.2.2;rw[e,b] at a;have:=decide_eq_decide.1 a;omega
   ·obtain⟨fl,h1,ag⟩:=iF.1 ag
    obtain⟨gb,ad,aT⟩:=iF.1 aT;have a:=(wG af h1 iK (rq.1 ag)).2.2.1;have b:=(wG aw ad iK (rq.1 aT)).2.2.1;rw[e,b] at a;omega
  ·exact List.Pairwise.nil
 ·have a:=hD hk af x ag
  have b:=hD hk hj y aT;rw[e,b] at a;have:=V7 (hb H.aH H.pl hk).1 hj af a;omega
 ·obtain⟨i,J,ag⟩:=iF.1 ag
  obtain⟨j,hj,aT⟩:=iF.1 aT;have hk:k<l.length:=by omega
  have a:=hD hk J x ag;have b:=hD cc hj y aT;rw[e,b] at a;have q1:=wD (hb H.aH H.pl hk).1 (hb H.aH H.pl hk).2.1 J;have aJ:=wD (hb H.aH H.pl cc).1 (hb H.aH H.pl cc).2.1 hj;rw[<-a] at q1;have:=Bq H.aH H.pl hk cc q1 aJ;omega
def ux (a:eh) (d:Nat):bA:=if iv d then bU a.1 (d/2) (a.2.1-1) else a.1
theorem V_ {a:eh} (hs:1<=a.2.1) (d:Nat):qb (ux a d) a:=by
 intro j hj;unfold ux;split
 ·rw[pj hj]
  split<;>omega
 ·omega
theorem Hr (a:eh) (d:Nat) (s:Int):(gK (jU a d,eG d,iv d,s)=ux a d/\iu (jU a d,eG d,iv d,s)=iO a d)/\(gK (jU a d,eG d,!iv d,s)=iO a d/\iu (jU a d,eG d,!iv d,s)=ux a d):=by
 unfold jU ux iO eG;cases iv d with
 |true=>
  show (gK (bU a.1 (d/2) a.2.1,((d/2:Nat):Int),true,s)=bU a.1 (d/2) (a.2.1-1)/\iu (bU a.1 (d/2) a.2.1,((d/2:Nat):Int),true,s)=bU a.1 (d/2) a.2.1)/\(gK (bU a.1 (d/2) a.2.1,((d/2:Nat):Int),false,s)=bU a.1 (d/2) a.2.1/\iu (bU a.1 (d/2) a.2.1,((d/2:Nat):Int),false,s)=bU a.1 (d/2) (a.2.1-1));rw[wF,uv,sG,yX,B4];exact⟨⟨rfl,rfl⟩,rfl,rfl⟩
 |false=>
  show (gK (a.1,((d/2:Nat):Int),false,s)=a.1/\iu (a.1,((d/2:Nat):Int),false,s)=bU a.1 (d/2) (-1))/\(gK (a.1,((d/2:Nat):Int),true,s)=bU a.1 (d/2) (-1)/\iu (a.1,((d/2:Nat):Int),true,s)=a.1);rw[wF,uv,sG,yX];exact⟨⟨rfl,rfl⟩,rfl,rfl⟩
theorem Wa {a:eh} {d:Nat} {b:Option eh} {q:b8} (h:kG table a d b=some q):¬(b.isSome=true/\(cF b).2.1<a.2.1)/\dO table a.2.2≠(b.isSome&&dO table (cF b).2.2)/\((dO table a.2.2=true/\q=(jU a d,eG d,iv d,a.2.1))\/(dO table a.2.2=false/\a.2.1<(cF b).2.1/\q=(jU a d,eG d,!iv d,a.2.1))):=by
 unfold kG at h;split at h
 ·cases h
 ·rename_i h1
  split at h
  ·cases h
  ·rename_i ad
   split at h
   ·rename_i al
    cases h;exact⟨h1,ad,.inl ⟨al,rfl⟩⟩
   ·rename_i al
    split at h
    ·rename_i bb
     cases h;exact⟨h1,ad,.inr ⟨by simpa using al,bb,rfl⟩⟩
    ·cases h
def B9 (l:List bw) (ai:List eK) (q:b8):bA×Nat:=
 if (cJ l ai (iu q)).isSome=true/\kH l ai (iu q)<kH l ai (gK q) then ((cF (cJ l ai (iu q))).1,2*q.2.1.toNat+(if q.2.2.1 then 0 else 1)) else ((cF (cJ l ai (gK q))).1,2*q.2.1.toNat+(if q.2.2.1 then 1 else 0))
theorem Np (H:jf d l ai) {a:eh} (h:uu l ai a) {x:Nat} {j:Nat} (hj:j<3) (ch:j≠x/2):co (jU a x) j%a.2.1=0:=by
 unfold jU;split
 ·rw[pj hj,aW λe=>ch e.symm,Int.add_zero]
  exact(B6 H h).2 j hj
 ·exact(B6 H h).2 j hj
theorem Nq (H:jf d l ai) {a:eh} (ha:uu l ai a) {x:Nat} (ag:x<6) {q:b8} (h:kG table a x (cJ l ai (iO a x))=some q):lF l ai table q/\B9 l ai q=(a.1,x):=by
 obtain⟨h1,ad,al⟩:=Wa h;obtain⟨s1,s2⟩:=B6 H ha;have gk:=Hi H ha (V_ s1 x);have iK:nu l ai table (ux a x)=dO table a.2.2:=B7 gk;have bt:kH l ai (ux a x)=a.2.1:=B8 gk;obtain⟨⟨j4,v1⟩,ik,v2⟩:=Hr a x a.2.1;have rp:(0:Int)<=eG x/\eG x<3:=by unfold eG;omega
 have B':(eG x).toNat=x/2:=by unfold eG;omega
 have vL:kH l ai (iO a x)=(cF (cJ l ai (iO a x))).2.1:=rfl;rcases al with ⟨al,rfl⟩|⟨al,bb,rfl⟩
 ·refine⟨⟨rp,by rw[j4,iK];exact al,?_,?_,λj hj ch=>Np H ha hj (by rw[<-B'];exact ch)⟩,?_⟩
  ·rw[v1]
   show ((cJ l ai (iO a x)).isSome&&dO table (cF (cJ l ai (iO a x))).2.2)=false;rw[al] at ad;cases e:((cJ l ai (iO a x)).isSome&&dO table (cF (cJ l ai (iO a x))).2.2) with
   |false=>rfl
   |true=>rw[e] at ad;exact absurd rfl ad
  ·rw[j4,v1,bt,vL]
   dsimp only;split
   ·rename_i e
    have:¬(cF (cJ l ai (iO a x))).2.1<a.2.1:=λq=>h1 ⟨e,q⟩
    omega
   ·rfl
  ·unfold B9
   rw[j4,v1,bt,vL,aW h1,gk];dsimp only;rw[B'];refine Prod.ext rfl ?_;show 2*(x/2)+(if iv x=true then 1 else 0)=x;unfold iv;by_cases e:x%2=1
   ·rw[aR (jh e)];omega
   ·rw[aW (by rw[kJ e];exact Bool.false_ne_true)];omega
 ·refine⟨⟨rp,?_,by rw[v2,iK];exact al,?_,λj hj ch=>Np H ha hj (by rw[<-B'];exact ch)⟩,?_⟩
  ·rw[ik]
   show ((cJ l ai (iO a x)).isSome&&dO table (cF (cJ l ai (iO a x))).2.2)=true;rw[al] at ad;cases e:((cJ l ai (iO a x)).isSome&&dO table (cF (cJ l ai (iO a x))).2.2) with
   |true=>rfl
   |false=>rw[e] at ad;exact absurd rfl ad
  ·rw[ik,v2,bt,vL,gk]
   dsimp only;rw[aR (show (some a).isSome=true from rfl)];omega
  ·unfold B9
   rw[ik,v2,bt,vL,gk,aR ⟨rfl,bb⟩];dsimp only;rw[B'];refine Prod.ext rfl ?_;show 2*(x/2)+(if (!iv x)=true then 0 else 1)=x;unfold iv;by_cases e:x%2=1
   ·rw[jh e]
    show 2*(x/2)+1=x;omega
   ·rw[kJ e]
    show 2*(x/2)+0=x;omega
theorem Wb {s x y:Int} (hs:0<s) (ag:x%s=0) (aT:y%s=0) (h1:x<=y) (ad:y<x+s):x=y:=by
 obtain⟨m,rfl⟩:=Int.dvd_of_emod_eq_zero ag;obtain⟨n,rfl⟩:=Int.dvd_of_emod_eq_zero aT;have a:m<=n:=Int.le_of_mul_le_mul_left h1 hs;have b:n<m+1:=Int.lt_of_mul_lt_mul_left (a:=s) (by rw[Int.mul_add,Int.mul_one];exact ad) af;rw[show n=m by omega]
theorem Nr (H:jf d l ai) {a:eh} (ha:uu l ai a) {c w o:bA} {j:Nat} (hj:j<3) (uF:∀i,i<3->i≠j->co c i%a.2.1=0) (hw:qb w a) (ax:¬qb o a) {up:Bool} (h:if up then w=bU c j (-1)/\o=c else w=c/\o=bU c j (-1)):c=if up then bU a.1 j a.2.1 else a.1:=by
 obtain⟨s1,s2⟩:=B6 H ha;have dE:∀i,i<3->i≠j->co a.1 i=co c i:=λi J ch=>by
  have wH:=hw i J;refine Wb af (s2 i J) (uF i J ch) ?_ ?_<;>cases up
  ·rw[(show w=c/\o=bU c j (-1) from h).1] at wH;exact wH.1
  ·rw[(show w=bU c j (-1)/\o=c from h).1,pj J,aW λe=>ch e.symm] at wH;omega
  ·rw[(show w=c/\o=bU c j (-1) from h).1] at wH;exact wH.2
  ·rw[(show w=bU c j (-1)/\o=c from h).1,pj J,aW λe=>ch e.symm] at wH;omega
 have Ns:=hw j hj;cases up with
 |true=>
  obtain⟨e1,e2⟩:w=bU c j (-1)/\o=c:=h;rw[e1,pj hj,aR rfl] at Ns;rw[e2] at ax;show c=bU a.1 j a.2.1;refine B3 λi J=> ?_
  rw[pj J];by_cases e:j=i
  ·subst e
   rw[aR rfl];by_cases fg:co c j<co a.1 j+a.2.1
   ·refine absurd (λi J=> ?_) ax
    by_cases jl:i=j
    ·subst jl;omega
    ·have:=dE i J jl
     omega
   ·omega
  ·rw[aW e,dE i J λq=>e q.symm];omega
 |false=>
  obtain⟨e1,e2⟩:w=c/\o=bU c j (-1):=h;rw[e1] at Ns;rw[e2] at ax;show c=a.1;refine B3 λi J=> ?_
  by_cases e:i=j
  ·subst e
   by_cases fg:co a.1 i<co c i
   ·refine absurd (λm hm=> ?_) ax
    rw[pj hm];by_cases jl:i=m
    ·subst jl;rw[aR rfl];omega
    ·have:=dE m hm λq=>jl q.symm
     rw[aW jl];omega
   ·omega
  ·exact(dE i J e).symm
theorem Wc (H:jf d l ai) {q:b8} (h:lF l ai table q):∃(a:eh) (x:Nat),uu l ai a/\x<6/\kG table a x (cJ l ai (iO a x))=some q:=by
 obtain⟨c,bd,up,s⟩:=q;have rp:=h.bd;dsimp only at rp;obtain⟨j,rfl⟩:∃j:Nat,bd=(j:Nat):=⟨bd.toNat,af⟩;have hj:j<3:=by omega
 obtain⟨u,hu⟩:∃u,u=gK (c,((j:Nat):Int),up,s):=⟨_,rfl⟩;obtain⟨v,aw⟩:∃v,v=iu (c,((j:Nat):Int),up,s):=⟨_,rfl⟩;have sY:=h.wE;have mv:=h.a8;have bt:=h.aG;have uF:∀i,i<3->i≠j->co c i%s=0:=λi J ch=>h.hT i J (by dsimp only;omega)
 rw[<-hu] at sY bt;rw[<-aw] at mv bt;dsimp only at bt;have uw:if up then u=bU c j (-1)/\v=c else u=c/\v=bU c j (-1):=by
  cases up with
  |true=>exact⟨by rw[hu,wF],by rw[aw,uv]⟩
  |false=>exact⟨by rw[hu,sG],by rw[aw,yX]⟩
 obtain⟨a0,Nt,nR⟩:=Hk sY;by_cases ao:(cJ l ai v).isSome=true/\kH l ai v<kH l ai u
 ·obtain⟨a,ha⟩:=Option.isSome_iff_exists.1 ao.1
  obtain⟨uy,tQ⟩:=Hj H ha;have Hs:dO table a.2.2=false:=by rw[<-B7 (table:=table) ha];exact mv
  have wI:kH l ai v=a.2.1:=B8 ha;have es:s=a.2.1:=by
   rw[bt,aR ao.1,wI];rw[wI] at ao;omega
  have Wd:¬qb u a:=λq=>by
   have:=Hi H uy q;rw[B7 (table:=table) this,Hs] at sY;cases sY
  have ja:=Nr H uy hj (by rw[<-es];exact uF) tQ Wd (up:= !up) (by
   cases up with
   |true=>exact⟨uw.2,uw.1⟩
   |false=>exact⟨uw.2,uw.1⟩)
  have ag:2*j+(if up then 0 else 1)<6:=by split<;>omega
  have fW:(2*j+(if up then 0 else 1))/2=j:=by split<;>omega
  have rr:iv (2*j+(if up then 0 else 1))= !up:=by
   unfold iv;cases up
   ·exact jh (by show (2*j+1)%2=1;omega)
   ·exact kJ (by show ¬(2*j+0)%2=1;omega)
  obtain⟨x,Ht⟩:∃x,x=2*j+(if up then 0 else 1):=⟨_,rfl⟩;rw[<-Ht] at ag fW rr;have yY:jU a x=c:=by unfold jU;rw[rr,fW,ja]
  have yZ:eG x=(j:Nat):=by unfold eG;rw[fW]
  obtain⟨_,w1,cQ⟩:=Hr a x s;rw[yY,yZ,rr,Bool.not_not,<-hu] at w1;refine⟨a,x,uy,ag,?_⟩;rw[<-w1];have xD:kH l ai u=(cF (cJ l ai u)).2.1:=rfl;rw[yO (by rw[<-xD];omega) (by
   rw[Hs,show ((cJ l ai u).isSome&&dO table (cF (cJ l ai u)).2.2)=true from sY]
   exact Bool.false_ne_true) Hs (by rw[<-xD];omega),yY,yZ,rr,Bool.not_not,es]
 ·obtain⟨uy,We⟩:=Hj H Nt
  have wI:kH l ai u=a0.2.1:=B8 Nt;have es:s=a0.2.1:=by
   rw[bt,wI];rw[wI] at ao;split
   ·rename_i e
    have:¬kH l ai v<a0.2.1:=λq=>ao ⟨e,q⟩
    omega
   ·rfl
  have Wf:¬qb v a0:=λq=>by
   have:=Hi H uy q;rw[B7 (table:=table) this,nR] at mv;cases mv
  have ja:=Nr H uy hj (by rw[<-es];exact uF) We Wf (up:=up) uw;have ag:2*j+(if up then 1 else 0)<6:=by split<;>omega
  have fW:(2*j+(if up then 1 else 0))/2=j:=by split<;>omega
  have rr:iv (2*j+(if up then 1 else 0))=up:=by
   unfold iv;cases up
   ·exact kJ (by show ¬(2*j+0)%2=1;omega)
   ·exact jh (by show (2*j+1)%2=1;omega)
  obtain⟨x,Ht⟩:∃x,x=2*j+(if up then 1 else 0):=⟨_,rfl⟩;rw[<-Ht] at ag fW rr;have yY:jU a0 x=c:=by unfold jU;rw[rr,fW,ja]
  have yZ:eG x=(j:Nat):=by unfold eG;rw[fW]
  obtain⟨⟨w1,cQ⟩,_⟩:=Hr a0 x s;rw[yY,yZ,rr,<-aw] at cQ;refine⟨a0,x,uy,ag,?_⟩;rw[<-cQ];have qP:kH l ai v=(cF (cJ l ai v)).2.1:=rfl;rw[yN (by rw[<-qP,<-wI];exact ao) (by
   rw[nR,show ((cJ l ai v).isSome&&dO table (cF (cJ l ai v)).2.2)=false from mv]
   exact λq=>by cases q) nR,yY,yZ,rr,es]
theorem Nu (H:jf d l ai) {q:b8}:q∈kg l ai table↔lF l ai table q:=by
 constructor
 ·intro aA
  obtain⟨k,hk,aA⟩:=iF.1 aA;obtain⟨i,J,aA⟩:=iF.1 aA;obtain⟨x,ag,aA⟩:=iF.1 aA;exact(Nq H ⟨k,i,hk,J,rfl⟩ ag (rq.1 aA)).1
 ·intro h
  obtain⟨a,x,⟨k,i,hk,J,rfl⟩,ag,aA⟩:=Wc H h;exact iF.2 ⟨k,hk,iF.2 ⟨i,J,iF.2 ⟨x,ag,rq.2 aA⟩⟩⟩
theorem Wg (H:jf d l ai):dst (kg l ai table):=by
 have hD:∀{k i x:Nat},k<l.length->i<64->x<6->∀q∈oa l ai table (pk l ai k i) x,B9 l ai q=((pk l ai k i).1,x):=λ{k i x} hk J ag q aA=>(Nq H ⟨k,i,hk,J,rfl⟩ ag (rq.1 aA)).2
 refine sH _ (λk hk=>sH _ (λi J=>sH _ (λx ag=>Nl _) λx y Yc aT p hp q aA e=> ?_) λi j hY hj p hp q aA e=> ?_) λk k' rT cc p hp q aA e=> ?_
 ·have a:=hD hk J af p hp
  have b:=hD hk J aT q aA;rw[e,b] at a;have:=(Prod.mk.injEq _ _ _ _▸a:_/\_).2;omega
 ·obtain⟨x,ag,hp⟩:=iF.1 hp
  obtain⟨y,aT,aA⟩:=iF.1 aA;have a:=hD hk af ag p hp;have b:=hD hk hj aT q aA;rw[e,b] at a;have:=(Nk H hk hj hk (show i<64 by omega) (show (pk l ai k j).1=(pk l ai k i).1 from (Prod.mk.inj a).1)).2;omega
 ·obtain⟨i,J,hp⟩:=iF.1 hp
  obtain⟨x,ag,hp⟩:=iF.1 hp;obtain⟨j,hj,aA⟩:=iF.1 aA;obtain⟨y,aT,aA⟩:=iF.1 aA;have a:=hD (show k<l.length by omega) J ag p hp;have b:=hD cc hj aT q aA;rw[e,b] at a;have:=(Nk H cc hj (show k<l.length by omega) J (show (pk l ai k' j).1=(pk l ai k i).1 from (Prod.mk.inj a).1)).1;omega
theorem Wh (H:jf d l ai) (a:Ord (kg l ai table)) (b:Ord (jW l ai table)):a.1=b.1:=by
 have Nv:∀q,q∈a.1↔lF l ai table q:=λq=>(a.2.1.mem_iff).trans (Nu H)
 have Nw:∀q,q∈b.1↔lF l ai table q:=λq=>(b.2.1.mem_iff).trans (V9 H)
 exact Hm (Nn (Hn a.2.1 (Wg H)) a.2.2 λq aA=>(Nv q).1 aA) (Nn (Hn b.2.1 (V' H)) b.2.2 λq aA=>(Nw q).1 aA) λq=>(Nv q).trans (Nw q).symm
end
end AE
end
end
section
noncomputable section
namespace AE
theorem wJ {x:Int} (h:0<=x) (m:Nat):x%((2^m:Nat):Int)=0↔x.toNat%2^m=0:=by
 have e:x%((2^m:Nat):Int)=((x.toNat%2^m:Nat):Int):=by rw[Int.natCast_emod,Int.toNat_of_nonneg h]
 rw[e];omega
theorem Wi {a b:ek} (h:∀p:bA,cO p a->cO p b->False):eW (k3 a b)<=0:=by
 unfold k3;split
 ·rename_i aB
  exfalso;refine h (fB (iw a b)) ?_ ?_<;>
   ·unfold gT iw at aB
    unfold cO iw fB;dsimp only at*
    omega
 ·decide
theorem Wj {a b:ek} {p:bA} (h1:cO p a) (ad:cO p b):0<eW (k3 a b):=by
 have aB:gT (iw a b):=by
  unfold cO at h1 ad;unfold gT iw;dsimp only;omega
 unfold k3;rw[aR aB];unfold eW;rw[q' aB];unfold gT at aB;exact Int.mul_pos (Int.mul_pos (by dsimp only;omega) (by dsimp only;omega)) (by dsimp only;omega)
theorem Nx {d:Nat} (aH:d<=14) {t:bw}:rm d t↔(0<=t.1/\t.1+2<=d)/\dK t.2/\e3 t.2%8^b3 t=0/\e3 t.2+8^b3 t<=8^d:=by
 have Yd:2^d<=16384:=Nat.pow_le_pow_right (n:=2) (j:=14) cG aH;have hs:0<8^b3 t:=Nat.pow_pos cG;constructor
 ·intro h
  obtain⟨_,J⟩:=G_ aH h;obtain⟨h1,ad,al,bb,b5⟩:=h;have hl:b3 t<=d:=by unfold b3;omega
  have fZ:=J;unfold dK at fZ;have hT:e3 t.2%8^b3 t=0:=(Bp af t.2).2 ⟨(wJ fZ.1 _).1 al,(wJ fZ.2.2.1 _).1 bb,(wJ fZ.2.2.2.2.1 _).1 b5⟩;unfold cO at ad;have ao:e3 t.2<8^d:=(LZ aH J).2 ⟨ad.2.1,ad.2.2.2.1,ad.2.2.2.2.2⟩;refine⟨h1,J,hT,?_⟩;obtain⟨k,hk⟩:=Nat.dvd_of_mod_eq_zero hT;obtain⟨j,hj⟩:8^b3 t∣8^d:=Nat.pow_dvd_pow 8 hl;rw[hk,hj] at ao ⊢;have:=Nat.lt_of_mul_lt_mul_left ao;have q:8^b3 t*(k+1)<=8^b3 t*j:=Nat.mul_le_mul_left _ this;rw[Nat.mul_add,Nat.mul_one] at q;exact q
 ·rintro ⟨h1,J,hT,ao⟩
  have hl:b3 t<=d:=by unfold b3;omega
  obtain⟨db,a2,a3⟩:=(Bp af t.2).1 hT;have U:=(LZ aH J).1 (show e3 t.2<8^d by omega);unfold dK at J;refine⟨h1,?_,(wJ J.1 _).2 db,(wJ J.2.2.1 _).2 a2,(wJ J.2.2.2.2.1 _).2 a3⟩;unfold cO;exact⟨J.1,U.1,J.2.2.1,U.2.1,J.2.2.2.2.1,U.2.2⟩
theorem Wk {t:bw} (h:eQ t):cO t.2 (bG t):=by
 have:=o8 h;unfold cO bG;dsimp only;omega
theorem Ny {d:Nat} (aH:d<=14) {l:List bw} (h:gh d l 0):∀i,i<l.length->jg l i=((h3 l i:Nat):Int)
 |0,J=>by rw[Ur h J];rfl
 |i+1,J=>by
  show jg l i+eW (bG (l.getD i default))=_;rw[Ny aH h i af,Gp h J,(sC (hb aH h (show i<l.length by omega)).1).1,Int.natCast_add]
theorem Wl {d:Nat} (aH:d<=14) {l:List bw} (h:gh d l 0):wz d l:=by
 have kk:0<8^d:=Nat.pow_pos cG;refine⟨λk hk=> ?_,λk hk=>GF aH h k (k+1) af hk,λx k BW hk=>Wi λp h1 ad=> ?_,?_⟩
 ·obtain⟨q1,aJ,_,dn,fe⟩:=wg h hk
  exact(Nx aH).2 ⟨q1,aJ,dn,fe⟩
 ·have:=Bq aH h (show x<l.length by omega) hk h1 ad
  omega
 ·have hl:0<l.length:=by
   cases l with
   |nil=>have:0=8^d:=h;omega
   |cons t r=>simp
  have e:l.length=(l.length-1)+1:=by omega
  have h1:=LW h hl;rw[e];show jg l (l.length-1)+eW (bG (l.getD (l.length-1) default))=_;rw[Ny aH h _ af,(sC (hb aH h (show l.length-1<l.length by omega)).1).1,<-Int.natCast_add,h1]
theorem Wm {d:Nat} (aH:d<=14) {l:List bw} (h:wz d l):gh d l 0:=by
 obtain⟨aw,ao,J,hs⟩:=h;have ok:∀k,k<l.length->eQ (l.getD k default)/\dK (l.getD k default).2:=λk hk=>G_ aH (aw k hk)
 have v:∀k,k<l.length->(0<=(l.getD k default).1/\(l.getD k default).1+2<=d)/\dK (l.getD k default).2/\h3 l k%8^b3 (l.getD k default)=0/\h3 l k+8^b3 (l.getD k default)<=8^d:=λk hk=>(Nx aH).1 (aw k hk)
 have wA:∀k,k<l.length->eW (bG (l.getD k default))=((8^b3 (l.getD k default):Nat):Int):=λk hk=>(sC (ok k hk).1).1
 have Nz:∀k,k+1<l.length->h3 l k+8^b3 (l.getD k default)<=h3 l (k+1):=λk hk=>by
  have c1:=ao k hk;rw[sv.2 ⟨(ok k af).2,rfl⟩,sv.2 ⟨(ok (k+1) hk).2,rfl⟩] at c1;have c2:h3 l k<h3 l (k+1):=by unfold h3;omega
  refine Nat.not_lt.1 λq=> ?_
  have:=J k (k+1) af hk;have p:=Wj (a:=bG (l.getD k default)) (b:=bG (l.getD (k+1) default)) ((LY (by have:=(v k af).1;unfold b3;omega) (ok k af).2 (v k af).2.2.1).2 ⟨(ok (k+1) hk).2,Nat.le_of_lt c2,q⟩) (Wk (ok (k+1) hk).1);omega
 have low:∀k,k<l.length->jg l k<=((h3 l k:Nat):Int):=λk=>by
  induction k with
  |zero=>exact λ_=>Int.natCast_nonneg _
  |succ k bI=>
   intro hk;have:=bI af;have:=Nz k hk;have:=wA k af;show jg l k+eW (bG (l.getD k default))<=_;omega
 have high:∀j,j<l.length->((h3 l (l.length-1-j):Nat):Int)+(jg l l.length-jg l (l.length-1-j))<=((8^d:Nat):Int):=λj=>by
  induction j with
  |zero=>
   intro hj;have e:l.length=(l.length-1)+1:=by omega
   have s:jg l l.length=jg l (l.length-1)+eW (bG (l.getD (l.length-1) default)):=by
    conv=>lhs;rw[e]
    rfl
   have:=wA (l.length-1) af;have:=(v (l.length-1) af).2.2.2;rw[Nat.sub_zero];omega
  |succ j bI=>
   intro hj;have Wn:=bI af;obtain⟨k,hk⟩:∃k,k=l.length-1-(j+1):=⟨_,rfl⟩;have iz:l.length-1-j=k+1:=by omega
   rw[iz] at Wn;rw[<-hk];have s:jg l (k+1)=jg l k+eW (bG (l.getD k default)):=rfl;have:=wA k af;have:=Nz k af;omega
 have eq:∀k,k<l.length->jg l k=((h3 l k:Nat):Int):=λk hk=>by
  have h1:=low k hk;have ad:=high (l.length-1-k) af;rw[show l.length-1-(l.length-1-k)=k by omega] at ad;omega
 have all:∀j,j<=l.length->∀c:Nat,jg l (l.length-j)=(c:Int)->gh d (l.drop (l.length-j)) c:=λj=>by
  induction j with
  |zero=>
   intro _ c ez;rw[Nat.sub_zero,List.drop_length];rw[Nat.sub_zero] at ez;rw[Mc];omega
  |succ j bI=>
   intro hj c ez;obtain⟨k,hk⟩:∃k,k=l.length-(j+1):=⟨_,rfl⟩;have iz:l.length-j=k+1:=by omega
   rw[iz] at bI;rw[<-hk] at ez ⊢;have B_:k<l.length:=by omega
   rw[ua B_,Gy];have e:=eq k B_;have ja:h3 l k=c:=by omega
   obtain⟨v1,v2,v3,v4⟩:=v k B_;refine⟨v1,⟨v2,ja⟩,by rw[<-ja];exact v3,bI af _ ?_⟩;show jg l k+eW (bG (l.getD k default))=_;rw[ez,wA k B_,Int.natCast_add]
 have:=all l.length (bM _) 0 (by rw[Nat.sub_self];rfl);rw[Nat.sub_self] at this;exact this
theorem NA {d:Nat} (aH:d<=14) {l:List bw}:wz d l↔gh d l 0:=⟨Wm aH,Wl aH⟩
theorem Wo (d:Int) (l:List bw):yU d l=rb d l:=by
 unfold yU rb;split
 ·rfl
 ·split
  ·rfl
  ·rename_i h _
   by_cases q:gh d.toNat l 0
   ·rw[aR q,aR ((NA af).2 q)]
   ·rw[aW q,aW λz=>q ((NA af).1 z)]
theorem Wp {d:Int} {l:List bw}:rb d l=0↔(2<=d/\d<=14)/\l.length<=4096/\gh d.toNat l 0:=by
 unfold rb;split
 ·constructor
  ·intro h;cases h
  ·intro h;omega
 ·split
  ·constructor
   ·intro h;cases h
   ·intro h;omega
  ·split
   ·rename_i h1 ad al
    exact⟨λ_=>⟨af,af,al⟩,λ_=>rfl⟩
   ·rename_i al
    constructor
    ·intro h;cases h
    ·intro h;exact absurd h.2.2 al
section
variable {d:Nat} {l:List bw} {ai:List eK} {table:List dr}
theorem lF.size (H:jf d l ai) {q:b8} (h:lF l ai table q):1<=q.2.2.2/\q.2.2.2<=4096:=by
 have cs:∀{p:bA},(cJ l ai p).isSome=true->1<=kH l ai p/\kH l ai p<=4096:=λ{p} hs=>by
  obtain⟨a,ha⟩:=Option.isSome_iff_exists.1 hs;obtain⟨⟨k,i,hk,_,rfl⟩,_⟩:=Hj H ha;rw[B8 ha];have:=nq (hb H.aH H.pl hk).1;exact⟨this.1,this.2.1⟩
 obtain⟨a,ha,_⟩:=Hk h.wE;have h1:=cs (p:=gK q) (by rw[ha];rfl);rw[h.aG];split
 ·rename_i ad
  have:=cs ad;omega
 ·exact h1
theorem Wq (H:jf d l ai) {L:List b8} (h:∀q∈L,lF l ai table q):yK L:=λq aA=>by
 have:=(h q aA).size H;omega
theorem Wr (H:jf d l ai) (a:Ord (kg l ai table)):∀q∈a.1,lF l ai table q:=λ_ aA=>(Nu H).1 (a.2.1.mem_iff.1 aA)
theorem Ws:(kg l ai table).length<=l.length*384:=mH (G2 l ai table) _
end
theorem Wt {S:List b8} (bV:S.Pairwise fR) (a:Ord S):a.1=S:=by
 refine Hm ?_ bV λq=>a.2.1.mem_iff
 have ne:dst a.1:=Hn a.2.1 (bV.imp λ{x y} h e=>by subst e;exact yV _ h);refine List.pairwise_iff_getElem.2 λi j J hj hY=> ?_
 have e1:=List.pairwise_iff_getElem.1 ne i j J hj hY;have e2:=List.pairwise_iff_getElem.1 a.2.2 i j J hj hY;have key:∀x∈S,∀y∈S,x≠y->¬fR y x->fR x y:=λx ag y aT ch ah=>by
  obtain⟨m,hm,rfl⟩:=List.getElem_of_mem ag;obtain⟨n,tF,rfl⟩:=List.getElem_of_mem aT;rcases Nat.lt_trichotomy m n with h|h|h
  ·exact List.pairwise_iff_getElem.1 bV m n hm tF h
  ·subst h;exact absurd rfl ch
  ·exact absurd (List.pairwise_iff_getElem.1 bV n m tF hm h) ah
 exact key _ (a.2.1.mem_iff.1 (List.getElem_mem J)) _ (a.2.1.mem_iff.1 (List.getElem_mem hj)) e1 e2
end AE
end
end
end Go.Proofs.YtmfckpdcljjdjaaDoor
namespace Go.Proofs.YtmfckpdcljjdjaaDoor
open Go Go.Proofs Go.RowKit Go.Shelf
namespace AE
def y0:Go.Shelf.Ren:=⟨λ|4=>91|n=>n,λ|22=>22|25=>44|20=>20|n=>n,λ|n=>n⟩
theorem NB:Go.Proofs.Lays8.n4 Tryd.prog y0:={
 mixed:=by kernel_rfl
 f4:=⟨Tryd.f91.name,cG,Tryd.func91.trans (congrArg some a6)⟩
 t0:=Tryd.underlying0
 a0:=Tryd.isAgg0
 z0:=Tryd.sizeOf0
 v0:=Tryd.zeroValue0
 t3:=Tryd.underlying3
 a3:=Tryd.isAgg3
 z3:=Tryd.sizeOf3
 v3:=Tryd.zeroValue3
 t4:=Tryd.underlying4
 a4:=Tryd.isAgg4
 z4:=Tryd.sizeOf4
 v4:=Tryd.zeroValue4
 t9:=Tryd.underlying9
 a9:=Tryd.isAgg9
 z9:=Tryd.sizeOf9
 v9:=Tryd.zeroValue9
 t20:=Tryd.underlying20
 a20:=Tryd.isAgg20
 z20:=Tryd.sizeOf20
 v20:=Tryd.zeroValue20
 t22:=Tryd.underlying22
 a22:=Tryd.isAgg22
 z22:=Tryd.sizeOf22
 v22:=Tryd.zeroValue22}
end AE
end Go.Proofs.YtmfckpdcljjdjaaDoor
namespace Go.Proofs.YtmfckpdcljjdjaaDoor
open Go Go.Proofs Go.RowKit
section
noncomputable section
namespace AE
namespace NC
theorem any {W:aj} {n:Nat} (bV:dg (aS W) (bW ([]:List (aI bf)))) (ah:n<=100000):jS bf 91 [.slice none 0 0,n6 (n:Nat)] W [] dT (λy=> .slice y.1 0 y.2) λy=>[aI.arr br (.slice y.1 0 y.2) []]:=by
 rcases Nat.eq_zero_or_pos n with rfl|hp
 ·refine(Any8.slices_Grow_room NB none 0 0 0 W (bM _) cG cG (bM _)).mono λe w' he=> ?_
  obtain⟨rfl,rfl⟩:=he;exact⟨⟨(none,0),rfl,LF _ _ _ _⟩,dJ.refl 0 _⟩
 ·obtain⟨i,z,J,bk,bt,gX,iE⟩:=(Gc LC).1
  refine(Any8.slices_Grow_grow NB i z J bk (by rw[bt];decide) none 0 0 n [] W (bM _) af (by rw[gX];omega) af (by rw[bt];rfl) (λ_=>rfl) (λa h=>by cases h)).mono λe w' he=> ?_
  obtain⟨rfl,rfl⟩:=he;have av:n<=grownCap W (0+n) 0 (y0.t 25):=by
   have:=grownCap_ge W (0+n) 0 (y0.t 25);omega
  have hm:=grownCap_le_maxLen W (0+n) 0 (y0.t 25) (by unfold maxLen;omega);obtain⟨bL,dU⟩:∃bL,bL=grownCap W (0+n) 0 (y0.t 25):=⟨_,rfl⟩;rw[<-dU] at av hm ⊢;refine⟨⟨(some ⟨W.heap.size,0,none⟩,bL),rfl,?_⟩,?_⟩
  ·refine⟨dg.one (.inr ⟨W.heap.size,bL,_,rfl,af,Nat.zero_le _,heap_alloc_new W.drew _,Nat.zero_le _,hm,?_,rfl⟩),λj o hj _=> ?_,λb U=> ?_⟩
   ·simp only [List.size_toArray,Array.size_append,size_zeroCells,iE,List.length_nil]
    omega
   ·have ey:W.heap[j]? =some o:=hj
    show (W.drew.alloc _).heap[j]? =some o;rw[heap_alloc_old W.drew _ (Array.getElem?_eq_some_iff.1 ey).1];exact ey
   ·right
    have U:=j'.1 U;have:some b=some W.heap.size:=U.trans (jN (⟨W.heap.size,0,none⟩) _ af);cases this;exact Array.getElem?_eq_none (bM _)
  ·exact⟨⟨rfl,rfl,rfl,by show W.heap.size<=(W.heap.push _).size;simp,λi J=>absurd J (Nat.not_lt_zero i)⟩,Nat.le_succ _⟩
end NC
abbrev nv:=dT×List bw
abbrev qc (x:nv):I:= .slice x.1.1 x.2.length x.1.2
def ND (x:nv):List I:=[qc x]
theorem Wu:p7 bf 22 1 24=true:=a6
abbrev kI:fG bf:=tX (α:=nv) default 22 1 24 ND Wu
def Hu (bO:List nv):List (eB bf):=bO.map λx=>⟨br,qc x,x.2⟩
theorem Wv {bO:List nv} {x:nv} (h:x∈bO):h2 (Hu bO) (⟨br,qc x,x.2⟩:eB bf):=GN (f:=λx:nv=>(⟨br,qc x,x.2⟩:eB bf)) h
theorem NF {M:Mem}:∀{bO:List nv},(∀x∈bO,bH M 4 ef (qc x) x.2)->fi (Hu bO) M
 |[],_=> .nil M
 |x::_,h=> .cons (h x List.mem_cons_self) (NF λy aT=>h y (List.mem_cons_of_mem _ aT))
def eD (bO:List nv):List bw:=bO.flatMap λx=>x.2
theorem NG {bO:List nv} {i:Nat} (h:i<bO.length):eD (bO.take (i+1))=eD (bO.take i)++(bO.getD i default).2:=by
 unfold eD;rw[List.take_add_one,fc h,List.flatMap_append,de,fc h];simp
theorem Ca {bO:List nv} (i:Nat):(eD (bO.take i)).length<=(eD bO).length:=by
 have:eD bO=eD (bO.take i)++eD (bO.drop i):=by
  unfold eD;rw[<-List.flatMap_append,List.take_append_drop]
 rw[this,List.length_append];omega
namespace y1
def t:aN:=
.o (.len #[110] 3 0) 1 1 [0,22]<|
.loop [n6 0,n6 0] 2<|
.o (.bin .lss 3 3 1) 4 1 []<|
.a1 4 (
 .o (.ca 110 0 3) 5 1 [0,22,1]<|
 .o (.ld 22 5) 6 1 [1]<|
 .o (.len #[22] 3 6) 7 1 [0,44]<|
 .o (.bin .add 3 2 7) 8 1 []<|
 .o (.bin .lss 3 8 (n6 0)) 9 1 []<|
 .Sw 9<|
 .o (.bin .add 3 3 (n6 1)) 10 1 []<|
 .back [8,10]) (
 .cu<|
 .call 91 [.slice none 0 0,2] 5 1<|
 .o (.len #[110] 3 0) 6 1 [0,22]<|
 .loop [n6 0,5,0] 3<|
 .o (.bin .lss 3 7 6) 10 1 []<|
 .a1 10 (
  .o (.ca 110 0 7) 11 1 [0,22,1]<|
  .o (.ld 22 11) 12 1 [1]<|
  .qY 22 8 12<|
  .o (.bin .add 3 7 (n6 1)) 14 1 []<|
  .back [14,13,9]) (
  .cu<|
  .ret 8))
theorem bq:cL Tryd.prog 60 {n0:=[91],cells:=[(2,(1000000,0))],pW:=[(9,false)]} [0] 1=some t:=cT a6
theorem any {W:aj} {a:ht} {n c:Nat} {bO:List nv} (bV:dg (aS W) (bW ([]:List (aI bf)))) (hl:bH (aS W) 1 ND (.slice a n c) bO) (ah:n=bO.length) (U:bO.length<=10000) (hL:(eD bO).length<=100000) (fQ:∀x∈bO,bH (aS W) 4 ef (qc x) x.2):
  jS bf 60 [.slice a n c] W [] dT (λy=> .slice y.1 (eD bO).length y.2) λy=>[aI.arr br (.slice y.1 (eD bO).length y.2) (eD bO)]:=by
 subst ah;refine q9 (ro:=⟨kI,.slice a bO.length c,bO⟩::Hu bO) mixed bq [.slice a bO.length c] bV (fi.off (.cons hl (NF fQ)) λb=>vF b) ?_;unfold t;refine l_ rfl ?_;refine gJ Nat (λi=>[n6 ((eD (bO.take i)).length:Nat),n6 (i:Nat)]) (λ_=>[]) (λi=>i<=bO.length) (λi=>bO.length-i) 0 ae ae (Nat.zero_le _) (λi J=> ?_);have NH:=Ca (bO:=bO) i;have Ww:=Ca (bO:=bO) (i+1);refine aZ ?_;refine bD rfl (λaM=> ?_) λaM=> ?_
 ·have aM:i<bO.length:=by omega
  have e:=NG aM;have el:(eD (bO.take (i+1))).length=(eD (bO.take i)).length+(bO.getD i default).2.length:=by rw[e,List.length_append]
  refine ea (K:=kI) (l:=bO) (j:=i) ae ae ?_ (hs:= .ro .z);refine kf (K:=kI) (l:=bO) (j:=i) (o:=0) (u:=qc (bO.getD i default)) ae ae ?_ (hs:= .ro .z);refine l_ rfl ?_;refine kC (a:=((eD (bO.take i)).length:Nat)) (b:=((bO.getD i default).2.length:Nat)) ae ae ?_;refine p3 (a:=(((eD (bO.take i)).length:Nat):Int)+((bO.getD i default).2.length:Nat)) (b:=0) ae ae ?_;refine yq ?_ ?_
  ·exact congrArg Value.bool (kJ af)
  refine aZ ?_;refine dN (u:=i) (i+1) ?_ rfl aM af;rw[el];rfl
 ·obtain rfl:i=bO.length:=by omega
  rw[List.take_length] at NH ⊢;refine dY ?_;refine jB (R:=λy:dT=>aI.arr br (.slice y.1 0 y.2) []) (v:=λy=> .slice y.1 0 y.2) (λy=>[.slice y.1 0 y.2]) (λw _ bV=>NC.any bV af) λs5=> ?_
  refine l_ rfl ?_;refine gJ (dT×Nat) (λu=>[n6 (u.2:Nat),.slice u.1.1 (eD (bO.take u.2)).length u.1.2,.slice a bO.length c]) (λu=>[aI.arr br (.slice u.1.1 (eD (bO.take u.2)).length u.1.2) (eD (bO.take u.2))]) (λu=>u.2<=bO.length) (λu=>bO.length-u.2) (s5,0) ae ae (Nat.zero_le _) (λu hu=> ?_);obtain⟨bj,i⟩:=u;have hu:i<=bO.length:=hu;have NH:=Ca (bO:=bO) i;have Ww:=Ca (bO:=bO) (i+1);dsimp only;refine aZ ?_;refine bD rfl (λaM=> ?_) λaM=> ?_
  ·have aM:i<bO.length:=by omega
   have e:=NG aM;have el:(eD (bO.take (i+1))).length=(eD (bO.take i)).length+(bO.getD i default).2.length:=by rw[e,List.length_append]
   have hm:bO.getD i default∈bO:=by rw[uc aM];exact List.getElem_mem aM
   refine ea (K:=kI) (l:=bO) (j:=i) ae ae ?_ (hs:= .ro .z);refine kf (K:=kI) (l:=bO) (j:=i) (o:=0) (u:=qc (bO.getD i default)) ae ae ?_ (hs:= .ro .z);refine T1 (K:=br) (d:=0) (l:=eD (bO.take i)) (v:= .slice bj.1 (eD (bO.take i)).length bj.2) (vx:=qc (bO.getD i default)) (lx:=(bO.getD i default).2) (L':=λa c=>[aI.arr br (.slice a (eD (bO.take i)++(bO.getD i default).2).length c) (eD (bO.take i)++(bO.getD i default).2)]) ae ae (λa c=> .z) (.ro (.s (Wv hm))) (λa4 ga=> ?_) (lA af) (by show ((eD (bO.take i)).length+(bO.getD i default).2.length)*32<=_;omega);rw[<-e];refine aZ ?_;refine dN (u:=(bj,i)) ((a4,ga),i+1) ?_ ?_ ?_ ?_
   ·rfl
   ·rfl
   ·exact aM
   ·dsimp only;omega
  ·obtain rfl:i=bO.length:=by omega
   refine dY (bg ⟨bj,?_,?_⟩)
   ·rw[List.take_length];rfl
   ·rw[List.take_length]
end y1
def sI (l:List bw) (k:Int):List bw×Int:=if k<0\/(l.length:Int)<=k\/(l.getD k.toNat default).1=0 then ([],1) else if 4096<l.length+7 then ([],2) else (l.take k.toNat++g_ ((l.getD k.toNat default).1-1,(l.getD k.toNat default).2) 8++l.drop (k.toNat+1),0)
namespace Hv
def t:aN:=
.o (.bin .lss 3 1 (n6 0)) 2 1 []<|
.a1 2 (
 .ret (.tuple ⟨[.slice none 0 0,n6 1]⟩)) (
 .o (.len #[22] 3 0) 3 1 [0,44]<|
 .o (.bin .geq 3 1 3) 4 1 []<|
 .a1 4 (
  .ret (.tuple ⟨[.slice none 0 0,n6 1]⟩)) (
  .o (.ca 22 0 1) 5 1 [0,44,4]<|
  .o (.hJ 44 5 0) 6 1 [0,3,1]<|
  .o (.ld 3 6) 7 1 [1]<|
  .o (.bin .eql 3 7 (n6 0)) 8 1 []<|
  .a1 8 (
   .ret (.tuple ⟨[.slice none 0 0,n6 1]⟩)) (
   .o (.len #[22] 3 0) 9 1 [0,44]<|
   .o (.bin .add 3 9 (n6 7)) 10 1 []<|
   .o (.bin .gtr 3 10 (n6 4096)) 11 1 []<|
   .a1 11 (
    .ret (.tuple ⟨[.slice none 0 0,n6 2]⟩)) (
    .o (.h_ 22 0 none (some 1) none) 12 1 [0,44,4]<|
    .o (.ca 22 0 1) 13 1 [0,44,4]<|
    .o (.hJ 44 13 0) 14 1 [0,3,1]<|
    .o (.ld 3 14) 15 1 [1]<|
    .o (.bin .sub 3 15 (n6 1)) 16 1 []<|
    .o (.hJ 44 13 1) 17 1 [1,32,3]<|
    .o (.ld 32 17) (.agg ⟨dt 3 18⟩) 3 [3]<|
    .o (.bin .add 3 1 (n6 1)) 21 1 []<|
    .o (.h_ 22 0 (some 21) none none) 22 1 [0,44,4]<|
    .alt (
     .call 55 [.agg ⟨[16,18,19,20]⟩,n6 8] 23 1<|
     .o (.h_ 22 0 (some 21) none none) 24 1 [0,44,4]<|
     .lq [12,23,24] 3 3<|
     .call 60 [25] 26 1<|
     .ret (.tuple ⟨[26,n6 0]⟩)) (
     .alt (
      .call 55 [.agg ⟨[16,18,19,20]⟩,n6 8] 23 1<|
      .o (.h_ 22 0 none (some 1) none) 24 1 [0,44,4]<|
      .o (.h_ 22 0 (some 21) none none) 25 1 [0,44,4]<|
      .lq [24,23,25] 3 3<|
      .call 60 [26] 27 1<|
      .ret (.tuple ⟨[27,n6 0]⟩)) (
      .alt (
       .call 55 [.agg ⟨[16,18,19,20]⟩,n6 8] 23 1<|
       .lq [12,23,22] 3 3<|
       .call 60 [24] 25 1<|
       .ret (.tuple ⟨[25,n6 0]⟩)) (
       .call 55 [.agg ⟨[16,18,19,20]⟩,n6 8] 23 1<|
       .o (.h_ 22 0 none (some 1) none) 24 1 [0,44,4]<|
       .lq [24,23,22] 3 3<|
       .call 60 [25] 26 1<|
       .ret (.tuple ⟨[26,n6 0]⟩))))))))
theorem bq:cL Tryd.prog 20 {n0:=[55,60]} [0,1] 2=some t:=cT a6
theorem any {W:aj} {a:ht} {n c d:Nat} {l:List bw} (k:Int) (aH:d<=14) (hp:gh d l 0) (bV:dg (aS W) (bW ([]:List (aI bf)))) (hl:bH (aS W) 4 ef (.slice a n c) l) (ah:n=l.length) (U:l.length<=10000) (hB:l.length<=c):
  jS bf 20 [.slice a n c,n6 k] W [] dT (λy=> .tuple ⟨[.slice y.1 (sI l k).1.length y.2,n6 (sI l k).2]⟩) λy=>[aI.arr br (.slice y.1 (sI l k).1.length y.2) (sI l k).1]:=by
 subst ah;refine wb br (λbV=> ?_) bV;obtain⟨K,c4⟩:∃K,K=k.toNat:=⟨_,rfl⟩;by_cases hk:0<=k/\k<l.length
 ·have NI:K<l.length:=by omega
  have EZ:k=(K:Nat):=by omega
  have h1:=hl.take (j:=K) af;have ad:=hl.drop (j:=K+1) af;refine q9 (ro:=[⟨br,.slice a l.length c,l⟩,⟨br,.slice a K c,l.take K⟩,⟨br,.slice (gQ a c (K+1) 4) (l.length-(K+1)) (c-(K+1)),l.drop (K+1)⟩]) mixed bq [.slice a l.length c,n6 k] bV (fi.off (.cons hl (.cons h1 (.cons ad (.nil _)))) (yx br)) ?_;unfold t;unfold sI;rw[<-c4,EZ];obtain⟨cZ,du,_⟩:=hb aH hp NI;obtain⟨_,_,_,_,Ye⟩:=wg hp NI;have kk:=su aH;refine aZ ?_;refine bD rfl (λh=>absurd h af) λ_=> ?_
  refine aZ ?_;refine bD rfl (λh=>absurd h af) λ_=> ?_
  refine ea (K:=br) (l:=l) (j:=K) ae ae ?_ (hs:= .ro .z);refine q8 (K:=br) (l:=l) (j:=K) rfl ?_ (hs:= .ro .z);refine kf (K:=br) (l:=l) (j:=K) (o:=0) (u:=n6 (l.getD K default).1) ae ae ?_ (hs:= .ro .z);refine q7 (a:=(l.getD K default).1) (b:=0) ae ae ?_;refine bD rfl (λh=>bg (by rw[aR (.inr (.inr h))];exact⟨(none,0),rfl,rfl⟩)) λh0=> ?_
  rw[aW (show ¬(((K:Nat):Int)<0\/(l.length:Int)<=(K:Nat)\/(l.getD K default).1=0) by omega)];refine aZ ?_;refine bD rfl (λh=>bg (by rw[aR af];exact⟨(none,0),rfl,rfl⟩)) λal=> ?_
  rw[aW (show ¬4096<l.length+7 by omega)];obtain⟨t1,oo⟩:∃t1:bw,t1=((l.getD K default).1-1,(l.getD K default).2):=⟨_,rfl⟩;have Cb:eQ t1:=by
   rw[oo];unfold eQ at cZ ⊢;dsimp only;omega
  have y':b3 (l.getD K default)=b3 t1+1:=by
   rw[oo];unfold eQ at cZ;unfold b3;dsimp only;omega
  have du:dK t1.2:=by rw[oo];exact du
  have qD:e3 t1.2+8*8^b3 t1=h3 l K+8^b3 (l.getD K default):=by
   rw[y',Nat.pow_succ,oo];show h3 l K+_=_;omega
  rw[<-oo];obtain⟨bO,Cc⟩:∃bO:dT->List nv,bO=λy=>[((a,c),l.take K),(y,g_ t1 8),((gQ a c (K+1) 4,c-(K+1)),l.drop (K+1))]:=⟨_,rfl⟩
  have aM:(l.take K).length=K:=by rw[List.length_take];omega
  have pZ:(l.drop (K+1)).length=l.length-(K+1):=List.length_drop;have Cd:∀y:dT,[Value.slice a K c,.slice y.1 8 y.2,.slice (gQ a c (K+1) 4) (l.length-(K+1)) (c-(K+1))]=(bO y).flatMap kI.enc:=λy=>by
   rw[Cc];show _=[Value.slice a (l.take K).length c,.slice y.1 (g_ t1 8).length y.2,.slice (gQ a c (K+1) 4) (l.drop (K+1)).length (c-(K+1))];rw[aM,pZ,sw]
  have ob:∀{y:dT},eD (bO y)=l.take K++g_ t1 8++l.drop (K+1):=λ{y}=>by
   rw[Cc];unfold eD;simp
  have hlen:(l.take K++g_ t1 8++l.drop (K+1)).length<=100000:=by
   rw[List.length_append,List.length_append,aM,pZ,sw];omega
  have j0:∀(y:dT) (M:Mem),bH M 4 ef (.slice a K c) (l.take K)->bH M 4 ef (.slice y.1 8 y.2) (g_ t1 8)->bH M 4 ef (.slice (gQ a c (K+1) 4) (l.length-(K+1)) (c-(K+1))) (l.drop (K+1))->∀x∈bO y,bH M 4 ef (qc x) x.2:=λy M q1 aJ cg x ag=>by
   rw[Cc] at ag;simp only [List.mem_cons,List.not_mem_nil,or_false] at ag;rcases ag with rfl|rfl|rfl
   ·show bH M 4 ef (.slice a (l.take K).length c) _
    rw[aM];exact q1
   ·show bH M 4 ef (.slice y.1 (g_ t1 8).length y.2) _
    rw[sw];exact aJ
   ·show bH M 4 ef (.slice _ (l.drop (K+1)).length _) _
    rw[pZ];exact cg
  have oc:∀y:dT,(bO y).length=3:=λy=>by rw[Cc];rfl
  refine By (a:=a) (m:=l.length) (c:=c) (j:=K) ae ae ?_ af;refine ea (K:=br) (l:=l) (j:=K) ae ae ?_ (hs:= .ro .z);refine q8 (K:=br) (l:=l) (j:=K) rfl ?_ (hs:= .ro .z);refine kf (K:=br) (l:=l) (j:=K) (o:=0) (u:=n6 (l.getD K default).1) ae ae ?_ (hs:= .ro .z);have rh:=cZ;unfold eQ at rh;refine sj (a:=(l.getD K default).1) (b:=1) ae ae ?_;refine q8 (K:=br) (l:=l) (j:=K) rfl ?_ (hs:= .ro .z);refine fI (K:=br) (l:=l) (j:=K) (o:=1) (c:=b_ (l.getD K default).2) ae ae ae ew ?_ (hs:= .ro .z);refine kC (a:=(K:Nat)) (b:=1) ae ae ?_;refine Bc (a:=a) (m:=l.length) (c:=c) (j:=K+1) (m':=l.length-(K+1)) ae ae ae ?_;refine Ga ?_ (Ga ?_ (Ga ?_ ?_))
  ·refine jB (R:=λy:dT=>aI.arr br (.slice y.1 8 y.2) (g_ t1 8)) (v:=λy=> .slice y.1 8 y.2) (λy=>[.slice y.1 8 y.2]) (λw _ bV=>wk.any (t0:=t1) (n:=8) bV Cb du (by rw[qD];omega) cG) (λy=> ?_) (ha:=by rw[oo];rfl)
   refine Bc (a:=a) (m:=l.length) (c:=c) (j:=K+1) (m':=l.length-(K+1)) ae ae ae ?_;refine yu (L':=λg=>[aI.arr br (.slice none 0 0) [],aI.arr br (.slice y.1 8 y.2) (g_ t1 8),aI.red kI (.slice (some ⟨g,0,none⟩) 3 3) (bO y)]) kI (bO y) (Cd y) (λg=> .s (.s .z)) (λg=> ?_) (oc y);refine jB (R:=λz:dT=>aI.arr br (.slice z.1 (eD (bO y)).length z.2) (eD (bO y))) (v:=λz=> .slice z.1 (eD (bO y)).length z.2) (λz=>[.slice z.1 (eD (bO y)).length z.2]) (λw hw bV=>y1.any bV ((cx.red (K:=kI) (v:= .slice (some ⟨g,0,none⟩) 3 3) (l:=bO y) (.s (.s .z))).at hw) (oc y).symm (by rw[oc];decide) (by rw[ob];exact hlen) (j0 y _ ((cx.ro (K:=br) (v:= .slice a K c) (l:=l.take K) (.s .z)).at hw) ((cx.arr (K:=br) (v:= .slice y.1 8 y.2) (l:=g_ t1 8) (.s .z)).at hw) ((cx.ro (K:=br) (v:= .slice (gQ a c (K+1) 4) (l.length-(K+1)) (c-(K+1))) (l:=l.drop (K+1)) (.s (.s .z))).at hw))) λz=> ?_
   refine sm (L':=[aI.arr br (.slice z.1 (eD (bO y)).length z.2) (eD (bO y))]) (λM aV=>by exact aV.pick [3] rfl) ⟨z,?_,?_⟩
   ·rw[ob];rfl
   ·rw[ob]
  ·refine jB (R:=λy:dT=>aI.arr br (.slice y.1 8 y.2) (g_ t1 8)) (v:=λy=> .slice y.1 8 y.2) (λy=>[.slice y.1 8 y.2]) (λw _ bV=>wk.any (t0:=t1) (n:=8) bV Cb du (by rw[qD];omega) cG) (λy=> ?_) (ha:=by rw[oo];rfl)
   refine By (a:=a) (m:=l.length) (c:=c) (j:=K) ae ae ?_ af;refine Bc (a:=a) (m:=l.length) (c:=c) (j:=K+1) (m':=l.length-(K+1)) ae ae ae ?_;refine yu (L':=λg=>[aI.arr br (.slice none 0 0) [],aI.arr br (.slice y.1 8 y.2) (g_ t1 8),aI.red kI (.slice (some ⟨g,0,none⟩) 3 3) (bO y)]) kI (bO y) (Cd y) (λg=> .s (.s .z)) (λg=> ?_) (oc y);refine jB (R:=λz:dT=>aI.arr br (.slice z.1 (eD (bO y)).length z.2) (eD (bO y))) (v:=λz=> .slice z.1 (eD (bO y)).length z.2) (λz=>[.slice z.1 (eD (bO y)).length z.2]) (λw hw bV=>y1.any bV ((cx.red (K:=kI) (v:= .slice (some ⟨g,0,none⟩) 3 3) (l:=bO y) (.s (.s .z))).at hw) (oc y).symm (by rw[oc];decide) (by rw[ob];exact hlen) (j0 y _ ((cx.ro (K:=br) (v:= .slice a K c) (l:=l.take K) (.s .z)).at hw) ((cx.arr (K:=br) (v:= .slice y.1 8 y.2) (l:=g_ t1 8) (.s .z)).at hw) ((cx.ro (K:=br) (v:= .slice (gQ a c (K+1) 4) (l.length-(K+1)) (c-(K+1))) (l:=l.drop (K+1)) (.s (.s .z))).at hw))) λz=> ?_
   refine sm (L':=[aI.arr br (.slice z.1 (eD (bO y)).length z.2) (eD (bO y))]) (λM aV=>by exact aV.pick [3] rfl) ⟨z,?_,?_⟩
   ·rw[ob];rfl
   ·rw[ob]
  ·refine jB (R:=λy:dT=>aI.arr br (.slice y.1 8 y.2) (g_ t1 8)) (v:=λy=> .slice y.1 8 y.2) (λy=>[.slice y.1 8 y.2]) (λw _ bV=>wk.any (t0:=t1) (n:=8) bV Cb du (by rw[qD];omega) cG) (λy=> ?_) (ha:=by rw[oo];rfl)
   refine yu (L':=λg=>[aI.arr br (.slice none 0 0) [],aI.arr br (.slice y.1 8 y.2) (g_ t1 8),aI.red kI (.slice (some ⟨g,0,none⟩) 3 3) (bO y)]) kI (bO y) (Cd y) (λg=> .s (.s .z)) (λg=> ?_) (oc y);refine jB (R:=λz:dT=>aI.arr br (.slice z.1 (eD (bO y)).length z.2) (eD (bO y))) (v:=λz=> .slice z.1 (eD (bO y)).length z.2) (λz=>[.slice z.1 (eD (bO y)).length z.2]) (λw hw bV=>y1.any bV ((cx.red (K:=kI) (v:= .slice (some ⟨g,0,none⟩) 3 3) (l:=bO y) (.s (.s .z))).at hw) (oc y).symm (by rw[oc];decide) (by rw[ob];exact hlen) (j0 y _ ((cx.ro (K:=br) (v:= .slice a K c) (l:=l.take K) (.s .z)).at hw) ((cx.arr (K:=br) (v:= .slice y.1 8 y.2) (l:=g_ t1 8) (.s .z)).at hw) ((cx.ro (K:=br) (v:= .slice (gQ a c (K+1) 4) (l.length-(K+1)) (c-(K+1))) (l:=l.drop (K+1)) (.s (.s .z))).at hw))) λz=> ?_
   refine sm (L':=[aI.arr br (.slice z.1 (eD (bO y)).length z.2) (eD (bO y))]) (λM aV=>by exact aV.pick [3] rfl) ⟨z,?_,?_⟩
   ·rw[ob];rfl
   ·rw[ob]
  ·refine jB (R:=λy:dT=>aI.arr br (.slice y.1 8 y.2) (g_ t1 8)) (v:=λy=> .slice y.1 8 y.2) (λy=>[.slice y.1 8 y.2]) (λw _ bV=>wk.any (t0:=t1) (n:=8) bV Cb du (by rw[qD];omega) cG) (λy=> ?_) (ha:=by rw[oo];rfl)
   refine By (a:=a) (m:=l.length) (c:=c) (j:=K) ae ae ?_ af;refine yu (L':=λg=>[aI.arr br (.slice none 0 0) [],aI.arr br (.slice y.1 8 y.2) (g_ t1 8),aI.red kI (.slice (some ⟨g,0,none⟩) 3 3) (bO y)]) kI (bO y) (Cd y) (λg=> .s (.s .z)) (λg=> ?_) (oc y);refine jB (R:=λz:dT=>aI.arr br (.slice z.1 (eD (bO y)).length z.2) (eD (bO y))) (v:=λz=> .slice z.1 (eD (bO y)).length z.2) (λz=>[.slice z.1 (eD (bO y)).length z.2]) (λw hw bV=>y1.any bV ((cx.red (K:=kI) (v:= .slice (some ⟨g,0,none⟩) 3 3) (l:=bO y) (.s (.s .z))).at hw) (oc y).symm (by rw[oc];decide) (by rw[ob];exact hlen) (j0 y _ ((cx.ro (K:=br) (v:= .slice a K c) (l:=l.take K) (.s .z)).at hw) ((cx.arr (K:=br) (v:= .slice y.1 8 y.2) (l:=g_ t1 8) (.s .z)).at hw) ((cx.ro (K:=br) (v:= .slice (gQ a c (K+1) 4) (l.length-(K+1)) (c-(K+1))) (l:=l.drop (K+1)) (.s (.s .z))).at hw))) λz=> ?_
   refine sm (L':=[aI.arr br (.slice z.1 (eD (bO y)).length z.2) (eD (bO y))]) (λM aV=>by exact aV.pick [3] rfl) ⟨z,?_,?_⟩
   ·rw[ob];rfl
   ·rw[ob]
 ·refine q9 (ro:=[⟨br,.slice a l.length c,l⟩]) mixed bq [.slice a l.length c,n6 k] bV (fi.off (.cons hl (.nil _)) (yx br)) ?_
  unfold t;unfold sI;refine aZ ?_;refine bD rfl (λh=>bg (by rw[aR (.inl h)];exact⟨(none,0),rfl,rfl⟩)) λh0=> ?_
  refine aZ ?_;refine bD rfl (λh=>bg (by rw[aR (.inr (.inl h))];exact⟨(none,0),rfl,rfl⟩)) λh1=> ?_
  exact absurd ⟨af,af⟩ hk
end Hv
end AE
end
end
section
noncomputable section
namespace AE
def Hw:dr:=([97,105,114],false,false,false,1,0,0,0)
def pn:List dr:=[Hw,([115,116,111,110,101],true,false,false,16,0,0,0),([103,108,97,115,115],true,false,false,1,0,0,0),([108,97,109,112],true,false,false,16,15,14,10),([115,97,110,100],true,false,true,16,0,0,0),([119,97,116,101,114],false,true,false,3,0,0,0),([108,101,97,118,101,115],true,false,false,2,0,0,0),([101,109,98,101,114],true,false,false,16,9,3,0),([102,111,103],false,false,false,2,0,0,0)]
def hU:List bw:=[(1,0,0,0)]
def gu:List bw:=[(0,0,0,0),(0,4,0,0),(0,0,4,0),(0,4,4,0),(0,0,0,4),(0,4,0,4),(0,0,4,4),(0,4,4,4)]
def ki:List Int:=1::List.replicate 63 0
def ix:List b8:=[((0,0,0),0,false,2),((2,0,0),0,true,2),((0,0,0),1,false,2),((0,2,0),1,true,2),((0,0,0),2,false,2),((0,0,2),2,true,2)]
theorem Wx:ub 3 1=(hU,0):=a6
theorem Wy:ub 3 0=(gu,0):=a6
theorem Wz:sI hU 0=(gu,0):=a6
theorem WA:sI gu 0=([],1):=a6
theorem WB:rb 3 gu=0:=a6
theorem WC:rb 3 (gu.take 2)=1:=a6
theorem NJ:gh 3 hU 0:=of_decide_eq_true a6
theorem NK:gh 3 gu 0:=of_decide_eq_true a6
theorem WD:wo (hx gu (5,0,7))=5:=a6
theorem WE:bG (1,0,0,0)=fp 8:=a6
theorem WG:yJ ix=24:=a6
theorem WH:∀x:dT,kg hU [(x,ki)] pn=ix:=λx=>by kernel_rfl
theorem WI:∀x:dT,cJ hU [(x,ki)] (1,1,3)=some ((0,0,2),2,0):=λx=>by kernel_rfl
theorem WJ:ix.Pairwise fR:=of_decide_eq_true a6
theorem WK:yK ix:=λq aA=>(of_decide_eq_true a6:∀q∈ix,0<=q.2.2.2/\q.2.2.2<=16384) q aA
theorem WL:(List.replicate 64 (0:Int)).set 0 1=ki:=a6
theorem NL (x:dT):jf 3 hU [(x,ki)]:=⟨af,NJ,cG,rfl,λy aT=>by obtain rfl:=List.mem_singleton.1 aT;rfl⟩
end AE
end
end
section
noncomputable section
namespace AE
theorem Hx {B:Nat} {W:aj} {ak:List cr} {ro:List (eB bf)} {post:I->List (aI bf)->Prop} {n:Nat} {env:List I} {L:List (aI bf)} {ay:List (df bf)} {bK b0:aN} {aq:List Nat} {t:az} {x y:I} {xs ys:List I} {b:Bool} (ag:ex env n x= .agg ⟨xs⟩) (aT:ex env n y= .agg ⟨ys⟩) (he:l0 bf 10000 t (.agg ⟨xs⟩) (.agg ⟨ys⟩)=some b) (h1:b=true->X B W ak ro post n env L ay bK) (ad:b=false->X B W ak ro post n env L ay b0) (yw:bf.eqGuardType bf.depth t=false:=by kernel_rfl) (cw:aF x=true:=by rfl) (eC:aF y=true:=by rfl):X B W ak ro post n env L ay (.s (.bin .eql t x y) aq bK b0):=⟨λah ax=>
 .s b (λM _ _=> @bE.pO (bC M env) bf t x y ⟨xs⟩ ⟨ys⟩ b yw cw eC ((gR M ax ah x).trans ag) ((gR M ax ah y).trans aT) he) (λh=>h1 h ah ax) (λh=>ad h ah ax)⟩
theorem WM {B:Nat} {W:aj} {ak:List cr} {ro:List (eB bf)} {post:I->List (aI bf)->Prop} {n q:Nat} {env:List I} {L:List (aI bf)} {ay:List (df bf)} {k:aN} {t:az} {x i:I} {a:Option Addr} {m c j e aG:Nat} (ag:ex (.slice a j c::env) (q+1) x= .slice a m c) (J:ex (.slice a j c::env) (q+1) i= .int .i64 (j:Nat)) (h:X B W ak ro post (q+1) (.slice a j c::env) L ay k) (hj:∀M,cB B (aS W) ak M (bW L)->j<=c) (aE:bf.underlying t=some (.slice e):=by kernel_rfl) (bt:aP bf (sizeOf e)=some aG:=by kernel_rfl) (cw:aF x=true:=by rfl) (pi:aF i=true:=by rfl) (av:Nat.blt q cP=true:=by rfl) (aA:n=q:=by rfl):
  X B W ak ro post n env L ay (.o (.h_ t x none (some i) none) (bP q) 1 [0,e,aG] k):=
 gO _ (λM aV _ fZ hs=> @bE.JS (bC M (_::env)) bf t e aG x i (bP q) a m c j cw pi rfl aE bt ((fZ x).trans ag) ((fZ i).trans J) (hj M aV) hs) h rfl av aA
namespace NM
def t:aN:=
.ret (.agg ⟨[iM [97,105,114],.bool false,.bool false,.bool false,n6 1,n6 0,n6 0,n6 0]⟩)
theorem bq:cL Tryd.prog 76 {} [] 0=some t:=cT a6
theorem any {W:aj}:c_ bf 76 [] W (M.val Hw):=by
 refine dc (ro:=[]) mixed bq [] (.nil _) ?_;unfold t;exact bg rfl
end NM
namespace NN
def t:aN:=
.c 76 [] (.agg ⟨[0,1,2,3,4,5,6,7]⟩) 8<|
.oU 24 [.agg ⟨[0,1,2,3,4,5,6,7]⟩,.agg ⟨[iM [115,116,111,110,101],.bool true,.bool false,.bool false,n6 16,n6 0,n6 0,n6 0]⟩,.agg ⟨[iM [103,108,97,115,115],.bool true,.bool false,.bool false,n6 1,n6 0,n6 0,n6 0]⟩,.agg ⟨[iM [108,97,109,112],.bool true,.bool false,.bool false,n6 16,n6 15,n6 14,n6 10]⟩,.agg ⟨[iM [115,97,110,100],.bool true,.bool false,.bool true,n6 16,n6 0,n6 0,n6 0]⟩,.agg ⟨[iM [119,97,116,101,114],.bool false,.bool true,.bool false,n6 3,n6 0,n6 0,n6 0]⟩,.agg ⟨[iM [108,101,97,118,101,115],.bool true,.bool false,.bool false,n6 2,n6 0,n6 0,n6 0]⟩,.agg ⟨[iM [101,109,98,101,114],.bool true,.bool false,.bool false,n6 16,n6 9,n6 3,n6 0]⟩,.agg ⟨[iM [102,111,103],.bool false,.bool false,.bool false,n6 2,n6 0,n6 0,n6 0]⟩]<|
.ret 8
theorem bq:cL Tryd.prog 41 {marks:=[24]} [] 0=some t:=cT a6
theorem any {W:aj} (bV:dg (aS W) (bW ([]:List (aI bf)))):jS bf 41 [] W [] dT (λy=> .slice y.1 pn.length y.2) (λy=>[aI.arr g' (.slice y.1 pn.length y.2) pn]):=by
 refine q9 (ro:=[]) mixed bq [] bV fi.none ?_;unfold t;refine cI (jz Hw) (λw _=>NM.any) rfl ?_;refine T3 (K:=g') pn ae ae (λa c=>yr) (λa c=> ?_) ⟨M.val default,a6⟩;exact bg ⟨(a,c),rfl,rfl⟩
end NN
namespace qd
def t:aN:=
.ret (.agg ⟨[0,1,2]⟩)
theorem bq:cL Tryd.prog 40 {} [0,1,2] 3=some t:=cT a6
theorem any {W:aj} (p:bA):c_ bf 40 [n6 p.1,n6 p.2.1,n6 p.2.2] W (P.val p):=by
 refine dc (ro:=[]) mixed bq [n6 p.1,n6 p.2.1,n6 p.2.2] (.nil _) ?_;unfold t;exact bg rfl
end qd
namespace Hy
def t:aN:=
.call 16 [n6 3,n6 1] (.tuple ⟨[0,1]⟩) 2<|
.call 16 [n6 3,n6 0] (.tuple ⟨[2,3]⟩) 2<|
.s (.bin .neq 33 1 (n6 0)) [] (
 .ret (.bool false)) (
 .s (.bin .neq 33 3 (n6 0)) [] (
  .ret (.bool false)) (
  .o (.len #[22] 3 0) 4 1 [0,44]<|
  .s (.bin .neq 3 4 (n6 1)) [] (
   .ret (.bool false)) (
   .o (.len #[22] 3 2) 5 1 [0,44]<|
   .s (.bin .neq 3 5 (n6 8)) [] (
    .ret (.bool false)) (
    .o (.ca 22 2 (n6 1)) 6 1 [0,44,4]<|
    .o (.hJ 44 6 1) 7 1 [1,32,3]<|
    .o (.ld 32 7) (.agg ⟨dt 3 8⟩) 3 [3]<|
    .c 40 [n6 4,n6 0,n6 0] (.agg ⟨[11,12,13]⟩) 3<|
    .o (.bin .neq 32 (.agg ⟨[8,9,10]⟩) (.agg ⟨[11,12,13]⟩)) 14 1 []<|
    .a1 14 (
     .ret (.bool false)) (
     .mk 61 (n6 64)<|
     .o (.ca 61 15 (n6 0)) 16 1 [0,3,1]<|
     .st 3 16 (n6 1)<|
     .lt 23 15<|
     .call 41 [] 18 1<|
     .call 10 [0,17,18] 19 1<|
     .o (.len #[27] 3 19) 20 1 [0,58]<|
     .o (.bin .neq 3 20 (n6 6)) 21 1 []<|
     .a1 21 (
      .ret (.bool false)) (
      .lt 23 15<|
      .c 40 [n6 1,n6 1,n6 3] (.agg ⟨[23,24,25]⟩) 3<|
      .c 27 [0,22,.agg ⟨[23,24,25]⟩] (.tuple ⟨[.agg ⟨[26,27,28,29,30]⟩,31]⟩) 6<|
      .call 20 [0,n6 0] (.tuple ⟨[32,33]⟩) 2<|
      .call 20 [2,n6 0] (.tuple ⟨[34,35]⟩) 2<|
      .o (.ca 27 19 (n6 0)) 36 1 [0,58,6]<|
      .o (.ld 58 36) (.agg ⟨dt 6 37⟩) 6 [6]<|
      .s (.bin .eql 58 (.agg ⟨[37,38,39,40,41,42]⟩) (.agg ⟨[n6 0,n6 0,n6 0,n6 0,.bool false,n6 2]⟩)) [] (
       .o (.ca 27 19 (n6 1)) 43 1 [0,58,6]<|
       .o (.ld 58 43) (.agg ⟨dt 6 44⟩) 6 [6]<|
       .c 40 [n6 2,n6 0,n6 0] (.agg ⟨[50,51,52]⟩) 3<|
       .o (.bin .eql 58 (.agg ⟨[44,45,46,47,48,49]⟩) (.agg ⟨[50,51,52,n6 0,.bool true,n6 2]⟩)) 53 1 []<|
       .a1 53 (
        .o (.ca 27 19 (n6 0)) 54 1 [0,58,6]<|
        .o (.ld 58 54) (.agg ⟨dt 6 55⟩) 6 [6]<|
        .c 33 [.agg ⟨[55,56,57,58,59,60]⟩] (.agg ⟨[61,62,63]⟩) 3<|
        .c 40 [n6 (-1),n6 0,n6 0] (.agg ⟨[64,65,66]⟩) 3<|
        .o (.bin .eql 32 (.agg ⟨[61,62,63]⟩) (.agg ⟨[64,65,66]⟩)) 67 1 []<|
        .a1 67 (
         .o (.ca 27 19 (n6 0)) 68 1 [0,58,6]<|
         .o (.ld 58 68) (.agg ⟨dt 6 69⟩) 6 [6]<|
         .c 32 [.agg ⟨[69,70,71,72,73,74]⟩] (.agg ⟨[75,76,77]⟩) 3<|
         .c 40 [n6 0,n6 0,n6 0] (.agg ⟨[78,79,80]⟩) 3<|
         .o (.bin .eql 32 (.agg ⟨[75,76,77]⟩) (.agg ⟨[78,79,80]⟩)) 81 1 []<|
         .a1 81 (
          .o (.ca 27 19 (n6 1)) 82 1 [0,58,6]<|
          .o (.ld 58 82) (.agg ⟨dt 6 83⟩) 6 [6]<|
          .c 33 [.agg ⟨[83,84,85,86,87,88]⟩] (.agg ⟨[89,90,91]⟩) 3<|
          .c 40 [n6 2,n6 0,n6 0] (.agg ⟨[92,93,94]⟩) 3<|
          .o (.bin .eql 32 (.agg ⟨[89,90,91]⟩) (.agg ⟨[92,93,94]⟩)) 95 1 []<|
          .a1 95 (
           .c 13 [19] 96 1<|
           .o (.bin .eql 3 96 (n6 24)) 97 1 []<|
           .a1 97 (
            .c 40 [n6 0,n6 0,n6 2] (.agg ⟨[98,99,100]⟩) 3<|
            .s (.bin .eql 47 (.agg ⟨[26,27,28,29,30]⟩) (.agg ⟨[98,99,100,n6 2,n6 0]⟩)) [] (
             .a1 31 (
              .c 40 [n6 0,n6 0,n6 2] (.agg ⟨[101,102,103]⟩) 3<|
              .s (.bin .eql 47 (.agg ⟨[26,27,28,29,30]⟩) (.agg ⟨[101,102,103,n6 2,n6 0]⟩)) [] (
               .cs 19 [32,2] (
                .s (.bin .eql 33 33 (n6 0)) [] (
                 .s (.bin .eql 33 35 (n6 1)) [] (
                  .c 15 [n6 3,2] 104 1<|
                  .s (.bin .eql 33 104 (n6 0)) [] (
                   .o (.h_ 22 2 none (some (n6 2)) none) 105 1 [0,44,4]<|
                   .c 15 [n6 3,105] 106 1<|
                   .s (.bin .eql 33 106 (n6 1)) [] (
                    .c 40 [n6 5,n6 0,n6 7] (.agg ⟨[107,108,109]⟩) 3<|
                    .c 22 [2,.agg ⟨[107,108,109]⟩] 110 1<|
                    .o (.bin .eql 3 110 (n6 5)) 111 1 []<|
                    .a1 111 (
                     .o (.ca 22 0 (n6 0)) 112 1 [0,44,4]<|
                     .o (.ld 44 112) (.agg ⟨dt 4 113⟩) 4 [4]<|
                     .c 24 [.agg ⟨[113,114,115,116]⟩] (.agg ⟨[117,118,119,120,121,122]⟩) 6<|
                     .c 36 [n6 8] (.agg ⟨[123,124,125,126,127,128]⟩) 6<|
                     .o (.bin .eql 41 (.agg ⟨[117,118,119,120,121,122]⟩) (.agg ⟨[123,124,125,126,127,128]⟩)) 129 1 []<|
                     .ret 129) (
                     .ret (.bool false))) (
                    .ret (.bool false))) (
                   .ret (.bool false))) (
                  .ret (.bool false))) (
                 .ret (.bool false))) (
                .ret (.bool false))) (
               .ret (.bool false))) (
              .c 40 [n6 0,n6 0,n6 2] (.agg ⟨[101,102,103]⟩) 3<|
              .s (.bin .eql 47 (.agg ⟨[26,27,28,29,30]⟩) (.agg ⟨[101,102,103,n6 2,n6 0]⟩)) [] (
               .ret (.bool false)) (
               .ret (.bool false)))) (
             .ret (.bool false))) (
            .ret (.bool false))) (
           .ret (.bool false))) (
          .ret (.bool false))) (
         .ret (.bool false))) (
        .ret (.bool false))) (
       .ret (.bool false))))))))
theorem bq:cL Tryd.prog 9 {n0:=[16,10,20,41],marks:=[61,23]} [] 0=some t:=cT a6
theorem WN {w:aj} (bV:dg (aS w) (bW ([]:List (aI bf)))):jS bf 16 [n6 3,n6 1] w [] dT (λy=> .tuple ⟨[.slice y.1 hU.length y.2,n6 0]⟩) λy=>[aI.arr br (.slice y.1 hU.length y.2) hU]:=by
 have:=GC.any 3 1 bV;rw[Wx] at this;exact this
theorem WO {w:aj} (bV:dg (aS w) (bW ([]:List (aI bf)))):jS bf 16 [n6 3,n6 0] w [] dT (λy=> .tuple ⟨[.slice y.1 gu.length y.2,n6 0]⟩) λy=>[aI.arr br (.slice y.1 gu.length y.2) gu]:=by
 have:=GC.any 3 0 bV;rw[Wy] at this;exact this
theorem WQ {w:aj} {a:ht} {c:Nat} (bV:dg (aS w) (bW ([]:List (aI bf)))) (hl:bH (aS w) 4 ef (.slice a hU.length c) hU) (ao:hU.length<=c):jS bf 20 [.slice a hU.length c,n6 0] w [] dT (λy=> .tuple ⟨[.slice y.1 gu.length y.2,n6 0]⟩) λy=>[aI.arr br (.slice y.1 gu.length y.2) gu]:=by
 have:=Hv.any (d:=3) 0 af NJ bV hl rfl cG ao;rw[Wz] at this;exact this
theorem WR {w:aj} {a:ht} {c:Nat} (bV:dg (aS w) (bW ([]:List (aI bf)))) (hl:bH (aS w) 4 ef (.slice a gu.length c) gu) (ao:gu.length<=c):jS bf 20 [.slice a gu.length c,n6 0] w [] dT (λy=> .tuple ⟨[.slice y.1 ([]:List bw).length y.2,n6 1]⟩) λy=>[aI.arr br (.slice y.1 ([]:List bw).length y.2) []]:=by
 have:=Hv.any (d:=3) 0 af NK bV hl rfl cG ao;rw[WA] at this;exact this
theorem WS {w:aj} {a a2 a3:ht} {c c2 eN:Nat} {x:dT} (bV:dg (aS w) (bW ([]:List (aI bf)))) (hl:bH (aS w) 4 ef (.slice a hU.length c) hU) (hC:bH (aS w) 1 lB (.slice a2 1 c2) [(x,ki)]) (fQ:bH (aS w) 1 encI (fJ (x,ki)) ki) (c9:bH (aS w) 8 jz (.slice a3 pn.length eN) pn) (ky:sB (aS w)):
  jS bf 10 [.slice a hU.length c,.slice a2 1 c2,.slice a3 pn.length eN] w [] (BQ ix) (λy=> .slice y.1.1 ix.length y.1.2) λy=>[aI.arr bN (.slice y.1.1 ix.length y.1.2) y.2.1]:=by
 have:=G3.any (NL x) bV hl rfl hC rfl (λy aT=>by obtain rfl:=List.mem_singleton.1 aT;exact fQ) c9 rfl ky cG;rw[WH] at this;exact this
theorem WT {w:aj} {a a2:ht} {c c2:Nat} {x:dT} (hl:bH (aS w) 4 ef (.slice a hU.length c) hU) (hC:bH (aS w) 1 lB (.slice a2 1 c2) [(x,ki)]) (fQ:bH (aS w) 1 encI (fJ (x,ki)) ki):
  c_ bf 27 [.slice a hU.length c,.slice a2 1 c2,P.val (1,1,3)] w (.tuple ⟨[.agg ⟨np ((0,0,2),2,0)⟩,.bool true]⟩):=by
 have:=BF.any (1,1,3) (NL x) hl rfl hC rfl (λy aT=>by obtain rfl:=List.mem_singleton.1 aT;exact fQ);rw[WI] at this;exact this
theorem any (W:aj) (ky:sB (aS W)):Calls Tryd.prog 9 #[] W λe w'=>e= .returned (.bool true)/\dJ W.heap.size W w':=by
 refine dc (ro:=[⟨BN,yM,[()]⟩]) mixed bq [] (.cons ky (.nil _)) ?_;unfold t;have l1:0<hU.length:=by decide
 have Yf:1<gu.length:=by decide
 have Yg:1<ix.length:=by decide
 have Yh:0<ix.length:=by decide
 refine jB (λy=>[.slice y.1 hU.length y.2,n6 0]) (λw _ bV=>WN bV) λj4=> ?_
 refine jB (λy=>[.slice y.1 gu.length y.2,n6 0]) (λw _ bV=>WO bV) λik=> ?_
 refine mb (a:=0) (b:=0) (p:=¬(0:Int)=0) ae ae ae ae (λh=>absurd rfl h) λ_=> ?_
 refine mb (a:=0) (b:=0) (p:=¬(0:Int)=0) ae ae ae ae (λh=>absurd rfl h) λ_=> ?_
 refine aZ ?_;refine mb (a:=1) (b:=1) (p:=¬(1:Int)=1) ae ae ae ae (λh=>absurd rfl h) λ_=> ?_
 refine aZ ?_;refine mb (a:=8) (b:=8) (p:=¬(8:Int)=8) ae ae ae ae (λh=>absurd rfl h) λ_=> ?_
 refine ea (K:=br) (l:=gu) (j:=1) ae ae ?_;refine q8 (K:=br) (l:=gu) (j:=1) rfl ?_;refine fI (K:=br) (l:=gu) (j:=1) (o:=1) (c:=b_ (4,0,0)) ae ae ae ew ?_;refine cI (b_ (4,0,0)) (λw _=>qd.any (4,0,0)) rfl ?_;refine Gb (xs:=b_ (4,0,0)) (ys:=b_ (4,0,0)) (b:=true) ae ae a6 ?_;refine yq rfl ?_;refine T2 (K:=hv) (0:Int) 64 rfl (λa c=>yr) (λa c=> ?_) ⟨x2,_,R0,R1,R2,R4,rfl⟩ cG cG cG;have Yi:0<(List.replicate 64 (0:Int)).length:=by decide
 refine ea (K:=hv) (l:=List.replicate 64 (0:Int)) (j:=0) ae ae ?_;refine T0 (K:=hv) (l:=List.replicate 64 (0:Int)) (l2:=ki) (j:=0) (1:Int) ae ae Lu WL.symm (λ_ _=>rfl) ?_;refine Lv (K:=gB) ((a,c),ki) ae ae (λa c=>yr) (λa2 c2=> ?_) ⟨.slice none 0 0,a6⟩;refine jB (λy=>[.slice y.1 pn.length y.2]) (λw _ bV=>NN.any bV) λd=> ?_
 refine jB (R:=λy:BQ ix=>aI.arr bN (.slice y.1.1 ix.length y.1.2) y.2.1) (λy=>[.slice y.1.1 ix.length y.1.2]) (λw hw bV=>WS (x:=(a,c)) bV ((cx.arr (K:=br) (v:= .slice j4.1 hU.length j4.2) (l:=hU) has).at hw) ((cx.arr (K:=gB) (v:= .slice a2 1 c2) (l:=[((a,c),ki)]) has).at hw) ((cx.arr (K:=hv) (v:=fJ ((a,c),ki)) (l:=ki) has).at hw) ((cx.arr (K:=g') (v:= .slice d.1 pn.length d.2) (l:=pn) has).at hw) ((cx.ro (K:=BN) (v:=yM) (l:=[()]) has).at hw)) λq=> ?_
 obtain⟨y2,S,bV⟩:=q;obtain rfl:S=ix:=Wt WJ ⟨S,bV⟩;dsimp only;refine aZ ?_;refine yq rfl ?_;refine Lv (K:=gB) ((a,c),ki) ae ae (λa c=>yr) (λa3 eN=> ?_) ⟨.slice none 0 0,a6⟩;refine cI (b_ (1,1,3)) (λw _=>qd.any (1,1,3)) rfl ?_;refine cI [n6 0,n6 0,n6 2,n6 2,n6 0,.bool true] (λw hw=>WT ((cx.arr (K:=br) (v:= .slice j4.1 hU.length j4.2) (l:=hU) has).at hw) ((cx.arr (K:=gB) (v:= .slice a3 1 eN) (l:=[((a,c),ki)]) has).at hw) ((cx.arr (K:=hv) (v:=fJ ((a,c),ki)) (l:=ki) has).at hw)) rfl ?_;refine jB (λy=>[.slice y.1 gu.length y.2,n6 0]) (λw hw bV=>WQ bV ((cx.arr (K:=br) (v:= .slice j4.1 hU.length j4.2) (l:=hU) has).at hw) (B2 (hw.own.ok 0 _ rfl))) λs1=> ?_
 refine jB (λy=>[.slice y.1 ([]:List bw).length y.2,n6 1]) (λw hw bV=>WR bV ((cx.arr (K:=br) (v:= .slice ik.1 gu.length ik.2) (l:=gu) has).at hw) (B2 (hw.own.ok 1 _ rfl))) λs2=> ?_
 refine ea (K:=bN) (l:=ix) (j:=0) ae ae ?_;refine fI (K:=bN) (l:=ix) (j:=0) (o:=0) (c:=gZ ((0,0,0),0,false,2)) ae ae ae ew ?_;refine Hx (xs:=gZ ((0,0,0),0,false,2)) (ys:=gZ ((0,0,0),0,false,2)) (b:=true) ae ae a6 (λ_=> ?_) λh=>by cases h
 refine ea (K:=bN) (l:=ix) (j:=1) ae ae ?_;refine fI (K:=bN) (l:=ix) (j:=1) (o:=0) (c:=gZ ((2,0,0),0,true,2)) ae ae ae ew ?_;refine cI (b_ (2,0,0)) (λw _=>qd.any (2,0,0)) rfl ?_;refine yv (xs:=gZ ((2,0,0),0,true,2)) (ys:=gZ ((2,0,0),0,true,2)) (b:=true) ae ae a6 ?_;refine o2 rfl ?_;refine ea (K:=bN) (l:=ix) (j:=0) ae ae ?_;refine fI (K:=bN) (l:=ix) (j:=0) (o:=0) (c:=gZ ((0,0,0),0,false,2)) ae ae ae ew ?_;refine cI (b_ (-1,0,0)) (λw _=>GX.any (q:=((0,0,0),0,false,2)) cG (by unfold e0;decide)) rfl ?_;refine cI (b_ (-1,0,0)) (λw _=>qd.any (-1,0,0)) rfl ?_;refine yv (xs:=b_ (-1,0,0)) (ys:=b_ (-1,0,0)) (b:=true) ae ae a6 ?_;refine o2 rfl ?_;refine ea (K:=bN) (l:=ix) (j:=0) ae ae ?_;refine fI (K:=bN) (l:=ix) (j:=0) (o:=0) (c:=gZ ((0,0,0),0,false,2)) ae ae ae ew ?_;refine cI (b_ (0,0,0)) (λw _=>Ms.any (q:=((0,0,0),0,false,2)) cG (by unfold e0;decide)) rfl ?_;refine cI (b_ (0,0,0)) (λw _=>qd.any (0,0,0)) rfl ?_;refine yv (xs:=b_ (0,0,0)) (ys:=b_ (0,0,0)) (b:=true) ae ae a6 ?_;refine o2 rfl ?_;refine ea (K:=bN) (l:=ix) (j:=1) ae ae ?_;refine fI (K:=bN) (l:=ix) (j:=1) (o:=0) (c:=gZ ((2,0,0),0,true,2)) ae ae ae ew ?_;refine cI (b_ (2,0,0)) (λw _=>GX.any (q:=((2,0,0),0,true,2)) cG (by unfold e0;decide)) rfl ?_;refine cI (b_ (2,0,0)) (λw _=>qd.any (2,0,0)) rfl ?_;refine yv (xs:=b_ (2,0,0)) (ys:=b_ (2,0,0)) (b:=true) ae ae a6 ?_;refine o2 rfl ?_;refine dm (v:=n6 24) (λw hw=>by
  have:=G1.any (W:=w) ((cx.arr (K:=bN) (v:= .slice y2.1 ix.length y2.2) (l:=ix) has).at hw) rfl cG WK;rw[WG] at this
  exact this) ?_
 refine aZ ?_;refine o2 rfl ?_;refine cI (b_ (0,0,2)) (λw _=>qd.any (0,0,2)) rfl ?_;refine Hx (xs:=np ((0,0,2),2,0)) (ys:=np ((0,0,2),2,0)) (b:=true) ae ae a6 (λ_=> ?_) λh=>by cases h
 refine o2 rfl ?_;refine cI (b_ (0,0,2)) (λw _=>qd.any (0,0,2)) rfl ?_;refine Hx (xs:=np ((0,0,2),2,0)) (ys:=np ((0,0,2),2,0)) (b:=true) ae ae a6 (λ_=> ?_) λh=>by cases h
 refine T5 (b:=true) (λw hw=>by
  have:=Mw.any (W:=w) ((cx.arr (K:=br) (v:= .slice s1.1 gu.length s1.2) (l:=gu) has).at hw) ((cx.arr (K:=br) (v:= .slice ik.1 gu.length ik.2) (l:=gu) has).at hw) cG;rw[jh rfl] at this
  exact this) (λ_=> ?_) λh=>by cases h
 refine mb (a:=0) (b:=0) (p:=(0:Int)=0) ae ae ae ae (λ_=> ?_) λh=>absurd rfl h
 refine mb (a:=1) (b:=1) (p:=(1:Int)=1) ae ae ae ae (λ_=> ?_) λh=>absurd rfl h
 refine dm (v:=n6 0) (λw hw=>by
  have:=Gz.any (W:=w) 3 ((cx.arr (K:=br) (v:= .slice ik.1 gu.length ik.2) (l:=gu) has).at hw) rfl cG;rw[WB] at this
  exact this) ?_
 refine mb (a:=0) (b:=0) (p:=(0:Int)=0) ae ae ae ae (λ_=> ?_) λh=>absurd rfl h
 refine WM (a:=ik.1) (m:=gu.length) (c:=ik.2) (j:=2) ae ae ?_ λM aV=>Nat.le_trans (show 2<=gu.length by decide) (B2 (aV.sp.ok 1 _ rfl))
 refine dm (v:=n6 1) (λw hw=>by
  have:=Gz.any (W:=w) 3 (((cx.arr (K:=br) (v:= .slice ik.1 gu.length ik.2) (l:=gu) has).at hw).take (j:=2) cG) rfl cG;rw[WC] at this
  exact this) ?_
 refine mb (a:=1) (b:=1) (p:=(1:Int)=1) ae ae ae ae (λ_=> ?_) λh=>absurd rfl h
 refine cI (b_ (5,0,7)) (λw _=>qd.any (5,0,7)) rfl ?_;refine dm (v:=n6 5) (λw hw=>by
  have:=GG.any (W:=w) (d:=3) (5,0,7) ((cx.arr (K:=br) (v:= .slice ik.1 gu.length ik.2) (l:=gu) has).at hw) rfl cG af NK;rw[WD] at this
  exact this) ?_
 refine aZ ?_;refine o2 rfl ?_;refine ea (K:=br) (l:=hU) (j:=0) ae ae ?_;refine fI (K:=br) (l:=hU) (j:=0) (o:=0) (c:=ef (1,0,0,0)) ae ae ae ew ?_;refine cI (im (fp 8)) (λw _=>by
  have:=Bv.any (W:=w) (t0:=(1,0,0,0)) (by unfold eQ;decide) (by unfold e0;decide);rw[WE] at this
  exact this) rfl ?_
 refine cI (im (fp 8)) (λw _=>Bo.any) rfl ?_;refine yv (xs:=im (fp 8)) (ys:=im (fp 8)) (b:=true) ae ae a6 ?_;exact bg rfl
end Hy
end AE
end
end
section
noncomputable section
namespace AE
def uz (d:Int) (l:List bw) (ai:List eK) (table:List dr):Prop:=d<=4/\l.length<=64/\rb d l=0/\ug l ai/\qT table
instance (d:Int) (l:List bw) (ai:List eK) (table:List dr):Decidable (uz d l ai table):=by unfold uz;infer_instance
theorem WU {d:Int} {l:List bw} {ai:List eK} {table:List dr} (h:uz d l ai table):jf d.toNat l ai/\d.toNat<=4/\d=(d.toNat:Nat):=by
 obtain⟨h1,ad,al,bb,b5⟩:=h;obtain⟨bK,b0,sx⟩:=Wp.1 al;obtain⟨f1,f2⟩:=bb;exact⟨⟨af,sx,af,af,λx ag=>by
  obtain⟨k,hk,rfl⟩:=List.getElem_of_mem ag;have:=(f2 k hk).1
  rwa [de,fc hk] at this⟩,af,af⟩
theorem sB.Hz {W w:aj} {ro:List (eB bf)} {L:List (aI bf)} (h:sB (aS W)) (hw:kb W [] ro L w):sB (aS w):=bH.mono h λi o J=>hw.ext i o J (vF i)
namespace BK
theorem WV {W:aj} {a a2:ht} {n c n2 c2:Nat} {l:List bw} {ai:List eK} (hl:bH (aS W) 4 ef (.slice a n c) l) (ah:n=l.length) (hC:bH (aS W) 1 lB (.slice a2 n2 c2) ai) (gj:n2=ai.length) (h:¬l.length=ai.length):c_ bf 26 [.slice a n c,.slice a2 n2 c2] W (.bool (decide (ug l ai))):=by
 subst ah gj;refine dc (ro:=[⟨br,.slice a l.length c,l⟩,⟨gB,.slice a2 ai.length c2,ai⟩]) mixed bq [.slice a l.length c,.slice a2 ai.length c2] (.cons hl (.cons hC (.nil _))) ?_;unfold t;refine aZ ?_;exact bD rfl (λh=>bg (fA λq=>h (by rw[q.1]))) λh0=>absurd af h
theorem all {W:aj} {a a2:ht} {n c n2 c2:Nat} {l:List bw} {ai:List eK} (hl:bH (aS W) 4 ef (.slice a n c) l) (ah:n=l.length) (hC:bH (aS W) 1 lB (.slice a2 n2 c2) ai) (gj:n2=ai.length) (U:l.length<=100000) (fQ:∀x∈ai,bH (aS W) 1 encI (fJ x) x.2):c_ bf 26 [.slice a n c,.slice a2 n2 c2] W (.bool (decide (ug l ai))):=by
 by_cases h:l.length=ai.length
 ·exact any hl ah hC gj af fQ
 ·exact WV hl ah hC gj h
end BK
namespace NO
def t:aN:=
.o (.bin .leq 3 0 (n6 4)) 4 1 []<|
.a1 4 (
 .o (.len #[22] 3 1) 5 1 [0,44]<|
 .o (.bin .leq 3 5 (n6 64)) 6 1 []<|
 .a1 6 (
  .c 18 [0,1] 7 1<|
  .o (.bin .eql 33 7 (n6 0)) 8 1 []<|
  .a1 8 (
   .c 26 [1,2] 9 1<|
   .a1 9 (
    .c 39 [3] 10 1<|
    .ret 10) (
    .ret (.bool false))) (
   .ret (.bool false))) (
  .ret (.bool false))) (
 .ret (.bool false))
theorem bq:cL Tryd.prog 8 {} [0,1,2,3] 4=some t:=cT a6
theorem any {W:aj} {a a2 a3:ht} {n c n2 c2 pb eN:Nat} {l:List bw} {ai:List eK} {table:List dr} (d:Int) (hl:bH (aS W) 4 ef (.slice a n c) l) (ah:n=l.length) (hC:bH (aS W) 1 lB (.slice a2 n2 c2) ai) (gj:n2=ai.length) (fQ:∀x∈ai,bH (aS W) 1 encI (fJ x) x.2) (c9:bH (aS W) 8 jz (.slice a3 pb eN) table) (yP:pb=table.length):
  c_ bf 8 [n6 d,.slice a n c,.slice a2 n2 c2,.slice a3 pb eN] W (.bool (decide (uz d l ai table))):=by
 subst ah gj yP;refine dc (ro:=⟨br,.slice a l.length c,l⟩::⟨gB,.slice a2 ai.length c2,ai⟩::⟨g',.slice a3 table.length eN,table⟩::nr ai) mixed bq [n6 d,.slice a l.length c,.slice a2 ai.length c2,.slice a3 table.length eN] (.cons hl (.cons hC (.cons c9 (sz fQ)))) ?_;unfold t;have no:∀{p:Prop} [Decidable p],¬p->Value.bool false= .bool (decide p):=λh=>by rw[kJ h]
 refine aZ ?_;refine bD rfl (λh0=> ?_) λh=>bg (no λq=>h q.1)
 refine aZ ?_;refine bD rfl (λh1=> ?_) λh=>bg (no λq=>by have:=q.2.1;omega)
 have NP:l.length<=64:=by omega
 refine dm (v:=n6 (yU d l)) (λw hw=>MS.any d ((cx.ro (K:=br) (v:= .slice a l.length c) (l:=l) has).at hw) rfl af) ?_;rw[Wo];refine aZ ?_;refine bD rfl (λad=> ?_) λh=>bg (no λq=>h q.2.2.1)
 refine dm (v:= .bool (decide (ug l ai))) (λw hw=>BK.all ((cx.ro (K:=br) (v:= .slice a l.length c) (l:=l) has).at hw) rfl ((cx.ro (K:=gB) (v:= .slice a2 ai.length c2) (l:=ai) has).at hw) rfl af λx ag=>(cx.ro (K:=hv) (v:=fJ x) (l:=x.2) (.s (.s (.s (mG ag))))).at hw) ?_;refine bD rfl (λal=> ?_) λh=>bg (no λq=>h q.2.2.2.1)
 refine dm (v:= .bool (decide (qT table))) (λw hw=>Mo.any ((cx.ro (K:=g') (v:= .slice a3 table.length eN) (l:=table) has).at hw)) ?_;refine bg ?_;by_cases bb:qT table
 ·exact congrArg Value.bool ((jh bb).trans (jh (p:=uz d l ai table) ⟨af,NP,af,al,bb⟩).symm)
 ·exact congrArg Value.bool ((kJ bb).trans (kJ (p:=uz d l ai table) λq=>bb q.2.2.2.2).symm)
end NO
namespace NQ
def t:aN:=
.c 8 [0,1,2,3] 4 1<|
.o (.un .not 4) 5 1 []<|
.a1 5 (
 .c 9 [] 6 1<|
 .ret 6) (
 .call 10 [1,2,3] 6 1<|
 .call 11 [1,2,3] 7 1<|
 .c 9 [] 8 1<|
 .a1 8 (
  .c 12 [6,7] 9 1<|
  .a1 9 (
   .c 13 [6] 10 1<|
   .c 14 [7] 11 1<|
   .o (.bin .eql 3 10 11) 12 1 []<|
   .ret 12) (
   .ret (.bool false))) (
  .ret (.bool false)))
theorem bq:cL Tryd.prog 3 {n0:=[10,11]} [0,1,2,3] 4=some t:=cT a6
theorem any (W:aj) {v1 v2 v3:I} (d:Int) {l:List bw} {ai:List eK} {table:List dr} (hl:bH (aS W) 4 ef v1 l) (hC:bH (aS W) 1 lB v2 ai) (fQ:∀x∈ai,bH (aS W) 1 encI (fJ x) x.2) (c9:bH (aS W) 8 jz v3 table) (ky:sB (aS W)):
  Calls Tryd.prog 3 #[n6 d,v1,v2,v3] W λe w'=>e= .returned (.bool true)/\dJ W.heap.size W w':=by
 obtain⟨a,c,rfl⟩:=hl.slice;obtain⟨a2,c2,rfl⟩:=hC.slice;obtain⟨a3,eN,rfl⟩:=c9.slice;refine dc (ro:=⟨br,.slice a l.length c,l⟩::⟨gB,.slice a2 ai.length c2,ai⟩::⟨g',.slice a3 table.length eN,table⟩::nr ai) mixed bq [n6 d,.slice a l.length c,.slice a2 ai.length c2,.slice a3 table.length eN] (.cons hl (.cons hC (.cons c9 (sz fQ)))) ?_;unfold t;have cH:∀{L:List (aI bf)} {w:aj},kb W [] (⟨br,.slice a l.length c,l⟩::⟨gB,.slice a2 ai.length c2,ai⟩::⟨g',.slice a3 table.length eN,table⟩::nr ai) L w->bH (aS w) 4 ef (.slice a l.length c) l:=λhw=>(cx.ro (K:=br) (v:= .slice a l.length c) (l:=l) has).at hw
 have dj:∀{L:List (aI bf)} {w:aj},kb W [] (⟨br,.slice a l.length c,l⟩::⟨gB,.slice a2 ai.length c2,ai⟩::⟨g',.slice a3 table.length eN,table⟩::nr ai) L w->bH (aS w) 1 lB (.slice a2 ai.length c2) ai:=λhw=>(cx.ro (K:=gB) (v:= .slice a2 ai.length c2) (l:=ai) has).at hw
 have eR:∀{L:List (aI bf)} {w:aj},kb W [] (⟨br,.slice a l.length c,l⟩::⟨gB,.slice a2 ai.length c2,ai⟩::⟨g',.slice a3 table.length eN,table⟩::nr ai) L w->bH (aS w) 8 jz (.slice a3 table.length eN) table:=λhw=>(cx.ro (K:=g') (v:= .slice a3 table.length eN) (l:=table) has).at hw
 have HA:∀{L:List (aI bf)} {w:aj},kb W [] (⟨br,.slice a l.length c,l⟩::⟨gB,.slice a2 ai.length c2,ai⟩::⟨g',.slice a3 table.length eN,table⟩::nr ai) L w->∀x∈ai,bH (aS w) 1 encI (fJ x) x.2:=λhw x ag=>(cx.ro (K:=hv) (v:=fJ x) (l:=x.2) (.s (.s (.s (mG ag))))).at hw
 refine dm (v:= .bool (decide (uz d l ai table))) (λw hw=>NO.any d (cH hw) rfl (dj hw) rfl (HA hw) (eR hw) rfl) ?_;refine n9 rfl ?_;refine mF rfl (λ_=> ?_) λaB=> ?_
 ·exact dm (v:= .bool true) (λw hw=>Hy.any w (ky.Hz hw)) (bg rfl)
 ·obtain⟨H,bb,_⟩:=WU aB
  have NP:l.length<=64:=aB.2.1;refine jB (R:=λy:BQ (kg l ai table)=>aI.arr bN (.slice y.1.1 (kg l ai table).length y.1.2) y.2.1) (λy=>[.slice y.1.1 (kg l ai table).length y.1.2]) (λw hw bV=>G3.any H bV (cH hw) rfl (dj hw) rfl (HA hw) (eR hw) rfl (ky.Hz hw) af) λq=> ?_
  refine jB (R:=λy:Nd (jW l ai table)=>aI.arr bN (.slice y.1.1 (jW l ai table).length y.1.2) y.2.1) (λy=>[.slice y.1.1 (jW l ai table).length y.1.2]) (λw hw bV=>Nf.any H af bV (cH hw) rfl (dj hw) rfl (HA hw) (eR hw) rfl) λr=> ?_
  have he:=Wh H q.2 r.2;have aA:=Wq H (Wr H q.2);obtain⟨⟨y2,NR⟩,S,bV⟩:=q;obtain⟨⟨NS,rc⟩,T,WW⟩:=r;dsimp only at he aA ⊢;subst he;have h7:(kg l ai table).length=S.length:=bV.1.length_eq.symm;have gj:(jW l ai table).length=S.length:=WW.1.length_eq.symm;rw[h7,gj];have hlen:S.length<=10000000:=by
   have:=Ws (l:=l) (ai:=ai) (table:=table);omega
  refine dm (v:= .bool true) (λw hw=>Hy.any w (ky.Hz hw)) ?_;refine o2 rfl ?_;refine dm (v:= .bool true) (λw hw=>by
   have:=Mx.any (W:=w) ((cx.arr (K:=bN) (v:= .slice y2 S.length NR) (l:=S) has).at hw) ((cx.arr (K:=bN) (v:= .slice NS S.length rc) (l:=S) (.s .z)).at hw) hlen;rw[jh rfl] at this
   exact this) ?_
  refine o2 rfl ?_;refine dm (v:=n6 (yJ S)) (λw hw=>G1.any ((cx.arr (K:=bN) (v:= .slice y2 S.length NR) (l:=S) has).at hw) rfl hlen aA) ?_;refine dm (v:=n6 (yJ S)) (λw hw=>Mu.any ((cx.arr (K:=bN) (v:= .slice NS S.length rc) (l:=S) (.s .z)).at hw) rfl hlen aA) ?_;refine aZ ?_;exact bg (congrArg Value.bool (jh rfl))
end NQ
end AE
end
end
end Go.Proofs.YtmfckpdcljjdjaaDoor
namespace Go.Proofs.YtmfckpdcljjdjaaDoor
open Go Go.ChangeShapes Go.WideShapes Go.ChangeAt Go.RowKit
section
theorem WX (os:Os) (args:Array I):laidMetH Tryd.prog Rows.facesMatchSpecRow.laid ((World.laidAll Tryd.prog os Rows.facesMatchSpecRow.laid).forCall (λ_ _=>0) ⟨#[],args,[]⟩).memory:=by
 rw[MakeChecks.laidMetH_plain _ _ _ a6];exact laidMet_laidAll _ a6 a6
theorem WY (os:Os) (HB:os.Started) (H:Type) (enc:az×I->H):
  ReturnsInHanded {} Tryd.checked os 3 .any (λw args=>(Rows.facesMatchSpecSpec.pre enc Tryd.prog Tryd.f3 [] false w args/\laidMetH Tryd.prog Rows.facesMatchSpecRow.laid w)/\sizedMet enc Tryd.prog Tryd.f3 (OpenSpec.ofChange Rows.facesMatchSpecSpec) false w args)
   (Rows.facesMatchSpecSpec.post enc Tryd.prog Tryd.f3 false true false false):=by
 refine returnsInHanded_of_change_and (C:=Tryd.checked) (X:=λw _=>laidMetH Tryd.prog Rows.facesMatchSpecRow.laid w) (λ_ _ _ aq h=>h.of_heap aq) own HB a6 Tryd.func3
  (ChangeSpec.witness_shaped (enc:=enc) (C:=Tryd.checked) (os:=os) (X:=λw _=>laidMetH Tryd.prog Rows.facesMatchSpecRow.laid w) false (World.laidAll Tryd.prog os Rows.facesMatchSpecRow.laid) #[.int .i64 0,.slice none 0 0,.slice none 0 0,.slice none 0 0] 8 (World.laidAll_os _ _ _)
    (World.shaped_of_ZipB a6 a6) a6 a6 a6 (WX os _)) ?_
 intro W base args ds Yj before WZ vu _ _ hL _;have hval:∀(j:Nat) t v,Tryd.f3.params[j]? =some t->args[j]? =some v->Value.okWide Tryd.prog W .any base t v:=WZ;have HC:=vu;obtain⟨p,q,W0,rP,rfl,_,_⟩:=vu;have hf:DataW.TrodAll enc Tryd.prog W 0 (λ_=>true) true Tryd.f3.params.toList args.toList ds p:=W0;rw[Tryd.params3] at hf hval;have NT:=hf;obtain⟨v0,Yk,Yl,Ym,uU,iR,eY,rfl,rfl,h0,nb⟩:=trodAll_cons hf;obtain⟨v1,Yn,d1,vf,fl,q1,rfl,rfl,rfl,h1,cH⟩:=trodAll_cons nb;obtain⟨v2,Lf,d2,Ay,gb,aJ,rfl,rfl,rfl,ad,dj⟩:=trodAll_cons cH;obtain⟨v3,Yo,d3,Qu,pL,cg,rfl,rfl,rfl,al,eR⟩:=trodAll_cons dj;obtain⟨rfl,rfl,rfl⟩:=trodAll_nil eR;obtain rfl:args= #[v0,v1,v2,v3]:=by cases args;simp_all
 obtain⟨rfl,rfl⟩:=trodVars_none rP;obtain⟨z0,rfl⟩:=Vw (hval 0 3 v0 ae ae) h0;obtain⟨l1,D4⟩:=VE (hval 1 22 v1 ae ae) h1;obtain⟨l2,W1,fW⟩:=VH (hval 2 23 v2 ae ae) ad;obtain⟨Bx,qI⟩:=VF (hval 3 24 v3 ae ae) al;simp only [List.append_nil,<-List.append_assoc] at HC NT;have aM:∀x∈uU++fl++gb++pL,x.block<W.heap.size:=λx ag=>by simpa using HC.lt x ag
 refine(AE.NQ.any W z0 D4 W1 fW qI (VI hL rfl)).mono λe tw ⟨he,U⟩=> ?_
 subst he;exact⟨_,rfl,_,_,_,[],uU++fl++gb++pL,[],HC,trodAll_mk1 (shut_bool Tryd.underlying4 _),MH Vo U.below _ _ _ _ a6 NT aM,rfl,U.below.frame _,λh=>by cases h⟩
theorem W2:Rows.FacesMatchSpecSaid:=
 OpenClaim.holds_of_wide 3 Tryd.f3 ae ae ae ae ae ae ae ⟨rfl,rfl,rfl,rfl,rfl⟩ ae ae ae ae ae a6 Tryd.func3 a6
  (of_decide_eq_true a6) (by unfold Func.isWrapper;first|(rw[aR (by decide +kernel)];kernel_rfl)|(rw[aW (by decide +kernel)];exact⟨rfl,rfl⟩))
  (λos HB H enc _=>WY os HB H enc)
theorem facesMatchSpec_card:Rows.FacesMatchSpecCardSaid:=
 Claim7.holds_tied_plain_at .later [] [.data] true (true,"2d3acc54017c82e9bdd6873e05d22f7d54a3ec73f494b413b2bd9773ecc65d7e") false W2 (λ_ h=>by cases h) a6 (λ_ h=>by cases h) facesMatchSpec_row_tie rfl ⟨rfl,rfl⟩ a6 rfl
  (λf fn aB lU=>by
    obtain rfl:f=3:=Option.some.inj ((show Tryd.prog.funcNamed "voxel/voxellaw37.FacesMatchSpec"=some 3 by kernel_rfl).symm.trans aB) |>.symm;obtain rfl:fn=Tryd.f3:=(Option.some.inj (Tryd.func3.symm.trans lU)).symm;exact⟨a6,λj t aE=>by
     rw[Tryd.params3] at aE;have hm:=Array.mem_of_getElem? aE;have h6:(Tryd.f3.params.toList.all λu=> !Tryd.prog.wantsStandIn u)=true:=by kernel_rfl
     rw[Tryd.params3] at h6;have hw:=List.all_eq_true.1 h6 t (by simpa using hm)
     exact(show Tryd.prog.wantsStandIn t=false by simpa using hw)⟩)
  a6
#print axioms facesMatchSpec_card
end
end Go.Proofs.YtmfckpdcljjdjaaDoor
