/- Parts of the proof. -/
import Derived.Test.YtepcfjbfkedlpaaDoorUn4
import Derived.Shelf.GgClosure.StringsIndexFuncTop
import Derived.ProofKit
import Derived.Ground.GgwProg
set_option maxRecDepth 100000
set_option maxHeartbeats 4000000
noncomputable section
namespace Go.Proofs.YtepcfjbfkedlpaaDoor
open Go Go.Proofs Go.RowKit
namespace AE
namespace ZL
noncomputable def body:Code:=(Tryd.f34.body).getD .skip
def N:Nat:=48
def aN:b6:={sl:=b1 [(1,1),(0,0)],ms:=[],A:=start}
def bN:bd:=[(.bin .lss 3 1 (I 0),.bool false),
 (.len #[30] 3 0,2),
 (.conv 3 104 2,3),
 (.conv 3 104 1,4),
 (.bin .gtr 104 4 (.int .u64 9223372036854775807),.bool true)]
def jX:dX:=[(56,[3,4],.tuple ⟨[.int .u64 0,4]⟩)]
def cb:bd:=[(.bin .lss 3 1 (I 0),.bool false),
 (.len #[30] 3 0,2),
 (.conv 3 104 2,3),
 (.conv 3 104 1,4),
 (.bin .gtr 104 4 (.int .u64 9223372036854775807),.bool false),
 (.conv 104 3 4,1)]
def h':dX:=[(56,[3,4],.tuple ⟨[.int .u64 0,4]⟩)]
theorem e0:J1 (at' 48 cb h' body aN)=some (30,1):=au
abbrev gy:=at' 48 cb h' body aN
def dD:List bu:=[]
def hd0:aF:=b1 [(4,.slice none 0 0),(0,0)]
def hp0:aF:=e6 48 hd0 30 5
theorem e1:cp (b7 gy) hd0 dD=some [(0,0)]:=au
def dV:dU:=(body,[1,1,1,1,0],3)
theorem h2:Bq 30 30 (cI 48 [] [] dV (b3 hp0 dD))=some (5,0):=au
abbrev jv:=cI 48 [] [] dV {sl:=hp0,ms:=[],A:=c6 dD}
def hy:List bu:=[]
def hv:aF:=b1 [(7,5),(4,.slice none 0 0)]
def hp1:aF:=e6 48 hv 33 6
theorem jJ:cp (b7 jv) hv hy=some [(5,5)]:=au
def iB:dU:=(body,[1,1,1,1,1,0],3)
def eQ:List bu:=[]
def eR:aF:=b1 [(8,7),(7,5),(4,.slice none 0 0)]
abbrev hO:=cI 48 [] [] iB {sl:=hp1,ms:=[],A:=c6 hy}
theorem kR:pZ eR eQ hO=some [(5,5),(6,7)]:=au
def e7:Code:=ta body [1,1,1,1,1,1,0,4]
def iq:List fi:=oA body [1,1,1,1,1,1,0,4] []
theorem ql:pz hO=e7:=au
theorem yR:gA hO=iq:=au
def eg:bd:=[(.len #[30] 3 5,8),
 (.bin .lss 3 7 8,.bool true),
 (.mb 30 5 (some 7) none none,9),
 (.mb 30 5 none (some 7) none,10)]
theorem tJ:Bq 30 30 (at' 48 eg [] e7 (b3 eR eQ))=some (9,10):=au
abbrev pg:=at' 48 eg [] e7 (b3 eR eQ)
def kf:List bu:=[]
def kS:aF:=b1 [(38,7),(8,7),(7,5),(4,.slice none 0 0)]
def hp2:aF:=e6 48 kS 45 11
theorem yS:cp (b7 pg) kS kf=some [(5,5),(7,7),(7,7)]:=au
def je:dU:=(e7,[1,4],8)
def fI:bd:=[(.bin .add 3 7 11,12)]
theorem rE:qE eR eQ (cI 48 fI [] je (b3 hp2 kf))=some [(5,5),(12,7)]:=au
def hG:bd:=[(.len #[30] 3 5,8),
 (.bin .lss 3 7 8,.bool false)]
theorem B_:fj Tryd.prog Tryd.f34 (nO 48 [] [] iq (at' 48 hG [] e7 (b3 eR eQ)))=some 5:=au
@[reducible] noncomputable def bB (x:List Bool) (jw:ch) (jx n:Nat) (jM:List Bool:=[]) (i:Nat:=0) (ct:List Bool:=[]) (a0:ch:=none) (dC:Nat:=0):List J:=[br jw x jx,I ((n:Nat):Int),I ((x.length:Nat):Int),.int .u64 ((x.length:Nat):Int),.int .u64 ((n:Nat):Int),br a0 ct dC,I (((min x.length (ct.length-0)):Nat):Int),I ((i:Nat):Int),I ((jM.length:Nat):Int),.slice (la a0 dC i 1) (ct.length-i) (dC-i),.slice a0 i dC,I (((min (jM.take i).length (jM.length-i)):Nat):Int),I ((i+(min (jM.take i).length (jM.length-i)):Nat):Int)]
theorem any (W:ax) {x:List Bool} {jw:ch} {jx:Nat} (jy:cG (aG W) [p3 1 iL (br jw x jx) x]) (n:Nat) (aq:x=[true]) (av:n<=100000):Calls Tryd.prog 34 #[br jw x jx,I ((n:Nat):Int)] W λe w'=>(∃y:ch×Nat,e= .returned (.slice y.1 n y.2)/\cV (aG W) [p3 1 iL (br jw x jx) x] (aG w') [p3 1 iL (br jw x jx) x,ht n3 1 iL (.slice y.1 n y.2) (List.replicate n true)])/\cg 0 W w':=by
 refine pJ (bB x jw jx n) body aN N [ak 0,ak 1] Tryd.func34 λa ah=> ?_
 letI:=b4 ah;have aI:=bI.start W _ jy;have Bi:x.length=1:=by rw[aq];rfl
 by_cases h0:9223372036854775807<((n:Nat):Int)
 ·refine bx bN jX (ae aS (ae (eM ((aI.red 0 rfl).arr kn) mj) (ae (aT.Fx U U au au (k':= .u64) au (J5 aj aj) U U) (ae (aT.Fx U U au au (k':= .u64) au (J5 aj aj) U U) (ae a8 aO))))) (cD (ZK U U U U Bi aj) aP) ?_ ah
  exfalso;omega
 ·refine bx cb h' (ae aS (ae (eM ((aI.red 0 rfl).arr kn) mj) (ae (aT.Fx U U au au (k':= .u64) au (J5 aj aj) U U) (ae (aT.Fx U U au au (k':= .u64) au (J5 aj aj) U U) (ae aS (ae (aT.Fx U U au au (k':= .i64) au (wrap64 aj aj) U U) aO)))))) (cD (ZK U U U U Bi aj) aP) ?_ ah
  obtain⟨ct,eX⟩:=h1 (List.replicate n vM);have e_:ct.length=n:=by rw[eX];exact mw
  refine Wy (n:=n) (zr:=vM) (l':=ct) (bj:=λpd pe=>(bB x jw jx n [] 0 ct pd pe)) eX e0 mj O6 O7 O8 O9 rfl kn e1 (ep hp0 5) U U (by rfl) aj (by unfold Gg;omega) aj (λ_ _ _=>fq) (λ_ _ _=>rfl) ?_;intro jY a0 dC lK ju Hl dz w ah;have dr:=aI.new (JT lK ju Hl);replace dr:=dr.GY;letI:=b4 ah;refine dO (dP dV) [] [] aO aP ?_ ah;obtain⟨Q_,l_⟩:=h1 (ct.take 0++x.take (min x.length (ct.length-0))++ct.drop (0+(min x.length (ct.length-0))));have h5:Q_.length=ct.length:=by rw[l_];simp only [List.length_append,List.length_take,List.length_drop];omega
  refine WC (e:=4) (u:=br a0 ct dC) (a:=a0) (c:=dC) (i:=0) (m:=(min x.length (ct.length-0))) (l:=ct) (ys:=x) (l':=Q_) (bj:=(bB x jw jx n [] 0 ct a0 dC)) l_ rfl h2 au au kn O' jJ (ep hp1 6) U U (congrArg (λz=>Value.slice a0 z dC) (show ct.length=ct.length by omega)) rfl ((congrArg (λz=>Value.slice a0 z dC) (show ct.length=ct.length by omega)).trans (ags _ _ _)) (WE U U ((dr.red 0 rfl).arr kn) kn) (by apply List.ne_nil_of_length_pos;omega) aj (dr.arr 1 rfl) (λ_=>rfl) (λ_=>fq) ?_;intro nf FJ mq dz w ah;have gq:=dr.lV 1 rfl (Bo FJ mq);replace gq:=gq.GY;letI:=b4 ah;refine dO (dP iB) [] [] aO aP ?_ ah;refine tg (gn:=(λ(⟨M,jM,i⟩:Mem×List Bool×Nat)=>aW M (bB x jw jx n jM i ct a0 dC))) (λ(⟨M,jM,i⟩:Mem×List Bool×Nat)=>bI 0 (aG W) aI.Ij M [p3 1 iL (br jw x jx) x,oH a0 ct.length dC jM]/\(i<=n/\jM=jO n i/\jM.length=n/\(0<n->0<i))) (λ(⟨M,jM,i⟩:Mem×List Bool×Nat)=>n-i) ⟨nf,Q_,(min x.length (ct.length-0))⟩ kR fq (λ_ _ h=>h) (by exact⟨gq,by exact⟨aj,by rw[l_];subst eX aq;exact ake n,aj,aj⟩⟩) ?_;intro⟨M,jM,i⟩ bf dz w ah;letI:=b4 ah;refine tc ql yR ?_;have qW:=bf.1;have Ra:=akh (qW.arr 1 rfl);have B5:=bf.2.1;have ao4:=bf.2.2.2.1;have Ef:=bf.2.2.2.2;by_cases px:((i:Nat):Int)<((jM.length:Nat):Int)
  ·refine bx eg [] (ae (eM ((qW.arr 1 rfl).arr kn) mj) (ae a8 (ae (aT.VU U U U mj Bv U U (show i<=ct.length by omega) rfl) (ae (aT.afh U U U mj Bv U U (show i<=dC by omega) rfl) aO)))) aP ?_ ah
   obtain⟨Rb,jH⟩:=h1 (jM.take i++(jM.take i).take (min (jM.take i).length (jM.length-i))++jM.drop (i+(min (jM.take i).length (jM.length-i))));have l8:Rb.length=jM.length:=by rw[jH];simp only [List.length_append,List.length_take,List.length_drop];omega
   refine WC (e:=4) (u:=br a0 ct dC) (a:=a0) (c:=dC) (i:=i) (m:=(min (jM.take i).length (jM.length-i))) (l:=jM) (ys:=(jM.take i)) (l':=Rb) (bj:=(bB x jw jx n jM i ct a0 dC)) jH rfl tJ au au kn O' yS (ep hp2 11) U U (congrArg (λz=>Value.slice a0 z dC) (show ct.length=jM.length by omega)) rfl (congrArg (λz=>Value.slice (la a0 dC i 1) z (dC-i)) (show (ct.length-i)=jM.length-i by omega)) (WE U U (((qW.arr 1 rfl).arr kn).take (show i<=ct.length by omega)) kn) (by apply List.ne_nil_of_length_pos;(simp only [List.length_take];omega)) aj (qW.arr 1 rfl) (λ_=>rfl) (λ_=>fq) ?_;intro ng vB Hj dz w ah;have ic:=qW.lV 1 rfl (Bo vB Hj);replace ic:=ic.GY;letI:=b4 ah;refine dO (dP je) fI [] (ae ko aO) aP ?_ ah;exact tu ⟨ng,Rb,i+(min (jM.take i).length (jM.length-i))⟩ rE fq (by exact⟨ic,by have Rc:(jM.take i).length=i:=(by rw[List.length_take];omega);exact⟨by rw[Rc];omega,by rw[jH,bf.2.2.1];exact akf B5,aj,aj⟩⟩) (by have Rc:(jM.take i).length=i:=(by rw[List.length_take];omega);show n-(i+min _ _)<n-i;rw[Rc];omega)
  ·refine bx hG [] (ae (eM ((qW.arr 1 rfl).arr kn) mj) (ae aS aO)) aP ?_ ah
   refine n' [] [] aO aP ?_;exact bR B_ λw2 bm=>(by have lv:i=n:=aj;have hL:jM=List.replicate n true:=(by rw[bf.2.2.1,lv,ZJ]);rw[<-hL,<-e_];exact⟨(_,_),rfl,((qW.pick [0,1] rfl).done bm)⟩)
end ZL
end AE
namespace AE
def rF (c:Int):Prop:=0<=c/\c<256
instance (c:Int):Decidable (rF c):=by unfold rF;infer_instance
def qn:List Int->Int
 |[]=> -1
 |c::r=>if rF c then (if qn r<0 then -1 else qn r+1) else 0
theorem ZM:∀{l:List Int},(∀c∈l,rF c)->qn l= -1
 |[],_=>rfl
 |c::r,h=>by
  unfold qn;rw[aY (h c (by simp)),ZM λd bc=>h d (by simp [bc]),aY cB]
theorem Rd:∀{l:List Int} {i:Nat},i<l.length->(∀c∈l.take i,rF c)->¬rF (l.getD i default)->qn l=i
 |[],i,h,_,_=>by simp at h
 |c::r,0,_,_,h=>by
  unfold qn;rw[a' (show ¬rF c from h)];rfl
 |c::r,i+1,h,ad,ag=>by
  unfold qn;rw[aY (ad c (by simp)),Rd (l:=r) (i:=i) (by simpa using h) (λd bc=>ad d (by simp [bc])) ag,a' aj];omega
theorem aki {l:List Int} {i:Nat} (h:∀c∈l.take i,rF c) (ai:i<l.length) (ad:0<=l.getD i default) (ag:l.getD i default<256):∀c∈l.take (i+1),rF c:=by
 have:l.take (i+1)=l.take i++[l.getD i default]:=by
  rw[List.take_add_one,dp,f_ ai];rfl
 rw[this];intro c ar;rcases List.mem_append.1 ar with ar|ar
 ·exact h c ar
 ·rw[List.mem_singleton.1 ar]
  exact⟨ad,ag⟩
theorem akj {l:List Int} {i:Nat} (h:∀c∈l.take i,rF c) (ai:l.length<=i):∀c∈l,rF c:=by
 rwa [List.take_of_length_le ai] at h
def Re:bT:=(0,0,0,0,0,0)
def wg (b:bT) (cells:List Int):Prop:=okB b/\(iX b\/b=Re)/\ft b<=2097152/\ft b=cells.length/\qn cells<0
instance (b:bT) (cells:List Int):Decidable (wg b cells):=by unfold wg;infer_instance
end AE
namespace AE
namespace Rf
noncomputable def body:Code:=(Tryd.f71.body).getD .skip
def N:Nat:=34
noncomputable abbrev bz:=fj Tryd.prog Tryd.f71
def aN:b6:={sl:=b1 [(0,.agg ⟨[0,1,2,3,4,5]⟩)],ms:=[],A:=start}
def cb:bd:=[(.bin .lss 3 0 (I (-1048575)),.bool true)]
theorem e0:bz (tt 34 cb [] 7 (at' 34 [] [] body aN))=some (.bool false):=au
def dk:bd:=[(.bin .lss 3 0 (I (-1048575)),.bool false),
 (.bin .gtr 3 0 (I 1048575),.bool true)]
theorem e1:bz (tt 34 dk [] 7 (at' 34 [] [] body aN))=some (.bool false):=au
def eg:bd:=[(.bin .lss 3 0 (I (-1048575)),.bool false),
 (.bin .gtr 3 0 (I 1048575),.bool false),
 (.bin .lss 3 1 (I (-1048575)),.bool true)]
theorem e2:bz (tt 34 eg [] 7 (at' 34 [] [] body aN))=some (.bool false):=au
def fI:bd:=[(.bin .lss 3 0 (I (-1048575)),.bool false),
 (.bin .gtr 3 0 (I 1048575),.bool false),
 (.bin .lss 3 1 (I (-1048575)),.bool false),
 (.bin .gtr 3 1 (I 1048575),.bool true)]
theorem e3:bz (tt 34 fI [] 7 (at' 34 [] [] body aN))=some (.bool false):=au
def hG:bd:=[(.bin .lss 3 0 (I (-1048575)),.bool false),
 (.bin .gtr 3 0 (I 1048575),.bool false),
 (.bin .lss 3 1 (I (-1048575)),.bool false),
 (.bin .gtr 3 1 (I 1048575),.bool false),
 (.bin .lss 3 2 (I (-1048575)),.bool true)]
theorem hA:bz (tt 34 hG [] 7 (at' 34 [] [] body aN))=some (.bool false):=au
def ll:bd:=[(.bin .lss 3 0 (I (-1048575)),.bool false),
 (.bin .gtr 3 0 (I 1048575),.bool false),
 (.bin .lss 3 1 (I (-1048575)),.bool false),
 (.bin .gtr 3 1 (I 1048575),.bool false),
 (.bin .lss 3 2 (I (-1048575)),.bool false),
 (.bin .gtr 3 2 (I 1048575),.bool true)]
theorem kp:bz (tt 34 ll [] 7 (at' 34 [] [] body aN))=some (.bool false):=au
def mM:bd:=[(.bin .lss 3 0 (I (-1048575)),.bool false),
 (.bin .gtr 3 0 (I 1048575),.bool false),
 (.bin .lss 3 1 (I (-1048575)),.bool false),
 (.bin .gtr 3 1 (I 1048575),.bool false),
 (.bin .lss 3 2 (I (-1048575)),.bool false),
 (.bin .gtr 3 2 (I 1048575),.bool false),
 (.bin .lss 3 3 (I (-1048575)),.bool true)]
theorem h2:bz (tt 34 mM [] 7 (at' 34 [] [] body aN))=some (.bool false):=au
def pK:bd:=[(.bin .lss 3 0 (I (-1048575)),.bool false),
 (.bin .gtr 3 0 (I 1048575),.bool false),
 (.bin .lss 3 1 (I (-1048575)),.bool false),
 (.bin .gtr 3 1 (I 1048575),.bool false),
 (.bin .lss 3 2 (I (-1048575)),.bool false),
 (.bin .gtr 3 2 (I 1048575),.bool false),
 (.bin .lss 3 3 (I (-1048575)),.bool false),
 (.bin .gtr 3 3 (I 1048575),.bool true)]
theorem jJ:bz (tt 34 pK [] 7 (at' 34 [] [] body aN))=some (.bool false):=au
def sC:bd:=[(.bin .lss 3 0 (I (-1048575)),.bool false),
 (.bin .gtr 3 0 (I 1048575),.bool false),
 (.bin .lss 3 1 (I (-1048575)),.bool false),
 (.bin .gtr 3 1 (I 1048575),.bool false),
 (.bin .lss 3 2 (I (-1048575)),.bool false),
 (.bin .gtr 3 2 (I 1048575),.bool false),
 (.bin .lss 3 3 (I (-1048575)),.bool false),
 (.bin .gtr 3 3 (I 1048575),.bool false),
 (.bin .lss 3 4 (I (-1048575)),.bool true)]
theorem mB:bz (tt 34 sC [] 7 (at' 34 [] [] body aN))=some (.bool false):=au
def sD:bd:=[(.bin .lss 3 0 (I (-1048575)),.bool false),
 (.bin .gtr 3 0 (I 1048575),.bool false),
 (.bin .lss 3 1 (I (-1048575)),.bool false),
 (.bin .gtr 3 1 (I 1048575),.bool false),
 (.bin .lss 3 2 (I (-1048575)),.bool false),
 (.bin .gtr 3 2 (I 1048575),.bool false),
 (.bin .lss 3 3 (I (-1048575)),.bool false),
 (.bin .gtr 3 3 (I 1048575),.bool false),
 (.bin .lss 3 4 (I (-1048575)),.bool false),
 (.bin .gtr 3 4 (I 1048575),.bool true)]
theorem e9:bz (tt 34 sD [] 7 (at' 34 [] [] body aN))=some (.bool false):=au
def uU:bd:=[(.bin .lss 3 0 (I (-1048575)),.bool false),
 (.bin .gtr 3 0 (I 1048575),.bool false),
 (.bin .lss 3 1 (I (-1048575)),.bool false),
 (.bin .gtr 3 1 (I 1048575),.bool false),
 (.bin .lss 3 2 (I (-1048575)),.bool false),
 (.bin .gtr 3 2 (I 1048575),.bool false),
 (.bin .lss 3 3 (I (-1048575)),.bool false),
 (.bin .gtr 3 3 (I 1048575),.bool false),
 (.bin .lss 3 4 (I (-1048575)),.bool false),
 (.bin .gtr 3 4 (I 1048575),.bool false),
 (.bin .lss 3 5 (I (-1048575)),.bool true)]
theorem n_:bz (tt 34 uU [] 7 (at' 34 [] [] body aN))=some (.bool false):=au
def uV:bd:=[(.bin .lss 3 0 (I (-1048575)),.bool false),
 (.bin .gtr 3 0 (I 1048575),.bool false),
 (.bin .lss 3 1 (I (-1048575)),.bool false),
 (.bin .gtr 3 1 (I 1048575),.bool false),
 (.bin .lss 3 2 (I (-1048575)),.bool false),
 (.bin .gtr 3 2 (I 1048575),.bool false),
 (.bin .lss 3 3 (I (-1048575)),.bool false),
 (.bin .gtr 3 3 (I 1048575),.bool false),
 (.bin .lss 3 4 (I (-1048575)),.bool false),
 (.bin .gtr 3 4 (I 1048575),.bool false),
 (.bin .lss 3 5 (I (-1048575)),.bool false),
 (.bin .gtr 3 5 (I 1048575),.bool true)]
theorem nu:bz (tt 34 uV [] 7 (at' 34 [] [] body aN))=some (.bool false):=au
def wh:bd:=[(.bin .lss 3 0 (I (-1048575)),.bool false),
 (.bin .gtr 3 0 (I 1048575),.bool false),
 (.bin .lss 3 1 (I (-1048575)),.bool false),
 (.bin .gtr 3 1 (I 1048575),.bool false),
 (.bin .lss 3 2 (I (-1048575)),.bool false),
 (.bin .gtr 3 2 (I 1048575),.bool false),
 (.bin .lss 3 3 (I (-1048575)),.bool false),
 (.bin .gtr 3 3 (I 1048575),.bool false),
 (.bin .lss 3 4 (I (-1048575)),.bool false),
 (.bin .gtr 3 4 (I 1048575),.bool false),
 (.bin .lss 3 5 (I (-1048575)),.bool false),
 (.bin .gtr 3 5 (I 1048575),.bool false)]
theorem kR:bz (tt 34 wh [] 7 (at' 34 [] [] body aN))=some (.bool true):=au
@[reducible] noncomputable def bB (b:bT):List J:=[I b.1,I b.2.1,I b.2.2.1,I b.2.2.2.1,I b.2.2.2.2.1,I b.2.2.2.2.2]
theorem any (W:ax) (b:bT):Calls Tryd.prog 71 #[X.val b] W λe w'=>e= .returned (.bool (decide (okB b)))/\cg W.heap.size W w':=by
 refine jE (bB b) body aN N [.agg ⟨[ak 0,ak 1,ak 2,ak 3,ak 4,ak 5]⟩] Tryd.func71 λa ah=> ?_
 letI:=b4 ah;refine bx [] [] aO aP ?_ ah;by_cases h0:b.1<(-1048575)
 ·refine s_ (m:=7) (F:=cb) (T:=[]) (bn:=1000) (d:=10) mixed (ae a8 aO) aP ?_
  exact bR e0 λw2 bm=>(by (rw[cx (show ¬okB b from by unfold okB;omega)];rfl))
 ·by_cases ad:1048575<b.1
  ·refine s_ (m:=7) (F:=dk) (T:=[]) (bn:=1000) (d:=10) mixed (ae aS (ae a8 aO)) aP ?_
   exact bR e1 λw2 bm=>(by (rw[cx (show ¬okB b from by unfold okB;omega)];rfl))
  ·by_cases ag:b.2.1<(-1048575)
   ·refine s_ (m:=7) (F:=eg) (T:=[]) (bn:=1000) (d:=10) mixed (ae aS (ae aS (ae a8 aO))) aP ?_
    exact bR e2 λw2 bm=>(by (rw[cx (show ¬okB b from by unfold okB;omega)];rfl))
   ·by_cases ay:1048575<b.2.1
    ·refine s_ (m:=7) (F:=fI) (T:=[]) (bn:=1000) (d:=10) mixed (ae aS (ae aS (ae aS (ae a8 aO)))) aP ?_
     exact bR e3 λw2 bm=>(by (rw[cx (show ¬okB b from by unfold okB;omega)];rfl))
    ·by_cases bG:b.2.2.1<(-1048575)
     ·refine s_ (m:=7) (F:=hG) (T:=[]) (bn:=1000) (d:=10) mixed (ae aS (ae aS (ae aS (ae aS (ae a8 aO))))) aP ?_
      exact bR hA λw2 bm=>(by (rw[cx (show ¬okB b from by unfold okB;omega)];rfl))
     ·by_cases cE:1048575<b.2.2.1
      ·refine s_ (m:=7) (F:=ll) (T:=[]) (bn:=1000) (d:=10) mixed (ae aS (ae aS (ae aS (ae aS (ae aS (ae a8 aO)))))) aP ?_
       exact bR kp λw2 bm=>(by (rw[cx (show ¬okB b from by unfold okB;omega)];rfl))
      ·by_cases cR:b.2.2.2.1<(-1048575)
       ·refine s_ (m:=7) (F:=mM) (T:=[]) (bn:=1000) (d:=10) mixed (ae aS (ae aS (ae aS (ae aS (ae aS (ae aS (ae a8 aO))))))) aP ?_
        exact bR h2 λw2 bm=>(by (rw[cx (show ¬okB b from by unfold okB;omega)];rfl))
       ·by_cases fS:1048575<b.2.2.2.1
        ·refine s_ (m:=7) (F:=pK) (T:=[]) (bn:=1000) (d:=10) mixed (ae aS (ae aS (ae aS (ae aS (ae aS (ae aS (ae aS (ae a8 aO)))))))) aP ?_
         exact bR jJ λw2 bm=>(by (rw[cx (show ¬okB b from by unfold okB;omega)];rfl))
        ·by_cases po:b.2.2.2.2.1<(-1048575)
         ·refine s_ (m:=7) (F:=sC) (T:=[]) (bn:=1000) (d:=10) mixed (ae aS (ae aS (ae aS (ae aS (ae aS (ae aS (ae aS (ae aS (ae a8 aO))))))))) aP ?_
          exact bR mB λw2 bm=>(by (rw[cx (show ¬okB b from by unfold okB;omega)];rfl))
         ·by_cases xF:1048575<b.2.2.2.2.1
          ·refine s_ (m:=7) (F:=sD) (T:=[]) (bn:=1000) (d:=10) mixed (ae aS (ae aS (ae aS (ae aS (ae aS (ae aS (ae aS (ae aS (ae aS (ae a8 aO)))))))))) aP ?_
           exact bR e9 λw2 bm=>(by (rw[cx (show ¬okB b from by unfold okB;omega)];rfl))
          ·by_cases Xt:b.2.2.2.2.2<(-1048575)
           ·refine s_ (m:=7) (F:=uU) (T:=[]) (bn:=1000) (d:=10) mixed (ae aS (ae aS (ae aS (ae aS (ae aS (ae aS (ae aS (ae aS (ae aS (ae aS (ae a8 aO))))))))))) aP ?_
            exact bR n_ λw2 bm=>(by (rw[cx (show ¬okB b from by unfold okB;omega)];rfl))
           ·by_cases ao5:1048575<b.2.2.2.2.2
            ·refine s_ (m:=7) (F:=uV) (T:=[]) (bn:=1000) (d:=10) mixed (ae aS (ae aS (ae aS (ae aS (ae aS (ae aS (ae aS (ae aS (ae aS (ae aS (ae aS (ae a8 aO)))))))))))) aP ?_
             exact bR nu λw2 bm=>(by (rw[cx (show ¬okB b from by unfold okB;omega)];rfl))
            ·refine s_ (m:=7) (F:=wh) (T:=[]) (bn:=1000) (d:=10) mixed (ae aS (ae aS (ae aS (ae aS (ae aS (ae aS (ae aS (ae aS (ae aS (ae aS (ae aS (ae aS aO)))))))))))) aP ?_
             exact bR kR λw2 bm=>(by (rw[eH (show okB b from by unfold okB;omega)];rfl))
end Rf
namespace ZN
noncomputable def body:Code:=(Tryd.f92.body).getD .skip
def N:Nat:=19
noncomputable abbrev bz:=fj Tryd.prog Tryd.f92
def aN:b6:={sl:=b1 [(1,.func (.func 75) ⟨[]⟩ ⟨[]⟩),(0,0)],ms:=[],A:=start}
def bN:bd:=[(.len #[26] 3 0,1)]
def eQ:List bu:=[]
def eR:aF:=b1 [(8,2),(7,1),(1,.func (.func 75) ⟨[]⟩ ⟨[]⟩),(0,0)]
abbrev hO:=at' 19 bN [] body aN
theorem e0:pZ eR eQ hO=some [(0,0),(1,1),(I 0,2)]:=au
def e7:Code:=ta body [1,0,1,4]
def iq:List fi:=oA body [1,0,1,4] []
theorem e1:pz hO=e7:=au
theorem e2:gA hO=iq:=au
def cb:bd:=[(.bin .lss 3 2 1,.bool true),
 (.dG 26 0 2,3),
 (.bA 3 3,4),
 (.bin .geq 3 4 (I 0),.bool true),
 (.bin .lss 3 4 (I 256),.bool true),
 (.bin .add 3 2 (I 1),5)]
theorem e3:qE eR eQ (at' 19 cb [] e7 (b3 eR eQ))=some [(0,0),(1,1),(5,2)]:=au
def dk:bd:=[(.bin .lss 3 2 1,.bool true),
 (.dG 26 0 2,3),
 (.bA 3 3,4),
 (.bin .geq 3 4 (I 0),.bool true),
 (.bin .lss 3 4 (I 256),.bool false)]
theorem hA:bz (nO 19 [] [] iq (at' 19 dk [] e7 (b3 eR eQ)))=some 2:=au
def fI:bd:=[(.bin .lss 3 2 1,.bool true),
 (.dG 26 0 2,3),
 (.bA 3 3,4),
 (.bin .geq 3 4 (I 0),.bool false)]
theorem kp:bz (nO 19 [] [] iq (at' 19 fI [] e7 (b3 eR eQ)))=some 2:=au
def hG:bd:=[(.bin .lss 3 2 1,.bool false)]
theorem h2:bz (nO 19 [] [] iq (at' 19 hG [] e7 (b3 eR eQ)))=some (I (-1)):=au
@[reducible] noncomputable def bB (l:List Int) (dR:ch) (ec:Nat) (i:Nat:=0):List J:=[br dR l ec,I ((l.length:Nat):Int),I ((i:Nat):Int),hb (br dR l ec) (i*1),I (l.getD (i) default),I ((i+1:Nat):Int)]
theorem any (W:ax) {h_:J} {l:List Int} (hl:cF (aG W) 1 gf h_ l) (av:l.length<=10000000):Calls Tryd.prog 92 #[h_,.func (.func 75) #[] #[]] W λe w'=>e= .returned (I (qn l))/\cg W.heap.size W w':=by
 obtain⟨dR,ec,rfl⟩:=hl.slice;refine jE (bB l dR ec) body aN N [ak 0,.func (.func 75) ⟨[]⟩ ⟨[]⟩] Tryd.func92 λa ah=> ?_
 letI:=b4 ah;refine bx bN [] (ae (eM hl iA) aO) aP ?_ ah;refine tg (gn:=(λi=>aW (aG W) (bB l dR ec i))) (λi=>i<=l.length/\∀c∈l.take i,rF c) (λi=>l.length-i) 0 e0 fq (λ_ _ h=>h) (by exact⟨Nat.zero_le _,λc ar=>by simp at ar⟩) ?_;intro i bf dz w ah;letI:=b4 ah;refine tc e1 e2 ?_;have B5:=bf.1;by_cases sQ:((i:Nat):Int)<((l.length:Nat):Int)
 ·by_cases ih:0<=(l.getD (i) default)
  ·by_cases hz:(l.getD (i) default)<256
   ·refine bx cb [] (ae a8 (ae (nn hl iA uz) (ae (qg 0 hl (lJ i) vy) (ae a8 (ae a8 (ae ko aO)))))) aP ?_ ah
    exact tu (i+1) e3 fq (by exact⟨aj,aki bf.2 aj bK aj⟩)
   ·refine bx dk [] (ae a8 (ae (nn hl iA uz) (ae (qg 0 hl (lJ i) vy) (ae a8 (ae aS aO))))) aP ?_ ah
    refine n' [] [] aO aP ?_;exact bR hA λw2 bm=>(by (rw[Rd (i:=i) aj bf.2 (λq=>by unfold rF at q;omega)];rfl))
  ·refine bx fI [] (ae a8 (ae (nn hl iA uz) (ae (qg 0 hl (lJ i) vy) (ae aS aO)))) aP ?_ ah
   refine n' [] [] aO aP ?_;exact bR kp λw2 bm=>(by (rw[Rd (i:=i) aj bf.2 (λq=>by unfold rF at q;omega)];rfl))
 ·refine bx hG [] (ae aS aO) aP ?_ ah
  refine n' [] [] aO aP ?_;exact bR h2 λw2 bm=>(by (rw[ZM (akj bf.2 aj)];rfl))
end ZN
end AE
namespace AE
namespace ZO
noncomputable def body:Code:=(Tryd.f73.body).getD .skip
def N:Nat:=14
def aN:b6:={sl:=b1 [(0,.agg ⟨[0,1,2,3,4,5]⟩)],ms:=[],A:=start}
def bN:bd:=[(.bin .mul 3 6 7,9),
 (.bin .mul 3 9 8,10)]
def jX:dX:=[(80,[.agg ⟨[0,1,2,3,4,5]⟩],.agg ⟨[6,7,8]⟩)]
theorem e0:fj Tryd.prog Tryd.f73 (at' 14 bN jX body aN)=some 10:=au
@[reducible] noncomputable def bB (b:bT):List J:=[I b.1,I b.2.1,I b.2.2.1,I b.2.2.2.1,I b.2.2.2.2.1,I b.2.2.2.2.2,I (bM b).1,I (bM b).2.1,I (bM b).2.2,I ((bM b).1*(bM b).2.1),I (((bM b).1*(bM b).2.1)*(bM b).2.2)]
theorem any (W:ax) (b:bT) (af:okB b):Calls Tryd.prog 73 #[X.val b] W λe w'=>e= .returned (I (ft b))/\cg W.heap.size W w':=by
 refine jE (bB b) body aN N [.agg ⟨[ak 0,ak 1,ak 2,ak 3,ak 4,ak 5]⟩] Tryd.func73 λa ah=> ?_
 letI:=b4 ah;have bU:=BX af;have aC:=QE af;refine bx bN jX (ae ko (ae ko aO)) (cD (K' U U U U af) aP) ?_ ah;exact bR e0 λw2 bm=>(by rfl)
end ZO
namespace Rg
noncomputable def body:Code:=(Tryd.f72.body).getD .skip
def N:Nat:=8
noncomputable abbrev bz:=fj Tryd.prog Tryd.f72
def aN:b6:={sl:=b1 [(0,.agg ⟨[0,1,2,3,4,5]⟩)],ms:=[],A:=start}
def bN:bd:=[(.bin .geq 3 0 0,.bool true),
 (.bin .lss 3 0 3,.bool true),
 (.bin .geq 3 1 1,.bool true),
 (.bin .lss 3 1 4,.bool true),
 (.bin .geq 3 2 2,.bool true),
 (.bin .lss 3 2 5,.bool true)]
theorem e0:bz (at' 8 bN [] body aN)=some (.bool false):=au
def cb:bd:=[(.bin .geq 3 0 0,.bool true),
 (.bin .lss 3 0 3,.bool true),
 (.bin .geq 3 1 1,.bool true),
 (.bin .lss 3 1 4,.bool true),
 (.bin .geq 3 2 2,.bool true),
 (.bin .lss 3 2 5,.bool false)]
theorem e1:bz (at' 8 cb [] body aN)=some (.bool true):=au
def dk:bd:=[(.bin .geq 3 0 0,.bool true),
 (.bin .lss 3 0 3,.bool true),
 (.bin .geq 3 1 1,.bool true),
 (.bin .lss 3 1 4,.bool false)]
theorem e2:bz (at' 8 dk [] body aN)=some (.bool true):=au
def eg:bd:=[(.bin .geq 3 0 0,.bool true),
 (.bin .lss 3 0 3,.bool false)]
theorem e3:bz (at' 8 eg [] body aN)=some (.bool true):=au
@[reducible] noncomputable def bB (b:bT):List J:=[I b.1,I b.2.1,I b.2.2.1,I b.2.2.2.1,I b.2.2.2.2.1,I b.2.2.2.2.2]
theorem any (W:ax) (b:bT):Calls Tryd.prog 72 #[X.val b] W λe w'=>e= .returned (.bool (decide (¬iX b)))/\cg W.heap.size W w':=by
 refine jE (bB b) body aN N [.agg ⟨[ak 0,ak 1,ak 2,ak 3,ak 4,ak 5]⟩] Tryd.func72 λa ah=> ?_
 letI:=b4 ah;by_cases h0:b.1<b.2.2.2.1
 ·by_cases ad:b.2.1<b.2.2.2.2.1
  ·by_cases ag:b.2.2.1<b.2.2.2.2.2
   ·refine bx bN [] (ae a8 (ae a8 (ae a8 (ae a8 (ae a8 (ae a8 aO)))))) aP ?_ ah
    exact bR e0 λw2 bm=>(by (rw[cx (show ¬¬iX b from by unfold iX;omega)];rfl))
   ·refine bx cb [] (ae a8 (ae a8 (ae a8 (ae a8 (ae a8 (ae aS aO)))))) aP ?_ ah
    exact bR e1 λw2 bm=>(by (rw[eH (show ¬iX b from by unfold iX;omega)];rfl))
  ·refine bx dk [] (ae a8 (ae a8 (ae a8 (ae aS aO)))) aP ?_ ah
   exact bR e2 λw2 bm=>(by (rw[eH (show ¬iX b from by unfold iX;omega)];rfl))
 ·refine bx eg [] (ae a8 (ae aS aO)) aP ?_ ah
  exact bR e3 λw2 bm=>(by (rw[eH (show ¬iX b from by unfold iX;omega)];rfl))
end Rg
end AE
namespace AE
abbrev Rh:aK:=25
theorem akk (p q:bT):r' Tryd.prog 10000 Rh (X.val p) (X.val q)=some ((p.1==q.1&&(p.2.1==q.2.1&&(p.2.2.1==q.2.2.1&&true)))&&((p.2.2.2.1==q.2.2.2.1&&(p.2.2.2.2.1==q.2.2.2.2.1&&(p.2.2.2.2.2==q.2.2.2.2.2&&true)))&&true)):=au
theorem akl:Tryd.prog.eqGuardType Tryd.prog.depth Rh=false:=au
theorem akm (p q:bT):((p.1==q.1&&(p.2.1==q.2.1&&(p.2.2.1==q.2.2.1&&true)))&&((p.2.2.2.1==q.2.2.2.1&&(p.2.2.2.2.1==q.2.2.2.2.1&&(p.2.2.2.2.2==q.2.2.2.2.2&&true)))&&true))=decide (p=q):=by
 obtain⟨a,b,c,d,e,f⟩:=p;obtain⟨a7,b',c',oi,e',ij⟩:=q;rw[Bool.eq_iff_iff];simp [and_assoc]
section
variable [a1]
theorem Hm {x y:J} {p q:bT} (aq:aM x=true) (bE:aM y=true) (ex:aJ x=X.val p) (hK:aJ y=X.val q) {d:Bool} (bc:d= !decide (p=q)):aT Tryd.prog (.bin .neq Rh x y,.bool d):=by
 subst bc;exact aT.JB akl aq bE ex hK ((akk p q).trans (by rw[akm]))
theorem yT {x r:J} {b:bT} (hp:dL [x]=true) (ao:aM r=true) (bp:eo [x]=[X.val b]) (b9:aJ r= .bool true) (h:okB b):i_ Tryd.prog (71,[x],r):=
 kK (a:= #[X.val b]) hp ao bp b9 λw _=>(Rf.any w b).mono λe w' he=>by rw[eH h] at he;exact he
theorem akn {x r:J} {b:bT} (hp:dL [x]=true) (ao:aM r=true) (bp:eo [x]=[X.val b]) (b9:aJ r= .bool false) (h:¬okB b):i_ Tryd.prog (71,[x],r):=
 kK (a:= #[X.val b]) hp ao bp b9 λw _=>(Rf.any w b).mono λe w' he=>by rw[cx h] at he;exact he
theorem Hn {x r:J} {b:bT} (hp:dL [x]=true) (ao:aM r=true) (bp:eo [x]=[X.val b]) (b9:aJ r= .bool true) (h:¬iX b):i_ Tryd.prog (72,[x],r):=
 kK (a:= #[X.val b]) hp ao bp b9 λw _=>(Rg.any w b).mono λe w' he=>by rw[eH h] at he;exact he
theorem Ld {x r:J} {b:bT} (hp:dL [x]=true) (ao:aM r=true) (bp:eo [x]=[X.val b]) (b9:aJ r= .bool false) (h:¬¬iX b):i_ Tryd.prog (72,[x],r):=
 kK (a:= #[X.val b]) hp ao bp b9 λw _=>(Rg.any w b).mono λe w' he=>by rw[cx h] at he;exact he
theorem Ag {x r:J} {b:bT} (hp:dL [x]=true) (ao:aM r=true) (bp:eo [x]=[X.val b]) (b9:aJ r= .int .i64 (ft b)) (af:okB b):i_ Tryd.prog (73,[x],r):=
 kK (a:= #[X.val b]) hp ao bp b9 λw _=>ZO.any w b af
def Ho:J:= .func (.func 75) ⟨[]⟩ ⟨[]⟩
theorem Le {x r:J} {a:Option Addr} {n c:Nat} {l:List Int} (hp:dL [x,Ho]=true) (ao:aM r=true) (bp:eo [x,Ho]=[.slice a n c,Ho]) (b9:aJ r= .int .i64 (qn l)) (hl:cF a1.dq 1 gf (.slice a n c) l) (av:l.length<=10000000):i_ Tryd.prog (92,[x,Ho],r):=
 kK (a:= #[.slice a n c,Ho]) hp ao bp b9 λw hw=>ZN.any w (hl.mono hw) av
end
theorem ZP {b:bT} {cells:List Int} (h0:okB b) (ad:iX b\/b=Re) (ag:ft b<=2097152) (ay:ft b=((cells.length:Nat):Int)) (bG:¬0<=qn cells):decide (wg b cells)=true:=eH ⟨h0,ad,ag,ay,aj⟩
theorem Ah {b:bT} {cells:List Int} (h:okB b->(iX b\/b=Re)->ft b<=2097152->ft b=((cells.length:Nat):Int)->0<=qn cells):decide (wg b cells)=false:=cx λq=>by
 obtain⟨q1,aH,bW,et,gN⟩:=q;have:=h q1 aH bW et;omega
end AE
namespace AE
namespace Ri
noncomputable def body:Code:=(Tryd.f50.body).getD .skip
def N:Nat:=37
noncomputable abbrev bz:=fj Tryd.prog Tryd.f50
def aN:b6:={sl:=b1 [(0,.agg ⟨[0,1,2,3,4,5,6]⟩)],ms:=[],A:=start}
def bN:bd:=[(.bin .neq 25 (.agg ⟨[0,1,2,3,4,5]⟩) (.agg ⟨[I 0,I 0,I 0,I 0,I 0,I 0]⟩),.bool false),
 (.bin .leq 3 7 (I 2097152),.bool true),
 (.len #[26] 3 6,8),
 (.bin .eql 3 7 8,.bool true),
 (.bin .geq 3 9 (I 0),.bool true)]
def jX:dX:=[(71,[.agg ⟨[0,1,2,3,4,5]⟩],.bool true),
 (72,[.agg ⟨[ak 0,ak 1,ak 2,ak 3,ak 4,ak 5]⟩],.bool true),
 (73,[.agg ⟨[ak 0,ak 1,ak 2,ak 3,ak 4,ak 5]⟩],ak 7),
 (92,[ak 6,.func (.func 75) ⟨[]⟩ ⟨[]⟩],ak 9)]
theorem e0:bz (at' 37 bN jX body aN)=some (.bool false):=au
def cb:bd:=[(.bin .neq 25 (.agg ⟨[0,1,2,3,4,5]⟩) (.agg ⟨[I 0,I 0,I 0,I 0,I 0,I 0]⟩),.bool false),
 (.bin .leq 3 7 (I 2097152),.bool true),
 (.len #[26] 3 6,8),
 (.bin .eql 3 7 8,.bool true),
 (.bin .geq 3 9 (I 0),.bool false)]
def h':dX:=[(71,[.agg ⟨[0,1,2,3,4,5]⟩],.bool true),
 (72,[.agg ⟨[ak 0,ak 1,ak 2,ak 3,ak 4,ak 5]⟩],.bool true),
 (73,[.agg ⟨[ak 0,ak 1,ak 2,ak 3,ak 4,ak 5]⟩],ak 7),
 (92,[ak 6,.func (.func 75) ⟨[]⟩ ⟨[]⟩],ak 9)]
theorem e1:bz (at' 37 cb h' body aN)=some (.bool true):=au
def dk:bd:=[(.bin .neq 25 (.agg ⟨[0,1,2,3,4,5]⟩) (.agg ⟨[I 0,I 0,I 0,I 0,I 0,I 0]⟩),.bool false),
 (.bin .leq 3 7 (I 2097152),.bool true),
 (.len #[26] 3 6,8),
 (.bin .eql 3 7 8,.bool false)]
def oJ:dX:=[(71,[.agg ⟨[0,1,2,3,4,5]⟩],.bool true),
 (72,[.agg ⟨[ak 0,ak 1,ak 2,ak 3,ak 4,ak 5]⟩],.bool true),
 (73,[.agg ⟨[ak 0,ak 1,ak 2,ak 3,ak 4,ak 5]⟩],ak 7)]
theorem e2:bz (at' 37 dk oJ body aN)=some (.bool false):=au
def eg:bd:=[(.bin .neq 25 (.agg ⟨[0,1,2,3,4,5]⟩) (.agg ⟨[I 0,I 0,I 0,I 0,I 0,I 0]⟩),.bool false),
 (.bin .leq 3 7 (I 2097152),.bool false)]
def sE:dX:=[(71,[.agg ⟨[0,1,2,3,4,5]⟩],.bool true),
 (72,[.agg ⟨[ak 0,ak 1,ak 2,ak 3,ak 4,ak 5]⟩],.bool true),
 (73,[.agg ⟨[ak 0,ak 1,ak 2,ak 3,ak 4,ak 5]⟩],ak 7)]
theorem e3:bz (at' 37 eg sE body aN)=some (.bool false):=au
def fI:bd:=[(.bin .neq 25 (.agg ⟨[0,1,2,3,4,5]⟩) (.agg ⟨[I 0,I 0,I 0,I 0,I 0,I 0]⟩),.bool true)]
def qo:dX:=[(71,[.agg ⟨[0,1,2,3,4,5]⟩],.bool true),
 (72,[.agg ⟨[ak 0,ak 1,ak 2,ak 3,ak 4,ak 5]⟩],.bool true)]
theorem hA:bz (at' 37 fI qo body aN)=some (.bool false):=au
def hG:bd:=[(.bin .leq 3 7 (I 2097152),.bool true),
 (.len #[26] 3 6,8),
 (.bin .eql 3 7 8,.bool true),
 (.bin .geq 3 9 (I 0),.bool true)]
def Hp:dX:=[(71,[.agg ⟨[0,1,2,3,4,5]⟩],.bool true),
 (72,[.agg ⟨[ak 0,ak 1,ak 2,ak 3,ak 4,ak 5]⟩],.bool false),
 (73,[.agg ⟨[ak 0,ak 1,ak 2,ak 3,ak 4,ak 5]⟩],ak 7),
 (92,[ak 6,.func (.func 75) ⟨[]⟩ ⟨[]⟩],ak 9)]
theorem kp:bz (at' 37 hG Hp body aN)=some (.bool false):=au
def ll:bd:=[(.bin .leq 3 7 (I 2097152),.bool true),
 (.len #[26] 3 6,8),
 (.bin .eql 3 7 8,.bool true),
 (.bin .geq 3 9 (I 0),.bool false)]
def yU:dX:=[(71,[.agg ⟨[0,1,2,3,4,5]⟩],.bool true),
 (72,[.agg ⟨[ak 0,ak 1,ak 2,ak 3,ak 4,ak 5]⟩],.bool false),
 (73,[.agg ⟨[ak 0,ak 1,ak 2,ak 3,ak 4,ak 5]⟩],ak 7),
 (92,[ak 6,.func (.func 75) ⟨[]⟩ ⟨[]⟩],ak 9)]
theorem h2:bz (at' 37 ll yU body aN)=some (.bool true):=au
def mM:bd:=[(.bin .leq 3 7 (I 2097152),.bool true),
 (.len #[26] 3 6,8),
 (.bin .eql 3 7 8,.bool false)]
def Hq:dX:=[(71,[.agg ⟨[0,1,2,3,4,5]⟩],.bool true),
 (72,[.agg ⟨[ak 0,ak 1,ak 2,ak 3,ak 4,ak 5]⟩],.bool false),
 (73,[.agg ⟨[ak 0,ak 1,ak 2,ak 3,ak 4,ak 5]⟩],ak 7)]
theorem jJ:bz (at' 37 mM Hq body aN)=some (.bool false):=au
def pK:bd:=[(.bin .leq 3 7 (I 2097152),.bool false)]
def Ai:dX:=[(71,[.agg ⟨[0,1,2,3,4,5]⟩],.bool true),
 (72,[.agg ⟨[ak 0,ak 1,ak 2,ak 3,ak 4,ak 5]⟩],.bool false),
 (73,[.agg ⟨[ak 0,ak 1,ak 2,ak 3,ak 4,ak 5]⟩],ak 7)]
theorem mB:bz (at' 37 pK Ai body aN)=some (.bool false):=au
def Hr:dX:=[(71,[.agg ⟨[0,1,2,3,4,5]⟩],.bool false)]
theorem e9:bz (at' 37 [] Hr body aN)=some (.bool false):=au
@[reducible] noncomputable def bB (cells:List Int) (bP:ch) (bJ bQ:Nat) (b:bT):List J:=[I b.1,I b.2.1,I b.2.2.1,I b.2.2.2.1,I b.2.2.2.2.1,I b.2.2.2.2.2,.slice bP bJ bQ,I (ft b),I ((cells.length:Nat):Int),I (qn cells)]
theorem any (W:ax) {b:bT} {bP:ch} {bJ bQ:Nat} {cells:List Int} (hX:cF (aG W) 1 gf (.slice bP bJ bQ) cells) (av:cells.length<=10000000) (iz:bJ=cells.length):Calls Tryd.prog 50 #[.agg ⟨[I b.1,I b.2.1,I b.2.2.1,I b.2.2.2.1,I b.2.2.2.2.1,I b.2.2.2.2.2,.slice bP bJ bQ]⟩] W λe w'=>e= .returned (.bool (decide (wg b cells)))/\cg W.heap.size W w':=by
 refine jE (bB cells bP bJ bQ b) body aN N [.agg ⟨[ak 0,ak 1,ak 2,ak 3,ak 4,ak 5,ak 6]⟩] Tryd.func50 λa ah=> ?_
 letI:=b4 ah;have aI:=bI.o1 W;by_cases h0:okB b
 ·by_cases ad:¬iX b
  ·by_cases ag:b=((0,0,0,0,0,0):bT)
   ·by_cases ay:(ft b)<=2097152
    ·by_cases bG:(ft b)=((cells.length:Nat):Int)
     ·by_cases cE:0<=(qn cells)
      ·refine bx bN jX (ae (Hm U U U U (by rw[eH ag];rfl)) (ae a8 (ae (eM (hX.mono aI.ext) iA) (ae a8 (ae a8 aO))))) (cD (yT U U U U h0) (cD (Hn U U U U ad) (cD (Ag U U U U bK) (cD (Le U U U U (hX.mono aI.ext) av) aP)))) ?_ ah
       exact bR e0 λw2 bm=>(by (rw[Ah (λq1 aH bW et=>by omega)];rfl))
      ·refine bx cb h' (ae (Hm U U U U (by rw[eH ag];rfl)) (ae a8 (ae (eM (hX.mono aI.ext) iA) (ae a8 (ae aS aO))))) (cD (yT U U U U h0) (cD (Hn U U U U ad) (cD (Ag U U U U bK) (cD (Le U U U U (hX.mono aI.ext) av) aP)))) ?_ ah
       exact bR e1 λw2 bm=>(by (rw[ZP bK (by exact .inr bK) aj aj aj];rfl))
     ·refine bx dk oJ (ae (Hm U U U U (by rw[eH ag];rfl)) (ae a8 (ae (eM (hX.mono aI.ext) iA) (ae aS aO)))) (cD (yT U U U U h0) (cD (Hn U U U U ad) (cD (Ag U U U U bK) aP))) ?_ ah
      exact bR e2 λw2 bm=>(by (rw[Ah (λq1 aH bW et=>by omega)];rfl))
    ·refine bx eg sE (ae (Hm U U U U (by rw[eH ag];rfl)) (ae aS aO)) (cD (yT U U U U h0) (cD (Hn U U U U ad) (cD (Ag U U U U bK) aP))) ?_ ah
     exact bR e3 λw2 bm=>(by (rw[Ah (λq1 aH bW et=>by omega)];rfl))
   ·refine bx fI qo (ae (Hm U U U U (by rw[cx ag];rfl)) aO) (cD (yT U U U U h0) (cD (Hn U U U U ad) aP)) ?_ ah
    exact bR hA λw2 bm=>(by (rw[Ah (λq1 aH bW et=>by exact absurd (aH.resolve_left bK) bK)];rfl))
  ·by_cases ag:(ft b)<=2097152
   ·by_cases ay:(ft b)=((cells.length:Nat):Int)
    ·by_cases bG:0<=(qn cells)
     ·refine bx hG Hp (ae a8 (ae (eM (hX.mono aI.ext) iA) (ae a8 (ae a8 aO)))) (cD (yT U U U U h0) (cD (Ld U U U U ad) (cD (Ag U U U U bK) (cD (Le U U U U (hX.mono aI.ext) av) aP)))) ?_ ah
      exact bR kp λw2 bm=>(by (rw[Ah (λq1 aH bW et=>by omega)];rfl))
     ·refine bx ll yU (ae a8 (ae (eM (hX.mono aI.ext) iA) (ae a8 (ae aS aO)))) (cD (yT U U U U h0) (cD (Ld U U U U ad) (cD (Ag U U U U bK) (cD (Le U U U U (hX.mono aI.ext) av) aP)))) ?_ ah
      exact bR h2 λw2 bm=>(by (rw[ZP bK (by exact .inl (Classical.not_not.1 bK)) aj aj aj];rfl))
    ·refine bx mM Hq (ae a8 (ae (eM (hX.mono aI.ext) iA) (ae aS aO))) (cD (yT U U U U h0) (cD (Ld U U U U ad) (cD (Ag U U U U bK) aP))) ?_ ah
     exact bR jJ λw2 bm=>(by (rw[Ah (λq1 aH bW et=>by omega)];rfl))
   ·refine bx pK Ai (ae aS aO) (cD (yT U U U U h0) (cD (Ld U U U U ad) (cD (Ag U U U U bK) aP))) ?_ ah
    exact bR mB λw2 bm=>(by (rw[Ah (λq1 aH bW et=>by omega)];rfl))
 ·refine bx [] Hr aO (cD (akn U U U U h0) aP) ?_ ah
  exact bR e9 λw2 bm=>(by (rw[Ah (λq1 aH bW et=>by exact absurd q1 bK)];rfl))
end Ri
end AE
namespace AE
def Lf (r:Nat):Bool:=decide (97<=r)&&decide (r<=122)
def Ca (r:Nat):Bool:= !Lf r&& !decide (r=45)
def pj (s:fF):Prop:=(0<s.length/\s.length<=32)/\¬(((s.getD 0 0).toNat:Nat):Int)=45/\¬(((s.getD ((((s.length:Nat):Int)-1)).toNat 0).toNat:Nat):Int)=45/\Lib.idxFunc Ca true ⟨s.toArray⟩<0
instance (s:fF):Decidable (pj s):=by unfold pj;infer_instance
abbrev Rj:=fF×Bool×Bool×Bool
def ako (x:Rj):List J:=[cw x.1,.bool x.2.1,.bool x.2.2.1,.bool x.2.2.2]
abbrev K.val (x:Rj):J:= .agg ⟨ako x⟩
def l4 (x:cU):Rj:=
 if x.2.1=true then (if x.2.2.1=true then ([],false,false,false) else if x.2.2.2.1=true then ([102,97,108,108,105,110,103],true,false,true) else ([115,111,108,105,100],true,false,false))
 else if x.2.2.1=true then (if x.2.2.2.1=true then ([],false,false,false) else ([108,105,113,117,105,100],false,true,false))
 else if x.2.2.2.1=true then ([],false,false,false) else ([103,97,115],false,false,false)
section
variable {x:cU}
theorem akp (h0:¬x.2.1=true) (ad:¬x.2.2.1=true) (ag:¬x.2.2.2.1=true):l4 x=([103,97,115],false,false,false):=by unfold l4;rw[a' h0,a' ad,a' ag]
theorem akq (h0:x.2.1=true) (ad:¬x.2.2.1=true) (ag:¬x.2.2.2.1=true):l4 x=([115,111,108,105,100],true,false,false):=by unfold l4;rw[aY h0,a' ad,a' ag]
theorem akr (h0:x.2.1=true) (ad:¬x.2.2.1=true) (ag:x.2.2.2.1=true):l4 x=([102,97,108,108,105,110,103],true,false,true):=by unfold l4;rw[aY h0,a' ad,aY ag]
theorem aks (h0:¬x.2.1=true) (ad:x.2.2.1=true) (ag:¬x.2.2.2.1=true):l4 x=([108,105,113,117,105,100],false,true,false):=by unfold l4;rw[a' h0,aY ad,a' ag]
theorem akt (h0:x.2.1=true) (ad:x.2.2.1=true):l4 x=([],false,false,false):=by unfold l4;rw[aY h0,aY ad]
theorem ZQ (h0:¬x.2.1=true) (ag:x.2.2.2.1=true):l4 x=([],false,false,false):=by unfold l4;rw[a' h0];split<;>first|rfl|rw[aY ag]
end
def hH (x:cU):Prop:=pj x.1/\¬(l4 x).1=[]/\1<=x.2.2.2.2.1/\x.2.2.2.2.1<=16/\0<=x.2.2.2.2.2.1/\x.2.2.2.2.2.1<=15/\0<=x.2.2.2.2.2.2.1/\x.2.2.2.2.2.2.1<=15/\0<=x.2.2.2.2.2.2.2/\x.2.2.2.2.2.2.2<=15
instance (x:cU):Decidable (hH x):=by unfold hH;infer_instance
def Hs:cU:=([97,105,114],false,false,false,1,0,0,0)
def Cb (l:List cU) (i:Nat):List fF:=(l.take i).map (·.1)
def yV (l:List cU) (i:Nat):Prop:=¬hH (l.getD i default)\/(l.getD i default).1∈Cb l i
instance (l:List cU) (i:Nat):Decidable (yV l i):=by unfold yV;infer_instance
def mN (l:List cU):Int×Int:=
 if 256<l.length then (-1,2) else if l.length=0 then (-1,1) else if ¬l.getD 0 default=Hs then (0,1) else
 match (List.range l.length).find? (λi=>decide (yV l i)) with
 |some i=>(i,if hH (l.getD i default) then 10 else 1)
 |none=>(0,0)
section
variable {l:List cU}
theorem aku (h:256<l.length):mN l=(-1,2):=by unfold mN;rw[aY h]
theorem akv (h0:¬256<l.length) (h:l.length=0):mN l=(-1,1):=by unfold mN;rw[a' h0,aY h]
theorem akw (h0:¬256<l.length) (ad:¬l.length=0) (h:¬l.getD 0 default=Hs):mN l=(0,1):=by unfold mN;rw[a' h0,a' ad,aY h]
theorem ZR {p:Nat->Bool} {n i:Nat} (ai:i<n) (h:∀j,j<i->p j=false) (hp:p i=true):(List.range n).find? p=some i:=by
 rw[List.find?_eq_some_iff_getElem];refine⟨hp,i,by simpa using ai,by simp,λj hj=> ?_⟩;simp [h j hj]
theorem akx {i:Nat} (h0:¬256<l.length) (ad:¬l.length=0) (ha:l.getD 0 default=Hs) (ai:i<l.length) (h:∀j,j<i->¬yV l j) (af:¬hH (l.getD i default)):mN l=((i:Int),1):=by
 unfold mN;rw[a' h0,a' ad,a' (λh=>h ha),ZR ai (λj hj=>cx (h j hj)) (eH (.inl af))];simp only;rw[a' af]
theorem aky {i:Nat} (h0:¬256<l.length) (ad:¬l.length=0) (ha:l.getD 0 default=Hs) (ai:i<l.length) (h:∀j,j<i->¬yV l j) (aC:hH (l.getD i default)) (af:(l.getD i default).1∈Cb l i):mN l=((i:Int),10):=by
 unfold mN;rw[a' h0,a' ad,a' (λh=>h ha),ZR ai (λj hj=>cx (h j hj)) (eH (.inr af))];simp only;rw[aY aC]
theorem akz (h0:¬256<l.length) (ad:¬l.length=0) (ha:l.getD 0 default=Hs) (h:∀j,j<l.length->¬yV l j):mN l=(0,0):=by
 unfold mN;rw[a' h0,a' ad,a' (λh=>h ha),List.find?_eq_none.2 λj hj=>by simpa using h j (by simpa using hj)]
theorem akA {i:Nat} (aC:hH (l.getD i default)) (af:¬(l.getD i default).1∈Cb l i):¬yV l i:=λh=>h.elim (λh=>h aC) af
theorem akB {i:Nat} (ai:i<l.length):Cb l (i+1)=Cb l i++[(l.getD i default).1]:=by
 unfold Cb;rw[List.take_add_one,List.map_append,f_ ai,dp,f_ ai];rfl
end
theorem Rk:bg Tryd.prog (underlying 120)=some (.map 9 4):=au
theorem Rl:bg Tryd.prog (underlying 9)=some .string:=au
theorem akC:bg Tryd.prog (zeroValue 4)=some (.bool false):=au
theorem Rm (b:Bool) (n:fF):bg Tryd.prog (Instr.checkKey b 10000 9 (cw n))=some ():=au
end AE
end Go.Proofs.YtepcfjbfkedlpaaDoor
namespace Go.Proofs.YtepcfjbfkedlpaaDoor
open Go Go.Proofs Go.Shelf Go.RowKit Go.Lib
section
def akD:Go.Shelf.Ren:=⟨λ|15=>100|20=>106|n=>n,λ|9=>9|23=>149|3=>3|4=>4|0=>0|21=>21|n=>n,λ|n=>n⟩
theorem akE:Go.Proofs.LaysGw.n15 Tryd.prog akD:={
 mixed:=by kernel_rfl
 f15:=Tryd.func100.trans (congrArg some au)
 f20:=Tryd.func106.trans (congrArg some au)
 t0:=Tryd.underlying0
 a0:=Tryd.isAgg0
 z0:=Tryd.sizeOf0
 v0:=Tryd.zeroValue0
 i0:=by kernel_rfl
 t3:=Tryd.underlying3
 a3:=Tryd.isAgg3
 z3:=Tryd.sizeOf3
 v3:=Tryd.zeroValue3
 i3:=by kernel_rfl
 t4:=Tryd.underlying4
 a4:=Tryd.isAgg4
 z4:=Tryd.sizeOf4
 v4:=Tryd.zeroValue4
 i4:=by kernel_rfl
 t9:=Tryd.underlying9
 a9:=Tryd.isAgg9
 z9:=Tryd.sizeOf9
 v9:=Tryd.zeroValue9
 i9:=by kernel_rfl
 t21:=Tryd.underlying21
 a21:=Tryd.isAgg21
 z21:=Tryd.sizeOf21
 v21:=Tryd.zeroValue21
 i21:=by kernel_rfl
 t23:=Tryd.underlying149
 a23:=Tryd.isAgg149
 z23:=Tryd.sizeOf149
 v23:=Tryd.zeroValue149
 i23:=by kernel_rfl}
open Go.RowKit Go.Lib in
theorem strings_IndexFunc (g:Nat) (IN:Array J) (akF:∀args w,(callFunc g args).run Tryd.prog w= .ok (.enter g args) w) (p:Nat->Bool) (s:ByteArray) (w:ax) (hp:PredAt Tryd.prog g IN encR p w):
 Calls Tryd.prog 100 #[.string s,.func (.func g) #[] IN] w λe w'=>e= .returned (.int .i64 (Lib.idxFunc p true s))/\Below w.heap.size w w':=Any.strings_IndexFunc akE g IN akF p s w hp
namespace AE
theorem akG (r:Nat) (W:ax):Calls Tryd.prog 99 #[encR r] W λe w'=>e= .returned (.bool (Lf r))/\∃q,w'=W.drewN q:=by
 by_cases ad:97<=r<;>by_cases ag:r<=122
 all_goals
  have FE:(97:Int)<=(r:Int)↔97<=r:=by omega
  have z2:(r:Int)<=122↔r<=122:=by omega
  go_enter Tryd.func99,Tryd.ntmps99
  go_wp2
  all_goals first|(exfalso;omega)|(go_ret;exact⟨by simp [Lf,ad,ag],0,rfl⟩)
theorem akH (w:ax) (B off:Nat) (cT:B<w.heap.size) (ar:w.cell? ⟨B,off,none⟩=some (.func (.func 99) #[] #[])):
  PredAt Tryd.prog 101 #[.pointer (some ⟨B,off,none⟩)] encR Ca w:=λW r af=>by
 have AL:W.cell? ⟨B,off,none⟩=some (.func (.func 99) #[] #[]):=(af.cell (p:=⟨B,off,none⟩) cT).trans ar;have hL:=akG r W;unfold FnGives;cases ad:Lf r<;>by_cases z2:(r:Int)=45
 all_goals
  have ag:r=45↔(r:Int)=45:=by omega
  rw[ad] at hL
  go_enter Tryd.func101,Tryd.ntmps101
  go_wp2_with (go_at_call 99;refine hL.mono ?_;rintro e w' ⟨rfl,q,rfl⟩)
  all_goals first|(go_ret;exact⟨by simp [Ca,ad,ag,z2],q,rfl⟩)|omega
theorem ZS (g:FuncId) (u:J):aM (zu g u)=false:=by unfold zu;simp [aM,dL]
theorem ZT [a1] {x r:J} {s:fF} (hp:aM x=true) (ao:aM r=true) (ex:aJ x=cw s) (b9:aJ r= .int .i64 (Lib.idxFunc Ca true ⟨s.toArray⟩)):
  A5 Tryd.prog (100,[x,zu 101 (.func (.func 99) ⟨[]⟩ ⟨[]⟩)],r):=by
 intro w _ us ha
 match us,ha with
 |[dZ,a2],⟨ad,ag,_⟩=>
  have e1:dZ=cw s:=by
   rcases ad with ⟨_,h⟩|⟨g,u,B,off,h,_⟩
   ·rw[h,ex]
   ·rw[h,ZS] at hp;cases hp
  rcases ag with ⟨h,_⟩|⟨g,u,B,off,h,_,e2,cT,ar⟩
  ·rw[ZS] at h;cases h
  ·unfold zu at h
   simp only [Value.func.injEq,Fn.func.injEq,Array.mk.injEq,List.cons.injEq,Value.agg.injEq,and_true,true_and] at h;obtain⟨rfl,rfl⟩:=h;subst e1 e2;refine(strings_IndexFunc 101 #[.pointer (some ⟨B,off,none⟩)] (enters_of Tryd.func101 au rfl) Ca ⟨s.toArray⟩ w (akH w B off cT ar)).mono λe w' ⟨he,af⟩=> ?_
   exact⟨_,he,λφ=>by rw[<-b9];exact aD.vh φ r ao,⟨af,cj _⟩⟩
 |[],h=>exact h.elim
 |[_],h=>exact h.2.elim
 |_::_::_::_,h=>exact h.2.2.elim
end AE
end
end Go.Proofs.YtepcfjbfkedlpaaDoor
namespace Go.Proofs.YtepcfjbfkedlpaaDoor
open Go Go.Proofs Go.RowKit
namespace AE
namespace Rn
noncomputable def body:Code:=(Tryd.f90.body).getD .skip
def N:Nat:=31
noncomputable abbrev bz:=fj Tryd.prog Tryd.f90
def aN:b6:={sl:=b1 [(0,0)],ms:=[],A:=start}
def bN:bd:=[(.len #[9] 3 0,1),
 (.bin .gtr 3 1 (I 0),.bool true),
 (.bin .leq 3 1 (I 32),.bool true),
 (.fX 9 0 (I 0),2),
 (.bin .neq 5 2 (.int .u8 45),.bool false)]
theorem e0:bz (at' 31 bN [] body aN)=some (.bool false):=au
def cb:bd:=[(.len #[9] 3 0,1),
 (.bin .gtr 3 1 (I 0),.bool true),
 (.bin .leq 3 1 (I 32),.bool true),
 (.fX 9 0 (I 0),2),
 (.bin .neq 5 2 (.int .u8 45),.bool true),
 (.bin .sub 3 1 (I 1),3),
 (.fX 9 0 3,4),
 (.bin .neq 5 4 (.int .u8 45),.bool false)]
theorem e1:bz (at' 31 cb [] body aN)=some (.bool false):=au
def dk:bd:=[(.len #[9] 3 0,1),
 (.bin .gtr 3 1 (I 0),.bool true),
 (.bin .leq 3 1 (I 32),.bool true),
 (.fX 9 0 (I 0),2),
 (.bin .neq 5 2 (.int .u8 45),.bool true),
 (.bin .sub 3 1 (I 1),3),
 (.fX 9 0 3,4),
 (.bin .neq 5 4 (.int .u8 45),.bool true),
 (.bin .lss 3 5 (I 0),.bool true)]
def oJ:dX:=[(100,[0,.func (.func 101) ⟨[]⟩ ⟨[.agg ⟨[.slice none 7 7,.func (.func 99) ⟨[]⟩ ⟨[]⟩]⟩]⟩],5)]
theorem e2:bz (at' 31 dk oJ body aN)=some (.bool true):=au
def eg:bd:=[(.len #[9] 3 0,1),
 (.bin .gtr 3 1 (I 0),.bool true),
 (.bin .leq 3 1 (I 32),.bool true),
 (.fX 9 0 (I 0),2),
 (.bin .neq 5 2 (.int .u8 45),.bool true),
 (.bin .sub 3 1 (I 1),3),
 (.fX 9 0 3,4),
 (.bin .neq 5 4 (.int .u8 45),.bool true),
 (.bin .lss 3 5 (I 0),.bool false)]
def sE:dX:=[(100,[0,.func (.func 101) ⟨[]⟩ ⟨[.agg ⟨[.slice none 7 7,.func (.func 99) ⟨[]⟩ ⟨[]⟩]⟩]⟩],5)]
theorem e3:bz (at' 31 eg sE body aN)=some (.bool false):=au
def fI:bd:=[(.len #[9] 3 0,1),
 (.bin .gtr 3 1 (I 0),.bool true),
 (.bin .leq 3 1 (I 32),.bool false)]
theorem hA:bz (at' 31 fI [] body aN)=some (.bool false):=au
def hG:bd:=[(.len #[9] 3 0,1),
 (.bin .gtr 3 1 (I 0),.bool false)]
theorem kp:bz (at' 31 hG [] body aN)=some (.bool false):=au
@[reducible] noncomputable def bB (s:fF):List J:=[cw s,I ((s.length:Nat):Int),.int .u8 (((s.getD 0 0).toNat:Nat):Int),I (((s.length:Nat):Int)-1),.int .u8 (((s.getD ((((s.length:Nat):Int)-1)).toNat 0).toNat:Nat):Int),I (Lib.idxFunc Ca true ⟨s.toArray⟩)]
theorem any (W:ax) (s:fF):Calls Tryd.prog 90 #[cw s] W λe w'=>e= .returned (.bool (decide (pj s)))/\cg W.heap.size W w':=by
 refine jE (bB s) body aN N [ak 0] Tryd.func90 λa ah=> ?_
 letI:=b4 ah;by_cases h0:0<((s.length:Nat):Int)
 ·by_cases ad:((s.length:Nat):Int)<=32
  ·by_cases ag:(((s.getD 0 0).toNat:Nat):Int)=45
   ·refine bx bN [] (ae (aT.zF U U rk U U) (ae a8 (ae a8 (ae (aT.Bc (l:=s) (j:=0) (show 0<s.length by omega) U U U rk U U U) (ae sx aO))))) aP ?_ ah
    exact bR e0 λw2 bm=>(by (rw[cx (λh:pj s=>by have ad:=h.1;have ag:=h.2.1;have ay:=h.2.2.1;have bG:=h.2.2.2;omega)];rfl))
   ·by_cases ay:(((s.getD ((((s.length:Nat):Int)-1)).toNat 0).toNat:Nat):Int)=45
    ·refine bx cb [] (ae (aT.zF U U rk U U) (ae a8 (ae a8 (ae (aT.Bc (l:=s) (j:=0) (show 0<s.length by omega) U U U rk U U U) (ae tv (ae ko (ae (aT.Bc (l:=s) (j:=((((s.length:Nat):Int)-1)).toNat) (show ((((s.length:Nat):Int)-1)).toNat<s.length by omega) U U U rk rfl (FA aj) rfl) (ae sx aO)))))))) aP ?_ ah
     exact bR e1 λw2 bm=>(by (rw[cx (λh:pj s=>by have ad:=h.1;have ag:=h.2.1;have ay:=h.2.2.1;have bG:=h.2.2.2;omega)];rfl))
    ·by_cases bG:(Lib.idxFunc Ca true ⟨s.toArray⟩)<0
     ·refine bx dk oJ (ae (aT.zF U U rk U U) (ae a8 (ae a8 (ae (aT.Bc (l:=s) (j:=0) (show 0<s.length by omega) U U U rk U U U) (ae tv (ae ko (ae (aT.Bc (l:=s) (j:=((((s.length:Nat):Int)-1)).toNat) (show ((((s.length:Nat):Int)-1)).toNat<s.length by omega) U U U rk rfl (FA aj) rfl) (ae tv (ae a8 aO))))))))) (N0 (ZT U U U U) aP) ?_ ah
      exact bR e2 λw2 bm=>(by (rw[eH (show pj s from ⟨⟨aj,aj⟩,bK,bK,bK⟩)];rfl))
     ·refine bx eg sE (ae (aT.zF U U rk U U) (ae a8 (ae a8 (ae (aT.Bc (l:=s) (j:=0) (show 0<s.length by omega) U U U rk U U U) (ae tv (ae ko (ae (aT.Bc (l:=s) (j:=((((s.length:Nat):Int)-1)).toNat) (show ((((s.length:Nat):Int)-1)).toNat<s.length by omega) U U U rk rfl (FA aj) rfl) (ae tv (ae aS aO))))))))) (N0 (ZT U U U U) aP) ?_ ah
      exact bR e3 λw2 bm=>(by (rw[cx (λh:pj s=>by have ad:=h.1;have ag:=h.2.1;have ay:=h.2.2.1;have bG:=h.2.2.2;omega)];rfl))
  ·refine bx fI [] (ae (aT.zF U U rk U U) (ae a8 (ae aS aO))) aP ?_ ah
   exact bR hA λw2 bm=>(by (rw[cx (λh:pj s=>by have ad:=h.1;have ag:=h.2.1;have ay:=h.2.2.1;have bG:=h.2.2.2;omega)];rfl))
 ·refine bx hG [] (ae (aT.zF U U rk U U) (ae aS aO)) aP ?_ ah
  exact bR kp λw2 bm=>(by (rw[cx (λh:pj s=>by have ad:=h.1;have ag:=h.2.1;have ay:=h.2.2.1;have bG:=h.2.2.2;omega)];rfl))
end Rn
namespace ZU
noncomputable def body:Code:=(Tryd.f91.body).getD .skip
def N:Nat:=31
noncomputable abbrev bz:=fj Tryd.prog Tryd.f91
def aN:b6:={sl:=b1 [(0,.agg ⟨[0,1,2,3,4,5,6,7]⟩)],ms:=[],A:=start}
def bN:bd:=[(.bA 151 1000000,.agg ⟨[cw [103,97,115],.bool false,.bool false,.bool false,cw [115,111,108,105,100],.bool true,.bool false,.bool false,cw [102,97,108,108,105,110,103],.bool true,.bool false,.bool true,cw [108,105,113,117,105,100],.bool false,.bool true,.bool false]⟩),
 (.bin .eql 4 (.bool false) 1,.bool false),
 (.bin .eql 4 (.bool true) 1,.bool true),
 (.bin .eql 4 (.bool false) 2,.bool false)]
theorem e0:bz (at' 31 bN [] body aN)=some (.agg ⟨[cw [],.bool false,.bool false,.bool false]⟩):=au
def cb:bd:=[(.bA 151 1000000,.agg ⟨[cw [103,97,115],.bool false,.bool false,.bool false,cw [115,111,108,105,100],.bool true,.bool false,.bool false,cw [102,97,108,108,105,110,103],.bool true,.bool false,.bool true,cw [108,105,113,117,105,100],.bool false,.bool true,.bool false]⟩),
 (.bin .eql 4 (.bool false) 1,.bool false),
 (.bin .eql 4 (.bool true) 1,.bool true),
 (.bin .eql 4 (.bool false) 2,.bool true),
 (.bin .eql 4 (.bool false) 3,.bool false),
 (.bin .eql 4 (.bool true) 3,.bool true)]
theorem e1:bz (at' 31 cb [] body aN)=some (.agg ⟨[cw [102,97,108,108,105,110,103],.bool true,.bool false,.bool true]⟩):=au
def dk:bd:=[(.bA 151 1000000,.agg ⟨[cw [103,97,115],.bool false,.bool false,.bool false,cw [115,111,108,105,100],.bool true,.bool false,.bool false,cw [102,97,108,108,105,110,103],.bool true,.bool false,.bool true,cw [108,105,113,117,105,100],.bool false,.bool true,.bool false]⟩),
 (.bin .eql 4 (.bool false) 1,.bool false),
 (.bin .eql 4 (.bool true) 1,.bool true),
 (.bin .eql 4 (.bool false) 2,.bool true),
 (.bin .eql 4 (.bool false) 3,.bool true)]
theorem e2:bz (at' 31 dk [] body aN)=some (.agg ⟨[cw [115,111,108,105,100],.bool true,.bool false,.bool false]⟩):=au
def eg:bd:=[(.bA 151 1000000,.agg ⟨[cw [103,97,115],.bool false,.bool false,.bool false,cw [115,111,108,105,100],.bool true,.bool false,.bool false,cw [102,97,108,108,105,110,103],.bool true,.bool false,.bool true,cw [108,105,113,117,105,100],.bool false,.bool true,.bool false]⟩),
 (.bin .eql 4 (.bool false) 1,.bool true),
 (.bin .eql 4 (.bool false) 2,.bool false),
 (.bin .eql 4 (.bool true) 1,.bool false),
 (.bin .eql 4 (.bool true) 2,.bool true),
 (.bin .eql 4 (.bool false) 3,.bool false)]
theorem e3:bz (at' 31 eg [] body aN)=some (.agg ⟨[cw [],.bool false,.bool false,.bool false]⟩):=au
def fI:bd:=[(.bA 151 1000000,.agg ⟨[cw [103,97,115],.bool false,.bool false,.bool false,cw [115,111,108,105,100],.bool true,.bool false,.bool false,cw [102,97,108,108,105,110,103],.bool true,.bool false,.bool true,cw [108,105,113,117,105,100],.bool false,.bool true,.bool false]⟩),
 (.bin .eql 4 (.bool false) 1,.bool true),
 (.bin .eql 4 (.bool false) 2,.bool false),
 (.bin .eql 4 (.bool true) 1,.bool false),
 (.bin .eql 4 (.bool true) 2,.bool true),
 (.bin .eql 4 (.bool false) 3,.bool true)]
theorem hA:bz (at' 31 fI [] body aN)=some (.agg ⟨[cw [108,105,113,117,105,100],.bool false,.bool true,.bool false]⟩):=au
def hG:bd:=[(.bA 151 1000000,.agg ⟨[cw [103,97,115],.bool false,.bool false,.bool false,cw [115,111,108,105,100],.bool true,.bool false,.bool false,cw [102,97,108,108,105,110,103],.bool true,.bool false,.bool true,cw [108,105,113,117,105,100],.bool false,.bool true,.bool false]⟩),
 (.bin .eql 4 (.bool false) 1,.bool true),
 (.bin .eql 4 (.bool false) 2,.bool true),
 (.bin .eql 4 (.bool false) 3,.bool false),
 (.bin .eql 4 (.bool true) 1,.bool false),
 (.bin .eql 4 (.bool true) 2,.bool false)]
theorem kp:bz (at' 31 hG [] body aN)=some (.agg ⟨[cw [],.bool false,.bool false,.bool false]⟩):=au
def ll:bd:=[(.bA 151 1000000,.agg ⟨[cw [103,97,115],.bool false,.bool false,.bool false,cw [115,111,108,105,100],.bool true,.bool false,.bool false,cw [102,97,108,108,105,110,103],.bool true,.bool false,.bool true,cw [108,105,113,117,105,100],.bool false,.bool true,.bool false]⟩),
 (.bin .eql 4 (.bool false) 1,.bool true),
 (.bin .eql 4 (.bool false) 2,.bool true),
 (.bin .eql 4 (.bool false) 3,.bool true)]
theorem h2:bz (at' 31 ll [] body aN)=some (.agg ⟨[cw [103,97,115],.bool false,.bool false,.bool false]⟩):=au
@[reducible] noncomputable def bB (x:cU):List J:=[cw x.1,.bool x.2.1,.bool x.2.2.1,.bool x.2.2.2.1,I x.2.2.2.2.1,I x.2.2.2.2.2.1,I x.2.2.2.2.2.2.1,I x.2.2.2.2.2.2.2]
theorem any (W:ax) (x:cU) (cv:mF (aG W)):Calls Tryd.prog 91 #[M.val x] W λe w'=>e= .returned (K.val (l4 x))/\cg W.heap.size W w':=by
 refine jE (bB x) body aN N [.agg ⟨[ak 0,ak 1,ak 2,ak 3,ak 4,ak 5,ak 6,ak 7]⟩] Tryd.func91 λa ah=> ?_
 letI:=b4 ah;by_cases h0:x.2.1=true
 ·by_cases ad:x.2.2.1=true
  ·refine bx bN [] (ae (Bf cv (o:=0) (n:=16) U U au au U U U U) (ae (yl U U U U cB h0) (ae (Dy U U U U U h0) (ae (yl U U U U cB ad) aO)))) aP ?_ ah
   exact bR e0 λw2 bm=>(by (rw[akt bK bK];rfl))
  ·by_cases ag:x.2.2.2.1=true
   ·refine bx cb [] (ae (Bf cv (o:=0) (n:=16) U U au au U U U U) (ae (yl U U U U cB h0) (ae (Dy U U U U U h0) (ae (vz U U U U cB ad) (ae (yl U U U U cB ag) (ae (Dy U U U U U ag) aO)))))) aP ?_ ah
    exact bR e1 λw2 bm=>(by (rw[akr bK bK bK];rfl))
   ·refine bx dk [] (ae (Bf cv (o:=0) (n:=16) U U au au U U U U) (ae (yl U U U U cB h0) (ae (Dy U U U U U h0) (ae (vz U U U U cB ad) (ae (vz U U U U cB ag) aO))))) aP ?_ ah
    exact bR e2 λw2 bm=>(by (rw[akq bK bK bK];rfl))
 ·by_cases ad:x.2.2.1=true
  ·by_cases ag:x.2.2.2.1=true
   ·refine bx eg [] (ae (Bf cv (o:=0) (n:=16) U U au au U U U U) (ae (vz U U U U cB h0) (ae (yl U U U U cB ad) (ae (JN U U U U U h0) (ae (Dy U U U U U ad) (ae (yl U U U U cB ag) aO)))))) aP ?_ ah
    exact bR e3 λw2 bm=>(by (rw[ZQ bK bK];rfl))
   ·refine bx fI [] (ae (Bf cv (o:=0) (n:=16) U U au au U U U U) (ae (vz U U U U cB h0) (ae (yl U U U U cB ad) (ae (JN U U U U U h0) (ae (Dy U U U U U ad) (ae (vz U U U U cB ag) aO)))))) aP ?_ ah
    exact bR hA λw2 bm=>(by (rw[aks bK bK bK];rfl))
  ·by_cases ag:x.2.2.2.1=true
   ·refine bx hG [] (ae (Bf cv (o:=0) (n:=16) U U au au U U U U) (ae (vz U U U U cB h0) (ae (vz U U U U cB ad) (ae (yl U U U U cB ag) (ae (JN U U U U U h0) (ae (JN U U U U U ad) aO)))))) aP ?_ ah
    exact bR kp λw2 bm=>(by (rw[ZQ bK bK];rfl))
   ·refine bx ll [] (ae (Bf cv (o:=0) (n:=16) U U au au U U U U) (ae (vz U U U U cB h0) (ae (vz U U U U cB ad) (ae (vz U U U U cB ag) aO)))) aP ?_ ah
    exact bR h2 λw2 bm=>(by (rw[akp bK bK bK];rfl))
end ZU
end AE
namespace AE
variable [a1]
theorem ln {x:J} {s:fF} (hp:dL [x]=true) (bp:eo [x]=[cw s]) (h:pj s):i_ Tryd.prog (90,[x],.bool true):=
 kK (a:= #[cw s]) hp rfl bp rfl λw _=>(Rn.any w s).mono λe w' fu=>by rw[eH h] at fu;exact fu
theorem Cc {x:J} {s:fF} (hp:dL [x]=true) (bp:eo [x]=[cw s]) (h:¬pj s):i_ Tryd.prog (90,[x],.bool false):=
 kK (a:= #[cw s]) hp rfl bp rfl λw _=>(Rn.any w s).mono λe w' fu=>by rw[cx h] at fu;exact fu
theorem lo {x r:J} {m:cU} (hp:dL [x]=true) (ao:aM r=true) (bp:eo [x]=[M.val m]) (b9:aJ r=K.val (l4 m)) (cv:mF a1.dq):i_ Tryd.prog (91,[x],r):=
 kK (a:= #[M.val m]) hp ao bp b9 λw hw=>ZU.any w m (cv.mono hw)
end AE
namespace AE
namespace Ro
noncomputable def body:Code:=(Tryd.f70.body).getD .skip
def N:Nat:=30
noncomputable abbrev bz:=fj Tryd.prog Tryd.f70
def aN:b6:={sl:=b1 [(0,.agg ⟨[0,1,2,3,4,5,6,7]⟩)],ms:=[],A:=start}
def bN:bd:=[(.bin .lss 3 5 (I 0),.bool true),
 (.bin .neq 9 8 (cw []),.bool false)]
def jX:dX:=[(90,[0],.bool true),
 (91,[.agg ⟨[ak 0,ak 1,ak 2,ak 3,ak 4,ak 5,ak 6,ak 7]⟩],.agg ⟨[ak 8,ak 9,ak 10,ak 11]⟩)]
theorem e0:bz (at' 30 bN jX body aN)=some (.bool false):=au
def cb:bd:=[(.bin .lss 3 5 (I 0),.bool true),
 (.bin .neq 9 8 (cw []),.bool true),
 (.bin .geq 3 4 (I 1),.bool true),
 (.bin .leq 3 4 (I 16),.bool true)]
def h':dX:=[(90,[0],.bool true),
 (91,[.agg ⟨[ak 0,ak 1,ak 2,ak 3,ak 4,ak 5,ak 6,ak 7]⟩],.agg ⟨[ak 8,ak 9,ak 10,ak 11]⟩)]
theorem e1:bz (at' 30 cb h' body aN)=some (.bool false):=au
def dk:bd:=[(.bin .lss 3 5 (I 0),.bool true),
 (.bin .neq 9 8 (cw []),.bool true),
 (.bin .geq 3 4 (I 1),.bool true),
 (.bin .leq 3 4 (I 16),.bool false)]
def oJ:dX:=[(90,[0],.bool true),
 (91,[.agg ⟨[ak 0,ak 1,ak 2,ak 3,ak 4,ak 5,ak 6,ak 7]⟩],.agg ⟨[ak 8,ak 9,ak 10,ak 11]⟩)]
theorem e2:bz (at' 30 dk oJ body aN)=some (.bool false):=au
def eg:bd:=[(.bin .lss 3 5 (I 0),.bool true),
 (.bin .neq 9 8 (cw []),.bool true),
 (.bin .geq 3 4 (I 1),.bool false)]
def sE:dX:=[(90,[0],.bool true),
 (91,[.agg ⟨[ak 0,ak 1,ak 2,ak 3,ak 4,ak 5,ak 6,ak 7]⟩],.agg ⟨[ak 8,ak 9,ak 10,ak 11]⟩)]
theorem e3:bz (at' 30 eg sE body aN)=some (.bool false):=au
def fI:bd:=[(.bin .lss 3 5 (I 0),.bool true)]
def qo:dX:=[(90,[0],.bool false)]
theorem hA:bz (at' 30 fI qo body aN)=some (.bool false):=au
def hG:bd:=[(.bin .lss 3 5 (I 0),.bool false),
 (.bin .gtr 3 5 (I 15),.bool true),
 (.bin .neq 9 8 (cw []),.bool false)]
def Hp:dX:=[(90,[0],.bool true),
 (91,[.agg ⟨[ak 0,ak 1,ak 2,ak 3,ak 4,ak 5,ak 6,ak 7]⟩],.agg ⟨[ak 8,ak 9,ak 10,ak 11]⟩)]
theorem kp:bz (at' 30 hG Hp body aN)=some (.bool false):=au
def ll:bd:=[(.bin .lss 3 5 (I 0),.bool false),
 (.bin .gtr 3 5 (I 15),.bool true),
 (.bin .neq 9 8 (cw []),.bool true),
 (.bin .geq 3 4 (I 1),.bool true),
 (.bin .leq 3 4 (I 16),.bool true)]
def yU:dX:=[(90,[0],.bool true),
 (91,[.agg ⟨[ak 0,ak 1,ak 2,ak 3,ak 4,ak 5,ak 6,ak 7]⟩],.agg ⟨[ak 8,ak 9,ak 10,ak 11]⟩)]
theorem h2:bz (at' 30 ll yU body aN)=some (.bool false):=au
def mM:bd:=[(.bin .lss 3 5 (I 0),.bool false),
 (.bin .gtr 3 5 (I 15),.bool true),
 (.bin .neq 9 8 (cw []),.bool true),
 (.bin .geq 3 4 (I 1),.bool true),
 (.bin .leq 3 4 (I 16),.bool false)]
def Hq:dX:=[(90,[0],.bool true),
 (91,[.agg ⟨[ak 0,ak 1,ak 2,ak 3,ak 4,ak 5,ak 6,ak 7]⟩],.agg ⟨[ak 8,ak 9,ak 10,ak 11]⟩)]
theorem jJ:bz (at' 30 mM Hq body aN)=some (.bool false):=au
def pK:bd:=[(.bin .lss 3 5 (I 0),.bool false),
 (.bin .gtr 3 5 (I 15),.bool true),
 (.bin .neq 9 8 (cw []),.bool true),
 (.bin .geq 3 4 (I 1),.bool false)]
def Ai:dX:=[(90,[0],.bool true),
 (91,[.agg ⟨[ak 0,ak 1,ak 2,ak 3,ak 4,ak 5,ak 6,ak 7]⟩],.agg ⟨[ak 8,ak 9,ak 10,ak 11]⟩)]
theorem mB:bz (at' 30 pK Ai body aN)=some (.bool false):=au
def sC:bd:=[(.bin .lss 3 5 (I 0),.bool false),
 (.bin .gtr 3 5 (I 15),.bool true)]
def Hr:dX:=[(90,[0],.bool false)]
theorem e9:bz (at' 30 sC Hr body aN)=some (.bool false):=au
def sD:bd:=[(.bin .lss 3 5 (I 0),.bool false),
 (.bin .gtr 3 5 (I 15),.bool false),
 (.bin .lss 3 6 (I 0),.bool true),
 (.bin .neq 9 8 (cw []),.bool false)]
def ZV:dX:=[(90,[0],.bool true),
 (91,[.agg ⟨[ak 0,ak 1,ak 2,ak 3,ak 4,ak 5,ak 6,ak 7]⟩],.agg ⟨[ak 8,ak 9,ak 10,ak 11]⟩)]
theorem n_:bz (at' 30 sD ZV body aN)=some (.bool false):=au
def uU:bd:=[(.bin .lss 3 5 (I 0),.bool false),
 (.bin .gtr 3 5 (I 15),.bool false),
 (.bin .lss 3 6 (I 0),.bool true),
 (.bin .neq 9 8 (cw []),.bool true),
 (.bin .geq 3 4 (I 1),.bool true),
 (.bin .leq 3 4 (I 16),.bool true)]
def ZW:dX:=[(90,[0],.bool true),
 (91,[.agg ⟨[ak 0,ak 1,ak 2,ak 3,ak 4,ak 5,ak 6,ak 7]⟩],.agg ⟨[ak 8,ak 9,ak 10,ak 11]⟩)]
theorem nu:bz (at' 30 uU ZW body aN)=some (.bool false):=au
def uV:bd:=[(.bin .lss 3 5 (I 0),.bool false),
 (.bin .gtr 3 5 (I 15),.bool false),
 (.bin .lss 3 6 (I 0),.bool true),
 (.bin .neq 9 8 (cw []),.bool true),
 (.bin .geq 3 4 (I 1),.bool true),
 (.bin .leq 3 4 (I 16),.bool false)]
def ZX:dX:=[(90,[0],.bool true),
 (91,[.agg ⟨[ak 0,ak 1,ak 2,ak 3,ak 4,ak 5,ak 6,ak 7]⟩],.agg ⟨[ak 8,ak 9,ak 10,ak 11]⟩)]
theorem kR:bz (at' 30 uV ZX body aN)=some (.bool false):=au
def wh:bd:=[(.bin .lss 3 5 (I 0),.bool false),
 (.bin .gtr 3 5 (I 15),.bool false),
 (.bin .lss 3 6 (I 0),.bool true),
 (.bin .neq 9 8 (cw []),.bool true),
 (.bin .geq 3 4 (I 1),.bool false)]
def ZY:dX:=[(90,[0],.bool true),
 (91,[.agg ⟨[ak 0,ak 1,ak 2,ak 3,ak 4,ak 5,ak 6,ak 7]⟩],.agg ⟨[ak 8,ak 9,ak 10,ak 11]⟩)]
theorem ql:bz (at' 30 wh ZY body aN)=some (.bool false):=au
def Aj:bd:=[(.bin .lss 3 5 (I 0),.bool false),
 (.bin .gtr 3 5 (I 15),.bool false),
 (.bin .lss 3 6 (I 0),.bool true)]
def ZZ:dX:=[(90,[0],.bool false)]
theorem yR:bz (at' 30 Aj ZZ body aN)=some (.bool false):=au
def Ak:bd:=[(.bin .lss 3 5 (I 0),.bool false),
 (.bin .gtr 3 5 (I 15),.bool false),
 (.bin .lss 3 6 (I 0),.bool false),
 (.bin .gtr 3 6 (I 15),.bool true),
 (.bin .neq 9 8 (cw []),.bool false)]
def Ht:dX:=[(90,[0],.bool true),
 (91,[.agg ⟨[ak 0,ak 1,ak 2,ak 3,ak 4,ak 5,ak 6,ak 7]⟩],.agg ⟨[ak 8,ak 9,ak 10,ak 11]⟩)]
theorem tJ:bz (at' 30 Ak Ht body aN)=some (.bool false):=au
def Hu:bd:=[(.bin .lss 3 5 (I 0),.bool false),
 (.bin .gtr 3 5 (I 15),.bool false),
 (.bin .lss 3 6 (I 0),.bool false),
 (.bin .gtr 3 6 (I 15),.bool true),
 (.bin .neq 9 8 (cw []),.bool true),
 (.bin .geq 3 4 (I 1),.bool true),
 (.bin .leq 3 4 (I 16),.bool true)]
def Z0:dX:=[(90,[0],.bool true),
 (91,[.agg ⟨[ak 0,ak 1,ak 2,ak 3,ak 4,ak 5,ak 6,ak 7]⟩],.agg ⟨[ak 8,ak 9,ak 10,ak 11]⟩)]
theorem yS:bz (at' 30 Hu Z0 body aN)=some (.bool false):=au
def Hv:bd:=[(.bin .lss 3 5 (I 0),.bool false),
 (.bin .gtr 3 5 (I 15),.bool false),
 (.bin .lss 3 6 (I 0),.bool false),
 (.bin .gtr 3 6 (I 15),.bool true),
 (.bin .neq 9 8 (cw []),.bool true),
 (.bin .geq 3 4 (I 1),.bool true),
 (.bin .leq 3 4 (I 16),.bool false)]
def Z1:dX:=[(90,[0],.bool true),
 (91,[.agg ⟨[ak 0,ak 1,ak 2,ak 3,ak 4,ak 5,ak 6,ak 7]⟩],.agg ⟨[ak 8,ak 9,ak 10,ak 11]⟩)]
theorem Cd:bz (at' 30 Hv Z1 body aN)=some (.bool false):=au
def Hw:bd:=[(.bin .lss 3 5 (I 0),.bool false),
 (.bin .gtr 3 5 (I 15),.bool false),
 (.bin .lss 3 6 (I 0),.bool false),
 (.bin .gtr 3 6 (I 15),.bool true),
 (.bin .neq 9 8 (cw []),.bool true),
 (.bin .geq 3 4 (I 1),.bool false)]
def Z2:dX:=[(90,[0],.bool true),
 (91,[.agg ⟨[ak 0,ak 1,ak 2,ak 3,ak 4,ak 5,ak 6,ak 7]⟩],.agg ⟨[ak 8,ak 9,ak 10,ak 11]⟩)]
theorem tC:bz (at' 30 Hw Z2 body aN)=some (.bool false):=au
def Hx:bd:=[(.bin .lss 3 5 (I 0),.bool false),
 (.bin .gtr 3 5 (I 15),.bool false),
 (.bin .lss 3 6 (I 0),.bool false),
 (.bin .gtr 3 6 (I 15),.bool true)]
def Z3:dX:=[(90,[0],.bool false)]
theorem yW:bz (at' 30 Hx Z3 body aN)=some (.bool false):=au
def Hy:bd:=[(.bin .lss 3 5 (I 0),.bool false),
 (.bin .gtr 3 5 (I 15),.bool false),
 (.bin .lss 3 6 (I 0),.bool false),
 (.bin .gtr 3 6 (I 15),.bool false),
 (.bin .lss 3 7 (I 0),.bool true),
 (.bin .neq 9 8 (cw []),.bool false)]
def Z4:dX:=[(90,[0],.bool true),
 (91,[.agg ⟨[ak 0,ak 1,ak 2,ak 3,ak 4,ak 5,ak 6,ak 7]⟩],.agg ⟨[ak 8,ak 9,ak 10,ak 11]⟩)]
theorem tK:bz (at' 30 Hy Z4 body aN)=some (.bool false):=au
def Hz:bd:=[(.bin .lss 3 5 (I 0),.bool false),
 (.bin .gtr 3 5 (I 15),.bool false),
 (.bin .lss 3 6 (I 0),.bool false),
 (.bin .gtr 3 6 (I 15),.bool false),
 (.bin .lss 3 7 (I 0),.bool true),
 (.bin .neq 9 8 (cw []),.bool true),
 (.bin .geq 3 4 (I 1),.bool true),
 (.bin .leq 3 4 (I 16),.bool true)]
def Z5:dX:=[(90,[0],.bool true),
 (91,[.agg ⟨[ak 0,ak 1,ak 2,ak 3,ak 4,ak 5,ak 6,ak 7]⟩],.agg ⟨[ak 8,ak 9,ak 10,ak 11]⟩)]
theorem rE:bz (at' 30 Hz Z5 body aN)=some (.bool false):=au
def HA:bd:=[(.bin .lss 3 5 (I 0),.bool false),
 (.bin .gtr 3 5 (I 15),.bool false),
 (.bin .lss 3 6 (I 0),.bool false),
 (.bin .gtr 3 6 (I 15),.bool false),
 (.bin .lss 3 7 (I 0),.bool true),
 (.bin .neq 9 8 (cw []),.bool true),
 (.bin .geq 3 4 (I 1),.bool true),
 (.bin .leq 3 4 (I 16),.bool false)]
def Z6:dX:=[(90,[0],.bool true),
 (91,[.agg ⟨[ak 0,ak 1,ak 2,ak 3,ak 4,ak 5,ak 6,ak 7]⟩],.agg ⟨[ak 8,ak 9,ak 10,ak 11]⟩)]
theorem B_:bz (at' 30 HA Z6 body aN)=some (.bool false):=au
def HB:bd:=[(.bin .lss 3 5 (I 0),.bool false),
 (.bin .gtr 3 5 (I 15),.bool false),
 (.bin .lss 3 6 (I 0),.bool false),
 (.bin .gtr 3 6 (I 15),.bool false),
 (.bin .lss 3 7 (I 0),.bool true),
 (.bin .neq 9 8 (cw []),.bool true),
 (.bin .geq 3 4 (I 1),.bool false)]
def Z7:dX:=[(90,[0],.bool true),
 (91,[.agg ⟨[ak 0,ak 1,ak 2,ak 3,ak 4,ak 5,ak 6,ak 7]⟩],.agg ⟨[ak 8,ak 9,ak 10,ak 11]⟩)]
theorem HC:bz (at' 30 HB Z7 body aN)=some (.bool false):=au
def HD:bd:=[(.bin .lss 3 5 (I 0),.bool false),
 (.bin .gtr 3 5 (I 15),.bool false),
 (.bin .lss 3 6 (I 0),.bool false),
 (.bin .gtr 3 6 (I 15),.bool false),
 (.bin .lss 3 7 (I 0),.bool true)]
def Z8:dX:=[(90,[0],.bool false)]
theorem HE:bz (at' 30 HD Z8 body aN)=some (.bool false):=au
def HF:bd:=[(.bin .lss 3 5 (I 0),.bool false),
 (.bin .gtr 3 5 (I 15),.bool false),
 (.bin .lss 3 6 (I 0),.bool false),
 (.bin .gtr 3 6 (I 15),.bool false),
 (.bin .lss 3 7 (I 0),.bool false),
 (.bin .gtr 3 7 (I 15),.bool true),
 (.bin .neq 9 8 (cw []),.bool false)]
def Z9:dX:=[(90,[0],.bool true),
 (91,[.agg ⟨[ak 0,ak 1,ak 2,ak 3,ak 4,ak 5,ak 6,ak 7]⟩],.agg ⟨[ak 8,ak 9,ak 10,ak 11]⟩)]
theorem HG:bz (at' 30 HF Z9 body aN)=some (.bool false):=au
def HH:bd:=[(.bin .lss 3 5 (I 0),.bool false),
 (.bin .gtr 3 5 (I 15),.bool false),
 (.bin .lss 3 6 (I 0),.bool false),
 (.bin .gtr 3 6 (I 15),.bool false),
 (.bin .lss 3 7 (I 0),.bool false),
 (.bin .gtr 3 7 (I 15),.bool true),
 (.bin .neq 9 8 (cw []),.bool true),
 (.bin .geq 3 4 (I 1),.bool true),
 (.bin .leq 3 4 (I 16),.bool true)]
def Z':dX:=[(90,[0],.bool true),
 (91,[.agg ⟨[ak 0,ak 1,ak 2,ak 3,ak 4,ak 5,ak 6,ak 7]⟩],.agg ⟨[ak 8,ak 9,ak 10,ak 11]⟩)]
theorem B7:bz (at' 30 HH Z' body aN)=some (.bool false):=au
def Z_:bd:=[(.bin .lss 3 5 (I 0),.bool false),
 (.bin .gtr 3 5 (I 15),.bool false),
 (.bin .lss 3 6 (I 0),.bool false),
 (.bin .gtr 3 6 (I 15),.bool false),
 (.bin .lss 3 7 (I 0),.bool false),
 (.bin .gtr 3 7 (I 15),.bool true),
 (.bin .neq 9 8 (cw []),.bool true),
 (.bin .geq 3 4 (I 1),.bool true),
 (.bin .leq 3 4 (I 16),.bool false)]
def aac:dX:=[(90,[0],.bool true),
 (91,[.agg ⟨[ak 0,ak 1,ak 2,ak 3,ak 4,ak 5,ak 6,ak 7]⟩],.agg ⟨[ak 8,ak 9,ak 10,ak 11]⟩)]
theorem Hh:bz (at' 30 Z_ aac body aN)=some (.bool false):=au
def aad:bd:=[(.bin .lss 3 5 (I 0),.bool false),
 (.bin .gtr 3 5 (I 15),.bool false),
 (.bin .lss 3 6 (I 0),.bool false),
 (.bin .gtr 3 6 (I 15),.bool false),
 (.bin .lss 3 7 (I 0),.bool false),
 (.bin .gtr 3 7 (I 15),.bool true),
 (.bin .neq 9 8 (cw []),.bool true),
 (.bin .geq 3 4 (I 1),.bool false)]
def aae:dX:=[(90,[0],.bool true),
 (91,[.agg ⟨[ak 0,ak 1,ak 2,ak 3,ak 4,ak 5,ak 6,ak 7]⟩],.agg ⟨[ak 8,ak 9,ak 10,ak 11]⟩)]
theorem Rp:bz (at' 30 aad aae body aN)=some (.bool false):=au
def aaf:bd:=[(.bin .lss 3 5 (I 0),.bool false),
 (.bin .gtr 3 5 (I 15),.bool false),
 (.bin .lss 3 6 (I 0),.bool false),
 (.bin .gtr 3 6 (I 15),.bool false),
 (.bin .lss 3 7 (I 0),.bool false),
 (.bin .gtr 3 7 (I 15),.bool true)]
def aag:dX:=[(90,[0],.bool false)]
theorem akI:bz (at' 30 aaf aag body aN)=some (.bool false):=au
def aah:bd:=[(.bin .lss 3 5 (I 0),.bool false),
 (.bin .gtr 3 5 (I 15),.bool false),
 (.bin .lss 3 6 (I 0),.bool false),
 (.bin .gtr 3 6 (I 15),.bool false),
 (.bin .lss 3 7 (I 0),.bool false),
 (.bin .gtr 3 7 (I 15),.bool false),
 (.bin .neq 9 8 (cw []),.bool false)]
def aai:dX:=[(90,[0],.bool true),
 (91,[.agg ⟨[ak 0,ak 1,ak 2,ak 3,ak 4,ak 5,ak 6,ak 7]⟩],.agg ⟨[ak 8,ak 9,ak 10,ak 11]⟩)]
theorem Rq:bz (at' 30 aah aai body aN)=some (.bool false):=au
def aaj:bd:=[(.bin .lss 3 5 (I 0),.bool false),
 (.bin .gtr 3 5 (I 15),.bool false),
 (.bin .lss 3 6 (I 0),.bool false),
 (.bin .gtr 3 6 (I 15),.bool false),
 (.bin .lss 3 7 (I 0),.bool false),
 (.bin .gtr 3 7 (I 15),.bool false),
 (.bin .neq 9 8 (cw []),.bool true),
 (.bin .geq 3 4 (I 1),.bool true),
 (.bin .leq 3 4 (I 16),.bool true)]
def aak:dX:=[(90,[0],.bool true),
 (91,[.agg ⟨[ak 0,ak 1,ak 2,ak 3,ak 4,ak 5,ak 6,ak 7]⟩],.agg ⟨[ak 8,ak 9,ak 10,ak 11]⟩)]
theorem HI:bz (at' 30 aaj aak body aN)=some (.bool true):=au
def aal:bd:=[(.bin .lss 3 5 (I 0),.bool false),
 (.bin .gtr 3 5 (I 15),.bool false),
 (.bin .lss 3 6 (I 0),.bool false),
 (.bin .gtr 3 6 (I 15),.bool false),
 (.bin .lss 3 7 (I 0),.bool false),
 (.bin .gtr 3 7 (I 15),.bool false),
 (.bin .neq 9 8 (cw []),.bool true),
 (.bin .geq 3 4 (I 1),.bool true),
 (.bin .leq 3 4 (I 16),.bool false)]
def aam:dX:=[(90,[0],.bool true),
 (91,[.agg ⟨[ak 0,ak 1,ak 2,ak 3,ak 4,ak 5,ak 6,ak 7]⟩],.agg ⟨[ak 8,ak 9,ak 10,ak 11]⟩)]
theorem B8:bz (at' 30 aal aam body aN)=some (.bool false):=au
def aan:bd:=[(.bin .lss 3 5 (I 0),.bool false),
 (.bin .gtr 3 5 (I 15),.bool false),
 (.bin .lss 3 6 (I 0),.bool false),
 (.bin .gtr 3 6 (I 15),.bool false),
 (.bin .lss 3 7 (I 0),.bool false),
 (.bin .gtr 3 7 (I 15),.bool false),
 (.bin .neq 9 8 (cw []),.bool true),
 (.bin .geq 3 4 (I 1),.bool false)]
def aao:dX:=[(90,[0],.bool true),
 (91,[.agg ⟨[ak 0,ak 1,ak 2,ak 3,ak 4,ak 5,ak 6,ak 7]⟩],.agg ⟨[ak 8,ak 9,ak 10,ak 11]⟩)]
theorem Rr:bz (at' 30 aan aao body aN)=some (.bool false):=au
def aap:bd:=[(.bin .lss 3 5 (I 0),.bool false),
 (.bin .gtr 3 5 (I 15),.bool false),
 (.bin .lss 3 6 (I 0),.bool false),
 (.bin .gtr 3 6 (I 15),.bool false),
 (.bin .lss 3 7 (I 0),.bool false),
 (.bin .gtr 3 7 (I 15),.bool false)]
def aaq:dX:=[(90,[0],.bool false)]
theorem akJ:bz (at' 30 aap aaq body aN)=some (.bool false):=au
@[reducible] noncomputable def bB (x:cU):List J:=[cw x.1,.bool x.2.1,.bool x.2.2.1,.bool x.2.2.2.1,I x.2.2.2.2.1,I x.2.2.2.2.2.1,I x.2.2.2.2.2.2.1,I x.2.2.2.2.2.2.2,cw (l4 x).1,.bool (l4 x).2.1,.bool (l4 x).2.2.1,.bool (l4 x).2.2.2]
theorem any (W:ax) (x:cU) (cv:mF (aG W)):Calls Tryd.prog 70 #[M.val x] W λe w'=>e= .returned (.bool (decide (hH x)))/\cg W.heap.size W w':=by
 refine jE (bB x) body aN N [.agg ⟨[ak 0,ak 1,ak 2,ak 3,ak 4,ak 5,ak 6,ak 7]⟩] Tryd.func70 λa ah=> ?_
 letI:=b4 ah;by_cases h0:x.2.2.2.2.2.1<0
 ·by_cases ad:pj x.1
  ·by_cases ag:(l4 x).1=([]:fF)
   ·refine bx bN jX (ae a8 (ae (aT.Bd U U U U ag) aO)) (cD (ln U U ad) (cD (lo U U U U cv) aP)) ?_ ah
    exact bR e0 λw2 bm=>(by (rw[cx (λh:hH x=>absurd h.2.1 (by exact not_not_intro bK))];rfl))
   ·by_cases ay:1<=x.2.2.2.2.1
    ·by_cases bG:x.2.2.2.2.1<=16
     ·refine bx cb h' (ae a8 (ae (aT.nY U U U U ag) (ae a8 (ae a8 aO)))) (cD (ln U U ad) (cD (lo U U U U cv) aP)) ?_ ah
      exact bR e1 λw2 bm=>(by (rw[cx (λh:hH x=>by have:=h.2.2;omega)];rfl))
     ·refine bx dk oJ (ae a8 (ae (aT.nY U U U U ag) (ae a8 (ae aS aO)))) (cD (ln U U ad) (cD (lo U U U U cv) aP)) ?_ ah
      exact bR e2 λw2 bm=>(by (rw[cx (λh:hH x=>by have:=h.2.2;omega)];rfl))
    ·refine bx eg sE (ae a8 (ae (aT.nY U U U U ag) (ae aS aO))) (cD (ln U U ad) (cD (lo U U U U cv) aP)) ?_ ah
     exact bR e3 λw2 bm=>(by (rw[cx (λh:hH x=>by have:=h.2.2;omega)];rfl))
  ·refine bx fI qo (ae a8 aO) (cD (Cc U U ad) aP) ?_ ah
   exact bR hA λw2 bm=>(by (rw[cx (λh:hH x=>absurd h.1 bK)];rfl))
 ·by_cases ad:15<x.2.2.2.2.2.1
  ·by_cases ag:pj x.1
   ·by_cases ay:(l4 x).1=([]:fF)
    ·refine bx hG Hp (ae aS (ae a8 (ae (aT.Bd U U U U ay) aO))) (cD (ln U U ag) (cD (lo U U U U cv) aP)) ?_ ah
     exact bR kp λw2 bm=>(by (rw[cx (λh:hH x=>absurd h.2.1 (by exact not_not_intro bK))];rfl))
    ·by_cases bG:1<=x.2.2.2.2.1
     ·by_cases cE:x.2.2.2.2.1<=16
      ·refine bx ll yU (ae aS (ae a8 (ae (aT.nY U U U U ay) (ae a8 (ae a8 aO))))) (cD (ln U U ag) (cD (lo U U U U cv) aP)) ?_ ah
       exact bR h2 λw2 bm=>(by (rw[cx (λh:hH x=>by have:=h.2.2;omega)];rfl))
      ·refine bx mM Hq (ae aS (ae a8 (ae (aT.nY U U U U ay) (ae a8 (ae aS aO))))) (cD (ln U U ag) (cD (lo U U U U cv) aP)) ?_ ah
       exact bR jJ λw2 bm=>(by (rw[cx (λh:hH x=>by have:=h.2.2;omega)];rfl))
     ·refine bx pK Ai (ae aS (ae a8 (ae (aT.nY U U U U ay) (ae aS aO)))) (cD (ln U U ag) (cD (lo U U U U cv) aP)) ?_ ah
      exact bR mB λw2 bm=>(by (rw[cx (λh:hH x=>by have:=h.2.2;omega)];rfl))
   ·refine bx sC Hr (ae aS (ae a8 aO)) (cD (Cc U U ag) aP) ?_ ah
    exact bR e9 λw2 bm=>(by (rw[cx (λh:hH x=>absurd h.1 bK)];rfl))
  ·by_cases ag:x.2.2.2.2.2.2.1<0
   ·by_cases ay:pj x.1
    ·by_cases bG:(l4 x).1=([]:fF)
     ·refine bx sD ZV (ae aS (ae aS (ae a8 (ae (aT.Bd U U U U bG) aO)))) (cD (ln U U ay) (cD (lo U U U U cv) aP)) ?_ ah
      exact bR n_ λw2 bm=>(by (rw[cx (λh:hH x=>absurd h.2.1 (by exact not_not_intro bK))];rfl))
     ·by_cases cE:1<=x.2.2.2.2.1
      ·by_cases cR:x.2.2.2.2.1<=16
       ·refine bx uU ZW (ae aS (ae aS (ae a8 (ae (aT.nY U U U U bG) (ae a8 (ae a8 aO)))))) (cD (ln U U ay) (cD (lo U U U U cv) aP)) ?_ ah
        exact bR nu λw2 bm=>(by (rw[cx (λh:hH x=>by have:=h.2.2;omega)];rfl))
       ·refine bx uV ZX (ae aS (ae aS (ae a8 (ae (aT.nY U U U U bG) (ae a8 (ae aS aO)))))) (cD (ln U U ay) (cD (lo U U U U cv) aP)) ?_ ah
        exact bR kR λw2 bm=>(by (rw[cx (λh:hH x=>by have:=h.2.2;omega)];rfl))
      ·refine bx wh ZY (ae aS (ae aS (ae a8 (ae (aT.nY U U U U bG) (ae aS aO))))) (cD (ln U U ay) (cD (lo U U U U cv) aP)) ?_ ah
       exact bR ql λw2 bm=>(by (rw[cx (λh:hH x=>by have:=h.2.2;omega)];rfl))
    ·refine bx Aj ZZ (ae aS (ae aS (ae a8 aO))) (cD (Cc U U ay) aP) ?_ ah
     exact bR yR λw2 bm=>(by (rw[cx (λh:hH x=>absurd h.1 bK)];rfl))
   ·by_cases ay:15<x.2.2.2.2.2.2.1
    ·by_cases bG:pj x.1
     ·by_cases cE:(l4 x).1=([]:fF)
      ·refine bx Ak Ht (ae aS (ae aS (ae aS (ae a8 (ae (aT.Bd U U U U cE) aO))))) (cD (ln U U bG) (cD (lo U U U U cv) aP)) ?_ ah
       exact bR tJ λw2 bm=>(by (rw[cx (λh:hH x=>absurd h.2.1 (by exact not_not_intro bK))];rfl))
      ·by_cases cR:1<=x.2.2.2.2.1
       ·by_cases fS:x.2.2.2.2.1<=16
        ·refine bx Hu Z0 (ae aS (ae aS (ae aS (ae a8 (ae (aT.nY U U U U cE) (ae a8 (ae a8 aO))))))) (cD (ln U U bG) (cD (lo U U U U cv) aP)) ?_ ah
         exact bR yS λw2 bm=>(by (rw[cx (λh:hH x=>by have:=h.2.2;omega)];rfl))
        ·refine bx Hv Z1 (ae aS (ae aS (ae aS (ae a8 (ae (aT.nY U U U U cE) (ae a8 (ae aS aO))))))) (cD (ln U U bG) (cD (lo U U U U cv) aP)) ?_ ah
         exact bR Cd λw2 bm=>(by (rw[cx (λh:hH x=>by have:=h.2.2;omega)];rfl))
       ·refine bx Hw Z2 (ae aS (ae aS (ae aS (ae a8 (ae (aT.nY U U U U cE) (ae aS aO)))))) (cD (ln U U bG) (cD (lo U U U U cv) aP)) ?_ ah
        exact bR tC λw2 bm=>(by (rw[cx (λh:hH x=>by have:=h.2.2;omega)];rfl))
     ·refine bx Hx Z3 (ae aS (ae aS (ae aS (ae a8 aO)))) (cD (Cc U U bG) aP) ?_ ah
      exact bR yW λw2 bm=>(by (rw[cx (λh:hH x=>absurd h.1 bK)];rfl))
    ·by_cases bG:x.2.2.2.2.2.2.2<0
     ·by_cases cE:pj x.1
      ·by_cases cR:(l4 x).1=([]:fF)
       ·refine bx Hy Z4 (ae aS (ae aS (ae aS (ae aS (ae a8 (ae (aT.Bd U U U U cR) aO)))))) (cD (ln U U cE) (cD (lo U U U U cv) aP)) ?_ ah
        exact bR tK λw2 bm=>(by (rw[cx (λh:hH x=>absurd h.2.1 (by exact not_not_intro bK))];rfl))
       ·by_cases fS:1<=x.2.2.2.2.1
        ·by_cases po:x.2.2.2.2.1<=16
         ·refine bx Hz Z5 (ae aS (ae aS (ae aS (ae aS (ae a8 (ae (aT.nY U U U U cR) (ae a8 (ae a8 aO)))))))) (cD (ln U U cE) (cD (lo U U U U cv) aP)) ?_ ah
          exact bR rE λw2 bm=>(by (rw[cx (λh:hH x=>by have:=h.2.2;omega)];rfl))
         ·refine bx HA Z6 (ae aS (ae aS (ae aS (ae aS (ae a8 (ae (aT.nY U U U U cR) (ae a8 (ae aS aO)))))))) (cD (ln U U cE) (cD (lo U U U U cv) aP)) ?_ ah
          exact bR B_ λw2 bm=>(by (rw[cx (λh:hH x=>by have:=h.2.2;omega)];rfl))
        ·refine bx HB Z7 (ae aS (ae aS (ae aS (ae aS (ae a8 (ae (aT.nY U U U U cR) (ae aS aO))))))) (cD (ln U U cE) (cD (lo U U U U cv) aP)) ?_ ah
         exact bR HC λw2 bm=>(by (rw[cx (λh:hH x=>by have:=h.2.2;omega)];rfl))
      ·refine bx HD Z8 (ae aS (ae aS (ae aS (ae aS (ae a8 aO))))) (cD (Cc U U cE) aP) ?_ ah
       exact bR HE λw2 bm=>(by (rw[cx (λh:hH x=>absurd h.1 bK)];rfl))
     ·by_cases cE:15<x.2.2.2.2.2.2.2
      ·by_cases cR:pj x.1
       ·by_cases fS:(l4 x).1=([]:fF)
        ·refine bx HF Z9 (ae aS (ae aS (ae aS (ae aS (ae aS (ae a8 (ae (aT.Bd U U U U fS) aO))))))) (cD (ln U U cR) (cD (lo U U U U cv) aP)) ?_ ah
         exact bR HG λw2 bm=>(by (rw[cx (λh:hH x=>absurd h.2.1 (by exact not_not_intro bK))];rfl))
        ·by_cases po:1<=x.2.2.2.2.1
         ·by_cases xF:x.2.2.2.2.1<=16
          ·refine bx HH Z' (ae aS (ae aS (ae aS (ae aS (ae aS (ae a8 (ae (aT.nY U U U U fS) (ae a8 (ae a8 aO))))))))) (cD (ln U U cR) (cD (lo U U U U cv) aP)) ?_ ah
           exact bR B7 λw2 bm=>(by (rw[cx (λh:hH x=>by have:=h.2.2;omega)];rfl))
          ·refine bx Z_ aac (ae aS (ae aS (ae aS (ae aS (ae aS (ae a8 (ae (aT.nY U U U U fS) (ae a8 (ae aS aO))))))))) (cD (ln U U cR) (cD (lo U U U U cv) aP)) ?_ ah
           exact bR Hh λw2 bm=>(by (rw[cx (λh:hH x=>by have:=h.2.2;omega)];rfl))
         ·refine bx aad aae (ae aS (ae aS (ae aS (ae aS (ae aS (ae a8 (ae (aT.nY U U U U fS) (ae aS aO)))))))) (cD (ln U U cR) (cD (lo U U U U cv) aP)) ?_ ah
          exact bR Rp λw2 bm=>(by (rw[cx (λh:hH x=>by have:=h.2.2;omega)];rfl))
       ·refine bx aaf aag (ae aS (ae aS (ae aS (ae aS (ae aS (ae a8 aO)))))) (cD (Cc U U cR) aP) ?_ ah
        exact bR akI λw2 bm=>(by (rw[cx (λh:hH x=>absurd h.1 bK)];rfl))
      ·by_cases cR:pj x.1
       ·by_cases fS:(l4 x).1=([]:fF)
        ·refine bx aah aai (ae aS (ae aS (ae aS (ae aS (ae aS (ae aS (ae (aT.Bd U U U U fS) aO))))))) (cD (ln U U cR) (cD (lo U U U U cv) aP)) ?_ ah
         exact bR Rq λw2 bm=>(by (rw[cx (λh:hH x=>absurd h.2.1 (by exact not_not_intro bK))];rfl))
        ·by_cases po:1<=x.2.2.2.2.1
         ·by_cases xF:x.2.2.2.2.1<=16
          ·refine bx aaj aak (ae aS (ae aS (ae aS (ae aS (ae aS (ae aS (ae (aT.nY U U U U fS) (ae a8 (ae a8 aO))))))))) (cD (ln U U cR) (cD (lo U U U U cv) aP)) ?_ ah
           exact bR HI λw2 bm=>(by (rw[eH (show hH x from ⟨bK,bK,aj,aj,aj,aj,aj,aj,aj,aj⟩)];rfl))
          ·refine bx aal aam (ae aS (ae aS (ae aS (ae aS (ae aS (ae aS (ae (aT.nY U U U U fS) (ae a8 (ae aS aO))))))))) (cD (ln U U cR) (cD (lo U U U U cv) aP)) ?_ ah
           exact bR B8 λw2 bm=>(by (rw[cx (λh:hH x=>by have:=h.2.2;omega)];rfl))
         ·refine bx aan aao (ae aS (ae aS (ae aS (ae aS (ae aS (ae aS (ae (aT.nY U U U U fS) (ae aS aO)))))))) (cD (ln U U cR) (cD (lo U U U U cv) aP)) ?_ ah
          exact bR Rr λw2 bm=>(by (rw[cx (λh:hH x=>by have:=h.2.2;omega)];rfl))
       ·refine bx aap aaq (ae aS (ae aS (ae aS (ae aS (ae aS (ae aS aO)))))) (cD (Cc U U cR) aP) ?_ ah
        exact bR akJ λw2 bm=>(by (rw[cx (λh:hH x=>absurd h.1 bK)];rfl))
end Ro
end AE
namespace AE
variable [a1]
theorem aar {x:J} {m:cU} (hp:dL [x]=true) (bp:eo [x]=[M.val m]) (cv:mF a1.dq) (h:hH m):i_ Tryd.prog (70,[x],.bool true):=
 kK (a:= #[M.val m]) hp rfl bp rfl λw hw=>(Ro.any w m (cv.mono hw)).mono λe w' fu=>by rw[eH h] at fu;exact fu
theorem akK {x:J} {m:cU} (hp:dL [x]=true) (bp:eo [x]=[M.val m]) (cv:mF a1.dq) (h:¬hH m):i_ Tryd.prog (70,[x],.bool false):=
 kK (a:= #[M.val m]) hp rfl bp rfl λw hw=>(Ro.any w m (cv.mono hw)).mono λe w' fu=>by rw[cx h] at fu;exact fu
end AE
namespace AE
namespace aas
noncomputable def body:Code:=(Tryd.f49.body).getD .skip
def N:Nat:=42
noncomputable abbrev bz:=fj Tryd.prog Tryd.f49
def aN:b6:={sl:=b1 [(0,0)],ms:=[],A:=start}
def bN:bd:=[(.d' (.bool true),.bool true),
 (.len #[29] 3 0,1),
 (.bin .gtr 3 1 (I 256),.bool true)]
theorem e0:bz (at' 42 bN [] body aN)=some (.tuple ⟨[I (-1),I 2]⟩):=au
def cb:bd:=[(.d' (.bool true),.bool true),
 (.len #[29] 3 0,1),
 (.bin .gtr 3 1 (I 256),.bool false),
 (.bin .eql 3 1 (I 0),.bool true)]
theorem e1:bz (at' 42 cb [] body aN)=some (.tuple ⟨[I (-1),I 1]⟩):=au
def dk:bd:=[(.d' (.bool true),.bool true),
 (.len #[29] 3 0,1),
 (.bin .gtr 3 1 (I 256),.bool false),
 (.bin .eql 3 1 (I 0),.bool false),
 (.dG 29 0 (I 0),2),
 (.bA 70 2,.agg ⟨[3,4,5,6,7,8,9,10]⟩),
 (.bin .neq 70 (.agg ⟨[3,4,5,6,7,8,9,10]⟩) (.agg ⟨[cw [97,105,114],.bool false,.bool false,.bool false,I 1,I 0,I 0,I 0]⟩),.bool false)]
theorem e2:Oj (at' 42 dk [] body aN)=some 120:=au
abbrev gy:=at' 42 dk [] body aN
def dD:List bu:=[]
def hd0:aF:=b1 [(3,I 0),(2,I 0),(0,0)]
def hp0:aF:=e6 42 hd0 21 11
theorem e3:cp (b7 gy) hd0 dD=some [(0,0)]:=au
def dV:dU:=(body,[1,1,0],1)
def eg:bd:=[(.d' (.bool true),.bool true),
 (.len #[29] 3 0,1)]
def eQ:List bu:=[]
def eR:aF:=b1 [(24,12),(23,1),(22,0),(4,11)]
abbrev hO:=cI 42 eg [] dV {sl:=hp0,ms:=[],A:=c6 dD}
theorem mB:pZ eR eQ hO=some [(1,1),(11,11),(I 0,12),(0,0)]:=au
def e7:Code:=ta body [1,1,1,0,1,4]
def iq:List fi:=oA body [1,1,1,0,1,4] []
theorem e9:pz hO=e7:=au
theorem n_:gA hO=iq:=au
def fI:bd:=[(.d' (.bool true),.bool true),
 (.bin .lss 3 12 1,.bool true),
 (.dG 29 0 12,13),
 (.bA 70 13,.agg ⟨[14,15,16,17,18,19,20,21]⟩),
 (.lB 120 11 14 false,.bool true)]
def qo:dX:=[(70,[.agg ⟨[14,15,16,17,18,19,20,21]⟩],.bool true)]
def hG:bd:=[(.d' (.bool true),.bool true)]
theorem nu:bz (nO 42 hG [] iq (at' 42 fI qo e7 (b3 eR eQ)))=some (.tuple ⟨[12,I 10]⟩):=au
def ll:bd:=[(.d' (.bool true),.bool true),
 (.bin .lss 3 12 1,.bool true),
 (.dG 29 0 12,13),
 (.bA 70 13,.agg ⟨[14,15,16,17,18,19,20,21]⟩),
 (.lB 120 11 14 false,.bool false)]
def yU:dX:=[(70,[.agg ⟨[14,15,16,17,18,19,20,21]⟩],.bool true)]
theorem kR:Ok (at' 42 ll yU e7 (b3 eR eQ))=some (120,11,14,.bool true):=au
abbrev jv:=at' 42 ll yU e7 (b3 eR eQ)
def hy:List bu:=[]
def hv:aF:=b1 [(24,12),(23,1),(22,0),(4,11)]
def hp1:aF:=match gZ 42 hv none (.tuple ⟨[]⟩) with|some s=>s|none=> .nil
theorem ql:cp (b7 jv) hv hy=some [(1,1),(11,11),(12,12),(0,0)]:=au
def iB:dU:=(e7,[1,1,0,4,1,1,1],4)
def mM:bd:=[(.d' (.bool true),.bool true),
 (.bin .add 3 12 (I 1),22)]
theorem tC:qE eR eQ (cI 42 mM [] iB (b3 hp1 hy))=some [(1,1),(11,11),(22,12),(0,0)]:=au
def pK:bd:=[(.d' (.bool true),.bool true),
 (.bin .lss 3 12 1,.bool true),
 (.dG 29 0 12,13),
 (.bA 70 13,.agg ⟨[14,15,16,17,18,19,20,21]⟩)]
def Ai:dX:=[(70,[.agg ⟨[14,15,16,17,18,19,20,21]⟩],.bool false)]
theorem yW:bz (nO 42 hG [] iq (at' 42 pK Ai e7 (b3 eR eQ)))=some (.tuple ⟨[12,I 1]⟩):=au
def sC:bd:=[(.d' (.bool true),.bool true),
 (.bin .lss 3 12 1,.bool false)]
theorem tK:bz (nO 42 hG [] iq (at' 42 sC [] e7 (b3 eR eQ)))=some (.tuple ⟨[I 0,I 0]⟩):=au
def sD:bd:=[(.d' (.bool true),.bool true),
 (.len #[29] 3 0,1),
 (.bin .gtr 3 1 (I 256),.bool false),
 (.bin .eql 3 1 (I 0),.bool false),
 (.dG 29 0 (I 0),2),
 (.bA 70 2,.agg ⟨[3,4,5,6,7,8,9,10]⟩),
 (.bin .neq 70 (.agg ⟨[3,4,5,6,7,8,9,10]⟩) (.agg ⟨[cw [97,105,114],.bool false,.bool false,.bool false,I 1,I 0,I 0,I 0]⟩),.bool true)]
theorem rE:bz (at' 42 sD [] body aN)=some (.tuple ⟨[I 0,I 1]⟩):=au
@[reducible] noncomputable def bB (l:List cU) (dR:ch) (ec:Nat) (i:Nat:=0) (eF:Nat:=0):List J:=[br dR l ec,I ((l.length:Nat):Int),hb (br dR l ec) (0*8),cw (l.ev (0)).1,.bool (l.ev (0)).2.1,.bool (l.ev (0)).2.2.1,.bool (l.ev (0)).2.2.2.1,I (l.ev (0)).2.2.2.2.1,I (l.ev (0)).2.2.2.2.2.1,I (l.ev (0)).2.2.2.2.2.2.1,I (l.ev (0)).2.2.2.2.2.2.2,.map (some eF),I ((i:Nat):Int),hb (br dR l ec) (i*8),cw (l.ev (i)).1,.bool (l.ev (i)).2.1,.bool (l.ev (i)).2.2.1,.bool (l.ev (i)).2.2.2.1,I (l.ev (i)).2.2.2.2.1,I (l.ev (i)).2.2.2.2.2.1,I (l.ev (i)).2.2.2.2.2.2.1,I (l.ev (i)).2.2.2.2.2.2.2,I ((i+1:Nat):Int)]
theorem any (W:ax) {h_:J} {l:List cU} (hl:cF (aG W) 8 jB h_ l) (cv:mF (aG W)):Calls Tryd.prog 49 #[h_] W λe w'=>e= .returned (.tuple #[I (mN l).1,I (mN l).2])/\cg W.heap.size W w':=by
 obtain⟨dR,ec,rfl⟩:=hl.slice;refine jE (bB l dR ec) body aN N [ak 0] Tryd.func49 λa ah=> ?_
 letI:=b4 ah;by_cases h0:256<((l.length:Nat):Int)
 ·refine bx bN [] (ae (aT.d' U U) (ae (eM hl lU) (ae a8 aO))) aP ?_ ah
  exact bR e0 λw2 bm=>(by refine congrArg Ending.returned ?_;(rw[aku aj];rfl))
 ·by_cases ad:((l.length:Nat):Int)=0
  ·refine bx cb [] (ae (aT.d' U U) (ae (eM hl lU) (ae aS (ae a8 aO)))) aP ?_ ah
   exact bR e1 λw2 bm=>(by refine congrArg Ending.returned ?_;(rw[akv aj aj];rfl))
  ·by_cases ag:(l.ev (0))=((([97,105,114]:fF),false,false,false,1,0,0,0):cU)
   ·refine bx dk [] (ae (aT.d' U U) (ae (eM hl lU) (ae aS (ae aS (ae (z6 hl (show 0<l.length by omega) lU qG) (ae (aT.r7 hl (lJ 0) U U Be qG U U U) (ae (V5 U U U U (by rw[eH ag];rfl)) aO))))))) aP ?_ ah
    obtain⟨ct,eX⟩:=h1 ([]);refine afV (bj:=λfJ=>(bB l dR ec 0 fJ)) eX e2 e3 (ep hp0 11) rfl (λ_ fJ=>fq) (λ_ _=>rfl) ?_;intro jY eF lK ju dz w ah;have uS:=ju.up (λi h=>by cases h) (cj _) (λ_ _ h=>h);letI:=b4 ah;refine dO (dP dV) eg [] (ae (aT.d' U U) (ae (eM (hl.mono uS) lU) aO)) aP ?_ ah;refine tg (gn:=(λ(⟨M,b,i⟩:Mem×List fF×Nat)=>aW M (bB l dR ec i eF))) (λ(⟨M,b,i⟩:Mem×List fF×Nat)=>uA W.heap.size M (.map (some eF)) b/\(∀i o,aG W i=some o->M i=some o)/\b=Cb l i/\i<=l.length/\∀j,j<i->¬yV l j) (λ(⟨M,b,i⟩:Mem×List fF×Nat)=>l.length-i) ⟨jY,ct,0⟩ mB fq (λ_ _ h=>h) (by exact⟨lK,uS,eX,Nat.zero_le _,λj h=>absurd h (Nat.not_lt_zero _)⟩) ?_;intro⟨M,b,i⟩ bf dz w ah;letI:=b4 ah;refine tc e9 n_ ?_;have cM:=bf.1;have bt:=bf.2.1;by_cases kx:((i:Nat):Int)<((l.length:Nat):Int)
    ·by_cases q1:hH (l.ev (i))
     ·by_cases aH:(l.ev (i)).1∈b
      ·refine bx fI qo (ae (aT.d' U U) (ae a8 (ae (nn (hl.mono bt) lU qG) (ae (aT.r7 (hl.mono bt) (lJ i) U U Be qG U U U) (ae (aT.afT U U Rk Rl Rm cM U U aH) aO))))) (cD (aar U U (by exact cv.mono bK) q1) aP) ?_ ah
       refine n' hG [] (ae (aT.d' U U) aO) aP ?_;exact bR nu λw2 bm=>(by refine congrArg Ending.returned ?_;(rw[aky (i:=i) aj aj bK aj bf.2.2.2.2 bK (by rw[<-bf.2.2.1];assumption)];rfl))
      ·refine bx ll yU (ae (aT.d' U U) (ae a8 (ae (nn (hl.mono bt) lU qG) (ae (aT.r7 (hl.mono bt) (lJ i) U U Be qG U U U) (ae (aT.afU U U Rk Rl akC Rm cM U U aH) aO))))) (cD (aar U U (by exact cv.mono bK) q1) aP) ?_ ah
       obtain⟨kh,l_⟩:=h1 (b++[(l.ev (i)).1]);refine afW (u:= .map (some eF)) (n:=(l.ev (i)).1) (ns:=b) (ns':=kh) (bj:=(bB l dR ec i eF)) l_ kR Rk Rl Rm ql (ep hp1 (.tuple ⟨[]⟩)) U U U U cM bK (λ_=>fq) ?_;intro nf FJ mq dz w ah;have akL:=mq.up (λi h=>(cM.known i h).2) (cj _) bt;letI:=b4 ah;refine dO (dP iB) mM [] (ae (aT.d' U U) (ae ko aO)) aP ?_ ah;exact tu ⟨nf,kh,i+1⟩ tC fq (by exact⟨FJ,akL,by rw[l_,bf.2.2.1,akB aj],aj,λj hj=>by rcases Nat.lt_succ_iff_lt_or_eq.1 hj with h|rfl;exact bf.2.2.2.2 j h;exact akA bK (by rw[<-bf.2.2.1];assumption)⟩)
     ·refine bx pK Ai (ae (aT.d' U U) (ae a8 (ae (nn (hl.mono bt) lU qG) (ae (aT.r7 (hl.mono bt) (lJ i) U U Be qG U U U) aO)))) (cD (akK U U (by exact cv.mono bK) q1) aP) ?_ ah
      refine n' hG [] (ae (aT.d' U U) aO) aP ?_;exact bR yW λw2 bm=>(by refine congrArg Ending.returned ?_;(rw[akx (i:=i) aj aj bK aj bf.2.2.2.2 bK];rfl))
    ·refine bx sC [] (ae (aT.d' U U) (ae aS aO)) aP ?_ ah
     refine n' hG [] (ae (aT.d' U U) aO) aP ?_;exact bR tK λw2 bm=>(by refine congrArg Ending.returned ?_;(rw[akz aj aj bK (λj hj=>bf.2.2.2.2 j aj)];rfl))
   ·refine bx sD [] (ae (aT.d' U U) (ae (eM hl lU) (ae aS (ae aS (ae (z6 hl (show 0<l.length by omega) lU qG) (ae (aT.r7 hl (lJ 0) U U Be qG U U U) (ae (V5 U U U U (by rw[cx ag];rfl)) aO))))))) aP ?_ ah
    exact bR rE λw2 bm=>(by refine congrArg Ending.returned ?_;(rw[akw aj aj bK];rfl))
end aas
end AE
namespace AE
section
variable [a1]
theorem HJ {x r:J} {u:J} {l:List cU} (hp:dL [x]=true) (ao:aM r=true) (bp:eo [x]=[u]) (b9:aJ r= .tuple #[.int .i64 (mN l).1,.int .i64 (mN l).2]) (hl:cF a1.dq 8 jB u l) (cv:mF a1.dq):i_ Tryd.prog (49,[x],r):=
 kK (a:= #[u]) hp ao bp b9 λw hw=>aas.any w (hl.mono hw) (cv.mono hw)
theorem Rs {x r:J} {b:bT} {cells:List Int} {a:Option Addr} {n c:Nat} (hp:dL [x]=true) (ao:aM r=true) (bp:eo [x]=[oK b (.slice a n c)]) (b9:aJ r= .bool true) (hl:cF a1.dq 1 gf (.slice a n c) cells) (av:cells.length<=10000000) (iz:n=cells.length) (h:wg b cells):i_ Tryd.prog (50,[x],r):=
 kK (a:= #[oK b (.slice a n c)]) hp ao bp b9 λw hw=>(Ri.any w (hl.mono hw) av iz).mono λe w' he=>by rw[eH h] at he;exact he
theorem akM {x r:J} {b:bT} {cells:List Int} {a:Option Addr} {n c:Nat} (hp:dL [x]=true) (ao:aM r=true) (bp:eo [x]=[oK b (.slice a n c)]) (b9:aJ r= .bool false) (hl:cF a1.dq 1 gf (.slice a n c) cells) (av:cells.length<=10000000) (iz:n=cells.length) (h:¬wg b cells):i_ Tryd.prog (50,[x],r):=
 kK (a:= #[oK b (.slice a n c)]) hp ao bp b9 λw hw=>(Ri.any w (hl.mono hw) av iz).mono λe w' he=>by rw[cx h] at he;exact he
end
def Lg (b:bT) (cells:List Int) (table:List cU) (known:List Bool):Prop:=(mN table).2=0/\wg b cells/\(known.length=0\/known.length=cells.length)
instance (b:bT) (cells:List Int) (table:List cU) (known:List Bool):Decidable (Lg b cells table known):=by unfold Lg;infer_instance
def yX (b:bT) (cells:List Int) (table:List cU) (known:List Bool):Int:=if Lg b cells table known then 0 else 1
theorem aat {b:bT} {cells:List Int} {table:List cU} {known:List Bool} (h0:(mN table).2=0) (ad:wg b cells) (ag:known.length=0\/known.length=cells.length):yX b cells table known=0:=aY ⟨h0,ad,ag⟩
theorem Rt {b:bT} {cells:List Int} {table:List cU} {known:List Bool} (h:(mN table).2=0->wg b cells->¬(known.length=0\/known.length=cells.length)):yX b cells table known=1:=a' λq=>h q.1 q.2.1 q.2.2
end AE
namespace AE
namespace aau
noncomputable def body:Code:=(Tryd.f30.body).getD .skip
def N:Nat:=34
noncomputable abbrev bz:=fj Tryd.prog Tryd.f30
def aN:b6:={sl:=b1 [(2,1),(1,0),(0,.agg ⟨[2,3,4,5,6,7,8]⟩)],ms:=[],A:=start}
def bN:bd:=[(.bin .neq 35 10 (I 0),.bool false),
 (.len #[30] 3 1,11),
 (.bin .neq 3 11 (I 0),.bool false)]
def jX:dX:=[(49,[0],.tuple ⟨[9,10]⟩),
 (50,[.agg ⟨[ak 2,ak 3,ak 4,ak 5,ak 6,ak 7,ak 8]⟩],.bool true)]
theorem e0:bz (at' 34 bN jX body aN)=some (I 0):=au
def cb:bd:=[(.bin .neq 35 10 (I 0),.bool false),
 (.len #[30] 3 1,11),
 (.bin .neq 3 11 (I 0),.bool true),
 (.len #[26] 3 8,12),
 (.bin .neq 3 11 12,.bool false)]
def h':dX:=[(49,[0],.tuple ⟨[9,10]⟩),
 (50,[.agg ⟨[ak 2,ak 3,ak 4,ak 5,ak 6,ak 7,ak 8]⟩],.bool true)]
theorem e1:bz (at' 34 cb h' body aN)=some (I 0):=au
def dk:bd:=[(.bin .neq 35 10 (I 0),.bool false),
 (.len #[30] 3 1,11),
 (.bin .neq 3 11 (I 0),.bool true),
 (.len #[26] 3 8,12),
 (.bin .neq 3 11 12,.bool true)]
def oJ:dX:=[(49,[0],.tuple ⟨[9,10]⟩),
 (50,[.agg ⟨[ak 2,ak 3,ak 4,ak 5,ak 6,ak 7,ak 8]⟩],.bool true)]
theorem e2:bz (at' 34 dk oJ body aN)=some (I 1):=au
def eg:bd:=[(.bin .neq 35 10 (I 0),.bool false)]
def sE:dX:=[(49,[0],.tuple ⟨[9,10]⟩),
 (50,[.agg ⟨[ak 2,ak 3,ak 4,ak 5,ak 6,ak 7,ak 8]⟩],.bool false)]
theorem e3:bz (at' 34 eg sE body aN)=some (I 1):=au
def fI:bd:=[(.bin .neq 35 10 (I 0),.bool true)]
def qo:dX:=[(49,[0],.tuple ⟨[9,10]⟩)]
theorem hA:bz (at' 34 fI qo body aN)=some (I 1):=au
@[reducible] noncomputable def bB (cells:List Int) (bP:ch) (bJ bQ:Nat) (table:List cU) (kA:ch) (kB:Nat) (known:List Bool) (c9:ch) (c_:Nat) (b:bT):List J:=[br kA table kB,br c9 known c_,I b.1,I b.2.1,I b.2.2.1,I b.2.2.2.1,I b.2.2.2.2.1,I b.2.2.2.2.2,.slice bP bJ bQ,I (mN table).1,I (mN table).2,I ((known.length:Nat):Int),I ((cells.length:Nat):Int)]
theorem any (W:ax) {b:bT} {bP:ch} {bJ bQ:Nat} {cells:List Int} (hX:cF (aG W) 1 gf (.slice bP bJ bQ) cells) {oM:J} {table:List cU} (aL:cF (aG W) 8 jB oM table) {oN:J} {known:List Bool} (hM:cF (aG W) 1 iL oN known) (cv:mF (aG W)) (av:cells.length<=10000000) (iz:bJ=cells.length):Calls Tryd.prog 30 #[.agg ⟨[I b.1,I b.2.1,I b.2.2.1,I b.2.2.2.1,I b.2.2.2.2.1,I b.2.2.2.2.2,.slice bP bJ bQ]⟩,oM,oN] W λe w'=>e= .returned (I (yX b cells table known))/\cg W.heap.size W w':=by
 obtain⟨kA,kB,rfl⟩:=aL.slice;obtain⟨c9,c_,rfl⟩:=hM.slice;refine jE (bB cells bP bJ bQ table kA kB known c9 c_ b) body aN N [.agg ⟨[ak 2,ak 3,ak 4,ak 5,ak 6,ak 7,ak 8]⟩,ak 0,ak 1] Tryd.func30 λa ah=> ?_
 letI:=b4 ah;have aI:=bI.o1 W;by_cases h0:(mN table).2=0
 ·by_cases ad:wg b cells
  ·by_cases ag:((known.length:Nat):Int)=0
   ·refine bx bN jX (ae sx (ae (eM (hM.mono aI.ext) mj) (ae sx aO))) (cD (HJ U U U U (aL.mono aI.ext) cv) (cD (Rs U U U U hX av iz ad) aP)) ?_ ah
    exact bR e0 λw2 bm=>(by (rw[aat bK bK aj];rfl))
   ·by_cases ay:((known.length:Nat):Int)=((cells.length:Nat):Int)
    ·refine bx cb h' (ae sx (ae (eM (hM.mono aI.ext) mj) (ae tv (ae (eM (hX.mono aI.ext) iA) (ae sx aO))))) (cD (HJ U U U U (aL.mono aI.ext) cv) (cD (Rs U U U U hX av iz ad) aP)) ?_ ah
     exact bR e1 λw2 bm=>(by (rw[aat bK bK aj];rfl))
    ·refine bx dk oJ (ae sx (ae (eM (hM.mono aI.ext) mj) (ae tv (ae (eM (hX.mono aI.ext) iA) (ae tv aO))))) (cD (HJ U U U U (aL.mono aI.ext) cv) (cD (Rs U U U U hX av iz ad) aP)) ?_ ah
     exact bR e2 λw2 bm=>(by (rw[Rt (λq1 aH=>by omega)];rfl))
  ·refine bx eg sE (ae sx aO) (cD (HJ U U U U (aL.mono aI.ext) cv) (cD (akM U U U U hX av iz ad) aP)) ?_ ah
   exact bR e3 λw2 bm=>(by (rw[Rt (λq1 aH=>by exact absurd aH bK)];rfl))
 ·refine bx fI qo (ae tv aO) (cD (HJ U U U U (aL.mono aI.ext) cv) aP) ?_ ah
  exact bR hA λw2 bm=>(by (rw[Rt (λq1 aH=>by omega)];rfl))
end aau
end AE
namespace AE
namespace aav
noncomputable def body:Code:=(Tryd.f57.body).getD .skip
def N:Nat:=13
def aN:b6:={sl:=b1 [(1,1),(0,0)],ms:=[],A:=start}
def bN:bd:=[(.dM 0,0),
 (.cn 78 0 0,0),
 (.bA 26 0,2)]
theorem e0:p0 26 (at' 13 bN [] body aN)=some (2,1):=au
abbrev gy:=at' 13 bN [] body aN
def dD:List bu:=[]
def hd0:aF:=b1 [(4,0)]
def hp0:aF:=e6 13 hd0 10 26
theorem e1:cp (b7 gy) hd0 dD=some [(0,0)]:=au
def dV:dU:=(body,[],7)
def cb:bd:=[(.dM 0,0),
 (.cn 78 0 0,0)]
theorem h2:nG (cI 13 cb [] dV (b3 hp0 dD))=some (26,0,26):=au
abbrev jv:=cI 13 cb [] dV {sl:=hp0,ms:=[],A:=c6 dD}
def hy:List bu:=[]
def hv:aF:=b1 []
def hp1:aF:=match gZ 13 hv none (.tuple ⟨[]⟩) with|some s=>s|none=> .nil
theorem jJ:cp (b7 jv) hv hy=some []:=au
def iB:dU:=(body,[],10)
theorem kR:fj Tryd.prog Tryd.f57 (cI 13 [] [] iB (b3 hp1 hy))=some (.tuple ⟨[]⟩):=au
@[reducible] noncomputable def bB (bw:List Nat) (jP:ch) (jQ:Nat) (x:List Nat) (jw:ch) (jx cd:Nat) (xa:Nat->J) (aX:J) (ct:List Nat:=[]) (a0:ch:=none) (dC:Nat:=0):List J:=[df cd 22,br jw x jx,br jP bw jQ,xa 0,xa 1,xa 2,xa 3,xa 4,xa 5,xa 6,xa 7,xa 8,xa 9,xa 10,xa 11,xa 12,xa 13,xa 14,xa 15,xa 16,xa 17,xa 18,xa 19,xa 20,xa 21,aX,br a0 ct dC]
theorem any (W:ax) {bw:List Nat} {jP:ch} {jQ:Nat} {x:List Nat} {jw:ch} {jx cd:Nat} {xa:Nat->J} {aX:J} (jy:cG (aG W) [yJ jP bw jQ,p3 1 p_ (br jw x jx) x,dW cd 80 [xa 0,xa 1,xa 2,xa 3,xa 4,xa 5,xa 6,xa 7,xa 8,xa 9,xa 10,xa 11,xa 12,xa 13,xa 14,xa 15,xa 16,xa 17,xa 18,xa 19,xa 20,xa 21,br jP bw jQ,aX]]) (hlen:bw.length+x.length<=500000):Calls Tryd.prog 57 #[df cd 22,br jw x jx] W λe w'=>(∃y:ch×Nat,e= .returned (.tuple #[])/\cV (aG W) [yJ jP bw jQ,p3 1 p_ (br jw x jx) x,dW cd 80 [xa 0,xa 1,xa 2,xa 3,xa 4,xa 5,xa 6,xa 7,xa 8,xa 9,xa 10,xa 11,xa 12,xa 13,xa 14,xa 15,xa 16,xa 17,xa 18,xa 19,xa 20,xa 21,br jP bw jQ,aX]] (aG w') [nI tj 1 p_ (.slice y.1 (bw++x).length y.2) (bw++x),p3 1 p_ (br jw x jx) x,dW cd qK (List.set [xa 0,xa 1,xa 2,xa 3,xa 4,xa 5,xa 6,xa 7,xa 8,xa 9,xa 10,xa 11,xa 12,xa 13,xa 14,xa 15,xa 16,xa 17,xa 18,xa 19,xa 20,xa 21,br jP bw jQ,aX] 22 (.slice y.1 (bw++x).length y.2))])/\cg 0 W w':=by
 refine pJ (bB bw jP jQ x jw jx cd xa aX) body aN N [ak 0,ak 1] Tryd.func57 λa ah=> ?_
 letI:=b4 ah;have aI:=bI.start W _ jy;refine bx bN [] (ae jf (ae (fa 26 0 1) (ae (iV 22 2 aI) aO))) aP ?_ ah;obtain⟨ct,eX⟩:=h1 (bw++x);have e_:ct.length=bw.length+x.length:=by rw[eX];simp
 refine JX (l:=bw) (lx:=x) (l':=ct) (bj:=λpd pe=>(bB bw jP jQ x jw jx cd xa aX ct pd pe)) (T:=(eP (br jP bw jQ))) eX e0 Kj ag6 ag7 ag8 ag9 ag' cB nK ag_ e1 (ep hp0 26) rfl (JY U U (aI.iT 0 rfl)) (zE U U λw hw=>((aI.red 1 rfl).arr nK).reads nK hw) (yh (show bw.length+x.length<=1000000 by omega)) (show (bw.length+x.length)*O_<=140737488355328 by unfold O_;omega) (λ_ _ _=>fq) (λ_ _ _=>rfl) ?_;intro jY a0 dC lK ju Hl dz w ah;have dr:=aI.lV 0 rfl (FI lK ju Hl);replace dr:=dr.vZ;letI:=b4 ah;refine dO (dP dV) cb [] (ae jf (ae (fa 26 0 1) aO)) aP ?_ ah;refine D_ 22 [xa 0,xa 1,xa 2,xa 3,xa 4,xa 5,xa 6,xa 7,xa 8,xa 9,xa 10,xa 11,xa 12,xa 13,xa 14,xa 15,xa 16,xa 17,xa 18,xa 19,xa 20,xa 21,br a0 ct dC,aX] (bB bw jP jQ x jw jx cd xa aX ct a0 dC) h2 jJ (ep hp1 (.tuple ⟨[]⟩)) (dr.box 2 rfl) ?_;intro nf rl mq dz w ah;have gq:=dr.lV 2 rfl (vC rl mq);replace gq:=gq.vZ;letI:=b4 ah;refine dO (dP iB) [] [] aO aP ?_ ah;exact bR kR λw2 bm=>(by subst_vars;exact⟨(_,_),rfl,(gq.done bm)⟩)
end aav
namespace Ru
noncomputable def body:Code:=(Tryd.f69.body).getD .skip
def N:Nat:=13
def aN:b6:={sl:=b1 [(1,1),(0,0)],ms:=[],A:=start}
def bN:bd:=[(.dM 0,0),
 (.cn 73 0 0,0),
 (.bA 71 0,2)]
theorem e0:p0 71 (at' 13 bN [] body aN)=some (2,1):=au
abbrev gy:=at' 13 bN [] body aN
def dD:List bu:=[]
def hd0:aF:=b1 [(4,0)]
def hp0:aF:=e6 13 hd0 10 26
theorem e1:cp (b7 gy) hd0 dD=some [(0,0)]:=au
def dV:dU:=(body,[],7)
def cb:bd:=[(.dM 0,0),
 (.cn 73 0 0,0)]
theorem h2:nG (cI 13 cb [] dV (b3 hp0 dD))=some (71,0,26):=au
abbrev jv:=cI 13 cb [] dV {sl:=hp0,ms:=[],A:=c6 dD}
def hy:List bu:=[]
def hv:aF:=b1 []
def hp1:aF:=match gZ 13 hv none (.tuple ⟨[]⟩) with|some s=>s|none=> .nil
theorem jJ:cp (b7 jv) hv hy=some []:=au
def iB:dU:=(body,[],10)
theorem kR:fj Tryd.prog Tryd.f69 (cI 13 [] [] iB (b3 hp1 hy))=some (.tuple ⟨[]⟩):=au
@[reducible] noncomputable def bB (cK:List gx) (eT:ch) (eU:Nat) (x:List gx) (jw:ch) (jx cd:Nat) (xa:Nat->J) (aX:Nat->J) (ct:List gx:=[]) (a0:ch:=none) (dC:Nat:=0):List J:=[df cd 19,br jw x jx,br eT cK eU,xa 0,xa 1,xa 2,xa 3,xa 4,xa 5,xa 6,xa 7,xa 8,xa 9,xa 10,xa 11,xa 12,xa 13,xa 14,xa 15,xa 16,xa 17,xa 18,aX 0,aX 1,aX 2,aX 3,br a0 ct dC]
theorem any (W:ax) {cK:List gx} {eT:ch} {eU:Nat} {x:List gx} {jw:ch} {jx cd:Nat} {xa:Nat->J} {aX:Nat->J} (jy:cG (aG W) [tz eT cK eU,p3 3 nc (br jw x jx) x,dW cd 80 [xa 0,xa 1,xa 2,xa 3,xa 4,xa 5,xa 6,xa 7,xa 8,xa 9,xa 10,xa 11,xa 12,xa 13,xa 14,xa 15,xa 16,xa 17,xa 18,br eT cK eU,aX 0,aX 1,aX 2,aX 3]]) (hlen:cK.length+x.length<=500000):Calls Tryd.prog 69 #[df cd 19,br jw x jx] W λe w'=>(∃y:ch×Nat,e= .returned (.tuple #[])/\cV (aG W) [tz eT cK eU,p3 3 nc (br jw x jx) x,dW cd 80 [xa 0,xa 1,xa 2,xa 3,xa 4,xa 5,xa 6,xa 7,xa 8,xa 9,xa 10,xa 11,xa 12,xa 13,xa 14,xa 15,xa 16,xa 17,xa 18,br eT cK eU,aX 0,aX 1,aX 2,aX 3]] (aG w') [nI rr 3 nc (.slice y.1 (cK++x).length y.2) (cK++x),p3 3 nc (br jw x jx) x,dW cd qK (List.set [xa 0,xa 1,xa 2,xa 3,xa 4,xa 5,xa 6,xa 7,xa 8,xa 9,xa 10,xa 11,xa 12,xa 13,xa 14,xa 15,xa 16,xa 17,xa 18,br eT cK eU,aX 0,aX 1,aX 2,aX 3] 19 (.slice y.1 (cK++x).length y.2))])/\cg 0 W w':=by
 refine pJ (bB cK eT eU x jw jx cd xa aX) body aN N [ak 0,ak 1] Tryd.func69 λa ah=> ?_
 letI:=b4 ah;have aI:=bI.start W _ jy;refine bx bN [] (ae jf (ae (fa 71 0 1) (ae (iV 19 2 aI) aO))) aP ?_ ah;obtain⟨ct,eX⟩:=h1 (cK++x);have e_:ct.length=cK.length+x.length:=by rw[eX];simp
 refine JX (l:=cK) (lx:=x) (l':=ct) (bj:=λpd pe=>(bB cK eT eU x jw jx cd xa aX ct pd pe)) (T:=(eP (br eT cK eU))) eX e0 Bx ahc ahd ahe ahf ahg cB vK ahh e1 (ep hp0 26) rfl (JY U U (aI.iT 0 rfl)) (zE U U λw hw=>((aI.red 1 rfl).arr vK).reads vK hw) (yh (show cK.length+x.length<=1000000 by omega)) (show (cK.length+x.length)*Pa<=140737488355328 by unfold Pa;omega) (λ_ _ _=>fq) (λ_ _ _=>rfl) ?_;intro jY a0 dC lK ju Hl dz w ah;have dr:=aI.lV 0 rfl (FI lK ju Hl);replace dr:=dr.vZ;letI:=b4 ah;refine dO (dP dV) cb [] (ae jf (ae (fa 71 0 1) aO)) aP ?_ ah;refine D_ 19 [xa 0,xa 1,xa 2,xa 3,xa 4,xa 5,xa 6,xa 7,xa 8,xa 9,xa 10,xa 11,xa 12,xa 13,xa 14,xa 15,xa 16,xa 17,xa 18,br a0 ct dC,aX 0,aX 1,aX 2,aX 3] (bB cK eT eU x jw jx cd xa aX ct a0 dC) h2 jJ (ep hp1 (.tuple ⟨[]⟩)) (dr.box 2 rfl) ?_;intro nf rl mq dz w ah;have gq:=dr.lV 2 rfl (vC rl mq);replace gq:=gq.vZ;letI:=b4 ah;refine dO (dP iB) [] [] aO aP ?_ ah;exact bR kR λw2 bm=>(by subst_vars;exact⟨(_,_),rfl,(gq.done bm)⟩)
end Ru
end AE
namespace AE
namespace Rv
noncomputable def body:Code:=(Tryd.f35.body).getD .skip
def N:Nat:=24
def aN:b6:={sl:=b1 [(1,1),(0,0)],ms:=[],A:=start}
def bN:bd:=[(.dM 0,0),
 (.cn 80 0 11,26),
 (.bA 30 26,3),
 (.dG 30 3 1,27),
 (.bA 4 27,28),
 (.un .not 28,.bool false)]
theorem e0:fj Tryd.prog Tryd.f35 (at' 24 bN [] body aN)=some (.tuple ⟨[]⟩):=au
def cb:bd:=[(.dM 0,0),
 (.cn 80 0 11,26),
 (.bA 30 26,3),
 (.dG 30 3 1,27),
 (.bA 4 27,28),
 (.un .not 28,.bool true)]
theorem e1:nG (at' 24 cb [] body aN)=some (4,27,(.bool true)):=au
abbrev gy:=at' 24 cb [] body aN
def dD:List bu:=[]
def hd0:aF:=b1 [(1,1),(0,0)]
def hp0:aF:=match gZ 24 hd0 none (.tuple ⟨[]⟩) with|some s=>s|none=> .nil
theorem e2:cp (b7 gy) hd0 dD=some [(0,0),(1,1)]:=au
def dV:dU:=(body,[1,2,0],7)
def dk:bd:=[(.dM 0,0),
 (.cn 80 0 10,29)]
abbrev jv:=cI 24 dk [] dV {sl:=hp0,ms:=[],A:=c6 dD}
def hy:List bu:=[]
def hv:aF:=b1 [(20,29)]
def hp1:aF:=(bV.set 30 depth hv 22).getD .nil
theorem jJ:se jv 0 22=some ([1],1,1):=au
theorem mB:cp (b7 jv) hv hy=some [(29,29)]:=au
theorem e9:bV.set 30 depth hv 22=some hp1:=au
theorem n_:g_ ((ld (b3 hp1 hy) jv))=some (57,[29,30]):=au
abbrev pg:=(ld {sl:=hp1,ms:=[],A:=c6 hy} jv)
def kf:List bu:=[]
def kS:aF:=b1 []
def hp2:aF:=e6 24 kS 23 (.tuple ⟨[]⟩)
theorem ql:cp (kL Tryd.prog pg) kS kf=some []:=au
def je:dU:=(body,[1,2,1],6)
theorem tC:fj Tryd.prog Tryd.f35 (cI 24 [] [] je (b3 hp2 kf))=some (.tuple ⟨[]⟩):=au
@[reducible] noncomputable def bB (bw:List Nat) (jP:ch) (jQ:Nat) (waits:List Bool) (rG:ch) (rH rI cd:Nat) (xa:Nat->J) (k:Nat) (g1:Nat:=0) (HK:List Nat:=[]) (jZ:ch:=none) (j0:Nat:=0):List J:=[df cd 0,I ((k:Nat):Int),br jP bw jQ,.slice rG rH rI,xa 0,xa 1,xa 2,xa 3,xa 4,xa 5,xa 6,xa 7,xa 8,xa 9,xa 10,xa 11,xa 12,xa 13,xa 14,xa 15,xa 16,xa 17,xa 18,xa 19,xa 20,xa 21,df cd 23,hb (.slice rG rH rI) (k*1),.bool (waits.ev (k)),df cd 22,.slice (some ⟨g1,0,none⟩) 1 1,br jZ HK j0]
theorem any (W:ax) {bw:List Nat} {jP:ch} {jQ:Nat} {waits:List Bool} {rG:ch} {rH rI cd:Nat} {xa:Nat->J} (jy:cG (aG W) [yJ jP bw jQ,oH rG rH rI waits,dW cd 80 [xa 0,xa 1,xa 2,xa 3,xa 4,xa 5,xa 6,xa 7,xa 8,xa 9,xa 10,xa 11,xa 12,xa 13,xa 14,xa 15,xa 16,xa 17,xa 18,xa 19,xa 20,xa 21,br jP bw jQ,.slice rG rH rI]]) (k:Nat) (al:k<waits.length) (hlen:bw.length<=400000):Calls Tryd.prog 35 #[df cd 0,I ((k:Nat):Int)] W λe w'=>(∃y:ch×Nat,e= .returned (.tuple #[])/\cV (aG W) [yJ jP bw jQ,oH rG rH rI waits,dW cd 80 [xa 0,xa 1,xa 2,xa 3,xa 4,xa 5,xa 6,xa 7,xa 8,xa 9,xa 10,xa 11,xa 12,xa 13,xa 14,xa 15,xa 16,xa 17,xa 18,xa 19,xa 20,xa 21,br jP bw jQ,.slice rG rH rI]] (aG w') [nI tj 1 p_ (.slice y.1 (mI bw waits k).length y.2) (mI bw waits k),ht n3 1 iL (.slice rG rH rI) (nL waits k),dW cd qK (List.set [xa 0,xa 1,xa 2,xa 3,xa 4,xa 5,xa 6,xa 7,xa 8,xa 9,xa 10,xa 11,xa 12,xa 13,xa 14,xa 15,xa 16,xa 17,xa 18,xa 19,xa 20,xa 21,br jP bw jQ,.slice rG rH rI] 22 (.slice y.1 (mI bw waits k).length y.2))])/\cg 0 W w':=by
 refine pJ (bB bw jP jQ waits rG rH rI cd xa k) body aN N [ak 0,ak 1] Tryd.func35 λa ah=> ?_
 letI:=b4 ah;have aI:=bI.start W _ jy;by_cases h0:(waits.ev (k))=true
 ·refine bx bN [] (ae jf (ae (fa 30 23 1) (ae (iV 23 2 aI) (ae (nn ((aI.arr 1 rfl).arr kn) mj Bv) (ae (qg 0 ((aI.arr 1 rfl).arr kn) (lJ k) JC) (ae (afH U U h0) aO)))))) aP ?_ ah
  exact bR e0 λw2 bm=>(by (rw[Xe bK,Xg bK];exact⟨(_,_),rfl,((aI.pick [0,1,2] rfl).done bm)⟩))
 ·refine bx cb [] (ae jf (ae (fa 30 23 1) (ae (iV 23 2 aI) (ae (nn ((aI.arr 1 rfl).arr kn) mj Bv) (ae (qg 0 ((aI.arr 1 rfl).arr kn) (lJ k) JC) (ae (afI U U h0) aO)))))) aP ?_ ah
  obtain⟨Rw,eX⟩:=h1 (waits.set k true);have e_:Rw.length=waits.length:=by rw[eX];exact List.length_set
  refine QD 0 (bB bw jP jQ waits rG rH rI cd xa k) eX e1 kn e2 (ep hp0 (.tuple ⟨[]⟩)) (aI.arr 1 rfl) (show k<waits.length by omega) ?_;intro jY lK ju dz w ah;have dr:=aI.lV 1 rfl (Bo lK ju);replace dr:=dr.vZ;letI:=b4 ah;refine dO (dP dV) dk [] (ae jf (ae (fa 78 22 1) aO)) aP ?_ ah;refine uD (enc:=p_) (xs:=[k]) (q:=30) (bj:=λfJ=>(bB bw jP jQ waits rG rH rI cd xa k fJ)) jJ nK rfl cB cB U U (gG rfl) mB (λ_ _=>fq) e9 (λ_=>rfl) ?_;intro nf g1 qw q' Ce mq h5;have gq:=dr.new (sf qw Ce mq h5);letI:=b4 ah;obtain⟨HK,akN⟩:=h1 (bw++[k]);refine hF (Y:=eD) (bj:=λaV=>(bB bw jP jQ waits rG rH rI cd xa k g1 HK aV.1 aV.2)) gq [0,3,2] (λaV=>[xk _ _ _ aV.1 HK aV.2,_,dW _ _ [_,_,_,_,_,_,_,_,_,_,_,_,_,_,_,_,_,_,_,_,_,_,br aV.1 HK aV.2,_]]) (λ_=>[]) n_ ql (ep hp2 (.tuple ⟨[]⟩)) (fA:=λw hw cT aw=>by rw[akN];exact aav.any (x:=[k]) (xa:=mH [xa 0,xa 1,xa 2,xa 3,xa 4,xa 5,xa 6,xa 7,xa 8,xa 9,xa 10,xa 11,xa 12,xa 13,xa 14,xa 15,xa 16,xa 17,xa 18,xa 19,xa 20,xa 21,br jP bw jQ,.slice rG rH rI] 0) (aX:=mH [xa 0,xa 1,xa 2,xa 3,xa 4,xa 5,xa 6,xa 7,xa 8,xa 9,xa 10,xa 11,xa 12,xa 13,xa 14,xa 15,xa 16,xa 17,xa 18,xa 19,xa 20,xa 21,br jP bw jQ,.slice rG rH rI] 23 0) _ aw (by simp only [List.length_cons,List.length_nil];omega)) (rest:= ?_);intro ng ⟨jZ,j0⟩ ic dz w ah;replace ic:=ic.BU;letI:=b4 ah;refine dO (dP je) [] [] aO aP ?_ ah;exact bR tC λw2 bm=>(by (subst_vars;rw[Xf bK,Xh bK];exact⟨(_,_),rfl,((ic.pick [0,1,2] rfl).done bm)⟩))
end Rv
end AE
namespace AE
section
variable [a1]
theorem Lh {x y z r:J} {b:bT} {cells:List Int} {table:List cU} {known:List Bool} {a:Option Addr} {n c:Nat} {u v:J} (hp:dL [x,y,z]=true) (ao:aM r=true) (bp:eo [x,y,z]=[oK b (.slice a n c),u,v]) (b9:aJ r= .int .i64 (yX b cells table known))
  (ar:cF a1.dq 1 gf (.slice a n c) cells) (aL:cF a1.dq 8 jB u table) (al:cF a1.dq 1 iL v known) (cv:mF a1.dq) (av:cells.length<=10000000) (iz:n=cells.length):i_ Tryd.prog (30,[x,y,z],r):=
 kK (a:= #[oK b (.slice a n c),u,v]) hp ao bp b9 λw hw=>aau.any w (ar.mono hw) (aL.mono hw) (al.mono hw) (cv.mono hw) av iz
end
theorem akO (w:ax) {jw:Option Addr} {jx:Nat} (jy:cG (aG w) [p3 1 iL (.slice jw [true].length jx) [true]]) (n:Nat) (av:n<=100000):
  Calls Tryd.prog 34 #[.slice jw [true].length jx,.int .i64 ((n:Nat):Int)] w λe w'=>(∃y:Option Addr×Nat,e= .returned (.slice y.1 (List.replicate n true).length y.2)/\cV (aG w) [p3 1 iL (.slice jw [true].length jx) [true]] (aG w') [p3 1 iL (.slice jw [true].length jx) [true],ht n3 1 iL (.slice y.1 (List.replicate n true).length y.2) (List.replicate n true)])/\cg 0 w w':=by
 have h:=ZL.any w jy n rfl av;rw[mw];exact h
theorem aaw (n:Nat):jO n 0=List.replicate n vM:=by
 unfold jO;rfl
theorem aax {n k:Nat} {g:List Nat} {w:List Bool} (al:k<n) (aA:g=List.range k) (hw:w=jO n k):mI g w k=List.range (k+1)/\nL w k=jO n (k+1):=by
 subst aA hw;have h:(jO n k).getD k default=false:=by
  unfold jO;rw[dp,List.getElem?_append_right (by simp),mw,Nat.sub_self,List.getElem?_replicate,aY aj];rfl
 unfold mI nL;rw[h];refine⟨?_,?_⟩
 ·show List.range k++[k]=_
  rw[List.range_succ]
 ·show (jO n k).set k true=_
  unfold jO;rw[List.set_append_right _ _ (by simp),mw,Nat.sub_self];obtain⟨m,hm⟩:∃m,n-k=m+1:=⟨n-k-1,aj⟩;rw[hm,show n-(k+1)=m by omega,List.replicate_succ,List.set_cons_zero,List.replicate_succ',List.append_assoc];rfl
def wi (known:List Bool) (n:Nat):List Bool:=if known.length=0 then List.replicate n true else known
theorem akP {known:List Bool} {n:Nat} (h:known.length=0):wi known n=List.replicate n true:=aY h
theorem akQ {known:List Bool} {n:Nat} (h:known.length≠0):wi known n=known:=a' h
def oa (b:bT) (cells:List Int) (table:List cU) (known:List Bool) (most:Int):Prop:=yX b cells table known=0/\1<=most/\most<=65536
instance (b:bT) (cells:List Int) (table:List cU) (known:List Bool) (most:Int):Decidable (oa b cells table known most):=by unfold oa;infer_instance
end AE
namespace AE
theorem cV.Rx {M M':Mem} {L nZ L':List cc} (aw:cG M L) (is:List Nat) (ik:kl L.length is=true) (hp:AE.pick L is=nZ) (hl:L'.length=is.length) (t:cV M nZ M' L'):cV M L M' (lD L is L'):=by
 have:=cV.lift (N:=[]) aw is ik hp hl (by rw[List.append_nil];exact t)
 rwa [List.append_nil] at this
theorem aay (W:ax) {g:Nat} {A:dQ} {e:cC} (h:cG (aG W) [di g A e]) (aA:gp e.table e.b e.u):
  Calls Tryd.prog 36 #[de g] W λx w'=>(∃bh:dQ,x= .returned (.bool (gS e.table e.b e.u).1)/\cV (aG W) [di g A e] (aG w') [di g bh (xr e)])/\cg 0 W w':=by
 refine(ZC.any h.B2 aA).mono λx w' aq=> ?_
 obtain⟨⟨bh,rfl,t⟩,hl⟩:=aq;exact⟨⟨bh,rfl,t.packed⟩,hl⟩
structure tL (en e:cC) (d:Nat):Prop where
 eq:e={en with u:=nt en.table en.b d en.u}
 all:∀m,m<d->(gS en.table en.b (nt en.table en.b m en.u)).1=true
 ev:gp e.table e.b e.u
 le:d+hN en.b e.u<=hN en.b en.u
theorem tL.zero {en:cC} (h:gp en.table en.b en.u):tL en en 0:=⟨rfl,λm hm=>absurd hm (Nat.not_lt_zero m),h,aj⟩
theorem tL.next {en e e':cC} {d:Nat} (h:tL en e d) (he:e'=xr e) (hu:(gS e.table e.b e.u).1=true):tL en e' (d+1)/\hN en.b e'.u<hN en.b e.u:=by
 subst he;obtain⟨akR,n2⟩:=h.ev.unit hu;have hle:=h.le;have bb:=h.eq;subst bb;obtain⟨wJ,QF⟩:=ajP rfl h.all hu;have akS:hN en.b (gS en.table en.b (nt en.table en.b d en.u)).2+1<=hN en.b (nt en.table en.b d en.u):=n2;have ao6:d+hN en.b (nt en.table en.b d en.u)<=hN en.b en.u:=hle;have akT:d+1+hN en.b (gS en.table en.b (nt en.table en.b d en.u)).2<=hN en.b en.u:=by omega
 exact⟨⟨congrArg (λu=>({en with u:=u}:cC)) wJ,QF,akR,akT⟩,akS⟩
theorem tL.last {en e e':cC} {d f:Nat} (h:tL en e d) (he:e'=xr e) (hu:¬(gS e.table e.b e.u).1=true) (aQ:d<=f):iY en.table en.b f en.u=(d,e'.u)/\e'={en with u:=e'.u}:=by
 have dh:(gS e.table e.b e.u).1=false:=by simpa using hu
 have jV:=(h.ev.done dh).1;have bb:=h.eq;subst he bb;have jA:=QN d f en.u aQ h.all (.inr dh);refine⟨?_,rfl⟩;rw[jA];exact congrArg (Prod.mk d) jV.symm
theorem tL.full {en e:cC} {d:Nat} (h:tL en e d):iY en.table en.b d en.u=(d,e.u)/\e={en with u:=e.u}:=by
 have bb:=h.eq;subst bb;exact⟨QN d d en.u (cj _) h.all (.inl rfl),rfl⟩
end AE
namespace AE
namespace aaz
noncomputable def body:Code:=(Tryd.f12.body).getD .skip
def N:Nat:=9
def aN:b6:={sl:=b1 [(0,0)],ms:=[],A:=start}
def eQ:List bu:=[]
def eR:aF:=b1 [(3,1),(2,I 0),(0,0)]
abbrev hO:=at' 9 [] [] body aN
theorem e0:pZ eR eQ hO=some [(0,0),(I 0,1)]:=au
def e7:Code:=ta body [1,1,0,4]
def iq:List fi:=oA body [1,1,0,4] []
theorem e1:pz hO=e7:=au
theorem e2:gA hO=iq:=au
theorem e3:g_ (at' 9 [] [] e7 (b3 eR eQ))=some (36,[0]):=au
abbrev gy:=at' 9 [] [] e7 (b3 eR eQ)
def dD:List bu:=[]
def hd0:aF:=b1 [(3,1),(2,I 0),(0,0)]
def hp0:aF:=e6 9 hd0 5 2
theorem h2:cp (kL Tryd.prog gy) hd0 dD=some [(0,0),(1,1)]:=au
def dV:dU:=(e7,[0,0],2)
def cb:bd:=[(.d' 2,.bool true),
 (.bin .add 3 1 (I 1),3)]
theorem nu:qE eR eQ (cI 9 cb [] dV (b3 hp0 dD))=some [(0,0),(3,1)]:=au
def dk:bd:=[(.d' 2,.bool false)]
theorem kR:fj Tryd.prog Tryd.f12 (nO 9 [] [] iq (cI 9 dk [] dV (b3 hp0 dD)))=some 1:=au
@[reducible] noncomputable def bB (nv:Nat) (e:cC:=default) (d:Nat:=0):List J:=[df nv 0,I ((d:Nat):Int),.bool (gS e.table e.b e.u).1,I ((d+1:Nat):Int)]
theorem any (W:ax) {en:cC} {nv:Nat} {Cf:dQ} (jy:cG (aG W) [di nv Cf en]) (fk:gp en.table en.b en.u) (ao:en.u.reqs.length<=10000):Calls Tryd.prog 12 #[df nv 0] W λe w'=>(∃A:dQ,e= .returned (I (((iY en.table en.b (hN en.b en.u) en.u).1:Nat):Int))/\cV (aG W) [di nv Cf en] (aG w') [di nv A {en with u:=(iY en.table en.b (hN en.b en.u) en.u).2}])/\cg 0 W w':=by
 refine pJ (bB nv) body aN N [ak 0] Tryd.func12 λa ah=> ?_
 letI:=b4 ah;have aI:=bI.start W _ jy;have yY:=fk.Za ao;refine bx [] [] aO aP ?_ ah;refine tg (gn:=(λ(⟨M,e,A,d⟩:Mem×cC×dQ×Nat)=>aW M (bB nv e d))) (λ(⟨M,e,A,d⟩:Mem×cC×dQ×Nat)=>bI 0 (aG W) aI.Ij M [di nv A e]/\(tL en e d)) (λ(⟨M,e,A,d⟩:Mem×cC×dQ×Nat)=>hN en.b e.u) ⟨(aG W),en,Cf,0⟩ e0 fq (λ_ _ h=>h) (by exact⟨(aI.pick [0] rfl),by exact tL.zero fk⟩) ?_;intro⟨M,e,A,d⟩ bf dz w ah;letI:=b4 ah;refine tc e1 e2 ?_;have qW:=bf.1;have aA:=bf.2.ev;have akU:=bf.2.le;refine bx [] [] aO aP ?_ ah;obtain⟨HL,xt⟩:=h1 (xr e);refine hF (Y:=dQ) (bj:=λaV=>(bB nv e d)) qW [0] (λaV=>[di nv (aV) HL]) (λ_=>[]) e3 h2 (ep hp0 2) (fA:=λw hw cT aw=>by rw[xt];exact aay _ aw aA) (rest:= ?_);intro jY Ry dr dz w ah;replace dr:=dr.KZ;letI:=b4 ah;by_cases kx:(gS e.table e.b e.u).1=true
 ·refine dO (dP dV) cb [] (ae (Dx U U kx) (ae ko aO)) aP ?_ ah
  exact tu ⟨jY,HL,Ry,d+1⟩ nu fq (by exact⟨dr,by exact(bf.2.next xt bK).1⟩) (by exact(bf.2.next xt bK).2)
 ·refine dO (dP dV) dk [] (ae (Od U U kx) aO) aP ?_ ah
  refine n' [] [] aO aP ?_;exact bR kR λw2 bm=>(by obtain⟨q1,aH⟩:=bf.2.last (f:=hN en.b en.u) xt bK aj;rw[q1,<-aH];exact⟨_,rfl,(dr.done bm)⟩)
end aaz
end AE
namespace AE
namespace aaA
noncomputable def body:Code:=(Tryd.f10.body).getD .skip
def N:Nat:=19
def aN:b6:={sl:=b1 [(1,1),(0,0)],ms:=[],A:=start}
def eQ:List bu:=[]
def eR:aF:=b1 [(6,2),(5,.func (.func 36) ⟨[0]⟩ ⟨[]⟩),(4,I 0),(1,1)]
abbrev hO:=at' 19 [] [] body aN
theorem e0:pZ eR eQ hO=some [(1,1),(0,0),(I 0,2)]:=au
def e7:Code:=ta body [1,1,0,4]
def iq:List fi:=oA body [1,1,0,4] []
theorem e1:pz hO=e7:=au
theorem e2:gA hO=iq:=au
def cb:bd:=[(.bin .lss 3 2 1,.bool true)]
theorem e3:g_ (at' 19 cb [] e7 (b3 eR eQ))=some (36,[0]):=au
abbrev gy:=at' 19 cb [] e7 (b3 eR eQ)
def dD:List bu:=[]
def hd0:aF:=b1 [(12,.bool true),(6,2),(5,.func (.func 36) ⟨[0]⟩ ⟨[]⟩),(4,I 0),(1,1)]
def hp0:aF:=e6 19 hd0 14 3
theorem h2:cp (kL Tryd.prog gy) hd0 dD=some [(1,1),(0,0),(2,2)]:=au
def dV:dU:=(e7,[0,0],6)
def dk:bd:=[(.d' 3,.bool true),
 (.bin .add 3 2 (I 1),4)]
theorem nu:qE eR eQ (cI 19 dk [] dV (b3 hp0 dD))=some [(1,1),(0,0),(4,2)]:=au
def eg:bd:=[(.d' 3,.bool false)]
theorem kR:fj Tryd.prog Tryd.f10 (nO 19 [] [] iq (cI 19 eg [] dV (b3 hp0 dD)))=some 2:=au
def fI:bd:=[(.bin .lss 3 2 1,.bool false)]
theorem ql:fj Tryd.prog Tryd.f10 (nO 19 [] [] iq (at' 19 fI [] e7 (b3 eR eQ)))=some 2:=au
@[reducible] noncomputable def bB (nv:Nat) (n:Int) (e:cC:=default) (d:Nat:=0):List J:=[df nv 0,I n,I ((d:Nat):Int),.bool (gS e.table e.b e.u).1,I ((d+1:Nat):Int)]
theorem any (W:ax) {en:cC} {nv:Nat} {Cf:dQ} (jy:cG (aG W) [di nv Cf en]) (n:Int) (fk:gp en.table en.b en.u) (ao:en.u.reqs.length<=10000):Calls Tryd.prog 10 #[df nv 0,I n] W λe w'=>(∃A:dQ,e= .returned (I (((iY en.table en.b n.toNat en.u).1:Nat):Int))/\cV (aG W) [di nv Cf en] (aG w') [di nv A {en with u:=(iY en.table en.b n.toNat en.u).2}])/\cg 0 W w':=by
 refine pJ (bB nv n) body aN N [ak 0,ak 1] Tryd.func10 λa ah=> ?_
 letI:=b4 ah;have aI:=bI.start W _ jy;have yY:=fk.Za ao;refine bx [] [] aO aP ?_ ah;refine tg (gn:=(λ(⟨M,e,A,d⟩:Mem×cC×dQ×Nat)=>aW M (bB nv n e d))) (λ(⟨M,e,A,d⟩:Mem×cC×dQ×Nat)=>bI 0 (aG W) aI.Ij M [di nv A e]/\(tL en e d/\d<=n.toNat)) (λ(⟨M,e,A,d⟩:Mem×cC×dQ×Nat)=>hN en.b e.u) ⟨(aG W),en,Cf,0⟩ e0 fq (λ_ _ h=>h) (by exact⟨(aI.pick [0] rfl),by exact⟨tL.zero fk,Nat.zero_le _⟩⟩) ?_;intro⟨M,e,A,d⟩ bf dz w ah;letI:=b4 ah;refine tc e1 e2 ?_;have qW:=bf.1;have aA:=bf.2.1.ev;have akU:=bf.2.1.le;have um:=bf.2.2;by_cases sQ:((d:Nat):Int)<n
 ·refine bx cb [] (ae a8 aO) aP ?_ ah
  obtain⟨HL,xt⟩:=h1 (xr e);refine hF (Y:=dQ) (bj:=λaV=>(bB nv n e d)) qW [0] (λaV=>[di nv (aV) HL]) (λ_=>[]) e3 h2 (ep hp0 3) (fA:=λw hw cT aw=>by rw[xt];exact aay _ aw aA) (rest:= ?_);intro jY Ry dr dz w ah;replace dr:=dr.KZ;letI:=b4 ah;by_cases kx:(gS e.table e.b e.u).1=true
  ·refine dO (dP dV) dk [] (ae (Dx U U kx) (ae ko aO)) aP ?_ ah
   exact tu ⟨jY,HL,Ry,d+1⟩ nu fq (by exact⟨dr,by exact⟨(bf.2.1.next xt bK).1,aj⟩⟩) (by exact(bf.2.1.next xt bK).2)
  ·refine dO (dP dV) eg [] (ae (Od U U kx) aO) aP ?_ ah
   refine n' [] [] aO aP ?_;exact bR kR λw2 bm=>(by first|(obtain⟨q1,aH⟩:=bf.2.1.full;obtain rfl:d=n.toNat:=aj;rw[q1,<-aH];exact⟨_,rfl,(dr.done bm)⟩)|(obtain⟨q1,aH⟩:=bf.2.1.last (f:=n.toNat) xt bK aj;rw[q1,<-aH];exact⟨_,rfl,(dr.done bm)⟩))
 ·refine bx fI [] (ae aS aO) aP ?_ ah
  refine n' [] [] aO aP ?_;exact bR ql λw2 bm=>(by first|(obtain⟨q1,aH⟩:=bf.2.1.full;obtain rfl:d=n.toNat:=aj;rw[q1,<-aH];exact⟨_,rfl,((qW.pick [0] rfl).done bm)⟩)|(obtain⟨q1,aH⟩:=bf.2.1.last (f:=n.toNat) xt bK aj;rw[q1,<-aH];exact⟨_,rfl,((qW.pick [0] rfl).done bm)⟩))
end aaA
end AE
namespace AE
namespace aaB
noncomputable def body:Code:=(Tryd.f11.body).getD .skip
def N:Nat:=19
noncomputable abbrev bz:=fj Tryd.prog Tryd.f11
def aN:b6:={sl:=b1 [(0,0)],ms:=[],A:=start}
def bN:bd:=[(.dM 0,0),
 (.cn 80 0 8,25),
 (.dM 25,25),
 (.cn 76 25 0,25),
 (.bA 74 25,2),
 (.len #[74] 3 2,26),
 (.bin .eql 3 26 (I 0),.bool true),
 (.cn 80 0 10,27),
 (.dM 27,27),
 (.cn 78 27 0,27),
 (.bA 26 27,3),
 (.len #[26] 3 3,28),
 (.bin .eql 3 28 (I 0),.bool true),
 (.cn 80 0 7,29),
 (.dM 29,29),
 (.cn 73 29 0,29),
 (.bA 71 29,1),
 (.len #[71] 3 1,30),
 (.bin .eql 3 30 (I 0),.bool true)]
theorem e0:bz (at' 19 bN [] body aN)=some (.bool true):=au
def cb:bd:=[(.dM 0,0),
 (.cn 80 0 8,25),
 (.dM 25,25),
 (.cn 76 25 0,25),
 (.bA 74 25,2),
 (.len #[74] 3 2,26),
 (.bin .eql 3 26 (I 0),.bool true),
 (.cn 80 0 10,27),
 (.dM 27,27),
 (.cn 78 27 0,27),
 (.bA 26 27,3),
 (.len #[26] 3 3,28),
 (.bin .eql 3 28 (I 0),.bool true),
 (.cn 80 0 7,29),
 (.dM 29,29),
 (.cn 73 29 0,29),
 (.bA 71 29,1),
 (.len #[71] 3 1,30),
 (.bin .eql 3 30 (I 0),.bool false)]
theorem e1:bz (at' 19 cb [] body aN)=some (.bool false):=au
def dk:bd:=[(.dM 0,0),
 (.cn 80 0 8,25),
 (.dM 25,25),
 (.cn 76 25 0,25),
 (.bA 74 25,2),
 (.len #[74] 3 2,26),
 (.bin .eql 3 26 (I 0),.bool true),
 (.cn 80 0 10,27),
 (.dM 27,27),
 (.cn 78 27 0,27),
 (.bA 26 27,3),
 (.len #[26] 3 3,28),
 (.bin .eql 3 28 (I 0),.bool false)]
theorem e2:bz (at' 19 dk [] body aN)=some (.bool false):=au
def eg:bd:=[(.dM 0,0),
 (.cn 80 0 8,25),
 (.dM 25,25),
 (.cn 76 25 0,25),
 (.bA 74 25,2),
 (.len #[74] 3 2,26),
 (.bin .eql 3 26 (I 0),.bool false)]
theorem e3:bz (at' 19 eg [] body aN)=some (.bool false):=au
@[reducible] noncomputable def bB (cK:List gx) (eT:ch) (eU:Nat) (bH:List az) (yZ:ch) (y0:Nat) (bw:List Nat) (jP:ch) (jQ cd:Nat) (xa:Nat->J) (v21:J) (v23:J):List J:=[df cd 0,br eT cK eU,br yZ bH y0,br jP bw jQ,xa 0,xa 1,xa 2,xa 3,xa 4,xa 5,xa 6,xa 7,xa 8,xa 9,xa 10,xa 11,xa 12,xa 13,xa 14,xa 15,xa 16,xa 17,xa 18,v21,v23,df cd 20,I ((bH.length:Nat):Int),df cd 22,I ((bw.length:Nat):Int),df cd 19,I ((cK.length:Nat):Int)]
theorem any (W:ax) {cK:List gx} {eT:ch} {eU:Nat} {bH:List az} {yZ:ch} {y0:Nat} {bw:List Nat} {jP:ch} {jQ cd:Nat} {xa:Nat->J} {v21:J} {v23:J} (jy:cG (aG W) [tz eT cK eU,Qy yZ bH y0,yJ jP bw jQ,dW cd 80 [xa 0,xa 1,xa 2,xa 3,xa 4,xa 5,xa 6,xa 7,xa 8,xa 9,xa 10,xa 11,xa 12,xa 13,xa 14,xa 15,xa 16,xa 17,xa 18,br eT cK eU,br yZ bH y0,v21,br jP bw jQ,v23]]):Calls Tryd.prog 11 #[df cd 0] W λe w'=>(∃_:Unit,e= .returned (.bool (decide (bH.length=0/\bw.length=0/\cK.length=0)))/\cV (aG W) [tz eT cK eU,Qy yZ bH y0,yJ jP bw jQ,dW cd 80 [xa 0,xa 1,xa 2,xa 3,xa 4,xa 5,xa 6,xa 7,xa 8,xa 9,xa 10,xa 11,xa 12,xa 13,xa 14,xa 15,xa 16,xa 17,xa 18,br eT cK eU,br yZ bH y0,v21,br jP bw jQ,v23]] (aG w') [tz eT cK eU,Qy yZ bH y0,yJ jP bw jQ,dW cd qK [xa 0,xa 1,xa 2,xa 3,xa 4,xa 5,xa 6,xa 7,xa 8,xa 9,xa 10,xa 11,xa 12,xa 13,xa 14,xa 15,xa 16,xa 17,xa 18,br eT cK eU,br yZ bH y0,v21,br jP bw jQ,v23]])/\cg 0 W w':=by
 refine pJ (bB cK eT eU bH yZ y0 bw jP jQ cd xa v21 v23) body aN N [ak 0] Tryd.func11 λa ah=> ?_
 letI:=b4 ah;have aI:=bI.start W _ jy;by_cases h0:((bH.length:Nat):Int)=0
 ·by_cases ad:((bw.length:Nat):Int)=0
  ·by_cases ag:((cK.length:Nat):Int)=0
   ·refine bx bN [] (ae jf (ae (fa 76 20 1) (ae jf (ae (fa 74 0 1) (ae (iV 20 3 aI) (ae (eM ((aI.iT 1 rfl).arr Kp) Ko) (ae a8 (ae (fa 78 22 1) (ae jf (ae (fa 26 0 1) (ae (iV 22 3 aI) (ae (eM ((aI.iT 2 rfl).arr nK) Kj) (ae a8 (ae (fa 73 19 1) (ae jf (ae (fa 71 0 1) (ae (iV 19 3 aI) (ae (eM ((aI.iT 0 rfl).arr vK) Bx) (ae a8 aO))))))))))))))))))) aP ?_ ah
    exact bR e0 λw2 bm=>(by (rw[eH aj];exact⟨(),rfl,((aI.pick [0,1,2,3] rfl).done bm)⟩))
   ·refine bx cb [] (ae jf (ae (fa 76 20 1) (ae jf (ae (fa 74 0 1) (ae (iV 20 3 aI) (ae (eM ((aI.iT 1 rfl).arr Kp) Ko) (ae a8 (ae (fa 78 22 1) (ae jf (ae (fa 26 0 1) (ae (iV 22 3 aI) (ae (eM ((aI.iT 2 rfl).arr nK) Kj) (ae a8 (ae (fa 73 19 1) (ae jf (ae (fa 71 0 1) (ae (iV 19 3 aI) (ae (eM ((aI.iT 0 rfl).arr vK) Bx) (ae aS aO))))))))))))))))))) aP ?_ ah
    exact bR e1 λw2 bm=>(by (rw[cx aj];exact⟨(),rfl,((aI.pick [0,1,2,3] rfl).done bm)⟩))
  ·refine bx dk [] (ae jf (ae (fa 76 20 1) (ae jf (ae (fa 74 0 1) (ae (iV 20 3 aI) (ae (eM ((aI.iT 1 rfl).arr Kp) Ko) (ae a8 (ae (fa 78 22 1) (ae jf (ae (fa 26 0 1) (ae (iV 22 3 aI) (ae (eM ((aI.iT 2 rfl).arr nK) Kj) (ae aS aO))))))))))))) aP ?_ ah
   exact bR e2 λw2 bm=>(by (rw[cx aj];exact⟨(),rfl,((aI.pick [0,1,2,3] rfl).done bm)⟩))
 ·refine bx eg [] (ae jf (ae (fa 76 20 1) (ae jf (ae (fa 74 0 1) (ae (iV 20 3 aI) (ae (eM ((aI.iT 1 rfl).arr Kp) Ko) (ae aS aO))))))) aP ?_ ah
  exact bR e3 λw2 bm=>(by (rw[cx aj];exact⟨(),rfl,((aI.pick [0,1,2,3] rfl).done bm)⟩))
end aaB
namespace aaC
noncomputable def body:Code:=(Tryd.f15.body).getD .skip
def N:Nat:=8
def aN:b6:={sl:=b1 [(0,0)],ms:=[],A:=start}
def bN:bd:=[(.dM 0,0),
 (.cn 80 0 5,25),
 (.bA 45 25,1)]
theorem e0:g_ (at' 8 bN [] body aN)=some (40,[1]):=au
abbrev gy:=at' 8 bN [] body aN
def dD:List bu:=[]
def hd0:aF:=b1 [(2,.slice none 0 0)]
def hp0:aF:=e6 8 hd0 7 26
theorem e3:cp (kL Tryd.prog gy) hd0 dD=some []:=au
def dV:dU:=(body,[1,0],5)
theorem mB:fj Tryd.prog Tryd.f15 (cI 8 [] [] dV (b3 hp0 dD))=some 26:=au
@[reducible] noncomputable def bB (xu:ch) (xv xw cd:Nat) (xa:Nat->J) (aX:Nat->J) (Li:List bO:=[]) (ia:ch:=none) (ib:Nat:=0):List J:=[df cd 0,.slice xu xv xw,xa 0,xa 1,xa 2,xa 3,xa 4,xa 5,xa 6,xa 7,xa 8,xa 9,xa 10,xa 11,xa 12,xa 13,xa 14,xa 15,xa 16,aX 0,aX 1,aX 2,aX 3,aX 4,aX 5,df cd 17,br ia Li ib]
theorem any (W:ax) {aE:List bO} {xu:ch} {xv xw cd:Nat} {xa:Nat->J} {aX:Nat->J} (jy:cG (aG W) [Qx xu xv xw aE,dW cd 80 [xa 0,xa 1,xa 2,xa 3,xa 4,xa 5,xa 6,xa 7,xa 8,xa 9,xa 10,xa 11,xa 12,xa 13,xa 14,xa 15,xa 16,.slice xu xv xw,aX 0,aX 1,aX 2,aX 3,aX 4,aX 5]]) (av:aE.length<=100000):Calls Tryd.prog 15 #[df cd 0] W λe w'=>(∃y:ch×Nat,e= .returned (br y.1 aE y.2)/\cV (aG W) [Qx xu xv xw aE,dW cd 80 [xa 0,xa 1,xa 2,xa 3,xa 4,xa 5,xa 6,xa 7,xa 8,xa 9,xa 10,xa 11,xa 12,xa 13,xa 14,xa 15,xa 16,.slice xu xv xw,aX 0,aX 1,aX 2,aX 3,aX 4,aX 5]] (aG w') ([Qx xu xv xw aE,dW cd 80 [xa 0,xa 1,xa 2,xa 3,xa 4,xa 5,xa 6,xa 7,xa 8,xa 9,xa 10,xa 11,xa 12,xa 13,xa 14,xa 15,xa 16,.slice xu xv xw,aX 0,aX 1,aX 2,aX 3,aX 4,aX 5]]++[z7 y.1 aE y.2]))/\cg 0 W w':=by
 refine pJ (bB xu xv xw cd xa aX) body aN N [ak 0] Tryd.func15 λa ah=> ?_
 letI:=b4 ah;have aI:=bI.start W _ jy;refine bx bN [] (ae jf (ae (fa 45 17 1) (ae (iV 17 1 aI) aO))) aP ?_ ah;obtain⟨Li,aaD⟩:=h1 (aE);refine hF (Y:=eD) (bj:=λaV=>(bB xu xv xw cd xa aX Li aV.1 aV.2)) aI [0] (λaV=>[_]) (λaV=>[z7 aV.1 Li aV.2]) e0 e3 (ep hp0 26) (fA:=λw hw cT aw=>by rw[aaD];exact Kr aw (ZG.any _ ((aw.arr 0 rfl).arr yv) av)) (rest:= ?_);intro jY ⟨ia,ib⟩ dr dz w ah;replace dr:=dr.vZ;letI:=b4 ah;refine dO (dP dV) [] [] aO aP ?_ ah;exact bR mB λw2 bm=>(by (subst aaD;exact⟨(_,_),rfl,(dr.done bm)⟩))
end aaC
namespace aaE
noncomputable def body:Code:=(Tryd.f17.body).getD .skip
def N:Nat:=8
def aN:b6:={sl:=b1 [(0,0)],ms:=[],A:=start}
def bN:bd:=[(.dM 0,0),
 (.cn 80 0 2,25),
 (.bA 30 25,1)]
theorem e0:g_ (at' 8 bN [] body aN)=some (33,[1]):=au
abbrev gy:=at' 8 bN [] body aN
def dD:List bu:=[]
def hd0:aF:=b1 [(2,.slice none 0 0)]
def hp0:aF:=e6 8 hd0 7 26
theorem e3:cp (kL Tryd.prog gy) hd0 dD=some []:=au
def dV:dU:=(body,[1,0],5)
theorem mB:fj Tryd.prog Tryd.f17 (cI 8 [] [] dV (b3 hp0 dD))=some 26:=au
@[reducible] noncomputable def bB (c9:ch) (ew c_ cd:Nat) (xa:Nat->J) (aX:Nat->J) (Lj:List Bool:=[]) (ia:ch:=none) (ib:Nat:=0):List J:=[df cd 0,.slice c9 ew c_,xa 0,xa 1,xa 2,xa 3,xa 4,xa 5,xa 6,xa 7,xa 8,xa 9,xa 10,xa 11,xa 12,xa 13,aX 0,aX 1,aX 2,aX 3,aX 4,aX 5,aX 6,aX 7,aX 8,df cd 14,br ia Lj ib]
theorem any (W:ax) {known:List Bool} {c9:ch} {ew c_ cd:Nat} {xa:Nat->J} {aX:Nat->J} (jy:cG (aG W) [oH c9 ew c_ known,dW cd 80 [xa 0,xa 1,xa 2,xa 3,xa 4,xa 5,xa 6,xa 7,xa 8,xa 9,xa 10,xa 11,xa 12,xa 13,.slice c9 ew c_,aX 0,aX 1,aX 2,aX 3,aX 4,aX 5,aX 6,aX 7,aX 8]]) (av:known.length<=100000):Calls Tryd.prog 17 #[df cd 0] W λe w'=>(∃y:ch×Nat,e= .returned (br y.1 known y.2)/\cV (aG W) [oH c9 ew c_ known,dW cd 80 [xa 0,xa 1,xa 2,xa 3,xa 4,xa 5,xa 6,xa 7,xa 8,xa 9,xa 10,xa 11,xa 12,xa 13,.slice c9 ew c_,aX 0,aX 1,aX 2,aX 3,aX 4,aX 5,aX 6,aX 7,aX 8]] (aG w') ([oH c9 ew c_ known,dW cd 80 [xa 0,xa 1,xa 2,xa 3,xa 4,xa 5,xa 6,xa 7,xa 8,xa 9,xa 10,xa 11,xa 12,xa 13,.slice c9 ew c_,aX 0,aX 1,aX 2,aX 3,aX 4,aX 5,aX 6,aX 7,aX 8]]++[tw y.1 known y.2]))/\cg 0 W w':=by
 refine pJ (bB c9 ew c_ cd xa aX) body aN N [ak 0] Tryd.func17 λa ah=> ?_
 letI:=b4 ah;have aI:=bI.start W _ jy;refine bx bN [] (ae jf (ae (fa 30 14 1) (ae (iV 14 1 aI) aO))) aP ?_ ah;obtain⟨Lj,aaF⟩:=h1 (known);refine hF (Y:=eD) (bj:=λaV=>(bB c9 ew c_ cd xa aX Lj aV.1 aV.2)) aI [0] (λaV=>[_]) (λaV=>[tw aV.1 Lj aV.2]) e0 e3 (ep hp0 26) (fA:=λw hw cT aw=>by rw[aaF];exact Kr aw (Hg.any _ ((aw.arr 0 rfl).arr kn) av)) (rest:= ?_);intro jY ⟨ia,ib⟩ dr dz w ah;replace dr:=dr.vZ;letI:=b4 ah;refine dO (dP dV) [] [] aO aP ?_ ah;exact bR mB λw2 bm=>(by (subst aaF;exact⟨(_,_),rfl,(dr.done bm)⟩))
end aaE
end AE
namespace AE
section
variable [a1]
theorem Lk {x y r:J} {b:bT} {p:ej} (hp:dL [x,y]=true) (ao:aM r=true) (bp:eo [x,y]=[X.val b,P.val p]) (b9:aJ r= .int .i64 ((b_ b p:Nat):Int)) (af:okB b) (h:bS p b):i_ Tryd.prog (55,[x,y],r):=
 kK (a:= #[X.val b,P.val p]) hp ao bp b9 λw _=>(Hb.any w b p af).mono λe w' he=>by
  rw[show ((b_ b p:Nat):Int)=v8 b p from by
   unfold b_;have:=(o9 af h).1;rw[G1 h];have ag:=(o9 af h).2.2.1;have ay:=j7 h
   omega]
  exact he
theorem aaG {x y r:J} {b:bT} {p:ej} (hp:dL [x,y]=true) (ao:aM r=true) (bp:eo [x,y]=[X.val b,P.val p]) (b9:aJ r= .int .i64 (-1)) (af:okB b) (h:¬bS p b):i_ Tryd.prog (55,[x,y],r):=
 kK (a:= #[X.val b,P.val p]) hp ao bp b9 λw _=>(Hb.any w b p af).mono λe w' he=>by
  rw[Eb h] at he;exact he
end
end AE
namespace AE
theorem akV {b:bT} {p:ej} (h:bS p b):0<(ft b).toNat:=by
 unfold bS at h;have aQ:iX b:=by unfold iX;omega
 unfold ft;rw[uQ aQ];dsimp only;have ad:0<(b.2.2.2.1-b.1)*(b.2.2.2.2.1-b.2.1):=Int.mul_pos aj aj;have ag:0<(b.2.2.2.1-b.1)*(b.2.2.2.2.1-b.2.1)*(b.2.2.2.2.2-b.2.2.1):=Int.mul_pos ad aj;omega
theorem Ll {b:bT} {p:ej} (h:bS p b):b_ b p<(ft b).toNat:=by
 have:=G2 (b:=b) (k:=0) (sh:=List.replicate (ft b).toNat false) (by rw[mw];exact akV h) mw p
 rwa [mw] at this
def acc (b:bT) (most:Int) (p:ej) (n:Nat):Prop:=bS p b/\¬most<=((n:Nat):Int)
instance (b:bT) (most:Int) (p:ej) (n:Nat):Decidable (acc b most p n):=by unfold acc;infer_instance
def jF (b:bT) (most:Int) (p:ej) (reqs:List gx):Int:=if bS p b then (if most<=((reqs.length:Nat):Int) then 16 else 0) else 1
def mO (b:bT) (most:Int) (p:ej) (reqs:List gx) (x:gx):List gx:=if acc b most p reqs.length then reqs++[x] else reqs
def pL {α:Type} (b:bT) (most:Int) (p:ej) (reqs:List gx) (l:List α) (v:α):List α:=if acc b most p reqs.length then l.set (b_ b p) v else l
variable {α:Type} {b:bT} {most:Int} {p:ej} {reqs:List gx} {x:gx} {l:List α} {v:α}
theorem aaH (h:bS p b) (ad:¬most<=((reqs.length:Nat):Int)):jF b most p reqs=0/\mO b most p reqs x=reqs++[x]/\pL b most p reqs l v=l.set (b_ b p) v:=by
 unfold jF mO pL;rw[aY h,a' ad,aY ⟨h,ad⟩,aY ⟨h,ad⟩];exact⟨rfl,rfl,rfl⟩
theorem aaI (h:bS p b) (ad:most<=((reqs.length:Nat):Int)):jF b most p reqs=16/\mO b most p reqs x=reqs/\pL b most p reqs l v=l:=by
 unfold jF mO pL;rw[aY h,aY ad,a' λq=>q.2 ad,a' λq=>q.2 ad];exact⟨rfl,rfl,rfl⟩
theorem aaJ (h:¬bS p b):jF b most p reqs=1/\mO b most p reqs x=reqs/\pL b most p reqs l v=l:=by
 unfold jF mO pL;rw[a' h,a' λq=>h q.1,a' λq=>h q.1];exact⟨rfl,rfl,rfl⟩
theorem aaK {l:List α} {k:Nat} {v d:α} (al:k<l.length):(l.set k v).getD k d=v:=by
 rw[dp,List.getElem?_set,aY rfl,aY al];rfl
end AE
namespace AE
namespace aaL
noncomputable def body:Code:=(Tryd.f44.body).getD .skip
def N:Nat:=12
def aN:b6:={sl:=b1 [(2,2),(1,1),(0,0)],ms:=[],A:=start}
def bN:bd:=[(.bA 34 2,28),
 (.dM 28,28),
 (.cn 80 28 0,28),
 (.cn 28 28 1,29),
 (.bA 26 29,3),
 (.bA 3 1,27),
 (.dG 26 3 0,30)]
theorem e0:nG (at' 12 bN [] body aN)=some (3,30,27):=au
abbrev gy:=at' 12 bN [] body aN
def dD:List bu:=[]
def hd0:aF:=b1 []
def hp0:aF:=match gZ 12 hd0 none (.tuple ⟨[]⟩) with|some s=>s|none=> .nil
theorem e1:cp (b7 gy) hd0 dD=some []:=au
def dV:dU:=(body,[],9)
theorem h2:fj Tryd.prog Tryd.f44 (cI 12 [] [] dV (b3 hp0 dD))=some (.tuple ⟨[]⟩):=au
@[reducible] noncomputable def bB (bP:ch) (bJ bQ cd:Nat) (xa:Nat->J) (aX:Nat->J) (jg:Nat) (cell:Int) (jh k:Nat):List J:=[I ((k:Nat):Int),df jg 0,df jh 0,.slice bP bJ bQ,xa 0,xa 1,xa 2,xa 3,xa 4,xa 5,aX 0,aX 1,aX 2,aX 3,aX 4,aX 5,aX 6,aX 7,aX 8,aX 9,aX 10,aX 11,aX 12,aX 13,aX 14,aX 15,aX 16,I cell,df cd 0,df cd 6,hb (.slice bP bJ bQ) (k*1)]
theorem any (W:ax) {cells:List Int} {bP:ch} {bJ bQ cd:Nat} {xa:Nat->J} {aX:Nat->J} {jg:Nat} {cell:Int} {jh:Nat} (jy:cG (aG W) [np bP bJ bQ cells,dW cd 80 [xa 0,xa 1,xa 2,xa 3,xa 4,xa 5,.slice bP bJ bQ,aX 0,aX 1,aX 2,aX 3,aX 4,aX 5,aX 6,aX 7,aX 8,aX 9,aX 10,aX 11,aX 12,aX 13,aX 14,aX 15,aX 16],dW jg 3 [I cell],dW jh 34 [df cd 0]]) (k:Nat) (al:k<cells.length):Calls Tryd.prog 44 #[I ((k:Nat):Int),df jg 0,df jh 0] W λe w'=>(∃_:Unit,e= .returned (.tuple #[])/\cV (aG W) [np bP bJ bQ cells,dW cd 80 [xa 0,xa 1,xa 2,xa 3,xa 4,xa 5,.slice bP bJ bQ,aX 0,aX 1,aX 2,aX 3,aX 4,aX 5,aX 6,aX 7,aX 8,aX 9,aX 10,aX 11,aX 12,aX 13,aX 14,aX 15,aX 16],dW jg 3 [I cell],dW jh 34 [df cd 0]] (aG w') [ht kJ 1 gf (.slice bP bJ bQ) (cells.set k cell),dW cd qK [xa 0,xa 1,xa 2,xa 3,xa 4,xa 5,.slice bP bJ bQ,aX 0,aX 1,aX 2,aX 3,aX 4,aX 5,aX 6,aX 7,aX 8,aX 9,aX 10,aX 11,aX 12,aX 13,aX 14,aX 15,aX 16],dW jg 3 [I cell],dW jh gR [df cd 0]])/\cg 0 W w':=by
 refine pJ (bB bP bJ bQ cd xa aX jg cell jh k) body aN N [ak 0,ak 1,ak 2] Tryd.func44 λa ah=> ?_
 letI:=b4 ah;have aI:=bI.start W _ jy;refine bx bN [] (ae (iV 0 3 aI) (ae jf (ae (fa 28 0 7) (ae (fa 26 6 1) (ae (iV 6 1 aI) (ae (iV 0 2 aI) (ae (nn ((aI.arr 0 rfl).arr kk) iA uz) aO))))))) aP ?_ ah;obtain⟨akW,eX⟩:=h1 (cells.set k cell);have e_:akW.length=cells.length:=by rw[eX];exact List.length_set
 refine QD 0 (bB bP bJ bQ cd xa aX jg cell jh k) eX e0 kk e1 (ep hp0 (.tuple ⟨[]⟩)) (aI.arr 0 rfl) (show k<cells.length by omega) ?_;intro jY lK ju dz w ah;have dr:=aI.lV 0 rfl (Bo lK ju);replace dr:=dr.BU;letI:=b4 ah;refine dO (dP dV) [] [] aO aP ?_ ah;exact bR h2 λw2 bm=>(by subst_vars;exact⟨(),rfl,(dr.done bm)⟩)
end aaL
namespace aaM
noncomputable def body:Code:=(Tryd.f45.body).getD .skip
def N:Nat:=11
def aN:b6:={sl:=b1 [(2,2),(1,1),(0,0)],ms:=[],A:=start}
def bN:bd:=[(.bA 34 2,28),
 (.dM 28,28),
 (.cn 80 28 2,29),
 (.bA 30 29,3),
 (.bA 4 1,27),
 (.dG 30 3 0,30)]
theorem e0:nG (at' 11 bN [] body aN)=some (4,30,27):=au
abbrev gy:=at' 11 bN [] body aN
def dD:List bu:=[]
def hd0:aF:=b1 []
def hp0:aF:=match gZ 11 hd0 none (.tuple ⟨[]⟩) with|some s=>s|none=> .nil
theorem e1:cp (b7 gy) hd0 dD=some []:=au
def dV:dU:=(body,[],8)
theorem h2:fj Tryd.prog Tryd.f45 (cI 11 [] [] dV (b3 hp0 dD))=some (.tuple ⟨[]⟩):=au
@[reducible] noncomputable def bB (c9:ch) (ew c_ cd:Nat) (xa:Nat->J) (aX:Nat->J) (jg:Nat) (gC:Bool) (jh k:Nat):List J:=[I ((k:Nat):Int),df jg 0,df jh 0,.slice c9 ew c_,xa 0,xa 1,xa 2,xa 3,xa 4,xa 5,xa 6,xa 7,xa 8,xa 9,xa 10,xa 11,xa 12,xa 13,aX 0,aX 1,aX 2,aX 3,aX 4,aX 5,aX 6,aX 7,aX 8,.bool gC,df cd 0,df cd 14,hb (.slice c9 ew c_) (k*1)]
theorem any (W:ax) {known:List Bool} {c9:ch} {ew c_ cd:Nat} {xa:Nat->J} {aX:Nat->J} {jg:Nat} {gC:Bool} {jh:Nat} (jy:cG (aG W) [oH c9 ew c_ known,dW cd 80 [xa 0,xa 1,xa 2,xa 3,xa 4,xa 5,xa 6,xa 7,xa 8,xa 9,xa 10,xa 11,xa 12,xa 13,.slice c9 ew c_,aX 0,aX 1,aX 2,aX 3,aX 4,aX 5,aX 6,aX 7,aX 8],dW jg 4 [.bool gC],dW jh 34 [df cd 0]]) (k:Nat) (al:k<known.length):Calls Tryd.prog 45 #[I ((k:Nat):Int),df jg 0,df jh 0] W λe w'=>(∃_:Unit,e= .returned (.tuple #[])/\cV (aG W) [oH c9 ew c_ known,dW cd 80 [xa 0,xa 1,xa 2,xa 3,xa 4,xa 5,xa 6,xa 7,xa 8,xa 9,xa 10,xa 11,xa 12,xa 13,.slice c9 ew c_,aX 0,aX 1,aX 2,aX 3,aX 4,aX 5,aX 6,aX 7,aX 8],dW jg 4 [.bool gC],dW jh 34 [df cd 0]] (aG w') [ht n3 1 iL (.slice c9 ew c_) (known.set k gC),dW cd qK [xa 0,xa 1,xa 2,xa 3,xa 4,xa 5,xa 6,xa 7,xa 8,xa 9,xa 10,xa 11,xa 12,xa 13,.slice c9 ew c_,aX 0,aX 1,aX 2,aX 3,aX 4,aX 5,aX 6,aX 7,aX 8],dW jg 4 [.bool gC],dW jh gR [df cd 0]])/\cg 0 W w':=by
 refine pJ (bB c9 ew c_ cd xa aX jg gC jh k) body aN N [ak 0,ak 1,ak 2] Tryd.func45 λa ah=> ?_
 letI:=b4 ah;have aI:=bI.start W _ jy;refine bx bN [] (ae (iV 0 3 aI) (ae jf (ae (fa 30 14 1) (ae (iV 14 1 aI) (ae (iV 0 2 aI) (ae (nn ((aI.arr 0 rfl).arr kn) mj Bv) aO)))))) aP ?_ ah;obtain⟨Rw,eX⟩:=h1 (known.set k gC);have e_:Rw.length=known.length:=by rw[eX];exact List.length_set
 refine QD 0 (bB c9 ew c_ cd xa aX jg gC jh k) eX e0 kn e1 (ep hp0 (.tuple ⟨[]⟩)) (aI.arr 0 rfl) (show k<known.length by omega) ?_;intro jY lK ju dz w ah;have dr:=aI.lV 0 rfl (Bo lK ju);replace dr:=dr.BU;letI:=b4 ah;refine dO (dP dV) [] [] aO aP ?_ ah;exact bR h2 λw2 bm=>(by subst_vars;exact⟨(),rfl,(dr.done bm)⟩)
end aaM
namespace aaN
noncomputable def body:Code:=(Tryd.f43.body).getD .skip
def N:Nat:=55
noncomputable abbrev bz:=fj Tryd.prog Tryd.f43
def aN:b6:={sl:=b1 [(2,.func (.func 44) ⟨[]⟩ ⟨[4,5]⟩),(1,.agg ⟨[1,2,3]⟩),(0,0)],ms:=[],A:=start}
def bN:bd:=[(.dM 0,0),
 (.cn 80 0 0,0),
 (.cn 28 0 0,0),
 (.bA 25 0,.agg ⟨[9,10,11,12,13,14]⟩),
 (.bin .lss 3 31 (I 0),.bool false),
 (.cn 80 0 7,32),
 (.cn 73 32 0,32),
 (.bA 71 32,6),
 (.len #[71] 3 6,33),
 (.cn 80 0 6,34),
 (.bA 3 34,25),
 (.bin .geq 3 33 25,.bool true)]
def jX:dX:=[(55,[.agg ⟨[9,10,11,12,13,14]⟩,.agg ⟨[1,2,3]⟩],31)]
theorem e0:bz (at' 55 bN jX body aN)=some (I 16):=au
def cb:bd:=[(.dM 0,0),
 (.cn 80 0 0,0),
 (.cn 28 0 0,0),
 (.bA 25 0,.agg ⟨[9,10,11,12,13,14]⟩),
 (.bin .lss 3 31 (I 0),.bool false),
 (.cn 80 0 7,32),
 (.cn 73 32 0,32),
 (.bA 71 32,6),
 (.len #[71] 3 6,33),
 (.cn 80 0 6,34),
 (.bA 3 34,25),
 (.bin .geq 3 33 25,.bool false)]
def h':dX:=[(55,[.agg ⟨[9,10,11,12,13,14]⟩,.agg ⟨[1,2,3]⟩],31)]
theorem e1:g_ (at' 55 cb h' body aN)=some (44,[31,4,5]):=au
abbrev gy:=at' 55 cb h' body aN
def dD:List bu:=[]
def hd0:aF:=b1 [(7,31),(6,I 0),(0,0)]
def hp0:aF:=e6 55 hd0 32 (.tuple ⟨[]⟩)
theorem hA:cp (kL Tryd.prog gy) hd0 dD=some [(0,0),(31,31)]:=au
def dV:dU:=(body,[1,1,1,0],3)
def dk:bd:=[(.dM 0,0),
 (.cn 80 0 7,32),
 (.cn 80 0 0,0),
 (.cn 28 0 1,35),
 (.bA 26 35,7),
 (.dG 26 7 31,36),
 (.bA 3 36,37),
 (.cn 80 0 2,38),
 (.bA 30 38,8),
 (.dG 30 8 31,39),
 (.bA 4 39,40)]
abbrev jv:=cI 55 dk [] dV {sl:=hp0,ms:=[],A:=c6 dD}
def hy:List bu:=[]
def hv:aF:=b1 [(35,32),(6,I 0)]
def hp1:aF:=(bV.set 41 depth hv 53).getD .nil
theorem e9:se jv 0 53=some ([31,37,40],1,1):=au
theorem n_:cp (b7 jv) hv hy=some [(32,32)]:=au
theorem nu:bV.set 41 depth hv 53=some hp1:=au
theorem kR:g_ ((ld (b3 hp1 hy) jv))=some (69,[32,41]):=au
abbrev pg:=(ld {sl:=hp1,ms:=[],A:=c6 hy} jv)
def kf:List bu:=[]
def kS:aF:=b1 [(6,I 0)]
def hp2:aF:=e6 55 kS 54 (.tuple ⟨[]⟩)
theorem tJ:cp (kL Tryd.prog pg) kS kf=some []:=au
def je:dU:=(body,[1,1,1,1,0],22)
theorem tK:bz (cI 55 [] [] je (b3 hp2 kf))=some (I 0):=au
def fI:bd:=[(.dM 0,0),
 (.cn 80 0 0,0),
 (.cn 28 0 0,0),
 (.bA 25 0,.agg ⟨[9,10,11,12,13,14]⟩)]
def qo:dX:=[(55,[.agg ⟨[9,10,11,12,13,14]⟩,.agg ⟨[1,2,3]⟩],I (-1))]
theorem rE:bz (at' 55 fI qo body aN)=some (I 1):=au
@[reducible] noncomputable def bB (cK:List gx) (eT:ch) (eU:Nat) (bP:ch) (bJ bQ:Nat) (known:List Bool) (c9:ch) (ew c_ cd:Nat) (b:bT) (xa:Nat->J) (aX:Nat->J) (most:Int) (xc:Nat->J) (jg:Nat) (cell:Int) (jh:Nat) (p:ej) (xx:List Int:=[]) (g1:Nat:=0) (nw:List gx:=[]) (jZ:ch:=none) (j0:Nat:=0):List J:=[df cd 0,I p.1,I p.2.1,I p.2.2,df jg 0,df jh 0,br eT cK eU,.slice bP bJ bQ,.slice c9 ew c_,I b.1,I b.2.1,I b.2.2.1,I b.2.2.2.1,I b.2.2.2.2.1,I b.2.2.2.2.2,xa 0,xa 1,xa 2,xa 3,xa 4,xa 5,xa 6,aX 0,aX 1,aX 2,I most,xc 0,xc 1,xc 2,xc 3,I cell,I ((b_ b p:Nat):Int),df cd 19,I ((cK.length:Nat):Int),df cd 18,df cd 6,hb (.slice bP bJ bQ) (b_ b p*1),I (xx.getD (b_ b p) default),df cd 14,hb (.slice c9 ew c_) (b_ b p*1),.bool (known.getD (b_ b p) default),.slice (some ⟨g1,0,none⟩) 1 1,br jZ nw j0]
theorem any (W:ax) {cK:List gx} {eT:ch} {eU:Nat} {cells:List Int} {bP:ch} {bJ bQ:Nat} {known:List Bool} {c9:ch} {ew c_ cd:Nat} {b:bT} {xa:Nat->J} {aX:Nat->J} {most:Int} {xc:Nat->J} {jg:Nat} {cell:Int} {jh:Nat} (jy:cG (aG W) [tz eT cK eU,np bP bJ bQ cells,oH c9 ew c_ known,dW cd 80 [I b.1,I b.2.1,I b.2.2.1,I b.2.2.2.1,I b.2.2.2.2.1,I b.2.2.2.2.2,.slice bP bJ bQ,xa 0,xa 1,xa 2,xa 3,xa 4,xa 5,xa 6,.slice c9 ew c_,aX 0,aX 1,aX 2,I most,br eT cK eU,xc 0,xc 1,xc 2,xc 3],dW jg 3 [I cell],dW jh 34 [df cd 0]]) (p:ej) (af:okB b) (hl:cells.length=(ft b).toNat) (al:known.length=cells.length) (ao:cK.length<=400000):Calls Tryd.prog 43 #[df cd 0,P.val p,.func (.func 44) #[] #[df jg 0,df jh 0]] W λe w'=>(∃y:ch×Nat,e= .returned (I (jF b most p cK))/\cV (aG W) [tz eT cK eU,np bP bJ bQ cells,oH c9 ew c_ known,dW cd 80 [I b.1,I b.2.1,I b.2.2.1,I b.2.2.2.1,I b.2.2.2.2.1,I b.2.2.2.2.2,.slice bP bJ bQ,xa 0,xa 1,xa 2,xa 3,xa 4,xa 5,xa 6,.slice c9 ew c_,aX 0,aX 1,aX 2,I most,br eT cK eU,xc 0,xc 1,xc 2,xc 3],dW jg 3 [I cell],dW jh 34 [df cd 0]] (aG w') [nI rr 3 nc (.slice y.1 (mO b most p cK (b_ b p,cell,known.getD (b_ b p) default)).length y.2) (mO b most p cK (b_ b p,cell,known.getD (b_ b p) default)),ht kJ 1 gf (.slice bP bJ bQ) (pL b most p cK cells cell),oH c9 ew c_ known,dW cd qK (List.set [I b.1,I b.2.1,I b.2.2.1,I b.2.2.2.1,I b.2.2.2.2.1,I b.2.2.2.2.2,.slice bP bJ bQ,xa 0,xa 1,xa 2,xa 3,xa 4,xa 5,xa 6,.slice c9 ew c_,aX 0,aX 1,aX 2,I most,br eT cK eU,xc 0,xc 1,xc 2,xc 3] 19 (.slice y.1 (mO b most p cK (b_ b p,cell,known.getD (b_ b p) default)).length y.2)),dW jg 3 [I cell],dW jh gR [df cd 0]])/\cg 0 W w':=by
 refine pJ (bB cK eT eU bP bJ bQ known c9 ew c_ cd b xa aX most xc jg cell jh p) body aN N [ak 0,.agg ⟨[ak 1,ak 2,ak 3]⟩,.func (.func 44) ⟨[]⟩ ⟨[ak 4,ak 5]⟩] Tryd.func43 λa ah=> ?_
 letI:=b4 ah;have aI:=bI.start W _ jy;have fB:bS p b->b_ b p<cells.length:=λh=>hl▸Ll h
 by_cases h0:bS p b
 ·replace fB:=fB h0
  by_cases ad:most<=((cK.length:Nat):Int)
  ·refine bx bN jX (ae jf (ae (fa 28 0 7) (ae (fa 25 0 6) (ae (vY 0 6 3 aI) (ae aS (ae (fa 73 19 1) (ae (fa 71 0 1) (ae (iV 19 3 aI) (ae (eM ((aI.iT 0 rfl).arr vK) Bx) (ae (fa 3 18 1) (ae (iV 18 3 aI) (ae a8 aO)))))))))))) (cD (Lk U U U U af h0) aP) ?_ ah
   exact bR e0 λw2 bm=>(by (obtain⟨q1,aH,bW⟩:=aaI (x:=(b_ b p,cell,known.getD (b_ b p) default)) (l:=cells) (v:=cell) bK bK;rw[q1,aH,bW];exact⟨(_,_),rfl,((aI.pick [0,1,2,3,4,5] rfl).done bm)⟩))
  ·refine bx cb h' (ae jf (ae (fa 28 0 7) (ae (fa 25 0 6) (ae (vY 0 6 3 aI) (ae aS (ae (fa 73 19 1) (ae (fa 71 0 1) (ae (iV 19 3 aI) (ae (eM ((aI.iT 0 rfl).arr vK) Bx) (ae (fa 3 18 1) (ae (iV 18 3 aI) (ae aS aO)))))))))))) (cD (Lk U U U U af h0) aP) ?_ ah
   obtain⟨xx,Lm⟩:=h1 (cells.set (b_ b p) cell);have HM:xx.length=cells.length:=by rw[Lm,List.length_set]
   refine hF (Y:=Unit) (bj:=λaV=>(bB cK eT eU bP bJ bQ known c9 ew c_ cd b xa aX most xc jg cell jh p xx)) aI [1,3,4,5] (λ_=>[xl _ _ _ bP bJ bQ xx,_,_,_]) (λ_=>[]) e1 hA (ep hp0 (.tuple ⟨[]⟩)) (fA:=λw hw cT aw=>by rw[Lm];exact aaL.any (xa:=mH [I b.1,I b.2.1,I b.2.2.1,I b.2.2.2.1,I b.2.2.2.2.1,I b.2.2.2.2.2] 0) (aX:=mH [xa 0,xa 1,xa 2,xa 3,xa 4,xa 5,xa 6,.slice c9 ew c_,aX 0,aX 1,aX 2,I most,br eT cK eU,xc 0,xc 1,xc 2,xc 3] 0) _ aw (b_ b p) aj) (rest:= ?_);intro jY _ dr dz w ah;replace dr:=dr.z8;letI:=b4 ah;refine dO (dP dV) dk [] (ae jf (ae (fa 73 19 1) (ae (fa 28 0 7) (ae (fa 26 6 1) (ae (iV 6 3 dr) (ae (nn ((dr.arr 1 rfl).arr kk) iA uz) (ae (qg 0 ((dr.arr 1 rfl).arr kk) (lJ (b_ b p)) vy) (ae (fa 30 14 1) (ae (iV 14 3 dr) (ae (nn ((dr.arr 2 rfl).arr kn) mj Bv) (ae (qg 0 ((dr.arr 2 rfl).arr kn) (lJ (b_ b p)) JC) aO))))))))))) aP ?_ ah;refine uD (enc:=nc) (xs:=[(b_ b p,(xx.getD (b_ b p) default),(known.getD (b_ b p) default))]) (q:=41) (bj:=λfJ=>(bB cK eT eU bP bJ bQ known c9 ew c_ cd b xa aX most xc jg cell jh p xx fJ)) e9 vK rfl cB cB U U (gG rfl) n_ (λ_ _=>fq) nu (λ_=>rfl) ?_;intro nf g1 qw q' Ce mq h5;have gq:=dr.new (sf qw Ce mq h5);letI:=b4 ah;obtain⟨nw,rJ⟩:=h1 (cK++[(b_ b p,(xx.getD (b_ b p) default),(known.getD (b_ b p) default))]);refine hF (Y:=eD) (bj:=λaV=>(bB cK eT eU bP bJ bQ known c9 ew c_ cd b xa aX most xc jg cell jh p xx g1 nw aV.1 aV.2)) gq [0,6,3] (λaV=>[xk _ _ _ aV.1 nw aV.2,_,dW _ _ [_,_,_,_,_,_,_,_,_,_,_,_,_,_,_,_,_,_,_,br aV.1 nw aV.2,_,_,_,_]]) (λ_=>[]) kR tJ (ep hp2 (.tuple ⟨[]⟩)) (fA:=λw hw cT aw=>by rw[rJ];exact Ru.any (x:=[(b_ b p,(xx.getD (b_ b p) default),(known.getD (b_ b p) default))]) (xa:=mH [I b.1,I b.2.1,I b.2.2.1,I b.2.2.2.1,I b.2.2.2.2.1,I b.2.2.2.2.2,.slice bP bJ bQ,xa 0,xa 1,xa 2,xa 3,xa 4,xa 5,xa 6,.slice c9 ew c_,aX 0,aX 1,aX 2,I most,br eT cK eU,xc 0,xc 1,xc 2,xc 3] 0) (aX:=mH [I b.1,I b.2.1,I b.2.2.1,I b.2.2.2.1,I b.2.2.2.2.1,I b.2.2.2.2.2,.slice bP bJ bQ,xa 0,xa 1,xa 2,xa 3,xa 4,xa 5,xa 6,.slice c9 ew c_,aX 0,aX 1,aX 2,I most,br eT cK eU,xc 0,xc 1,xc 2,xc 3] 20) _ aw (by simp only [List.length_cons,List.length_nil];omega)) (rest:= ?_);intro ng ⟨jZ,j0⟩ ic dz w ah;replace ic:=ic.QA;letI:=b4 ah;refine dO (dP je) [] [] aO aP ?_ ah;exact bR tK λw2 bm=>(by (obtain⟨q1,aH,bW⟩:=aaH (x:=(b_ b p,cell,known.getD (b_ b p) default)) (l:=cells) (v:=cell) bK bK;rw[q1,aH,bW];rw[Lm,aaK aj] at rJ;subst Lm rJ;exact⟨(_,_),rfl,((ic.pick [0,1,2,3,4,5] rfl).done bm)⟩))
 ·refine bx fI qo (ae jf (ae (fa 28 0 7) (ae (fa 25 0 6) (ae (vY 0 6 3 aI) aO)))) (cD (aaG U U U U af h0) aP) ?_ ah
  exact bR rE λw2 bm=>(by (obtain⟨q1,aH,bW⟩:=aaJ (x:=(b_ b p,cell,known.getD (b_ b p) default)) (l:=cells) (v:=cell) (most:=most) (reqs:=cK) bK;rw[q1,aH,bW];exact⟨(_,_),rfl,((aI.pick [0,1,2,3,4,5] rfl).done bm)⟩))
end aaN
namespace aaO
noncomputable def body:Code:=(Tryd.f43.body).getD .skip
def N:Nat:=55
noncomputable abbrev bz:=fj Tryd.prog Tryd.f43
def aN:b6:={sl:=b1 [(2,.func (.func 45) ⟨[]⟩ ⟨[4,5]⟩),(1,.agg ⟨[1,2,3]⟩),(0,0)],ms:=[],A:=start}
def bN:bd:=[(.dM 0,0),
 (.cn 80 0 0,0),
 (.cn 28 0 0,0),
 (.bA 25 0,.agg ⟨[9,10,11,12,13,14]⟩),
 (.bin .lss 3 31 (I 0),.bool false),
 (.cn 80 0 7,32),
 (.cn 73 32 0,32),
 (.bA 71 32,6),
 (.len #[71] 3 6,33),
 (.cn 80 0 6,34),
 (.bA 3 34,25),
 (.bin .geq 3 33 25,.bool true)]
def jX:dX:=[(55,[.agg ⟨[9,10,11,12,13,14]⟩,.agg ⟨[1,2,3]⟩],31)]
theorem e0:bz (at' 55 bN jX body aN)=some (I 16):=au
def cb:bd:=[(.dM 0,0),
 (.cn 80 0 0,0),
 (.cn 28 0 0,0),
 (.bA 25 0,.agg ⟨[9,10,11,12,13,14]⟩),
 (.bin .lss 3 31 (I 0),.bool false),
 (.cn 80 0 7,32),
 (.cn 73 32 0,32),
 (.bA 71 32,6),
 (.len #[71] 3 6,33),
 (.cn 80 0 6,34),
 (.bA 3 34,25),
 (.bin .geq 3 33 25,.bool false)]
def h':dX:=[(55,[.agg ⟨[9,10,11,12,13,14]⟩,.agg ⟨[1,2,3]⟩],31)]
theorem e1:g_ (at' 55 cb h' body aN)=some (45,[31,4,5]):=au
abbrev gy:=at' 55 cb h' body aN
def dD:List bu:=[]
def hd0:aF:=b1 [(7,31),(6,I 0),(0,0)]
def hp0:aF:=e6 55 hd0 32 (.tuple ⟨[]⟩)
theorem hA:cp (kL Tryd.prog gy) hd0 dD=some [(0,0),(31,31)]:=au
def dV:dU:=(body,[1,1,1,0],3)
def dk:bd:=[(.dM 0,0),
 (.cn 80 0 7,32),
 (.cn 80 0 0,0),
 (.cn 28 0 1,35),
 (.bA 26 35,7),
 (.dG 26 7 31,36),
 (.bA 3 36,37),
 (.cn 80 0 2,38),
 (.bA 30 38,8),
 (.dG 30 8 31,39),
 (.bA 4 39,40)]
abbrev jv:=cI 55 dk [] dV {sl:=hp0,ms:=[],A:=c6 dD}
def hy:List bu:=[]
def hv:aF:=b1 [(35,32),(6,I 0)]
def hp1:aF:=(bV.set 41 depth hv 53).getD .nil
theorem e9:se jv 0 53=some ([31,37,40],1,1):=au
theorem n_:cp (b7 jv) hv hy=some [(32,32)]:=au
theorem nu:bV.set 41 depth hv 53=some hp1:=au
theorem kR:g_ ((ld (b3 hp1 hy) jv))=some (69,[32,41]):=au
abbrev pg:=(ld {sl:=hp1,ms:=[],A:=c6 hy} jv)
def kf:List bu:=[]
def kS:aF:=b1 [(6,I 0)]
def hp2:aF:=e6 55 kS 54 (.tuple ⟨[]⟩)
theorem tJ:cp (kL Tryd.prog pg) kS kf=some []:=au
def je:dU:=(body,[1,1,1,1,0],22)
theorem tK:bz (cI 55 [] [] je (b3 hp2 kf))=some (I 0):=au
def fI:bd:=[(.dM 0,0),
 (.cn 80 0 0,0),
 (.cn 28 0 0,0),
 (.bA 25 0,.agg ⟨[9,10,11,12,13,14]⟩)]
def qo:dX:=[(55,[.agg ⟨[9,10,11,12,13,14]⟩,.agg ⟨[1,2,3]⟩],I (-1))]
theorem rE:bz (at' 55 fI qo body aN)=some (I 1):=au
@[reducible] noncomputable def bB (cK:List gx) (eT:ch) (eU:Nat) (cells:List Int) (bP:ch) (bJ bQ:Nat) (c9:ch) (ew c_ cd:Nat) (b:bT) (xa:Nat->J) (aX:Nat->J) (most:Int) (xc:Nat->J) (jg:Nat) (gC:Bool) (jh:Nat) (p:ej) (xy:List Bool:=[]) (g1:Nat:=0) (nw:List gx:=[]) (jZ:ch:=none) (j0:Nat:=0):List J:=[df cd 0,I p.1,I p.2.1,I p.2.2,df jg 0,df jh 0,br eT cK eU,.slice bP bJ bQ,.slice c9 ew c_,I b.1,I b.2.1,I b.2.2.1,I b.2.2.2.1,I b.2.2.2.2.1,I b.2.2.2.2.2,xa 0,xa 1,xa 2,xa 3,xa 4,xa 5,xa 6,aX 0,aX 1,aX 2,I most,xc 0,xc 1,xc 2,xc 3,.bool gC,I ((b_ b p:Nat):Int),df cd 19,I ((cK.length:Nat):Int),df cd 18,df cd 6,hb (.slice bP bJ bQ) (b_ b p*1),I (cells.getD (b_ b p) default),df cd 14,hb (.slice c9 ew c_) (b_ b p*1),.bool (xy.getD (b_ b p) default),.slice (some ⟨g1,0,none⟩) 1 1,br jZ nw j0]
theorem any (W:ax) {cK:List gx} {eT:ch} {eU:Nat} {cells:List Int} {bP:ch} {bJ bQ:Nat} {known:List Bool} {c9:ch} {ew c_ cd:Nat} {b:bT} {xa:Nat->J} {aX:Nat->J} {most:Int} {xc:Nat->J} {jg:Nat} {gC:Bool} {jh:Nat} (jy:cG (aG W) [tz eT cK eU,np bP bJ bQ cells,oH c9 ew c_ known,dW cd 80 [I b.1,I b.2.1,I b.2.2.1,I b.2.2.2.1,I b.2.2.2.2.1,I b.2.2.2.2.2,.slice bP bJ bQ,xa 0,xa 1,xa 2,xa 3,xa 4,xa 5,xa 6,.slice c9 ew c_,aX 0,aX 1,aX 2,I most,br eT cK eU,xc 0,xc 1,xc 2,xc 3],dW jg 4 [.bool gC],dW jh 34 [df cd 0]]) (p:ej) (af:okB b) (hl:cells.length=(ft b).toNat) (al:known.length=cells.length) (ao:cK.length<=400000):Calls Tryd.prog 43 #[df cd 0,P.val p,.func (.func 45) #[] #[df jg 0,df jh 0]] W λe w'=>(∃y:ch×Nat,e= .returned (I (jF b most p cK))/\cV (aG W) [tz eT cK eU,np bP bJ bQ cells,oH c9 ew c_ known,dW cd 80 [I b.1,I b.2.1,I b.2.2.1,I b.2.2.2.1,I b.2.2.2.2.1,I b.2.2.2.2.2,.slice bP bJ bQ,xa 0,xa 1,xa 2,xa 3,xa 4,xa 5,xa 6,.slice c9 ew c_,aX 0,aX 1,aX 2,I most,br eT cK eU,xc 0,xc 1,xc 2,xc 3],dW jg 4 [.bool gC],dW jh 34 [df cd 0]] (aG w') [nI rr 3 nc (.slice y.1 (mO b most p cK (b_ b p,cells.getD (b_ b p) default,gC)).length y.2) (mO b most p cK (b_ b p,cells.getD (b_ b p) default,gC)),np bP bJ bQ cells,ht n3 1 iL (.slice c9 ew c_) (pL b most p cK known gC),dW cd qK (List.set [I b.1,I b.2.1,I b.2.2.1,I b.2.2.2.1,I b.2.2.2.2.1,I b.2.2.2.2.2,.slice bP bJ bQ,xa 0,xa 1,xa 2,xa 3,xa 4,xa 5,xa 6,.slice c9 ew c_,aX 0,aX 1,aX 2,I most,br eT cK eU,xc 0,xc 1,xc 2,xc 3] 19 (.slice y.1 (mO b most p cK (b_ b p,cells.getD (b_ b p) default,gC)).length y.2)),dW jg 4 [.bool gC],dW jh gR [df cd 0]])/\cg 0 W w':=by
 refine pJ (bB cK eT eU cells bP bJ bQ c9 ew c_ cd b xa aX most xc jg gC jh p) body aN N [ak 0,.agg ⟨[ak 1,ak 2,ak 3]⟩,.func (.func 45) ⟨[]⟩ ⟨[ak 4,ak 5]⟩] Tryd.func43 λa ah=> ?_
 letI:=b4 ah;have aI:=bI.start W _ jy;have fB:bS p b->b_ b p<cells.length:=λh=>hl▸Ll h
 by_cases h0:bS p b
 ·replace fB:=fB h0
  by_cases ad:most<=((cK.length:Nat):Int)
  ·refine bx bN jX (ae jf (ae (fa 28 0 7) (ae (fa 25 0 6) (ae (vY 0 6 3 aI) (ae aS (ae (fa 73 19 1) (ae (fa 71 0 1) (ae (iV 19 3 aI) (ae (eM ((aI.iT 0 rfl).arr vK) Bx) (ae (fa 3 18 1) (ae (iV 18 3 aI) (ae a8 aO)))))))))))) (cD (Lk U U U U af h0) aP) ?_ ah
   exact bR e0 λw2 bm=>(by (obtain⟨q1,aH,bW⟩:=aaI (x:=(b_ b p,cells.getD (b_ b p) default,gC)) (l:=known) (v:=gC) bK bK;rw[q1,aH,bW];exact⟨(_,_),rfl,((aI.pick [0,1,2,3,4,5] rfl).done bm)⟩))
  ·refine bx cb h' (ae jf (ae (fa 28 0 7) (ae (fa 25 0 6) (ae (vY 0 6 3 aI) (ae aS (ae (fa 73 19 1) (ae (fa 71 0 1) (ae (iV 19 3 aI) (ae (eM ((aI.iT 0 rfl).arr vK) Bx) (ae (fa 3 18 1) (ae (iV 18 3 aI) (ae aS aO)))))))))))) (cD (Lk U U U U af h0) aP) ?_ ah
   obtain⟨xy,Ln⟩:=h1 (known.set (b_ b p) gC);have HM:xy.length=known.length:=by rw[Ln,List.length_set]
   refine hF (Y:=Unit) (bj:=λaV=>(bB cK eT eU cells bP bJ bQ c9 ew c_ cd b xa aX most xc jg gC jh p xy)) aI [2,3,4,5] (λ_=>[xl _ _ _ c9 ew c_ xy,_,_,_]) (λ_=>[]) e1 hA (ep hp0 (.tuple ⟨[]⟩)) (fA:=λw hw cT aw=>by rw[Ln];exact aaM.any (xa:=mH [I b.1,I b.2.1,I b.2.2.1,I b.2.2.2.1,I b.2.2.2.2.1,I b.2.2.2.2.2,.slice bP bJ bQ,xa 0,xa 1,xa 2,xa 3,xa 4,xa 5,xa 6] 0) (aX:=mH [aX 0,aX 1,aX 2,I most,br eT cK eU,xc 0,xc 1,xc 2,xc 3] 0) _ aw (b_ b p) aj) (rest:= ?_);intro jY _ dr dz w ah;replace dr:=dr.z8;letI:=b4 ah;refine dO (dP dV) dk [] (ae jf (ae (fa 73 19 1) (ae (fa 28 0 7) (ae (fa 26 6 1) (ae (iV 6 3 dr) (ae (nn ((dr.arr 1 rfl).arr kk) iA uz) (ae (qg 0 ((dr.arr 1 rfl).arr kk) (lJ (b_ b p)) vy) (ae (fa 30 14 1) (ae (iV 14 3 dr) (ae (nn ((dr.arr 2 rfl).arr kn) mj Bv) (ae (qg 0 ((dr.arr 2 rfl).arr kn) (lJ (b_ b p)) JC) aO))))))))))) aP ?_ ah;refine uD (enc:=nc) (xs:=[(b_ b p,(cells.getD (b_ b p) default),(xy.getD (b_ b p) default))]) (q:=41) (bj:=λfJ=>(bB cK eT eU cells bP bJ bQ c9 ew c_ cd b xa aX most xc jg gC jh p xy fJ)) e9 vK rfl cB cB U U (gG rfl) n_ (λ_ _=>fq) nu (λ_=>rfl) ?_;intro nf g1 qw q' Ce mq h5;have gq:=dr.new (sf qw Ce mq h5);letI:=b4 ah;obtain⟨nw,rJ⟩:=h1 (cK++[(b_ b p,(cells.getD (b_ b p) default),(xy.getD (b_ b p) default))]);refine hF (Y:=eD) (bj:=λaV=>(bB cK eT eU cells bP bJ bQ c9 ew c_ cd b xa aX most xc jg gC jh p xy g1 nw aV.1 aV.2)) gq [0,6,3] (λaV=>[xk _ _ _ aV.1 nw aV.2,_,dW _ _ [_,_,_,_,_,_,_,_,_,_,_,_,_,_,_,_,_,_,_,br aV.1 nw aV.2,_,_,_,_]]) (λ_=>[]) kR tJ (ep hp2 (.tuple ⟨[]⟩)) (fA:=λw hw cT aw=>by rw[rJ];exact Ru.any (x:=[(b_ b p,(cells.getD (b_ b p) default),(xy.getD (b_ b p) default))]) (xa:=mH [I b.1,I b.2.1,I b.2.2.1,I b.2.2.2.1,I b.2.2.2.2.1,I b.2.2.2.2.2,.slice bP bJ bQ,xa 0,xa 1,xa 2,xa 3,xa 4,xa 5,xa 6,.slice c9 ew c_,aX 0,aX 1,aX 2,I most,br eT cK eU,xc 0,xc 1,xc 2,xc 3] 0) (aX:=mH [I b.1,I b.2.1,I b.2.2.1,I b.2.2.2.1,I b.2.2.2.2.1,I b.2.2.2.2.2,.slice bP bJ bQ,xa 0,xa 1,xa 2,xa 3,xa 4,xa 5,xa 6,.slice c9 ew c_,aX 0,aX 1,aX 2,I most,br eT cK eU,xc 0,xc 1,xc 2,xc 3] 20) _ aw (by simp only [List.length_cons,List.length_nil];omega)) (rest:= ?_);intro ng ⟨jZ,j0⟩ ic dz w ah;replace ic:=ic.QA;letI:=b4 ah;refine dO (dP je) [] [] aO aP ?_ ah;exact bR tK λw2 bm=>(by (obtain⟨q1,aH,bW⟩:=aaH (x:=(b_ b p,cells.getD (b_ b p) default,gC)) (l:=known) (v:=gC) bK bK;rw[q1,aH,bW];rw[Ln,aaK aj] at rJ;subst Ln rJ;exact⟨(_,_),rfl,((ic.pick [0,1,2,3,4,5] rfl).done bm)⟩))
 ·refine bx fI qo (ae jf (ae (fa 28 0 7) (ae (fa 25 0 6) (ae (vY 0 6 3 aI) aO)))) (cD (aaG U U U U af h0) aP) ?_ ah
  exact bR rE λw2 bm=>(by (obtain⟨q1,aH,bW⟩:=aaJ (x:=(b_ b p,cells.getD (b_ b p) default,gC)) (l:=known) (v:=gC) (most:=most) (reqs:=cK) bK;rw[q1,aH,bW];exact⟨(_,_),rfl,((aI.pick [0,1,2,3,4,5] rfl).done bm)⟩))
end aaO
end AE
namespace AE
def sF (c:Int):Prop:=0<=c/\c<256
instance (c:Int):Decidable (sF c):=by unfold sF;infer_instance
def l5 (b:bT) (most:Int) (p:ej) (reqs:List gx) (c:Int):Int:=if sF c then jF b most p reqs else 1
def y1 (b:bT) (most:Int) (p:ej) (reqs:List gx) (c:Int) (x:gx):List gx:=if sF c then mO b most p reqs x else reqs
def Cg {α:Type} (b:bT) (most:Int) (p:ej) (reqs:List gx) (c:Int) (l:List α) (v:α):List α:=if sF c then pL b most p reqs l v else l
variable {α:Type} {b:bT} {most:Int} {p:ej} {reqs:List gx} {x:gx} {l:List α} {v:α} {c:Int}
theorem Rz (h:0<=c) (ag:c<256):l5 b most p reqs c=jF b most p reqs/\y1 b most p reqs c x=mO b most p reqs x/\Cg b most p reqs c l v=pL b most p reqs l v:=⟨aY ⟨h,ag⟩,aY ⟨h,ag⟩,aY ⟨h,ag⟩⟩
theorem RA (h:c<0\/256<=c):l5 b most p reqs c=1/\y1 b most p reqs c x=reqs/\Cg b most p reqs c l v=l:=by
 have av:¬sF c:=by unfold sF;omega
 exact⟨a' av,a' av,a' av⟩
end AE
namespace AE
namespace aaP
noncomputable def body:Code:=(Tryd.f18.body).getD .skip
def N:Nat:=17
noncomputable abbrev bz:=fj Tryd.prog Tryd.f18
def aN:b6:={sl:=b1 [(2,4),(1,.agg ⟨[1,2,3]⟩),(0,0)],ms:=[],A:=start}
def bN:bd:=[(.d' (I 34),I 34),
 (.d' (I 3),I 3)]
theorem e0:uB (at' 17 bN [] body aN)=some (34,0):=au
abbrev gy:=at' 17 bN [] body aN
def dD:List bu:=[]
def hd0:aF:=b1 [(2,4),(1,.agg ⟨[1,2,3]⟩)]
def hp0:aF:=e6 17 hd0 3 29
theorem e1:cp (b7 gy) hd0 dD=some [(1,1),(2,2),(3,3),(4,4)]:=au
def dV:dU:=(body,[0],1)
theorem h2:uB (cI 17 bN [] dV (b3 hp0 dD))=some (3,4):=au
abbrev jv:=cI 17 bN [] dV {sl:=hp0,ms:=[],A:=c6 dD}
def hy:List bu:=[⟨.cells [1,2,3],23,0⟩]
def hv:aF:=b1 [(4,df 0 0),(3,29)]
def hp1:aF:=e6 17 hv 5 30
theorem jJ:cp (b7 jv) hv hy=some [(29,29),(1,1),(2,2),(3,3)]:=au
def iB:dU:=(body,[0],3)
def cb:bd:=[(.d' (I 34),I 34),
 (.d' (I 3),I 3),
 (.bA 3 30,4),
 (.bin .lss 3 4 (I 0),.bool true)]
theorem kR:bz (cI 17 cb [] iB (b3 hp1 hy))=some (I 1):=au
def dk:bd:=[(.d' (I 34),I 34),
 (.d' (I 3),I 3),
 (.bA 3 30,4),
 (.bin .lss 3 4 (I 0),.bool false),
 (.bin .geq 3 4 (I 256),.bool true)]
theorem ql:bz (cI 17 dk [] iB (b3 hp1 hy))=some (I 1):=au
def eg:bd:=[(.d' (I 34),I 34),
 (.d' (I 3),I 3),
 (.bA 3 30,4),
 (.bin .lss 3 4 (I 0),.bool false),
 (.bin .geq 3 4 (I 256),.bool false),
 (.bA 34 29,0)]
theorem yR:g_ (cI 17 eg [] iB (b3 hp1 hy))=some (43,[0,.agg ⟨[1,2,3]⟩,.func (.func 44) ⟨[]⟩ ⟨[30,29]⟩]):=au
abbrev pg:=cI 17 eg [] iB {sl:=hp1,ms:=[],A:=c6 hy}
def kf:List bu:=[]
def kS:aF:=b1 [(6,I 0)]
def hp2:aF:=e6 17 kS 16 32
theorem Cd:cp (b7 pg) kS kf=some []:=au
def je:dU:=(body,[1,1,0],4)
theorem B_:bz (cI 17 bN [] je (b3 hp2 kf))=some 32:=au
@[reducible] noncomputable def bB (cK:List gx) (eT:ch) (eU:Nat) (bP:ch) (bJ bQ:Nat) (c9:ch) (ew c_ cd:Nat) (b:bT) (xa:Nat->J) (aX:Nat->J) (most:Int) (xc:Nat->J) (p:ej) (cell:Int) (eF:Nat:=0) (g1:Nat:=0) (nw:List gx:=[]) (jZ:ch:=none) (j0:Nat:=0):List J:=[df cd 0,I p.1,I p.2.1,I p.2.2,I cell,br eT cK eU,.slice bP bJ bQ,.slice c9 ew c_,I b.1,I b.2.1,I b.2.2.1,I b.2.2.2.1,I b.2.2.2.2.1,I b.2.2.2.2.2,xa 0,xa 1,xa 2,xa 3,xa 4,xa 5,xa 6,aX 0,aX 1,aX 2,I most,xc 0,xc 1,xc 2,xc 3,df eF 0,df g1 0,br jZ nw j0,I (jF b most p cK)]
theorem any (W:ax) {cK:List gx} {eT:ch} {eU:Nat} {cells:List Int} {bP:ch} {bJ bQ:Nat} {known:List Bool} {c9:ch} {ew c_ cd:Nat} {b:bT} {xa:Nat->J} {aX:Nat->J} {most:Int} {xc:Nat->J} (jy:cG (aG W) [tz eT cK eU,np bP bJ bQ cells,oH c9 ew c_ known,dW cd 80 [I b.1,I b.2.1,I b.2.2.1,I b.2.2.2.1,I b.2.2.2.2.1,I b.2.2.2.2.2,.slice bP bJ bQ,xa 0,xa 1,xa 2,xa 3,xa 4,xa 5,xa 6,.slice c9 ew c_,aX 0,aX 1,aX 2,I most,br eT cK eU,xc 0,xc 1,xc 2,xc 3]]) (p:ej) (cell:Int) (af:okB b) (hl:cells.length=(ft b).toNat) (al:known.length=cells.length) (ao:cK.length<=400000):Calls Tryd.prog 18 #[df cd 0,P.val p,I cell] W λe w'=>(∃y:ch×Nat,e= .returned (I (l5 b most p cK cell))/\cV (aG W) [tz eT cK eU,np bP bJ bQ cells,oH c9 ew c_ known,dW cd 80 [I b.1,I b.2.1,I b.2.2.1,I b.2.2.2.1,I b.2.2.2.2.1,I b.2.2.2.2.2,.slice bP bJ bQ,xa 0,xa 1,xa 2,xa 3,xa 4,xa 5,xa 6,.slice c9 ew c_,aX 0,aX 1,aX 2,I most,br eT cK eU,xc 0,xc 1,xc 2,xc 3]] (aG w') [nI rr 3 nc (.slice y.1 (y1 b most p cK cell (b_ b p,cell,known.ev (b_ b p))).length y.2) (y1 b most p cK cell (b_ b p,cell,known.ev (b_ b p))),ht kJ 1 gf (.slice bP bJ bQ) (Cg b most p cK cell cells cell),oH c9 ew c_ known,dW cd qK (List.set [I b.1,I b.2.1,I b.2.2.1,I b.2.2.2.1,I b.2.2.2.2.1,I b.2.2.2.2.2,.slice bP bJ bQ,xa 0,xa 1,xa 2,xa 3,xa 4,xa 5,xa 6,.slice c9 ew c_,aX 0,aX 1,aX 2,I most,br eT cK eU,xc 0,xc 1,xc 2,xc 3] 19 (.slice y.1 (y1 b most p cK cell (b_ b p,cell,known.ev (b_ b p))).length y.2))])/\cg 0 W w':=by
 refine pJ (bB cK eT eU bP bJ bQ c9 ew c_ cd b xa aX most xc p cell) body aN N [ak 0,.agg ⟨[ak 1,ak 2,ak 3]⟩,ak 4] Tryd.func18 λa ah=> ?_
 letI:=b4 ah;have aI:=bI.start W _ jy;refine bx bN [] (ae (gB _) (ae (gB _) aO)) aP ?_ ah;refine w7 (u:=df cd 0) (cs:=[df cd 0]) (bj:=λfJ=>(bB cK eT eU bP bJ bQ c9 ew c_ cd b xa aX most xc p cell fJ)) e0 U U U e1 (ep hp0 29) rfl (λ_ fJ=>fq) (λ_ _=>rfl) ?_;intro jY eF e_ B9 ju dz w ah;have dr:=aI.new (td B9 e_ ju);replace dr:=dr.BV;letI:=b4 ah;refine dO (dP dV) bN [] (ae (gB _) (ae (gB _) aO)) aP ?_ ah;refine w7 (u:=I cell) (cs:=[I cell]) (bj:=λfJ=>(bB cK eT eU bP bJ bQ c9 ew c_ cd b xa aX most xc p cell eF fJ)) h2 U U U jJ (ep hp1 30) rfl (λ_ fJ=>fq) (λ_ _=>rfl) ?_;intro nf g1 h5 rl mq dz w ah;have gq:=dr.new (td rl h5 mq);replace gq:=gq.z8;letI:=b4 ah;by_cases kx:cell<0
 ·refine dO (dP iB) cb [] (ae (gB _) (ae (gB _) (ae (iV 0 5 gq) (ae a8 aO)))) aP ?_ ah
  exact bR kR λw2 bm=>(by first|(obtain⟨q1,aH,bW⟩:=RA (x:=(b_ b p,cell,known.ev (b_ b p))) (l:=cells) (v:=cell) (b:=b) (most:=most) (p:=p) (reqs:=cK) (c:=cell) aj;rw[q1,aH,bW];exact⟨(_,_),rfl,((gq.pick [0,1,2,3] rfl).done bm)⟩)|(obtain⟨q1,aH,bW⟩:=Rz (x:=(b_ b p,cell,known.ev (b_ b p))) (l:=cells) (v:=cell) (b:=b) (most:=most) (p:=p) (reqs:=cK) (c:=cell) aj aj;rw[q1,aH,bW];subst rJ Lo;exact⟨(_,_),rfl,((gq.pick [0,1,2,3] rfl).done bm)⟩))
 ·by_cases q1:256<=cell
  ·refine dO (dP iB) dk [] (ae (gB _) (ae (gB _) (ae (iV 0 5 gq) (ae aS (ae a8 aO))))) aP ?_ ah
   exact bR ql λw2 bm=>(by first|(obtain⟨q1,aH,bW⟩:=RA (x:=(b_ b p,cell,known.ev (b_ b p))) (l:=cells) (v:=cell) (b:=b) (most:=most) (p:=p) (reqs:=cK) (c:=cell) aj;rw[q1,aH,bW];exact⟨(_,_),rfl,((gq.pick [0,1,2,3] rfl).done bm)⟩)|(obtain⟨q1,aH,bW⟩:=Rz (x:=(b_ b p,cell,known.ev (b_ b p))) (l:=cells) (v:=cell) (b:=b) (most:=most) (p:=p) (reqs:=cK) (c:=cell) aj aj;rw[q1,aH,bW];subst rJ Lo;exact⟨(_,_),rfl,((gq.pick [0,1,2,3] rfl).done bm)⟩))
  ·refine dO (dP iB) eg [] (ae (gB _) (ae (gB _) (ae (iV 0 5 gq) (ae aS (ae aS (ae (iV 0 4 gq) aO)))))) aP ?_ ah
   obtain⟨nw,rJ⟩:=h1 (mO b most p cK (b_ b p,cell,known.ev (b_ b p)));obtain⟨akX,Lo⟩:=h1 (pL b most p cK cells cell);refine hF (Y:=eD) (bj:=λaV=>(bB cK eT eU bP bJ bQ c9 ew c_ cd b xa aX most xc p cell eF g1 nw aV.1 aV.2)) gq [0,1,2,3,5,4] (λaV=>[xk _ _ _ aV.1 nw aV.2,xl _ _ _ bP bJ bQ akX,_,dW _ _ [_,_,_,_,_,_,_,_,_,_,_,_,_,_,_,_,_,_,_,br aV.1 nw aV.2,_,_,_,_],_,_]) (λ_=>[]) yR Cd (ep hp2 32) (fA:=λw hw cT aw=>by rw[rJ,Lo];exact aaN.any (xa:=xa) (aX:=aX) (xc:=xc) _ aw p af hl al ao) (rest:= ?_);intro ng ⟨jZ,j0⟩ ic dz w ah;replace ic:=ic.z8;letI:=b4 ah;refine dO (dP je) bN [] (ae (gB _) (ae (gB _) aO)) aP ?_ ah;exact bR B_ λw2 bm=>(by first|(obtain⟨q1,aH,bW⟩:=RA (x:=(b_ b p,cell,known.ev (b_ b p))) (l:=cells) (v:=cell) (b:=b) (most:=most) (p:=p) (reqs:=cK) (c:=cell) aj;rw[q1,aH,bW];exact⟨(_,_),rfl,((ic.pick [0,1,2,3] rfl).done bm)⟩)|(obtain⟨q1,aH,bW⟩:=Rz (x:=(b_ b p,cell,known.ev (b_ b p))) (l:=cells) (v:=cell) (b:=b) (most:=most) (p:=p) (reqs:=cK) (c:=cell) aj aj;rw[q1,aH,bW];subst rJ Lo;exact⟨(_,_),rfl,((ic.pick [0,1,2,3] rfl).done bm)⟩))
end aaP
namespace aaQ
noncomputable def body:Code:=(Tryd.f19.body).getD .skip
def N:Nat:=11
def aN:b6:={sl:=b1 [(2,4),(1,.agg ⟨[1,2,3]⟩),(0,0)],ms:=[],A:=start}
def bN:bd:=[(.d' (I 34),I 34),
 (.d' (I 4),I 4)]
theorem e0:uB (at' 11 bN [] body aN)=some (34,0):=au
abbrev gy:=at' 11 bN [] body aN
def dD:List bu:=[]
def hd0:aF:=b1 [(2,4),(1,.agg ⟨[1,2,3]⟩)]
def hp0:aF:=e6 11 hd0 3 29
theorem e1:cp (b7 gy) hd0 dD=some [(1,1),(2,2),(3,3),(4,4)]:=au
def dV:dU:=(body,[0],1)
theorem h2:uB (cI 11 bN [] dV (b3 hp0 dD))=some (4,4):=au
abbrev jv:=cI 11 bN [] dV {sl:=hp0,ms:=[],A:=c6 dD}
def hy:List bu:=[⟨.cells [1,2,3],23,0⟩]
def hv:aF:=b1 [(4,df 0 0),(3,29)]
def hp1:aF:=e6 11 hv 5 30
theorem jJ:cp (b7 jv) hv hy=some [(29,29),(1,1),(2,2),(3,3)]:=au
def iB:dU:=(body,[0],3)
def cb:bd:=[(.d' (I 34),I 34),
 (.d' (I 4),I 4),
 (.bA 34 29,0)]
theorem kR:g_ (cI 11 cb [] iB (b3 hp1 hy))=some (43,[0,.agg ⟨[1,2,3]⟩,.func (.func 45) ⟨[]⟩ ⟨[30,29]⟩]):=au
abbrev pg:=cI 11 cb [] iB {sl:=hp1,ms:=[],A:=c6 hy}
def kf:List bu:=[]
def kS:aF:=b1 [(6,I 0)]
def hp2:aF:=e6 11 kS 10 32
theorem tJ:cp (b7 pg) kS kf=some []:=au
def je:dU:=(body,[1,0],4)
theorem tK:fj Tryd.prog Tryd.f19 (cI 11 bN [] je (b3 hp2 kf))=some 32:=au
@[reducible] noncomputable def bB (cK:List gx) (eT:ch) (eU:Nat) (bP:ch) (bJ bQ:Nat) (c9:ch) (ew c_ cd:Nat) (b:bT) (xa:Nat->J) (aX:Nat->J) (most:Int) (xc:Nat->J) (p:ej) (gC:Bool) (eF:Nat:=0) (g1:Nat:=0) (nw:List gx:=[]) (jZ:ch:=none) (j0:Nat:=0):List J:=[df cd 0,I p.1,I p.2.1,I p.2.2,.bool gC,br eT cK eU,.slice bP bJ bQ,.slice c9 ew c_,I b.1,I b.2.1,I b.2.2.1,I b.2.2.2.1,I b.2.2.2.2.1,I b.2.2.2.2.2,xa 0,xa 1,xa 2,xa 3,xa 4,xa 5,xa 6,aX 0,aX 1,aX 2,I most,xc 0,xc 1,xc 2,xc 3,df eF 0,df g1 0,br jZ nw j0,I (jF b most p cK)]
theorem any (W:ax) {cK:List gx} {eT:ch} {eU:Nat} {cells:List Int} {bP:ch} {bJ bQ:Nat} {known:List Bool} {c9:ch} {ew c_ cd:Nat} {b:bT} {xa:Nat->J} {aX:Nat->J} {most:Int} {xc:Nat->J} (jy:cG (aG W) [tz eT cK eU,np bP bJ bQ cells,oH c9 ew c_ known,dW cd 80 [I b.1,I b.2.1,I b.2.2.1,I b.2.2.2.1,I b.2.2.2.2.1,I b.2.2.2.2.2,.slice bP bJ bQ,xa 0,xa 1,xa 2,xa 3,xa 4,xa 5,xa 6,.slice c9 ew c_,aX 0,aX 1,aX 2,I most,br eT cK eU,xc 0,xc 1,xc 2,xc 3]]) (p:ej) (gC:Bool) (af:okB b) (hl:cells.length=(ft b).toNat) (al:known.length=cells.length) (ao:cK.length<=400000):Calls Tryd.prog 19 #[df cd 0,P.val p,.bool gC] W λe w'=>(∃y:ch×Nat,e= .returned (I (jF b most p cK))/\cV (aG W) [tz eT cK eU,np bP bJ bQ cells,oH c9 ew c_ known,dW cd 80 [I b.1,I b.2.1,I b.2.2.1,I b.2.2.2.1,I b.2.2.2.2.1,I b.2.2.2.2.2,.slice bP bJ bQ,xa 0,xa 1,xa 2,xa 3,xa 4,xa 5,xa 6,.slice c9 ew c_,aX 0,aX 1,aX 2,I most,br eT cK eU,xc 0,xc 1,xc 2,xc 3]] (aG w') [nI rr 3 nc (.slice y.1 (mO b most p cK (b_ b p,cells.ev (b_ b p),gC)).length y.2) (mO b most p cK (b_ b p,cells.ev (b_ b p),gC)),np bP bJ bQ cells,ht n3 1 iL (.slice c9 ew c_) (pL b most p cK known gC),dW cd qK (List.set [I b.1,I b.2.1,I b.2.2.1,I b.2.2.2.1,I b.2.2.2.2.1,I b.2.2.2.2.2,.slice bP bJ bQ,xa 0,xa 1,xa 2,xa 3,xa 4,xa 5,xa 6,.slice c9 ew c_,aX 0,aX 1,aX 2,I most,br eT cK eU,xc 0,xc 1,xc 2,xc 3] 19 (.slice y.1 (mO b most p cK (b_ b p,cells.ev (b_ b p),gC)).length y.2))])/\cg 0 W w':=by
 refine pJ (bB cK eT eU bP bJ bQ c9 ew c_ cd b xa aX most xc p gC) body aN N [ak 0,.agg ⟨[ak 1,ak 2,ak 3]⟩,ak 4] Tryd.func19 λa ah=> ?_
 letI:=b4 ah;have aI:=bI.start W _ jy;refine bx bN [] (ae (gB _) (ae (gB _) aO)) aP ?_ ah;refine w7 (u:=df cd 0) (cs:=[df cd 0]) (bj:=λfJ=>(bB cK eT eU bP bJ bQ c9 ew c_ cd b xa aX most xc p gC fJ)) e0 U U U e1 (ep hp0 29) rfl (λ_ fJ=>fq) (λ_ _=>rfl) ?_;intro jY eF e_ B9 ju dz w ah;have dr:=aI.new (td B9 e_ ju);replace dr:=dr.BV;letI:=b4 ah;refine dO (dP dV) bN [] (ae (gB _) (ae (gB _) aO)) aP ?_ ah;refine w7 (u:= .bool gC) (cs:=[.bool gC]) (bj:=λfJ=>(bB cK eT eU bP bJ bQ c9 ew c_ cd b xa aX most xc p gC eF fJ)) h2 U U U jJ (ep hp1 30) rfl (λ_ fJ=>fq) (λ_ _=>rfl) ?_;intro nf g1 h5 rl mq dz w ah;have gq:=dr.new (td rl h5 mq);replace gq:=gq.z8;letI:=b4 ah;refine dO (dP iB) cb [] (ae (gB _) (ae (gB _) (ae (iV 0 4 gq) aO))) aP ?_ ah;obtain⟨nw,rJ⟩:=h1 (mO b most p cK (b_ b p,cells.ev (b_ b p),gC));obtain⟨akY,aaR⟩:=h1 (pL b most p cK known gC);refine hF (Y:=eD) (bj:=λaV=>(bB cK eT eU bP bJ bQ c9 ew c_ cd b xa aX most xc p gC eF g1 nw aV.1 aV.2)) gq [0,1,2,3,5,4] (λaV=>[xk _ _ _ aV.1 nw aV.2,_,xl _ _ _ c9 ew c_ akY,dW _ _ [_,_,_,_,_,_,_,_,_,_,_,_,_,_,_,_,_,_,_,br aV.1 nw aV.2,_,_,_,_],_,_]) (λ_=>[]) kR tJ (ep hp2 32) (fA:=λw hw cT aw=>by rw[rJ,aaR];exact aaO.any (xa:=xa) (aX:=aX) (xc:=xc) _ aw p af hl al ao) (rest:= ?_);intro ng ⟨jZ,j0⟩ ic dz w ah;replace ic:=ic.z8;letI:=b4 ah;refine dO (dP je) bN [] (ae (gB _) (ae (gB _) aO)) aP ?_ ah;exact bR tK λw2 bm=>(by subst rJ aaR;exact⟨(_,_),rfl,((ic.pick [0,1,2,3] rfl).done bm)⟩)
end aaQ
end AE
namespace AE
namespace aaS
noncomputable def body:Code:=(Tryd.f51.body).getD .skip
def N:Nat:=16
def aN:b6:={sl:=b1 [(1,.func (.func 52) ⟨[]⟩ ⟨[0,1]⟩),(0,.agg ⟨[3,4,5,6,7,8,2]⟩)],ms:=[],A:=start}
theorem e0:g_ (at' 16 [] [] body aN)=some (77,[2]):=au
abbrev gy:=at' 16 [] [] body aN
def dD:List bu:=[⟨.cells [3,4,5,6,7,8,2],28,0⟩,⟨.cells [I 0,I 0,I 0,I 0,I 0,I 0,.slice none 0 0],28,0⟩]
def hd0:aF:=b1 [(4,df 1 0),(2,df 0 0),(1,.func (.func 52) ⟨[]⟩ ⟨[0,1]⟩)]
def hp0:aF:=e6 16 hd0 8 9
theorem e3:cp (kL Tryd.prog gy) hd0 dD=some [(0,0),(1,1),(3,3),(4,4),(5,5),(6,6),(7,7),(8,8),(2,2)]:=au
def dV:dU:=(body,[1,0],3)
def cb:bd:=[(.bA 28 0,.agg ⟨[3,4,5,6,7,8,2]⟩),
 (.cn 28 1 0,1),
 (.bA 25 1,.agg ⟨[I 0,I 0,I 0,I 0,I 0,I 0]⟩)]
def h':dX:=[(78,[.agg ⟨[3,4,5,6,7,8]⟩,.agg ⟨[I 0,I 0,I 0,I 0,I 0,I 0]⟩],.agg ⟨[I 0,I 0,I 0,I 0,I 0,I 0]⟩)]
theorem mB:fj Tryd.prog Tryd.f51 (cI 16 cb h' dV (b3 hp0 dD))=some (.agg ⟨[3,4,5,6,7,8,9]⟩):=au
@[reducible] noncomputable def bB (bP:ch) (bJ bQ qU:Nat) (b:bT) (qV:Nat) (sB:List Int:=[]) (ia:ch:=none) (ib:Nat:=0):List J:=[df qU 0,df qV 0,.slice bP bJ bQ,I b.1,I b.2.1,I b.2.2.1,I b.2.2.2.1,I b.2.2.2.2.1,I b.2.2.2.2.2,br ia sB ib]
theorem any (W:ax) {cells:List Int} {bP:ch} {bJ bQ qU:Nat} {b:bT} {qV:Nat} (jy:cG (aG W) [np bP bJ bQ cells,dW qU 28 [I b.1,I b.2.1,I b.2.2.1,I b.2.2.2.1,I b.2.2.2.2.1,I b.2.2.2.2.2,.slice bP bJ bQ],dW qV 28 [I 0,I 0,I 0,I 0,I 0,I 0,.slice none 0 0]]) (av:cells.length<=100000):Calls Tryd.prog 51 #[.agg ⟨[I b.1,I b.2.1,I b.2.2.1,I b.2.2.2.1,I b.2.2.2.2.1,I b.2.2.2.2.2,.slice bP bJ bQ]⟩,.func (.func 52) #[] #[df qU 0,df qV 0]] W λe w'=>(∃y:ch×Nat,e= .returned (.agg ⟨[I b.1,I b.2.1,I b.2.2.1,I b.2.2.2.1,I b.2.2.2.2.1,I b.2.2.2.2.2,br y.1 cells y.2]⟩)/\cV (aG W) [np bP bJ bQ cells,dW qU 28 [I b.1,I b.2.1,I b.2.2.1,I b.2.2.2.1,I b.2.2.2.2.1,I b.2.2.2.2.2,.slice bP bJ bQ],dW qV 28 [I 0,I 0,I 0,I 0,I 0,I 0,.slice none 0 0]] (aG w') [np bP bJ bQ cells,dW qU 28 [I b.1,I b.2.1,I b.2.2.1,I b.2.2.2.1,I b.2.2.2.2.1,I b.2.2.2.2.2,.slice bP bJ bQ],dW qV 28 [I 0,I 0,I 0,I 0,I 0,I 0,.slice none 0 0],qh y.1 cells y.2])/\cg 0 W w':=by
 refine pJ (bB bP bJ bQ qU b qV) body aN N [.agg ⟨[ak 3,ak 4,ak 5,ak 6,ak 7,ak 8,ak 2]⟩,.func (.func 52) ⟨[]⟩ ⟨[ak 0,ak 1]⟩] Tryd.func51 λa ah=> ?_
 letI:=b4 ah;have aI:=bI.start W _ jy;refine bx [] [] aO aP ?_ ah;obtain⟨sB,Af⟩:=h1 (cells);refine hF (Y:=eD) (bj:=λaV=>(bB bP bJ bQ qU b qV sB aV.1 aV.2)) aI [0] (λaV=>[_]) (λaV=>[qh aV.1 sB aV.2]) e0 e3 (ep hp0 9) (fA:=λw hw cT aw=>by rw[Af];exact Kr aw (Q6.any _ ((aw.arr 0 rfl).arr kk) av)) (rest:= ?_);intro jY ⟨ia,ib⟩ dr dz w ah;replace dr:=dr.BU;letI:=b4 ah;refine dO (dP dV) cb h' (ae (vY 0 7 1 dr) (ae (fa 25 0 6) (ae (vY 0 6 2 dr) aO))) (cD (ZF U U U U) aP) ?_ ah;exact bR mB λw2 bm=>(by subst Af;exact⟨(_,_),rfl,(dr.done bm)⟩)
end aaS
namespace aaT
noncomputable def body:Code:=(Tryd.f31.body).getD .skip
def N:Nat:=8
def aN:b6:={sl:=b1 [(1,.agg ⟨[I 0,I 0,I 0,I 0,I 0,I 0,.slice none 0 0]⟩),(0,.agg ⟨[1,2,3,4,5,6,0]⟩)],ms:=[],A:=start}
def bN:bd:=[(.d' (I 28),I 28)]
theorem e0:uB (at' 8 bN [] body aN)=some (28,(.agg ⟨[1,2,3,4,5,6,0]⟩)):=au
abbrev gy:=at' 8 bN [] body aN
def dD:List bu:=[]
def hd0:aF:=b1 [(1,.agg ⟨[I 0,I 0,I 0,I 0,I 0,I 0,.slice none 0 0]⟩)]
def hp0:aF:=e6 8 hd0 2 7
theorem e1:cp (b7 gy) hd0 dD=some []:=au
def dV:dU:=(body,[0],1)
theorem h2:uB (cI 8 bN [] dV (b3 hp0 dD))=some (28,(.agg ⟨[I 0,I 0,I 0,I 0,I 0,I 0,.slice none 0 0]⟩)):=au
abbrev jv:=cI 8 bN [] dV {sl:=hp0,ms:=[],A:=c6 dD}
def hy:List bu:=[]
def hv:aF:=b1 [(2,7)]
def hp1:aF:=e6 8 hv 3 8
theorem jJ:cp (b7 jv) hv hy=some [(7,7)]:=au
def iB:dU:=(body,[0],2)
theorem kR:FF (cI 8 bN [] iB (b3 hp1 hy))=some 28:=au
abbrev pg:=cI 8 bN [] iB {sl:=hp1,ms:=[],A:=c6 hy}
def kf:List bu:=[]
def kS:aF:=b1 [(3,8),(2,7)]
def hp2:aF:=e6 8 kS 4 9
theorem ql:cp (b7 pg) kS kf=some [(8,8),(7,7)]:=au
def je:dU:=(body,[0],3)
def cb:bd:=[(.d' (I 28),I 28),
 (.bA 28 7,.agg ⟨[1,2,3,4,5,6,0]⟩)]
theorem tC:g_ (cI 8 cb [] je (b3 hp2 kf))=some (51,[.agg ⟨[1,2,3,4,5,6,0]⟩,.func (.func 52) ⟨[]⟩ ⟨[7,8]⟩]):=au
abbrev yQ:=cI 8 cb [] je {sl:=hp2,ms:=[],A:=c6 kf}
def rD:List bu:=[]
def uT:aF:=b1 [(4,9)]
def hp3:aF:=e6 8 uT 7 (.agg ⟨[1,2,3,4,5,6,10]⟩)
theorem rE:cp (b7 yQ) uT rD=some [(9,9)]:=au
def tD:dU:=(body,[1,0],3)
theorem B7:nG (cI 8 bN [] tD (b3 hp3 rD))=some (28,9,(.agg ⟨[1,2,3,4,5,6,10]⟩)):=au
abbrev tE:=cI 8 bN [] tD {sl:=hp3,ms:=[],A:=c6 rD}
def tF:List bu:=[]
def tG:aF:=b1 [(4,9)]
def p9:aF:=match gZ 8 tG none (.tuple ⟨[]⟩) with|some s=>s|none=> .nil
theorem Hh:cp (b7 tE) tG tF=some [(9,9)]:=au
def Hi:dU:=(body,[1,0],4)
theorem B8:endCell Tryd.f31 (cI 8 bN [] Hi (b3 p9 tF))=some (28,9):=au
@[reducible] noncomputable def bB (bP:ch) (bJ bQ:Nat) (b:bT) (eF:Nat:=0) (g1:Nat:=0) (g2:Nat:=0) (qm:List Int:=[]) (tH:ch:=none) (tI:Nat:=0):List J:=[.slice bP bJ bQ,I b.1,I b.2.1,I b.2.2.1,I b.2.2.2.1,I b.2.2.2.2.1,I b.2.2.2.2.2,df eF 0,df g1 0,df g2 0,br tH qm tI]
theorem any (W:ax) {cells:List Int} {bP:ch} {bJ bQ:Nat} (jy:cG (aG W) [np bP bJ bQ cells]) {b:bT} (av:cells.length<=100000):Calls Tryd.prog 31 #[.agg ⟨[I b.1,I b.2.1,I b.2.2.1,I b.2.2.2.1,I b.2.2.2.2.1,I b.2.2.2.2.2,.slice bP bJ bQ]⟩,.agg ⟨[I 0,I 0,I 0,I 0,I 0,I 0,.slice none 0 0]⟩] W λe w'=>(∃y:ch×Nat,e= .returned (.agg ⟨[I b.1,I b.2.1,I b.2.2.1,I b.2.2.2.1,I b.2.2.2.2.1,I b.2.2.2.2.2,br y.1 cells y.2]⟩)/\cV (aG W) [np bP bJ bQ cells] (aG w') [np bP bJ bQ cells,qh y.1 cells y.2])/\cg 0 W w':=by
 refine pJ (bB bP bJ bQ b) body aN N [.agg ⟨[ak 1,ak 2,ak 3,ak 4,ak 5,ak 6,ak 0]⟩,.agg ⟨[I 0,I 0,I 0,I 0,I 0,I 0,.slice none 0 0]⟩] Tryd.func31 λa ah=> ?_
 letI:=b4 ah;have aI:=bI.start W _ jy;refine bx bN [] (ae (gB _) aO) aP ?_ ah;refine w7 (u:= .agg ⟨[I b.1,I b.2.1,I b.2.2.1,I b.2.2.2.1,I b.2.2.2.2.1,I b.2.2.2.2.2,.slice bP bJ bQ]⟩) (cs:=[I b.1,I b.2.1,I b.2.2.1,I b.2.2.2.1,I b.2.2.2.2.1,I b.2.2.2.2.2,.slice bP bJ bQ]) (bj:=λfJ=>(bB bP bJ bQ b fJ)) e0 U U U e1 (ep hp0 7) rfl (λ_ fJ=>zC) (λ_ _=>rfl) ?_;intro jY eF e_ B9 ju dz w ah;have dr:=aI.new (td B9 e_ ju);replace dr:=dr.GY;letI:=b4 ah;refine dO (dP dV) bN [] (ae (gB _) aO) aP ?_ ah;refine w7 (u:= .agg ⟨[I 0,I 0,I 0,I 0,I 0,I 0,.slice none 0 0]⟩) (cs:=[I 0,I 0,I 0,I 0,I 0,I 0,.slice none 0 0]) (bj:=λfJ=>(bB bP bJ bQ b eF fJ)) h2 U U U jJ (ep hp1 8) rfl (λ_ fJ=>fq) (λ_ _=>rfl) ?_;intro nf g1 h5 rl mq dz w ah;have gq:=dr.new (td rl h5 mq);replace gq:=gq.vZ;letI:=b4 ah;refine dO (dP iB) bN [] (ae (gB _) aO) aP ?_ ah;refine Oo (z:= .agg ⟨[I 0,I 0,I 0,I 0,I 0,I 0,.slice none 0 0]⟩) (bj:=λfJ=>(bB bP bJ bQ b eF g1 fJ)) kR au ql (ep hp2 9) rfl (λ_ fJ=>fq) (λ_ _=>rfl) ?_;intro ng g2 vn l8 Q8 Hj dz w ah;have ic:=gq.new (td (ty:=28) (cs:=[I 0,I 0,I 0,I 0,I 0,I 0,.slice none 0 0]) (jo.mk' vn Q8) l8 Hj);replace ic:=ic.BU;letI:=b4 ah;refine dO (dP je) cb [] (ae (gB _) (ae (vY 0 7 1 ic) aO)) aP ?_ ah;obtain⟨qm,Hk⟩:=h1 (cells);refine hF (Y:=eD) (bj:=λaV=>(bB bP bJ bQ b eF g1 g2 qm aV.1 aV.2)) ic [0,1,2] (λaV=>[_,_,_]) (λaV=>[qh aV.1 qm aV.2]) tC rE (ep hp3 (.agg ⟨[1,2,3,4,5,6,10]⟩)) (fA:=λw hw cT aw=>by rw[Hk];exact aaS.any _ aw av) (rest:= ?_);intro Q9 ⟨tH,tI⟩ oL dz w ah;replace oL:=oL.BV;letI:=b4 ah;refine dO (dP tD) bN [] (ae (gB _) aO) aP ?_ ah;refine Oy (g:=g2) (j:=0) (n:=7) (us:=[I b.1,I b.2.1,I b.2.2.1,I b.2.2.2.1,I b.2.2.2.2.1,I b.2.2.2.2.2,br tH qm tI]) (cs:=[I 0,I 0,I 0,I 0,I 0,I 0,.slice none 0 0]) (cs':=[I b.1,I b.2.1,I b.2.2.1,I b.2.2.2.1,I b.2.2.2.2.1,I b.2.2.2.2.2,br tH qm tI]) (bj:=(bB bP bJ bQ b eF g1 g2 qm tH tI)) rfl B7 au Hh (ep p9 (.tuple ⟨[]⟩)) U U U U U (p6 rfl (p6 rfl (p6 rfl (p6 rfl (p6 rfl (p6 rfl (p6 rfl FO))))))) (oL.box 3 rfl) (gG rfl) (λ_=>fq) ?_;intro Lc Q' B' dz w ah;have ph:=oL.lV 3 rfl (vC Q' B');replace ph:=ph.BV;letI:=b4 ah;refine dO (dP Hi) bN [] (ae (gB _) aO) aP ?_ ah;exact OE (v:= .agg ⟨[ak 1,ak 2,ak 3,ak 4,ak 5,ak 6,ak 10]⟩) (cs:=[I b.1,I b.2.1,I b.2.2.1,I b.2.2.2.1,I b.2.2.2.2.1,I b.2.2.2.2.2,br tH qm tI]) B8 U U (ph.box 3 rfl) au (show bg Tryd.prog (sizeOf 28)=some 7 by kernel_rfl) U U λw2 eS bm=>⟨(by subst Hk;exact⟨(_,_),rfl,((ph.pick [0,4] rfl).done bm)⟩),eS⟩
end aaT
namespace aaU
noncomputable def body:Code:=(Tryd.f22.body).getD .skip
def N:Nat:=9
def aN:b6:={sl:=b1 [(0,0)],ms:=[],A:=start}
def bN:bd:=[(.dM 0,0),
 (.cn 80 0 0,0),
 (.bA 28 0,.agg ⟨[2,3,4,5,6,7,1]⟩)]
theorem e0:g_ (at' 9 bN [] body aN)=some (31,[.agg ⟨[2,3,4,5,6,7,1]⟩,.agg ⟨[I 0,I 0,I 0,I 0,I 0,I 0,.slice none 0 0]⟩]):=au
abbrev gy:=at' 9 bN [] body aN
def dD:List bu:=[⟨.cells [I 0,I 0,I 0,I 0,I 0,I 0,.slice none 0 0],28,0⟩]
def hd0:aF:=b1 [(2,df 0 0)]
def hp0:aF:=e6 9 hd0 8 (.agg ⟨[2,3,4,5,6,7,25]⟩)
theorem e3:cp (kL Tryd.prog gy) hd0 dD=some []:=au
def dV:dU:=(body,[1,0],6)
theorem mB:fj Tryd.prog Tryd.f22 (cI 9 [] [] dV (b3 hp0 dD))=some (.agg ⟨[2,3,4,5,6,7,25]⟩):=au
@[reducible] noncomputable def bB (bP:ch) (bJ bQ cd:Nat) (b:bT) (xa:Nat->J) (sB:List Int:=[]) (ia:ch:=none) (ib:Nat:=0):List J:=[df cd 0,.slice bP bJ bQ,I b.1,I b.2.1,I b.2.2.1,I b.2.2.2.1,I b.2.2.2.2.1,I b.2.2.2.2.2,xa 0,xa 1,xa 2,xa 3,xa 4,xa 5,xa 6,xa 7,xa 8,xa 9,xa 10,xa 11,xa 12,xa 13,xa 14,xa 15,xa 16,br ia sB ib]
theorem any (W:ax) {cells:List Int} {bP:ch} {bJ bQ cd:Nat} {b:bT} {xa:Nat->J} (jy:cG (aG W) [np bP bJ bQ cells,dW cd 80 [I b.1,I b.2.1,I b.2.2.1,I b.2.2.2.1,I b.2.2.2.2.1,I b.2.2.2.2.2,.slice bP bJ bQ,xa 0,xa 1,xa 2,xa 3,xa 4,xa 5,xa 6,xa 7,xa 8,xa 9,xa 10,xa 11,xa 12,xa 13,xa 14,xa 15,xa 16]]) (av:cells.length<=100000):Calls Tryd.prog 22 #[df cd 0] W λe w'=>(∃y:ch×Nat,e= .returned (.agg ⟨[I b.1,I b.2.1,I b.2.2.1,I b.2.2.2.1,I b.2.2.2.2.1,I b.2.2.2.2.2,br y.1 cells y.2]⟩)/\cV (aG W) [np bP bJ bQ cells,dW cd 80 [I b.1,I b.2.1,I b.2.2.1,I b.2.2.2.1,I b.2.2.2.2.1,I b.2.2.2.2.2,.slice bP bJ bQ,xa 0,xa 1,xa 2,xa 3,xa 4,xa 5,xa 6,xa 7,xa 8,xa 9,xa 10,xa 11,xa 12,xa 13,xa 14,xa 15,xa 16]] (aG w') [np bP bJ bQ cells,dW cd qK [I b.1,I b.2.1,I b.2.2.1,I b.2.2.2.1,I b.2.2.2.2.1,I b.2.2.2.2.2,.slice bP bJ bQ,xa 0,xa 1,xa 2,xa 3,xa 4,xa 5,xa 6,xa 7,xa 8,xa 9,xa 10,xa 11,xa 12,xa 13,xa 14,xa 15,xa 16],qh y.1 cells y.2])/\cg 0 W w':=by
 refine pJ (bB bP bJ bQ cd b xa) body aN N [ak 0] Tryd.func22 λa ah=> ?_
 letI:=b4 ah;have aI:=bI.start W _ jy;refine bx bN [] (ae jf (ae (fa 28 0 7) (ae (vY 0 7 1 aI) aO))) aP ?_ ah;obtain⟨sB,Af⟩:=h1 (cells);refine hF (Y:=eD) (bj:=λaV=>(bB bP bJ bQ cd b xa sB aV.1 aV.2)) aI [0] (λaV=>[_]) (λaV=>[qh aV.1 sB aV.2]) e0 e3 (ep hp0 (.agg ⟨[2,3,4,5,6,7,25]⟩)) (fA:=λw hw cT aw=>by rw[Af];exact aaT.any _ aw av) (rest:= ?_);intro jY ⟨ia,ib⟩ dr dz w ah;replace dr:=dr.vZ;letI:=b4 ah;refine dO (dP dV) [] [] aO aP ?_ ah;exact bR mB λw2 bm=>(by subst Af;exact⟨(_,_),rfl,(dr.done bm)⟩)
end aaU
end AE
namespace AE
namespace aaV
noncomputable def body:Code:=(Tryd.f9.body).getD .skip
def N:Nat:=75
noncomputable abbrev bz:=fj Tryd.prog Tryd.f9
def aN:b6:={sl:=b1 [(3,2),(2,1),(1,0),(0,.agg ⟨[3,4,5,6,7,8,9]⟩)],ms:=[],A:=start}
def bN:bd:=[(.d' (I 80),I 80),
 (.bin .neq 35 10 (I 0),.bool false),
 (.bin .lss 3 2 (I 1),.bool true)]
def jX:dX:=[(30,[.agg ⟨[3,4,5,6,7,8,9]⟩,0,1],10)]
theorem e0:bz (at' 75 bN jX body aN)=some (.tuple ⟨[.pointer none,I 1]⟩):=au
def cb:bd:=[(.d' (I 80),I 80),
 (.bin .neq 35 10 (I 0),.bool false),
 (.bin .lss 3 2 (I 1),.bool false),
 (.bin .gtr 3 2 (I 65536),.bool true)]
def h':dX:=[(30,[.agg ⟨[3,4,5,6,7,8,9]⟩,0,1],10)]
theorem e1:bz (at' 75 cb h' body aN)=some (.tuple ⟨[.pointer none,I 1]⟩):=au
def dk:bd:=[(.d' (I 80),I 80),
 (.bin .neq 35 10 (I 0),.bool false),
 (.bin .lss 3 2 (I 1),.bool false),
 (.bin .gtr 3 2 (I 65536),.bool false),
 (.len #[26] 3 9,11)]
def oJ:dX:=[(30,[.agg ⟨[3,4,5,6,7,8,9]⟩,0,1],10)]
abbrev iF:=at' 75 dk oJ body aN
theorem e2:F7 Tryd.prog 75 13 [2,5,7,9,12] iF 2=some (31,[.agg ⟨[3,4,5,6,7,8,9]⟩,.agg ⟨[I 0,I 0,I 0,I 0,I 0,I 0,.slice none 0 0]⟩]):=au
theorem e3:F7 Tryd.prog 75 13 [2,5,7,9,12] iF 5=some (31,[.agg ⟨[3,4,5,6,7,8,9]⟩,.agg ⟨[I 0,I 0,I 0,I 0,I 0,I 0,.slice none 0 0]⟩]):=au
theorem hA:F7 Tryd.prog 75 13 [2,5,7,9,12] iF 7=some (32,[0]):=au
theorem kp:J8 Tryd.prog 75 13 [2,5,7,9,12] iF 9=some (45,11):=au
theorem h2:J8 Tryd.prog 75 13 [2,5,7,9,12] iF 12=some (30,11):=au
def dD:List bu:=[]
def hd0:aF:=b1 [(39,2),(10,11),(9,I 0),(8,.pointer none),(2,1)]
theorem jJ:(FV Tryd.prog 75 13 [2,5,7,9,12] iF).isSome=true:=au
theorem mB:cp (FX Tryd.prog 75 13 [2,5,7,9,12] iF) hd0 dD=some [(2,2),(1,1),(11,11)]:=au
def Kc:aF:=match uE 75 (gP iF) [(2,.agg ⟨[ak 3,ak 4,ak 5,ak 6,ak 7,ak 8,ak 12]⟩),(5,.agg ⟨[ak 3,ak 4,ak 5,ak 6,ak 7,ak 8,ak 13]⟩),(7,ak 14),(9,ak 15),(12,ak 16)] hd0 with|some s=>s|none=> .nil
theorem e9:uE 75 (gP iF) [(2,.agg ⟨[3,4,5,6,7,8,12]⟩),(5,.agg ⟨[3,4,5,6,7,8,13]⟩),(7,14),(9,15),(12,16)] hd0=some Kc:=au
def eg:bd:=[(.d' (I 80),I 80)]
theorem n_:uB (D8 75 eg [] (yr 13 iF) (gP iF) (gA iF) (b3 Kc dD))=some (80,(.agg ⟨[3,4,5,6,7,8,12,3,4,5,6,7,8,13,.slice none 0 0,.slice none 0 0,14,15,2,.slice none 0 0,.slice none 0 0,.slice none 0 0,.slice none 0 0,16]⟩)):=au
abbrev jv:=D8 75 eg [] (yr 13 iF) (gP iF) (gA iF) {sl:=Kc,ms:=[],A:=c6 dD}
def hy:List bu:=[]
def hv:aF:=b1 [(10,11),(9,I 0),(8,.pointer none),(2,1)]
def hp1:aF:=e6 75 hv 43 17
theorem nu:cp (b7 jv) hv hy=some [(1,1),(11,11)]:=au
def iB:dU:=(body,[1,1,1,0],15)
theorem yS:g_ (cI 75 eg [] iB (b3 hp1 hy))=some (33,[1]):=au
abbrev pg:=cI 75 eg [] iB {sl:=hp1,ms:=[],A:=c6 hy}
def kf:List bu:=[]
def kS:aF:=b1 [(44,17),(11,17),(10,11),(9,I 0),(8,.pointer none),(2,1)]
def hp2:aF:=e6 75 kS 46 22
theorem yW:cp (kL Tryd.prog pg) kS kf=some [(17,17),(1,1),(17,17),(11,11)]:=au
def je:dU:=(body,[1,1,1,1,0],3)
def fI:bd:=[(.d' (I 80),I 80),
 (.dM 17,17),
 (.cn 80 17 2,23)]
theorem HE:nG (cI 75 fI [] je (b3 hp2 kf))=some (30,23,22):=au
abbrev yQ:=cI 75 fI [] je {sl:=hp2,ms:=[],A:=c6 kf}
def rD:List bu:=[]
def uT:aF:=b1 [(11,17),(10,11),(9,I 0),(8,.pointer none),(2,1)]
def hp3:aF:=match gZ 75 uT none (.tuple ⟨[]⟩) with|some s=>s|none=> .nil
theorem HG:cp (b7 yQ) uT rD=some [(17,17),(1,1),(11,11)]:=au
def tD:dU:=(body,[1,1,1,1,0],6)
def hG:bd:=[(.d' (I 80),I 80),
 (.len #[30] 3 1,24),
 (.bin .eql 3 24 (I 0),.bool true)]
abbrev tE:=cI 75 hG [] tD {sl:=hp3,ms:=[],A:=c6 rD}
def tF:List bu:=[]
def tG:aF:=b1 [(54,11),(52,17),(11,17),(10,11),(9,I 0),(8,.pointer none)]
def p9:aF:=(bV.set 25 depth tG 53).getD .nil
theorem Rq:se tE 0 53=some ([.bool true],1,1):=au
theorem HI:cp (b7 tE) tG tF=some [(17,17),(17,17),(11,11),(11,11)]:=au
theorem B8:bV.set 25 depth tG 53=some p9:=au
theorem Rr:g_ ((ld (b3 p9 tF) tE))=some (34,[25,11]):=au
abbrev RB:=(ld {sl:=p9,ms:=[],A:=c6 tF} tE)
def Ch:List bu:=[]
def HN:aF:=b1 [(52,17),(11,17),(10,11),(9,I 0),(8,.pointer none)]
def Ci:aF:=e6 75 HN 55 26
theorem RC:cp (kL Tryd.prog RB) HN Ch=some [(17,17),(17,17),(11,11)]:=au
def Cj:dU:=(body,[1,1,1,1,1,0,1,2],4)
theorem akZ:nG (cI 75 fI [] Cj (b3 Ci Ch))=some (30,23,26):=au
abbrev RD:=cI 75 fI [] Cj {sl:=Ci,ms:=[],A:=c6 Ch}
def Ck:List bu:=[]
def HO:aF:=b1 [(11,17),(10,11),(9,I 0),(8,.pointer none)]
def Cl:aF:=match gZ 75 HO none (.tuple ⟨[]⟩) with|some s=>s|none=> .nil
theorem ak0:cp (b7 RD) HO Ck=some [(17,17),(11,11)]:=au
def Cm:dU:=(body,[1,1,1,1,1,0,1,2],7)
def ll:bd:=[(.d' (I 80),I 80),
 (.dM 17,17),
 (.cn 80 17 2,23),
 (.bA 30 23,26)]
theorem RE:g_ (cI 75 ll [] Cm (b3 Cl Ck))=some (33,[26]):=au
abbrev RF:=cI 75 ll [] Cm {sl:=Cl,ms:=[],A:=c6 Ck}
def Cn:List bu:=[]
def HP:aF:=b1 [(58,17),(11,17),(10,11),(9,I 0),(8,.pointer none)]
def Co:aF:=e6 75 HP 63 27
theorem ak1:cp (kL Tryd.prog RF) HP Cn=some [(17,17),(11,11),(17,17)]:=au
def Cp:dU:=(body,[1,1,1,1,1,1,0],6)
def mM:bd:=[(.d' (I 80),I 80),
 (.dM 17,17),
 (.cn 80 17 3,28)]
theorem RG:nG (cI 75 mM [] Cp (b3 Co Cn))=some (30,28,27):=au
abbrev RH:=cI 75 mM [] Cp {sl:=Co,ms:=[],A:=c6 Cn}
def Eg:List bu:=[]
def HQ:aF:=b1 [(11,17),(10,11),(9,I 0),(8,.pointer none)]
def Eh:aF:=match gZ 75 HQ none (.tuple ⟨[]⟩) with|some s=>s|none=> .nil
theorem ak2:cp (b7 RH) HQ Eg=some [(17,17),(11,11)]:=au
def Ei:dU:=(body,[1,1,1,1,1,1,0],9)
def eQ:List bu:=[]
def eR:aF:=b1 [(67,29),(66,11),(11,17),(9,I 0),(8,.pointer none)]
abbrev hO:=cI 75 eg [] Ei {sl:=Eh,ms:=[],A:=c6 Eg}
theorem RI:pZ eR eQ hO=some [(17,17),(I 0,29),(11,11)]:=au
def e7:Code:=ta body [1,1,1,1,1,1,1,0,1,4]
def iq:List fi:=oA body [1,1,1,1,1,1,1,0,1,4] []
theorem RJ:pz hO=e7:=au
theorem RK:gA hO=iq:=au
def pK:bd:=[(.d' (I 80),I 80),
 (.bin .lss 3 29 11,.bool true)]
theorem ak3:g_ (at' 75 pK [] e7 (b3 eR eQ))=some (35,[17,29]):=au
abbrev RL:=at' 75 pK [] e7 (b3 eR eQ)
def HR:List bu:=[]
def HS:aF:=b1 [(67,29),(66,11),(11,17),(9,I 0),(8,.pointer none)]
def Ef:aF:=e6 75 HS 72 (.tuple ⟨[]⟩)
theorem ak4:cp (kL Tryd.prog RL) HS HR=some [(17,17),(29,29),(11,11)]:=au
def HT:dU:=(e7,[1,1,0,4,1],3)
def sC:bd:=[(.d' (I 80),I 80),
 (.bin .add 3 29 (I 1),32)]
theorem ak5:qE eR eQ (cI 75 sC [] HT (b3 Ef HR))=some [(17,17),(32,29),(11,11)]:=au
def sD:bd:=[(.d' (I 80),I 80),
 (.bin .lss 3 29 11,.bool false)]
theorem ak6:bz (nO 75 eg [] iq (at' 75 sD [] e7 (b3 eR eQ)))=some (.tuple ⟨[17,I 0]⟩):=au
def uU:bd:=[(.d' (I 80),I 80),
 (.len #[30] 3 1,24),
 (.bin .eql 3 24 (I 0),.bool false),
 (.dM 17,17),
 (.cn 80 17 2,23),
 (.bA 30 23,22)]
theorem RM:g_ (cI 75 uU [] tD (b3 hp3 rD))=some (33,[22]):=au
abbrev Ej:=cI 75 uU [] tD {sl:=hp3,ms:=[],A:=c6 rD}
def Cq:List bu:=[]
def Ek:aF:=b1 [(58,17),(11,17),(10,11),(9,I 0),(8,.pointer none)]
def Cr:aF:=e6 75 Ek 63 33
theorem ak7:cp (kL Tryd.prog Ej) Ek Cq=some [(17,17),(11,11),(17,17)]:=au
def RN:dU:=(body,[1,1,1,1,1,1,0],6)
theorem RO:nG (cI 75 mM [] RN (b3 Cr Cq))=some (30,28,33):=au
abbrev RP:=cI 75 mM [] RN {sl:=Cr,ms:=[],A:=c6 Cq}
def El:List bu:=[]
def HU:aF:=b1 [(11,17),(10,11),(9,I 0),(8,.pointer none)]
def Em:aF:=match gZ 75 HU none (.tuple ⟨[]⟩) with|some s=>s|none=> .nil
theorem ak8:cp (b7 RP) HU El=some [(17,17),(11,11)]:=au
def En:dU:=(body,[1,1,1,1,1,1,0],9)
def HV:List bu:=[]
def HW:aF:=b1 [(67,34),(66,11),(11,17),(9,I 0),(8,.pointer none)]
abbrev RQ:=cI 75 eg [] En {sl:=Em,ms:=[],A:=c6 El}
theorem ak9:pZ HW HV RQ=some [(17,17),(I 0,34),(11,11)]:=au
def HX:Code:=ta body [1,1,1,1,1,1,1,0,1,4]
def aaW:List fi:=oA body [1,1,1,1,1,1,1,0,1,4] []
theorem ak':pz RQ=HX:=au
theorem RR:gA RQ=aaW:=au
def uV:bd:=[(.d' (I 80),I 80),
 (.bin .lss 3 34 11,.bool true)]
theorem ak_:g_ (at' 75 uV [] HX (b3 HW HV))=some (35,[17,34]):=au
abbrev RS:=at' 75 uV [] HX (b3 HW HV)
def HY:List bu:=[]
def AY:aF:=b1 [(67,34),(66,11),(11,17),(9,I 0),(8,.pointer none)]
def HZ:aF:=e6 75 AY 72 (.tuple ⟨[]⟩)
theorem ala:cp (kL Tryd.prog RS) AY HY=some [(17,17),(34,34),(11,11)]:=au
def H0:dU:=(HX,[1,1,0,4,1],3)
def wh:bd:=[(.d' (I 80),I 80),
 (.bin .add 3 34 (I 1),37)]
theorem RT:qE HW HV (cI 75 wh [] H0 (b3 HZ HY))=some [(17,17),(37,34),(11,11)]:=au
def Aj:bd:=[(.d' (I 80),I 80),
 (.bin .lss 3 34 11,.bool false)]
theorem RU:bz (nO 75 eg [] aaW (at' 75 Aj [] HX (b3 HW HV)))=some (.tuple ⟨[17,I 0]⟩):=au
def Ak:bd:=[(.d' (I 80),I 80),
 (.bin .neq 35 10 (I 0),.bool true)]
def Ht:dX:=[(30,[.agg ⟨[3,4,5,6,7,8,9]⟩,0,1],10)]
theorem RV:bz (at' 75 Ak Ht body aN)=some (.tuple ⟨[.pointer none,I 1]⟩):=au
@[reducible] noncomputable def bB (cells:List Int) (bP:ch) (bJ bQ:Nat) (table:List cU) (kA:ch) (kB:Nat) (known:List Bool) (c9:ch) (c_:Nat) (most:Int) (b:bT) (uW:List Nat:=[]) (y2:ch:=none) (y3:Nat:=0) (oO:Nat:=0) (uX:List Nat:=[]) (y4:ch:=none) (y5:Nat:=0) (oP:Nat:=0) (ia:ch:=none) (ib:Nat:=0) (kT:ch:=none) (kU:Nat:=0) (kV:ch:=none) (kW:Nat:=0) (j1:List bO:=[]) (kX:ch:=none) (kY:Nat:=0) (jG:List Bool:=[]) (kZ:ch:=none) (k0:Nat:=0) (g1:Nat:=0) (nQ:List Bool:=[]) (jZ:ch:=none) (j0:Nat:=0) (g4:Nat:=0) (rK:List Bool:=[]) (uY:ch:=none) (uZ:Nat:=0) (wj:List Bool:=[]) (iP:ch:=none) (iQ:Nat:=0) (Eo:List Nat:=[]) (j8:ch:=none) (j9:Nat:=0) (wk:List Bool:=[]) (y6:ch:=none) (y7:Nat:=0) (Ep:List Nat:=[]) (RW:ch:=none) (RX:Nat:=0):List J:=[br kA table kB,br c9 known c_,I most,I b.1,I b.2.1,I b.2.2.1,I b.2.2.2.1,I b.2.2.2.2.1,I b.2.2.2.2.2,.slice bP bJ bQ,I (yX b cells table known),I ((cells.length:Nat):Int),br ia cells ib,br kT cells kU,br kV table kW,br kX j1 kY,br kZ jG k0,df g1 0,.slice none ([]:List gx).length 0,.slice none (([]:List az)).length 0,.slice none ((([]:List Nat))).length 0,.slice none (((([]:List Nat)))).length 0,br jZ nQ j0,df g1 14,I ((known.length:Nat):Int),.slice (some ⟨g4,0,none⟩) 1 1,br uY rK uZ,br iP wj iQ,df g1 15,I ((oO:Nat):Int),br y2 uW y3,br j8 Eo j9,I ((oO+1:Nat):Int),br y6 wk y7,I ((oP:Nat):Int),br y4 uX y5,br RW Ep RX,I ((oP+1:Nat):Int)]
theorem any (W:ax) {b:bT} {bP:ch} {bJ bQ:Nat} {cells:List Int} (hX:cF (aG W) 1 gf (.slice bP bJ bQ) cells) {oM:J} {table:List cU} (aL:cF (aG W) 8 jB oM table) {oN:J} {known:List Bool} (hM:cF (aG W) 1 iL oN known) (most:Int) (cv:mF (aG W)) (av:cells.length<=10000) (iz:bJ=cells.length) (na:known.length<=100000) (yY:table.length<=100000):Calls Tryd.prog 9 #[.agg ⟨[I b.1,I b.2.1,I b.2.2.1,I b.2.2.2.1,I b.2.2.2.2.1,I b.2.2.2.2.2,.slice bP bJ bQ]⟩,oM,oN,I most] W λe w'=>(if oa b cells table known most then (∃(g:Nat) (y:eD×rB×rB×rB×rB×rB×rB×rB),e= .returned (.tuple ⟨[df g 0,I 0]⟩)/\cV (aG W) [] (aG w') [nI rr 3 nc (.slice none 0 0) [],nI zQ 5 j4 (.slice none 0 0) [],ht tj 1 p_ (.slice none 0 0) [],nI tj 1 p_ (.slice y.1.1 (List.range cells.length).length y.1.2) (List.range cells.length),ht n3 1 iL (.slice y.2.1.1 y.2.1.2.1 y.2.1.2.2) (jO cells.length cells.length),ht qa 4 dJ (.slice y.2.2.1.1 y.2.2.1.2.1 y.2.2.1.2.2) (List.replicate cells.length zR),np y.2.2.2.1.1 y.2.2.2.1.2.1 y.2.2.2.1.2.2 cells,ai8 y.2.2.2.2.1.1 y.2.2.2.2.1.2.1 y.2.2.2.2.1.2.2 table,ht n3 1 iL (.slice y.2.2.2.2.2.1.1 y.2.2.2.2.2.1.2.1 y.2.2.2.2.2.1.2.2) (wi known cells.length),np y.2.2.2.2.2.2.1.1 y.2.2.2.2.2.2.1.2.1 y.2.2.2.2.2.2.1.2.2 cells,ht n3 1 iL (.slice y.2.2.2.2.2.2.2.1 y.2.2.2.2.2.2.2.2.1 y.2.2.2.2.2.2.2.2.2) (wi known cells.length),dW g qK [I b.1,I b.2.1,I b.2.2.1,I b.2.2.2.1,I b.2.2.2.2.1,I b.2.2.2.2.2,.slice y.2.2.2.2.2.2.1.1 y.2.2.2.2.2.2.1.2.1 y.2.2.2.2.2.2.1.2.2,I b.1,I b.2.1,I b.2.2.1,I b.2.2.2.1,I b.2.2.2.2.1,I b.2.2.2.2.2,.slice y.2.2.2.1.1 y.2.2.2.1.2.1 y.2.2.2.1.2.2,.slice y.2.2.2.2.2.2.2.1 y.2.2.2.2.2.2.2.2.1 y.2.2.2.2.2.2.2.2.2,.slice y.2.2.2.2.2.1.1 y.2.2.2.2.2.1.2.1 y.2.2.2.2.2.1.2.2,.slice y.2.2.2.2.1.1 y.2.2.2.2.1.2.1 y.2.2.2.2.1.2.2,.slice y.2.2.1.1 y.2.2.1.2.1 y.2.2.1.2.2,I most,.slice none 0 0,.slice none 0 0,.slice none 0 0,.slice y.1.1 (List.range cells.length).length y.1.2,.slice y.2.1.1 y.2.1.2.1 y.2.1.2.2]]) else e= .returned (.tuple ⟨[.pointer none,I 1]⟩))/\cg W.heap.size W w':=by
 obtain⟨kA,kB,rfl⟩:=aL.slice;obtain⟨c9,c_,rfl⟩:=hM.slice;refine jE (bB cells bP bJ bQ table kA kB known c9 c_ most b) body aN N [.agg ⟨[ak 3,ak 4,ak 5,ak 6,ak 7,ak 8,ak 9]⟩,ak 0,ak 1,ak 2] Tryd.func9 λa ah=> ?_
 letI:=b4 ah;have aI:=bI.o1 W;by_cases h0:(yX b cells table known)=0
 ·by_cases ad:most<1
  ·refine bx bN jX (ae (gB _) (ae sx (ae a8 aO))) (cD (Lh U U U U hX (aL.mono aI.ext) (hM.mono aI.ext) cv aj iz) aP) ?_ ah
   exact bR e0 λw2 bm=>(by (rw[a' (λq:oa b cells table known most=>by have q1:=q.1;have aH:=q.2.1;have bW:=q.2.2;omega)];rfl))
  ·by_cases ag:65536<most
   ·refine bx cb h' (ae (gB _) (ae sx (ae aS (ae a8 aO)))) (cD (Lh U U U U hX (aL.mono aI.ext) (hM.mono aI.ext) cv aj iz) aP) ?_ ah
    exact bR e1 λw2 bm=>(by (rw[a' (λq:oa b cells table known most=>by have q1:=q.1;have aH:=q.2.1;have bW:=q.2.2;omega)];rfl))
   ·refine bx dk oJ (ae (gB _) (ae sx (ae aS (ae aS (ae (eM (hX.mono aI.ext) iA) aO))))) (cD (Lh U U U U hX (aL.mono aI.ext) (hM.mono aI.ext) cv aj iz) aP) ?_ ah
    obtain⟨j1,Lp⟩:=h1 (List.replicate cells.length zR);have ao7:j1.length=cells.length:=by rw[Lp];exact mw
    obtain⟨jG,Lq⟩:=h1 (List.replicate cells.length vM);have ao8:jG.length=cells.length:=by rw[Lq];exact mw
    refine agy (Y:=eD×eD×eD×eD×eD) (bj:=λaV=>(bB cells bP bJ bQ table kA kB known c9 c_ most b [] none 0 0 [] none 0 0 aV.1.1 aV.1.2 aV.2.1.1 aV.2.1.2 aV.2.2.1.1 aV.2.2.1.2 j1 aV.2.2.2.1.1 aV.2.2.2.1.2 jG aV.2.2.2.2.1 aV.2.2.2.2.2)) (m:=13) (dy:=[(2,.agg ⟨[ak 3,ak 4,ak 5,ak 6,ak 7,ak 8,ak 12]⟩),(5,.agg ⟨[ak 3,ak 4,ak 5,ak 6,ak 7,ak 8,ak 13]⟩),(7,ak 14),(9,ak 15),(12,ak 16)]) (R:=λi aV=>bif Nat.beq i 2 then qh aV.1 cells aV.2 else bif Nat.beq i 5 then qh aV.1 cells aV.2 else bif Nat.beq i 7 then KY aV.1 table aV.2 else bif Nat.beq i 9 then z7 aV.1 j1 aV.2 else bif Nat.beq i 12 then tw aV.1 jG aV.2 else vN []) (rv:=λi aV=>bif Nat.beq i 2 then .agg ⟨[I b.1,I b.2.1,I b.2.2.1,I b.2.2.2.1,I b.2.2.2.2.1,I b.2.2.2.2.2,br aV.1 cells aV.2]⟩ else bif Nat.beq i 5 then .agg ⟨[I b.1,I b.2.1,I b.2.2.1,I b.2.2.2.1,I b.2.2.2.2.1,I b.2.2.2.2.2,br aV.1 cells aV.2]⟩ else bif Nat.beq i 7 then br aV.1 table aV.2 else bif Nat.beq i 9 then br aV.1 j1 aV.2 else bif Nat.beq i 12 then br aV.1 jG aV.2 else .bool false) (pr:=λi aV=>bif Nat.beq i 2 then aV.1 else bif Nat.beq i 5 then aV.2.1 else bif Nat.beq i 7 then aV.2.2.1 else bif Nat.beq i 9 then aV.2.2.2.1 else bif Nat.beq i 12 then aV.2.2.2.2 else (none,0)) (mk:=λys=>(ys 2,ys 5,ys 7,ys 9,ys 12)) mixed jJ cB (rn (w9.arr (F:=λh3=> .agg ⟨[I b.1,I b.2.1,I b.2.2.1,I b.2.2.2.1,I b.2.2.2.2.1,I b.2.2.2.2.2,h3]⟩) (l:=cells) e2 rfl λw hw cT=>Q7.any _ ((hX.mono aI.ext).mono hw) aj) (rn (w9.arr (F:=λh3=> .agg ⟨[I b.1,I b.2.1,I b.2.2.1,I b.2.2.2.1,I b.2.2.2.2.1,I b.2.2.2.2.2,h3]⟩) (l:=cells) e3 rfl λw hw cT=>Q7.any _ ((hX.mono aI.ext).mono hw) aj) (rn (w9.arr (F:=λh3=>h3) (l:=table) hA rfl λw hw cT=>ZH.any _ ((aL.mono aI.ext).mono hw) yY) (rn (w9.WJ (n:=cells.length) (zr:=zR) (l':=j1) Lp kp n4 Xa Xb Xc Xd rfl yv rfl (by rfl) aj (by unfold Km;omega) aj) (rn (w9.WJ (n:=cells.length) (zr:=vM) (l':=jG) Lq h2 mj O6 O7 O8 O9 rfl kn rfl (by rfl) aj (by unfold Gg;omega) aj) OO))))) (λys=>(rn rfl (rn rfl (rn rfl (rn rfl (rn rfl OO)))))) mB e9 rfl (λaV M'=>(rn rfl (rn rfl (rn rfl (rn rfl (rn rfl OO)))))) (λ_ _=>fq) ?_;intro⟨⟨ia,ib⟩,⟨kT,kU⟩,⟨kV,kW⟩,⟨kX,kY⟩,⟨kZ,k0⟩⟩ jY rC dz w ah;have dr:=aI.put (L':=[]) (N:=[qh ia cells ib,qh kT cells kU,KY kV table kW,z7 kX j1 kY,tw kZ jG k0]) [] U U rC;replace dr:=dr.BV;letI:=b4 ah;refine Fu (F:=eg) (T:=[]) (bn:=1000) (d:=10) mixed (ae (gB _) aO) aP ?_ ah;refine w7 (u:= .agg ⟨[I b.1,I b.2.1,I b.2.2.1,I b.2.2.2.1,I b.2.2.2.2.1,I b.2.2.2.2.2,br ia cells ib,I b.1,I b.2.1,I b.2.2.1,I b.2.2.2.1,I b.2.2.2.2.1,I b.2.2.2.2.2,br kT cells kU,.slice none 0 0,.slice none 0 0,br kV table kW,br kX j1 kY,I most,.slice none 0 0,.slice none 0 0,.slice none 0 0,.slice none 0 0,br kZ jG k0]⟩) (cs:=[I b.1,I b.2.1,I b.2.2.1,I b.2.2.2.1,I b.2.2.2.2.1,I b.2.2.2.2.2,br ia cells ib,I b.1,I b.2.1,I b.2.2.1,I b.2.2.2.1,I b.2.2.2.2.1,I b.2.2.2.2.2,br kT cells kU,.slice none 0 0,.slice none 0 0,br kV table kW,br kX j1 kY,I most,.slice none 0 0,.slice none 0 0,.slice none 0 0,.slice none 0 0,br kZ jG k0]) (bj:=λfJ=>(bB cells bP bJ bQ table kA kB known c9 c_ most b [] none 0 0 [] none 0 0 ia ib kT kU kV kW j1 kX kY jG kZ k0 fJ)) n_ U U U nu (ep hp1 17) rfl (λ_ fJ=>fq) (λ_ _=>rfl) ?_;intro nf g1 h5 rl mq dz w ah;have gq:=dr.new (td rl h5 mq);replace gq:=gq.new (Q2 nf rr 3 nc);replace gq:=gq.new (Q2 nf zQ 5 j4);replace gq:=gq.new (Zu nf tj 1 p_);replace gq:=gq.new (Q2 nf tj 1 p_);replace gq:=gq.YP;letI:=b4 ah;refine dO (dP iB) eg [] (ae (gB _) aO) aP ?_ ah;obtain⟨nQ,RY⟩:=h1 (known);refine hF (Y:=eD) (bj:=λaV=>(bB cells bP bJ bQ table kA kB known c9 c_ most b [] none 0 0 [] none 0 0 ia ib kT kU kV kW j1 kX kY jG kZ k0 g1 nQ aV.1 aV.2)) gq [] (λaV=>[]) (λaV=>[tw aV.1 nQ aV.2]) yS yW (ep hp2 22) (fA:=λw hw cT aw=>by rw[RY];exact FP (Hg.any _ ((hM.mono gq.ext).mono hw) aj)) (rest:= ?_);intro ng ⟨jZ,j0⟩ ic dz w ah;replace ic:=ic.QB;letI:=b4 ah;refine dO (dP je) fI [] (ae (gB _) (ae jf (ae (fa 30 14 1) aO))) aP ?_ ah;refine D_ 14 [I b.1,I b.2.1,I b.2.2.1,I b.2.2.2.1,I b.2.2.2.2.1,I b.2.2.2.2.2,br ia cells ib,I b.1,I b.2.1,I b.2.2.1,I b.2.2.2.1,I b.2.2.2.2.1,I b.2.2.2.2.2,br kT cells kU,br jZ nQ j0,.slice none 0 0,br kV table kW,br kX j1 kY,I most,.slice none ([]:List gx).length 0,.slice none (([]:List az)).length 0,.slice none ((([]:List Nat))).length 0,.slice none (((([]:List Nat)))).length 0,br kZ jG k0] (bB cells bP bJ bQ table kA kB known c9 c_ most b [] none 0 0 [] none 0 0 ia ib kT kU kV kW j1 kX kY jG kZ k0 g1 nQ jZ j0) HE HG (ep hp3 (.tuple ⟨[]⟩)) (ic.box 5 rfl) ?_;intro Q9 alb RZ dz w ah;have oL:=ic.lV 5 rfl (vC alb RZ);replace oL:=oL.QB;letI:=b4 ah;by_cases mc:((known.length:Nat):Int)=0
    ·refine dO (dP tD) hG [] (ae (gB _) (ae (eM (hM.mono oL.ext) mj) (ae a8 aO))) aP ?_ ah
     refine uD (enc:=iL) (xs:=[true]) (q:=25) (bj:=λfJ=>(bB cells bP bJ bQ table kA kB known c9 c_ most b [] none 0 0 [] none 0 0 ia ib kT kU kV kW j1 kX kY jG kZ k0 g1 nQ jZ j0 fJ)) Rq kn rfl cB cB U U (gG rfl) HI (λ_ _=>fq) B8 (λ_=>rfl) ?_;intro Lc g4 R0 alc R1 B' R2;have ph:=oL.new (sf R0 R1 B' R2);letI:=b4 ah;obtain⟨rK,R3⟩:=h1 (List.replicate (cells.length) true);refine hF (Y:=eD) (bj:=λaV=>(bB cells bP bJ bQ table kA kB known c9 c_ most b [] none 0 0 [] none 0 0 ia ib kT kU kV kW j1 kX kY jG kZ k0 g1 nQ jZ j0 g4 rK aV.1 aV.2)) ph [11] (λaV=>[_]) (λaV=>[tw aV.1 rK aV.2]) Rr RC (ep Ci 26) (fA:=λw hw cT aw=>by rw[R3];exact akO _ aw (cells.length) aj) (rest:= ?_);intro R4 ⟨uY,uZ⟩ u0 dz w ah;replace u0:=u0.D9;letI:=b4 ah;refine dO (dP Cj) fI [] (ae (gB _) (ae jf (ae (fa 30 14 1) aO))) aP ?_ ah;refine D_ 14 [I b.1,I b.2.1,I b.2.2.1,I b.2.2.2.1,I b.2.2.2.2.1,I b.2.2.2.2.2,br ia cells ib,I b.1,I b.2.1,I b.2.2.1,I b.2.2.2.1,I b.2.2.2.2.1,I b.2.2.2.2.2,br kT cells kU,br uY rK uZ,.slice none 0 0,br kV table kW,br kX j1 kY,I most,.slice none ([]:List gx).length 0,.slice none (([]:List az)).length 0,.slice none ((([]:List Nat))).length 0,.slice none (((([]:List Nat)))).length 0,br kZ jG k0] (bB cells bP bJ bQ table kA kB known c9 c_ most b [] none 0 0 [] none 0 0 ia ib kT kU kV kW j1 kX kY jG kZ k0 g1 nQ jZ j0 g4 rK uY uZ) akZ ak0 (ep Cl (.tuple ⟨[]⟩)) (u0.box 5 rfl) ?_;intro R5 ald ale dz w ah;have tM:=u0.lV 5 rfl (vC ald ale);replace tM:=tM.D9;letI:=b4 ah;refine dO (dP Cm) ll [] (ae (gB _) (ae jf (ae (fa 30 14 1) (ae (iV 14 5 tM) aO)))) aP ?_ ah;obtain⟨wj,aaX⟩:=h1 (rK);refine hF (Y:=eD) (bj:=λaV=>(bB cells bP bJ bQ table kA kB known c9 c_ most b [] none 0 0 [] none 0 0 ia ib kT kU kV kW j1 kX kY jG kZ k0 g1 nQ jZ j0 g4 rK uY uZ wj aV.1 aV.2)) tM [] (λaV=>[]) (λaV=>[tw aV.1 wj aV.2]) RE ak1 (ep Co 27) (fA:=λw hw cT aw=>by rw[aaX];exact FP (Hg.any _ (((tM.arr 12 rfl).arr kn).mono hw) (by (rw[R3,mw];omega)))) (rest:= ?_);intro alf ⟨iP,iQ⟩ Al dz w ah;replace Al:=Al.QC;letI:=b4 ah;refine dO (dP Cp) mM [] (ae (gB _) (ae jf (ae (fa 30 15 1) aO))) aP ?_ ah;refine D_ 15 [I b.1,I b.2.1,I b.2.2.1,I b.2.2.2.1,I b.2.2.2.2.1,I b.2.2.2.2.2,br ia cells ib,I b.1,I b.2.1,I b.2.2.1,I b.2.2.2.1,I b.2.2.2.2.1,I b.2.2.2.2.2,br kT cells kU,br uY rK uZ,br iP wj iQ,br kV table kW,br kX j1 kY,I most,.slice none ([]:List gx).length 0,.slice none (([]:List az)).length 0,.slice none ((([]:List Nat))).length 0,.slice none (((([]:List Nat)))).length 0,br kZ jG k0] (bB cells bP bJ bQ table kA kB known c9 c_ most b [] none 0 0 [] none 0 0 ia ib kT kU kV kW j1 kX kY jG kZ k0 g1 nQ jZ j0 g4 rK uY uZ wj iP iQ) RG ak2 (ep Eh (.tuple ⟨[]⟩)) (Al.box 5 rfl) ?_;intro aaY alg alh dz w ah;have Ct:=Al.lV 5 rfl (vC alg alh);replace Ct:=Ct.QC;letI:=b4 ah;refine dO (dP Ei) eg [] (ae (gB _) aO) aP ?_ ah;refine tg (gn:=(λ(⟨M,uW,y2,y3,Am,oO⟩:Mem×List Nat×Option Addr×Nat×List Bool×Nat)=>aW M (bB cells bP bJ bQ table kA kB known c9 c_ most b uW y2 y3 oO [] none 0 0 ia ib kT kU kV kW j1 kX kY jG kZ k0 g1 nQ jZ j0 g4 rK uY uZ wj iP iQ))) (λ(⟨M,uW,y2,y3,Am,oO⟩:Mem×List Nat×Option Addr×Nat×List Bool×Nat)=>bI W.heap.size (aG W) [] M [qh ia cells ib,qh kT cells kU,KY kV table kW,z7 kX j1 kY,oH kZ jG.length k0 Am,dW g1 80 [I b.1,I b.2.1,I b.2.2.1,I b.2.2.2.1,I b.2.2.2.2.1,I b.2.2.2.2.2,br ia cells ib,I b.1,I b.2.1,I b.2.2.1,I b.2.2.2.1,I b.2.2.2.2.1,I b.2.2.2.2.2,br kT cells kU,br uY rK uZ,br iP wj iQ,br kV table kW,br kX j1 kY,I most,.slice none ([]:List gx).length 0,.slice none (([]:List az)).length 0,.slice none ((([]:List Nat))).length 0,br y2 uW y3,br kZ jG k0],nI rr 3 nc (.slice none ([]:List gx).length 0) ([]:List gx),nI zQ 5 j4 (.slice none (([]:List az)).length 0) (([]:List az)),ht tj 1 p_ (.slice none ((([]:List Nat))).length 0) ((([]:List Nat))),yJ y2 uW y3,tw uY rK uZ,tw iP wj iQ]/\(oO<=cells.length/\uW=List.range oO/\Am=jO cells.length oO/\Am.length=cells.length/\uW.length=oO)) (λ(⟨M,uW,y2,y3,Am,oO⟩:Mem×List Nat×Option Addr×Nat×List Bool×Nat)=>cells.length-oO) ⟨aaY,(((([]:List Nat)))),none,0,jG,0⟩ RI fq (λ_ _ h=>h) (by exact⟨(Ct.pick [0,1,2,3,4,5,6,7,8,9,12,13] rfl),by exact⟨Nat.zero_le _,rfl,by rw[Lq];exact(aaw _).symm,aj,rfl⟩⟩) ?_;intro⟨M,uW,y2,y3,Am,oO⟩ bf dz w ah;letI:=b4 ah;refine tc RJ RK ?_;have qW:=bf.1;have Lr:=bf.2.1;have ali:=bf.2.2.2.2.1;have alj:=bf.2.2.2.2.2;by_cases z0:((oO:Nat):Int)<((cells.length:Nat):Int)
     ·refine bx pK [] (ae (gB _) (ae a8 aO)) aP ?_ ah
      obtain⟨Eo,R6⟩:=h1 (mI uW Am (oO));obtain⟨aaZ,R7⟩:=h1 (nL Am (oO));refine hF (Y:=eD) (bj:=λaV=>(bB cells bP bJ bQ table kA kB known c9 c_ most b uW y2 y3 oO [] none 0 0 ia ib kT kU kV kW j1 kX kY jG kZ k0 g1 nQ jZ j0 g4 rK uY uZ wj iP iQ Eo aV.1 aV.2)) qW [9,4,5] (λaV=>[xk _ _ _ aV.1 Eo aV.2,xl _ _ _ kZ jG.length k0 aaZ,dW _ _ [_,_,_,_,_,_,_,_,_,_,_,_,_,_,_,_,_,_,_,_,_,_,br aV.1 Eo aV.2,_]]) (λ_=>[]) ak3 ak4 (ep Ef (.tuple ⟨[]⟩)) (fA:=λw hw cT aw=>by rw[R6,R7];exact Rv.any (xa:=mH [I b.1,I b.2.1,I b.2.2.1,I b.2.2.2.1,I b.2.2.2.2.1,I b.2.2.2.2.2,br ia cells ib,I b.1,I b.2.1,I b.2.2.1,I b.2.2.2.1,I b.2.2.2.2.1,I b.2.2.2.2.2,br kT cells kU,br uY rK uZ,br iP wj iQ,br kV table kW,br kX j1 kY,I most,.slice none ([]:List gx).length 0,.slice none (([]:List az)).length 0,.slice none ((([]:List Nat))).length 0] 0) _ aw (oO) aj aj) (rest:= ?_);intro aa0 ⟨j8,j9⟩ Cu dz w ah;replace Cu:=Cu.BW;letI:=b4 ah;refine dO (dP HT) sC [] (ae (gB _) (ae ko aO)) aP ?_ ah;exact tu ⟨aa0,Eo,j8,j9,aaZ,oO+1⟩ ak5 fq (by exact⟨Cu,by have aw:=aax (show oO<cells.length by omega) bf.2.2.1 bf.2.2.2.1;exact⟨aj,by rw[R6];exact aw.1,by rw[R7];exact aw.2,by rw[R7,Kq];omega,by rw[R6,aw.1,List.length_range]⟩⟩)
     ·refine bx sD [] (ae (gB _) (ae aS aO)) aP ?_ ah
      refine n' eg [] (ae (gB _) aO) aP ?_;exact bR ak6 λw2 bm=>(by (have al:oO=cells.length:=aj;have aA:=bf.2.2.1;have hw:=bf.2.2.2.1;rw[al] at aA hw;rw[aY (show oa b cells table known most from ⟨bK,aj,aj⟩),akP (show known.length=0 by omega)];subst aaX;rw[<-R3];rw[<-aA,<-hw,<-Lp];exact⟨_,((_,_),(_,_,_),(_,_,_),(_,_,_),(_,_,_),(_,_,_),(_,_,_),(_,_,_)),rfl,((qW.pick [6,7,8,9,4,3,1,2,11,0,10,5] rfl).done bm)⟩))
    ·refine dO (dP tD) uU [] (ae (gB _) (ae (eM (hM.mono oL.ext) mj) (ae aS (ae jf (ae (fa 30 14 1) (ae (iV 14 5 oL) aO)))))) aP ?_ ah
     obtain⟨wk,aa1⟩:=h1 (nQ);refine hF (Y:=eD) (bj:=λaV=>(bB cells bP bJ bQ table kA kB known c9 c_ most b [] none 0 0 [] none 0 0 ia ib kT kU kV kW j1 kX kY jG kZ k0 g1 nQ jZ j0 0 [] none 0 [] none 0 [] none 0 wk aV.1 aV.2)) oL [] (λaV=>[]) (λaV=>[tw aV.1 wk aV.2]) RM ak7 (ep Cr 33) (fA:=λw hw cT aw=>by rw[aa1];exact FP (Hg.any _ (((oL.arr 10 rfl).arr kn).mono hw) (by (rw[RY];omega)))) (rest:= ?_);intro Lc ⟨y6,y7⟩ ph dz w ah;replace ph:=ph.BW;letI:=b4 ah;refine dO (dP RN) mM [] (ae (gB _) (ae jf (ae (fa 30 15 1) aO))) aP ?_ ah;refine D_ 15 [I b.1,I b.2.1,I b.2.2.1,I b.2.2.2.1,I b.2.2.2.2.1,I b.2.2.2.2.2,br ia cells ib,I b.1,I b.2.1,I b.2.2.1,I b.2.2.2.1,I b.2.2.2.2.1,I b.2.2.2.2.2,br kT cells kU,br jZ nQ j0,br y6 wk y7,br kV table kW,br kX j1 kY,I most,.slice none ([]:List gx).length 0,.slice none (([]:List az)).length 0,.slice none ((([]:List Nat))).length 0,.slice none (((([]:List Nat)))).length 0,br kZ jG k0] (bB cells bP bJ bQ table kA kB known c9 c_ most b [] none 0 0 [] none 0 0 ia ib kT kU kV kW j1 kX kY jG kZ k0 g1 nQ jZ j0 0 [] none 0 [] none 0 [] none 0 wk y6 y7) RO ak8 (ep Em (.tuple ⟨[]⟩)) (ph.box 5 rfl) ?_;intro R4 alk alm dz w ah;have u0:=ph.lV 5 rfl (vC alk alm);replace u0:=u0.BW;letI:=b4 ah;refine dO (dP En) eg [] (ae (gB _) aO) aP ?_ ah;refine tg (gn:=(λ(⟨M,uX,y4,y5,Ao,oP⟩:Mem×List Nat×Option Addr×Nat×List Bool×Nat)=>aW M (bB cells bP bJ bQ table kA kB known c9 c_ most b [] none 0 0 uX y4 y5 oP ia ib kT kU kV kW j1 kX kY jG kZ k0 g1 nQ jZ j0 0 [] none 0 [] none 0 [] none 0 wk y6 y7))) (λ(⟨M,uX,y4,y5,Ao,oP⟩:Mem×List Nat×Option Addr×Nat×List Bool×Nat)=>bI W.heap.size (aG W) [] M [qh ia cells ib,qh kT cells kU,KY kV table kW,z7 kX j1 kY,oH kZ jG.length k0 Ao,dW g1 80 [I b.1,I b.2.1,I b.2.2.1,I b.2.2.2.1,I b.2.2.2.2.1,I b.2.2.2.2.2,br ia cells ib,I b.1,I b.2.1,I b.2.2.1,I b.2.2.2.1,I b.2.2.2.2.1,I b.2.2.2.2.2,br kT cells kU,br jZ nQ j0,br y6 wk y7,br kV table kW,br kX j1 kY,I most,.slice none ([]:List gx).length 0,.slice none (([]:List az)).length 0,.slice none ((([]:List Nat))).length 0,br y4 uX y5,br kZ jG k0],nI rr 3 nc (.slice none ([]:List gx).length 0) ([]:List gx),nI zQ 5 j4 (.slice none (([]:List az)).length 0) (([]:List az)),ht tj 1 p_ (.slice none ((([]:List Nat))).length 0) ((([]:List Nat))),yJ y4 uX y5,tw jZ nQ j0,tw y6 wk y7]/\(oP<=cells.length/\uX=List.range oP/\Ao=jO cells.length oP/\Ao.length=cells.length/\uX.length=oP)) (λ(⟨M,uX,y4,y5,Ao,oP⟩:Mem×List Nat×Option Addr×Nat×List Bool×Nat)=>cells.length-oP) ⟨R4,(((([]:List Nat)))),none,0,jG,0⟩ ak9 fq (λ_ _ h=>h) (by exact⟨u0,by exact⟨Nat.zero_le _,rfl,by rw[Lq];exact(aaw _).symm,aj,rfl⟩⟩) ?_;intro⟨M,uX,y4,y5,Ao,oP⟩ bf dz w ah;letI:=b4 ah;refine tc ak' RR ?_;have aa2:=bf.1;have Lr:=bf.2.1;have ali:=bf.2.2.2.2.1;have alj:=bf.2.2.2.2.2;by_cases z0:((oP:Nat):Int)<((cells.length:Nat):Int)
     ·refine bx uV [] (ae (gB _) (ae a8 aO)) aP ?_ ah
      obtain⟨Ep,R8⟩:=h1 (mI uX Ao (oP));obtain⟨aa3,R9⟩:=h1 (nL Ao (oP));refine hF (Y:=eD) (bj:=λaV=>(bB cells bP bJ bQ table kA kB known c9 c_ most b [] none 0 0 uX y4 y5 oP ia ib kT kU kV kW j1 kX kY jG kZ k0 g1 nQ jZ j0 0 [] none 0 [] none 0 [] none 0 wk y6 y7 Ep aV.1 aV.2)) aa2 [9,4,5] (λaV=>[xk _ _ _ aV.1 Ep aV.2,xl _ _ _ kZ jG.length k0 aa3,dW _ _ [_,_,_,_,_,_,_,_,_,_,_,_,_,_,_,_,_,_,_,_,_,_,br aV.1 Ep aV.2,_]]) (λ_=>[]) ak_ ala (ep HZ (.tuple ⟨[]⟩)) (fA:=λw hw cT aw=>by rw[R8,R9];exact Rv.any (xa:=mH [I b.1,I b.2.1,I b.2.2.1,I b.2.2.2.1,I b.2.2.2.2.1,I b.2.2.2.2.2,br ia cells ib,I b.1,I b.2.1,I b.2.2.1,I b.2.2.2.1,I b.2.2.2.2.1,I b.2.2.2.2.2,br kT cells kU,br jZ nQ j0,br y6 wk y7,br kV table kW,br kX j1 kY,I most,.slice none ([]:List gx).length 0,.slice none (([]:List az)).length 0,.slice none ((([]:List Nat))).length 0] 0) _ aw (oP) aj aj) (rest:= ?_);intro R5 ⟨RW,RX⟩ tM dz w ah;replace tM:=tM.BW;letI:=b4 ah;refine dO (dP H0) wh [] (ae (gB _) (ae ko aO)) aP ?_ ah;exact tu ⟨R5,Ep,RW,RX,aa3,oP+1⟩ RT fq (by exact⟨tM,by have aw:=aax (show oP<cells.length by omega) bf.2.2.1 bf.2.2.2.1;exact⟨aj,by rw[R8];exact aw.1,by rw[R9];exact aw.2,by rw[R9,Kq];omega,by rw[R8,aw.1,List.length_range]⟩⟩)
     ·refine bx Aj [] (ae (gB _) (ae aS aO)) aP ?_ ah
      refine n' eg [] (ae (gB _) aO) aP ?_;exact bR RU λw2 bm=>(by (have al:oP=cells.length:=aj;have aA:=bf.2.2.1;have hw:=bf.2.2.2.1;rw[al] at aA hw;rw[aY (show oa b cells table known most from ⟨bK,aj,aj⟩),akQ (show known.length≠0 by omega)];subst aa1;rw[<-RY];rw[<-aA,<-hw,<-Lp];exact⟨_,((_,_),(_,_,_),(_,_,_),(_,_,_),(_,_,_),(_,_,_),(_,_,_),(_,_,_)),rfl,((aa2.pick [6,7,8,9,4,3,1,2,11,0,10,5] rfl).done bm)⟩))
 ·refine bx Ak Ht (ae (gB _) (ae tv aO)) (cD (Lh U U U U hX (aL.mono aI.ext) (hM.mono aI.ext) cv aj iz) aP) ?_ ah
  exact bR RV λw2 bm=>(by (rw[a' (λq:oa b cells table known most=>by have q1:=q.1;have aH:=q.2.1;have bW:=q.2.2;omega)];rfl))
end aaV
end AE
namespace AE
theorem aln (W:ax) {g:Nat} {A:dQ} {e:cC} (h:cG (aG W) [di g A e]) (fk:gp e.table e.b e.u) (ao:e.u.reqs.length<=10000):
 Calls Tryd.prog 12 #[de g] W λx w'=>(∃bh:dQ,x= .returned (.int .i64 (((iY e.table e.b (hN e.b e.u) e.u).1:Nat):Int))/\cV (aG W) [di g A e] (aG w') [di g bh {e with u:=(iY e.table e.b (hN e.b e.u) e.u).2}])/\cg 0 W w':=aaz.any W h fk ao
theorem alo (W:ax) {g:Nat} {A:dQ} {e:cC} (h:cG (aG W) [di g A e]) (n:Int) (fk:gp e.table e.b e.u) (ao:e.u.reqs.length<=10000):
 Calls Tryd.prog 10 #[de g,.int .i64 n] W λx w'=>(∃bh:dQ,x= .returned (.int .i64 (((iY e.table e.b n.toNat e.u).1:Nat):Int))/\cV (aG W) [di g A e] (aG w') [di g bh {e with u:=(iY e.table e.b n.toNat e.u).2}])/\cg 0 W w':=aaA.any W h n fk ao
theorem aa4 (W:ax) {g:Nat} {A:dQ} {e:cC} (h:cG (aG W) [di g A e]):
  Calls Tryd.prog 11 #[de g] W λx w'=>(∃_:Unit,x= .returned (.bool (decide (e.u.bH.length=0/\e.u.bw.length=0/\e.u.reqs.length=0)))/\cV (aG W) [di g A e] (aG w') [di g A e])/\cg 0 W w':=by
 obtain⟨⟨li,e5,go,nr,oQ,re,it,sh⟩,b,table,cells,known,most⟩:=e;have aw:=h.B2;refine(aaB.any W (xa:=mH (qT A ⟨⟨li,e5,go,nr,oQ,re,it,sh⟩,b,table,cells,known,most⟩) 0) (aw.pick [0,1,3,11] rfl)).mono λx w' aq=> ?_
 obtain⟨⟨y,rfl,t⟩,hl⟩:=aq;have t2:=cV.Rx aw [0,1,3,11] U U U t;exact⟨⟨(),rfl,t2.packed⟩,hl⟩
theorem H2 (W:ax) {g:Nat} {A:dQ} {e:cC} (h:cG (aG W) [di g A e]) (av:e.u.aE.length<=100000):
  Calls Tryd.prog 15 #[de g] W λx w'=>(∃y:eD,x= .returned (.slice y.1 e.u.aE.length y.2)/\cV (aG W) [di g A e] (aG w') [di g A e,ht qa 4 dJ (.slice y.1 e.u.aE.length y.2) e.u.aE])/\cg 0 W w':=by
 obtain⟨⟨li,e5,go,nr,oQ,re,it,sh⟩,b,table,cells,known,most⟩:=e;have aw:=h.B2;refine(aaC.any W (xa:=mH (qT A ⟨⟨li,e5,go,nr,oQ,re,it,sh⟩,b,table,cells,known,most⟩) 0) (aX:=mH (qT A ⟨⟨li,e5,go,nr,oQ,re,it,sh⟩,b,table,cells,known,most⟩) 18) (aw.pick [5,11] rfl) av).mono λx w' aq=> ?_
 obtain⟨⟨y,rfl,t⟩,hl⟩:=aq;have t2:=cV.lift (L':=[ht qa 4 dJ (dI A.l) li,dW g qK (qT A ⟨⟨li,e5,go,nr,oQ,re,it,sh⟩,b,table,cells,known,most⟩)]) (N:=[ht qa 4 dJ (.slice y.1 li.length y.2) li]) aw [5,11] U U U t;exact⟨⟨y,rfl,cV.Pb t2⟩,hl⟩
theorem aa5 (W:ax) {g:Nat} {A:dQ} {e:cC} (h:cG (aG W) [di g A e]) (av:e.known.length<=100000):
  Calls Tryd.prog 17 #[de g] W λx w'=>(∃y:eD,x= .returned (.slice y.1 e.known.length y.2)/\cV (aG W) [di g A e] (aG w') [di g A e,ht n3 1 iL (.slice y.1 e.known.length y.2) e.known])/\cg 0 W w':=by
 obtain⟨⟨li,e5,go,nr,oQ,re,it,sh⟩,b,table,cells,known,most⟩:=e;have aw:=h.B2;refine(aaE.any W (xa:=mH (qT A ⟨⟨li,e5,go,nr,oQ,re,it,sh⟩,b,table,cells,known,most⟩) 0) (aX:=mH (qT A ⟨⟨li,e5,go,nr,oQ,re,it,sh⟩,b,table,cells,known,most⟩) 15) (aw.pick [10,11] rfl) av).mono λx w' aq=> ?_
 obtain⟨⟨y,rfl,t⟩,hl⟩:=aq;have t2:=cV.lift (L':=[ht n3 1 iL (dI A.k) known,dW g qK (qT A ⟨⟨li,e5,go,nr,oQ,re,it,sh⟩,b,table,cells,known,most⟩)]) (N:=[ht n3 1 iL (.slice y.1 known.length y.2) known]) aw [10,11] U U U t;exact⟨⟨y,rfl,cV.Pb t2⟩,hl⟩
theorem alp (W:ax) {g:Nat} {A:dQ} {e:cC} (h:cG (aG W) [di g A e]) (av:e.cells.length<=100000):
  Calls Tryd.prog 22 #[de g] W λx w'=>(∃y:eD,x= .returned (oK e.b (.slice y.1 e.cells.length y.2))/\cV (aG W) [di g A e] (aG w') [di g A e,ht kJ 1 gf (.slice y.1 e.cells.length y.2) e.cells])/\cg 0 W w':=by
 obtain⟨⟨li,e5,go,nr,oQ,re,it,sh⟩,b,table,cells,known,most⟩:=e;have aw:=h.B2;refine(aaU.any W (xa:=mH (qT A ⟨⟨li,e5,go,nr,oQ,re,it,sh⟩,b,table,cells,known,most⟩) 7) (aw.pick [9,11] rfl) av).mono λx w' aq=> ?_
 obtain⟨⟨y,rfl,t⟩,hl⟩:=aq;have t2:=cV.lift (L':=[ht kJ 1 gf (dI A.c) cells,dW g qK (qT A ⟨⟨li,e5,go,nr,oQ,re,it,sh⟩,b,table,cells,known,most⟩)]) (N:=[ht kJ 1 gf (.slice y.1 cells.length y.2) cells]) aw [9,11] U U U t;exact⟨⟨y,rfl,cV.Pb t2⟩,hl⟩
def hk (e:cC) (p:ej) (c:Int):cC:={e with u:={e.u with reqs:=y1 e.b e.most p e.u.reqs c (b_ e.b p,c,e.known.getD (b_ e.b p) default)},cells:=Cg e.b e.most p e.u.reqs c e.cells c}
def fe (e:cC) (p:ej) (k:Bool):cC:={e with u:={e.u with reqs:=mO e.b e.most p e.u.reqs (b_ e.b p,e.cells.getD (b_ e.b p) default,k)},known:=pL e.b e.most p e.u.reqs e.known k}
theorem alq (W:ax) {g:Nat} {A:dQ} {e:cC} (h:cG (aG W) [di g A e]) (p:ej) (c:Int) (af:okB e.b) (hl:e.cells.length=(ft e.b).toNat) (al:e.known.length=e.cells.length) (ao:e.u.reqs.length<=400000):
  Calls Tryd.prog 18 #[de g,P.val p,.int .i64 c] W λx w'=>(∃bh:dQ,x= .returned (.int .i64 (l5 e.b e.most p e.u.reqs c))/\cV (aG W) [di g A e] (aG w') [di g bh (hk e p c)])/\cg 0 W w':=by
 obtain⟨⟨li,e5,go,nr,oQ,re,it,sh⟩,b,table,cells,known,most⟩:=e;have aw:=h.B2;refine(aaP.any W (xa:=mH (qT A ⟨⟨li,e5,go,nr,oQ,re,it,sh⟩,b,table,cells,known,most⟩) 7) (aX:=mH (qT A ⟨⟨li,e5,go,nr,oQ,re,it,sh⟩,b,table,cells,known,most⟩) 15) (xc:=mH (qT A ⟨⟨li,e5,go,nr,oQ,re,it,sh⟩,b,table,cells,known,most⟩) 20) (aw.pick [0,9,10,11] rfl) p c af hl al ao).mono λx w' aq=> ?_
 obtain⟨⟨y,rfl,t⟩,hl⟩:=aq;have t2:=cV.Rx aw [0,9,10,11] U U U t;exact⟨⟨{A with q:=y},rfl,t2.packed⟩,hl⟩
theorem alr (W:ax) {g:Nat} {A:dQ} {e:cC} (h:cG (aG W) [di g A e]) (p:ej) (k:Bool) (af:okB e.b) (hl:e.cells.length=(ft e.b).toNat) (al:e.known.length=e.cells.length) (ao:e.u.reqs.length<=400000):
  Calls Tryd.prog 19 #[de g,P.val p,.bool k] W λx w'=>(∃bh:dQ,x= .returned (.int .i64 (jF e.b e.most p e.u.reqs))/\cV (aG W) [di g A e] (aG w') [di g bh (fe e p k)])/\cg 0 W w':=by
 obtain⟨⟨li,e5,go,nr,oQ,re,it,sh⟩,b,table,cells,known,most⟩:=e;have aw:=h.B2;refine(aaQ.any W (xa:=mH (qT A ⟨⟨li,e5,go,nr,oQ,re,it,sh⟩,b,table,cells,known,most⟩) 7) (aX:=mH (qT A ⟨⟨li,e5,go,nr,oQ,re,it,sh⟩,b,table,cells,known,most⟩) 15) (xc:=mH (qT A ⟨⟨li,e5,go,nr,oQ,re,it,sh⟩,b,table,cells,known,most⟩) 20) (aw.pick [0,9,10,11] rfl) p k af hl al ao).mono λx w' aq=> ?_
 obtain⟨⟨y,rfl,t⟩,hl⟩:=aq;have t2:=cV.Rx aw [0,9,10,11] U U U t;exact⟨⟨{A with q:=y},rfl,t2.packed⟩,hl⟩
def k1 (b:bT) (cells:List Int) (table:List cU) (known:List Bool) (most:Int):cC:=
 ⟨⟨List.replicate cells.length zR,[],[],List.range cells.length,jO cells.length cells.length,[],cells,wi known cells.length⟩,b,table,cells,wi known cells.length,most⟩
theorem aa6 (W:ax) {bP:Option Addr} {bJ bQ:Nat} {cells:List Int} (hX:cF (aG W) 1 gf (.slice bP bJ bQ) cells) {b:bT} {oM oN:J} {table:List cU} {known:List Bool} (aL:cF (aG W) 8 jB oM table) (hM:cF (aG W) 1 iL oN known) (most:Int)
  (cv:mF (aG W)) (av:cells.length<=10000) (iz:bJ=cells.length) (na:known.length<=100000) (yY:table.length<=100000):
  Calls Tryd.prog 9 #[oK b (.slice bP bJ bQ),oM,oN,.int .i64 most] W λx w'=>(if oa b cells table known most then (∃(g:Nat) (A:dQ),x= .returned (.tuple ⟨[de g,.int .i64 0]⟩)/\cV (aG W) [] (aG w') [di g A (k1 b cells table known most)]) else x= .returned (.tuple ⟨[.pointer none,.int .i64 1]⟩))/\cg W.heap.size W w':=by
 refine(aaV.any W hX aL hM most cv av iz na yY).mono λx w' aq=> ?_
 obtain⟨h,hl⟩:=aq;refine⟨?_,hl⟩;split at h
 ·rename_i af
  rw[aY af];obtain⟨g,y,rfl,t⟩:=h;have hp:cV (aG W) [] (aG w') [di g ⟨(none,0),(none,0),(none,0),y.1,y.2.1,y.2.2.1,y.2.2.2.1,y.2.2.2.2.1,y.2.2.2.2.2.1,y.2.2.2.2.2.2.1,y.2.2.2.2.2.2.2⟩ (k1 b cells table known most)]:=⟨t.sp.packed,t.keeps,λb af=>t.fresh b (DO.1 af)⟩;exact⟨g,_,rfl,hp⟩
 ·rename_i af
  rw[a' af];exact h
end AE
namespace AE
theorem R' {table:List cU} (h:(mN table).2=0):Y7 table:=by
 have aC:∀i,i<table.length->hH (table.getD i default):=by
  unfold mN at h;split at h
  ·cases h
  ·split at h
   ·cases h
   ·split at h
    ·cases h
    ·split at h
     ·rename_i i ai
      simp only at h;split at h<;>cases h
     ·rename_i s6
      intro i ai;have:=List.find?_eq_none.1 s6 i (List.mem_range.2 ai);simp only [decide_eq_true_eq] at this;unfold yV at this;exact Classical.not_not.1 λah=>this (.inl ah)
 intro c;unfold eG;split
 ·rename_i ar
  have:=aC c.toNat aj;unfold hH at this;obtain⟨_,_,ad,ag,ay,bG,cE,cR,fS,po⟩:=this;refine⟨ad,ag,λi ai=> ?_⟩
  match i,ai with
  |0,_=>exact⟨ay,bG⟩
  |1,_=>exact⟨cE,cR⟩
  |2,_=>exact⟨fS,po⟩
 ·refine⟨cB,cB,λi ai=> ?_⟩
  match i,ai with
  |0,_=>exact⟨cB,cB⟩
  |1,_=>exact⟨cB,cB⟩
  |2,_=>exact⟨cB,cB⟩
theorem R_ {b:bT} {cells:List Int} {table:List cU} {known:List Bool} (h:yX b cells table known=0):Lg b cells table known:=by
 unfold yX at h;split at h
 ·assumption
 ·cases h
theorem als {known:List Bool} {n:Nat} (h:known.length=0\/known.length=n):(wi known n).length=n:=by
 unfold wi;split
 ·simp
 ·omega
theorem aa7 (n:Nat):jO n n=List.replicate n true:=ZJ n
theorem alu {b:bT} {cells:List Int} {table:List cU} {known:List Bool} {most:Int} (h:oa b cells table known most) (av:cells.length<=10000):
  gp table b (k1 b cells table known most).u/\(k1 b cells table known most).cells.length=(k1 b cells table known most).u.b8.length/\(k1 b cells table known most).known.length=(k1 b cells table known most).u.b8.length/\hN b (k1 b cells table known most).u<=361*cells.length:=by
 obtain⟨ad,⟨ag,ay,bG,cE,cR⟩,fS⟩:=R_ h.1;have al:=als fS;have aC:(ft b).toNat=cells.length:=by omega
 have kj:(gT b).N=cells.length:=(Y3 ag).trans aC;have bU:dF (List.replicate cells.length zR)=λ_ _=>0:=by
  funext k c;unfold dF;have:(List.replicate cells.length zR).getD k z4=z4:=by
   rw[dp,List.getElem?_replicate];split<;>rfl
  rw[this];exact F' c
 have aI:(iO table (k1 b cells table known most).u.lit (k1 b cells table known most).u.b8).lg (gT b).N:=⟨λk _=>(R' ad _).1,λk c _ ar=>(R' ad _).2.2 c ar⟩;have hw:qJ (gT b) (iO table (k1 b cells table known most).u.lit (k1 b cells table known most).u.b8) (hx (k1 b cells table known most).u):=by
  refine⟨by show (List.replicate cells.length zR).length=_;rw[mw,kj],⟨?_,?_,?_,?_⟩,λ_=>⟨rfl,?_⟩,λcW=>absurd rfl cW⟩
  ·show (jO cells.length cells.length).length=_
   rw[aa7,mw,kj]
  ·exact List.nodup_range
  ·intro k al
   rw[kj];exact List.mem_range.1 al
  ·intro k al
   rw[kj] at al;show (jO cells.length cells.length).getD k false=true↔k∈List.range cells.length;rw[aa7,dp,List.getElem?_replicate,aY al];simp [al]
  ·show pB (gT b) _ (dF (List.replicate cells.length zR)) (· ∈List.range cells.length)
   rw[bU];exact pB.zero aI λk al=>List.mem_range.2 (by rw[<-kj];exact al)
 have alv:mG (gT b).N (hx (k1 b cells table known most).u)<=361*cells.length:=by
  unfold mG;rw[aY (show (hx (k1 b cells table known most).u).bH=[] from rfl)];have:=W3 hw;have aA:(hx (k1 b cells table known most).u).bw.length=cells.length:=List.length_range;omega
 refine⟨⟨R' ad,ag,?_,?_,?_,hw,⟨λx aq=>(by cases aq),?_⟩,?_,λx aq=>(by cases aq)⟩,?_,?_,?_⟩
 ·show (wi known cells.length).length=_
  rw[al,aC]
 ·show cells.length=(wi known cells.length).length
  rw[al]
 ·show (wi known cells.length).length<=_
  rw[al];exact av
 ·have:=Gc (hx (k1 b cells table known most).u)
  show 0+_<=_;omega
 ·unfold qI
  rw[kj] at alv ⊢;omega
 ·exact al.symm
 ·rfl
 ·unfold hN
  show mG (gT b).N (hx (k1 b cells table known most).u)+qI (gT b).N*0<=_;omega
end AE
namespace AE
abbrev Er:=Int×Int×Int×Int×Int×Bool
abbrev alw:aK:=39
theorem Sa:Tryd.prog.underlying 31=some (.slice alw):=au
def aa8 (x:Int×Int×Int×Int×Int×Bool):List J:=[.int .i64 x.1,.int .i64 x.2.1,.int .i64 x.2.2.1,.int .i64 x.2.2.2.1,.int .i64 x.2.2.2.2.1,.bool x.2.2.2.2.2]
abbrev Y.val (x:Er):J:= .agg ⟨aa8 x⟩
def xA:List gx->List Int×List Bool->List Int×List Bool
 |[],s=>s
 |x::r,s=>xA r (s.1.set x.1 x.2.1,s.2.set x.1 x.2.2)
structure fZ (e:cC):Prop where
 qX:gp e.table e.b e.u
 lc:e.cells.length=e.u.b8.length
 lB:e.known.length=e.u.b8.length
 Ls:e.u.reqs.length<=10000
 zL:xA e.u.reqs (e.u.lit,e.u.b8)=(e.cells,e.known)
theorem fZ.Sb {e:cC} (h:fZ e):e.cells.length=(ft e.b).toNat:=h.lc.trans h.qX.len
theorem fZ.aa9 {e:cC} (h:fZ e):e.known.length=e.cells.length:=h.lB.trans h.lc.symm
theorem fZ.aa' {e:cC} (h:fZ e):e.u.reqs.length<=400000:=Nat.le_trans h.Ls cB
def f' (e:cC) (n:Int):cC:={e with u:=(iY e.table e.b n.toNat e.u).2}
def mr (e:cC):cC:={e with u:=(iY e.table e.b (hN e.b e.u) e.u).2}
def Es (x:Er):ej:=(x.2.2.1,x.2.2.2.1,x.2.2.2.2.1)
def Sc (e:cC) (x:Er):cC:=if x.1=1 then hk e (Es x) x.2.1 else if x.1=2 then fe e (Es x) x.2.2.2.2.2 else if x.1=3 then f' e x.2.1 else if x.1=4 then mr e else e
end AE
end Go.Proofs.YtepcfjbfkedlpaaDoor
namespace Go.Proofs.YtepcfjbfkedlpaaDoor
open Go Go.ChangeShapes Go.WideShapes Go.ChangeAt Go.RowKit
section
theorem Sd:Tryd.prog.cellsOf 23=3:=au
theorem alx:Tryd.prog.cellsOf 25=6:=au
theorem aly:Tryd.prog.cellsOf 28=7:=au
theorem alz:Tryd.prog.cellsOf 26=1:=au
theorem H3:Tryd.prog.underlying 23=some (.struct (Tryd.prog.fieldsOf 23)):=au
theorem aa_:Tryd.prog.underlying 25=some (.struct (Tryd.prog.fieldsOf 25)):=au
theorem Se:Tryd.prog.underlying 28=some (.struct (Tryd.prog.fieldsOf 28)):=au
section
variable {H:Type} {enc:aK×J->H} {W:ax} {r:Reach} {ct:Nat} {base:Nat} {oy:Nat->Bool} {oz:Bool} {v:J} {d:DataW H} {p:List MemPlace}
theorem alA {t n k:Nat} {cs:List J} {x:DataW H×List MemPlace} (hu:Tryd.prog.underlying t=some (.struct (Tryd.prog.fieldsOf t))) (al:Tryd.prog.cellsOf t=k) (h:DataW.trod enc Tryd.prog W base oy oz n t cs=some x):cs.length=k:=by
 obtain⟨_,_,_,_,hlen,_,_⟩:=DataW.trod_struct hu h;rw[hlen,al]
theorem Lt {n:Nat} {cs:List J} {x:DataW H×List MemPlace} (h:DataW.trod enc Tryd.prog W base oy oz n 3 cs=some x):∃z:Int,cs=[.int .i64 z]:=by
 obtain⟨z,e,_⟩:=DataW.trod_int Tryd.underlying3 h;exact⟨z,e⟩
theorem alB {n:Nat} {cs:List J} {x:DataW H×List MemPlace} (h:DataW.trod enc Tryd.prog W base oy oz n 4 cs=some x):∃z:Bool,cs=[.bool z]:=by
 obtain⟨z,e,_⟩:=DataW.trod_bool Tryd.underlying4 h;exact⟨z,e⟩
theorem Sf {n:Nat} {cs:List J} {x:DataW H×List MemPlace} (h:DataW.trod enc Tryd.prog W base oy oz n 23 cs=some x):∃p:AE.ej,cs=[.int .i64 p.1,.int .i64 p.2.1,.int .i64 p.2.2]:=by
 have hlen:=alA H3 Sd h;obtain⟨_,vf,h0,_⟩:=p1 (i:=0) (ty:=3) (off:=0) H3 au Dz h;obtain⟨_,zw,ad,_⟩:=p1 (i:=1) (ty:=3) (off:=1) H3 au Dz h;obtain⟨_,Jj,ag,_⟩:=p1 (i:=2) (ty:=3) (off:=2) H3 au Dz h;obtain⟨z0,e0⟩:=Lt h0;obtain⟨FE,e1⟩:=Lt ad;obtain⟨z2,e2⟩:=Lt ag
 match cs,hlen,e0,e1,e2 with
 |[dC,hq,c2],_,e0,e1,e2=>
  simp only [List.drop_zero,List.drop_succ_cons,List.take_succ_cons,List.take_zero,List.cons.injEq,and_true] at e0 e1 e2;exact⟨(z0,FE,z2),by rw[e0,e1,e2]⟩
theorem abb {α:Type} [Inhabited α] {dJ:α->List J} {k t e:Nat} (hu:Tryd.prog.underlying t=some (.slice e)) (al:Tryd.prog.cellsOf e=k) (hY:0<k) (Lu:∀x,(dJ x).length=k)
  (py:∀n cs x,DataW.trod enc Tryd.prog W base oy oz n e cs=some x->∃s:α,cs=dJ s) {bn:Nat} {EJ:List J} {x:DataW H×List MemPlace} (h:DataW.trod enc Tryd.prog W base oy oz bn t EJ=some x):
  ∃(a:Option Addr) (n c:Nat) (l:List α),EJ=[.slice a n c]/\AE.cF (AE.aG W) k dJ (.slice a n c) l/\n=l.length:=by
 rcases Deep.open_slice hu h with ⟨fV,_⟩|⟨a,len,cap,m,n,zG,jn,fV,af,hl,hm,sN,aq,ai⟩
 ·exact⟨none,0,0,[],fV,.nil _ _,rfl⟩
 ·have rX:len<=m:=by rw[sN];split<;>omega
  have Bl:∀i,i<len->∃s:α,∀j u,(dJ s)[j]? =some u->W.cell? (a.add (i*k+j))=some u:=λi p2=>by
   obtain⟨cs',ar,aL⟩:=ai i aj;rw[al] at ar;obtain⟨s,rfl⟩:=py _ _ _ aL;obtain⟨_,_,DA⟩:=World.cells?_some ar;refine⟨s,λj u hj=> ?_⟩;have Oe:j<k:=by have:=(List.getElem?_eq_some_iff.1 hj).1;rwa [Lu] at this
   rw[<-Deep.add_add,DA j Oe];exact hj
  let f:Nat->α:=λi=>if h:i<len then (Bl i h).choose else default
  have aQ:∀i,i<len->∀j u,(dJ (f i))[j]? =some u->W.cell? (a.add (i*k+j))=some u:=λi p2=>by
   show ∀j u,(dJ (if h:i<len then (Bl i h).choose else default))[j]? =some u->_;rw[dif_pos p2];exact(Bl i p2).choose_spec
  have hlen:((List.range len).map f).length=len:=by simp
  refine⟨some a,len,cap,(List.range len).map f,fV,?_,hlen.symm⟩;rcases Nat.eq_zero_or_pos len with h0|h0
  ·subst h0
   exact .nil _ _
  ·obtain⟨mc,alC⟩:∃mc,(dJ (f 0))[0]? =some mc:=⟨_,f_ (by rw[Lu];exact hY)⟩
   have nH:=aQ 0 h0 0 _ alC;rw[Nat.zero_mul,Nat.zero_add] at nH;obtain⟨bk,off,spot⟩:=a;have Og:∃cs ty fr,W.heap[bk]? =some (.cells cs ty fr)/\spot=none:=by
    unfold World.cell? at nH;split at nH
    ·rename_i hq t1 f1 l_
     split at nH
     ·cases nH
     ·rename_i jW
      refine⟨hq,t1,f1,l_,?_⟩;cases spot with
      |none=>rfl
      |some x=>exact absurd rfl jW
    ·cases nH
   obtain⟨cs,ty,fr,jR,rfl⟩:=Og;have key:AE.cF (AE.aG W) k dJ (.slice (some ⟨bk,off,none⟩) ((List.range len).map f).length cap) ((List.range len).map f):=by
    refine .mk (cs:=cs) (ty:=ty) (fr:=fr) jR (by rw[hlen];exact hl) λi x aq j u hj=> ?_
    have p2:i<len:=by
     have:=(List.getElem?_eq_some_iff.1 aq).1
     rwa [hlen] at this
    have Oh:x=f i:=by
     rw[List.getElem?_map,List.getElem?_range p2] at aq;exact(Option.some.inj aq).symm
    subst Oh;have:=aQ i p2 j u hj;rw[AE.Addr.kr,cell_of_row W _ _ _ _ _ jR,<-Nat.add_assoc] at this;exact this
   rw[hlen] at key;exact key
theorem alD {α:Type} [Inhabited α] {dJ:α->List J} {k t e:Nat} (hu:Tryd.prog.underlying t=some (.slice e)) (al:Tryd.prog.cellsOf e=k) (hY:0<k) (Lu:∀x,(dJ x).length=k)
  (py:∀n cs x,DataW.trod enc Tryd.prog W base oy oz n e cs=some x->∃s:α,cs=dJ s) (aC:Value.okWide Tryd.prog W r ct t v) (h:DataW.Trod enc Tryd.prog W base oy oz t v d p):∃l:List α,AE.cF (AE.aG W) k dJ v l:=by
 obtain⟨a0,Bj,Bk,rfl⟩:=okWide_slice hu aC;obtain⟨bn,h⟩:=h;obtain⟨a,n,c,l,ad,ag,_⟩:=abb hu al hY Lu py h;have e:Value.slice a0 Bj Bk= .slice a n c:=(List.cons.inj (show [Value.slice a0 Bj Bk]=[.slice a n c] from ad)).1;rw[e];exact⟨l,ag⟩
theorem alE (aC:Value.okWide Tryd.prog W r ct 30 v) (h:DataW.Trod enc Tryd.prog W base oy oz 30 v d p):∃l:List Bool,AE.cF (AE.aG W) 1 AE.iL v l:=
 alD Tryd.underlying30 Bg cB (λ_=>rfl) (λ_ _ _ h=>alB h) aC h
theorem alF {cs:Array J} (h:cs.size=7):∃a b c d e f g,cs= #[a,b,c,d,e,f,g]:=by
 obtain⟨l⟩:=cs
 match l,h with
 |[a,b,c,d,e,f,g],_=>exact⟨a,b,c,d,e,f,g,rfl⟩
theorem alG (aC:Value.okWide Tryd.prog W r ct 28 v) (h:DataW.Trod enc Tryd.prog W base oy oz 28 v d p):∃(b:AE.bT) (a:Option Addr) (n c:Nat) (cells:List Int),v=AE.oK b (.slice a n c)/\AE.cF (AE.aG W) 1 AE.gf (.slice a n c) cells/\n=cells.length:=by
 obtain⟨cs,rfl,cr⟩:=okWide_struct Se aC;rw[aly] at cr;obtain⟨fO,eI,gQ,hf,hW,il,iW,rfl⟩:=alF cr;obtain⟨bn,h⟩:=h;obtain⟨_,vf,h0,_⟩:=p1 (i:=0) (ty:=25) (off:=0) Se au alx h;obtain⟨_,zw,ad,_⟩:=p1 (i:=1) (ty:=26) (off:=6) Se au alz h;obtain⟨_,z0,eF,_⟩:=p1 (i:=0) (ty:=23) (off:=0) aa_ au Sd h0;obtain⟨_,FE,g1,_⟩:=p1 (i:=1) (ty:=23) (off:=3) aa_ au Sd h0;obtain⟨kx,e0⟩:=Sf eF;obtain⟨q1,e1⟩:=Sf g1;obtain⟨a,n,c,l,e2,lR,av⟩:=abb (dJ:=AE.gf) Tryd.underlying26 Dz cB (λ_=>rfl) (λ_ _ _ h=>Lt h) ad;have f0:[fO,eI,gQ]=[.int .i64 kx.1,.int .i64 kx.2.1,.int .i64 kx.2.2]:=e0;have f1:[hf,hW,il]=[.int .i64 q1.1,.int .i64 q1.2.1,.int .i64 q1.2.2]:=e1;have f2:[iW]=[.slice a n c]:=e2;simp only [List.cons.injEq,and_true] at f0 f1 f2;refine⟨(kx.1,kx.2.1,kx.2.2,q1.1,q1.2.1,q1.2.2),a,n,c,l,?_,lR,av⟩;rw[f0.1,f0.2.1,f0.2.2,f1.1,f1.2.1,f1.2.2,f2]
end
end
end Go.Proofs.YtepcfjbfkedlpaaDoor
namespace Go.Proofs.YtepcfjbfkedlpaaDoor
open Go Go.Proofs Go.RowKit
namespace AE
theorem abd:∀(l:List gx) (x:gx) (s:List Int×List Bool),xA (l++[x]) s=((xA l s).1.set x.1 x.2.1,(xA l s).2.set x.1 x.2.2)
 |[],_,_=>rfl
 |_::l,x,_=>abd l x _
variable {table:List cU} {b:bT}
theorem alH (u:iN):xA (gS table b u).2.reqs ((gS table b u).2.lit,(gS table b u).2.b8)=xA u.reqs (u.lit,u.b8)/\(gS table b u).2.reqs.length<=u.reqs.length:=by
 by_cases ad:0<u.bH.length
 ·rw[G4 ad]
  obtain⟨q1,aH,bW⟩:=Y' (table:=table) (b:=b) u (u.bH.getD 0 default) (u.bH.drop 1);dsimp only;rw[q1,aH,bW];exact⟨rfl,cj _⟩
 ·by_cases ag:0<u.bw.length
  ·rw[G5 ad ag]
   obtain⟨q1,aH,bW⟩:=Y_ (table:=table) (b:=b) u (u.bw.getD 0 default) (u.bw.drop 1);dsimp only;rw[q1,aH,bW];exact⟨rfl,cj _⟩
  ·by_cases ay:0<u.reqs.length
   ·rw[G6 ad ag ay]
    have:=G8 (d:=default) (List.length_pos_iff.1 ay);refine⟨?_,?_⟩
    ·conv=>rhs;rw[this]
     rfl
    ·show (u.reqs.drop 1).length<=_
     rw[List.length_drop];omega
   ·rw[G7 ad ag ay]
    exact⟨rfl,cj _⟩
theorem Lv:∀(f:Nat) (u:iN),xA (iY table b f u).2.reqs ((iY table b f u).2.lit,(iY table b f u).2.b8)=xA u.reqs (u.lit,u.b8)/\(iY table b f u).2.reqs.length<=u.reqs.length
 |0,_=>⟨rfl,cj _⟩
 |f+1,u=>by
  unfold iY;split
  ·obtain⟨q1,aH⟩:=Lv f (gS table b u).2
   obtain⟨cO,dx⟩:=alH (table:=table) (b:=b) u;exact⟨q1.trans cO,Nat.le_trans aH dx⟩
  ·exact⟨rfl,cj _⟩
def pk (e:cC):Prop:=e.u.bH.length=0/\e.u.bw.length=0/\e.u.reqs.length=0
instance (e:cC):Decidable (pk e):=by unfold pk;infer_instance
def wm (e:cC):Nat:=hN e.b e.u
def wo (e:cC) (n:Int):Nat:=(iY e.table e.b n.toNat e.u).1
def wq (e:cC):Nat:=(iY e.table e.b (hN e.b e.u) e.u).1
theorem abe {u:iN} (h:(gS table b u).1=false):u.bH.length=0/\u.bw.length=0/\u.reqs.length=0:=by
 by_cases ad:0<u.bH.length
 ·rw[G4 ad] at h;cases h
 ·by_cases ag:0<u.bw.length
  ·rw[G5 ad ag] at h;cases h
  ·by_cases ay:0<u.reqs.length
   ·rw[G6 ad ag ay] at h;cases h
   ·exact⟨aj,aj,aj⟩
theorem fZ.run {e:cC} (h:fZ e) (f:Nat) {u':iN} (hu:u'=(iY e.table e.b f e.u).2) (aA:gp e.table e.b u'):fZ {e with u:=u'}:=by
 subst hu;obtain⟨q1,aH⟩:=Lv (table:=e.table) (b:=e.b) f e.u;have hl:=aA.len.trans h.qX.len.symm;exact⟨aA,h.lc.trans hl.symm,h.lB.trans hl.symm,Nat.le_trans aH h.Ls,q1.trans h.zL⟩
theorem fZ.xf {e:cC} (h:fZ e) (n:Int):fZ (f' e n)/\wo e n<=n.toNat/\(wo e n<n.toNat->pk (f' e n))/\wo e n+wm (f' e n)<=wm e/\(f' e n).u.reqs.length<=e.u.reqs.length:=by
 obtain⟨q1,aH⟩:=h.qX.run n.toNat;obtain⟨cO,_,_,u3⟩:=K7 (table:=e.table) (b:=e.b) n.toNat e.u;refine⟨h.run n.toNat rfl q1,cO,λck=> ?_,aH,(Lv (table:=e.table) (b:=e.b) n.toNat e.u).2⟩;have av:=u3.resolve_left (Nat.ne_of_lt ck);exact abe av
theorem fZ.set {e:cC} (h:fZ e):fZ (mr e)/\pk (mr e)/\wq e+wm (mr e)<=wm e/\(mr e).u.reqs.length<=e.u.reqs.length:=by
 obtain⟨q1,aH,bW⟩:=h.qX.settle;exact⟨h.run _ rfl q1,abe aH,bW,(Lv (table:=e.table) (b:=e.b) _ e.u).2⟩
theorem fZ.full {e:cC} (h:fZ e) (aw:pk e):uG (gT e.b) (iO e.table e.cells e.known) (dF e.u.aE)/\e.u.lit=e.cells/\e.u.b8=e.known:=by
 unfold pk at aw;have av:gS e.table e.b e.u=(false,e.u):=G7 aj aj aj;obtain⟨_,_,_,ao,_,aQ⟩:=h.qX.done (by rw[av]);have hp:=h.zL;rw[ao] at hp;have ad:e.u.lit=e.cells:=congrArg Prod.fst hp;have ag:e.u.b8=e.known:=congrArg Prod.snd hp;rw[ad,ag] at aQ;exact⟨aQ,ad,ag⟩
def refuse (e:cC) (_:ej):Prop:=e.most<=((e.u.reqs.length:Nat):Int)
theorem Lw {α:Type} {l:List α} {k:Nat} {d:α}:l.set k (l.getD k d)=l:=by
 apply List.ext_getElem?;intro i;rw[List.getElem?_set];split
 ·rename_i al
  subst al;split
  ·rename_i hl
   rw[dp,f_ hl];rfl
  ·rename_i hl
   exact(List.getElem?_eq_none aj).symm
 ·rfl
theorem fZ.ask {e:cC} (h:fZ e) (ao:e.u.reqs.length<10000) {p:ej} (hp:bS p e.b) {x:gx} (aq:x.1=b_ e.b p) {c:List Int} {k:List Bool} (ar:c=e.cells.set (b_ e.b p) x.2.1) (al:k=e.known.set (b_ e.b p) x.2.2):
  fZ {e with u:={e.u with reqs:=e.u.reqs++[x]},cells:=c,known:=k}/\hN e.b {e.u with reqs:=e.u.reqs++[x]}=wm e+qI (gT e.b).N:=by
 have hl:x.1<e.u.b8.length:=by rw[aq,h.qX.len];exact Ll hp
 obtain⟨q1,aH⟩:=h.qX.ask hl;refine⟨⟨q1,?_,?_,?_,?_⟩,aH⟩
 ·subst ar;exact(List.length_set).trans h.lc
 ·subst al;exact(List.length_set).trans h.lB
 ·show (e.u.reqs++[x]).length<=10000
  rw[List.length_append,List.length_singleton];omega
 ·show xA (e.u.reqs++[x]) _=_
  rw[abd,h.zL,ar,al,aq]
theorem Sg {e:cC} {p:ej} {c:Int} (h:l5 e.b e.most p e.u.reqs c≠0):hk e p c=e:=by
 obtain⟨u,b,table,cells,known,most⟩:=e;by_cases ar:sF c
 ·have av:¬acc b most p u.reqs.length:=λq=>h (by unfold l5 jF;dsimp only;rw[aY ar,aY q.1,a' q.2])
  unfold hk y1 Cg mO pL;dsimp only;rw[a' av,a' av,ite_self,ite_self]
 ·unfold hk y1 Cg
  dsimp only;rw[a' ar,a' ar]
theorem alI {e:cC} {p:ej} {k:Bool} (h:jF e.b e.most p e.u.reqs≠0):fe e p k=e:=by
 obtain⟨u,b,table,cells,known,most⟩:=e;have av:¬acc b most p u.reqs.length:=λq=>h (by unfold jF;dsimp only;rw[aY q.1,a' q.2])
 unfold fe mO pL;dsimp only;rw[a' av,a' av]
theorem abf {e:cC} {p:ej} {c:Int} (h:l5 e.b e.most p e.u.reqs c=0):sF c/\bS p e.b/\¬e.most<=((e.u.reqs.length:Nat):Int)/\hk e p c={e with u:={e.u with reqs:=e.u.reqs++[(b_ e.b p,c,e.known.getD (b_ e.b p) default)]},cells:=e.cells.set (b_ e.b p) c}:=by
 unfold l5 jF at h;split at h
 ·split at h
  ·split at h
   ·cases h
   ·rename_i ad ag ay
    have bE:acc e.b e.most p e.u.reqs.length:=⟨ag,ay⟩;unfold hk y1 Cg mO pL;rw[aY ad,aY ad,aY bE,aY bE];exact⟨ad,ag,ay,rfl⟩
  ·cases h
 ·cases h
theorem abg {e:cC} {p:ej} {k:Bool} (h:jF e.b e.most p e.u.reqs=0):bS p e.b/\¬e.most<=((e.u.reqs.length:Nat):Int)/\fe e p k={e with u:={e.u with reqs:=e.u.reqs++[(b_ e.b p,e.cells.getD (b_ e.b p) default,k)]},known:=e.known.set (b_ e.b p) k}:=by
 unfold jF at h;split at h
 ·split at h
  ·cases h
  ·rename_i ag ay
   have bE:acc e.b e.most p e.u.reqs.length:=⟨ag,ay⟩;unfold fe mO pL;rw[aY bE,aY bE];exact⟨ag,ay,rfl⟩
 ·cases h
theorem fZ.cl {e:cC} (h:fZ e) (ao:e.u.reqs.length<10000) (p:ej) (c:Int):fZ (hk e p c)/\(l5 e.b e.most p e.u.reqs c=0->(hk e p c).u.reqs.length=e.u.reqs.length+1/\wm (hk e p c)=wm e+qI (gT e.b).N)/\(l5 e.b e.most p e.u.reqs c≠0->hk e p c=e):=by
 by_cases h0:l5 e.b e.most p e.u.reqs c=0
 ·obtain⟨_,hp,_,he⟩:=abf h0
  rw[he];obtain⟨q1,aH⟩:=h.ask ao hp (x:=(b_ e.b p,c,e.known.getD (b_ e.b p) default)) U U Lw.symm;exact⟨q1,λ_=>⟨by show (e.u.reqs++[_]).length=_;rw[List.length_append,List.length_singleton],aH⟩,λav=>absurd h0 av⟩
 ·rw[Sg h0]
  exact⟨h,λav=>absurd av h0,λ_=>rfl⟩
theorem fZ.bA {e:cC} (h:fZ e) (ao:e.u.reqs.length<10000) (p:ej) (k:Bool):fZ (fe e p k)/\(jF e.b e.most p e.u.reqs=0->(fe e p k).u.reqs.length=e.u.reqs.length+1/\wm (fe e p k)=wm e+qI (gT e.b).N)/\(jF e.b e.most p e.u.reqs≠0->fe e p k=e):=by
 by_cases h0:jF e.b e.most p e.u.reqs=0
 ·obtain⟨hp,_,he⟩:=abg (k:=k) h0
  rw[he];obtain⟨q1,aH⟩:=h.ask ao hp (x:=(b_ e.b p,e.cells.getD (b_ e.b p) default,k)) rfl Lw.symm rfl;exact⟨q1,λ_=>⟨by show (e.u.reqs++[_]).length=_;rw[List.length_append,List.length_singleton],aH⟩,λav=>absurd h0 av⟩
 ·rw[alI h0]
  exact⟨h,λav=>absurd av h0,λ_=>rfl⟩
theorem fZ.do {e:cC} (h:fZ e) (ao:e.u.reqs.length<10000) (x:Er):fZ (Sc e x)/\(Sc e x).u.reqs.length<=e.u.reqs.length+1:=by
 unfold Sc;split
 ·obtain⟨q1,aH,bW⟩:=h.cl ao (Es x) x.2.1
  refine⟨q1,?_⟩;by_cases h0:l5 e.b e.most (Es x) e.u.reqs x.2.1=0
  ·rw[(aH h0).1];exact cj _
  ·rw[bW h0];omega
 ·split
  ·obtain⟨q1,aH,bW⟩:=h.bA ao (Es x) x.2.2.2.2.2
   refine⟨q1,?_⟩;by_cases h0:jF e.b e.most (Es x) e.u.reqs=0
   ·rw[(aH h0).1];exact cj _
   ·rw[bW h0];omega
  ·split
   ·obtain⟨q1,_,_,_,gN⟩:=h.xf x.2.1
    exact⟨q1,aj⟩
   ·split
    ·obtain⟨q1,_,_,gN⟩:=h.set
     exact⟨q1,aj⟩
    ·exact⟨h,aj⟩
theorem Lx {b:bT} {cells:List Int} {table:List cU} {known:List Bool} {most:Int} (h:oa b cells table known most) (av:cells.length<=10000):fZ (k1 b cells table known most)/\wm (k1 b cells table known most)<=361*cells.length:=by
 obtain⟨q1,aH,bW,et⟩:=alu h av;exact⟨⟨q1,aH,bW,Nat.zero_le _,rfl⟩,et⟩
end AE
namespace AE
theorem all_eq {α:Type} [Inhabited α] {l k:List α} (hl:l.length=k.length) (h:∀j,j<l.length->l.getD j default=k.getD j default):l=k:=by
 apply List.ext_getElem hl;intro i ad ag;have:=h i ad;rw[dp,dp,f_ ad,f_ ag] at this;exact this
theorem abh {a b:Bool} {d:Bool} (ad:a=d) (ag:b=d):a=b:=ad.trans ag.symm
theorem abi {a b:Bool} (ad:¬a=true) (ag:¬b=true):a=b:=by
 cases a<;>cases b<;>simp_all
theorem Sh {α fc:Type} [Inhabited α] {f:α->fc} {l:List α} {i:Nat} (h:i<l.length):(l.take i).map f++[f (l.getD i default)]=(l.take (i+1)).map f:=by
 rw[List.take_add_one,List.map_append,f_ h,dp,f_ h];rfl
end AE
namespace AE
namespace Si
noncomputable def body:Code:=(Tryd.f47.body).getD .skip
def N:Nat:=20
noncomputable abbrev bz:=fj Tryd.prog Tryd.f47
def aN:b6:={sl:=b1 [(0,0)],ms:=[],A:=start}
def bN:bd:=[(.len #[29] 3 0,1),
 (.bin .gtr 3 1 (I 300),.bool true)]
theorem e0:bz (at' 20 bN [] body aN)=some (.bool false):=au
def cb:bd:=[(.len #[29] 3 0,1),
 (.bin .gtr 3 1 (I 300),.bool false)]
def eQ:List bu:=[]
def eR:aF:=b1 [(3,2),(0,0)]
abbrev hO:=at' 20 cb [] body aN
theorem e1:pZ eR eQ hO=some [(0,0),(I 0,2)]:=au
def e7:Code:=ta body [1,1,0,1,4]
def iq:List fi:=oA body [1,1,0,1,4] []
theorem e2:pz hO=e7:=au
theorem e3:gA hO=iq:=au
def dk:bd:=[(.len #[29] 3 0,1),
 (.bin .lss 3 2 1,.bool true),
 (.dG 29 0 2,3),
 (.cn 70 3 0,4),
 (.bA 9 4,5),
 (.len #[9] 3 5,6),
 (.bin .gtr 3 6 (I 60),.bool true)]
theorem hA:bz (nO 20 [] [] iq (at' 20 dk [] e7 (b3 eR eQ)))=some (.bool false):=au
def fI:bd:=[(.len #[29] 3 0,1),
 (.bin .lss 3 2 1,.bool true),
 (.dG 29 0 2,3),
 (.cn 70 3 0,4),
 (.bA 9 4,5),
 (.len #[9] 3 5,6),
 (.bin .gtr 3 6 (I 60),.bool false),
 (.bin .add 3 2 (I 1),7)]
theorem kp:qE eR eQ (at' 20 fI [] e7 (b3 eR eQ))=some [(0,0),(7,2)]:=au
def hG:bd:=[(.len #[29] 3 0,1),
 (.bin .lss 3 2 1,.bool false)]
theorem h2:bz (nO 20 [] [] iq (at' 20 hG [] e7 (b3 eR eQ)))=some (.bool true):=au
@[reducible] noncomputable def bB (l:List cU) (dR:ch) (ec:Nat) (i:Nat:=0):List J:=[br dR l ec,I ((l.length:Nat):Int),I ((i:Nat):Int),hb (br dR l ec) (i*8),hb (br dR l ec) (i*8+0),cw (l.getD (i) default).1,I (((l.getD (i) default).1.length:Nat):Int),I ((i+1:Nat):Int)]
theorem any (W:ax) {h_:J} {l:List cU} (hl:cF (aG W) 8 jB h_ l):Calls Tryd.prog 47 #[h_] W λe w'=>e= .returned (.bool (decide (n1 l)))/\cg W.heap.size W w':=by
 obtain⟨dR,ec,rfl⟩:=hl.slice;refine jE (bB l dR ec) body aN N [ak 0] Tryd.func47 λa ah=> ?_
 letI:=b4 ah;by_cases h0:300<((l.length:Nat):Int)
 ·refine bx bN [] (ae (eM hl lU) (ae a8 aO)) aP ?_ ah
  exact bR e0 λw2 bm=>(by first|(rw[cx (OP aj)];rfl)|(rw[cx (OQ (i:=i) aj aj)];rfl)|(rw[eH (OR aj (λj h=>bf.2 j aj))];rfl))
 ·refine bx cb [] (ae (eM hl lU) (ae aS aO)) aP ?_ ah
  refine tg (gn:=(λi=>aW (aG W) (bB l dR ec i))) (λi=>i<=l.length/\∀j,j<i->(l.getD j default).1.length<=60) (λi=>l.length-i) 0 e1 fq (λ_ _ h=>h) (by exact⟨Nat.zero_le _,λj h=>absurd h (Nat.not_lt_zero _)⟩) ?_;intro i bf dz w ah;letI:=b4 ah;refine tc e2 e3 ?_;by_cases sQ:((i:Nat):Int)<((l.length:Nat):Int)
  ·by_cases ih:60<(((l.getD (i) default).1.length:Nat):Int)
   ·refine bx dk [] (ae (eM hl lU) (ae a8 (ae (nn hl lU qG) (ae (V3 hl (show i<l.length by omega) U U U U) (ae (qg 0 hl (lJ i) V2) (ae (aT.zF U U rk U U) (ae a8 aO))))))) aP ?_ ah
    refine n' [] [] aO aP ?_;exact bR hA λw2 bm=>(by first|(rw[cx (OP aj)];rfl)|(rw[cx (OQ (i:=i) aj aj)];rfl)|(rw[eH (OR aj (λj h=>bf.2 j aj))];rfl))
   ·refine bx fI [] (ae (eM hl lU) (ae a8 (ae (nn hl lU qG) (ae (V3 hl (show i<l.length by omega) U U U U) (ae (qg 0 hl (lJ i) V2) (ae (aT.zF U U rk U U) (ae aS (ae ko aO)))))))) aP ?_ ah
    exact tu (i+1) kp fq (by exact⟨aj,λj h=>by rcases Nat.lt_or_ge j i with ad|ad;exact bf.2 j ad;rw[show j=i by omega];omega⟩)
  ·refine bx hG [] (ae (eM hl lU) (ae aS aO)) aP ?_ ah
   refine n' [] [] aO aP ?_;exact bR h2 λw2 bm=>(by first|(rw[cx (OP aj)];rfl)|(rw[cx (OQ (i:=i) aj aj)];rfl)|(rw[eH (OR aj (λj h=>bf.2 j aj))];rfl))
end Si
end AE
namespace AE
section
variable [a1]
theorem Sj {x:J} {u:J} {l:List cU} (hp:dL [x]=true) (bp:eo [x]=[u]) (hl:cF a1.dq 8 jB u l) (h:n1 l):i_ Tryd.prog (47,[x],.bool true):=
 kK (a:= #[u]) hp rfl bp rfl λw hw=>(Si.any w (hl.mono hw)).mono λe w' fu=>by rw[eH h] at fu;exact fu
theorem alJ {x:J} {u:J} {l:List cU} (hp:dL [x]=true) (bp:eo [x]=[u]) (hl:cF a1.dq 8 jB u l) (h:¬n1 l):i_ Tryd.prog (47,[x],.bool false):=
 kK (a:= #[u]) hp rfl bp rfl λw hw=>(Si.any w (hl.mono hw)).mono λe w' fu=>by rw[cx h] at fu;exact fu
end
end AE
namespace AE
namespace Sk
noncomputable def body:Code:=(Tryd.f25.body).getD .skip
def N:Nat:=22
noncomputable abbrev bz:=fj Tryd.prog Tryd.f25
def aN:b6:={sl:=b1 [(2,1),(1,0),(0,.agg ⟨[2,3,4,5,6,7,8]⟩)],ms:=[],A:=start}
def bN:bd:=[(.len #[26] 3 8,9),
 (.bin .leq 3 9 (I 1000),.bool true),
 (.len #[30] 3 1,10),
 (.bin .leq 3 10 (I 1200),.bool true)]
def jX:dX:=[(47,[0],.bool true)]
theorem e0:bz (at' 22 bN jX body aN)=some (.bool true):=au
def cb:bd:=[(.len #[26] 3 8,9),
 (.bin .leq 3 9 (I 1000),.bool true),
 (.len #[30] 3 1,10),
 (.bin .leq 3 10 (I 1200),.bool false)]
def h':dX:=[(47,[0],.bool true)]
theorem e1:bz (at' 22 cb h' body aN)=some (.bool false):=au
def dk:bd:=[(.len #[26] 3 8,9),
 (.bin .leq 3 9 (I 1000),.bool false)]
def oJ:dX:=[(47,[0],.bool true)]
theorem e2:bz (at' 22 dk oJ body aN)=some (.bool false):=au
def sE:dX:=[(47,[0],.bool false)]
theorem e3:bz (at' 22 [] sE body aN)=some (.bool false):=au
@[reducible] noncomputable def bB (cells:List Int) (bP:ch) (bJ bQ:Nat) (table:List cU) (kA:ch) (kB:Nat) (known:List Bool) (c9:ch) (c_:Nat) (b:bT):List J:=[br kA table kB,br c9 known c_,I b.1,I b.2.1,I b.2.2.1,I b.2.2.2.1,I b.2.2.2.2.1,I b.2.2.2.2.2,.slice bP bJ bQ,I ((cells.length:Nat):Int),I ((known.length:Nat):Int)]
theorem any (W:ax) {b:bT} {bP:ch} {bJ bQ:Nat} {cells:List Int} (hX:cF (aG W) 1 gf (.slice bP bJ bQ) cells) {oM:J} {table:List cU} (aL:cF (aG W) 8 jB oM table) {oN:J} {known:List Bool} (hM:cF (aG W) 1 iL oN known) (iz:bJ=cells.length):Calls Tryd.prog 25 #[.agg ⟨[I b.1,I b.2.1,I b.2.2.1,I b.2.2.2.1,I b.2.2.2.2.1,I b.2.2.2.2.2,.slice bP bJ bQ]⟩,oM,oN] W λe w'=>e= .returned (.bool (decide (n1 table/\cells.length<=1000/\known.length<=1200)))/\cg W.heap.size W w':=by
 obtain⟨kA,kB,rfl⟩:=aL.slice;obtain⟨c9,c_,rfl⟩:=hM.slice;refine jE (bB cells bP bJ bQ table kA kB known c9 c_ b) body aN N [.agg ⟨[ak 2,ak 3,ak 4,ak 5,ak 6,ak 7,ak 8]⟩,ak 0,ak 1] Tryd.func25 λa ah=> ?_
 letI:=b4 ah;have aI:=bI.o1 W;by_cases h0:n1 table
 ·by_cases ad:((cells.length:Nat):Int)<=1000
  ·by_cases ag:((known.length:Nat):Int)<=1200
   ·refine bx bN jX (ae (eM (hX.mono aI.ext) iA) (ae a8 (ae (eM (hM.mono aI.ext) mj) (ae a8 aO)))) (cD (Sj U U (aL.mono aI.ext) h0) aP) ?_ ah
    exact bR e0 λw2 bm=>(by first|(rw[eH (show n1 table/\cells.length<=1000/\known.length<=1200 from ⟨bK,aj,aj⟩)];rfl)|(rw[cx (λq:n1 table/\cells.length<=1000/\known.length<=1200=>by first|exact absurd q.1 bK|(have q1:=q.2.1;have aH:=q.2.2;omega))];rfl))
   ·refine bx cb h' (ae (eM (hX.mono aI.ext) iA) (ae a8 (ae (eM (hM.mono aI.ext) mj) (ae aS aO)))) (cD (Sj U U (aL.mono aI.ext) h0) aP) ?_ ah
    exact bR e1 λw2 bm=>(by first|(rw[eH (show n1 table/\cells.length<=1000/\known.length<=1200 from ⟨bK,aj,aj⟩)];rfl)|(rw[cx (λq:n1 table/\cells.length<=1000/\known.length<=1200=>by first|exact absurd q.1 bK|(have q1:=q.2.1;have aH:=q.2.2;omega))];rfl))
  ·refine bx dk oJ (ae (eM (hX.mono aI.ext) iA) (ae aS aO)) (cD (Sj U U (aL.mono aI.ext) h0) aP) ?_ ah
   exact bR e2 λw2 bm=>(by first|(rw[eH (show n1 table/\cells.length<=1000/\known.length<=1200 from ⟨bK,aj,aj⟩)];rfl)|(rw[cx (λq:n1 table/\cells.length<=1000/\known.length<=1200=>by first|exact absurd q.1 bK|(have q1:=q.2.1;have aH:=q.2.2;omega))];rfl))
 ·refine bx [] sE aO (cD (alJ U U (aL.mono aI.ext) h0) aP) ?_ ah
  exact bR e3 λw2 bm=>(by first|(rw[eH (show n1 table/\cells.length<=1000/\known.length<=1200 from ⟨bK,aj,aj⟩)];rfl)|(rw[cx (λq:n1 table/\cells.length<=1000/\known.length<=1200=>by first|exact absurd q.1 bK|(have q1:=q.2.1;have aH:=q.2.2;omega))];rfl))
end Sk
end AE
namespace AE
def Et (cells:List Int) (table:List cU) (known:List Bool):Prop:=n1 table/\cells.length<=1000/\known.length<=1200
instance (cells:List Int) (table:List cU) (known:List Bool):Decidable (Et cells table known):=by unfold Et;infer_instance
def tN (cells:List Int) (table:List cU) (known:List Bool) (n:Nat):Prop:=cells.length<=120/\n<=30/\Et cells table known
instance (cells:List Int) (table:List cU) (known:List Bool) (n:Nat):Decidable (tN cells table known n):=by unfold tN;infer_instance
section
variable [a1] {x y z:J} {b:bT} {cells:List Int} {table:List cU} {known:List Bool} {a:Option Addr} {n c:Nat} {u v:J}
theorem alK (hp:dL [x,y,z]=true) (ao:aM (.bool true)=true) (bp:eo [x,y,z]=[oK b (.slice a n c),u,v])
  (ar:cF a1.dq 1 gf (.slice a n c) cells) (aL:cF a1.dq 8 jB u table) (al:cF a1.dq 1 iL v known) (iz:n=cells.length) (h:Et cells table known):i_ Tryd.prog (25,[x,y,z],.bool true):=
 kK (a:= #[oK b (.slice a n c),u,v]) hp ao bp rfl λw hw=>(Sk.any w (ar.mono hw) (aL.mono hw) (al.mono hw) iz).mono λe w' fu=>by rw[eH (show n1 table/\cells.length<=1000/\known.length<=1200 from h)] at fu;exact fu
theorem alL (hp:dL [x,y,z]=true) (ao:aM (.bool false)=true) (bp:eo [x,y,z]=[oK b (.slice a n c),u,v])
  (ar:cF a1.dq 1 gf (.slice a n c) cells) (aL:cF a1.dq 8 jB u table) (al:cF a1.dq 1 iL v known) (iz:n=cells.length) (h:¬Et cells table known):i_ Tryd.prog (25,[x,y,z],.bool false):=
 kK (a:= #[oK b (.slice a n c),u,v]) hp ao bp rfl λw hw=>(Sk.any w (ar.mono hw) (aL.mono hw) (al.mono hw) iz).mono λe w' fu=>by rw[cx (show ¬(n1 table/\cells.length<=1000/\known.length<=1200) from h)] at fu;exact fu
end
end AE
namespace AE
namespace abj
noncomputable def body:Code:=(Tryd.f7.body).getD .skip
def N:Nat:=24
noncomputable abbrev bz:=fj Tryd.prog Tryd.f7
def aN:b6:={sl:=b1 [(3,2),(2,1),(1,0),(0,.agg ⟨[3,4,5,6,7,8,9]⟩)],ms:=[],A:=start}
def bN:bd:=[(.len #[26] 3 9,10),
 (.bin .leq 3 10 (I 120),.bool true),
 (.len #[31] 3 2,11),
 (.bin .leq 3 11 (I 30),.bool true)]
def jX:dX:=[(25,[.agg ⟨[3,4,5,6,7,8,9]⟩,0,1],.bool true)]
theorem e0:bz (at' 24 bN jX body aN)=some (.bool true):=au
def cb:bd:=[(.len #[26] 3 9,10),
 (.bin .leq 3 10 (I 120),.bool true),
 (.len #[31] 3 2,11),
 (.bin .leq 3 11 (I 30),.bool true)]
def h':dX:=[(25,[.agg ⟨[3,4,5,6,7,8,9]⟩,0,1],.bool false)]
theorem e1:bz (at' 24 cb h' body aN)=some (.bool false):=au
def dk:bd:=[(.len #[26] 3 9,10),
 (.bin .leq 3 10 (I 120),.bool true),
 (.len #[31] 3 2,11),
 (.bin .leq 3 11 (I 30),.bool false)]
theorem e2:bz (at' 24 dk [] body aN)=some (.bool false):=au
def eg:bd:=[(.len #[26] 3 9,10),
 (.bin .leq 3 10 (I 120),.bool false)]
theorem e3:bz (at' 24 eg [] body aN)=some (.bool false):=au
@[reducible] noncomputable def bB (cells:List Int) (bP:ch) (bJ bQ:Nat) (table:List cU) (kA:ch) (kB:Nat) (known:List Bool) (c9:ch) (c_:Nat) (l:List Er) (dR:ch) (ec:Nat) (b:bT):List J:=[br kA table kB,br c9 known c_,br dR l ec,I b.1,I b.2.1,I b.2.2.1,I b.2.2.2.1,I b.2.2.2.2.1,I b.2.2.2.2.2,.slice bP bJ bQ,I ((cells.length:Nat):Int),I ((l.length:Nat):Int)]
theorem any (W:ax) {b:bT} {bP:ch} {bJ bQ:Nat} {cells:List Int} (hX:cF (aG W) 1 gf (.slice bP bJ bQ) cells) {oM:J} {table:List cU} (aL:cF (aG W) 8 jB oM table) {oN:J} {known:List Bool} (hM:cF (aG W) 1 iL oN known) {h_:J} {l:List Er} (hl:cF (aG W) 6 aa8 h_ l) (iz:bJ=cells.length):Calls Tryd.prog 7 #[.agg ⟨[I b.1,I b.2.1,I b.2.2.1,I b.2.2.2.1,I b.2.2.2.2.1,I b.2.2.2.2.2,.slice bP bJ bQ]⟩,oM,oN,h_] W λe w'=>e= .returned (.bool (decide (tN cells table known l.length)))/\cg W.heap.size W w':=by
 obtain⟨kA,kB,rfl⟩:=aL.slice;obtain⟨c9,c_,rfl⟩:=hM.slice;obtain⟨dR,ec,rfl⟩:=hl.slice;refine jE (bB cells bP bJ bQ table kA kB known c9 c_ l dR ec b) body aN N [.agg ⟨[ak 3,ak 4,ak 5,ak 6,ak 7,ak 8,ak 9]⟩,ak 0,ak 1,ak 2] Tryd.func7 λa ah=> ?_
 letI:=b4 ah;have aI:=bI.o1 W;by_cases h0:((cells.length:Nat):Int)<=120
 ·by_cases ad:((l.length:Nat):Int)<=30
  ·by_cases ag:Et cells table known
   ·refine bx bN jX (ae (eM (hX.mono aI.ext) iA) (ae a8 (ae (eM (hl.mono aI.ext) Sa) (ae a8 aO)))) (cD (alK U U U (hX.mono aI.ext) (aL.mono aI.ext) (hM.mono aI.ext) iz ag) aP) ?_ ah
    exact bR e0 λw2 bm=>(by first|(rw[eH (show tN cells table known l.length from ⟨aj,aj,bK⟩)];rfl)|(rw[cx (λq:tN cells table known l.length=>by first|exact absurd q.2.2 bK|(have q1:=q.1;have aH:=q.2.1;omega))];rfl))
   ·refine bx cb h' (ae (eM (hX.mono aI.ext) iA) (ae a8 (ae (eM (hl.mono aI.ext) Sa) (ae a8 aO)))) (cD (alL U U U (hX.mono aI.ext) (aL.mono aI.ext) (hM.mono aI.ext) iz ag) aP) ?_ ah
    exact bR e1 λw2 bm=>(by first|(rw[eH (show tN cells table known l.length from ⟨aj,aj,bK⟩)];rfl)|(rw[cx (λq:tN cells table known l.length=>by first|exact absurd q.2.2 bK|(have q1:=q.1;have aH:=q.2.1;omega))];rfl))
  ·refine bx dk [] (ae (eM (hX.mono aI.ext) iA) (ae a8 (ae (eM (hl.mono aI.ext) Sa) (ae aS aO)))) aP ?_ ah
   exact bR e2 λw2 bm=>(by first|(rw[eH (show tN cells table known l.length from ⟨aj,aj,bK⟩)];rfl)|(rw[cx (λq:tN cells table known l.length=>by first|exact absurd q.2.2 bK|(have q1:=q.1;have aH:=q.2.1;omega))];rfl))
 ·refine bx eg [] (ae (eM (hX.mono aI.ext) iA) (ae aS aO)) aP ?_ ah
  exact bR e3 λw2 bm=>(by first|(rw[eH (show tN cells table known l.length from ⟨aj,aj,bK⟩)];rfl)|(rw[cx (λq:tN cells table known l.length=>by first|exact absurd q.2.2 bK|(have q1:=q.1;have aH:=q.2.1;omega))];rfl))
end abj
end AE
namespace AE
def alM:cU:=([97,105,114],false,false,false,1,0,0,0)
def H4:List cU:=[alM,([115,116,111,110,101],true,false,false,16,0,0,0),([103,108,97,115,115],true,false,false,1,0,0,0),([108,97,109,112],true,false,false,16,15,14,10),([115,97,110,100],true,false,true,16,0,0,0),([119,97,116,101,114],false,true,false,3,0,0,0),([108,101,97,118,101,115],true,false,false,2,0,0,0),([101,109,98,101,114],true,false,false,16,9,3,0),([102,111,103],false,false,false,2,0,0,0)]
def wu:bT:=(0,0,0,1,1,4)
def CN:cC:=k1 wu [3,0,0,0] H4 [] 2
def sG:cC:=mr CN
end AE
namespace AE
namespace Eu
noncomputable def body:Code:=(Tryd.f28.body).getD .skip
def N:Nat:=26
noncomputable abbrev bz:=fj Tryd.prog Tryd.f28
def aN:b6:={sl:=b1 [(1,1),(0,0)],ms:=[],A:=start}
def bN:bd:=[(.len #[26] 3 0,2),
 (.len #[26] 3 1,3),
 (.bin .neq 3 2 3,.bool false)]
def eQ:List bu:=[]
def eR:aF:=b1 [(5,4),(1,1),(0,0)]
abbrev hO:=at' 26 bN [] body aN
theorem e0:pZ eR eQ hO=some [(0,0),(1,1),(I 0,4)]:=au
def e7:Code:=ta body [1,1,0,1,4]
def iq:List fi:=oA body [1,1,0,1,4] []
theorem e1:pz hO=e7:=au
theorem e2:gA hO=iq:=au
def cb:bd:=[(.len #[26] 3 0,2),
 (.bin .lss 3 4 2,.bool true),
 (.dG 26 0 4,5),
 (.bA 3 5,6),
 (.dG 26 1 4,7),
 (.bA 3 7,8),
 (.bin .neq 3 6 8,.bool false),
 (.bin .add 3 4 (I 1),9)]
theorem e3:qE eR eQ (at' 26 cb [] e7 (b3 eR eQ))=some [(0,0),(1,1),(9,4)]:=au
def dk:bd:=[(.len #[26] 3 0,2),
 (.bin .lss 3 4 2,.bool true),
 (.dG 26 0 4,5),
 (.bA 3 5,6),
 (.dG 26 1 4,7),
 (.bA 3 7,8),
 (.bin .neq 3 6 8,.bool true)]
theorem hA:bz (nO 26 [] [] iq (at' 26 dk [] e7 (b3 eR eQ)))=some (.bool false):=au
def fI:bd:=[(.len #[26] 3 0,2),
 (.bin .lss 3 4 2,.bool false)]
theorem kp:bz (nO 26 [] [] iq (at' 26 fI [] e7 (b3 eR eQ)))=some (.bool true):=au
def hG:bd:=[(.len #[26] 3 0,2),
 (.len #[26] 3 1,3),
 (.bin .neq 3 2 3,.bool true)]
theorem h2:bz (at' 26 hG [] body aN)=some (.bool false):=au
@[reducible] noncomputable def bB (l:List Int) (dR:ch) (ec:Nat) (k:List Int) (wv:ch) (wx:Nat) (i:Nat:=0):List J:=[br dR l ec,br wv k wx,I ((l.length:Nat):Int),I ((k.length:Nat):Int),I ((i:Nat):Int),hb (br dR l ec) (i*1),I (l.ev (i)),hb (br wv k wx) (i*1),I (k.ev (i)),I ((i+1:Nat):Int)]
theorem any (W:ax) {h_:J} {l:List Int} (hl:cF (aG W) 1 gf h_ l) {H5:J} {k:List Int} (al:cF (aG W) 1 gf H5 k) (av:l.length<=1000000):Calls Tryd.prog 28 #[h_,H5] W λe w'=>e= .returned (.bool (decide (l=k)))/\cg W.heap.size W w':=by
 obtain⟨dR,ec,rfl⟩:=hl.slice;obtain⟨wv,wx,rfl⟩:=al.slice;refine jE (bB l dR ec k wv wx) body aN N [ak 0,ak 1] Tryd.func28 λa ah=> ?_
 letI:=b4 ah;by_cases h0:((l.length:Nat):Int)=((k.length:Nat):Int)
 ·refine bx bN [] (ae (eM hl iA) (ae (eM al iA) (ae sx aO))) aP ?_ ah
  refine tg (gn:=(λi=>aW (aG W) (bB l dR ec k wv wx i))) (λi=>i<=l.length/\∀j,j<i->l.ev j=k.ev j) (λi=>l.length-i) 0 e0 fq (λ_ _ h=>h) (by exact⟨Nat.zero_le _,λj h=>absurd h (Nat.not_lt_zero _)⟩) ?_;intro i bf dz w ah;letI:=b4 ah;refine tc e1 e2 ?_;by_cases sQ:((i:Nat):Int)<((l.length:Nat):Int)
  ·by_cases ih:(l.ev (i))=(k.ev (i))
   ·refine bx cb [] (ae (eM hl iA) (ae a8 (ae (nn hl iA uz) (ae (qg 0 hl (lJ i) vy) (ae (nn al iA uz) (ae (qg 0 al (lJ i) vy) (ae sx (ae ko aO)))))))) aP ?_ ah
    exact tu (i+1) e3 fq (by exact⟨aj,λj h=>by rcases Nat.lt_or_ge j i with ad|ad;exact bf.2 j ad;obtain rfl:j=i:=aj;first|assumption|exact abh bK bK|exact abi bK bK⟩)
   ·refine bx dk [] (ae (eM hl iA) (ae a8 (ae (nn hl iA uz) (ae (qg 0 hl (lJ i) vy) (ae (nn al iA uz) (ae (qg 0 al (lJ i) vy) (ae tv aO))))))) aP ?_ ah
    refine n' [] [] aO aP ?_;exact bR hA λw2 bm=>(by first|(rw[cx (λh:l=k=>by subst h;omega)];rfl)|(rw[cx (λh:l=k=>by subst h;first|exact absurd rfl bK|exact absurd bK bK)];rfl)|(rw[eH (all_eq aj (λj hj=>bf.2 j aj))];rfl))
  ·refine bx fI [] (ae (eM hl iA) (ae aS aO)) aP ?_ ah
   refine n' [] [] aO aP ?_;exact bR kp λw2 bm=>(by first|(rw[cx (λh:l=k=>by subst h;omega)];rfl)|(rw[cx (λh:l=k=>by subst h;first|exact absurd rfl bK|exact absurd bK bK)];rfl)|(rw[eH (all_eq aj (λj hj=>bf.2 j aj))];rfl))
 ·refine bx hG [] (ae (eM hl iA) (ae (eM al iA) (ae tv aO))) aP ?_ ah
  exact bR h2 λw2 bm=>(by first|(rw[cx (λh:l=k=>by subst h;omega)];rfl)|(rw[cx (λh:l=k=>by subst h;first|exact absurd rfl bK|exact absurd bK bK)];rfl)|(rw[eH (all_eq aj (λj hj=>bf.2 j aj))];rfl))
end Eu
end AE
namespace AE
namespace Sl
noncomputable def body:Code:=(Tryd.f29.body).getD .skip
def N:Nat:=22
def aN:b6:={sl:=b1 [(1,I 0),(0,0)],ms:=[],A:=start}
def bN:bd:=[(.len #[45] 3 0,1)]
def eQ:List bu:=[]
def eR:aF:=b1 [(10,3),(9,1),(8,0),(5,2),(4,.slice none 0 0),(1,I 0)]
abbrev hO:=at' 22 bN [] body aN
theorem e0:pZ eR eQ hO=some [(.slice none 0 0,2),(1,1),(0,0),(I 0,3)]:=au
def e7:Code:=ta body [1,1,0,1,4]
def iq:List fi:=oA body [1,1,0,1,4] []
theorem e1:pz hO=e7:=au
theorem e2:gA hO=iq:=au
def cb:bd:=[(.bin .lss 3 3 1,.bool true),
 (.dG 45 0 3,4),
 (.bA 85 4,.agg ⟨[5,6,7,8]⟩)]
theorem e3:Ba (b7 (at' 22 cb [] e7 (b3 eR eQ))).A 1 (.slice (some ⟨1,0,none⟩) 1 1)=some [5]:=au
theorem hA:p0 26 (at' 22 cb [] e7 (b3 eR eQ))=some (2,.slice (some ⟨1,0,none⟩) 1 1):=au
abbrev gy:=at' 22 cb [] e7 (b3 eR eQ)
def dD:List bu:=[]
def hd0:aF:=b1 [(10,3),(9,1),(8,0),(5,2),(4,.slice none 0 0),(1,I 0)]
def hp0:aF:=e6 22 hd0 19 9
theorem kp:cp (b7 gy) hd0 dD=some [(2,2),(1,1),(0,0),(3,3)]:=au
def dV:dU:=(e7,[1,1,0,4,1],6)
def dk:bd:=[(.bin .add 3 3 (I 1),10)]
theorem n_:qE eR eQ (cI 22 dk [] dV (b3 hp0 dD))=some [(9,2),(1,1),(0,0),(10,3)]:=au
def eg:bd:=[(.bin .lss 3 3 1,.bool false)]
theorem nu:fj Tryd.prog Tryd.f29 (nO 22 [] [] iq (at' 22 eg [] e7 (b3 eR eQ)))=some 2:=au
@[reducible] noncomputable def bB (l:List bO) (dR:ch) (ec:Nat) (b:List Int:=[]) (a:ch:=none) (c:Nat:=0) (i:Nat:=0) (ct:List Int:=[]) (a0:ch:=none) (dC:Nat:=0):List J:=[br dR l ec,I ((l.length:Nat):Int),br a b c,I ((i:Nat):Int),hb (br dR l ec) (i*4),I (l.ev (i)).1,I (l.ev (i)).2.1,I (l.ev (i)).2.2.1,I (l.ev (i)).2.2.2,br a0 ct dC,I ((i+1:Nat):Int)]
theorem any (W:ax) {h_:J} {l:List bO} (hl:cF (aG W) 4 dJ h_ l) (av:l.length<=100000):Calls Tryd.prog 29 #[h_,I 0] W λe w'=>(∃a c,e= .returned (.slice a (l.map λx=>x.1).length c)/\dw W.heap.size (aG w') kJ 1 gf (.slice a (l.map λx=>x.1).length c) (l.map λx=>x.1))/\cg W.heap.size W w':=by
 obtain⟨dR,ec,rfl⟩:=hl.slice;refine jE (bB l dR ec) body aN N [ak 0,I 0] Tryd.func29 λa ah=> ?_
 letI:=b4 ah;refine bx bN [] (ae (eM hl n4) aO) aP ?_ ah;refine tg (gn:=(λ(⟨M,b,a,c,i⟩:Mem×List Int×Option Addr×Nat×Nat)=>aW M (bB l dR ec b a c i))) (λ(⟨M,b,a,c,i⟩:Mem×List Int×Option Addr×Nat×Nat)=>dw W.heap.size M kJ 1 gf (br a b c) b/\(∀j o,aG W j=some o->M j=some o)/\i<=l.length/\b=(l.take i).map λx=>x.1) (λ(⟨M,b,a,c,i⟩:Mem×List Int×Option Addr×Nat×Nat)=>l.length-i) ⟨aG W,[],none,0,0⟩ e0 fq (λ_ _ h=>h) (by exact⟨dw.nil _ _ _ _ _ _,λ_ _ h=>h,Nat.zero_le _,rfl⟩) ?_;intro⟨M,b,a,c,i⟩ bf dz w ah;letI:=b4 ah;refine tc e1 e2 ?_;have Ap:=bf;have cM:=bf.1;have bt:=bf.2.1;have B5:=bf.2.2.1;have tR:b.length=i:=by rw[bf.2.2.2,List.length_map,List.length_take];omega
 by_cases sQ:((i:Nat):Int)<((l.length:Nat):Int)
 ·refine bx cb [] (ae a8 (ae (nn (hl.mono bt) n4 sn) (ae (aT.r7 (hl.mono bt) (lJ i) U U Bw sn U U U) aO))) aP ?_ ah
  obtain⟨ct,eX⟩:=h1 (b++[(((l.ev (i)).1):Int)]);have e_:ct.length=b.length+1:=by rw[eX];first|rfl|simp
  refine A_ (l:=b) (lx:=[(((l.ev (i)).1):Int)]) (l':=ct) (bj:=λpd pe=>(bB l dR ec b a c i ct pd pe)) (T:=(eP (br a b c))) eX hA iA JF JG JH JI JJ cB kk JK kp (ep hp0 9) rfl (Fw U U cM) (Dv e3 kk cB rfl) (yh (show b.length+1<=1000000 by omega)) (show (b.length+1)*yk<=140737488355328 by unfold yk;omega) (λ_ _ _=>fq) (λ_ _ _=>rfl) ?_;intro jY a0 dC lK ju rC dz w ah;have uS:=ju.up rC (cj _) bt;letI:=b4 ah;refine dO (dP dV) dk [] (ae ko aO) aP ?_ ah;exact tu ⟨jY,ct,a0,dC,i+1⟩ n_ fq (by exact⟨lK,uS,aj,by rw[eX,Ap.2.2.2];exact Sh aj⟩)
 ·refine bx eg [] (ae aS aO) aP ?_ ah
  refine n' [] [] aO aP ?_;exact bR nu λw2 bm=>(by exact Bb cM (by rw[Ap.2.2.2,show i=l.length by omega,List.take_length]) bm)
end Sl
namespace abk
noncomputable def body:Code:=(Tryd.f29.body).getD .skip
def N:Nat:=22
def aN:b6:={sl:=b1 [(1,I 2),(0,0)],ms:=[],A:=start}
def bN:bd:=[(.len #[45] 3 0,1)]
def eQ:List bu:=[]
def eR:aF:=b1 [(10,3),(9,1),(8,0),(5,2),(4,.slice none 0 0),(1,I 2)]
abbrev hO:=at' 22 bN [] body aN
theorem e0:pZ eR eQ hO=some [(.slice none 0 0,2),(1,1),(0,0),(I 0,3)]:=au
def e7:Code:=ta body [1,1,0,1,4]
def iq:List fi:=oA body [1,1,0,1,4] []
theorem e1:pz hO=e7:=au
theorem e2:gA hO=iq:=au
def cb:bd:=[(.bin .lss 3 3 1,.bool true),
 (.dG 45 0 3,4),
 (.bA 85 4,.agg ⟨[5,6,7,8]⟩)]
theorem e3:Ba (b7 (at' 22 cb [] e7 (b3 eR eQ))).A 1 (.slice (some ⟨1,0,none⟩) 1 1)=some [7]:=au
theorem hA:p0 26 (at' 22 cb [] e7 (b3 eR eQ))=some (2,.slice (some ⟨1,0,none⟩) 1 1):=au
abbrev gy:=at' 22 cb [] e7 (b3 eR eQ)
def dD:List bu:=[]
def hd0:aF:=b1 [(10,3),(9,1),(8,0),(5,2),(4,.slice none 0 0),(1,I 2)]
def hp0:aF:=e6 22 hd0 19 9
theorem kp:cp (b7 gy) hd0 dD=some [(2,2),(1,1),(0,0),(3,3)]:=au
def dV:dU:=(e7,[1,1,0,4,1],6)
def dk:bd:=[(.bin .add 3 3 (I 1),10)]
theorem n_:qE eR eQ (cI 22 dk [] dV (b3 hp0 dD))=some [(9,2),(1,1),(0,0),(10,3)]:=au
def eg:bd:=[(.bin .lss 3 3 1,.bool false)]
theorem nu:fj Tryd.prog Tryd.f29 (nO 22 [] [] iq (at' 22 eg [] e7 (b3 eR eQ)))=some 2:=au
@[reducible] noncomputable def bB (l:List bO) (dR:ch) (ec:Nat) (b:List Int:=[]) (a:ch:=none) (c:Nat:=0) (i:Nat:=0) (ct:List Int:=[]) (a0:ch:=none) (dC:Nat:=0):List J:=[br dR l ec,I ((l.length:Nat):Int),br a b c,I ((i:Nat):Int),hb (br dR l ec) (i*4),I (l.ev (i)).1,I (l.ev (i)).2.1,I (l.ev (i)).2.2.1,I (l.ev (i)).2.2.2,br a0 ct dC,I ((i+1:Nat):Int)]
theorem any (W:ax) {h_:J} {l:List bO} (hl:cF (aG W) 4 dJ h_ l) (av:l.length<=100000):Calls Tryd.prog 29 #[h_,I 2] W λe w'=>(∃a c,e= .returned (.slice a (l.map λx=>x.2.2.1).length c)/\dw W.heap.size (aG w') kJ 1 gf (.slice a (l.map λx=>x.2.2.1).length c) (l.map λx=>x.2.2.1))/\cg W.heap.size W w':=by
 obtain⟨dR,ec,rfl⟩:=hl.slice;refine jE (bB l dR ec) body aN N [ak 0,I 2] Tryd.func29 λa ah=> ?_
 letI:=b4 ah;refine bx bN [] (ae (eM hl n4) aO) aP ?_ ah;refine tg (gn:=(λ(⟨M,b,a,c,i⟩:Mem×List Int×Option Addr×Nat×Nat)=>aW M (bB l dR ec b a c i))) (λ(⟨M,b,a,c,i⟩:Mem×List Int×Option Addr×Nat×Nat)=>dw W.heap.size M kJ 1 gf (br a b c) b/\(∀j o,aG W j=some o->M j=some o)/\i<=l.length/\b=(l.take i).map λx=>x.2.2.1) (λ(⟨M,b,a,c,i⟩:Mem×List Int×Option Addr×Nat×Nat)=>l.length-i) ⟨aG W,[],none,0,0⟩ e0 fq (λ_ _ h=>h) (by exact⟨dw.nil _ _ _ _ _ _,λ_ _ h=>h,Nat.zero_le _,rfl⟩) ?_;intro⟨M,b,a,c,i⟩ bf dz w ah;letI:=b4 ah;refine tc e1 e2 ?_;have Ap:=bf;have cM:=bf.1;have bt:=bf.2.1;have B5:=bf.2.2.1;have tR:b.length=i:=by rw[bf.2.2.2,List.length_map,List.length_take];omega
 by_cases sQ:((i:Nat):Int)<((l.length:Nat):Int)
 ·refine bx cb [] (ae a8 (ae (nn (hl.mono bt) n4 sn) (ae (aT.r7 (hl.mono bt) (lJ i) U U Bw sn U U U) aO))) aP ?_ ah
  obtain⟨ct,eX⟩:=h1 (b++[(((l.ev (i)).2.2.1):Int)]);have e_:ct.length=b.length+1:=by rw[eX];first|rfl|simp
  refine A_ (l:=b) (lx:=[(((l.ev (i)).2.2.1):Int)]) (l':=ct) (bj:=λpd pe=>(bB l dR ec b a c i ct pd pe)) (T:=(eP (br a b c))) eX hA iA JF JG JH JI JJ cB kk JK kp (ep hp0 9) rfl (Fw U U cM) (Dv e3 kk cB rfl) (yh (show b.length+1<=1000000 by omega)) (show (b.length+1)*yk<=140737488355328 by unfold yk;omega) (λ_ _ _=>fq) (λ_ _ _=>rfl) ?_;intro jY a0 dC lK ju rC dz w ah;have uS:=ju.up rC (cj _) bt;letI:=b4 ah;refine dO (dP dV) dk [] (ae ko aO) aP ?_ ah;exact tu ⟨jY,ct,a0,dC,i+1⟩ n_ fq (by exact⟨lK,uS,aj,by rw[eX,Ap.2.2.2];exact Sh aj⟩)
 ·refine bx eg [] (ae aS aO) aP ?_ ah
  refine n' [] [] aO aP ?_;exact bR nu λw2 bm=>(by exact Bb cM (by rw[Ap.2.2.2,show i=l.length by omega,List.take_length]) bm)
end abk
namespace Sm
noncomputable def body:Code:=(Tryd.f29.body).getD .skip
def N:Nat:=22
def aN:b6:={sl:=b1 [(1,I 3),(0,0)],ms:=[],A:=start}
def bN:bd:=[(.len #[45] 3 0,1)]
def eQ:List bu:=[]
def eR:aF:=b1 [(10,3),(9,1),(8,0),(5,2),(4,.slice none 0 0),(1,I 3)]
abbrev hO:=at' 22 bN [] body aN
theorem e0:pZ eR eQ hO=some [(.slice none 0 0,2),(1,1),(0,0),(I 0,3)]:=au
def e7:Code:=ta body [1,1,0,1,4]
def iq:List fi:=oA body [1,1,0,1,4] []
theorem e1:pz hO=e7:=au
theorem e2:gA hO=iq:=au
def cb:bd:=[(.bin .lss 3 3 1,.bool true),
 (.dG 45 0 3,4),
 (.bA 85 4,.agg ⟨[5,6,7,8]⟩)]
theorem e3:Ba (b7 (at' 22 cb [] e7 (b3 eR eQ))).A 1 (.slice (some ⟨1,0,none⟩) 1 1)=some [8]:=au
theorem hA:p0 26 (at' 22 cb [] e7 (b3 eR eQ))=some (2,.slice (some ⟨1,0,none⟩) 1 1):=au
abbrev gy:=at' 22 cb [] e7 (b3 eR eQ)
def dD:List bu:=[]
def hd0:aF:=b1 [(10,3),(9,1),(8,0),(5,2),(4,.slice none 0 0),(1,I 3)]
def hp0:aF:=e6 22 hd0 19 9
theorem kp:cp (b7 gy) hd0 dD=some [(2,2),(1,1),(0,0),(3,3)]:=au
def dV:dU:=(e7,[1,1,0,4,1],6)
def dk:bd:=[(.bin .add 3 3 (I 1),10)]
theorem n_:qE eR eQ (cI 22 dk [] dV (b3 hp0 dD))=some [(9,2),(1,1),(0,0),(10,3)]:=au
def eg:bd:=[(.bin .lss 3 3 1,.bool false)]
theorem nu:fj Tryd.prog Tryd.f29 (nO 22 [] [] iq (at' 22 eg [] e7 (b3 eR eQ)))=some 2:=au
@[reducible] noncomputable def bB (l:List bO) (dR:ch) (ec:Nat) (b:List Int:=[]) (a:ch:=none) (c:Nat:=0) (i:Nat:=0) (ct:List Int:=[]) (a0:ch:=none) (dC:Nat:=0):List J:=[br dR l ec,I ((l.length:Nat):Int),br a b c,I ((i:Nat):Int),hb (br dR l ec) (i*4),I (l.ev (i)).1,I (l.ev (i)).2.1,I (l.ev (i)).2.2.1,I (l.ev (i)).2.2.2,br a0 ct dC,I ((i+1:Nat):Int)]
theorem any (W:ax) {h_:J} {l:List bO} (hl:cF (aG W) 4 dJ h_ l) (av:l.length<=100000):Calls Tryd.prog 29 #[h_,I 3] W λe w'=>(∃a c,e= .returned (.slice a (l.map λx=>x.2.2.2).length c)/\dw W.heap.size (aG w') kJ 1 gf (.slice a (l.map λx=>x.2.2.2).length c) (l.map λx=>x.2.2.2))/\cg W.heap.size W w':=by
 obtain⟨dR,ec,rfl⟩:=hl.slice;refine jE (bB l dR ec) body aN N [ak 0,I 3] Tryd.func29 λa ah=> ?_
 letI:=b4 ah;refine bx bN [] (ae (eM hl n4) aO) aP ?_ ah;refine tg (gn:=(λ(⟨M,b,a,c,i⟩:Mem×List Int×Option Addr×Nat×Nat)=>aW M (bB l dR ec b a c i))) (λ(⟨M,b,a,c,i⟩:Mem×List Int×Option Addr×Nat×Nat)=>dw W.heap.size M kJ 1 gf (br a b c) b/\(∀j o,aG W j=some o->M j=some o)/\i<=l.length/\b=(l.take i).map λx=>x.2.2.2) (λ(⟨M,b,a,c,i⟩:Mem×List Int×Option Addr×Nat×Nat)=>l.length-i) ⟨aG W,[],none,0,0⟩ e0 fq (λ_ _ h=>h) (by exact⟨dw.nil _ _ _ _ _ _,λ_ _ h=>h,Nat.zero_le _,rfl⟩) ?_;intro⟨M,b,a,c,i⟩ bf dz w ah;letI:=b4 ah;refine tc e1 e2 ?_;have Ap:=bf;have cM:=bf.1;have bt:=bf.2.1;have B5:=bf.2.2.1;have tR:b.length=i:=by rw[bf.2.2.2,List.length_map,List.length_take];omega
 by_cases sQ:((i:Nat):Int)<((l.length:Nat):Int)
 ·refine bx cb [] (ae a8 (ae (nn (hl.mono bt) n4 sn) (ae (aT.r7 (hl.mono bt) (lJ i) U U Bw sn U U U) aO))) aP ?_ ah
  obtain⟨ct,eX⟩:=h1 (b++[(((l.ev (i)).2.2.2):Int)]);have e_:ct.length=b.length+1:=by rw[eX];first|rfl|simp
  refine A_ (l:=b) (lx:=[(((l.ev (i)).2.2.2):Int)]) (l':=ct) (bj:=λpd pe=>(bB l dR ec b a c i ct pd pe)) (T:=(eP (br a b c))) eX hA iA JF JG JH JI JJ cB kk JK kp (ep hp0 9) rfl (Fw U U cM) (Dv e3 kk cB rfl) (yh (show b.length+1<=1000000 by omega)) (show (b.length+1)*yk<=140737488355328 by unfold yk;omega) (λ_ _ _=>fq) (λ_ _ _=>rfl) ?_;intro jY a0 dC lK ju rC dz w ah;have uS:=ju.up rC (cj _) bt;letI:=b4 ah;refine dO (dP dV) dk [] (ae ko aO) aP ?_ ah;exact tu ⟨jY,ct,a0,dC,i+1⟩ n_ fq (by exact⟨lK,uS,aj,by rw[eX,Ap.2.2.2];exact Sh aj⟩)
 ·refine bx eg [] (ae aS aO) aP ?_ ah
  refine n' [] [] aO aP ?_;exact bR nu λw2 bm=>(by exact Bb cM (by rw[Ap.2.2.2,show i=l.length by omega,List.take_length]) bm)
end Sm
end AE
namespace AE
def Ev:cC:=hk sG (0,0,0) 0
def nR:cC:=mr Ev
def oR:cC:=hk nR (0,0,1) 3
def j':cC:=fe oR (0,0,1) true
def qY:cC:=f' j' 1
theorem abl:oa wu [3,0,0,0] H4 [] 2:=of_decide_eq_true au
theorem alN:¬oa wu [3,0,0,0] H4 [] 0:=λh=>by
 have:=h.2.1;omega
theorem Sn:fZ CN:=(Lx abl cB).1
theorem abm:fZ sG:=Sn.set.1
theorem alO:sG.u.reqs.length<10000:=Nat.lt_of_le_of_lt Sn.set.2.2.2 (by show (0:Nat)<_;decide)
theorem abn:fZ Ev:=(abm.cl alO _ _).1
theorem Sp:fZ nR:=abn.set.1
theorem alP:l5 sG.b sG.most (0,0,0) sG.u.reqs 0=0:=au
theorem alQ:nR.u.reqs.length=0:=au
theorem alR:oR.u.reqs.length=1:=au
theorem alS:j'.u.reqs.length=2:=au
theorem Sq:fZ oR:=(Sp.cl (by rw[alQ];decide) _ _).1
theorem H6:fZ j':=(Sq.bA (by rw[alR];decide) _ _).1
theorem alT:pk sG:=of_decide_eq_true au
theorem alU:¬pk j':=λh=>by have:=h.2.2;rw[alS] at this;cases this
theorem alV:(sG.u.aE.map λx=>x.1)=[15,14,13,12]:=au
theorem alW:(sG.u.aE.map λx=>x.2.2.1)=[10,9,8,7]:=au
theorem alX:(sG.u.aE.map λx=>x.2.2.2)=[0,15,15,15]:=au
theorem alY:(nR.u.aE.map λx=>x.1)=[0,0,0,0]:=au
theorem alZ:(nR.u.aE.map λx=>x.2.2.2)=[15,15,15,15]:=au
theorem Ly:sG.u.aE.length=4:=au
theorem Sr:nR.u.aE.length=4:=au
theorem n2:0<((wq Ev:Nat):Int):=of_decide_eq_true au
theorem abo:l5 nR.b nR.most (0,0,1) nR.u.reqs 3=0:=au
theorem abp:jF oR.b oR.most (0,0,1) oR.u.reqs=0:=au
theorem Ss:l5 j'.b j'.most (0,0,1) j'.u.reqs 3=16:=au
theorem St:l5 j'.b j'.most (0,0,4) j'.u.reqs 0=1:=au
theorem abq:hk j' (0,0,1) 3=j':=Sg (by rw[Ss];decide)
theorem abr:hk j' (0,0,4) 0=j':=Sg (by rw[St];decide)
theorem al0:wo j' 1=1:=au
theorem Lz:qY.known.length=4:=au
theorem abt:qY.cells.length=4:=au
theorem Su:qY.cells.getD 1 default=3:=au
theorem y8 {W:ax} {g:Nat} {A:dQ} {e e':cC} {p:ej} {c n:Int} (h:cG (aG W) [di g A e]) (gE:fZ e) (ad:hk e p c=e') (ag:l5 e.b e.most p e.u.reqs c=n):
  Calls Tryd.prog 18 #[de g,P.val p,.int .i64 c] W λx w'=>(∃bh:dQ,x= .returned (.int .i64 n)/\cV (aG W) [di g A e] (aG w') [di g bh e'])/\cg 0 W w':=by
 subst ad ag;exact alq W h p c gE.qX.box gE.Sb gE.aa9 gE.aa'
theorem LA {W:ax} {g:Nat} {A:dQ} {e e':cC} {p:ej} {k:Bool} {n:Int} (h:cG (aG W) [di g A e]) (gE:fZ e) (ad:fe e p k=e') (ag:jF e.b e.most p e.u.reqs=n):
  Calls Tryd.prog 19 #[de g,P.val p,.bool k] W λx w'=>(∃bh:dQ,x= .returned (.int .i64 n)/\cV (aG W) [di g A e] (aG w') [di g bh e'])/\cg 0 W w':=by
 subst ad ag;exact alr W h p k gE.qX.box gE.Sb gE.aa9 gE.aa'
theorem Sv {W:ax} {g:Nat} {A:dQ} {e e':cC} {k:Int} {n:Int} (h:cG (aG W) [di g A e]) (gE:fZ e) (ad:f' e k=e') (ag:((wo e k:Nat):Int)=n):
  Calls Tryd.prog 10 #[de g,.int .i64 k] W λx w'=>(∃bh:dQ,x= .returned (.int .i64 n)/\cV (aG W) [di g A e] (aG w') [di g bh e'])/\cg 0 W w':=by
 subst ad ag;exact alo W h k gE.qX gE.Ls
theorem H7 {W:ax} {g:Nat} {A:dQ} {e e':cC} {n:Int} (h:cG (aG W) [di g A e]) (gE:fZ e) (ad:mr e=e') (ag:((wq e:Nat):Int)=n):
  Calls Tryd.prog 12 #[de g] W λx w'=>(∃bh:dQ,x= .returned (.int .i64 n)/\cV (aG W) [di g A e] (aG w') [di g bh e'])/\cg 0 W w':=by
 subst ad ag;exact aln W h gE.qX gE.Ls
theorem al1 {W:ax} {g:Nat} {A:dQ} {e:cC} (h:cG (aG W) [di g A e]) (aw:pk e):
  Calls Tryd.prog 11 #[de g] W λx w'=>(∃_:Unit,x= .returned (.bool true)/\cV (aG W) [di g A e] (aG w') [di g A e])/\cg 0 W w':=by
 have:=aa4 W h
 rwa [eH (show e.u.bH.length=0/\e.u.bw.length=0/\e.u.reqs.length=0 from aw)] at this
theorem al2 {W:ax} {g:Nat} {A:dQ} {e:cC} (h:cG (aG W) [di g A e]) (aw:¬pk e):
  Calls Tryd.prog 11 #[de g] W λx w'=>(∃_:Unit,x= .returned (.bool false)/\cV (aG W) [di g A e] (aG w') [di g A e])/\cg 0 W w':=by
 have:=aa4 W h
 rwa [cx (show ¬(e.u.bH.length=0/\e.u.bw.length=0/\e.u.reqs.length=0) from aw)] at this
theorem abu {W:ax} {L:List cc} (aw:cG (aG W) L) {bP:Option Addr} {bJ bQ:Nat} {cells:List Int} (hX:cF (aG W) 1 gf (.slice bP bJ bQ) cells) {b:bT} {oM oN:J} {table:List cU} {known:List Bool} (aL:cF (aG W) 8 jB oM table) (hM:cF (aG W) 1 iL oN known) {most:Int}
  (cv:mF (aG W)) (av:cells.length<=10000) (iz:bJ=cells.length) (na:known.length<=100000) (yY:table.length<=100000) (af:oa b cells table known most):
  Calls Tryd.prog 9 #[oK b (.slice bP bJ bQ),oM,oN,.int .i64 most] W λx w'=>(∃y:Nat×dQ,x= .returned (.tuple ⟨[de y.1,.int .i64 0]⟩)/\cV (aG W) L (aG w') (L++[di y.1 y.2 (k1 b cells table known most)]))/\cg 0 W w':=
 (aa6 W hX aL hM most cv av iz na yY).mono λx w' aq=>by
   obtain⟨h,hl⟩:=aq;rw[aY af] at h;obtain⟨g,A,rfl,t⟩:=h;exact⟨⟨(g,A),rfl,(aw.own.new t).Gh⟩,hl.zero⟩
theorem abv {W:ax} {L:List cc} (aw:cG (aG W) L) {bP:Option Addr} {bJ bQ:Nat} {cells:List Int} (hX:cF (aG W) 1 gf (.slice bP bJ bQ) cells) {b:bT} {oM oN:J} {table:List cU} {known:List Bool} (aL:cF (aG W) 8 jB oM table) (hM:cF (aG W) 1 iL oN known) {most:Int}
  (cv:mF (aG W)) (av:cells.length<=10000) (iz:bJ=cells.length) (na:known.length<=100000) (yY:table.length<=100000) (af:¬oa b cells table known most):
  Calls Tryd.prog 9 #[oK b (.slice bP bJ bQ),oM,oN,.int .i64 most] W λx w'=>(∃_:Unit,x= .returned (.tuple ⟨[.pointer none,.int .i64 1]⟩)/\cV (aG W) L (aG w') L)/\cg 0 W w':=
 DS aw ((aa6 W hX aL hM most cv av iz na yY).mono λx w' aq=>by
  obtain⟨h,hl⟩:=aq;rw[a' af] at h
  exact⟨h,hl⟩)
theorem H8 {P:aR} {f:FuncId} {args:Array J} {w:ax} {g:bO->Int} {l:List bO} {r:List Int} (e:l.map g=r) {L:List cc} (aw:cG (aG w) L)
  (h:Calls P f args w λe' w'=>(∃a c,e'= .returned (.slice a (l.map g).length c)/\dw w.heap.size (aG w') kJ 1 gf (.slice a (l.map g).length c) (l.map g))/\cg w.heap.size w w'):
  Calls P f args w λe' w'=>(∃y:Option Addr×Nat,e'= .returned (.slice y.1 r.length y.2)/\cV (aG w) L (aG w') (L++[ht kJ 1 gf (.slice y.1 r.length y.2) r]))/\cg 0 w w':=by
 subst e;exact Kr aw h
theorem Cv {P:aR} {f:FuncId} {args:Array J} {w:ax} {p:Prop} [Decidable p] (h:Calls P f args w λe w'=>e= .returned (.bool (decide p))/\cg w.heap.size w w') (hp:p):Calls P f args w λe w'=>e= .returned (.bool true)/\cg w.heap.size w w':=by
 rwa [eH hp] at h
end AE
end Go.Proofs.YtepcfjbfkedlpaaDoor
