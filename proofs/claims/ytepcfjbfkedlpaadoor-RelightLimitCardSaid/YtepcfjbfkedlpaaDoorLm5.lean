/- Parts of the proof. -/
import Derived.Test.YtepcfjbfkedlpaaDoorLm4
import Derived.Shelf.GgClosure.StringsIndexFuncTop
import Derived.ProofKit
import Derived.Ground.GgwProg
set_option maxRecDepth 100000
set_option maxHeartbeats 4000000
noncomputable section
namespace Go.Proofs.YtepcfjbfkedlpaaDoor
open Go Go.Proofs Go.RowKit
namespace AE
namespace Z1
noncomputable def body:Code:=(Tryd.f34.body).getD .skip
def N:Nat:=48
def aO:b8:={sl:=b3 [(1,1),(0,0)],ms:=[],A:=start}
def bP:bj:=[(.bin .lss 3 1 (I 0),.bool false),
 (.len #[30] 3 0,2),
 (.conv 3 104 2,3),
 (.conv 3 104 1,4),
 (.bin .gtr 104 4 (.int .u64 9223372036854775807),.bool true)]
def j1:dZ:=[(56,[3,4],.tuple ⟨[.int .u64 0,4]⟩)]
def cd:bj:=[(.bin .lss 3 1 (I 0),.bool false),
 (.len #[30] 3 0,2),
 (.conv 3 104 2,3),
 (.conv 3 104 1,4),
 (.bin .gtr 104 4 (.int .u64 9223372036854775807),.bool false),
 (.conv 104 3 4,1)]
def h':dZ:=[(56,[3,4],.tuple ⟨[.int .u64 0,4]⟩)]
theorem e0:J7 (at' 48 cd h' body aO)=some (30,1):=au
abbrev gA:=at' 48 cd h' body aO
def dF:List bx:=[]
def hd0:aF:=b3 [(4,.slice none 0 0),(0,0)]
def hp0:aF:=fa 48 hd0 30 5
theorem e1:cr (b9 gA) hd0 dF=some [(0,0)]:=au
def dV:dU:=(body,[1,1,1,1,0],3)
theorem h4:Bw 30 30 (cK 48 [] [] dV (b5 hp0 dF))=some (5,0):=au
abbrev jx:=cK 48 [] [] dV {sl:=hp0,ms:=[],A:=da dF}
def hy:List bx:=[]
def ht:aF:=b3 [(7,5),(4,.slice none 0 0)]
def hp1:aF:=fa 48 ht 33 6
theorem jO:cr (b9 jx) ht hy=some [(5,5)]:=au
def iA:dU:=(body,[1,1,1,1,1,0],3)
def eS:List bx:=[]
def eT:aF:=b3 [(8,7),(7,5),(4,.slice none 0 0)]
abbrev hR:=cK 48 [] [] iA {sl:=hp1,ms:=[],A:=da hy}
theorem k0:p3 eT eS hR=some [(5,5),(6,7)]:=au
def fb:Code:=tj body [1,1,1,1,1,1,0,4]
def iq:List fl:=oE body [1,1,1,1,1,1,0,4] []
theorem qq:pC hR=fb:=au
theorem yU:gC hR=iq:=au
def ei:bj:=[(.len #[30] 3 5,8),
 (.bin .lss 3 7 8,.bool true),
 (.mg 30 5 (some 7) none none,9),
 (.mg 30 5 none (some 7) none,10)]
theorem tR:Bw 30 30 (at' 48 ei [] fb (b5 eT eS))=some (9,10):=au
abbrev pk:=at' 48 ei [] fb (b5 eT eS)
def kh:List bx:=[]
def k1:aF:=b3 [(38,7),(8,7),(7,5),(4,.slice none 0 0)]
def hp2:aF:=fa 48 k1 45 11
theorem yV:cr (b9 pk) k1 kh=some [(5,5),(7,7),(7,7)]:=au
def jf:dU:=(fb,[1,4],8)
def fJ:bj:=[(.bin .add 3 7 11,12)]
theorem rK:qJ eT eS (cK 48 fJ [] jf (b5 hp2 kh))=some [(5,5),(12,7)]:=au
def hH:bj:=[(.len #[30] 3 5,8),
 (.bin .lss 3 7 8,.bool false)]
theorem Cf:fm Tryd.prog Tryd.f34 (nP 48 [] [] iq (at' 48 hH [] fb (b5 eT eS)))=some 5:=au
@[reducible] noncomputable def bD (x:List Bool) (jy:cm) (jz n:Nat) (jS:List Bool:=[]) (i:Nat:=0) (cu:List Bool:=[]) (a0:cm:=none) (dE:Nat:=0):List J:=[bu jy x jz,I ((n:Nat):Int),I ((x.length:Nat):Int),.int .u64 ((x.length:Nat):Int),.int .u64 ((n:Nat):Int),bu a0 cu dE,I (((min x.length (cu.length-0)):Nat):Int),I ((i:Nat):Int),I ((jS.length:Nat):Int),.slice (ln a0 dE i 1) (cu.length-i) (dE-i),.slice a0 i dE,I (((min (jS.take i).length (jS.length-i)):Nat):Int),I ((i+(min (jS.take i).length (jS.length-i)):Nat):Int)]
theorem any (W:ax) {x:List Bool} {jy:cm} {jz:Nat} (jA:cH (aE W) [p7 1 il (bu jy x jz) x]) (n:Nat) (aq:x=[true]) (av:n<=100000):Calls Tryd.prog 34 #[bu jy x jz,I ((n:Nat):Int)] W λe w'=>(∃y:cm×Nat,e= .returned (.slice y.1 n y.2)/\cZ (aE W) [p7 1 il (bu jy x jz) x] (aE w') [p7 1 il (bu jy x jz) x,hr n9 1 il (.slice y.1 n y.2) (List.replicate n true)])/\cj 0 W w':=by
 refine pN (bD x jy jz n) body aO N [ak 0,ak 1] Tryd.func34 λa ah=> ?_
 letI:=b6 ah;have aI:=bK.start W _ jA;have Bo:x.length=1:=by rw[aq];rfl
 by_cases aL:9223372036854775807<((n:Nat):Int)
 ·refine bA bP j1 (ae aU (ae (eM ((aI.red 0 rfl).arr kq) mn) (ae (aV.DA U U au au (k':= .u64) au (J_ aj aj) U U) (ae (aV.DA U U au au (k':= .u64) au (J_ aj aj) U U) (ae bb aP))))) (cG (Z0 U U U U Bo aj) aQ) ?_ ah
  exfalso;omega
 ·refine bA cd h' (ae aU (ae (eM ((aI.red 0 rfl).arr kq) mn) (ae (aV.DA U U au au (k':= .u64) au (J_ aj aj) U U) (ae (aV.DA U U au au (k':= .u64) au (J_ aj aj) U U) (ae aU (ae (aV.DA U U au au (k':= .i64) au (wrap64 aj aj) U U) aP)))))) (cG (Z0 U U U U Bo aj) aQ) ?_ ah
  obtain⟨cu,e4⟩:=h3 (List.replicate n vW);have fc:cu.length=n:=by rw[e4];exact mz
  refine WO (n:=n) (zr:=vW) (l':=cu) (bm:=λph pj=>(bD x jy jz n [] 0 cu ph pj)) e4 e0 mn Pl Pm Pn Po rfl kq e1 (et hp0 5) U U (by rfl) aj (by unfold Gl;omega) aj (λ_ _ _=>fw) (λ_ _ _=>rfl) ?_;intro j2 a0 dE lP jw Hn dA w ah;have dp:=aI.new (JZ lP jw Hn);replace dp:=dp.G2;letI:=b6 ah;refine dP (dQ dV) [] [] aP aQ ?_ ah;obtain⟨Rs,mc⟩:=h3 (cu.take 0++x.take (min x.length (cu.length-0))++cu.drop (0+(min x.length (cu.length-0))));have hJ:Rs.length=cu.length:=by rw[mc];simp only [List.length_append,List.length_take,List.length_drop];omega
  refine WT (e:=4) (u:=bu a0 cu dE) (a:=a0) (c:=dE) (i:=0) (m:=(min x.length (cu.length-0))) (l:=cu) (ys:=x) (l':=Rs) (bm:=(bD x jy jz n [] 0 cu a0 dE)) mc rfl h4 au au kq Pp jO (et hp1 6) U U (congrArg (λz=>Value.slice a0 z dE) (show cu.length=cu.length by omega)) rfl ((congrArg (λz=>Value.slice a0 z dE) (show cu.length=cu.length by omega)).trans (agB _ _ _)) (WV U U ((dp.red 0 rfl).arr kq) kq) (by apply List.ne_nil_of_length_pos;omega) aj (dp.arr 1 rfl) (λ_=>rfl) (λ_=>fw) ?_;intro nj FO mv dA w ah;have gv:=dp.lZ 1 rfl (Bu FO mv);replace gv:=gv.G2;letI:=b6 ah;refine dP (dQ iA) [] [] aP aQ ?_ ah;refine tp (gq:=(λ(⟨M,jS,i⟩:Mem×List Bool×Nat)=>aX M (bD x jy jz n jS i cu a0 dE))) (λ(⟨M,jS,i⟩:Mem×List Bool×Nat)=>bK 0 (aE W) aI.Ip M [p7 1 il (bu jy x jz) x,oJ a0 cu.length dE jS]/\(i<=n/\jS=jT n i/\jS.length=n/\(0<n->0<i))) (λ(⟨M,jS,i⟩:Mem×List Bool×Nat)=>n-i) ⟨nj,Rs,(min x.length (cu.length-0))⟩ k0 fw (λ_ _ h=>h) (by exact⟨gv,by exact⟨aj,by rw[mc];subst e4 aq;exact akq n,aj,aj⟩⟩) ?_;intro⟨M,jS,i⟩ bh dA w ah;letI:=b6 ah;refine tk qq yU ?_;have qZ:=bh.1;have Rt:=akt (qZ.arr 1 rfl);have B':=bh.2.1;have apf:=bh.2.2.2.1;have Ej:=bh.2.2.2.2;by_cases pA:((i:Nat):Int)<((jS.length:Nat):Int)
  ·refine bA ei [] (ae (eM ((qZ.arr 1 rfl).arr kq) mn) (ae bb (ae (aV.V' U U U mn BB U U (show i<=cu.length by omega) rfl) (ae (aV.afq U U U mn BB U U (show i<=dE by omega) rfl) aP)))) aQ ?_ ah
   obtain⟨Ru,jL⟩:=h3 (jS.take i++(jS.take i).take (min (jS.take i).length (jS.length-i))++jS.drop (i+(min (jS.take i).length (jS.length-i))));have kK:Ru.length=jS.length:=by rw[jL];simp only [List.length_append,List.length_take,List.length_drop];omega
   refine WT (e:=4) (u:=bu a0 cu dE) (a:=a0) (c:=dE) (i:=i) (m:=(min (jS.take i).length (jS.length-i))) (l:=jS) (ys:=(jS.take i)) (l':=Ru) (bm:=(bD x jy jz n jS i cu a0 dE)) jL rfl tR au au kq Pp yV (et hp2 11) U U (congrArg (λz=>Value.slice a0 z dE) (show cu.length=jS.length by omega)) rfl (congrArg (λz=>Value.slice (ln a0 dE i 1) z (dE-i)) (show (cu.length-i)=jS.length-i by omega)) (WV U U (((qZ.arr 1 rfl).arr kq).take (show i<=cu.length by omega)) kq) (by apply List.ne_nil_of_length_pos;(simp only [List.length_take];omega)) aj (qZ.arr 1 rfl) (λ_=>rfl) (λ_=>fw) ?_;intro nk vN Hl dA w ah;have ic:=qZ.lZ 1 rfl (Bu vN Hl);replace ic:=ic.G2;letI:=b6 ah;refine dP (dQ jf) fJ [] (ae kt aP) aQ ?_ ah;exact tD ⟨nk,Ru,i+(min (jS.take i).length (jS.length-i))⟩ rK fw (by exact⟨ic,by have Rv:(jS.take i).length=i:=(by rw[List.length_take];omega);exact⟨by rw[Rv];omega,by rw[jL,bh.2.2.1];exact akr B',aj,aj⟩⟩) (by have Rv:(jS.take i).length=i:=(by rw[List.length_take];omega);show n-(i+min _ _)<n-i;rw[Rv];omega)
  ·refine bA hH [] (ae (eM ((qZ.arr 1 rfl).arr kq) mn) (ae aU aP)) aQ ?_ ah
   refine od [] [] aP aQ ?_;exact bU Cf λw2 bp=>(by have lF:i=n:=aj;have hL:jS=List.replicate n true:=(by rw[bh.2.2.1,lF,ZZ]);rw[<-hL,<-fc];exact⟨(_,_),rfl,((qZ.pick [0,1] rfl).done bp)⟩)
end Z1
end AE
namespace AE
def sI (c:Int):Prop:=0<=c/\c<256
instance (c:Int):Decidable (sI c):=by unfold sI;infer_instance
def rL:List Int->Int
 |[]=> -1
 |c::r=>if sI c then (if rL r<0 then -1 else rL r+1) else 0
theorem Z2:∀{l:List Int},(∀c∈l,sI c)->rL l= -1
 |[],_=>rfl
 |c::r,h=>by
  unfold rL;rw[aY (h c (by simp)),Z2 λd bg=>h d (by simp [bg]),aY cw]
theorem Rw:∀{l:List Int} {i:Nat},i<l.length->(∀c∈l.take i,sI c)->¬sI (l.getD i default)->rL l=i
 |[],i,h,_,_=>by simp at h
 |c::r,0,_,_,h=>by
  unfold rL;rw[a_ (show ¬sI c from h)];rfl
 |c::r,i+1,h,ad,ag=>by
  unfold rL;rw[aY (ad c (by simp)),Rw (l:=r) (i:=i) (by simpa using h) (λd bg=>ad d (by simp [bg])) ag,a_ aj];omega
theorem aku {l:List Int} {i:Nat} (h:∀c∈l.take i,sI c) (ai:i<l.length) (ad:0<=l.getD i default) (ag:l.getD i default<256):∀c∈l.take (i+1),sI c:=by
 have:l.take (i+1)=l.take i++[l.getD i default]:=by
  rw[List.take_add_one,dq,gi ai];rfl
 rw[this];intro c ar;rcases List.mem_append.1 ar with ar|ar
 ·exact h c ar
 ·rw[List.mem_singleton.1 ar]
  exact⟨ad,ag⟩
theorem akv {l:List Int} {i:Nat} (h:∀c∈l.take i,sI c) (ai:l.length<=i):∀c∈l,sI c:=by
 rwa [List.take_of_length_le ai] at h
def Rx:bQ:=(0,0,0,0,0,0)
def wu (b:bQ) (cells:List Int):Prop:=okB b/\(iZ b\/b=Rx)/\fx b<=2097152/\fx b=cells.length/\rL cells<0
instance (b:bQ) (cells:List Int):Decidable (wu b cells):=by unfold wu;infer_instance
end AE
namespace AE
namespace Ry
noncomputable def body:Code:=(Tryd.f71.body).getD .skip
def N:Nat:=34
noncomputable abbrev bC:=fm Tryd.prog Tryd.f71
def aO:b8:={sl:=b3 [(0,.agg ⟨[0,1,2,3,4,5]⟩)],ms:=[],A:=start}
def cd:bj:=[(.bin .lss 3 0 (I (-1048575)),.bool true)]
theorem e0:bC (tC 34 cd [] 7 (at' 34 [] [] body aO))=some (.bool false):=au
def dk:bj:=[(.bin .lss 3 0 (I (-1048575)),.bool false),
 (.bin .gtr 3 0 (I 1048575),.bool true)]
theorem e1:bC (tC 34 dk [] 7 (at' 34 [] [] body aO))=some (.bool false):=au
def ei:bj:=[(.bin .lss 3 0 (I (-1048575)),.bool false),
 (.bin .gtr 3 0 (I 1048575),.bool false),
 (.bin .lss 3 1 (I (-1048575)),.bool true)]
theorem e2:bC (tC 34 ei [] 7 (at' 34 [] [] body aO))=some (.bool false):=au
def fJ:bj:=[(.bin .lss 3 0 (I (-1048575)),.bool false),
 (.bin .gtr 3 0 (I 1048575),.bool false),
 (.bin .lss 3 1 (I (-1048575)),.bool false),
 (.bin .gtr 3 1 (I 1048575),.bool true)]
theorem e3:bC (tC 34 fJ [] 7 (at' 34 [] [] body aO))=some (.bool false):=au
def hH:bj:=[(.bin .lss 3 0 (I (-1048575)),.bool false),
 (.bin .gtr 3 0 (I 1048575),.bool false),
 (.bin .lss 3 1 (I (-1048575)),.bool false),
 (.bin .gtr 3 1 (I 1048575),.bool false),
 (.bin .lss 3 2 (I (-1048575)),.bool true)]
theorem hD:bC (tC 34 hH [] 7 (at' 34 [] [] body aO))=some (.bool false):=au
def lz:bj:=[(.bin .lss 3 0 (I (-1048575)),.bool false),
 (.bin .gtr 3 0 (I 1048575),.bool false),
 (.bin .lss 3 1 (I (-1048575)),.bool false),
 (.bin .gtr 3 1 (I 1048575),.bool false),
 (.bin .lss 3 2 (I (-1048575)),.bool false),
 (.bin .gtr 3 2 (I 1048575),.bool true)]
theorem ku:bC (tC 34 lz [] 7 (at' 34 [] [] body aO))=some (.bool false):=au
def mQ:bj:=[(.bin .lss 3 0 (I (-1048575)),.bool false),
 (.bin .gtr 3 0 (I 1048575),.bool false),
 (.bin .lss 3 1 (I (-1048575)),.bool false),
 (.bin .gtr 3 1 (I 1048575),.bool false),
 (.bin .lss 3 2 (I (-1048575)),.bool false),
 (.bin .gtr 3 2 (I 1048575),.bool false),
 (.bin .lss 3 3 (I (-1048575)),.bool true)]
theorem h4:bC (tC 34 mQ [] 7 (at' 34 [] [] body aO))=some (.bool false):=au
def pO:bj:=[(.bin .lss 3 0 (I (-1048575)),.bool false),
 (.bin .gtr 3 0 (I 1048575),.bool false),
 (.bin .lss 3 1 (I (-1048575)),.bool false),
 (.bin .gtr 3 1 (I 1048575),.bool false),
 (.bin .lss 3 2 (I (-1048575)),.bool false),
 (.bin .gtr 3 2 (I 1048575),.bool false),
 (.bin .lss 3 3 (I (-1048575)),.bool false),
 (.bin .gtr 3 3 (I 1048575),.bool true)]
theorem jO:bC (tC 34 pO [] 7 (at' 34 [] [] body aO))=some (.bool false):=au
def sJ:bj:=[(.bin .lss 3 0 (I (-1048575)),.bool false),
 (.bin .gtr 3 0 (I 1048575),.bool false),
 (.bin .lss 3 1 (I (-1048575)),.bool false),
 (.bin .gtr 3 1 (I 1048575),.bool false),
 (.bin .lss 3 2 (I (-1048575)),.bool false),
 (.bin .gtr 3 2 (I 1048575),.bool false),
 (.bin .lss 3 3 (I (-1048575)),.bool false),
 (.bin .gtr 3 3 (I 1048575),.bool false),
 (.bin .lss 3 4 (I (-1048575)),.bool true)]
theorem mF:bC (tC 34 sJ [] 7 (at' 34 [] [] body aO))=some (.bool false):=au
def sK:bj:=[(.bin .lss 3 0 (I (-1048575)),.bool false),
 (.bin .gtr 3 0 (I 1048575),.bool false),
 (.bin .lss 3 1 (I (-1048575)),.bool false),
 (.bin .gtr 3 1 (I 1048575),.bool false),
 (.bin .lss 3 2 (I (-1048575)),.bool false),
 (.bin .gtr 3 2 (I 1048575),.bool false),
 (.bin .lss 3 3 (I (-1048575)),.bool false),
 (.bin .gtr 3 3 (I 1048575),.bool false),
 (.bin .lss 3 4 (I (-1048575)),.bool false),
 (.bin .gtr 3 4 (I 1048575),.bool true)]
theorem e9:bC (tC 34 sK [] 7 (at' 34 [] [] body aO))=some (.bool false):=au
def u3:bj:=[(.bin .lss 3 0 (I (-1048575)),.bool false),
 (.bin .gtr 3 0 (I 1048575),.bool false),
 (.bin .lss 3 1 (I (-1048575)),.bool false),
 (.bin .gtr 3 1 (I 1048575),.bool false),
 (.bin .lss 3 2 (I (-1048575)),.bool false),
 (.bin .gtr 3 2 (I 1048575),.bool false),
 (.bin .lss 3 3 (I (-1048575)),.bool false),
 (.bin .gtr 3 3 (I 1048575),.bool false),
 (.bin .lss 3 4 (I (-1048575)),.bool false),
 (.bin .gtr 3 4 (I 1048575),.bool false),
 (.bin .lss 3 5 (I (-1048575)),.bool true)]
theorem oe:bC (tC 34 u3 [] 7 (at' 34 [] [] body aO))=some (.bool false):=au
def u4:bj:=[(.bin .lss 3 0 (I (-1048575)),.bool false),
 (.bin .gtr 3 0 (I 1048575),.bool false),
 (.bin .lss 3 1 (I (-1048575)),.bool false),
 (.bin .gtr 3 1 (I 1048575),.bool false),
 (.bin .lss 3 2 (I (-1048575)),.bool false),
 (.bin .gtr 3 2 (I 1048575),.bool false),
 (.bin .lss 3 3 (I (-1048575)),.bool false),
 (.bin .gtr 3 3 (I 1048575),.bool false),
 (.bin .lss 3 4 (I (-1048575)),.bool false),
 (.bin .gtr 3 4 (I 1048575),.bool false),
 (.bin .lss 3 5 (I (-1048575)),.bool false),
 (.bin .gtr 3 5 (I 1048575),.bool true)]
theorem ny:bC (tC 34 u4 [] 7 (at' 34 [] [] body aO))=some (.bool false):=au
def wv:bj:=[(.bin .lss 3 0 (I (-1048575)),.bool false),
 (.bin .gtr 3 0 (I 1048575),.bool false),
 (.bin .lss 3 1 (I (-1048575)),.bool false),
 (.bin .gtr 3 1 (I 1048575),.bool false),
 (.bin .lss 3 2 (I (-1048575)),.bool false),
 (.bin .gtr 3 2 (I 1048575),.bool false),
 (.bin .lss 3 3 (I (-1048575)),.bool false),
 (.bin .gtr 3 3 (I 1048575),.bool false),
 (.bin .lss 3 4 (I (-1048575)),.bool false),
 (.bin .gtr 3 4 (I 1048575),.bool false),
 (.bin .lss 3 5 (I (-1048575)),.bool false),
 (.bin .gtr 3 5 (I 1048575),.bool false)]
theorem k0:bC (tC 34 wv [] 7 (at' 34 [] [] body aO))=some (.bool true):=au
@[reducible] noncomputable def bD (b:bQ):List J:=[I b.1,I b.2.1,I b.2.2.1,I b.2.2.2.1,I b.2.2.2.2.1,I b.2.2.2.2.2]
theorem any (W:ax) (b:bQ):Calls Tryd.prog 71 #[X.val b] W λe w'=>e= .returned (.bool (decide (okB b)))/\cj W.heap.size W w':=by
 refine jI (bD b) body aO N [.agg ⟨[ak 0,ak 1,ak 2,ak 3,ak 4,ak 5]⟩] Tryd.func71 λa ah=> ?_
 letI:=b6 ah;refine bA [] [] aP aQ ?_ ah;by_cases aL:b.1<(-1048575)
 ·refine ti (m:=7) (F:=cd) (T:=[]) (bq:=1000) (d:=10) mixed (ae bb aP) aQ ?_
  exact bU e0 λw2 bp=>(by (rw[cy (show ¬okB b from by unfold okB;omega)];rfl))
 ·by_cases ad:1048575<b.1
  ·refine ti (m:=7) (F:=dk) (T:=[]) (bq:=1000) (d:=10) mixed (ae aU (ae bb aP)) aQ ?_
   exact bU e1 λw2 bp=>(by (rw[cy (show ¬okB b from by unfold okB;omega)];rfl))
  ·by_cases ag:b.2.1<(-1048575)
   ·refine ti (m:=7) (F:=ei) (T:=[]) (bq:=1000) (d:=10) mixed (ae aU (ae aU (ae bb aP))) aQ ?_
    exact bU e2 λw2 bp=>(by (rw[cy (show ¬okB b from by unfold okB;omega)];rfl))
   ·by_cases ay:1048575<b.2.1
    ·refine ti (m:=7) (F:=fJ) (T:=[]) (bq:=1000) (d:=10) mixed (ae aU (ae aU (ae aU (ae bb aP)))) aQ ?_
     exact bU e3 λw2 bp=>(by (rw[cy (show ¬okB b from by unfold okB;omega)];rfl))
    ·by_cases bG:b.2.2.1<(-1048575)
     ·refine ti (m:=7) (F:=hH) (T:=[]) (bq:=1000) (d:=10) mixed (ae aU (ae aU (ae aU (ae aU (ae bb aP))))) aQ ?_
      exact bU hD λw2 bp=>(by (rw[cy (show ¬okB b from by unfold okB;omega)];rfl))
     ·by_cases cJ:1048575<b.2.2.1
      ·refine ti (m:=7) (F:=lz) (T:=[]) (bq:=1000) (d:=10) mixed (ae aU (ae aU (ae aU (ae aU (ae aU (ae bb aP)))))) aQ ?_
       exact bU ku λw2 bp=>(by (rw[cy (show ¬okB b from by unfold okB;omega)];rfl))
      ·by_cases cU:b.2.2.2.1<(-1048575)
       ·refine ti (m:=7) (F:=mQ) (T:=[]) (bq:=1000) (d:=10) mixed (ae aU (ae aU (ae aU (ae aU (ae aU (ae aU (ae bb aP))))))) aQ ?_
        exact bU h4 λw2 bp=>(by (rw[cy (show ¬okB b from by unfold okB;omega)];rfl))
       ·by_cases fR:1048575<b.2.2.2.1
        ·refine ti (m:=7) (F:=pO) (T:=[]) (bq:=1000) (d:=10) mixed (ae aU (ae aU (ae aU (ae aU (ae aU (ae aU (ae aU (ae bb aP)))))))) aQ ?_
         exact bU jO λw2 bp=>(by (rw[cy (show ¬okB b from by unfold okB;omega)];rfl))
        ·by_cases pv:b.2.2.2.2.1<(-1048575)
         ·refine ti (m:=7) (F:=sJ) (T:=[]) (bq:=1000) (d:=10) mixed (ae aU (ae aU (ae aU (ae aU (ae aU (ae aU (ae aU (ae aU (ae bb aP))))))))) aQ ?_
          exact bU mF λw2 bp=>(by (rw[cy (show ¬okB b from by unfold okB;omega)];rfl))
         ·by_cases xN:1048575<b.2.2.2.2.1
          ·refine ti (m:=7) (F:=sK) (T:=[]) (bq:=1000) (d:=10) mixed (ae aU (ae aU (ae aU (ae aU (ae aU (ae aU (ae aU (ae aU (ae aU (ae bb aP)))))))))) aQ ?_
           exact bU e9 λw2 bp=>(by (rw[cy (show ¬okB b from by unfold okB;omega)];rfl))
          ·by_cases XI:b.2.2.2.2.2<(-1048575)
           ·refine ti (m:=7) (F:=u3) (T:=[]) (bq:=1000) (d:=10) mixed (ae aU (ae aU (ae aU (ae aU (ae aU (ae aU (ae aU (ae aU (ae aU (ae aU (ae bb aP))))))))))) aQ ?_
            exact bU oe λw2 bp=>(by (rw[cy (show ¬okB b from by unfold okB;omega)];rfl))
           ·by_cases apg:1048575<b.2.2.2.2.2
            ·refine ti (m:=7) (F:=u4) (T:=[]) (bq:=1000) (d:=10) mixed (ae aU (ae aU (ae aU (ae aU (ae aU (ae aU (ae aU (ae aU (ae aU (ae aU (ae aU (ae bb aP)))))))))))) aQ ?_
             exact bU ny λw2 bp=>(by (rw[cy (show ¬okB b from by unfold okB;omega)];rfl))
            ·refine ti (m:=7) (F:=wv) (T:=[]) (bq:=1000) (d:=10) mixed (ae aU (ae aU (ae aU (ae aU (ae aU (ae aU (ae aU (ae aU (ae aU (ae aU (ae aU (ae aU aP)))))))))))) aQ ?_
             exact bU k0 λw2 bp=>(by (rw[eC (show okB b from by unfold okB;omega)];rfl))
end Ry
namespace Z3
noncomputable def body:Code:=(Tryd.f92.body).getD .skip
def N:Nat:=19
noncomputable abbrev bC:=fm Tryd.prog Tryd.f92
def aO:b8:={sl:=b3 [(1,.func (.func 75) ⟨[]⟩ ⟨[]⟩),(0,0)],ms:=[],A:=start}
def bP:bj:=[(.len #[26] 3 0,1)]
def eS:List bx:=[]
def eT:aF:=b3 [(8,2),(7,1),(1,.func (.func 75) ⟨[]⟩ ⟨[]⟩),(0,0)]
abbrev hR:=at' 19 bP [] body aO
theorem e0:p3 eT eS hR=some [(0,0),(1,1),(I 0,2)]:=au
def fb:Code:=tj body [1,0,1,4]
def iq:List fl:=oE body [1,0,1,4] []
theorem e1:pC hR=fb:=au
theorem e2:gC hR=iq:=au
def cd:bj:=[(.bin .lss 3 2 1,.bool true),
 (.dB 26 0 2,3),
 (.bB 3 3,4),
 (.bin .geq 3 4 (I 0),.bool true),
 (.bin .lss 3 4 (I 256),.bool true),
 (.bin .add 3 2 (I 1),5)]
theorem e3:qJ eT eS (at' 19 cd [] fb (b5 eT eS))=some [(0,0),(1,1),(5,2)]:=au
def dk:bj:=[(.bin .lss 3 2 1,.bool true),
 (.dB 26 0 2,3),
 (.bB 3 3,4),
 (.bin .geq 3 4 (I 0),.bool true),
 (.bin .lss 3 4 (I 256),.bool false)]
theorem hD:bC (nP 19 [] [] iq (at' 19 dk [] fb (b5 eT eS)))=some 2:=au
def fJ:bj:=[(.bin .lss 3 2 1,.bool true),
 (.dB 26 0 2,3),
 (.bB 3 3,4),
 (.bin .geq 3 4 (I 0),.bool false)]
theorem ku:bC (nP 19 [] [] iq (at' 19 fJ [] fb (b5 eT eS)))=some 2:=au
def hH:bj:=[(.bin .lss 3 2 1,.bool false)]
theorem h4:bC (nP 19 [] [] iq (at' 19 hH [] fb (b5 eT eS)))=some (I (-1)):=au
@[reducible] noncomputable def bD (l:List Int) (dR:cm) (eg:Nat) (i:Nat:=0):List J:=[bu dR l eg,I ((l.length:Nat):Int),I ((i:Nat):Int),hd (bu dR l eg) (i*1),I (l.getD (i) default),I ((i+1:Nat):Int)]
theorem any (W:ax) {h_:J} {l:List Int} (hl:cE (aE W) 1 fQ h_ l) (av:l.length<=10000000):Calls Tryd.prog 92 #[h_,.func (.func 75) #[] #[]] W λe w'=>e= .returned (I (rL l))/\cj W.heap.size W w':=by
 obtain⟨dR,eg,rfl⟩:=hl.slice;refine jI (bD l dR eg) body aO N [ak 0,.func (.func 75) ⟨[]⟩ ⟨[]⟩] Tryd.func92 λa ah=> ?_
 letI:=b6 ah;refine bA bP [] (ae (eM hl iz) aP) aQ ?_ ah;refine tp (gq:=(λi=>aX (aE W) (bD l dR eg i))) (λi=>i<=l.length/\∀c∈l.take i,sI c) (λi=>l.length-i) 0 e0 fw (λ_ _ h=>h) (by exact⟨Nat.zero_le _,λc ar=>by simp at ar⟩) ?_;intro i bh dA w ah;letI:=b6 ah;refine tk e1 e2 ?_;have B':=bh.1;by_cases sW:((i:Nat):Int)<((l.length:Nat):Int)
 ·by_cases ih:0<=(l.getD (i) default)
  ·by_cases hB:(l.getD (i) default)<256
   ·refine bA cd [] (ae bb (ae (nr hl iz uI) (ae (qm 0 hl (lO i) vJ) (ae bb (ae bb (ae kt aP)))))) aQ ?_ ah
    exact tD (i+1) e3 fw (by exact⟨aj,aku bh.2 aj bM aj⟩)
   ·refine bA dk [] (ae bb (ae (nr hl iz uI) (ae (qm 0 hl (lO i) vJ) (ae bb (ae aU aP))))) aQ ?_ ah
    refine od [] [] aP aQ ?_;exact bU hD λw2 bp=>(by (rw[Rw (i:=i) aj bh.2 (λq=>by unfold sI at q;omega)];rfl))
  ·refine bA fJ [] (ae bb (ae (nr hl iz uI) (ae (qm 0 hl (lO i) vJ) (ae aU aP)))) aQ ?_ ah
   refine od [] [] aP aQ ?_;exact bU ku λw2 bp=>(by (rw[Rw (i:=i) aj bh.2 (λq=>by unfold sI at q;omega)];rfl))
 ·refine bA hH [] (ae aU aP) aQ ?_ ah
  refine od [] [] aP aQ ?_;exact bU h4 λw2 bp=>(by (rw[Z2 (akv bh.2 aj)];rfl))
end Z3
end AE
namespace AE
namespace Z4
noncomputable def body:Code:=(Tryd.f73.body).getD .skip
def N:Nat:=14
def aO:b8:={sl:=b3 [(0,.agg ⟨[0,1,2,3,4,5]⟩)],ms:=[],A:=start}
def bP:bj:=[(.bin .mul 3 6 7,9),
 (.bin .mul 3 9 8,10)]
def j1:dZ:=[(80,[.agg ⟨[0,1,2,3,4,5]⟩],.agg ⟨[6,7,8]⟩)]
theorem e0:fm Tryd.prog Tryd.f73 (at' 14 bP j1 body aO)=some 10:=au
@[reducible] noncomputable def bD (b:bQ):List J:=[I b.1,I b.2.1,I b.2.2.1,I b.2.2.2.1,I b.2.2.2.2.1,I b.2.2.2.2.2,I (bO b).1,I (bO b).2.1,I (bO b).2.2,I ((bO b).1*(bO b).2.1),I (((bO b).1*(bO b).2.1)*(bO b).2.2)]
theorem any (W:ax) (b:bQ) (af:okB b):Calls Tryd.prog 73 #[X.val b] W λe w'=>e= .returned (I (fx b))/\cj W.heap.size W w':=by
 refine jI (bD b) body aO N [.agg ⟨[ak 0,ak 1,ak 2,ak 3,ak 4,ak 5]⟩] Tryd.func73 λa ah=> ?_
 letI:=b6 ah;have bW:=B2 af;have aC:=QX af;refine bA bP j1 (ae kt (ae kt aP)) (cG (Li U U U U af) aQ) ?_ ah;exact bU e0 λw2 bp=>(by rfl)
end Z4
namespace Rz
noncomputable def body:Code:=(Tryd.f72.body).getD .skip
def N:Nat:=8
noncomputable abbrev bC:=fm Tryd.prog Tryd.f72
def aO:b8:={sl:=b3 [(0,.agg ⟨[0,1,2,3,4,5]⟩)],ms:=[],A:=start}
def bP:bj:=[(.bin .geq 3 0 0,.bool true),
 (.bin .lss 3 0 3,.bool true),
 (.bin .geq 3 1 1,.bool true),
 (.bin .lss 3 1 4,.bool true),
 (.bin .geq 3 2 2,.bool true),
 (.bin .lss 3 2 5,.bool true)]
theorem e0:bC (at' 8 bP [] body aO)=some (.bool false):=au
def cd:bj:=[(.bin .geq 3 0 0,.bool true),
 (.bin .lss 3 0 3,.bool true),
 (.bin .geq 3 1 1,.bool true),
 (.bin .lss 3 1 4,.bool true),
 (.bin .geq 3 2 2,.bool true),
 (.bin .lss 3 2 5,.bool false)]
theorem e1:bC (at' 8 cd [] body aO)=some (.bool true):=au
def dk:bj:=[(.bin .geq 3 0 0,.bool true),
 (.bin .lss 3 0 3,.bool true),
 (.bin .geq 3 1 1,.bool true),
 (.bin .lss 3 1 4,.bool false)]
theorem e2:bC (at' 8 dk [] body aO)=some (.bool true):=au
def ei:bj:=[(.bin .geq 3 0 0,.bool true),
 (.bin .lss 3 0 3,.bool false)]
theorem e3:bC (at' 8 ei [] body aO)=some (.bool true):=au
@[reducible] noncomputable def bD (b:bQ):List J:=[I b.1,I b.2.1,I b.2.2.1,I b.2.2.2.1,I b.2.2.2.2.1,I b.2.2.2.2.2]
theorem any (W:ax) (b:bQ):Calls Tryd.prog 72 #[X.val b] W λe w'=>e= .returned (.bool (decide (¬iZ b)))/\cj W.heap.size W w':=by
 refine jI (bD b) body aO N [.agg ⟨[ak 0,ak 1,ak 2,ak 3,ak 4,ak 5]⟩] Tryd.func72 λa ah=> ?_
 letI:=b6 ah;by_cases aL:b.1<b.2.2.2.1
 ·by_cases ad:b.2.1<b.2.2.2.2.1
  ·by_cases ag:b.2.2.1<b.2.2.2.2.2
   ·refine bA bP [] (ae bb (ae bb (ae bb (ae bb (ae bb (ae bb aP)))))) aQ ?_ ah
    exact bU e0 λw2 bp=>(by (rw[cy (show ¬¬iZ b from by unfold iZ;omega)];rfl))
   ·refine bA cd [] (ae bb (ae bb (ae bb (ae bb (ae bb (ae aU aP)))))) aQ ?_ ah
    exact bU e1 λw2 bp=>(by (rw[eC (show ¬iZ b from by unfold iZ;omega)];rfl))
  ·refine bA dk [] (ae bb (ae bb (ae bb (ae aU aP)))) aQ ?_ ah
   exact bU e2 λw2 bp=>(by (rw[eC (show ¬iZ b from by unfold iZ;omega)];rfl))
 ·refine bA ei [] (ae bb (ae aU aP)) aQ ?_ ah
  exact bU e3 λw2 bp=>(by (rw[eC (show ¬iZ b from by unfold iZ;omega)];rfl))
end Rz
end AE
namespace AE
abbrev RA:aK:=25
theorem akw (p q:bQ):rn Tryd.prog 10000 RA (X.val p) (X.val q)=some ((p.1==q.1&&(p.2.1==q.2.1&&(p.2.2.1==q.2.2.1&&true)))&&((p.2.2.2.1==q.2.2.2.1&&(p.2.2.2.2.1==q.2.2.2.2.1&&(p.2.2.2.2.2==q.2.2.2.2.2&&true)))&&true)):=au
theorem akx:Tryd.prog.eqGuardType Tryd.prog.depth RA=false:=au
theorem aky (p q:bQ):((p.1==q.1&&(p.2.1==q.2.1&&(p.2.2.1==q.2.2.1&&true)))&&((p.2.2.2.1==q.2.2.2.1&&(p.2.2.2.2.1==q.2.2.2.2.1&&(p.2.2.2.2.2==q.2.2.2.2.2&&true)))&&true))=decide (p=q):=by
 obtain⟨a,b,c,d,e,f⟩:=p;obtain⟨a6,b',c',ou,e',iQ⟩:=q;rw[Bool.eq_iff_iff];simp [and_assoc]
section
variable [a7]
theorem Ho {x y:J} {p q:bQ} (aq:aM x=true) (bE:aM y=true) (ex:aJ x=X.val p) (hN:aJ y=X.val q) {d:Bool} (bg:d= !decide (p=q)):aV Tryd.prog (.bin .neq RA x y,.bool d):=by
 subst bg;exact aV.JH akx aq bE ex hN ((akw p q).trans (by rw[aky]))
theorem yW {x r:J} {b:bQ} (hp:dM [x]=true) (ao:aM r=true) (br:ep [x]=[X.val b]) (ca:aJ r= .bool true) (h:okB b):jb Tryd.prog (71,[x],r):=
 kR (a:= #[X.val b]) hp ao br ca λw _=>(Ry.any w b).mono λe w' he=>by rw[eC h] at he;exact he
theorem akz {x r:J} {b:bQ} (hp:dM [x]=true) (ao:aM r=true) (br:ep [x]=[X.val b]) (ca:aJ r= .bool false) (h:¬okB b):jb Tryd.prog (71,[x],r):=
 kR (a:= #[X.val b]) hp ao br ca λw _=>(Ry.any w b).mono λe w' he=>by rw[cy h] at he;exact he
theorem Hp {x r:J} {b:bQ} (hp:dM [x]=true) (ao:aM r=true) (br:ep [x]=[X.val b]) (ca:aJ r= .bool true) (h:¬iZ b):jb Tryd.prog (72,[x],r):=
 kR (a:= #[X.val b]) hp ao br ca λw _=>(Rz.any w b).mono λe w' he=>by rw[eC h] at he;exact he
theorem Lo {x r:J} {b:bQ} (hp:dM [x]=true) (ao:aM r=true) (br:ep [x]=[X.val b]) (ca:aJ r= .bool false) (h:¬¬iZ b):jb Tryd.prog (72,[x],r):=
 kR (a:= #[X.val b]) hp ao br ca λw _=>(Rz.any w b).mono λe w' he=>by rw[cy h] at he;exact he
theorem Am {x r:J} {b:bQ} (hp:dM [x]=true) (ao:aM r=true) (br:ep [x]=[X.val b]) (ca:aJ r= .int .i64 (fx b)) (af:okB b):jb Tryd.prog (73,[x],r):=
 kR (a:= #[X.val b]) hp ao br ca λw _=>Z4.any w b af
def Hq:J:= .func (.func 75) ⟨[]⟩ ⟨[]⟩
theorem Lp {x r:J} {a:Option Addr} {n c:Nat} {l:List Int} (hp:dM [x,Hq]=true) (ao:aM r=true) (br:ep [x,Hq]=[.slice a n c,Hq]) (ca:aJ r= .int .i64 (rL l)) (hl:cE a7.dn 1 fQ (.slice a n c) l) (av:l.length<=10000000):jb Tryd.prog (92,[x,Hq],r):=
 kR (a:= #[.slice a n c,Hq]) hp ao br ca λw hw=>Z3.any w (hl.mono hw) av
end
theorem Z5 {b:bQ} {cells:List Int} (aL:okB b) (ad:iZ b\/b=Rx) (ag:fx b<=2097152) (ay:fx b=((cells.length:Nat):Int)) (bG:¬0<=rL cells):decide (wu b cells)=true:=eC ⟨aL,ad,ag,ay,aj⟩
theorem Ao {b:bQ} {cells:List Int} (h:okB b->(iZ b\/b=Rx)->fx b<=2097152->fx b=((cells.length:Nat):Int)->0<=rL cells):decide (wu b cells)=false:=cy λq=>by
 obtain⟨q1,aH,b0,eF,hz⟩:=q;have:=h q1 aH b0 eF;omega
end AE
namespace AE
namespace RB
noncomputable def body:Code:=(Tryd.f50.body).getD .skip
def N:Nat:=37
noncomputable abbrev bC:=fm Tryd.prog Tryd.f50
def aO:b8:={sl:=b3 [(0,.agg ⟨[0,1,2,3,4,5,6]⟩)],ms:=[],A:=start}
def bP:bj:=[(.bin .neq 25 (.agg ⟨[0,1,2,3,4,5]⟩) (.agg ⟨[I 0,I 0,I 0,I 0,I 0,I 0]⟩),.bool false),
 (.bin .leq 3 7 (I 2097152),.bool true),
 (.len #[26] 3 6,8),
 (.bin .eql 3 7 8,.bool true),
 (.bin .geq 3 9 (I 0),.bool true)]
def j1:dZ:=[(71,[.agg ⟨[0,1,2,3,4,5]⟩],.bool true),
 (72,[.agg ⟨[ak 0,ak 1,ak 2,ak 3,ak 4,ak 5]⟩],.bool true),
 (73,[.agg ⟨[ak 0,ak 1,ak 2,ak 3,ak 4,ak 5]⟩],ak 7),
 (92,[ak 6,.func (.func 75) ⟨[]⟩ ⟨[]⟩],ak 9)]
theorem e0:bC (at' 37 bP j1 body aO)=some (.bool false):=au
def cd:bj:=[(.bin .neq 25 (.agg ⟨[0,1,2,3,4,5]⟩) (.agg ⟨[I 0,I 0,I 0,I 0,I 0,I 0]⟩),.bool false),
 (.bin .leq 3 7 (I 2097152),.bool true),
 (.len #[26] 3 6,8),
 (.bin .eql 3 7 8,.bool true),
 (.bin .geq 3 9 (I 0),.bool false)]
def h':dZ:=[(71,[.agg ⟨[0,1,2,3,4,5]⟩],.bool true),
 (72,[.agg ⟨[ak 0,ak 1,ak 2,ak 3,ak 4,ak 5]⟩],.bool true),
 (73,[.agg ⟨[ak 0,ak 1,ak 2,ak 3,ak 4,ak 5]⟩],ak 7),
 (92,[ak 6,.func (.func 75) ⟨[]⟩ ⟨[]⟩],ak 9)]
theorem e1:bC (at' 37 cd h' body aO)=some (.bool true):=au
def dk:bj:=[(.bin .neq 25 (.agg ⟨[0,1,2,3,4,5]⟩) (.agg ⟨[I 0,I 0,I 0,I 0,I 0,I 0]⟩),.bool false),
 (.bin .leq 3 7 (I 2097152),.bool true),
 (.len #[26] 3 6,8),
 (.bin .eql 3 7 8,.bool false)]
def oL:dZ:=[(71,[.agg ⟨[0,1,2,3,4,5]⟩],.bool true),
 (72,[.agg ⟨[ak 0,ak 1,ak 2,ak 3,ak 4,ak 5]⟩],.bool true),
 (73,[.agg ⟨[ak 0,ak 1,ak 2,ak 3,ak 4,ak 5]⟩],ak 7)]
theorem e2:bC (at' 37 dk oL body aO)=some (.bool false):=au
def ei:bj:=[(.bin .neq 25 (.agg ⟨[0,1,2,3,4,5]⟩) (.agg ⟨[I 0,I 0,I 0,I 0,I 0,I 0]⟩),.bool false),
 (.bin .leq 3 7 (I 2097152),.bool false)]
def sL:dZ:=[(71,[.agg ⟨[0,1,2,3,4,5]⟩],.bool true),
 (72,[.agg ⟨[ak 0,ak 1,ak 2,ak 3,ak 4,ak 5]⟩],.bool true),
 (73,[.agg ⟨[ak 0,ak 1,ak 2,ak 3,ak 4,ak 5]⟩],ak 7)]
theorem e3:bC (at' 37 ei sL body aO)=some (.bool false):=au
def fJ:bj:=[(.bin .neq 25 (.agg ⟨[0,1,2,3,4,5]⟩) (.agg ⟨[I 0,I 0,I 0,I 0,I 0,I 0]⟩),.bool true)]
def qt:dZ:=[(71,[.agg ⟨[0,1,2,3,4,5]⟩],.bool true),
 (72,[.agg ⟨[ak 0,ak 1,ak 2,ak 3,ak 4,ak 5]⟩],.bool true)]
theorem hD:bC (at' 37 fJ qt body aO)=some (.bool false):=au
def hH:bj:=[(.bin .leq 3 7 (I 2097152),.bool true),
 (.len #[26] 3 6,8),
 (.bin .eql 3 7 8,.bool true),
 (.bin .geq 3 9 (I 0),.bool true)]
def Hr:dZ:=[(71,[.agg ⟨[0,1,2,3,4,5]⟩],.bool true),
 (72,[.agg ⟨[ak 0,ak 1,ak 2,ak 3,ak 4,ak 5]⟩],.bool false),
 (73,[.agg ⟨[ak 0,ak 1,ak 2,ak 3,ak 4,ak 5]⟩],ak 7),
 (92,[ak 6,.func (.func 75) ⟨[]⟩ ⟨[]⟩],ak 9)]
theorem ku:bC (at' 37 hH Hr body aO)=some (.bool false):=au
def lz:bj:=[(.bin .leq 3 7 (I 2097152),.bool true),
 (.len #[26] 3 6,8),
 (.bin .eql 3 7 8,.bool true),
 (.bin .geq 3 9 (I 0),.bool false)]
def yX:dZ:=[(71,[.agg ⟨[0,1,2,3,4,5]⟩],.bool true),
 (72,[.agg ⟨[ak 0,ak 1,ak 2,ak 3,ak 4,ak 5]⟩],.bool false),
 (73,[.agg ⟨[ak 0,ak 1,ak 2,ak 3,ak 4,ak 5]⟩],ak 7),
 (92,[ak 6,.func (.func 75) ⟨[]⟩ ⟨[]⟩],ak 9)]
theorem h4:bC (at' 37 lz yX body aO)=some (.bool true):=au
def mQ:bj:=[(.bin .leq 3 7 (I 2097152),.bool true),
 (.len #[26] 3 6,8),
 (.bin .eql 3 7 8,.bool false)]
def Hs:dZ:=[(71,[.agg ⟨[0,1,2,3,4,5]⟩],.bool true),
 (72,[.agg ⟨[ak 0,ak 1,ak 2,ak 3,ak 4,ak 5]⟩],.bool false),
 (73,[.agg ⟨[ak 0,ak 1,ak 2,ak 3,ak 4,ak 5]⟩],ak 7)]
theorem jO:bC (at' 37 mQ Hs body aO)=some (.bool false):=au
def pO:bj:=[(.bin .leq 3 7 (I 2097152),.bool false)]
def Ap:dZ:=[(71,[.agg ⟨[0,1,2,3,4,5]⟩],.bool true),
 (72,[.agg ⟨[ak 0,ak 1,ak 2,ak 3,ak 4,ak 5]⟩],.bool false),
 (73,[.agg ⟨[ak 0,ak 1,ak 2,ak 3,ak 4,ak 5]⟩],ak 7)]
theorem mF:bC (at' 37 pO Ap body aO)=some (.bool false):=au
def Ht:dZ:=[(71,[.agg ⟨[0,1,2,3,4,5]⟩],.bool false)]
theorem e9:bC (at' 37 [] Ht body aO)=some (.bool false):=au
@[reducible] noncomputable def bD (cells:List Int) (bS:cm) (bL bT:Nat) (b:bQ):List J:=[I b.1,I b.2.1,I b.2.2.1,I b.2.2.2.1,I b.2.2.2.2.1,I b.2.2.2.2.2,.slice bS bL bT,I (fx b),I ((cells.length:Nat):Int),I (rL cells)]
theorem any (W:ax) {b:bQ} {bS:cm} {bL bT:Nat} {cells:List Int} (h0:cE (aE W) 1 fQ (.slice bS bL bT) cells) (av:cells.length<=10000000) (iy:bL=cells.length):Calls Tryd.prog 50 #[.agg ⟨[I b.1,I b.2.1,I b.2.2.1,I b.2.2.2.1,I b.2.2.2.2.1,I b.2.2.2.2.2,.slice bS bL bT]⟩] W λe w'=>e= .returned (.bool (decide (wu b cells)))/\cj W.heap.size W w':=by
 refine jI (bD cells bS bL bT b) body aO N [.agg ⟨[ak 0,ak 1,ak 2,ak 3,ak 4,ak 5,ak 6]⟩] Tryd.func50 λa ah=> ?_
 letI:=b6 ah;have aI:=bK.o5 W;by_cases aL:okB b
 ·by_cases ad:¬iZ b
  ·by_cases ag:b=((0,0,0,0,0,0):bQ)
   ·by_cases ay:(fx b)<=2097152
    ·by_cases bG:(fx b)=((cells.length:Nat):Int)
     ·by_cases cJ:0<=(rL cells)
      ·refine bA bP j1 (ae (Ho U U U U (by rw[eC ag];rfl)) (ae bb (ae (eM (h0.mono aI.ext) iz) (ae bb (ae bb aP))))) (cG (yW U U U U aL) (cG (Hp U U U U ad) (cG (Am U U U U bM) (cG (Lp U U U U (h0.mono aI.ext) av) aQ)))) ?_ ah
       exact bU e0 λw2 bp=>(by (rw[Ao (λq1 aH b0 eF=>by omega)];rfl))
      ·refine bA cd h' (ae (Ho U U U U (by rw[eC ag];rfl)) (ae bb (ae (eM (h0.mono aI.ext) iz) (ae bb (ae aU aP))))) (cG (yW U U U U aL) (cG (Hp U U U U ad) (cG (Am U U U U bM) (cG (Lp U U U U (h0.mono aI.ext) av) aQ)))) ?_ ah
       exact bU e1 λw2 bp=>(by (rw[Z5 bM (by exact .inr bM) aj aj aj];rfl))
     ·refine bA dk oL (ae (Ho U U U U (by rw[eC ag];rfl)) (ae bb (ae (eM (h0.mono aI.ext) iz) (ae aU aP)))) (cG (yW U U U U aL) (cG (Hp U U U U ad) (cG (Am U U U U bM) aQ))) ?_ ah
      exact bU e2 λw2 bp=>(by (rw[Ao (λq1 aH b0 eF=>by omega)];rfl))
    ·refine bA ei sL (ae (Ho U U U U (by rw[eC ag];rfl)) (ae aU aP)) (cG (yW U U U U aL) (cG (Hp U U U U ad) (cG (Am U U U U bM) aQ))) ?_ ah
     exact bU e3 λw2 bp=>(by (rw[Ao (λq1 aH b0 eF=>by omega)];rfl))
   ·refine bA fJ qt (ae (Ho U U U U (by rw[cy ag];rfl)) aP) (cG (yW U U U U aL) (cG (Hp U U U U ad) aQ)) ?_ ah
    exact bU hD λw2 bp=>(by (rw[Ao (λq1 aH b0 eF=>by exact absurd (aH.resolve_left bM) bM)];rfl))
  ·by_cases ag:(fx b)<=2097152
   ·by_cases ay:(fx b)=((cells.length:Nat):Int)
    ·by_cases bG:0<=(rL cells)
     ·refine bA hH Hr (ae bb (ae (eM (h0.mono aI.ext) iz) (ae bb (ae bb aP)))) (cG (yW U U U U aL) (cG (Lo U U U U ad) (cG (Am U U U U bM) (cG (Lp U U U U (h0.mono aI.ext) av) aQ)))) ?_ ah
      exact bU ku λw2 bp=>(by (rw[Ao (λq1 aH b0 eF=>by omega)];rfl))
     ·refine bA lz yX (ae bb (ae (eM (h0.mono aI.ext) iz) (ae bb (ae aU aP)))) (cG (yW U U U U aL) (cG (Lo U U U U ad) (cG (Am U U U U bM) (cG (Lp U U U U (h0.mono aI.ext) av) aQ)))) ?_ ah
      exact bU h4 λw2 bp=>(by (rw[Z5 bM (by exact .inl (Classical.not_not.1 bM)) aj aj aj];rfl))
    ·refine bA mQ Hs (ae bb (ae (eM (h0.mono aI.ext) iz) (ae aU aP))) (cG (yW U U U U aL) (cG (Lo U U U U ad) (cG (Am U U U U bM) aQ))) ?_ ah
     exact bU jO λw2 bp=>(by (rw[Ao (λq1 aH b0 eF=>by omega)];rfl))
   ·refine bA pO Ap (ae aU aP) (cG (yW U U U U aL) (cG (Lo U U U U ad) (cG (Am U U U U bM) aQ))) ?_ ah
    exact bU mF λw2 bp=>(by (rw[Ao (λq1 aH b0 eF=>by omega)];rfl))
 ·refine bA [] Ht aP (cG (akz U U U U aL) aQ) ?_ ah
  exact bU e9 λw2 bp=>(by (rw[Ao (λq1 aH b0 eF=>by exact absurd q1 bM)];rfl))
end RB
end AE
namespace AE
def Lq (r:Nat):Bool:=decide (97<=r)&&decide (r<=122)
def Cg (r:Nat):Bool:= !Lq r&& !decide (r=45)
def po (s:fG):Prop:=(0<s.length/\s.length<=32)/\¬(((s.getD 0 0).toNat:Nat):Int)=45/\¬(((s.getD ((((s.length:Nat):Int)-1)).toNat 0).toNat:Nat):Int)=45/\Lib.idxFunc Cg true ⟨s.toArray⟩<0
instance (s:fG):Decidable (po s):=by unfold po;infer_instance
abbrev RC:=fG×Bool×Bool×Bool
def akA (x:RC):List J:=[cD x.1,.bool x.2.1,.bool x.2.2.1,.bool x.2.2.2]
abbrev K.val (x:RC):J:= .agg ⟨akA x⟩
def l9 (x:cW):RC:=
 if x.2.1=true then (if x.2.2.1=true then ([],false,false,false) else if x.2.2.2.1=true then ([102,97,108,108,105,110,103],true,false,true) else ([115,111,108,105,100],true,false,false))
 else if x.2.2.1=true then (if x.2.2.2.1=true then ([],false,false,false) else ([108,105,113,117,105,100],false,true,false))
 else if x.2.2.2.1=true then ([],false,false,false) else ([103,97,115],false,false,false)
section
variable {x:cW}
theorem akB (aL:¬x.2.1=true) (ad:¬x.2.2.1=true) (ag:¬x.2.2.2.1=true):l9 x=([103,97,115],false,false,false):=by unfold l9;rw[a_ aL,a_ ad,a_ ag]
theorem akC (aL:x.2.1=true) (ad:¬x.2.2.1=true) (ag:¬x.2.2.2.1=true):l9 x=([115,111,108,105,100],true,false,false):=by unfold l9;rw[aY aL,a_ ad,a_ ag]
theorem akD (aL:x.2.1=true) (ad:¬x.2.2.1=true) (ag:x.2.2.2.1=true):l9 x=([102,97,108,108,105,110,103],true,false,true):=by unfold l9;rw[aY aL,a_ ad,aY ag]
theorem akE (aL:¬x.2.1=true) (ad:x.2.2.1=true) (ag:¬x.2.2.2.1=true):l9 x=([108,105,113,117,105,100],false,true,false):=by unfold l9;rw[a_ aL,aY ad,a_ ag]
theorem akF (aL:x.2.1=true) (ad:x.2.2.1=true):l9 x=([],false,false,false):=by unfold l9;rw[aY aL,aY ad]
theorem Z6 (aL:¬x.2.1=true) (ag:x.2.2.2.1=true):l9 x=([],false,false,false):=by unfold l9;rw[a_ aL];split<;>first|rfl|rw[aY ag]
end
def hI (x:cW):Prop:=po x.1/\¬(l9 x).1=[]/\1<=x.2.2.2.2.1/\x.2.2.2.2.1<=16/\0<=x.2.2.2.2.2.1/\x.2.2.2.2.2.1<=15/\0<=x.2.2.2.2.2.2.1/\x.2.2.2.2.2.2.1<=15/\0<=x.2.2.2.2.2.2.2/\x.2.2.2.2.2.2.2<=15
instance (x:cW):Decidable (hI x):=by unfold hI;infer_instance
def Hu:cW:=([97,105,114],false,false,false,1,0,0,0)
def Ch (l:List cW) (i:Nat):List fG:=(l.take i).map (·.1)
def yY (l:List cW) (i:Nat):Prop:=¬hI (l.getD i default)\/(l.getD i default).1∈Ch l i
instance (l:List cW) (i:Nat):Decidable (yY l i):=by unfold yY;infer_instance
def mR (l:List cW):Int×Int:=
 if 256<l.length then (-1,2) else if l.length=0 then (-1,1) else if ¬l.getD 0 default=Hu then (0,1) else
 match (List.range l.length).find? (λi=>decide (yY l i)) with
 |some i=>(i,if hI (l.getD i default) then 10 else 1)
 |none=>(0,0)
section
variable {l:List cW}
theorem akG (h:256<l.length):mR l=(-1,2):=by unfold mR;rw[aY h]
theorem akH (aL:¬256<l.length) (h:l.length=0):mR l=(-1,1):=by unfold mR;rw[a_ aL,aY h]
theorem akI (aL:¬256<l.length) (ad:¬l.length=0) (h:¬l.getD 0 default=Hu):mR l=(0,1):=by unfold mR;rw[a_ aL,a_ ad,aY h]
theorem Z7 {p:Nat->Bool} {n i:Nat} (ai:i<n) (h:∀j,j<i->p j=false) (hp:p i=true):(List.range n).find? p=some i:=by
 rw[List.find?_eq_some_iff_getElem];refine⟨hp,i,by simpa using ai,by simp,λj hj=> ?_⟩;simp [h j hj]
theorem akJ {i:Nat} (aL:¬256<l.length) (ad:¬l.length=0) (ha:l.getD 0 default=Hu) (ai:i<l.length) (h:∀j,j<i->¬yY l j) (af:¬hI (l.getD i default)):mR l=((i:Int),1):=by
 unfold mR;rw[a_ aL,a_ ad,a_ (λh=>h ha),Z7 ai (λj hj=>cy (h j hj)) (eC (.inl af))];simp only;rw[a_ af]
theorem akK {i:Nat} (aL:¬256<l.length) (ad:¬l.length=0) (ha:l.getD 0 default=Hu) (ai:i<l.length) (h:∀j,j<i->¬yY l j) (aC:hI (l.getD i default)) (af:(l.getD i default).1∈Ch l i):mR l=((i:Int),10):=by
 unfold mR;rw[a_ aL,a_ ad,a_ (λh=>h ha),Z7 ai (λj hj=>cy (h j hj)) (eC (.inr af))];simp only;rw[aY aC]
theorem akL (aL:¬256<l.length) (ad:¬l.length=0) (ha:l.getD 0 default=Hu) (h:∀j,j<l.length->¬yY l j):mR l=(0,0):=by
 unfold mR;rw[a_ aL,a_ ad,a_ (λh=>h ha),List.find?_eq_none.2 λj hj=>by simpa using h j (by simpa using hj)]
theorem akM {i:Nat} (aC:hI (l.getD i default)) (af:¬(l.getD i default).1∈Ch l i):¬yY l i:=λh=>h.elim (λh=>h aC) af
theorem akN {i:Nat} (ai:i<l.length):Ch l (i+1)=Ch l i++[(l.getD i default).1]:=by
 unfold Ch;rw[List.take_add_one,List.map_append,gi ai,dq,gi ai];rfl
end
theorem RD:bk Tryd.prog (underlying 120)=some (.map 9 4):=au
theorem RE:bk Tryd.prog (underlying 9)=some .string:=au
theorem akO:bk Tryd.prog (zeroValue 4)=some (.bool false):=au
theorem RF (b:Bool) (n:fG):bk Tryd.prog (Instr.checkKey b 10000 9 (cD n))=some ():=au
end AE
end Go.Proofs.YtepcfjbfkedlpaaDoor
namespace Go.Proofs.YtepcfjbfkedlpaaDoor
open Go Go.Proofs Go.Shelf Go.RowKit Go.Lib
section
def akP:Go.Shelf.Ren:=⟨λ|15=>100|20=>106|n=>n,λ|9=>9|23=>149|3=>3|4=>4|0=>0|21=>21|n=>n,λ|n=>n⟩
theorem akQ:Go.Proofs.LaysGw.n15 Tryd.prog akP:={
 mixed:=by kernel_rfl
 f15:=Tryd.func100.trans (congrArg some au)
 f20:=Tryd.func106.trans (congrArg some au)
 t0:=Tryd.underlying0
 a0:=Tryd.isAgg0
 z0:=Tryd.sizeOf0
 v0:=Tryd.zeroValue0
 i0:=by kernel_rfl
 t3:=Tryd.underlying3
 a3:=Tryd.isAgg3
 z3:=Tryd.sizeOf3
 v3:=Tryd.zeroValue3
 i3:=by kernel_rfl
 t4:=Tryd.underlying4
 a4:=Tryd.isAgg4
 z4:=Tryd.sizeOf4
 v4:=Tryd.zeroValue4
 i4:=by kernel_rfl
 t9:=Tryd.underlying9
 a9:=Tryd.isAgg9
 z9:=Tryd.sizeOf9
 v9:=Tryd.zeroValue9
 i9:=by kernel_rfl
 t21:=Tryd.underlying21
 a21:=Tryd.isAgg21
 z21:=Tryd.sizeOf21
 v21:=Tryd.zeroValue21
 i21:=by kernel_rfl
 t23:=Tryd.underlying149
 a23:=Tryd.isAgg149
 z23:=Tryd.sizeOf149
 v23:=Tryd.zeroValue149
 i23:=by kernel_rfl}
open Go.RowKit Go.Lib in
theorem strings_IndexFunc (g:Nat) (IU:Array J) (akR:∀args w,(callFunc g args).run Tryd.prog w= .ok (.enter g args) w) (p:Nat->Bool) (s:ByteArray) (w:ax) (hp:PredAt Tryd.prog g IU encR p w):
 Calls Tryd.prog 100 #[.string s,.func (.func g) #[] IU] w λe w'=>e= .returned (.int .i64 (Lib.idxFunc p true s))/\Below w.heap.size w w':=Any.strings_IndexFunc akQ g IU akR p s w hp
namespace AE
theorem akS (r:Nat) (W:ax):Calls Tryd.prog 99 #[encR r] W λe w'=>e= .returned (.bool (Lq r))/\∃q,w'=W.drewN q:=by
 by_cases ad:97<=r<;>by_cases ag:r<=122
 all_goals
  have FJ:(97:Int)<=(r:Int)↔97<=r:=by omega
  have z2:(r:Int)<=122↔r<=122:=by omega
  go_enter Tryd.func99,Tryd.ntmps99
  go_wp2
  all_goals first|(exfalso;omega)|(go_ret;exact⟨by simp [Lq,ad,ag],0,rfl⟩)
theorem akT (w:ax) (B off:Nat) (cX:B<w.heap.size) (ar:w.cell? ⟨B,off,none⟩=some (.func (.func 99) #[] #[])):
  PredAt Tryd.prog 101 #[.pointer (some ⟨B,off,none⟩)] encR Cg w:=λW r af=>by
 have AR:W.cell? ⟨B,off,none⟩=some (.func (.func 99) #[] #[]):=(af.cell (p:=⟨B,off,none⟩) cX).trans ar;have hL:=akS r W;unfold FnGives;cases ad:Lq r<;>by_cases z2:(r:Int)=45
 all_goals
  have ag:r=45↔(r:Int)=45:=by omega
  rw[ad] at hL
  go_enter Tryd.func101,Tryd.ntmps101
  go_wp2_with (go_at_call 99;refine hL.mono ?_;rintro e w' ⟨rfl,q,rfl⟩)
  all_goals first|(go_ret;exact⟨by simp [Cg,ad,ag,z2],q,rfl⟩)|omega
theorem Z8 (g:FuncId) (u:J):aM (zx g u)=false:=by unfold zx;simp [aM,dM]
theorem Z9 [a7] {x r:J} {s:fG} (hp:aM x=true) (ao:aM r=true) (ex:aJ x=cD s) (ca:aJ r= .int .i64 (Lib.idxFunc Cg true ⟨s.toArray⟩)):
  A_ Tryd.prog (100,[x,zx 101 (.func (.func 99) ⟨[]⟩ ⟨[]⟩)],r):=by
 intro w _ us ha
 match us,ha with
 |[eG,a2],⟨ad,ag,_⟩=>
  have e1:eG=cD s:=by
   rcases ad with ⟨_,h⟩|⟨g,u,B,off,h,_⟩
   ·rw[h,ex]
   ·rw[h,Z8] at hp;cases hp
  rcases ag with ⟨h,_⟩|⟨g,u,B,off,h,_,e2,cX,ar⟩
  ·rw[Z8] at h;cases h
  ·unfold zx at h
   simp only [Value.func.injEq,Fn.func.injEq,Array.mk.injEq,List.cons.injEq,Value.agg.injEq,and_true,true_and] at h;obtain⟨rfl,rfl⟩:=h;subst e1 e2;refine(strings_IndexFunc 101 #[.pointer (some ⟨B,off,none⟩)] (enters_of Tryd.func101 au rfl) Cg ⟨s.toArray⟩ w (akT w B off cX ar)).mono λe w' ⟨he,af⟩=> ?_
   exact⟨_,he,λφ=>by rw[<-ca];exact aD.vt φ r ao,⟨af,ch _⟩⟩
 |[],h=>exact h.elim
 |[_],h=>exact h.2.elim
 |_::_::_::_,h=>exact h.2.2.elim
end AE
end
end Go.Proofs.YtepcfjbfkedlpaaDoor
namespace Go.Proofs.YtepcfjbfkedlpaaDoor
open Go Go.Proofs Go.RowKit
namespace AE
namespace RG
noncomputable def body:Code:=(Tryd.f90.body).getD .skip
def N:Nat:=31
noncomputable abbrev bC:=fm Tryd.prog Tryd.f90
def aO:b8:={sl:=b3 [(0,0)],ms:=[],A:=start}
def bP:bj:=[(.len #[9] 3 0,1),
 (.bin .gtr 3 1 (I 0),.bool true),
 (.bin .leq 3 1 (I 32),.bool true),
 (.fW 9 0 (I 0),2),
 (.bin .neq 5 2 (.int .u8 45),.bool false)]
theorem e0:bC (at' 31 bP [] body aO)=some (.bool false):=au
def cd:bj:=[(.len #[9] 3 0,1),
 (.bin .gtr 3 1 (I 0),.bool true),
 (.bin .leq 3 1 (I 32),.bool true),
 (.fW 9 0 (I 0),2),
 (.bin .neq 5 2 (.int .u8 45),.bool true),
 (.bin .sub 3 1 (I 1),3),
 (.fW 9 0 3,4),
 (.bin .neq 5 4 (.int .u8 45),.bool false)]
theorem e1:bC (at' 31 cd [] body aO)=some (.bool false):=au
def dk:bj:=[(.len #[9] 3 0,1),
 (.bin .gtr 3 1 (I 0),.bool true),
 (.bin .leq 3 1 (I 32),.bool true),
 (.fW 9 0 (I 0),2),
 (.bin .neq 5 2 (.int .u8 45),.bool true),
 (.bin .sub 3 1 (I 1),3),
 (.fW 9 0 3,4),
 (.bin .neq 5 4 (.int .u8 45),.bool true),
 (.bin .lss 3 5 (I 0),.bool true)]
def oL:dZ:=[(100,[0,.func (.func 101) ⟨[]⟩ ⟨[.agg ⟨[.slice none 7 7,.func (.func 99) ⟨[]⟩ ⟨[]⟩]⟩]⟩],5)]
theorem e2:bC (at' 31 dk oL body aO)=some (.bool true):=au
def ei:bj:=[(.len #[9] 3 0,1),
 (.bin .gtr 3 1 (I 0),.bool true),
 (.bin .leq 3 1 (I 32),.bool true),
 (.fW 9 0 (I 0),2),
 (.bin .neq 5 2 (.int .u8 45),.bool true),
 (.bin .sub 3 1 (I 1),3),
 (.fW 9 0 3,4),
 (.bin .neq 5 4 (.int .u8 45),.bool true),
 (.bin .lss 3 5 (I 0),.bool false)]
def sL:dZ:=[(100,[0,.func (.func 101) ⟨[]⟩ ⟨[.agg ⟨[.slice none 7 7,.func (.func 99) ⟨[]⟩ ⟨[]⟩]⟩]⟩],5)]
theorem e3:bC (at' 31 ei sL body aO)=some (.bool false):=au
def fJ:bj:=[(.len #[9] 3 0,1),
 (.bin .gtr 3 1 (I 0),.bool true),
 (.bin .leq 3 1 (I 32),.bool false)]
theorem hD:bC (at' 31 fJ [] body aO)=some (.bool false):=au
def hH:bj:=[(.len #[9] 3 0,1),
 (.bin .gtr 3 1 (I 0),.bool false)]
theorem ku:bC (at' 31 hH [] body aO)=some (.bool false):=au
@[reducible] noncomputable def bD (s:fG):List J:=[cD s,I ((s.length:Nat):Int),.int .u8 (((s.getD 0 0).toNat:Nat):Int),I (((s.length:Nat):Int)-1),.int .u8 (((s.getD ((((s.length:Nat):Int)-1)).toNat 0).toNat:Nat):Int),I (Lib.idxFunc Cg true ⟨s.toArray⟩)]
theorem any (W:ax) (s:fG):Calls Tryd.prog 90 #[cD s] W λe w'=>e= .returned (.bool (decide (po s)))/\cj W.heap.size W w':=by
 refine jI (bD s) body aO N [ak 0] Tryd.func90 λa ah=> ?_
 letI:=b6 ah;by_cases aL:0<((s.length:Nat):Int)
 ·by_cases ad:((s.length:Nat):Int)<=32
  ·by_cases ag:(((s.getD 0 0).toNat:Nat):Int)=45
   ·refine bA bP [] (ae (aV.zH U U rp U U) (ae bb (ae bb (ae (aV.Bi (l:=s) (j:=0) (show 0<s.length by omega) U U U rp U U U) (ae sD aP))))) aQ ?_ ah
    exact bU e0 λw2 bp=>(by (rw[cy (λh:po s=>by have ad:=h.1;have ag:=h.2.1;have ay:=h.2.2.1;have bG:=h.2.2.2;omega)];rfl))
   ·by_cases ay:(((s.getD ((((s.length:Nat):Int)-1)).toNat 0).toNat:Nat):Int)=45
    ·refine bA cd [] (ae (aV.zH U U rp U U) (ae bb (ae bb (ae (aV.Bi (l:=s) (j:=0) (show 0<s.length by omega) U U U rp U U U) (ae tE (ae kt (ae (aV.Bi (l:=s) (j:=((((s.length:Nat):Int)-1)).toNat) (show ((((s.length:Nat):Int)-1)).toNat<s.length by omega) U U U rp rfl (FF aj) rfl) (ae sD aP)))))))) aQ ?_ ah
     exact bU e1 λw2 bp=>(by (rw[cy (λh:po s=>by have ad:=h.1;have ag:=h.2.1;have ay:=h.2.2.1;have bG:=h.2.2.2;omega)];rfl))
    ·by_cases bG:(Lib.idxFunc Cg true ⟨s.toArray⟩)<0
     ·refine bA dk oL (ae (aV.zH U U rp U U) (ae bb (ae bb (ae (aV.Bi (l:=s) (j:=0) (show 0<s.length by omega) U U U rp U U U) (ae tE (ae kt (ae (aV.Bi (l:=s) (j:=((((s.length:Nat):Int)-1)).toNat) (show ((((s.length:Nat):Int)-1)).toNat<s.length by omega) U U U rp rfl (FF aj) rfl) (ae tE (ae bb aP))))))))) (Oe (Z9 U U U U) aQ) ?_ ah
      exact bU e2 λw2 bp=>(by (rw[eC (show po s from ⟨⟨aj,aj⟩,bM,bM,bM⟩)];rfl))
     ·refine bA ei sL (ae (aV.zH U U rp U U) (ae bb (ae bb (ae (aV.Bi (l:=s) (j:=0) (show 0<s.length by omega) U U U rp U U U) (ae tE (ae kt (ae (aV.Bi (l:=s) (j:=((((s.length:Nat):Int)-1)).toNat) (show ((((s.length:Nat):Int)-1)).toNat<s.length by omega) U U U rp rfl (FF aj) rfl) (ae tE (ae aU aP))))))))) (Oe (Z9 U U U U) aQ) ?_ ah
      exact bU e3 λw2 bp=>(by (rw[cy (λh:po s=>by have ad:=h.1;have ag:=h.2.1;have ay:=h.2.2.1;have bG:=h.2.2.2;omega)];rfl))
  ·refine bA fJ [] (ae (aV.zH U U rp U U) (ae bb (ae aU aP))) aQ ?_ ah
   exact bU hD λw2 bp=>(by (rw[cy (λh:po s=>by have ad:=h.1;have ag:=h.2.1;have ay:=h.2.2.1;have bG:=h.2.2.2;omega)];rfl))
 ·refine bA hH [] (ae (aV.zH U U rp U U) (ae aU aP)) aQ ?_ ah
  exact bU ku λw2 bp=>(by (rw[cy (λh:po s=>by have ad:=h.1;have ag:=h.2.1;have ay:=h.2.2.1;have bG:=h.2.2.2;omega)];rfl))
end RG
namespace Z'
noncomputable def body:Code:=(Tryd.f91.body).getD .skip
def N:Nat:=31
noncomputable abbrev bC:=fm Tryd.prog Tryd.f91
def aO:b8:={sl:=b3 [(0,.agg ⟨[0,1,2,3,4,5,6,7]⟩)],ms:=[],A:=start}
def bP:bj:=[(.bB 151 1000000,.agg ⟨[cD [103,97,115],.bool false,.bool false,.bool false,cD [115,111,108,105,100],.bool true,.bool false,.bool false,cD [102,97,108,108,105,110,103],.bool true,.bool false,.bool true,cD [108,105,113,117,105,100],.bool false,.bool true,.bool false]⟩),
 (.bin .eql 4 (.bool false) 1,.bool false),
 (.bin .eql 4 (.bool true) 1,.bool true),
 (.bin .eql 4 (.bool false) 2,.bool false)]
theorem e0:bC (at' 31 bP [] body aO)=some (.agg ⟨[cD [],.bool false,.bool false,.bool false]⟩):=au
def cd:bj:=[(.bB 151 1000000,.agg ⟨[cD [103,97,115],.bool false,.bool false,.bool false,cD [115,111,108,105,100],.bool true,.bool false,.bool false,cD [102,97,108,108,105,110,103],.bool true,.bool false,.bool true,cD [108,105,113,117,105,100],.bool false,.bool true,.bool false]⟩),
 (.bin .eql 4 (.bool false) 1,.bool false),
 (.bin .eql 4 (.bool true) 1,.bool true),
 (.bin .eql 4 (.bool false) 2,.bool true),
 (.bin .eql 4 (.bool false) 3,.bool false),
 (.bin .eql 4 (.bool true) 3,.bool true)]
theorem e1:bC (at' 31 cd [] body aO)=some (.agg ⟨[cD [102,97,108,108,105,110,103],.bool true,.bool false,.bool true]⟩):=au
def dk:bj:=[(.bB 151 1000000,.agg ⟨[cD [103,97,115],.bool false,.bool false,.bool false,cD [115,111,108,105,100],.bool true,.bool false,.bool false,cD [102,97,108,108,105,110,103],.bool true,.bool false,.bool true,cD [108,105,113,117,105,100],.bool false,.bool true,.bool false]⟩),
 (.bin .eql 4 (.bool false) 1,.bool false),
 (.bin .eql 4 (.bool true) 1,.bool true),
 (.bin .eql 4 (.bool false) 2,.bool true),
 (.bin .eql 4 (.bool false) 3,.bool true)]
theorem e2:bC (at' 31 dk [] body aO)=some (.agg ⟨[cD [115,111,108,105,100],.bool true,.bool false,.bool false]⟩):=au
def ei:bj:=[(.bB 151 1000000,.agg ⟨[cD [103,97,115],.bool false,.bool false,.bool false,cD [115,111,108,105,100],.bool true,.bool false,.bool false,cD [102,97,108,108,105,110,103],.bool true,.bool false,.bool true,cD [108,105,113,117,105,100],.bool false,.bool true,.bool false]⟩),
 (.bin .eql 4 (.bool false) 1,.bool true),
 (.bin .eql 4 (.bool false) 2,.bool false),
 (.bin .eql 4 (.bool true) 1,.bool false),
 (.bin .eql 4 (.bool true) 2,.bool true),
 (.bin .eql 4 (.bool false) 3,.bool false)]
theorem e3:bC (at' 31 ei [] body aO)=some (.agg ⟨[cD [],.bool false,.bool false,.bool false]⟩):=au
def fJ:bj:=[(.bB 151 1000000,.agg ⟨[cD [103,97,115],.bool false,.bool false,.bool false,cD [115,111,108,105,100],.bool true,.bool false,.bool false,cD [102,97,108,108,105,110,103],.bool true,.bool false,.bool true,cD [108,105,113,117,105,100],.bool false,.bool true,.bool false]⟩),
 (.bin .eql 4 (.bool false) 1,.bool true),
 (.bin .eql 4 (.bool false) 2,.bool false),
 (.bin .eql 4 (.bool true) 1,.bool false),
 (.bin .eql 4 (.bool true) 2,.bool true),
 (.bin .eql 4 (.bool false) 3,.bool true)]
theorem hD:bC (at' 31 fJ [] body aO)=some (.agg ⟨[cD [108,105,113,117,105,100],.bool false,.bool true,.bool false]⟩):=au
def hH:bj:=[(.bB 151 1000000,.agg ⟨[cD [103,97,115],.bool false,.bool false,.bool false,cD [115,111,108,105,100],.bool true,.bool false,.bool false,cD [102,97,108,108,105,110,103],.bool true,.bool false,.bool true,cD [108,105,113,117,105,100],.bool false,.bool true,.bool false]⟩),
 (.bin .eql 4 (.bool false) 1,.bool true),
 (.bin .eql 4 (.bool false) 2,.bool true),
 (.bin .eql 4 (.bool false) 3,.bool false),
 (.bin .eql 4 (.bool true) 1,.bool false),
 (.bin .eql 4 (.bool true) 2,.bool false)]
theorem ku:bC (at' 31 hH [] body aO)=some (.agg ⟨[cD [],.bool false,.bool false,.bool false]⟩):=au
def lz:bj:=[(.bB 151 1000000,.agg ⟨[cD [103,97,115],.bool false,.bool false,.bool false,cD [115,111,108,105,100],.bool true,.bool false,.bool false,cD [102,97,108,108,105,110,103],.bool true,.bool false,.bool true,cD [108,105,113,117,105,100],.bool false,.bool true,.bool false]⟩),
 (.bin .eql 4 (.bool false) 1,.bool true),
 (.bin .eql 4 (.bool false) 2,.bool true),
 (.bin .eql 4 (.bool false) 3,.bool true)]
theorem h4:bC (at' 31 lz [] body aO)=some (.agg ⟨[cD [103,97,115],.bool false,.bool false,.bool false]⟩):=au
@[reducible] noncomputable def bD (x:cW):List J:=[cD x.1,.bool x.2.1,.bool x.2.2.1,.bool x.2.2.2.1,I x.2.2.2.2.1,I x.2.2.2.2.2.1,I x.2.2.2.2.2.2.1,I x.2.2.2.2.2.2.2]
theorem any (W:ax) (x:cW) (cC:mJ (aE W)):Calls Tryd.prog 91 #[M.val x] W λe w'=>e= .returned (K.val (l9 x))/\cj W.heap.size W w':=by
 refine jI (bD x) body aO N [.agg ⟨[ak 0,ak 1,ak 2,ak 3,ak 4,ak 5,ak 6,ak 7]⟩] Tryd.func91 λa ah=> ?_
 letI:=b6 ah;by_cases aL:x.2.1=true
 ·by_cases ad:x.2.2.1=true
  ·refine bA bP [] (ae (Bl cC (o:=0) (n:=16) U U au au U U U U) (ae (yt U U U U cw aL) (ae (DC U U U U U aL) (ae (yt U U U U cw ad) aP)))) aQ ?_ ah
   exact bU e0 λw2 bp=>(by (rw[akF bM bM];rfl))
  ·by_cases ag:x.2.2.2.1=true
   ·refine bA cd [] (ae (Bl cC (o:=0) (n:=16) U U au au U U U U) (ae (yt U U U U cw aL) (ae (DC U U U U U aL) (ae (vK U U U U cw ad) (ae (yt U U U U cw ag) (ae (DC U U U U U ag) aP)))))) aQ ?_ ah
    exact bU e1 λw2 bp=>(by (rw[akD bM bM bM];rfl))
   ·refine bA dk [] (ae (Bl cC (o:=0) (n:=16) U U au au U U U U) (ae (yt U U U U cw aL) (ae (DC U U U U U aL) (ae (vK U U U U cw ad) (ae (vK U U U U cw ag) aP))))) aQ ?_ ah
    exact bU e2 λw2 bp=>(by (rw[akC bM bM bM];rfl))
 ·by_cases ad:x.2.2.1=true
  ·by_cases ag:x.2.2.2.1=true
   ·refine bA ei [] (ae (Bl cC (o:=0) (n:=16) U U au au U U U U) (ae (vK U U U U cw aL) (ae (yt U U U U cw ad) (ae (JT U U U U U aL) (ae (DC U U U U U ad) (ae (yt U U U U cw ag) aP)))))) aQ ?_ ah
    exact bU e3 λw2 bp=>(by (rw[Z6 bM bM];rfl))
   ·refine bA fJ [] (ae (Bl cC (o:=0) (n:=16) U U au au U U U U) (ae (vK U U U U cw aL) (ae (yt U U U U cw ad) (ae (JT U U U U U aL) (ae (DC U U U U U ad) (ae (vK U U U U cw ag) aP)))))) aQ ?_ ah
    exact bU hD λw2 bp=>(by (rw[akE bM bM bM];rfl))
  ·by_cases ag:x.2.2.2.1=true
   ·refine bA hH [] (ae (Bl cC (o:=0) (n:=16) U U au au U U U U) (ae (vK U U U U cw aL) (ae (vK U U U U cw ad) (ae (yt U U U U cw ag) (ae (JT U U U U U aL) (ae (JT U U U U U ad) aP)))))) aQ ?_ ah
    exact bU ku λw2 bp=>(by (rw[Z6 bM bM];rfl))
   ·refine bA lz [] (ae (Bl cC (o:=0) (n:=16) U U au au U U U U) (ae (vK U U U U cw aL) (ae (vK U U U U cw ad) (ae (vK U U U U cw ag) aP)))) aQ ?_ ah
    exact bU h4 λw2 bp=>(by (rw[akB bM bM bM];rfl))
end Z'
end AE
namespace AE
variable [a7]
theorem lA {x:J} {s:fG} (hp:dM [x]=true) (br:ep [x]=[cD s]) (h:po s):jb Tryd.prog (90,[x],.bool true):=
 kR (a:= #[cD s]) hp rfl br rfl λw _=>(RG.any w s).mono λe w' ga=>by rw[eC h] at ga;exact ga
theorem Ci {x:J} {s:fG} (hp:dM [x]=true) (br:ep [x]=[cD s]) (h:¬po s):jb Tryd.prog (90,[x],.bool false):=
 kR (a:= #[cD s]) hp rfl br rfl λw _=>(RG.any w s).mono λe w' ga=>by rw[cy h] at ga;exact ga
theorem lB {x r:J} {m:cW} (hp:dM [x]=true) (ao:aM r=true) (br:ep [x]=[M.val m]) (ca:aJ r=K.val (l9 m)) (cC:mJ a7.dn):jb Tryd.prog (91,[x],r):=
 kR (a:= #[M.val m]) hp ao br ca λw hw=>Z'.any w m (cC.mono hw)
end AE
namespace AE
namespace RH
noncomputable def body:Code:=(Tryd.f70.body).getD .skip
def N:Nat:=30
noncomputable abbrev bC:=fm Tryd.prog Tryd.f70
def aO:b8:={sl:=b3 [(0,.agg ⟨[0,1,2,3,4,5,6,7]⟩)],ms:=[],A:=start}
def bP:bj:=[(.bin .lss 3 5 (I 0),.bool true),
 (.bin .neq 9 8 (cD []),.bool false)]
def j1:dZ:=[(90,[0],.bool true),
 (91,[.agg ⟨[ak 0,ak 1,ak 2,ak 3,ak 4,ak 5,ak 6,ak 7]⟩],.agg ⟨[ak 8,ak 9,ak 10,ak 11]⟩)]
theorem e0:bC (at' 30 bP j1 body aO)=some (.bool false):=au
def cd:bj:=[(.bin .lss 3 5 (I 0),.bool true),
 (.bin .neq 9 8 (cD []),.bool true),
 (.bin .geq 3 4 (I 1),.bool true),
 (.bin .leq 3 4 (I 16),.bool true)]
def h':dZ:=[(90,[0],.bool true),
 (91,[.agg ⟨[ak 0,ak 1,ak 2,ak 3,ak 4,ak 5,ak 6,ak 7]⟩],.agg ⟨[ak 8,ak 9,ak 10,ak 11]⟩)]
theorem e1:bC (at' 30 cd h' body aO)=some (.bool false):=au
def dk:bj:=[(.bin .lss 3 5 (I 0),.bool true),
 (.bin .neq 9 8 (cD []),.bool true),
 (.bin .geq 3 4 (I 1),.bool true),
 (.bin .leq 3 4 (I 16),.bool false)]
def oL:dZ:=[(90,[0],.bool true),
 (91,[.agg ⟨[ak 0,ak 1,ak 2,ak 3,ak 4,ak 5,ak 6,ak 7]⟩],.agg ⟨[ak 8,ak 9,ak 10,ak 11]⟩)]
theorem e2:bC (at' 30 dk oL body aO)=some (.bool false):=au
def ei:bj:=[(.bin .lss 3 5 (I 0),.bool true),
 (.bin .neq 9 8 (cD []),.bool true),
 (.bin .geq 3 4 (I 1),.bool false)]
def sL:dZ:=[(90,[0],.bool true),
 (91,[.agg ⟨[ak 0,ak 1,ak 2,ak 3,ak 4,ak 5,ak 6,ak 7]⟩],.agg ⟨[ak 8,ak 9,ak 10,ak 11]⟩)]
theorem e3:bC (at' 30 ei sL body aO)=some (.bool false):=au
def fJ:bj:=[(.bin .lss 3 5 (I 0),.bool true)]
def qt:dZ:=[(90,[0],.bool false)]
theorem hD:bC (at' 30 fJ qt body aO)=some (.bool false):=au
def hH:bj:=[(.bin .lss 3 5 (I 0),.bool false),
 (.bin .gtr 3 5 (I 15),.bool true),
 (.bin .neq 9 8 (cD []),.bool false)]
def Hr:dZ:=[(90,[0],.bool true),
 (91,[.agg ⟨[ak 0,ak 1,ak 2,ak 3,ak 4,ak 5,ak 6,ak 7]⟩],.agg ⟨[ak 8,ak 9,ak 10,ak 11]⟩)]
theorem ku:bC (at' 30 hH Hr body aO)=some (.bool false):=au
def lz:bj:=[(.bin .lss 3 5 (I 0),.bool false),
 (.bin .gtr 3 5 (I 15),.bool true),
 (.bin .neq 9 8 (cD []),.bool true),
 (.bin .geq 3 4 (I 1),.bool true),
 (.bin .leq 3 4 (I 16),.bool true)]
def yX:dZ:=[(90,[0],.bool true),
 (91,[.agg ⟨[ak 0,ak 1,ak 2,ak 3,ak 4,ak 5,ak 6,ak 7]⟩],.agg ⟨[ak 8,ak 9,ak 10,ak 11]⟩)]
theorem h4:bC (at' 30 lz yX body aO)=some (.bool false):=au
def mQ:bj:=[(.bin .lss 3 5 (I 0),.bool false),
 (.bin .gtr 3 5 (I 15),.bool true),
 (.bin .neq 9 8 (cD []),.bool true),
 (.bin .geq 3 4 (I 1),.bool true),
 (.bin .leq 3 4 (I 16),.bool false)]
def Hs:dZ:=[(90,[0],.bool true),
 (91,[.agg ⟨[ak 0,ak 1,ak 2,ak 3,ak 4,ak 5,ak 6,ak 7]⟩],.agg ⟨[ak 8,ak 9,ak 10,ak 11]⟩)]
theorem jO:bC (at' 30 mQ Hs body aO)=some (.bool false):=au
def pO:bj:=[(.bin .lss 3 5 (I 0),.bool false),
 (.bin .gtr 3 5 (I 15),.bool true),
 (.bin .neq 9 8 (cD []),.bool true),
 (.bin .geq 3 4 (I 1),.bool false)]
def Ap:dZ:=[(90,[0],.bool true),
 (91,[.agg ⟨[ak 0,ak 1,ak 2,ak 3,ak 4,ak 5,ak 6,ak 7]⟩],.agg ⟨[ak 8,ak 9,ak 10,ak 11]⟩)]
theorem mF:bC (at' 30 pO Ap body aO)=some (.bool false):=au
def sJ:bj:=[(.bin .lss 3 5 (I 0),.bool false),
 (.bin .gtr 3 5 (I 15),.bool true)]
def Ht:dZ:=[(90,[0],.bool false)]
theorem e9:bC (at' 30 sJ Ht body aO)=some (.bool false):=au
def sK:bj:=[(.bin .lss 3 5 (I 0),.bool false),
 (.bin .gtr 3 5 (I 15),.bool false),
 (.bin .lss 3 6 (I 0),.bool true),
 (.bin .neq 9 8 (cD []),.bool false)]
def Z_:dZ:=[(90,[0],.bool true),
 (91,[.agg ⟨[ak 0,ak 1,ak 2,ak 3,ak 4,ak 5,ak 6,ak 7]⟩],.agg ⟨[ak 8,ak 9,ak 10,ak 11]⟩)]
theorem oe:bC (at' 30 sK Z_ body aO)=some (.bool false):=au
def u3:bj:=[(.bin .lss 3 5 (I 0),.bool false),
 (.bin .gtr 3 5 (I 15),.bool false),
 (.bin .lss 3 6 (I 0),.bool true),
 (.bin .neq 9 8 (cD []),.bool true),
 (.bin .geq 3 4 (I 1),.bool true),
 (.bin .leq 3 4 (I 16),.bool true)]
def aac:dZ:=[(90,[0],.bool true),
 (91,[.agg ⟨[ak 0,ak 1,ak 2,ak 3,ak 4,ak 5,ak 6,ak 7]⟩],.agg ⟨[ak 8,ak 9,ak 10,ak 11]⟩)]
theorem ny:bC (at' 30 u3 aac body aO)=some (.bool false):=au
def u4:bj:=[(.bin .lss 3 5 (I 0),.bool false),
 (.bin .gtr 3 5 (I 15),.bool false),
 (.bin .lss 3 6 (I 0),.bool true),
 (.bin .neq 9 8 (cD []),.bool true),
 (.bin .geq 3 4 (I 1),.bool true),
 (.bin .leq 3 4 (I 16),.bool false)]
def aad:dZ:=[(90,[0],.bool true),
 (91,[.agg ⟨[ak 0,ak 1,ak 2,ak 3,ak 4,ak 5,ak 6,ak 7]⟩],.agg ⟨[ak 8,ak 9,ak 10,ak 11]⟩)]
theorem k0:bC (at' 30 u4 aad body aO)=some (.bool false):=au
def wv:bj:=[(.bin .lss 3 5 (I 0),.bool false),
 (.bin .gtr 3 5 (I 15),.bool false),
 (.bin .lss 3 6 (I 0),.bool true),
 (.bin .neq 9 8 (cD []),.bool true),
 (.bin .geq 3 4 (I 1),.bool false)]
def aae:dZ:=[(90,[0],.bool true),
 (91,[.agg ⟨[ak 0,ak 1,ak 2,ak 3,ak 4,ak 5,ak 6,ak 7]⟩],.agg ⟨[ak 8,ak 9,ak 10,ak 11]⟩)]
theorem qq:bC (at' 30 wv aae body aO)=some (.bool false):=au
def Aq:bj:=[(.bin .lss 3 5 (I 0),.bool false),
 (.bin .gtr 3 5 (I 15),.bool false),
 (.bin .lss 3 6 (I 0),.bool true)]
def aaf:dZ:=[(90,[0],.bool false)]
theorem yU:bC (at' 30 Aq aaf body aO)=some (.bool false):=au
def Ar:bj:=[(.bin .lss 3 5 (I 0),.bool false),
 (.bin .gtr 3 5 (I 15),.bool false),
 (.bin .lss 3 6 (I 0),.bool false),
 (.bin .gtr 3 6 (I 15),.bool true),
 (.bin .neq 9 8 (cD []),.bool false)]
def Hv:dZ:=[(90,[0],.bool true),
 (91,[.agg ⟨[ak 0,ak 1,ak 2,ak 3,ak 4,ak 5,ak 6,ak 7]⟩],.agg ⟨[ak 8,ak 9,ak 10,ak 11]⟩)]
theorem tR:bC (at' 30 Ar Hv body aO)=some (.bool false):=au
def Hw:bj:=[(.bin .lss 3 5 (I 0),.bool false),
 (.bin .gtr 3 5 (I 15),.bool false),
 (.bin .lss 3 6 (I 0),.bool false),
 (.bin .gtr 3 6 (I 15),.bool true),
 (.bin .neq 9 8 (cD []),.bool true),
 (.bin .geq 3 4 (I 1),.bool true),
 (.bin .leq 3 4 (I 16),.bool true)]
def aag:dZ:=[(90,[0],.bool true),
 (91,[.agg ⟨[ak 0,ak 1,ak 2,ak 3,ak 4,ak 5,ak 6,ak 7]⟩],.agg ⟨[ak 8,ak 9,ak 10,ak 11]⟩)]
theorem yV:bC (at' 30 Hw aag body aO)=some (.bool false):=au
def Hx:bj:=[(.bin .lss 3 5 (I 0),.bool false),
 (.bin .gtr 3 5 (I 15),.bool false),
 (.bin .lss 3 6 (I 0),.bool false),
 (.bin .gtr 3 6 (I 15),.bool true),
 (.bin .neq 9 8 (cD []),.bool true),
 (.bin .geq 3 4 (I 1),.bool true),
 (.bin .leq 3 4 (I 16),.bool false)]
def aah:dZ:=[(90,[0],.bool true),
 (91,[.agg ⟨[ak 0,ak 1,ak 2,ak 3,ak 4,ak 5,ak 6,ak 7]⟩],.agg ⟨[ak 8,ak 9,ak 10,ak 11]⟩)]
theorem Cj:bC (at' 30 Hx aah body aO)=some (.bool false):=au
def Hy:bj:=[(.bin .lss 3 5 (I 0),.bool false),
 (.bin .gtr 3 5 (I 15),.bool false),
 (.bin .lss 3 6 (I 0),.bool false),
 (.bin .gtr 3 6 (I 15),.bool true),
 (.bin .neq 9 8 (cD []),.bool true),
 (.bin .geq 3 4 (I 1),.bool false)]
def aai:dZ:=[(90,[0],.bool true),
 (91,[.agg ⟨[ak 0,ak 1,ak 2,ak 3,ak 4,ak 5,ak 6,ak 7]⟩],.agg ⟨[ak 8,ak 9,ak 10,ak 11]⟩)]
theorem tK:bC (at' 30 Hy aai body aO)=some (.bool false):=au
def Hz:bj:=[(.bin .lss 3 5 (I 0),.bool false),
 (.bin .gtr 3 5 (I 15),.bool false),
 (.bin .lss 3 6 (I 0),.bool false),
 (.bin .gtr 3 6 (I 15),.bool true)]
def aaj:dZ:=[(90,[0],.bool false)]
theorem yZ:bC (at' 30 Hz aaj body aO)=some (.bool false):=au
def HA:bj:=[(.bin .lss 3 5 (I 0),.bool false),
 (.bin .gtr 3 5 (I 15),.bool false),
 (.bin .lss 3 6 (I 0),.bool false),
 (.bin .gtr 3 6 (I 15),.bool false),
 (.bin .lss 3 7 (I 0),.bool true),
 (.bin .neq 9 8 (cD []),.bool false)]
def aak:dZ:=[(90,[0],.bool true),
 (91,[.agg ⟨[ak 0,ak 1,ak 2,ak 3,ak 4,ak 5,ak 6,ak 7]⟩],.agg ⟨[ak 8,ak 9,ak 10,ak 11]⟩)]
theorem tS:bC (at' 30 HA aak body aO)=some (.bool false):=au
def HB:bj:=[(.bin .lss 3 5 (I 0),.bool false),
 (.bin .gtr 3 5 (I 15),.bool false),
 (.bin .lss 3 6 (I 0),.bool false),
 (.bin .gtr 3 6 (I 15),.bool false),
 (.bin .lss 3 7 (I 0),.bool true),
 (.bin .neq 9 8 (cD []),.bool true),
 (.bin .geq 3 4 (I 1),.bool true),
 (.bin .leq 3 4 (I 16),.bool true)]
def aal:dZ:=[(90,[0],.bool true),
 (91,[.agg ⟨[ak 0,ak 1,ak 2,ak 3,ak 4,ak 5,ak 6,ak 7]⟩],.agg ⟨[ak 8,ak 9,ak 10,ak 11]⟩)]
theorem rK:bC (at' 30 HB aal body aO)=some (.bool false):=au
def HC:bj:=[(.bin .lss 3 5 (I 0),.bool false),
 (.bin .gtr 3 5 (I 15),.bool false),
 (.bin .lss 3 6 (I 0),.bool false),
 (.bin .gtr 3 6 (I 15),.bool false),
 (.bin .lss 3 7 (I 0),.bool true),
 (.bin .neq 9 8 (cD []),.bool true),
 (.bin .geq 3 4 (I 1),.bool true),
 (.bin .leq 3 4 (I 16),.bool false)]
def aam:dZ:=[(90,[0],.bool true),
 (91,[.agg ⟨[ak 0,ak 1,ak 2,ak 3,ak 4,ak 5,ak 6,ak 7]⟩],.agg ⟨[ak 8,ak 9,ak 10,ak 11]⟩)]
theorem Cf:bC (at' 30 HC aam body aO)=some (.bool false):=au
def HD:bj:=[(.bin .lss 3 5 (I 0),.bool false),
 (.bin .gtr 3 5 (I 15),.bool false),
 (.bin .lss 3 6 (I 0),.bool false),
 (.bin .gtr 3 6 (I 15),.bool false),
 (.bin .lss 3 7 (I 0),.bool true),
 (.bin .neq 9 8 (cD []),.bool true),
 (.bin .geq 3 4 (I 1),.bool false)]
def aan:dZ:=[(90,[0],.bool true),
 (91,[.agg ⟨[ak 0,ak 1,ak 2,ak 3,ak 4,ak 5,ak 6,ak 7]⟩],.agg ⟨[ak 8,ak 9,ak 10,ak 11]⟩)]
theorem HE:bC (at' 30 HD aan body aO)=some (.bool false):=au
def HF:bj:=[(.bin .lss 3 5 (I 0),.bool false),
 (.bin .gtr 3 5 (I 15),.bool false),
 (.bin .lss 3 6 (I 0),.bool false),
 (.bin .gtr 3 6 (I 15),.bool false),
 (.bin .lss 3 7 (I 0),.bool true)]
def aao:dZ:=[(90,[0],.bool false)]
theorem HG:bC (at' 30 HF aao body aO)=some (.bool false):=au
def HH:bj:=[(.bin .lss 3 5 (I 0),.bool false),
 (.bin .gtr 3 5 (I 15),.bool false),
 (.bin .lss 3 6 (I 0),.bool false),
 (.bin .gtr 3 6 (I 15),.bool false),
 (.bin .lss 3 7 (I 0),.bool false),
 (.bin .gtr 3 7 (I 15),.bool true),
 (.bin .neq 9 8 (cD []),.bool false)]
def aap:dZ:=[(90,[0],.bool true),
 (91,[.agg ⟨[ak 0,ak 1,ak 2,ak 3,ak 4,ak 5,ak 6,ak 7]⟩],.agg ⟨[ak 8,ak 9,ak 10,ak 11]⟩)]
theorem HI:bC (at' 30 HH aap body aO)=some (.bool false):=au
def HJ:bj:=[(.bin .lss 3 5 (I 0),.bool false),
 (.bin .gtr 3 5 (I 15),.bool false),
 (.bin .lss 3 6 (I 0),.bool false),
 (.bin .gtr 3 6 (I 15),.bool false),
 (.bin .lss 3 7 (I 0),.bool false),
 (.bin .gtr 3 7 (I 15),.bool true),
 (.bin .neq 9 8 (cD []),.bool true),
 (.bin .geq 3 4 (I 1),.bool true),
 (.bin .leq 3 4 (I 16),.bool true)]
def aaq:dZ:=[(90,[0],.bool true),
 (91,[.agg ⟨[ak 0,ak 1,ak 2,ak 3,ak 4,ak 5,ak 6,ak 7]⟩],.agg ⟨[ak 8,ak 9,ak 10,ak 11]⟩)]
theorem Cb:bC (at' 30 HJ aaq body aO)=some (.bool false):=au
def aar:bj:=[(.bin .lss 3 5 (I 0),.bool false),
 (.bin .gtr 3 5 (I 15),.bool false),
 (.bin .lss 3 6 (I 0),.bool false),
 (.bin .gtr 3 6 (I 15),.bool false),
 (.bin .lss 3 7 (I 0),.bool false),
 (.bin .gtr 3 7 (I 15),.bool true),
 (.bin .neq 9 8 (cD []),.bool true),
 (.bin .geq 3 4 (I 1),.bool true),
 (.bin .leq 3 4 (I 16),.bool false)]
def aas:dZ:=[(90,[0],.bool true),
 (91,[.agg ⟨[ak 0,ak 1,ak 2,ak 3,ak 4,ak 5,ak 6,ak 7]⟩],.agg ⟨[ak 8,ak 9,ak 10,ak 11]⟩)]
theorem Hj:bC (at' 30 aar aas body aO)=some (.bool false):=au
def aat:bj:=[(.bin .lss 3 5 (I 0),.bool false),
 (.bin .gtr 3 5 (I 15),.bool false),
 (.bin .lss 3 6 (I 0),.bool false),
 (.bin .gtr 3 6 (I 15),.bool false),
 (.bin .lss 3 7 (I 0),.bool false),
 (.bin .gtr 3 7 (I 15),.bool true),
 (.bin .neq 9 8 (cD []),.bool true),
 (.bin .geq 3 4 (I 1),.bool false)]
def aau:dZ:=[(90,[0],.bool true),
 (91,[.agg ⟨[ak 0,ak 1,ak 2,ak 3,ak 4,ak 5,ak 6,ak 7]⟩],.agg ⟨[ak 8,ak 9,ak 10,ak 11]⟩)]
theorem RI:bC (at' 30 aat aau body aO)=some (.bool false):=au
def aav:bj:=[(.bin .lss 3 5 (I 0),.bool false),
 (.bin .gtr 3 5 (I 15),.bool false),
 (.bin .lss 3 6 (I 0),.bool false),
 (.bin .gtr 3 6 (I 15),.bool false),
 (.bin .lss 3 7 (I 0),.bool false),
 (.bin .gtr 3 7 (I 15),.bool true)]
def aaw:dZ:=[(90,[0],.bool false)]
theorem akU:bC (at' 30 aav aaw body aO)=some (.bool false):=au
def aax:bj:=[(.bin .lss 3 5 (I 0),.bool false),
 (.bin .gtr 3 5 (I 15),.bool false),
 (.bin .lss 3 6 (I 0),.bool false),
 (.bin .gtr 3 6 (I 15),.bool false),
 (.bin .lss 3 7 (I 0),.bool false),
 (.bin .gtr 3 7 (I 15),.bool false),
 (.bin .neq 9 8 (cD []),.bool false)]
def aay:dZ:=[(90,[0],.bool true),
 (91,[.agg ⟨[ak 0,ak 1,ak 2,ak 3,ak 4,ak 5,ak 6,ak 7]⟩],.agg ⟨[ak 8,ak 9,ak 10,ak 11]⟩)]
theorem RJ:bC (at' 30 aax aay body aO)=some (.bool false):=au
def aaz:bj:=[(.bin .lss 3 5 (I 0),.bool false),
 (.bin .gtr 3 5 (I 15),.bool false),
 (.bin .lss 3 6 (I 0),.bool false),
 (.bin .gtr 3 6 (I 15),.bool false),
 (.bin .lss 3 7 (I 0),.bool false),
 (.bin .gtr 3 7 (I 15),.bool false),
 (.bin .neq 9 8 (cD []),.bool true),
 (.bin .geq 3 4 (I 1),.bool true),
 (.bin .leq 3 4 (I 16),.bool true)]
def aaA:dZ:=[(90,[0],.bool true),
 (91,[.agg ⟨[ak 0,ak 1,ak 2,ak 3,ak 4,ak 5,ak 6,ak 7]⟩],.agg ⟨[ak 8,ak 9,ak 10,ak 11]⟩)]
theorem HK:bC (at' 30 aaz aaA body aO)=some (.bool true):=au
def aaB:bj:=[(.bin .lss 3 5 (I 0),.bool false),
 (.bin .gtr 3 5 (I 15),.bool false),
 (.bin .lss 3 6 (I 0),.bool false),
 (.bin .gtr 3 6 (I 15),.bool false),
 (.bin .lss 3 7 (I 0),.bool false),
 (.bin .gtr 3 7 (I 15),.bool false),
 (.bin .neq 9 8 (cD []),.bool true),
 (.bin .geq 3 4 (I 1),.bool true),
 (.bin .leq 3 4 (I 16),.bool false)]
def aaC:dZ:=[(90,[0],.bool true),
 (91,[.agg ⟨[ak 0,ak 1,ak 2,ak 3,ak 4,ak 5,ak 6,ak 7]⟩],.agg ⟨[ak 8,ak 9,ak 10,ak 11]⟩)]
theorem Cc:bC (at' 30 aaB aaC body aO)=some (.bool false):=au
def aaD:bj:=[(.bin .lss 3 5 (I 0),.bool false),
 (.bin .gtr 3 5 (I 15),.bool false),
 (.bin .lss 3 6 (I 0),.bool false),
 (.bin .gtr 3 6 (I 15),.bool false),
 (.bin .lss 3 7 (I 0),.bool false),
 (.bin .gtr 3 7 (I 15),.bool false),
 (.bin .neq 9 8 (cD []),.bool true),
 (.bin .geq 3 4 (I 1),.bool false)]
def aaE:dZ:=[(90,[0],.bool true),
 (91,[.agg ⟨[ak 0,ak 1,ak 2,ak 3,ak 4,ak 5,ak 6,ak 7]⟩],.agg ⟨[ak 8,ak 9,ak 10,ak 11]⟩)]
theorem RK:bC (at' 30 aaD aaE body aO)=some (.bool false):=au
def aaF:bj:=[(.bin .lss 3 5 (I 0),.bool false),
 (.bin .gtr 3 5 (I 15),.bool false),
 (.bin .lss 3 6 (I 0),.bool false),
 (.bin .gtr 3 6 (I 15),.bool false),
 (.bin .lss 3 7 (I 0),.bool false),
 (.bin .gtr 3 7 (I 15),.bool false)]
def aaG:dZ:=[(90,[0],.bool false)]
theorem akV:bC (at' 30 aaF aaG body aO)=some (.bool false):=au
@[reducible] noncomputable def bD (x:cW):List J:=[cD x.1,.bool x.2.1,.bool x.2.2.1,.bool x.2.2.2.1,I x.2.2.2.2.1,I x.2.2.2.2.2.1,I x.2.2.2.2.2.2.1,I x.2.2.2.2.2.2.2,cD (l9 x).1,.bool (l9 x).2.1,.bool (l9 x).2.2.1,.bool (l9 x).2.2.2]
theorem any (W:ax) (x:cW) (cC:mJ (aE W)):Calls Tryd.prog 70 #[M.val x] W λe w'=>e= .returned (.bool (decide (hI x)))/\cj W.heap.size W w':=by
 refine jI (bD x) body aO N [.agg ⟨[ak 0,ak 1,ak 2,ak 3,ak 4,ak 5,ak 6,ak 7]⟩] Tryd.func70 λa ah=> ?_
 letI:=b6 ah;by_cases aL:x.2.2.2.2.2.1<0
 ·by_cases ad:po x.1
  ·by_cases ag:(l9 x).1=([]:fG)
   ·refine bA bP j1 (ae bb (ae (aV.Bj U U U U ag) aP)) (cG (lA U U ad) (cG (lB U U U U cC) aQ)) ?_ ah
    exact bU e0 λw2 bp=>(by (rw[cy (λh:hI x=>absurd h.2.1 (by exact not_not_intro bM))];rfl))
   ·by_cases ay:1<=x.2.2.2.2.1
    ·by_cases bG:x.2.2.2.2.1<=16
     ·refine bA cd h' (ae bb (ae (aV.n0 U U U U ag) (ae bb (ae bb aP)))) (cG (lA U U ad) (cG (lB U U U U cC) aQ)) ?_ ah
      exact bU e1 λw2 bp=>(by (rw[cy (λh:hI x=>by have:=h.2.2;omega)];rfl))
     ·refine bA dk oL (ae bb (ae (aV.n0 U U U U ag) (ae bb (ae aU aP)))) (cG (lA U U ad) (cG (lB U U U U cC) aQ)) ?_ ah
      exact bU e2 λw2 bp=>(by (rw[cy (λh:hI x=>by have:=h.2.2;omega)];rfl))
    ·refine bA ei sL (ae bb (ae (aV.n0 U U U U ag) (ae aU aP))) (cG (lA U U ad) (cG (lB U U U U cC) aQ)) ?_ ah
     exact bU e3 λw2 bp=>(by (rw[cy (λh:hI x=>by have:=h.2.2;omega)];rfl))
  ·refine bA fJ qt (ae bb aP) (cG (Ci U U ad) aQ) ?_ ah
   exact bU hD λw2 bp=>(by (rw[cy (λh:hI x=>absurd h.1 bM)];rfl))
 ·by_cases ad:15<x.2.2.2.2.2.1
  ·by_cases ag:po x.1
   ·by_cases ay:(l9 x).1=([]:fG)
    ·refine bA hH Hr (ae aU (ae bb (ae (aV.Bj U U U U ay) aP))) (cG (lA U U ag) (cG (lB U U U U cC) aQ)) ?_ ah
     exact bU ku λw2 bp=>(by (rw[cy (λh:hI x=>absurd h.2.1 (by exact not_not_intro bM))];rfl))
    ·by_cases bG:1<=x.2.2.2.2.1
     ·by_cases cJ:x.2.2.2.2.1<=16
      ·refine bA lz yX (ae aU (ae bb (ae (aV.n0 U U U U ay) (ae bb (ae bb aP))))) (cG (lA U U ag) (cG (lB U U U U cC) aQ)) ?_ ah
       exact bU h4 λw2 bp=>(by (rw[cy (λh:hI x=>by have:=h.2.2;omega)];rfl))
      ·refine bA mQ Hs (ae aU (ae bb (ae (aV.n0 U U U U ay) (ae bb (ae aU aP))))) (cG (lA U U ag) (cG (lB U U U U cC) aQ)) ?_ ah
       exact bU jO λw2 bp=>(by (rw[cy (λh:hI x=>by have:=h.2.2;omega)];rfl))
     ·refine bA pO Ap (ae aU (ae bb (ae (aV.n0 U U U U ay) (ae aU aP)))) (cG (lA U U ag) (cG (lB U U U U cC) aQ)) ?_ ah
      exact bU mF λw2 bp=>(by (rw[cy (λh:hI x=>by have:=h.2.2;omega)];rfl))
   ·refine bA sJ Ht (ae aU (ae bb aP)) (cG (Ci U U ag) aQ) ?_ ah
    exact bU e9 λw2 bp=>(by (rw[cy (λh:hI x=>absurd h.1 bM)];rfl))
  ·by_cases ag:x.2.2.2.2.2.2.1<0
   ·by_cases ay:po x.1
    ·by_cases bG:(l9 x).1=([]:fG)
     ·refine bA sK Z_ (ae aU (ae aU (ae bb (ae (aV.Bj U U U U bG) aP)))) (cG (lA U U ay) (cG (lB U U U U cC) aQ)) ?_ ah
      exact bU oe λw2 bp=>(by (rw[cy (λh:hI x=>absurd h.2.1 (by exact not_not_intro bM))];rfl))
     ·by_cases cJ:1<=x.2.2.2.2.1
      ·by_cases cU:x.2.2.2.2.1<=16
       ·refine bA u3 aac (ae aU (ae aU (ae bb (ae (aV.n0 U U U U bG) (ae bb (ae bb aP)))))) (cG (lA U U ay) (cG (lB U U U U cC) aQ)) ?_ ah
        exact bU ny λw2 bp=>(by (rw[cy (λh:hI x=>by have:=h.2.2;omega)];rfl))
       ·refine bA u4 aad (ae aU (ae aU (ae bb (ae (aV.n0 U U U U bG) (ae bb (ae aU aP)))))) (cG (lA U U ay) (cG (lB U U U U cC) aQ)) ?_ ah
        exact bU k0 λw2 bp=>(by (rw[cy (λh:hI x=>by have:=h.2.2;omega)];rfl))
      ·refine bA wv aae (ae aU (ae aU (ae bb (ae (aV.n0 U U U U bG) (ae aU aP))))) (cG (lA U U ay) (cG (lB U U U U cC) aQ)) ?_ ah
       exact bU qq λw2 bp=>(by (rw[cy (λh:hI x=>by have:=h.2.2;omega)];rfl))
    ·refine bA Aq aaf (ae aU (ae aU (ae bb aP))) (cG (Ci U U ay) aQ) ?_ ah
     exact bU yU λw2 bp=>(by (rw[cy (λh:hI x=>absurd h.1 bM)];rfl))
   ·by_cases ay:15<x.2.2.2.2.2.2.1
    ·by_cases bG:po x.1
     ·by_cases cJ:(l9 x).1=([]:fG)
      ·refine bA Ar Hv (ae aU (ae aU (ae aU (ae bb (ae (aV.Bj U U U U cJ) aP))))) (cG (lA U U bG) (cG (lB U U U U cC) aQ)) ?_ ah
       exact bU tR λw2 bp=>(by (rw[cy (λh:hI x=>absurd h.2.1 (by exact not_not_intro bM))];rfl))
      ·by_cases cU:1<=x.2.2.2.2.1
       ·by_cases fR:x.2.2.2.2.1<=16
        ·refine bA Hw aag (ae aU (ae aU (ae aU (ae bb (ae (aV.n0 U U U U cJ) (ae bb (ae bb aP))))))) (cG (lA U U bG) (cG (lB U U U U cC) aQ)) ?_ ah
         exact bU yV λw2 bp=>(by (rw[cy (λh:hI x=>by have:=h.2.2;omega)];rfl))
        ·refine bA Hx aah (ae aU (ae aU (ae aU (ae bb (ae (aV.n0 U U U U cJ) (ae bb (ae aU aP))))))) (cG (lA U U bG) (cG (lB U U U U cC) aQ)) ?_ ah
         exact bU Cj λw2 bp=>(by (rw[cy (λh:hI x=>by have:=h.2.2;omega)];rfl))
       ·refine bA Hy aai (ae aU (ae aU (ae aU (ae bb (ae (aV.n0 U U U U cJ) (ae aU aP)))))) (cG (lA U U bG) (cG (lB U U U U cC) aQ)) ?_ ah
        exact bU tK λw2 bp=>(by (rw[cy (λh:hI x=>by have:=h.2.2;omega)];rfl))
     ·refine bA Hz aaj (ae aU (ae aU (ae aU (ae bb aP)))) (cG (Ci U U bG) aQ) ?_ ah
      exact bU yZ λw2 bp=>(by (rw[cy (λh:hI x=>absurd h.1 bM)];rfl))
    ·by_cases bG:x.2.2.2.2.2.2.2<0
     ·by_cases cJ:po x.1
      ·by_cases cU:(l9 x).1=([]:fG)
       ·refine bA HA aak (ae aU (ae aU (ae aU (ae aU (ae bb (ae (aV.Bj U U U U cU) aP)))))) (cG (lA U U cJ) (cG (lB U U U U cC) aQ)) ?_ ah
        exact bU tS λw2 bp=>(by (rw[cy (λh:hI x=>absurd h.2.1 (by exact not_not_intro bM))];rfl))
       ·by_cases fR:1<=x.2.2.2.2.1
        ·by_cases pv:x.2.2.2.2.1<=16
         ·refine bA HB aal (ae aU (ae aU (ae aU (ae aU (ae bb (ae (aV.n0 U U U U cU) (ae bb (ae bb aP)))))))) (cG (lA U U cJ) (cG (lB U U U U cC) aQ)) ?_ ah
          exact bU rK λw2 bp=>(by (rw[cy (λh:hI x=>by have:=h.2.2;omega)];rfl))
         ·refine bA HC aam (ae aU (ae aU (ae aU (ae aU (ae bb (ae (aV.n0 U U U U cU) (ae bb (ae aU aP)))))))) (cG (lA U U cJ) (cG (lB U U U U cC) aQ)) ?_ ah
          exact bU Cf λw2 bp=>(by (rw[cy (λh:hI x=>by have:=h.2.2;omega)];rfl))
        ·refine bA HD aan (ae aU (ae aU (ae aU (ae aU (ae bb (ae (aV.n0 U U U U cU) (ae aU aP))))))) (cG (lA U U cJ) (cG (lB U U U U cC) aQ)) ?_ ah
         exact bU HE λw2 bp=>(by (rw[cy (λh:hI x=>by have:=h.2.2;omega)];rfl))
      ·refine bA HF aao (ae aU (ae aU (ae aU (ae aU (ae bb aP))))) (cG (Ci U U cJ) aQ) ?_ ah
       exact bU HG λw2 bp=>(by (rw[cy (λh:hI x=>absurd h.1 bM)];rfl))
     ·by_cases cJ:15<x.2.2.2.2.2.2.2
      ·by_cases cU:po x.1
       ·by_cases fR:(l9 x).1=([]:fG)
        ·refine bA HH aap (ae aU (ae aU (ae aU (ae aU (ae aU (ae bb (ae (aV.Bj U U U U fR) aP))))))) (cG (lA U U cU) (cG (lB U U U U cC) aQ)) ?_ ah
         exact bU HI λw2 bp=>(by (rw[cy (λh:hI x=>absurd h.2.1 (by exact not_not_intro bM))];rfl))
        ·by_cases pv:1<=x.2.2.2.2.1
         ·by_cases xN:x.2.2.2.2.1<=16
          ·refine bA HJ aaq (ae aU (ae aU (ae aU (ae aU (ae aU (ae bb (ae (aV.n0 U U U U fR) (ae bb (ae bb aP))))))))) (cG (lA U U cU) (cG (lB U U U U cC) aQ)) ?_ ah
           exact bU Cb λw2 bp=>(by (rw[cy (λh:hI x=>by have:=h.2.2;omega)];rfl))
          ·refine bA aar aas (ae aU (ae aU (ae aU (ae aU (ae aU (ae bb (ae (aV.n0 U U U U fR) (ae bb (ae aU aP))))))))) (cG (lA U U cU) (cG (lB U U U U cC) aQ)) ?_ ah
           exact bU Hj λw2 bp=>(by (rw[cy (λh:hI x=>by have:=h.2.2;omega)];rfl))
         ·refine bA aat aau (ae aU (ae aU (ae aU (ae aU (ae aU (ae bb (ae (aV.n0 U U U U fR) (ae aU aP)))))))) (cG (lA U U cU) (cG (lB U U U U cC) aQ)) ?_ ah
          exact bU RI λw2 bp=>(by (rw[cy (λh:hI x=>by have:=h.2.2;omega)];rfl))
       ·refine bA aav aaw (ae aU (ae aU (ae aU (ae aU (ae aU (ae bb aP)))))) (cG (Ci U U cU) aQ) ?_ ah
        exact bU akU λw2 bp=>(by (rw[cy (λh:hI x=>absurd h.1 bM)];rfl))
      ·by_cases cU:po x.1
       ·by_cases fR:(l9 x).1=([]:fG)
        ·refine bA aax aay (ae aU (ae aU (ae aU (ae aU (ae aU (ae aU (ae (aV.Bj U U U U fR) aP))))))) (cG (lA U U cU) (cG (lB U U U U cC) aQ)) ?_ ah
         exact bU RJ λw2 bp=>(by (rw[cy (λh:hI x=>absurd h.2.1 (by exact not_not_intro bM))];rfl))
        ·by_cases pv:1<=x.2.2.2.2.1
         ·by_cases xN:x.2.2.2.2.1<=16
          ·refine bA aaz aaA (ae aU (ae aU (ae aU (ae aU (ae aU (ae aU (ae (aV.n0 U U U U fR) (ae bb (ae bb aP))))))))) (cG (lA U U cU) (cG (lB U U U U cC) aQ)) ?_ ah
           exact bU HK λw2 bp=>(by (rw[eC (show hI x from ⟨bM,bM,aj,aj,aj,aj,aj,aj,aj,aj⟩)];rfl))
          ·refine bA aaB aaC (ae aU (ae aU (ae aU (ae aU (ae aU (ae aU (ae (aV.n0 U U U U fR) (ae bb (ae aU aP))))))))) (cG (lA U U cU) (cG (lB U U U U cC) aQ)) ?_ ah
           exact bU Cc λw2 bp=>(by (rw[cy (λh:hI x=>by have:=h.2.2;omega)];rfl))
         ·refine bA aaD aaE (ae aU (ae aU (ae aU (ae aU (ae aU (ae aU (ae (aV.n0 U U U U fR) (ae aU aP)))))))) (cG (lA U U cU) (cG (lB U U U U cC) aQ)) ?_ ah
          exact bU RK λw2 bp=>(by (rw[cy (λh:hI x=>by have:=h.2.2;omega)];rfl))
       ·refine bA aaF aaG (ae aU (ae aU (ae aU (ae aU (ae aU (ae aU aP)))))) (cG (Ci U U cU) aQ) ?_ ah
        exact bU akV λw2 bp=>(by (rw[cy (λh:hI x=>absurd h.1 bM)];rfl))
end RH
end AE
namespace AE
variable [a7]
theorem aaH {x:J} {m:cW} (hp:dM [x]=true) (br:ep [x]=[M.val m]) (cC:mJ a7.dn) (h:hI m):jb Tryd.prog (70,[x],.bool true):=
 kR (a:= #[M.val m]) hp rfl br rfl λw hw=>(RH.any w m (cC.mono hw)).mono λe w' ga=>by rw[eC h] at ga;exact ga
theorem akW {x:J} {m:cW} (hp:dM [x]=true) (br:ep [x]=[M.val m]) (cC:mJ a7.dn) (h:¬hI m):jb Tryd.prog (70,[x],.bool false):=
 kR (a:= #[M.val m]) hp rfl br rfl λw hw=>(RH.any w m (cC.mono hw)).mono λe w' ga=>by rw[cy h] at ga;exact ga
end AE
namespace AE
namespace aaI
noncomputable def body:Code:=(Tryd.f49.body).getD .skip
def N:Nat:=42
noncomputable abbrev bC:=fm Tryd.prog Tryd.f49
def aO:b8:={sl:=b3 [(0,0)],ms:=[],A:=start}
def bP:bj:=[(.ea (.bool true),.bool true),
 (.len #[29] 3 0,1),
 (.bin .gtr 3 1 (I 256),.bool true)]
theorem e0:bC (at' 42 bP [] body aO)=some (.tuple ⟨[I (-1),I 2]⟩):=au
def cd:bj:=[(.ea (.bool true),.bool true),
 (.len #[29] 3 0,1),
 (.bin .gtr 3 1 (I 256),.bool false),
 (.bin .eql 3 1 (I 0),.bool true)]
theorem e1:bC (at' 42 cd [] body aO)=some (.tuple ⟨[I (-1),I 1]⟩):=au
def dk:bj:=[(.ea (.bool true),.bool true),
 (.len #[29] 3 0,1),
 (.bin .gtr 3 1 (I 256),.bool false),
 (.bin .eql 3 1 (I 0),.bool false),
 (.dB 29 0 (I 0),2),
 (.bB 70 2,.agg ⟨[3,4,5,6,7,8,9,10]⟩),
 (.bin .neq 70 (.agg ⟨[3,4,5,6,7,8,9,10]⟩) (.agg ⟨[cD [97,105,114],.bool false,.bool false,.bool false,I 1,I 0,I 0,I 0]⟩),.bool false)]
theorem e2:OC (at' 42 dk [] body aO)=some 120:=au
abbrev gA:=at' 42 dk [] body aO
def dF:List bx:=[]
def hd0:aF:=b3 [(3,I 0),(2,I 0),(0,0)]
def hp0:aF:=fa 42 hd0 21 11
theorem e3:cr (b9 gA) hd0 dF=some [(0,0)]:=au
def dV:dU:=(body,[1,1,0],1)
def ei:bj:=[(.ea (.bool true),.bool true),
 (.len #[29] 3 0,1)]
def eS:List bx:=[]
def eT:aF:=b3 [(24,12),(23,1),(22,0),(4,11)]
abbrev hR:=cK 42 ei [] dV {sl:=hp0,ms:=[],A:=da dF}
theorem mF:p3 eT eS hR=some [(1,1),(11,11),(I 0,12),(0,0)]:=au
def fb:Code:=tj body [1,1,1,0,1,4]
def iq:List fl:=oE body [1,1,1,0,1,4] []
theorem e9:pC hR=fb:=au
theorem oe:gC hR=iq:=au
def fJ:bj:=[(.ea (.bool true),.bool true),
 (.bin .lss 3 12 1,.bool true),
 (.dB 29 0 12,13),
 (.bB 70 13,.agg ⟨[14,15,16,17,18,19,20,21]⟩),
 (.mB 120 11 14 false,.bool true)]
def qt:dZ:=[(70,[.agg ⟨[14,15,16,17,18,19,20,21]⟩],.bool true)]
def hH:bj:=[(.ea (.bool true),.bool true)]
theorem ny:bC (nP 42 hH [] iq (at' 42 fJ qt fb (b5 eT eS)))=some (.tuple ⟨[12,I 10]⟩):=au
def lz:bj:=[(.ea (.bool true),.bool true),
 (.bin .lss 3 12 1,.bool true),
 (.dB 29 0 12,13),
 (.bB 70 13,.agg ⟨[14,15,16,17,18,19,20,21]⟩),
 (.mB 120 11 14 false,.bool false)]
def yX:dZ:=[(70,[.agg ⟨[14,15,16,17,18,19,20,21]⟩],.bool true)]
theorem k0:OD (at' 42 lz yX fb (b5 eT eS))=some (120,11,14,.bool true):=au
abbrev jx:=at' 42 lz yX fb (b5 eT eS)
def hy:List bx:=[]
def ht:aF:=b3 [(24,12),(23,1),(22,0),(4,11)]
def hp1:aF:=match g' 42 ht none (.tuple ⟨[]⟩) with|some s=>s|none=> .nil
theorem qq:cr (b9 jx) ht hy=some [(1,1),(11,11),(12,12),(0,0)]:=au
def iA:dU:=(fb,[1,1,0,4,1,1,1],4)
def mQ:bj:=[(.ea (.bool true),.bool true),
 (.bin .add 3 12 (I 1),22)]
theorem tK:qJ eT eS (cK 42 mQ [] iA (b5 hp1 hy))=some [(1,1),(11,11),(22,12),(0,0)]:=au
def pO:bj:=[(.ea (.bool true),.bool true),
 (.bin .lss 3 12 1,.bool true),
 (.dB 29 0 12,13),
 (.bB 70 13,.agg ⟨[14,15,16,17,18,19,20,21]⟩)]
def Ap:dZ:=[(70,[.agg ⟨[14,15,16,17,18,19,20,21]⟩],.bool false)]
theorem yZ:bC (nP 42 hH [] iq (at' 42 pO Ap fb (b5 eT eS)))=some (.tuple ⟨[12,I 1]⟩):=au
def sJ:bj:=[(.ea (.bool true),.bool true),
 (.bin .lss 3 12 1,.bool false)]
theorem tS:bC (nP 42 hH [] iq (at' 42 sJ [] fb (b5 eT eS)))=some (.tuple ⟨[I 0,I 0]⟩):=au
def sK:bj:=[(.ea (.bool true),.bool true),
 (.len #[29] 3 0,1),
 (.bin .gtr 3 1 (I 256),.bool false),
 (.bin .eql 3 1 (I 0),.bool false),
 (.dB 29 0 (I 0),2),
 (.bB 70 2,.agg ⟨[3,4,5,6,7,8,9,10]⟩),
 (.bin .neq 70 (.agg ⟨[3,4,5,6,7,8,9,10]⟩) (.agg ⟨[cD [97,105,114],.bool false,.bool false,.bool false,I 1,I 0,I 0,I 0]⟩),.bool true)]
theorem rK:bC (at' 42 sK [] body aO)=some (.tuple ⟨[I 0,I 1]⟩):=au
@[reducible] noncomputable def bD (l:List cW) (dR:cm) (eg:Nat) (i:Nat:=0) (eI:Nat:=0):List J:=[bu dR l eg,I ((l.length:Nat):Int),hd (bu dR l eg) (0*8),cD (l.ew (0)).1,.bool (l.ew (0)).2.1,.bool (l.ew (0)).2.2.1,.bool (l.ew (0)).2.2.2.1,I (l.ew (0)).2.2.2.2.1,I (l.ew (0)).2.2.2.2.2.1,I (l.ew (0)).2.2.2.2.2.2.1,I (l.ew (0)).2.2.2.2.2.2.2,.map (some eI),I ((i:Nat):Int),hd (bu dR l eg) (i*8),cD (l.ew (i)).1,.bool (l.ew (i)).2.1,.bool (l.ew (i)).2.2.1,.bool (l.ew (i)).2.2.2.1,I (l.ew (i)).2.2.2.2.1,I (l.ew (i)).2.2.2.2.2.1,I (l.ew (i)).2.2.2.2.2.2.1,I (l.ew (i)).2.2.2.2.2.2.2,I ((i+1:Nat):Int)]
theorem any (W:ax) {h_:J} {l:List cW} (hl:cE (aE W) 8 jF h_ l) (cC:mJ (aE W)):Calls Tryd.prog 49 #[h_] W λe w'=>e= .returned (.tuple #[I (mR l).1,I (mR l).2])/\cj W.heap.size W w':=by
 obtain⟨dR,eg,rfl⟩:=hl.slice;refine jI (bD l dR eg) body aO N [ak 0] Tryd.func49 λa ah=> ?_
 letI:=b6 ah;by_cases aL:256<((l.length:Nat):Int)
 ·refine bA bP [] (ae (aV.ea U U) (ae (eM hl lY) (ae bb aP))) aQ ?_ ah
  exact bU e0 λw2 bp=>(by refine congrArg Ending.returned ?_;(rw[akG aj];rfl))
 ·by_cases ad:((l.length:Nat):Int)=0
  ·refine bA cd [] (ae (aV.ea U U) (ae (eM hl lY) (ae aU (ae bb aP)))) aQ ?_ ah
   exact bU e1 λw2 bp=>(by refine congrArg Ending.returned ?_;(rw[akH aj aj];rfl))
  ·by_cases ag:(l.ew (0))=((([97,105,114]:fG),false,false,false,1,0,0,0):cW)
   ·refine bA dk [] (ae (aV.ea U U) (ae (eM hl lY) (ae aU (ae aU (ae (z' hl (show 0<l.length by omega) lY qL) (ae (aV.sd hl (lO 0) U U Bk qL U U U) (ae (Wj U U U U (by rw[eC ag];rfl)) aP))))))) aQ ?_ ah
    obtain⟨cu,e4⟩:=h3 ([]);refine af4 (bm:=λf'=>(bD l dR eg 0 f')) e4 e2 e3 (et hp0 11) rfl (λ_ f'=>fw) (λ_ _=>rfl) ?_;intro j2 eI lP jw dA w ah;have u1:=jw.up (λi h=>by cases h) (ch _) (λ_ _ h=>h);letI:=b6 ah;refine dP (dQ dV) ei [] (ae (aV.ea U U) (ae (eM (hl.mono u1) lY) aP)) aQ ?_ ah;refine tp (gq:=(λ(⟨M,b,i⟩:Mem×List fG×Nat)=>aX M (bD l dR eg i eI))) (λ(⟨M,b,i⟩:Mem×List fG×Nat)=>uJ W.heap.size M (.map (some eI)) b/\(∀i o,aE W i=some o->M i=some o)/\b=Ch l i/\i<=l.length/\∀j,j<i->¬yY l j) (λ(⟨M,b,i⟩:Mem×List fG×Nat)=>l.length-i) ⟨j2,cu,0⟩ mF fw (λ_ _ h=>h) (by exact⟨lP,u1,e4,Nat.zero_le _,λj h=>absurd h (Nat.not_lt_zero _)⟩) ?_;intro⟨M,b,i⟩ bh dA w ah;letI:=b6 ah;refine tk e9 oe ?_;have cO:=bh.1;have bw:=bh.2.1;by_cases kC:((i:Nat):Int)<((l.length:Nat):Int)
    ·by_cases q1:hI (l.ew (i))
     ·by_cases aH:(l.ew (i)).1∈b
      ·refine bA fJ qt (ae (aV.ea U U) (ae bb (ae (nr (hl.mono bw) lY qL) (ae (aV.sd (hl.mono bw) (lO i) U U Bk qL U U U) (ae (aV.af2 U U RD RE RF cO U U aH) aP))))) (cG (aaH U U (by exact cC.mono bM) q1) aQ) ?_ ah
       refine od hH [] (ae (aV.ea U U) aP) aQ ?_;exact bU ny λw2 bp=>(by refine congrArg Ending.returned ?_;(rw[akK (i:=i) aj aj bM aj bh.2.2.2.2 bM (by rw[<-bh.2.2.1];assumption)];rfl))
      ·refine bA lz yX (ae (aV.ea U U) (ae bb (ae (nr (hl.mono bw) lY qL) (ae (aV.sd (hl.mono bw) (lO i) U U Bk qL U U U) (ae (aV.af3 U U RD RE akO RF cO U U aH) aP))))) (cG (aaH U U (by exact cC.mono bM) q1) aQ) ?_ ah
       obtain⟨kk,mc⟩:=h3 (b++[(l.ew (i)).1]);refine af5 (u:= .map (some eI)) (n:=(l.ew (i)).1) (ns:=b) (ns':=kk) (bm:=(bD l dR eg i eI)) mc k0 RD RE RF qq (et hp1 (.tuple ⟨[]⟩)) U U U U cO bM (λ_=>fw) ?_;intro nj FO mv dA w ah;have akX:=mv.up (λi h=>(cO.known i h).2) (ch _) bw;letI:=b6 ah;refine dP (dQ iA) mQ [] (ae (aV.ea U U) (ae kt aP)) aQ ?_ ah;exact tD ⟨nj,kk,i+1⟩ tK fw (by exact⟨FO,akX,by rw[mc,bh.2.2.1,akN aj],aj,λj hj=>by rcases Nat.lt_succ_iff_lt_or_eq.1 hj with h|rfl;exact bh.2.2.2.2 j h;exact akM bM (by rw[<-bh.2.2.1];assumption)⟩)
     ·refine bA pO Ap (ae (aV.ea U U) (ae bb (ae (nr (hl.mono bw) lY qL) (ae (aV.sd (hl.mono bw) (lO i) U U Bk qL U U U) aP)))) (cG (akW U U (by exact cC.mono bM) q1) aQ) ?_ ah
      refine od hH [] (ae (aV.ea U U) aP) aQ ?_;exact bU yZ λw2 bp=>(by refine congrArg Ending.returned ?_;(rw[akJ (i:=i) aj aj bM aj bh.2.2.2.2 bM];rfl))
    ·refine bA sJ [] (ae (aV.ea U U) (ae aU aP)) aQ ?_ ah
     refine od hH [] (ae (aV.ea U U) aP) aQ ?_;exact bU tS λw2 bp=>(by refine congrArg Ending.returned ?_;(rw[akL aj aj bM (λj hj=>bh.2.2.2.2 j aj)];rfl))
   ·refine bA sK [] (ae (aV.ea U U) (ae (eM hl lY) (ae aU (ae aU (ae (z' hl (show 0<l.length by omega) lY qL) (ae (aV.sd hl (lO 0) U U Bk qL U U U) (ae (Wj U U U U (by rw[cy ag];rfl)) aP))))))) aQ ?_ ah
    exact bU rK λw2 bp=>(by refine congrArg Ending.returned ?_;(rw[akI aj aj bM];rfl))
end aaI
end AE
namespace AE
section
variable [a7]
theorem HL {x r:J} {u:J} {l:List cW} (hp:dM [x]=true) (ao:aM r=true) (br:ep [x]=[u]) (ca:aJ r= .tuple #[.int .i64 (mR l).1,.int .i64 (mR l).2]) (hl:cE a7.dn 8 jF u l) (cC:mJ a7.dn):jb Tryd.prog (49,[x],r):=
 kR (a:= #[u]) hp ao br ca λw hw=>aaI.any w (hl.mono hw) (cC.mono hw)
theorem RL {x r:J} {b:bQ} {cells:List Int} {a:Option Addr} {n c:Nat} (hp:dM [x]=true) (ao:aM r=true) (br:ep [x]=[mu b (.slice a n c)]) (ca:aJ r= .bool true) (hl:cE a7.dn 1 fQ (.slice a n c) cells) (av:cells.length<=10000000) (iy:n=cells.length) (h:wu b cells):jb Tryd.prog (50,[x],r):=
 kR (a:= #[mu b (.slice a n c)]) hp ao br ca λw hw=>(RB.any w (hl.mono hw) av iy).mono λe w' he=>by rw[eC h] at he;exact he
theorem akY {x r:J} {b:bQ} {cells:List Int} {a:Option Addr} {n c:Nat} (hp:dM [x]=true) (ao:aM r=true) (br:ep [x]=[mu b (.slice a n c)]) (ca:aJ r= .bool false) (hl:cE a7.dn 1 fQ (.slice a n c) cells) (av:cells.length<=10000000) (iy:n=cells.length) (h:¬wu b cells):jb Tryd.prog (50,[x],r):=
 kR (a:= #[mu b (.slice a n c)]) hp ao br ca λw hw=>(RB.any w (hl.mono hw) av iy).mono λe w' he=>by rw[cy h] at he;exact he
end
def Lr (b:bQ) (cells:List Int) (table:List cW) (known:List Bool):Prop:=(mR table).2=0/\wu b cells/\(known.length=0\/known.length=cells.length)
instance (b:bQ) (cells:List Int) (table:List cW) (known:List Bool):Decidable (Lr b cells table known):=by unfold Lr;infer_instance
def y0 (b:bQ) (cells:List Int) (table:List cW) (known:List Bool):Int:=if Lr b cells table known then 0 else 1
theorem aaJ {b:bQ} {cells:List Int} {table:List cW} {known:List Bool} (aL:(mR table).2=0) (ad:wu b cells) (ag:known.length=0\/known.length=cells.length):y0 b cells table known=0:=aY ⟨aL,ad,ag⟩
theorem RM {b:bQ} {cells:List Int} {table:List cW} {known:List Bool} (h:(mR table).2=0->wu b cells->¬(known.length=0\/known.length=cells.length)):y0 b cells table known=1:=a_ λq=>h q.1 q.2.1 q.2.2
end AE
namespace AE
namespace aaK
noncomputable def body:Code:=(Tryd.f30.body).getD .skip
def N:Nat:=34
noncomputable abbrev bC:=fm Tryd.prog Tryd.f30
def aO:b8:={sl:=b3 [(2,1),(1,0),(0,.agg ⟨[2,3,4,5,6,7,8]⟩)],ms:=[],A:=start}
def bP:bj:=[(.bin .neq 35 10 (I 0),.bool false),
 (.len #[30] 3 1,11),
 (.bin .neq 3 11 (I 0),.bool false)]
def j1:dZ:=[(49,[0],.tuple ⟨[9,10]⟩),
 (50,[.agg ⟨[ak 2,ak 3,ak 4,ak 5,ak 6,ak 7,ak 8]⟩],.bool true)]
theorem e0:bC (at' 34 bP j1 body aO)=some (I 0):=au
def cd:bj:=[(.bin .neq 35 10 (I 0),.bool false),
 (.len #[30] 3 1,11),
 (.bin .neq 3 11 (I 0),.bool true),
 (.len #[26] 3 8,12),
 (.bin .neq 3 11 12,.bool false)]
def h':dZ:=[(49,[0],.tuple ⟨[9,10]⟩),
 (50,[.agg ⟨[ak 2,ak 3,ak 4,ak 5,ak 6,ak 7,ak 8]⟩],.bool true)]
theorem e1:bC (at' 34 cd h' body aO)=some (I 0):=au
def dk:bj:=[(.bin .neq 35 10 (I 0),.bool false),
 (.len #[30] 3 1,11),
 (.bin .neq 3 11 (I 0),.bool true),
 (.len #[26] 3 8,12),
 (.bin .neq 3 11 12,.bool true)]
def oL:dZ:=[(49,[0],.tuple ⟨[9,10]⟩),
 (50,[.agg ⟨[ak 2,ak 3,ak 4,ak 5,ak 6,ak 7,ak 8]⟩],.bool true)]
theorem e2:bC (at' 34 dk oL body aO)=some (I 1):=au
def ei:bj:=[(.bin .neq 35 10 (I 0),.bool false)]
def sL:dZ:=[(49,[0],.tuple ⟨[9,10]⟩),
 (50,[.agg ⟨[ak 2,ak 3,ak 4,ak 5,ak 6,ak 7,ak 8]⟩],.bool false)]
theorem e3:bC (at' 34 ei sL body aO)=some (I 1):=au
def fJ:bj:=[(.bin .neq 35 10 (I 0),.bool true)]
def qt:dZ:=[(49,[0],.tuple ⟨[9,10]⟩)]
theorem hD:bC (at' 34 fJ qt body aO)=some (I 1):=au
@[reducible] noncomputable def bD (cells:List Int) (bS:cm) (bL bT:Nat) (table:List cW) (kF:cm) (kG:Nat) (known:List Bool) (dc:cm) (dd:Nat) (b:bQ):List J:=[bu kF table kG,bu dc known dd,I b.1,I b.2.1,I b.2.2.1,I b.2.2.2.1,I b.2.2.2.2.1,I b.2.2.2.2.2,.slice bS bL bT,I (mR table).1,I (mR table).2,I ((known.length:Nat):Int),I ((cells.length:Nat):Int)]
theorem any (W:ax) {b:bQ} {bS:cm} {bL bT:Nat} {cells:List Int} (h0:cE (aE W) 1 fQ (.slice bS bL bT) cells) {oO:J} {table:List cW} (aN:cE (aE W) 8 jF oO table) {oP:J} {known:List Bool} (gX:cE (aE W) 1 il oP known) (cC:mJ (aE W)) (av:cells.length<=10000000) (iy:bL=cells.length):Calls Tryd.prog 30 #[.agg ⟨[I b.1,I b.2.1,I b.2.2.1,I b.2.2.2.1,I b.2.2.2.2.1,I b.2.2.2.2.2,.slice bS bL bT]⟩,oO,oP] W λe w'=>e= .returned (I (y0 b cells table known))/\cj W.heap.size W w':=by
 obtain⟨kF,kG,rfl⟩:=aN.slice;obtain⟨dc,dd,rfl⟩:=gX.slice;refine jI (bD cells bS bL bT table kF kG known dc dd b) body aO N [.agg ⟨[ak 2,ak 3,ak 4,ak 5,ak 6,ak 7,ak 8]⟩,ak 0,ak 1] Tryd.func30 λa ah=> ?_
 letI:=b6 ah;have aI:=bK.o5 W;by_cases aL:(mR table).2=0
 ·by_cases ad:wu b cells
  ·by_cases ag:((known.length:Nat):Int)=0
   ·refine bA bP j1 (ae sD (ae (eM (gX.mono aI.ext) mn) (ae sD aP))) (cG (HL U U U U (aN.mono aI.ext) cC) (cG (RL U U U U h0 av iy ad) aQ)) ?_ ah
    exact bU e0 λw2 bp=>(by (rw[aaJ bM bM aj];rfl))
   ·by_cases ay:((known.length:Nat):Int)=((cells.length:Nat):Int)
    ·refine bA cd h' (ae sD (ae (eM (gX.mono aI.ext) mn) (ae tE (ae (eM (h0.mono aI.ext) iz) (ae sD aP))))) (cG (HL U U U U (aN.mono aI.ext) cC) (cG (RL U U U U h0 av iy ad) aQ)) ?_ ah
     exact bU e1 λw2 bp=>(by (rw[aaJ bM bM aj];rfl))
    ·refine bA dk oL (ae sD (ae (eM (gX.mono aI.ext) mn) (ae tE (ae (eM (h0.mono aI.ext) iz) (ae tE aP))))) (cG (HL U U U U (aN.mono aI.ext) cC) (cG (RL U U U U h0 av iy ad) aQ)) ?_ ah
     exact bU e2 λw2 bp=>(by (rw[RM (λq1 aH=>by omega)];rfl))
  ·refine bA ei sL (ae sD aP) (cG (HL U U U U (aN.mono aI.ext) cC) (cG (akY U U U U h0 av iy ad) aQ)) ?_ ah
   exact bU e3 λw2 bp=>(by (rw[RM (λq1 aH=>by exact absurd aH bM)];rfl))
 ·refine bA fJ qt (ae tE aP) (cG (HL U U U U (aN.mono aI.ext) cC) aQ) ?_ ah
  exact bU hD λw2 bp=>(by (rw[RM (λq1 aH=>by omega)];rfl))
end aaK
end AE
namespace AE
namespace aaL
noncomputable def body:Code:=(Tryd.f57.body).getD .skip
def N:Nat:=13
def aO:b8:={sl:=b3 [(1,1),(0,0)],ms:=[],A:=start}
def bP:bj:=[(.dN 0,0),
 (.cq 78 0 0,0),
 (.bB 26 0,2)]
theorem e0:p4 26 (at' 13 bP [] body aO)=some (2,1):=au
abbrev gA:=at' 13 bP [] body aO
def dF:List bx:=[]
def hd0:aF:=b3 [(4,0)]
def hp0:aF:=fa 13 hd0 10 26
theorem e1:cr (b9 gA) hd0 dF=some [(0,0)]:=au
def dV:dU:=(body,[],7)
def cd:bj:=[(.dN 0,0),
 (.cq 78 0 0,0)]
theorem h4:nJ (cK 13 cd [] dV (b5 hp0 dF))=some (26,0,26):=au
abbrev jx:=cK 13 cd [] dV {sl:=hp0,ms:=[],A:=da dF}
def hy:List bx:=[]
def ht:aF:=b3 []
def hp1:aF:=match g' 13 ht none (.tuple ⟨[]⟩) with|some s=>s|none=> .nil
theorem jO:cr (b9 jx) ht hy=some []:=au
def iA:dU:=(body,[],10)
theorem k0:fm Tryd.prog Tryd.f57 (cK 13 [] [] iA (b5 hp1 hy))=some (.tuple ⟨[]⟩):=au
@[reducible] noncomputable def bD (bz:List Nat) (jU:cm) (jV:Nat) (x:List Nat) (jy:cm) (jz ck:Nat) (xa:Nat->J) (aZ:J) (cu:List Nat:=[]) (a0:cm:=none) (dE:Nat:=0):List J:=[dh ck 22,bu jy x jz,bu jU bz jV,xa 0,xa 1,xa 2,xa 3,xa 4,xa 5,xa 6,xa 7,xa 8,xa 9,xa 10,xa 11,xa 12,xa 13,xa 14,xa 15,xa 16,xa 17,xa 18,xa 19,xa 20,xa 21,aZ,bu a0 cu dE]
theorem any (W:ax) {bz:List Nat} {jU:cm} {jV:Nat} {x:List Nat} {jy:cm} {jz ck:Nat} {xa:Nat->J} {aZ:J} (jA:cH (aE W) [yO jU bz jV,p7 1 qd (bu jy x jz) x,dW ck 80 [xa 0,xa 1,xa 2,xa 3,xa 4,xa 5,xa 6,xa 7,xa 8,xa 9,xa 10,xa 11,xa 12,xa 13,xa 14,xa 15,xa 16,xa 17,xa 18,xa 19,xa 20,xa 21,bu jU bz jV,aZ]]) (hlen:bz.length+x.length<=500000):Calls Tryd.prog 57 #[dh ck 22,bu jy x jz] W λe w'=>(∃y:cm×Nat,e= .returned (.tuple #[])/\cZ (aE W) [yO jU bz jV,p7 1 qd (bu jy x jz) x,dW ck 80 [xa 0,xa 1,xa 2,xa 3,xa 4,xa 5,xa 6,xa 7,xa 8,xa 9,xa 10,xa 11,xa 12,xa 13,xa 14,xa 15,xa 16,xa 17,xa 18,xa 19,xa 20,xa 21,bu jU bz jV,aZ]] (aE w') [nK tr 1 qd (.slice y.1 (bz++x).length y.2) (bz++x),p7 1 qd (bu jy x jz) x,dW ck qP (List.set [xa 0,xa 1,xa 2,xa 3,xa 4,xa 5,xa 6,xa 7,xa 8,xa 9,xa 10,xa 11,xa 12,xa 13,xa 14,xa 15,xa 16,xa 17,xa 18,xa 19,xa 20,xa 21,bu jU bz jV,aZ] 22 (.slice y.1 (bz++x).length y.2))])/\cj 0 W w':=by
 refine pN (bD bz jU jV x jy jz ck xa aZ) body aO N [ak 0,ak 1] Tryd.func57 λa ah=> ?_
 letI:=b6 ah;have aI:=bK.start W _ jA;refine bA bP [] (ae jg (ae (ff 26 0 1) (ae (iX 22 2 aI) aP))) aQ ?_ ah;obtain⟨cu,e4⟩:=h3 (bz++x);have fc:cu.length=bz.length+x.length:=by rw[e4];simp
 refine J3 (l:=bz) (lx:=x) (l':=cu) (bm:=λph pj=>(bD bz jU jV x jy jz ck xa aZ cu ph pj)) (T:=(eP (bu jU bz jV))) e4 e0 Kp ahd ahe ahf ahg ahh cw nM ahi e1 (et hp0 26) rfl (J4 U U (aI.iT 0 rfl)) (zG U U λw hw=>((aI.red 1 rfl).arr nM).reads nM hw) (yo (show bz.length+x.length<=1000000 by omega)) (show (bz.length+x.length)*Pq<=140737488355328 by unfold Pq;omega) (λ_ _ _=>fw) (λ_ _ _=>rfl) ?_;intro j2 a0 dE lP jw Hn dA w ah;have dp:=aI.lZ 0 rfl (FN lP jw Hn);replace dp:=dp.wi;letI:=b6 ah;refine dP (dQ dV) cd [] (ae jg (ae (ff 26 0 1) aP)) aQ ?_ ah;refine Ee 22 [xa 0,xa 1,xa 2,xa 3,xa 4,xa 5,xa 6,xa 7,xa 8,xa 9,xa 10,xa 11,xa 12,xa 13,xa 14,xa 15,xa 16,xa 17,xa 18,xa 19,xa 20,xa 21,bu a0 cu dE,aZ] (bD bz jU jV x jy jz ck xa aZ cu a0 dE) h4 jO (et hp1 (.tuple ⟨[]⟩)) (dp.box 2 rfl) ?_;intro nj rq mv dA w ah;have gv:=dp.lZ 2 rfl (vO rq mv);replace gv:=gv.wi;letI:=b6 ah;refine dP (dQ iA) [] [] aP aQ ?_ ah;exact bU k0 λw2 bp=>(by subst_vars;exact⟨(_,_),rfl,(gv.done bp)⟩)
end aaL
namespace RN
noncomputable def body:Code:=(Tryd.f69.body).getD .skip
def N:Nat:=13
def aO:b8:={sl:=b3 [(1,1),(0,0)],ms:=[],A:=start}
def bP:bj:=[(.dN 0,0),
 (.cq 73 0 0,0),
 (.bB 71 0,2)]
theorem e0:p4 71 (at' 13 bP [] body aO)=some (2,1):=au
abbrev gA:=at' 13 bP [] body aO
def dF:List bx:=[]
def hd0:aF:=b3 [(4,0)]
def hp0:aF:=fa 13 hd0 10 26
theorem e1:cr (b9 gA) hd0 dF=some [(0,0)]:=au
def dV:dU:=(body,[],7)
def cd:bj:=[(.dN 0,0),
 (.cq 73 0 0,0)]
theorem h4:nJ (cK 13 cd [] dV (b5 hp0 dF))=some (71,0,26):=au
abbrev jx:=cK 13 cd [] dV {sl:=hp0,ms:=[],A:=da dF}
def hy:List bx:=[]
def ht:aF:=b3 []
def hp1:aF:=match g' 13 ht none (.tuple ⟨[]⟩) with|some s=>s|none=> .nil
theorem jO:cr (b9 jx) ht hy=some []:=au
def iA:dU:=(body,[],10)
theorem k0:fm Tryd.prog Tryd.f69 (cK 13 [] [] iA (b5 hp1 hy))=some (.tuple ⟨[]⟩):=au
@[reducible] noncomputable def bD (cM:List gy) (eX:cm) (eY:Nat) (x:List gy) (jy:cm) (jz ck:Nat) (xa:Nat->J) (aZ:Nat->J) (cu:List gy:=[]) (a0:cm:=none) (dE:Nat:=0):List J:=[dh ck 19,bu jy x jz,bu eX cM eY,xa 0,xa 1,xa 2,xa 3,xa 4,xa 5,xa 6,xa 7,xa 8,xa 9,xa 10,xa 11,xa 12,xa 13,xa 14,xa 15,xa 16,xa 17,xa 18,aZ 0,aZ 1,aZ 2,aZ 3,bu a0 cu dE]
theorem any (W:ax) {cM:List gy} {eX:cm} {eY:Nat} {x:List gy} {jy:cm} {jz ck:Nat} {xa:Nat->J} {aZ:Nat->J} (jA:cH (aE W) [tG eX cM eY,p7 3 ni (bu jy x jz) x,dW ck 80 [xa 0,xa 1,xa 2,xa 3,xa 4,xa 5,xa 6,xa 7,xa 8,xa 9,xa 10,xa 11,xa 12,xa 13,xa 14,xa 15,xa 16,xa 17,xa 18,bu eX cM eY,aZ 0,aZ 1,aZ 2,aZ 3]]) (hlen:cM.length+x.length<=500000):Calls Tryd.prog 69 #[dh ck 19,bu jy x jz] W λe w'=>(∃y:cm×Nat,e= .returned (.tuple #[])/\cZ (aE W) [tG eX cM eY,p7 3 ni (bu jy x jz) x,dW ck 80 [xa 0,xa 1,xa 2,xa 3,xa 4,xa 5,xa 6,xa 7,xa 8,xa 9,xa 10,xa 11,xa 12,xa 13,xa 14,xa 15,xa 16,xa 17,xa 18,bu eX cM eY,aZ 0,aZ 1,aZ 2,aZ 3]] (aE w') [nK rB 3 ni (.slice y.1 (cM++x).length y.2) (cM++x),p7 3 ni (bu jy x jz) x,dW ck qP (List.set [xa 0,xa 1,xa 2,xa 3,xa 4,xa 5,xa 6,xa 7,xa 8,xa 9,xa 10,xa 11,xa 12,xa 13,xa 14,xa 15,xa 16,xa 17,xa 18,bu eX cM eY,aZ 0,aZ 1,aZ 2,aZ 3] 19 (.slice y.1 (cM++x).length y.2))])/\cj 0 W w':=by
 refine pN (bD cM eX eY x jy jz ck xa aZ) body aO N [ak 0,ak 1] Tryd.func69 λa ah=> ?_
 letI:=b6 ah;have aI:=bK.start W _ jA;refine bA bP [] (ae jg (ae (ff 71 0 1) (ae (iX 19 2 aI) aP))) aQ ?_ ah;obtain⟨cu,e4⟩:=h3 (cM++x);have fc:cu.length=cM.length+x.length:=by rw[e4];simp
 refine J3 (l:=cM) (lx:=x) (l':=cu) (bm:=λph pj=>(bD cM eX eY x jy jz ck xa aZ cu ph pj)) (T:=(eP (bu eX cM eY))) e4 e0 BD ahl ahm ahn aho ahp cw vV ahq e1 (et hp0 26) rfl (J4 U U (aI.iT 0 rfl)) (zG U U λw hw=>((aI.red 1 rfl).arr vV).reads vV hw) (yo (show cM.length+x.length<=1000000 by omega)) (show (cM.length+x.length)*Pr<=140737488355328 by unfold Pr;omega) (λ_ _ _=>fw) (λ_ _ _=>rfl) ?_;intro j2 a0 dE lP jw Hn dA w ah;have dp:=aI.lZ 0 rfl (FN lP jw Hn);replace dp:=dp.wi;letI:=b6 ah;refine dP (dQ dV) cd [] (ae jg (ae (ff 71 0 1) aP)) aQ ?_ ah;refine Ee 19 [xa 0,xa 1,xa 2,xa 3,xa 4,xa 5,xa 6,xa 7,xa 8,xa 9,xa 10,xa 11,xa 12,xa 13,xa 14,xa 15,xa 16,xa 17,xa 18,bu a0 cu dE,aZ 0,aZ 1,aZ 2,aZ 3] (bD cM eX eY x jy jz ck xa aZ cu a0 dE) h4 jO (et hp1 (.tuple ⟨[]⟩)) (dp.box 2 rfl) ?_;intro nj rq mv dA w ah;have gv:=dp.lZ 2 rfl (vO rq mv);replace gv:=gv.wi;letI:=b6 ah;refine dP (dQ iA) [] [] aP aQ ?_ ah;exact bU k0 λw2 bp=>(by subst_vars;exact⟨(_,_),rfl,(gv.done bp)⟩)
end RN
end AE
namespace AE
namespace RO
noncomputable def body:Code:=(Tryd.f35.body).getD .skip
def N:Nat:=24
def aO:b8:={sl:=b3 [(1,1),(0,0)],ms:=[],A:=start}
def bP:bj:=[(.dN 0,0),
 (.cq 80 0 11,26),
 (.bB 30 26,3),
 (.dB 30 3 1,27),
 (.bB 4 27,28),
 (.un .not 28,.bool false)]
theorem e0:fm Tryd.prog Tryd.f35 (at' 24 bP [] body aO)=some (.tuple ⟨[]⟩):=au
def cd:bj:=[(.dN 0,0),
 (.cq 80 0 11,26),
 (.bB 30 26,3),
 (.dB 30 3 1,27),
 (.bB 4 27,28),
 (.un .not 28,.bool true)]
theorem e1:nJ (at' 24 cd [] body aO)=some (4,27,(.bool true)):=au
abbrev gA:=at' 24 cd [] body aO
def dF:List bx:=[]
def hd0:aF:=b3 [(1,1),(0,0)]
def hp0:aF:=match g' 24 hd0 none (.tuple ⟨[]⟩) with|some s=>s|none=> .nil
theorem e2:cr (b9 gA) hd0 dF=some [(0,0),(1,1)]:=au
def dV:dU:=(body,[1,2,0],7)
def dk:bj:=[(.dN 0,0),
 (.cq 80 0 10,29)]
abbrev jx:=cK 24 dk [] dV {sl:=hp0,ms:=[],A:=da dF}
def hy:List bx:=[]
def ht:aF:=b3 [(20,29)]
def hp1:aF:=(bY.set 30 depth ht 22).getD .nil
theorem jO:sn jx 0 22=some ([1],1,1):=au
theorem mF:cr (b9 jx) ht hy=some [(29,29)]:=au
theorem e9:bY.set 30 depth ht 22=some hp1:=au
theorem oe:hb ((lp (b5 hp1 hy) jx))=some (57,[29,30]):=au
abbrev pk:=(lp {sl:=hp1,ms:=[],A:=da hy} jx)
def kh:List bx:=[]
def k1:aF:=b3 []
def hp2:aF:=fa 24 k1 23 (.tuple ⟨[]⟩)
theorem qq:cr (kS Tryd.prog pk) k1 kh=some []:=au
def jf:dU:=(body,[1,2,1],6)
theorem tK:fm Tryd.prog Tryd.f35 (cK 24 [] [] jf (b5 hp2 kh))=some (.tuple ⟨[]⟩):=au
@[reducible] noncomputable def bD (bz:List Nat) (jU:cm) (jV:Nat) (waits:List Bool) (rM:cm) (rN rO ck:Nat) (xa:Nat->J) (k:Nat) (g1:Nat:=0) (HM:List Nat:=[]) (j3:cm:=none) (j4:Nat:=0):List J:=[dh ck 0,I ((k:Nat):Int),bu jU bz jV,.slice rM rN rO,xa 0,xa 1,xa 2,xa 3,xa 4,xa 5,xa 6,xa 7,xa 8,xa 9,xa 10,xa 11,xa 12,xa 13,xa 14,xa 15,xa 16,xa 17,xa 18,xa 19,xa 20,xa 21,dh ck 23,hd (.slice rM rN rO) (k*1),.bool (waits.ew (k)),dh ck 22,.slice (some ⟨g1,0,none⟩) 1 1,bu j3 HM j4]
theorem any (W:ax) {bz:List Nat} {jU:cm} {jV:Nat} {waits:List Bool} {rM:cm} {rN rO ck:Nat} {xa:Nat->J} (jA:cH (aE W) [yO jU bz jV,oJ rM rN rO waits,dW ck 80 [xa 0,xa 1,xa 2,xa 3,xa 4,xa 5,xa 6,xa 7,xa 8,xa 9,xa 10,xa 11,xa 12,xa 13,xa 14,xa 15,xa 16,xa 17,xa 18,xa 19,xa 20,xa 21,bu jU bz jV,.slice rM rN rO]]) (k:Nat) (al:k<waits.length) (hlen:bz.length<=400000):Calls Tryd.prog 35 #[dh ck 0,I ((k:Nat):Int)] W λe w'=>(∃y:cm×Nat,e= .returned (.tuple #[])/\cZ (aE W) [yO jU bz jV,oJ rM rN rO waits,dW ck 80 [xa 0,xa 1,xa 2,xa 3,xa 4,xa 5,xa 6,xa 7,xa 8,xa 9,xa 10,xa 11,xa 12,xa 13,xa 14,xa 15,xa 16,xa 17,xa 18,xa 19,xa 20,xa 21,bu jU bz jV,.slice rM rN rO]] (aE w') [nK tr 1 qd (.slice y.1 (mN bz waits k).length y.2) (mN bz waits k),hr n9 1 il (.slice rM rN rO) (nN waits k),dW ck qP (List.set [xa 0,xa 1,xa 2,xa 3,xa 4,xa 5,xa 6,xa 7,xa 8,xa 9,xa 10,xa 11,xa 12,xa 13,xa 14,xa 15,xa 16,xa 17,xa 18,xa 19,xa 20,xa 21,bu jU bz jV,.slice rM rN rO] 22 (.slice y.1 (mN bz waits k).length y.2))])/\cj 0 W w':=by
 refine pN (bD bz jU jV waits rM rN rO ck xa k) body aO N [ak 0,ak 1] Tryd.func35 λa ah=> ?_
 letI:=b6 ah;have aI:=bK.start W _ jA;by_cases aL:(waits.ew (k))=true
 ·refine bA bP [] (ae jg (ae (ff 30 23 1) (ae (iX 23 2 aI) (ae (nr ((aI.arr 1 rfl).arr kq) mn BB) (ae (qm 0 ((aI.arr 1 rfl).arr kq) (lO k) JI) (ae (afQ U U aL) aP)))))) aQ ?_ ah
  exact bU e0 λw2 bp=>(by (rw[Xt bM,Xv bM];exact⟨(_,_),rfl,((aI.pick [0,1,2] rfl).done bp)⟩))
 ·refine bA cd [] (ae jg (ae (ff 30 23 1) (ae (iX 23 2 aI) (ae (nr ((aI.arr 1 rfl).arr kq) mn BB) (ae (qm 0 ((aI.arr 1 rfl).arr kq) (lO k) JI) (ae (afR U U aL) aP)))))) aQ ?_ ah
  obtain⟨RP,e4⟩:=h3 (waits.set k true);have fc:RP.length=waits.length:=by rw[e4];exact List.length_set
  refine QW 0 (bD bz jU jV waits rM rN rO ck xa k) e4 e1 kq e2 (et hp0 (.tuple ⟨[]⟩)) (aI.arr 1 rfl) (show k<waits.length by omega) ?_;intro j2 lP jw dA w ah;have dp:=aI.lZ 1 rfl (Bu lP jw);replace dp:=dp.wi;letI:=b6 ah;refine dP (dQ dV) dk [] (ae jg (ae (ff 78 22 1) aP)) aQ ?_ ah;refine uM (enc:=qd) (xs:=[k]) (q:=30) (bm:=λf'=>(bD bz jU jV waits rM rN rO ck xa k f')) jO nM rfl cw cw U U (gI rfl) mF (λ_ _=>fw) e9 (λ_=>rfl) ?_;intro nj g1 qB rb Ck mv hJ;have gv:=dp.new (sq qB Ck mv hJ);letI:=b6 ah;obtain⟨HM,akZ⟩:=h3 (bz++[k]);refine hG (Y:=dX) (bm:=λaW=>(bD bz jU jV waits rM rN rO ck xa k g1 HM aW.1 aW.2)) gv [0,3,2] (λaW=>[xq _ _ _ aW.1 HM aW.2,_,dW _ _ [_,_,_,_,_,_,_,_,_,_,_,_,_,_,_,_,_,_,_,_,_,_,bu aW.1 HM aW.2,_]]) (λ_=>[]) oe qq (et hp2 (.tuple ⟨[]⟩)) (fC:=λw hw cX aw=>by rw[akZ];exact aaL.any (x:=[k]) (xa:=mM [xa 0,xa 1,xa 2,xa 3,xa 4,xa 5,xa 6,xa 7,xa 8,xa 9,xa 10,xa 11,xa 12,xa 13,xa 14,xa 15,xa 16,xa 17,xa 18,xa 19,xa 20,xa 21,bu jU bz jV,.slice rM rN rO] 0) (aZ:=mM [xa 0,xa 1,xa 2,xa 3,xa 4,xa 5,xa 6,xa 7,xa 8,xa 9,xa 10,xa 11,xa 12,xa 13,xa 14,xa 15,xa 16,xa 17,xa 18,xa 19,xa 20,xa 21,bu jU bz jV,.slice rM rN rO] 23 0) _ aw (by simp only [List.length_cons,List.length_nil];omega)) (rest:= ?_);intro nk ⟨j3,j4⟩ ic dA w ah;replace ic:=ic.BZ;letI:=b6 ah;refine dP (dQ jf) [] [] aP aQ ?_ ah;exact bU tK λw2 bp=>(by (subst_vars;rw[Xu bM,Xw bM];exact⟨(_,_),rfl,((ic.pick [0,1,2] rfl).done bp)⟩))
end RO
end AE
namespace AE
section
variable [a7]
theorem Ls {x y z r:J} {b:bQ} {cells:List Int} {table:List cW} {known:List Bool} {a:Option Addr} {n c:Nat} {u v:J} (hp:dM [x,y,z]=true) (ao:aM r=true) (br:ep [x,y,z]=[mu b (.slice a n c),u,v]) (ca:aJ r= .int .i64 (y0 b cells table known))
  (ar:cE a7.dn 1 fQ (.slice a n c) cells) (aN:cE a7.dn 8 jF u table) (al:cE a7.dn 1 il v known) (cC:mJ a7.dn) (av:cells.length<=10000000) (iy:n=cells.length):jb Tryd.prog (30,[x,y,z],r):=
 kR (a:= #[mu b (.slice a n c),u,v]) hp ao br ca λw hw=>aaK.any w (ar.mono hw) (aN.mono hw) (al.mono hw) (cC.mono hw) av iy
end
theorem ak0 (w:ax) {jy:Option Addr} {jz:Nat} (jA:cH (aE w) [p7 1 il (.slice jy [true].length jz) [true]]) (n:Nat) (av:n<=100000):
  Calls Tryd.prog 34 #[.slice jy [true].length jz,.int .i64 ((n:Nat):Int)] w λe w'=>(∃y:Option Addr×Nat,e= .returned (.slice y.1 (List.replicate n true).length y.2)/\cZ (aE w) [p7 1 il (.slice jy [true].length jz) [true]] (aE w') [p7 1 il (.slice jy [true].length jz) [true],hr n9 1 il (.slice y.1 (List.replicate n true).length y.2) (List.replicate n true)])/\cj 0 w w':=by
 have h:=Z1.any w jA n rfl av;rw[mz];exact h
theorem aaM (n:Nat):jT n 0=List.replicate n vW:=by
 unfold jT;rfl
theorem aaN {n k:Nat} {g:List Nat} {w:List Bool} (al:k<n) (aA:g=List.range k) (hw:w=jT n k):mN g w k=List.range (k+1)/\nN w k=jT n (k+1):=by
 subst aA hw;have h:(jT n k).getD k default=false:=by
  unfold jT;rw[dq,List.getElem?_append_right (by simp),mz,Nat.sub_self,List.getElem?_replicate,aY aj];rfl
 unfold mN nN;rw[h];refine⟨?_,?_⟩
 ·show List.range k++[k]=_
  rw[List.range_succ]
 ·show (jT n k).set k true=_
  unfold jT;rw[List.set_append_right _ _ (by simp),mz,Nat.sub_self];obtain⟨m,hm⟩:∃m,n-k=m+1:=⟨n-k-1,aj⟩;rw[hm,show n-(k+1)=m by omega,List.replicate_succ,List.set_cons_zero,List.replicate_succ',List.append_assoc];rfl
def wx (known:List Bool) (n:Nat):List Bool:=if known.length=0 then List.replicate n true else known
theorem ak1 {known:List Bool} {n:Nat} (h:known.length=0):wx known n=List.replicate n true:=aY h
theorem ak2 {known:List Bool} {n:Nat} (h:known.length≠0):wx known n=known:=a_ h
def pq (b:bQ) (cells:List Int) (table:List cW) (known:List Bool) (most:Int):Prop:=y0 b cells table known=0/\1<=most/\most<=65536
instance (b:bQ) (cells:List Int) (table:List cW) (known:List Bool) (most:Int):Decidable (pq b cells table known most):=by unfold pq;infer_instance
end AE
namespace AE
theorem cZ.RQ {M M':Mem} {L n5 L':List cb} (aw:cH M L) (is:List Nat) (ik:j6 L.length is=true) (hp:AE.pick L is=n5) (hl:L'.length=is.length) (t:cZ M n5 M' L'):cZ M L M' (lI L is L'):=by
 have:=cZ.lift (N:=[]) aw is ik hp hl (by rw[List.append_nil];exact t)
 rwa [List.append_nil] at this
theorem aaO (W:ax) {g:Nat} {A:dJ} {e:cx} (h:cH (aE W) [dj g A e]) (aA:gu e.table e.b e.u):
  Calls Tryd.prog 36 #[dx g] W λx w'=>(∃a':dJ,x= .returned (.bool (gS e.table e.b e.u).1)/\cZ (aE W) [dj g A e] (aE w') [dj g a' (xy e)])/\cj 0 W w':=by
 refine(ZS.any h.B7 aA).mono λx w' aq=> ?_
 obtain⟨⟨a',rfl,t⟩,hl⟩:=aq;exact⟨⟨a',rfl,t.packed⟩,hl⟩
structure tT (en e:cx) (d:Nat):Prop where
 eq:e={en with u:=nx en.table en.b d en.u}
 all:∀m,m<d->(gS en.table en.b (nx en.table en.b m en.u)).1=true
 ew:gu e.table e.b e.u
 le:d+hP en.b e.u<=hP en.b en.u
theorem tT.zero {en:cx} (h:gu en.table en.b en.u):tT en en 0:=⟨rfl,λm hm=>absurd hm (Nat.not_lt_zero m),h,aj⟩
theorem tT.next {en e e':cx} {d:Nat} (h:tT en e d) (he:e'=xy e) (hu:(gS e.table e.b e.u).1=true):tT en e' (d+1)/\hP en.b e'.u<hP en.b e.u:=by
 subst he;obtain⟨ak3,n2⟩:=h.ew.unit hu;have hle:=h.le;have bf:=h.eq;subst bf;obtain⟨wO,m2⟩:=aj0 rfl h.all hu;have ak4:hP en.b (gS en.table en.b (nx en.table en.b d en.u)).2+1<=hP en.b (nx en.table en.b d en.u):=n2;have aph:d+hP en.b (nx en.table en.b d en.u)<=hP en.b en.u:=hle;have ak5:d+1+hP en.b (gS en.table en.b (nx en.table en.b d en.u)).2<=hP en.b en.u:=by omega
 exact⟨⟨congrArg (λu=>({en with u:=u}:cx)) wO,m2,ak3,ak5⟩,ak4⟩
theorem tT.last {en e e':cx} {d f:Nat} (h:tT en e d) (he:e'=xy e) (hu:¬(gS e.table e.b e.u).1=true) (aR:d<=f):i' en.table en.b f en.u=(d,e'.u)/\e'={en with u:=e'.u}:=by
 have di:(gS e.table e.b e.u).1=false:=by simpa using hu
 have jZ:=(h.ew.done di).1;have bf:=h.eq;subst he bf;have jE:=Q6 d f en.u aR h.all (.inr di);refine⟨?_,rfl⟩;rw[jE];exact congrArg (Prod.mk d) jZ.symm
theorem tT.full {en e:cx} {d:Nat} (h:tT en e d):i' en.table en.b d en.u=(d,e.u)/\e={en with u:=e.u}:=by
 have bf:=h.eq;subst bf;exact⟨Q6 d d en.u (ch _) h.all (.inl rfl),rfl⟩
end AE
namespace AE
namespace aaP
noncomputable def body:Code:=(Tryd.f12.body).getD .skip
def N:Nat:=9
def aO:b8:={sl:=b3 [(0,0)],ms:=[],A:=start}
def eS:List bx:=[]
def eT:aF:=b3 [(3,1),(2,I 0),(0,0)]
abbrev hR:=at' 9 [] [] body aO
theorem e0:p3 eT eS hR=some [(0,0),(I 0,1)]:=au
def fb:Code:=tj body [1,1,0,4]
def iq:List fl:=oE body [1,1,0,4] []
theorem e1:pC hR=fb:=au
theorem e2:gC hR=iq:=au
theorem e3:hb (at' 9 [] [] fb (b5 eT eS))=some (36,[0]):=au
abbrev gA:=at' 9 [] [] fb (b5 eT eS)
def dF:List bx:=[]
def hd0:aF:=b3 [(3,1),(2,I 0),(0,0)]
def hp0:aF:=fa 9 hd0 5 2
theorem h4:cr (kS Tryd.prog gA) hd0 dF=some [(0,0),(1,1)]:=au
def dV:dU:=(fb,[0,0],2)
def cd:bj:=[(.ea 2,.bool true),
 (.bin .add 3 1 (I 1),3)]
theorem ny:qJ eT eS (cK 9 cd [] dV (b5 hp0 dF))=some [(0,0),(3,1)]:=au
def dk:bj:=[(.ea 2,.bool false)]
theorem k0:fm Tryd.prog Tryd.f12 (nP 9 [] [] iq (cK 9 dk [] dV (b5 hp0 dF)))=some 1:=au
@[reducible] noncomputable def bD (nz:Nat) (e:cx:=default) (d:Nat:=0):List J:=[dh nz 0,I ((d:Nat):Int),.bool (gS e.table e.b e.u).1,I ((d+1:Nat):Int)]
theorem any (W:ax) {en:cx} {nz:Nat} {Cl:dJ} (jA:cH (aE W) [dj nz Cl en]) (fo:gu en.table en.b en.u) (ao:en.u.reqs.length<=10000):Calls Tryd.prog 12 #[dh nz 0] W λe w'=>(∃A:dJ,e= .returned (I (((i' en.table en.b (hP en.b en.u) en.u).1:Nat):Int))/\cZ (aE W) [dj nz Cl en] (aE w') [dj nz A {en with u:=(i' en.table en.b (hP en.b en.u) en.u).2}])/\cj 0 W w':=by
 refine pN (bD nz) body aO N [ak 0] Tryd.func12 λa ah=> ?_
 letI:=b6 ah;have aI:=bK.start W _ jA;have y1:=fo.Zq ao;refine bA [] [] aP aQ ?_ ah;refine tp (gq:=(λ(⟨M,e,A,d⟩:Mem×cx×dJ×Nat)=>aX M (bD nz e d))) (λ(⟨M,e,A,d⟩:Mem×cx×dJ×Nat)=>bK 0 (aE W) aI.Ip M [dj nz A e]/\(tT en e d)) (λ(⟨M,e,A,d⟩:Mem×cx×dJ×Nat)=>hP en.b e.u) ⟨(aE W),en,Cl,0⟩ e0 fw (λ_ _ h=>h) (by exact⟨(aI.pick [0] rfl),by exact tT.zero fo⟩) ?_;intro⟨M,e,A,d⟩ bh dA w ah;letI:=b6 ah;refine tk e1 e2 ?_;have qZ:=bh.1;have aA:=bh.2.ew;have ak6:=bh.2.le;refine bA [] [] aP aQ ?_ ah;obtain⟨HN,xA⟩:=h3 (xy e);refine hG (Y:=dJ) (bm:=λaW=>(bD nz e d)) qZ [0] (λaW=>[dj nz (aW) HN]) (λ_=>[]) e3 h4 (et hp0 2) (fC:=λw hw cX aw=>by rw[xA];exact aaO _ aw aA) (rest:= ?_);intro j2 RR dp dA w ah;replace dp:=dp.K9;letI:=b6 ah;by_cases kC:(gS e.table e.b e.u).1=true
 ·refine dP (dQ dV) cd [] (ae (DB U U kC) (ae kt aP)) aQ ?_ ah
  exact tD ⟨j2,HN,RR,d+1⟩ ny fw (by exact⟨dp,by exact(bh.2.next xA bM).1⟩) (by exact(bh.2.next xA bM).2)
 ·refine dP (dQ dV) dk [] (ae (Ox U U kC) aP) aQ ?_ ah
  refine od [] [] aP aQ ?_;exact bU k0 λw2 bp=>(by obtain⟨q1,aH⟩:=bh.2.last (f:=hP en.b en.u) xA bM aj;rw[q1,<-aH];exact⟨_,rfl,(dp.done bp)⟩)
end aaP
end AE
namespace AE
namespace aaQ
noncomputable def body:Code:=(Tryd.f10.body).getD .skip
def N:Nat:=19
def aO:b8:={sl:=b3 [(1,1),(0,0)],ms:=[],A:=start}
def eS:List bx:=[]
def eT:aF:=b3 [(6,2),(5,.func (.func 36) ⟨[0]⟩ ⟨[]⟩),(4,I 0),(1,1)]
abbrev hR:=at' 19 [] [] body aO
theorem e0:p3 eT eS hR=some [(1,1),(0,0),(I 0,2)]:=au
def fb:Code:=tj body [1,1,0,4]
def iq:List fl:=oE body [1,1,0,4] []
theorem e1:pC hR=fb:=au
theorem e2:gC hR=iq:=au
def cd:bj:=[(.bin .lss 3 2 1,.bool true)]
theorem e3:hb (at' 19 cd [] fb (b5 eT eS))=some (36,[0]):=au
abbrev gA:=at' 19 cd [] fb (b5 eT eS)
def dF:List bx:=[]
def hd0:aF:=b3 [(12,.bool true),(6,2),(5,.func (.func 36) ⟨[0]⟩ ⟨[]⟩),(4,I 0),(1,1)]
def hp0:aF:=fa 19 hd0 14 3
theorem h4:cr (kS Tryd.prog gA) hd0 dF=some [(1,1),(0,0),(2,2)]:=au
def dV:dU:=(fb,[0,0],6)
def dk:bj:=[(.ea 3,.bool true),
 (.bin .add 3 2 (I 1),4)]
theorem ny:qJ eT eS (cK 19 dk [] dV (b5 hp0 dF))=some [(1,1),(0,0),(4,2)]:=au
def ei:bj:=[(.ea 3,.bool false)]
theorem k0:fm Tryd.prog Tryd.f10 (nP 19 [] [] iq (cK 19 ei [] dV (b5 hp0 dF)))=some 2:=au
def fJ:bj:=[(.bin .lss 3 2 1,.bool false)]
theorem qq:fm Tryd.prog Tryd.f10 (nP 19 [] [] iq (at' 19 fJ [] fb (b5 eT eS)))=some 2:=au
@[reducible] noncomputable def bD (nz:Nat) (n:Int) (e:cx:=default) (d:Nat:=0):List J:=[dh nz 0,I n,I ((d:Nat):Int),.bool (gS e.table e.b e.u).1,I ((d+1:Nat):Int)]
theorem any (W:ax) {en:cx} {nz:Nat} {Cl:dJ} (jA:cH (aE W) [dj nz Cl en]) (n:Int) (fo:gu en.table en.b en.u) (ao:en.u.reqs.length<=10000):Calls Tryd.prog 10 #[dh nz 0,I n] W λe w'=>(∃A:dJ,e= .returned (I (((i' en.table en.b n.toNat en.u).1:Nat):Int))/\cZ (aE W) [dj nz Cl en] (aE w') [dj nz A {en with u:=(i' en.table en.b n.toNat en.u).2}])/\cj 0 W w':=by
 refine pN (bD nz n) body aO N [ak 0,ak 1] Tryd.func10 λa ah=> ?_
 letI:=b6 ah;have aI:=bK.start W _ jA;have y1:=fo.Zq ao;refine bA [] [] aP aQ ?_ ah;refine tp (gq:=(λ(⟨M,e,A,d⟩:Mem×cx×dJ×Nat)=>aX M (bD nz n e d))) (λ(⟨M,e,A,d⟩:Mem×cx×dJ×Nat)=>bK 0 (aE W) aI.Ip M [dj nz A e]/\(tT en e d/\d<=n.toNat)) (λ(⟨M,e,A,d⟩:Mem×cx×dJ×Nat)=>hP en.b e.u) ⟨(aE W),en,Cl,0⟩ e0 fw (λ_ _ h=>h) (by exact⟨(aI.pick [0] rfl),by exact⟨tT.zero fo,Nat.zero_le _⟩⟩) ?_;intro⟨M,e,A,d⟩ bh dA w ah;letI:=b6 ah;refine tk e1 e2 ?_;have qZ:=bh.1;have aA:=bh.2.1.ew;have ak6:=bh.2.1.le;have uz:=bh.2.2;by_cases sW:((d:Nat):Int)<n
 ·refine bA cd [] (ae bb aP) aQ ?_ ah
  obtain⟨HN,xA⟩:=h3 (xy e);refine hG (Y:=dJ) (bm:=λaW=>(bD nz n e d)) qZ [0] (λaW=>[dj nz (aW) HN]) (λ_=>[]) e3 h4 (et hp0 3) (fC:=λw hw cX aw=>by rw[xA];exact aaO _ aw aA) (rest:= ?_);intro j2 RR dp dA w ah;replace dp:=dp.K9;letI:=b6 ah;by_cases kC:(gS e.table e.b e.u).1=true
  ·refine dP (dQ dV) dk [] (ae (DB U U kC) (ae kt aP)) aQ ?_ ah
   exact tD ⟨j2,HN,RR,d+1⟩ ny fw (by exact⟨dp,by exact⟨(bh.2.1.next xA bM).1,aj⟩⟩) (by exact(bh.2.1.next xA bM).2)
  ·refine dP (dQ dV) ei [] (ae (Ox U U kC) aP) aQ ?_ ah
   refine od [] [] aP aQ ?_;exact bU k0 λw2 bp=>(by first|(obtain⟨q1,aH⟩:=bh.2.1.full;obtain rfl:d=n.toNat:=aj;rw[q1,<-aH];exact⟨_,rfl,(dp.done bp)⟩)|(obtain⟨q1,aH⟩:=bh.2.1.last (f:=n.toNat) xA bM aj;rw[q1,<-aH];exact⟨_,rfl,(dp.done bp)⟩))
 ·refine bA fJ [] (ae aU aP) aQ ?_ ah
  refine od [] [] aP aQ ?_;exact bU qq λw2 bp=>(by first|(obtain⟨q1,aH⟩:=bh.2.1.full;obtain rfl:d=n.toNat:=aj;rw[q1,<-aH];exact⟨_,rfl,((qZ.pick [0] rfl).done bp)⟩)|(obtain⟨q1,aH⟩:=bh.2.1.last (f:=n.toNat) xA bM aj;rw[q1,<-aH];exact⟨_,rfl,((qZ.pick [0] rfl).done bp)⟩))
end aaQ
end AE
namespace AE
namespace aaR
noncomputable def body:Code:=(Tryd.f11.body).getD .skip
def N:Nat:=19
noncomputable abbrev bC:=fm Tryd.prog Tryd.f11
def aO:b8:={sl:=b3 [(0,0)],ms:=[],A:=start}
def bP:bj:=[(.dN 0,0),
 (.cq 80 0 8,25),
 (.dN 25,25),
 (.cq 76 25 0,25),
 (.bB 74 25,2),
 (.len #[74] 3 2,26),
 (.bin .eql 3 26 (I 0),.bool true),
 (.cq 80 0 10,27),
 (.dN 27,27),
 (.cq 78 27 0,27),
 (.bB 26 27,3),
 (.len #[26] 3 3,28),
 (.bin .eql 3 28 (I 0),.bool true),
 (.cq 80 0 7,29),
 (.dN 29,29),
 (.cq 73 29 0,29),
 (.bB 71 29,1),
 (.len #[71] 3 1,30),
 (.bin .eql 3 30 (I 0),.bool true)]
theorem e0:bC (at' 19 bP [] body aO)=some (.bool true):=au
def cd:bj:=[(.dN 0,0),
 (.cq 80 0 8,25),
 (.dN 25,25),
 (.cq 76 25 0,25),
 (.bB 74 25,2),
 (.len #[74] 3 2,26),
 (.bin .eql 3 26 (I 0),.bool true),
 (.cq 80 0 10,27),
 (.dN 27,27),
 (.cq 78 27 0,27),
 (.bB 26 27,3),
 (.len #[26] 3 3,28),
 (.bin .eql 3 28 (I 0),.bool true),
 (.cq 80 0 7,29),
 (.dN 29,29),
 (.cq 73 29 0,29),
 (.bB 71 29,1),
 (.len #[71] 3 1,30),
 (.bin .eql 3 30 (I 0),.bool false)]
theorem e1:bC (at' 19 cd [] body aO)=some (.bool false):=au
def dk:bj:=[(.dN 0,0),
 (.cq 80 0 8,25),
 (.dN 25,25),
 (.cq 76 25 0,25),
 (.bB 74 25,2),
 (.len #[74] 3 2,26),
 (.bin .eql 3 26 (I 0),.bool true),
 (.cq 80 0 10,27),
 (.dN 27,27),
 (.cq 78 27 0,27),
 (.bB 26 27,3),
 (.len #[26] 3 3,28),
 (.bin .eql 3 28 (I 0),.bool false)]
theorem e2:bC (at' 19 dk [] body aO)=some (.bool false):=au
def ei:bj:=[(.dN 0,0),
 (.cq 80 0 8,25),
 (.dN 25,25),
 (.cq 76 25 0,25),
 (.bB 74 25,2),
 (.len #[74] 3 2,26),
 (.bin .eql 3 26 (I 0),.bool false)]
theorem e3:bC (at' 19 ei [] body aO)=some (.bool false):=au
@[reducible] noncomputable def bD (cM:List gy) (eX:cm) (eY:Nat) (bJ:List az) (y2:cm) (y3:Nat) (bz:List Nat) (jU:cm) (jV ck:Nat) (xa:Nat->J) (v21:J) (v23:J):List J:=[dh ck 0,bu eX cM eY,bu y2 bJ y3,bu jU bz jV,xa 0,xa 1,xa 2,xa 3,xa 4,xa 5,xa 6,xa 7,xa 8,xa 9,xa 10,xa 11,xa 12,xa 13,xa 14,xa 15,xa 16,xa 17,xa 18,v21,v23,dh ck 20,I ((bJ.length:Nat):Int),dh ck 22,I ((bz.length:Nat):Int),dh ck 19,I ((cM.length:Nat):Int)]
theorem any (W:ax) {cM:List gy} {eX:cm} {eY:Nat} {bJ:List az} {y2:cm} {y3:Nat} {bz:List Nat} {jU:cm} {jV ck:Nat} {xa:Nat->J} {v21:J} {v23:J} (jA:cH (aE W) [tG eX cM eY,QR y2 bJ y3,yO jU bz jV,dW ck 80 [xa 0,xa 1,xa 2,xa 3,xa 4,xa 5,xa 6,xa 7,xa 8,xa 9,xa 10,xa 11,xa 12,xa 13,xa 14,xa 15,xa 16,xa 17,xa 18,bu eX cM eY,bu y2 bJ y3,v21,bu jU bz jV,v23]]):Calls Tryd.prog 11 #[dh ck 0] W λe w'=>(∃y:Unit,e= .returned (.bool (decide (bJ.length=0/\bz.length=0/\cM.length=0)))/\cZ (aE W) [tG eX cM eY,QR y2 bJ y3,yO jU bz jV,dW ck 80 [xa 0,xa 1,xa 2,xa 3,xa 4,xa 5,xa 6,xa 7,xa 8,xa 9,xa 10,xa 11,xa 12,xa 13,xa 14,xa 15,xa 16,xa 17,xa 18,bu eX cM eY,bu y2 bJ y3,v21,bu jU bz jV,v23]] (aE w') [tG eX cM eY,QR y2 bJ y3,yO jU bz jV,dW ck qP [xa 0,xa 1,xa 2,xa 3,xa 4,xa 5,xa 6,xa 7,xa 8,xa 9,xa 10,xa 11,xa 12,xa 13,xa 14,xa 15,xa 16,xa 17,xa 18,bu eX cM eY,bu y2 bJ y3,v21,bu jU bz jV,v23]])/\cj 0 W w':=by
 refine pN (bD cM eX eY bJ y2 y3 bz jU jV ck xa v21 v23) body aO N [ak 0] Tryd.func11 λa ah=> ?_
 letI:=b6 ah;have aI:=bK.start W _ jA;by_cases aL:((bJ.length:Nat):Int)=0
 ·by_cases ad:((bz.length:Nat):Int)=0
  ·by_cases ag:((cM.length:Nat):Int)=0
   ·refine bA bP [] (ae jg (ae (ff 76 20 1) (ae jg (ae (ff 74 0 1) (ae (iX 20 3 aI) (ae (eM ((aI.iT 1 rfl).arr Kv) Ku) (ae bb (ae (ff 78 22 1) (ae jg (ae (ff 26 0 1) (ae (iX 22 3 aI) (ae (eM ((aI.iT 2 rfl).arr nM) Kp) (ae bb (ae (ff 73 19 1) (ae jg (ae (ff 71 0 1) (ae (iX 19 3 aI) (ae (eM ((aI.iT 0 rfl).arr vV) BD) (ae bb aP))))))))))))))))))) aQ ?_ ah
    exact bU e0 λw2 bp=>(by (rw[eC aj];exact⟨(),rfl,((aI.pick [0,1,2,3] rfl).done bp)⟩))
   ·refine bA cd [] (ae jg (ae (ff 76 20 1) (ae jg (ae (ff 74 0 1) (ae (iX 20 3 aI) (ae (eM ((aI.iT 1 rfl).arr Kv) Ku) (ae bb (ae (ff 78 22 1) (ae jg (ae (ff 26 0 1) (ae (iX 22 3 aI) (ae (eM ((aI.iT 2 rfl).arr nM) Kp) (ae bb (ae (ff 73 19 1) (ae jg (ae (ff 71 0 1) (ae (iX 19 3 aI) (ae (eM ((aI.iT 0 rfl).arr vV) BD) (ae aU aP))))))))))))))))))) aQ ?_ ah
    exact bU e1 λw2 bp=>(by (rw[cy aj];exact⟨(),rfl,((aI.pick [0,1,2,3] rfl).done bp)⟩))
  ·refine bA dk [] (ae jg (ae (ff 76 20 1) (ae jg (ae (ff 74 0 1) (ae (iX 20 3 aI) (ae (eM ((aI.iT 1 rfl).arr Kv) Ku) (ae bb (ae (ff 78 22 1) (ae jg (ae (ff 26 0 1) (ae (iX 22 3 aI) (ae (eM ((aI.iT 2 rfl).arr nM) Kp) (ae aU aP))))))))))))) aQ ?_ ah
   exact bU e2 λw2 bp=>(by (rw[cy aj];exact⟨(),rfl,((aI.pick [0,1,2,3] rfl).done bp)⟩))
 ·refine bA ei [] (ae jg (ae (ff 76 20 1) (ae jg (ae (ff 74 0 1) (ae (iX 20 3 aI) (ae (eM ((aI.iT 1 rfl).arr Kv) Ku) (ae aU aP))))))) aQ ?_ ah
  exact bU e3 λw2 bp=>(by (rw[cy aj];exact⟨(),rfl,((aI.pick [0,1,2,3] rfl).done bp)⟩))
end aaR
namespace aaS
noncomputable def body:Code:=(Tryd.f15.body).getD .skip
def N:Nat:=8
def aO:b8:={sl:=b3 [(0,0)],ms:=[],A:=start}
def bP:bj:=[(.dN 0,0),
 (.cq 80 0 5,25),
 (.bB 45 25,1)]
theorem e0:hb (at' 8 bP [] body aO)=some (40,[1]):=au
abbrev gA:=at' 8 bP [] body aO
def dF:List bx:=[]
def hd0:aF:=b3 [(2,.slice none 0 0)]
def hp0:aF:=fa 8 hd0 7 26
theorem e3:cr (kS Tryd.prog gA) hd0 dF=some []:=au
def dV:dU:=(body,[1,0],5)
theorem mF:fm Tryd.prog Tryd.f15 (cK 8 [] [] dV (b5 hp0 dF))=some 26:=au
@[reducible] noncomputable def bD (xB:cm) (xC xD ck:Nat) (xa:Nat->J) (aZ:Nat->J) (Lt:List bR:=[]) (ia:cm:=none) (ib:Nat:=0):List J:=[dh ck 0,.slice xB xC xD,xa 0,xa 1,xa 2,xa 3,xa 4,xa 5,xa 6,xa 7,xa 8,xa 9,xa 10,xa 11,xa 12,xa 13,xa 14,xa 15,xa 16,aZ 0,aZ 1,aZ 2,aZ 3,aZ 4,aZ 5,dh ck 17,bu ia Lt ib]
theorem any (W:ax) {aG:List bR} {xB:cm} {xC xD ck:Nat} {xa:Nat->J} {aZ:Nat->J} (jA:cH (aE W) [QQ xB xC xD aG,dW ck 80 [xa 0,xa 1,xa 2,xa 3,xa 4,xa 5,xa 6,xa 7,xa 8,xa 9,xa 10,xa 11,xa 12,xa 13,xa 14,xa 15,xa 16,.slice xB xC xD,aZ 0,aZ 1,aZ 2,aZ 3,aZ 4,aZ 5]]) (av:aG.length<=100000):Calls Tryd.prog 15 #[dh ck 0] W λe w'=>(∃y:cm×Nat,e= .returned (bu y.1 aG y.2)/\cZ (aE W) [QQ xB xC xD aG,dW ck 80 [xa 0,xa 1,xa 2,xa 3,xa 4,xa 5,xa 6,xa 7,xa 8,xa 9,xa 10,xa 11,xa 12,xa 13,xa 14,xa 15,xa 16,.slice xB xC xD,aZ 0,aZ 1,aZ 2,aZ 3,aZ 4,aZ 5]] (aE w') ([QQ xB xC xD aG,dW ck 80 [xa 0,xa 1,xa 2,xa 3,xa 4,xa 5,xa 6,xa 7,xa 8,xa 9,xa 10,xa 11,xa 12,xa 13,xa 14,xa 15,xa 16,.slice xB xC xD,aZ 0,aZ 1,aZ 2,aZ 3,aZ 4,aZ 5]]++[z_ y.1 aG y.2]))/\cj 0 W w':=by
 refine pN (bD xB xC xD ck xa aZ) body aO N [ak 0] Tryd.func15 λa ah=> ?_
 letI:=b6 ah;have aI:=bK.start W _ jA;refine bA bP [] (ae jg (ae (ff 45 17 1) (ae (iX 17 1 aI) aP))) aQ ?_ ah;obtain⟨Lt,aaT⟩:=h3 (aG);refine hG (Y:=dX) (bm:=λaW=>(bD xB xC xD ck xa aZ Lt aW.1 aW.2)) aI [0] (λaW=>[_]) (λaW=>[z_ aW.1 Lt aW.2]) e0 e3 (et hp0 26) (fC:=λw hw cX aw=>by rw[aaT];exact Kx aw (ZW.any _ ((aw.arr 0 rfl).arr yC) av)) (rest:= ?_);intro j2 ⟨ia,ib⟩ dp dA w ah;replace dp:=dp.wi;letI:=b6 ah;refine dP (dQ dV) [] [] aP aQ ?_ ah;exact bU mF λw2 bp=>(by (subst aaT;exact⟨(_,_),rfl,(dp.done bp)⟩))
end aaS
namespace aaU
noncomputable def body:Code:=(Tryd.f17.body).getD .skip
def N:Nat:=8
def aO:b8:={sl:=b3 [(0,0)],ms:=[],A:=start}
def bP:bj:=[(.dN 0,0),
 (.cq 80 0 2,25),
 (.bB 30 25,1)]
theorem e0:hb (at' 8 bP [] body aO)=some (33,[1]):=au
abbrev gA:=at' 8 bP [] body aO
def dF:List bx:=[]
def hd0:aF:=b3 [(2,.slice none 0 0)]
def hp0:aF:=fa 8 hd0 7 26
theorem e3:cr (kS Tryd.prog gA) hd0 dF=some []:=au
def dV:dU:=(body,[1,0],5)
theorem mF:fm Tryd.prog Tryd.f17 (cK 8 [] [] dV (b5 hp0 dF))=some 26:=au
@[reducible] noncomputable def bD (dc:cm) (ey dd ck:Nat) (xa:Nat->J) (aZ:Nat->J) (Lu:List Bool:=[]) (ia:cm:=none) (ib:Nat:=0):List J:=[dh ck 0,.slice dc ey dd,xa 0,xa 1,xa 2,xa 3,xa 4,xa 5,xa 6,xa 7,xa 8,xa 9,xa 10,xa 11,xa 12,xa 13,aZ 0,aZ 1,aZ 2,aZ 3,aZ 4,aZ 5,aZ 6,aZ 7,aZ 8,dh ck 14,bu ia Lu ib]
theorem any (W:ax) {known:List Bool} {dc:cm} {ey dd ck:Nat} {xa:Nat->J} {aZ:Nat->J} (jA:cH (aE W) [oJ dc ey dd known,dW ck 80 [xa 0,xa 1,xa 2,xa 3,xa 4,xa 5,xa 6,xa 7,xa 8,xa 9,xa 10,xa 11,xa 12,xa 13,.slice dc ey dd,aZ 0,aZ 1,aZ 2,aZ 3,aZ 4,aZ 5,aZ 6,aZ 7,aZ 8]]) (av:known.length<=100000):Calls Tryd.prog 17 #[dh ck 0] W λe w'=>(∃y:cm×Nat,e= .returned (bu y.1 known y.2)/\cZ (aE W) [oJ dc ey dd known,dW ck 80 [xa 0,xa 1,xa 2,xa 3,xa 4,xa 5,xa 6,xa 7,xa 8,xa 9,xa 10,xa 11,xa 12,xa 13,.slice dc ey dd,aZ 0,aZ 1,aZ 2,aZ 3,aZ 4,aZ 5,aZ 6,aZ 7,aZ 8]] (aE w') ([oJ dc ey dd known,dW ck 80 [xa 0,xa 1,xa 2,xa 3,xa 4,xa 5,xa 6,xa 7,xa 8,xa 9,xa 10,xa 11,xa 12,xa 13,.slice dc ey dd,aZ 0,aZ 1,aZ 2,aZ 3,aZ 4,aZ 5,aZ 6,aZ 7,aZ 8]]++[tF y.1 known y.2]))/\cj 0 W w':=by
 refine pN (bD dc ey dd ck xa aZ) body aO N [ak 0] Tryd.func17 λa ah=> ?_
 letI:=b6 ah;have aI:=bK.start W _ jA;refine bA bP [] (ae jg (ae (ff 30 14 1) (ae (iX 14 1 aI) aP))) aQ ?_ ah;obtain⟨Lu,aaV⟩:=h3 (known);refine hG (Y:=dX) (bm:=λaW=>(bD dc ey dd ck xa aZ Lu aW.1 aW.2)) aI [0] (λaW=>[_]) (λaW=>[tF aW.1 Lu aW.2]) e0 e3 (et hp0 26) (fC:=λw hw cX aw=>by rw[aaV];exact Kx aw (Hi.any _ ((aw.arr 0 rfl).arr kq) av)) (rest:= ?_);intro j2 ⟨ia,ib⟩ dp dA w ah;replace dp:=dp.wi;letI:=b6 ah;refine dP (dQ dV) [] [] aP aQ ?_ ah;exact bU mF λw2 bp=>(by (subst aaV;exact⟨(_,_),rfl,(dp.done bp)⟩))
end aaU
end AE
namespace AE
section
variable [a7]
theorem Lv {x y r:J} {b:bQ} {p:d_} (hp:dM [x,y]=true) (ao:aM r=true) (br:ep [x,y]=[X.val b,P.val p]) (ca:aJ r= .int .i64 ((cl b p:Nat):Int)) (af:okB b) (h:bV p b):jb Tryd.prog (55,[x,y],r):=
 kR (a:= #[X.val b,P.val p]) hp ao br ca λw _=>(He.any w b p af).mono λe w' he=>by
  rw[show ((cl b p:Nat):Int)=Ac b p from by
   unfold cl;have:=(pa af h).1;rw[G5 h];have ag:=(pa af h).2.2.1;have ay:=j9 h
   omega]
  exact he
theorem aaW {x y r:J} {b:bQ} {p:d_} (hp:dM [x,y]=true) (ao:aM r=true) (br:ep [x,y]=[X.val b,P.val p]) (ca:aJ r= .int .i64 (-1)) (af:okB b) (h:¬bV p b):jb Tryd.prog (55,[x,y],r):=
 kR (a:= #[X.val b,P.val p]) hp ao br ca λw _=>(He.any w b p af).mono λe w' he=>by
  rw[Ef h] at he;exact he
end
end AE
namespace AE
theorem ak7 {b:bQ} {p:d_} (h:bV p b):0<(fx b).toNat:=by
 unfold bV at h;have aR:iZ b:=by unfold iZ;omega
 unfold fx;rw[uZ aR];dsimp only;have ad:0<(b.2.2.2.1-b.1)*(b.2.2.2.2.1-b.2.1):=Int.mul_pos aj aj;have ag:0<(b.2.2.2.1-b.1)*(b.2.2.2.2.1-b.2.1)*(b.2.2.2.2.2-b.2.2.1):=Int.mul_pos ad aj;omega
theorem Lw {b:bQ} {p:d_} (h:bV p b):cl b p<(fx b).toNat:=by
 have:=G6 (b:=b) (k:=0) (sh:=List.replicate (fx b).toNat false) (by rw[mz];exact ak7 h) mz p
 rwa [mz] at this
def acc (b:bQ) (most:Int) (p:d_) (n:Nat):Prop:=bV p b/\¬most<=((n:Nat):Int)
instance (b:bQ) (most:Int) (p:d_) (n:Nat):Decidable (acc b most p n):=by unfold acc;infer_instance
def jB (b:bQ) (most:Int) (p:d_) (reqs:List gy):Int:=if bV p b then (if most<=((reqs.length:Nat):Int) then 16 else 0) else 1
def mS (b:bQ) (most:Int) (p:d_) (reqs:List gy) (x:gy):List gy:=if acc b most p reqs.length then reqs++[x] else reqs
def pP {α:Type} (b:bQ) (most:Int) (p:d_) (reqs:List gy) (l:List α) (v:α):List α:=if acc b most p reqs.length then l.set (cl b p) v else l
variable {α:Type} {b:bQ} {most:Int} {p:d_} {reqs:List gy} {x:gy} {l:List α} {v:α}
theorem aaX (h:bV p b) (ad:¬most<=((reqs.length:Nat):Int)):jB b most p reqs=0/\mS b most p reqs x=reqs++[x]/\pP b most p reqs l v=l.set (cl b p) v:=by
 unfold jB mS pP;rw[aY h,a_ ad,aY ⟨h,ad⟩,aY ⟨h,ad⟩];exact⟨rfl,rfl,rfl⟩
theorem aaY (h:bV p b) (ad:most<=((reqs.length:Nat):Int)):jB b most p reqs=16/\mS b most p reqs x=reqs/\pP b most p reqs l v=l:=by
 unfold jB mS pP;rw[aY h,aY ad,a_ λq=>q.2 ad,a_ λq=>q.2 ad];exact⟨rfl,rfl,rfl⟩
theorem aaZ (h:¬bV p b):jB b most p reqs=1/\mS b most p reqs x=reqs/\pP b most p reqs l v=l:=by
 unfold jB mS pP;rw[a_ h,a_ λq=>h q.1,a_ λq=>h q.1];exact⟨rfl,rfl,rfl⟩
theorem aa0 {l:List α} {k:Nat} {v d:α} (al:k<l.length):(l.set k v).getD k d=v:=by
 rw[dq,List.getElem?_set,aY rfl,aY al];rfl
end AE
namespace AE
namespace aa1
noncomputable def body:Code:=(Tryd.f44.body).getD .skip
def N:Nat:=12
def aO:b8:={sl:=b3 [(2,2),(1,1),(0,0)],ms:=[],A:=start}
def bP:bj:=[(.bB 34 2,28),
 (.dN 28,28),
 (.cq 80 28 0,28),
 (.cq 28 28 1,29),
 (.bB 26 29,3),
 (.bB 3 1,27),
 (.dB 26 3 0,30)]
theorem e0:nJ (at' 12 bP [] body aO)=some (3,30,27):=au
abbrev gA:=at' 12 bP [] body aO
def dF:List bx:=[]
def hd0:aF:=b3 []
def hp0:aF:=match g' 12 hd0 none (.tuple ⟨[]⟩) with|some s=>s|none=> .nil
theorem e1:cr (b9 gA) hd0 dF=some []:=au
def dV:dU:=(body,[],9)
theorem h4:fm Tryd.prog Tryd.f44 (cK 12 [] [] dV (b5 hp0 dF))=some (.tuple ⟨[]⟩):=au
@[reducible] noncomputable def bD (bS:cm) (bL bT ck:Nat) (xa:Nat->J) (aZ:Nat->J) (jh:Nat) (cell:Int) (ji k:Nat):List J:=[I ((k:Nat):Int),dh jh 0,dh ji 0,.slice bS bL bT,xa 0,xa 1,xa 2,xa 3,xa 4,xa 5,aZ 0,aZ 1,aZ 2,aZ 3,aZ 4,aZ 5,aZ 6,aZ 7,aZ 8,aZ 9,aZ 10,aZ 11,aZ 12,aZ 13,aZ 14,aZ 15,aZ 16,I cell,dh ck 0,dh ck 6,hd (.slice bS bL bT) (k*1)]
theorem any (W:ax) {cells:List Int} {bS:cm} {bL bT ck:Nat} {xa:Nat->J} {aZ:Nat->J} {jh:Nat} {cell:Int} {ji:Nat} (jA:cH (aE W) [nt bS bL bT cells,dW ck 80 [xa 0,xa 1,xa 2,xa 3,xa 4,xa 5,.slice bS bL bT,aZ 0,aZ 1,aZ 2,aZ 3,aZ 4,aZ 5,aZ 6,aZ 7,aZ 8,aZ 9,aZ 10,aZ 11,aZ 12,aZ 13,aZ 14,aZ 15,aZ 16],dW jh 3 [I cell],dW ji 34 [dh ck 0]]) (k:Nat) (al:k<cells.length):Calls Tryd.prog 44 #[I ((k:Nat):Int),dh jh 0,dh ji 0] W λe w'=>(∃y:Unit,e= .returned (.tuple #[])/\cZ (aE W) [nt bS bL bT cells,dW ck 80 [xa 0,xa 1,xa 2,xa 3,xa 4,xa 5,.slice bS bL bT,aZ 0,aZ 1,aZ 2,aZ 3,aZ 4,aZ 5,aZ 6,aZ 7,aZ 8,aZ 9,aZ 10,aZ 11,aZ 12,aZ 13,aZ 14,aZ 15,aZ 16],dW jh 3 [I cell],dW ji 34 [dh ck 0]] (aE w') [hr kQ 1 fQ (.slice bS bL bT) (cells.set k cell),dW ck qP [xa 0,xa 1,xa 2,xa 3,xa 4,xa 5,.slice bS bL bT,aZ 0,aZ 1,aZ 2,aZ 3,aZ 4,aZ 5,aZ 6,aZ 7,aZ 8,aZ 9,aZ 10,aZ 11,aZ 12,aZ 13,aZ 14,aZ 15,aZ 16],dW jh 3 [I cell],dW ji iV [dh ck 0]])/\cj 0 W w':=by
 refine pN (bD bS bL bT ck xa aZ jh cell ji k) body aO N [ak 0,ak 1,ak 2] Tryd.func44 λa ah=> ?_
 letI:=b6 ah;have aI:=bK.start W _ jA;refine bA bP [] (ae (iX 0 3 aI) (ae jg (ae (ff 28 0 7) (ae (ff 26 6 1) (ae (iX 6 1 aI) (ae (iX 0 2 aI) (ae (nr ((aI.arr 0 rfl).arr ko) iz uI) aP))))))) aQ ?_ ah;obtain⟨ak8,e4⟩:=h3 (cells.set k cell);have fc:ak8.length=cells.length:=by rw[e4];exact List.length_set
 refine QW 0 (bD bS bL bT ck xa aZ jh cell ji k) e4 e0 ko e1 (et hp0 (.tuple ⟨[]⟩)) (aI.arr 0 rfl) (show k<cells.length by omega) ?_;intro j2 lP jw dA w ah;have dp:=aI.lZ 0 rfl (Bu lP jw);replace dp:=dp.BZ;letI:=b6 ah;refine dP (dQ dV) [] [] aP aQ ?_ ah;exact bU h4 λw2 bp=>(by subst_vars;exact⟨(),rfl,(dp.done bp)⟩)
end aa1
namespace aa2
noncomputable def body:Code:=(Tryd.f45.body).getD .skip
def N:Nat:=11
def aO:b8:={sl:=b3 [(2,2),(1,1),(0,0)],ms:=[],A:=start}
def bP:bj:=[(.bB 34 2,28),
 (.dN 28,28),
 (.cq 80 28 2,29),
 (.bB 30 29,3),
 (.bB 4 1,27),
 (.dB 30 3 0,30)]
theorem e0:nJ (at' 11 bP [] body aO)=some (4,30,27):=au
abbrev gA:=at' 11 bP [] body aO
def dF:List bx:=[]
def hd0:aF:=b3 []
def hp0:aF:=match g' 11 hd0 none (.tuple ⟨[]⟩) with|some s=>s|none=> .nil
theorem e1:cr (b9 gA) hd0 dF=some []:=au
def dV:dU:=(body,[],8)
theorem h4:fm Tryd.prog Tryd.f45 (cK 11 [] [] dV (b5 hp0 dF))=some (.tuple ⟨[]⟩):=au
@[reducible] noncomputable def bD (dc:cm) (ey dd ck:Nat) (xa:Nat->J) (aZ:Nat->J) (jh:Nat) (gE:Bool) (ji k:Nat):List J:=[I ((k:Nat):Int),dh jh 0,dh ji 0,.slice dc ey dd,xa 0,xa 1,xa 2,xa 3,xa 4,xa 5,xa 6,xa 7,xa 8,xa 9,xa 10,xa 11,xa 12,xa 13,aZ 0,aZ 1,aZ 2,aZ 3,aZ 4,aZ 5,aZ 6,aZ 7,aZ 8,.bool gE,dh ck 0,dh ck 14,hd (.slice dc ey dd) (k*1)]
theorem any (W:ax) {known:List Bool} {dc:cm} {ey dd ck:Nat} {xa:Nat->J} {aZ:Nat->J} {jh:Nat} {gE:Bool} {ji:Nat} (jA:cH (aE W) [oJ dc ey dd known,dW ck 80 [xa 0,xa 1,xa 2,xa 3,xa 4,xa 5,xa 6,xa 7,xa 8,xa 9,xa 10,xa 11,xa 12,xa 13,.slice dc ey dd,aZ 0,aZ 1,aZ 2,aZ 3,aZ 4,aZ 5,aZ 6,aZ 7,aZ 8],dW jh 4 [.bool gE],dW ji 34 [dh ck 0]]) (k:Nat) (al:k<known.length):Calls Tryd.prog 45 #[I ((k:Nat):Int),dh jh 0,dh ji 0] W λe w'=>(∃y:Unit,e= .returned (.tuple #[])/\cZ (aE W) [oJ dc ey dd known,dW ck 80 [xa 0,xa 1,xa 2,xa 3,xa 4,xa 5,xa 6,xa 7,xa 8,xa 9,xa 10,xa 11,xa 12,xa 13,.slice dc ey dd,aZ 0,aZ 1,aZ 2,aZ 3,aZ 4,aZ 5,aZ 6,aZ 7,aZ 8],dW jh 4 [.bool gE],dW ji 34 [dh ck 0]] (aE w') [hr n9 1 il (.slice dc ey dd) (known.set k gE),dW ck qP [xa 0,xa 1,xa 2,xa 3,xa 4,xa 5,xa 6,xa 7,xa 8,xa 9,xa 10,xa 11,xa 12,xa 13,.slice dc ey dd,aZ 0,aZ 1,aZ 2,aZ 3,aZ 4,aZ 5,aZ 6,aZ 7,aZ 8],dW jh 4 [.bool gE],dW ji iV [dh ck 0]])/\cj 0 W w':=by
 refine pN (bD dc ey dd ck xa aZ jh gE ji k) body aO N [ak 0,ak 1,ak 2] Tryd.func45 λa ah=> ?_
 letI:=b6 ah;have aI:=bK.start W _ jA;refine bA bP [] (ae (iX 0 3 aI) (ae jg (ae (ff 30 14 1) (ae (iX 14 1 aI) (ae (iX 0 2 aI) (ae (nr ((aI.arr 0 rfl).arr kq) mn BB) aP)))))) aQ ?_ ah;obtain⟨RP,e4⟩:=h3 (known.set k gE);have fc:RP.length=known.length:=by rw[e4];exact List.length_set
 refine QW 0 (bD dc ey dd ck xa aZ jh gE ji k) e4 e0 kq e1 (et hp0 (.tuple ⟨[]⟩)) (aI.arr 0 rfl) (show k<known.length by omega) ?_;intro j2 lP jw dA w ah;have dp:=aI.lZ 0 rfl (Bu lP jw);replace dp:=dp.BZ;letI:=b6 ah;refine dP (dQ dV) [] [] aP aQ ?_ ah;exact bU h4 λw2 bp=>(by subst_vars;exact⟨(),rfl,(dp.done bp)⟩)
end aa2
namespace aa3
noncomputable def body:Code:=(Tryd.f43.body).getD .skip
def N:Nat:=55
noncomputable abbrev bC:=fm Tryd.prog Tryd.f43
def aO:b8:={sl:=b3 [(2,.func (.func 44) ⟨[]⟩ ⟨[4,5]⟩),(1,.agg ⟨[1,2,3]⟩),(0,0)],ms:=[],A:=start}
def bP:bj:=[(.dN 0,0),
 (.cq 80 0 0,0),
 (.cq 28 0 0,0),
 (.bB 25 0,.agg ⟨[9,10,11,12,13,14]⟩),
 (.bin .lss 3 31 (I 0),.bool false),
 (.cq 80 0 7,32),
 (.cq 73 32 0,32),
 (.bB 71 32,6),
 (.len #[71] 3 6,33),
 (.cq 80 0 6,34),
 (.bB 3 34,25),
 (.bin .geq 3 33 25,.bool true)]
def j1:dZ:=[(55,[.agg ⟨[9,10,11,12,13,14]⟩,.agg ⟨[1,2,3]⟩],31)]
theorem e0:bC (at' 55 bP j1 body aO)=some (I 16):=au
def cd:bj:=[(.dN 0,0),
 (.cq 80 0 0,0),
 (.cq 28 0 0,0),
 (.bB 25 0,.agg ⟨[9,10,11,12,13,14]⟩),
 (.bin .lss 3 31 (I 0),.bool false),
 (.cq 80 0 7,32),
 (.cq 73 32 0,32),
 (.bB 71 32,6),
 (.len #[71] 3 6,33),
 (.cq 80 0 6,34),
 (.bB 3 34,25),
 (.bin .geq 3 33 25,.bool false)]
def h':dZ:=[(55,[.agg ⟨[9,10,11,12,13,14]⟩,.agg ⟨[1,2,3]⟩],31)]
theorem e1:hb (at' 55 cd h' body aO)=some (44,[31,4,5]):=au
abbrev gA:=at' 55 cd h' body aO
def dF:List bx:=[]
def hd0:aF:=b3 [(7,31),(6,I 0),(0,0)]
def hp0:aF:=fa 55 hd0 32 (.tuple ⟨[]⟩)
theorem hD:cr (kS Tryd.prog gA) hd0 dF=some [(0,0),(31,31)]:=au
def dV:dU:=(body,[1,1,1,0],3)
def dk:bj:=[(.dN 0,0),
 (.cq 80 0 7,32),
 (.cq 80 0 0,0),
 (.cq 28 0 1,35),
 (.bB 26 35,7),
 (.dB 26 7 31,36),
 (.bB 3 36,37),
 (.cq 80 0 2,38),
 (.bB 30 38,8),
 (.dB 30 8 31,39),
 (.bB 4 39,40)]
abbrev jx:=cK 55 dk [] dV {sl:=hp0,ms:=[],A:=da dF}
def hy:List bx:=[]
def ht:aF:=b3 [(35,32),(6,I 0)]
def hp1:aF:=(bY.set 41 depth ht 53).getD .nil
theorem e9:sn jx 0 53=some ([31,37,40],1,1):=au
theorem oe:cr (b9 jx) ht hy=some [(32,32)]:=au
theorem ny:bY.set 41 depth ht 53=some hp1:=au
theorem k0:hb ((lp (b5 hp1 hy) jx))=some (69,[32,41]):=au
abbrev pk:=(lp {sl:=hp1,ms:=[],A:=da hy} jx)
def kh:List bx:=[]
def k1:aF:=b3 [(6,I 0)]
def hp2:aF:=fa 55 k1 54 (.tuple ⟨[]⟩)
theorem tR:cr (kS Tryd.prog pk) k1 kh=some []:=au
def jf:dU:=(body,[1,1,1,1,0],22)
theorem tS:bC (cK 55 [] [] jf (b5 hp2 kh))=some (I 0):=au
def fJ:bj:=[(.dN 0,0),
 (.cq 80 0 0,0),
 (.cq 28 0 0,0),
 (.bB 25 0,.agg ⟨[9,10,11,12,13,14]⟩)]
def qt:dZ:=[(55,[.agg ⟨[9,10,11,12,13,14]⟩,.agg ⟨[1,2,3]⟩],I (-1))]
theorem rK:bC (at' 55 fJ qt body aO)=some (I 1):=au
@[reducible] noncomputable def bD (cM:List gy) (eX:cm) (eY:Nat) (bS:cm) (bL bT:Nat) (known:List Bool) (dc:cm) (ey dd ck:Nat) (b:bQ) (xa:Nat->J) (aZ:Nat->J) (most:Int) (xc:Nat->J) (jh:Nat) (cell:Int) (ji:Nat) (p:d_) (xE:List Int:=[]) (g1:Nat:=0) (nA:List gy:=[]) (j3:cm:=none) (j4:Nat:=0):List J:=[dh ck 0,I p.1,I p.2.1,I p.2.2,dh jh 0,dh ji 0,bu eX cM eY,.slice bS bL bT,.slice dc ey dd,I b.1,I b.2.1,I b.2.2.1,I b.2.2.2.1,I b.2.2.2.2.1,I b.2.2.2.2.2,xa 0,xa 1,xa 2,xa 3,xa 4,xa 5,xa 6,aZ 0,aZ 1,aZ 2,I most,xc 0,xc 1,xc 2,xc 3,I cell,I ((cl b p:Nat):Int),dh ck 19,I ((cM.length:Nat):Int),dh ck 18,dh ck 6,hd (.slice bS bL bT) (cl b p*1),I (xE.getD (cl b p) default),dh ck 14,hd (.slice dc ey dd) (cl b p*1),.bool (known.getD (cl b p) default),.slice (some ⟨g1,0,none⟩) 1 1,bu j3 nA j4]
theorem any (W:ax) {cM:List gy} {eX:cm} {eY:Nat} {cells:List Int} {bS:cm} {bL bT:Nat} {known:List Bool} {dc:cm} {ey dd ck:Nat} {b:bQ} {xa:Nat->J} {aZ:Nat->J} {most:Int} {xc:Nat->J} {jh:Nat} {cell:Int} {ji:Nat} (jA:cH (aE W) [tG eX cM eY,nt bS bL bT cells,oJ dc ey dd known,dW ck 80 [I b.1,I b.2.1,I b.2.2.1,I b.2.2.2.1,I b.2.2.2.2.1,I b.2.2.2.2.2,.slice bS bL bT,xa 0,xa 1,xa 2,xa 3,xa 4,xa 5,xa 6,.slice dc ey dd,aZ 0,aZ 1,aZ 2,I most,bu eX cM eY,xc 0,xc 1,xc 2,xc 3],dW jh 3 [I cell],dW ji 34 [dh ck 0]]) (p:d_) (af:okB b) (hl:cells.length=(fx b).toNat) (al:known.length=cells.length) (ao:cM.length<=400000):Calls Tryd.prog 43 #[dh ck 0,P.val p,.func (.func 44) #[] #[dh jh 0,dh ji 0]] W λe w'=>(∃y:cm×Nat,e= .returned (I (jB b most p cM))/\cZ (aE W) [tG eX cM eY,nt bS bL bT cells,oJ dc ey dd known,dW ck 80 [I b.1,I b.2.1,I b.2.2.1,I b.2.2.2.1,I b.2.2.2.2.1,I b.2.2.2.2.2,.slice bS bL bT,xa 0,xa 1,xa 2,xa 3,xa 4,xa 5,xa 6,.slice dc ey dd,aZ 0,aZ 1,aZ 2,I most,bu eX cM eY,xc 0,xc 1,xc 2,xc 3],dW jh 3 [I cell],dW ji 34 [dh ck 0]] (aE w') [nK rB 3 ni (.slice y.1 (mS b most p cM (cl b p,cell,known.getD (cl b p) default)).length y.2) (mS b most p cM (cl b p,cell,known.getD (cl b p) default)),hr kQ 1 fQ (.slice bS bL bT) (pP b most p cM cells cell),oJ dc ey dd known,dW ck qP (List.set [I b.1,I b.2.1,I b.2.2.1,I b.2.2.2.1,I b.2.2.2.2.1,I b.2.2.2.2.2,.slice bS bL bT,xa 0,xa 1,xa 2,xa 3,xa 4,xa 5,xa 6,.slice dc ey dd,aZ 0,aZ 1,aZ 2,I most,bu eX cM eY,xc 0,xc 1,xc 2,xc 3] 19 (.slice y.1 (mS b most p cM (cl b p,cell,known.getD (cl b p) default)).length y.2)),dW jh 3 [I cell],dW ji iV [dh ck 0]])/\cj 0 W w':=by
 refine pN (bD cM eX eY bS bL bT known dc ey dd ck b xa aZ most xc jh cell ji p) body aO N [ak 0,.agg ⟨[ak 1,ak 2,ak 3]⟩,.func (.func 44) ⟨[]⟩ ⟨[ak 4,ak 5]⟩] Tryd.func43 λa ah=> ?_
 letI:=b6 ah;have aI:=bK.start W _ jA;have fD:bV p b->cl b p<cells.length:=λh=>hl▸Lw h
 by_cases aL:bV p b
 ·replace fD:=fD aL
  by_cases ad:most<=((cM.length:Nat):Int)
  ·refine bA bP j1 (ae jg (ae (ff 28 0 7) (ae (ff 25 0 6) (ae (wh 0 6 3 aI) (ae aU (ae (ff 73 19 1) (ae (ff 71 0 1) (ae (iX 19 3 aI) (ae (eM ((aI.iT 0 rfl).arr vV) BD) (ae (ff 3 18 1) (ae (iX 18 3 aI) (ae bb aP)))))))))))) (cG (Lv U U U U af aL) aQ) ?_ ah
   exact bU e0 λw2 bp=>(by (obtain⟨q1,aH,b0⟩:=aaY (x:=(cl b p,cell,known.getD (cl b p) default)) (l:=cells) (v:=cell) bM bM;rw[q1,aH,b0];exact⟨(_,_),rfl,((aI.pick [0,1,2,3,4,5] rfl).done bp)⟩))
  ·refine bA cd h' (ae jg (ae (ff 28 0 7) (ae (ff 25 0 6) (ae (wh 0 6 3 aI) (ae aU (ae (ff 73 19 1) (ae (ff 71 0 1) (ae (iX 19 3 aI) (ae (eM ((aI.iT 0 rfl).arr vV) BD) (ae (ff 3 18 1) (ae (iX 18 3 aI) (ae aU aP)))))))))))) (cG (Lv U U U U af aL) aQ) ?_ ah
   obtain⟨xE,Lx⟩:=h3 (cells.set (cl b p) cell);have HO:xE.length=cells.length:=by rw[Lx,List.length_set]
   refine hG (Y:=Unit) (bm:=λaW=>(bD cM eX eY bS bL bT known dc ey dd ck b xa aZ most xc jh cell ji p xE)) aI [1,3,4,5] (λ_=>[xr _ _ _ bS bL bT xE,_,_,_]) (λ_=>[]) e1 hD (et hp0 (.tuple ⟨[]⟩)) (fC:=λw hw cX aw=>by rw[Lx];exact aa1.any (xa:=mM [I b.1,I b.2.1,I b.2.2.1,I b.2.2.2.1,I b.2.2.2.2.1,I b.2.2.2.2.2] 0) (aZ:=mM [xa 0,xa 1,xa 2,xa 3,xa 4,xa 5,xa 6,.slice dc ey dd,aZ 0,aZ 1,aZ 2,I most,bu eX cM eY,xc 0,xc 1,xc 2,xc 3] 0) _ aw (cl b p) aj) (rest:= ?_);intro j2 _ dp dA w ah;replace dp:=dp.Aa;letI:=b6 ah;refine dP (dQ dV) dk [] (ae jg (ae (ff 73 19 1) (ae (ff 28 0 7) (ae (ff 26 6 1) (ae (iX 6 3 dp) (ae (nr ((dp.arr 1 rfl).arr ko) iz uI) (ae (qm 0 ((dp.arr 1 rfl).arr ko) (lO (cl b p)) vJ) (ae (ff 30 14 1) (ae (iX 14 3 dp) (ae (nr ((dp.arr 2 rfl).arr kq) mn BB) (ae (qm 0 ((dp.arr 2 rfl).arr kq) (lO (cl b p)) JI) aP))))))))))) aQ ?_ ah;refine uM (enc:=ni) (xs:=[(cl b p,(xE.getD (cl b p) default),(known.getD (cl b p) default))]) (q:=41) (bm:=λf'=>(bD cM eX eY bS bL bT known dc ey dd ck b xa aZ most xc jh cell ji p xE f')) e9 vV rfl cw cw U U (gI rfl) oe (λ_ _=>fw) ny (λ_=>rfl) ?_;intro nj g1 qB rb Ck mv hJ;have gv:=dp.new (sq qB Ck mv hJ);letI:=b6 ah;obtain⟨nA,rP⟩:=h3 (cM++[(cl b p,(xE.getD (cl b p) default),(known.getD (cl b p) default))]);refine hG (Y:=dX) (bm:=λaW=>(bD cM eX eY bS bL bT known dc ey dd ck b xa aZ most xc jh cell ji p xE g1 nA aW.1 aW.2)) gv [0,6,3] (λaW=>[xq _ _ _ aW.1 nA aW.2,_,dW _ _ [_,_,_,_,_,_,_,_,_,_,_,_,_,_,_,_,_,_,_,bu aW.1 nA aW.2,_,_,_,_]]) (λ_=>[]) k0 tR (et hp2 (.tuple ⟨[]⟩)) (fC:=λw hw cX aw=>by rw[rP];exact RN.any (x:=[(cl b p,(xE.getD (cl b p) default),(known.getD (cl b p) default))]) (xa:=mM [I b.1,I b.2.1,I b.2.2.1,I b.2.2.2.1,I b.2.2.2.2.1,I b.2.2.2.2.2,.slice bS bL bT,xa 0,xa 1,xa 2,xa 3,xa 4,xa 5,xa 6,.slice dc ey dd,aZ 0,aZ 1,aZ 2,I most,bu eX cM eY,xc 0,xc 1,xc 2,xc 3] 0) (aZ:=mM [I b.1,I b.2.1,I b.2.2.1,I b.2.2.2.1,I b.2.2.2.2.1,I b.2.2.2.2.2,.slice bS bL bT,xa 0,xa 1,xa 2,xa 3,xa 4,xa 5,xa 6,.slice dc ey dd,aZ 0,aZ 1,aZ 2,I most,bu eX cM eY,xc 0,xc 1,xc 2,xc 3] 20) _ aw (by simp only [List.length_cons,List.length_nil];omega)) (rest:= ?_);intro nk ⟨j3,j4⟩ ic dA w ah;replace ic:=ic.QT;letI:=b6 ah;refine dP (dQ jf) [] [] aP aQ ?_ ah;exact bU tS λw2 bp=>(by (obtain⟨q1,aH,b0⟩:=aaX (x:=(cl b p,cell,known.getD (cl b p) default)) (l:=cells) (v:=cell) bM bM;rw[q1,aH,b0];rw[Lx,aa0 aj] at rP;subst Lx rP;exact⟨(_,_),rfl,((ic.pick [0,1,2,3,4,5] rfl).done bp)⟩))
 ·refine bA fJ qt (ae jg (ae (ff 28 0 7) (ae (ff 25 0 6) (ae (wh 0 6 3 aI) aP)))) (cG (aaW U U U U af aL) aQ) ?_ ah
  exact bU rK λw2 bp=>(by (obtain⟨q1,aH,b0⟩:=aaZ (x:=(cl b p,cell,known.getD (cl b p) default)) (l:=cells) (v:=cell) (most:=most) (reqs:=cM) bM;rw[q1,aH,b0];exact⟨(_,_),rfl,((aI.pick [0,1,2,3,4,5] rfl).done bp)⟩))
end aa3
namespace aa4
noncomputable def body:Code:=(Tryd.f43.body).getD .skip
def N:Nat:=55
noncomputable abbrev bC:=fm Tryd.prog Tryd.f43
def aO:b8:={sl:=b3 [(2,.func (.func 45) ⟨[]⟩ ⟨[4,5]⟩),(1,.agg ⟨[1,2,3]⟩),(0,0)],ms:=[],A:=start}
def bP:bj:=[(.dN 0,0),
 (.cq 80 0 0,0),
 (.cq 28 0 0,0),
 (.bB 25 0,.agg ⟨[9,10,11,12,13,14]⟩),
 (.bin .lss 3 31 (I 0),.bool false),
 (.cq 80 0 7,32),
 (.cq 73 32 0,32),
 (.bB 71 32,6),
 (.len #[71] 3 6,33),
 (.cq 80 0 6,34),
 (.bB 3 34,25),
 (.bin .geq 3 33 25,.bool true)]
def j1:dZ:=[(55,[.agg ⟨[9,10,11,12,13,14]⟩,.agg ⟨[1,2,3]⟩],31)]
theorem e0:bC (at' 55 bP j1 body aO)=some (I 16):=au
def cd:bj:=[(.dN 0,0),
 (.cq 80 0 0,0),
 (.cq 28 0 0,0),
 (.bB 25 0,.agg ⟨[9,10,11,12,13,14]⟩),
 (.bin .lss 3 31 (I 0),.bool false),
 (.cq 80 0 7,32),
 (.cq 73 32 0,32),
 (.bB 71 32,6),
 (.len #[71] 3 6,33),
 (.cq 80 0 6,34),
 (.bB 3 34,25),
 (.bin .geq 3 33 25,.bool false)]
def h':dZ:=[(55,[.agg ⟨[9,10,11,12,13,14]⟩,.agg ⟨[1,2,3]⟩],31)]
theorem e1:hb (at' 55 cd h' body aO)=some (45,[31,4,5]):=au
abbrev gA:=at' 55 cd h' body aO
def dF:List bx:=[]
def hd0:aF:=b3 [(7,31),(6,I 0),(0,0)]
def hp0:aF:=fa 55 hd0 32 (.tuple ⟨[]⟩)
theorem hD:cr (kS Tryd.prog gA) hd0 dF=some [(0,0),(31,31)]:=au
def dV:dU:=(body,[1,1,1,0],3)
def dk:bj:=[(.dN 0,0),
 (.cq 80 0 7,32),
 (.cq 80 0 0,0),
 (.cq 28 0 1,35),
 (.bB 26 35,7),
 (.dB 26 7 31,36),
 (.bB 3 36,37),
 (.cq 80 0 2,38),
 (.bB 30 38,8),
 (.dB 30 8 31,39),
 (.bB 4 39,40)]
abbrev jx:=cK 55 dk [] dV {sl:=hp0,ms:=[],A:=da dF}
def hy:List bx:=[]
def ht:aF:=b3 [(35,32),(6,I 0)]
def hp1:aF:=(bY.set 41 depth ht 53).getD .nil
theorem e9:sn jx 0 53=some ([31,37,40],1,1):=au
theorem oe:cr (b9 jx) ht hy=some [(32,32)]:=au
theorem ny:bY.set 41 depth ht 53=some hp1:=au
theorem k0:hb ((lp (b5 hp1 hy) jx))=some (69,[32,41]):=au
abbrev pk:=(lp {sl:=hp1,ms:=[],A:=da hy} jx)
def kh:List bx:=[]
def k1:aF:=b3 [(6,I 0)]
def hp2:aF:=fa 55 k1 54 (.tuple ⟨[]⟩)
theorem tR:cr (kS Tryd.prog pk) k1 kh=some []:=au
def jf:dU:=(body,[1,1,1,1,0],22)
theorem tS:bC (cK 55 [] [] jf (b5 hp2 kh))=some (I 0):=au
def fJ:bj:=[(.dN 0,0),
 (.cq 80 0 0,0),
 (.cq 28 0 0,0),
 (.bB 25 0,.agg ⟨[9,10,11,12,13,14]⟩)]
def qt:dZ:=[(55,[.agg ⟨[9,10,11,12,13,14]⟩,.agg ⟨[1,2,3]⟩],I (-1))]
theorem rK:bC (at' 55 fJ qt body aO)=some (I 1):=au
@[reducible] noncomputable def bD (cM:List gy) (eX:cm) (eY:Nat) (cells:List Int) (bS:cm) (bL bT:Nat) (dc:cm) (ey dd ck:Nat) (b:bQ) (xa:Nat->J) (aZ:Nat->J) (most:Int) (xc:Nat->J) (jh:Nat) (gE:Bool) (ji:Nat) (p:d_) (xF:List Bool:=[]) (g1:Nat:=0) (nA:List gy:=[]) (j3:cm:=none) (j4:Nat:=0):List J:=[dh ck 0,I p.1,I p.2.1,I p.2.2,dh jh 0,dh ji 0,bu eX cM eY,.slice bS bL bT,.slice dc ey dd,I b.1,I b.2.1,I b.2.2.1,I b.2.2.2.1,I b.2.2.2.2.1,I b.2.2.2.2.2,xa 0,xa 1,xa 2,xa 3,xa 4,xa 5,xa 6,aZ 0,aZ 1,aZ 2,I most,xc 0,xc 1,xc 2,xc 3,.bool gE,I ((cl b p:Nat):Int),dh ck 19,I ((cM.length:Nat):Int),dh ck 18,dh ck 6,hd (.slice bS bL bT) (cl b p*1),I (cells.getD (cl b p) default),dh ck 14,hd (.slice dc ey dd) (cl b p*1),.bool (xF.getD (cl b p) default),.slice (some ⟨g1,0,none⟩) 1 1,bu j3 nA j4]
theorem any (W:ax) {cM:List gy} {eX:cm} {eY:Nat} {cells:List Int} {bS:cm} {bL bT:Nat} {known:List Bool} {dc:cm} {ey dd ck:Nat} {b:bQ} {xa:Nat->J} {aZ:Nat->J} {most:Int} {xc:Nat->J} {jh:Nat} {gE:Bool} {ji:Nat} (jA:cH (aE W) [tG eX cM eY,nt bS bL bT cells,oJ dc ey dd known,dW ck 80 [I b.1,I b.2.1,I b.2.2.1,I b.2.2.2.1,I b.2.2.2.2.1,I b.2.2.2.2.2,.slice bS bL bT,xa 0,xa 1,xa 2,xa 3,xa 4,xa 5,xa 6,.slice dc ey dd,aZ 0,aZ 1,aZ 2,I most,bu eX cM eY,xc 0,xc 1,xc 2,xc 3],dW jh 4 [.bool gE],dW ji 34 [dh ck 0]]) (p:d_) (af:okB b) (hl:cells.length=(fx b).toNat) (al:known.length=cells.length) (ao:cM.length<=400000):Calls Tryd.prog 43 #[dh ck 0,P.val p,.func (.func 45) #[] #[dh jh 0,dh ji 0]] W λe w'=>(∃y:cm×Nat,e= .returned (I (jB b most p cM))/\cZ (aE W) [tG eX cM eY,nt bS bL bT cells,oJ dc ey dd known,dW ck 80 [I b.1,I b.2.1,I b.2.2.1,I b.2.2.2.1,I b.2.2.2.2.1,I b.2.2.2.2.2,.slice bS bL bT,xa 0,xa 1,xa 2,xa 3,xa 4,xa 5,xa 6,.slice dc ey dd,aZ 0,aZ 1,aZ 2,I most,bu eX cM eY,xc 0,xc 1,xc 2,xc 3],dW jh 4 [.bool gE],dW ji 34 [dh ck 0]] (aE w') [nK rB 3 ni (.slice y.1 (mS b most p cM (cl b p,cells.getD (cl b p) default,gE)).length y.2) (mS b most p cM (cl b p,cells.getD (cl b p) default,gE)),nt bS bL bT cells,hr n9 1 il (.slice dc ey dd) (pP b most p cM known gE),dW ck qP (List.set [I b.1,I b.2.1,I b.2.2.1,I b.2.2.2.1,I b.2.2.2.2.1,I b.2.2.2.2.2,.slice bS bL bT,xa 0,xa 1,xa 2,xa 3,xa 4,xa 5,xa 6,.slice dc ey dd,aZ 0,aZ 1,aZ 2,I most,bu eX cM eY,xc 0,xc 1,xc 2,xc 3] 19 (.slice y.1 (mS b most p cM (cl b p,cells.getD (cl b p) default,gE)).length y.2)),dW jh 4 [.bool gE],dW ji iV [dh ck 0]])/\cj 0 W w':=by
 refine pN (bD cM eX eY cells bS bL bT dc ey dd ck b xa aZ most xc jh gE ji p) body aO N [ak 0,.agg ⟨[ak 1,ak 2,ak 3]⟩,.func (.func 45) ⟨[]⟩ ⟨[ak 4,ak 5]⟩] Tryd.func43 λa ah=> ?_
 letI:=b6 ah;have aI:=bK.start W _ jA;have fD:bV p b->cl b p<cells.length:=λh=>hl▸Lw h
 by_cases aL:bV p b
 ·replace fD:=fD aL
  by_cases ad:most<=((cM.length:Nat):Int)
  ·refine bA bP j1 (ae jg (ae (ff 28 0 7) (ae (ff 25 0 6) (ae (wh 0 6 3 aI) (ae aU (ae (ff 73 19 1) (ae (ff 71 0 1) (ae (iX 19 3 aI) (ae (eM ((aI.iT 0 rfl).arr vV) BD) (ae (ff 3 18 1) (ae (iX 18 3 aI) (ae bb aP)))))))))))) (cG (Lv U U U U af aL) aQ) ?_ ah
   exact bU e0 λw2 bp=>(by (obtain⟨q1,aH,b0⟩:=aaY (x:=(cl b p,cells.getD (cl b p) default,gE)) (l:=known) (v:=gE) bM bM;rw[q1,aH,b0];exact⟨(_,_),rfl,((aI.pick [0,1,2,3,4,5] rfl).done bp)⟩))
  ·refine bA cd h' (ae jg (ae (ff 28 0 7) (ae (ff 25 0 6) (ae (wh 0 6 3 aI) (ae aU (ae (ff 73 19 1) (ae (ff 71 0 1) (ae (iX 19 3 aI) (ae (eM ((aI.iT 0 rfl).arr vV) BD) (ae (ff 3 18 1) (ae (iX 18 3 aI) (ae aU aP)))))))))))) (cG (Lv U U U U af aL) aQ) ?_ ah
   obtain⟨xF,Ly⟩:=h3 (known.set (cl b p) gE);have HO:xF.length=known.length:=by rw[Ly,List.length_set]
   refine hG (Y:=Unit) (bm:=λaW=>(bD cM eX eY cells bS bL bT dc ey dd ck b xa aZ most xc jh gE ji p xF)) aI [2,3,4,5] (λ_=>[xr _ _ _ dc ey dd xF,_,_,_]) (λ_=>[]) e1 hD (et hp0 (.tuple ⟨[]⟩)) (fC:=λw hw cX aw=>by rw[Ly];exact aa2.any (xa:=mM [I b.1,I b.2.1,I b.2.2.1,I b.2.2.2.1,I b.2.2.2.2.1,I b.2.2.2.2.2,.slice bS bL bT,xa 0,xa 1,xa 2,xa 3,xa 4,xa 5,xa 6] 0) (aZ:=mM [aZ 0,aZ 1,aZ 2,I most,bu eX cM eY,xc 0,xc 1,xc 2,xc 3] 0) _ aw (cl b p) aj) (rest:= ?_);intro j2 _ dp dA w ah;replace dp:=dp.Aa;letI:=b6 ah;refine dP (dQ dV) dk [] (ae jg (ae (ff 73 19 1) (ae (ff 28 0 7) (ae (ff 26 6 1) (ae (iX 6 3 dp) (ae (nr ((dp.arr 1 rfl).arr ko) iz uI) (ae (qm 0 ((dp.arr 1 rfl).arr ko) (lO (cl b p)) vJ) (ae (ff 30 14 1) (ae (iX 14 3 dp) (ae (nr ((dp.arr 2 rfl).arr kq) mn BB) (ae (qm 0 ((dp.arr 2 rfl).arr kq) (lO (cl b p)) JI) aP))))))))))) aQ ?_ ah;refine uM (enc:=ni) (xs:=[(cl b p,(cells.getD (cl b p) default),(xF.getD (cl b p) default))]) (q:=41) (bm:=λf'=>(bD cM eX eY cells bS bL bT dc ey dd ck b xa aZ most xc jh gE ji p xF f')) e9 vV rfl cw cw U U (gI rfl) oe (λ_ _=>fw) ny (λ_=>rfl) ?_;intro nj g1 qB rb Ck mv hJ;have gv:=dp.new (sq qB Ck mv hJ);letI:=b6 ah;obtain⟨nA,rP⟩:=h3 (cM++[(cl b p,(cells.getD (cl b p) default),(xF.getD (cl b p) default))]);refine hG (Y:=dX) (bm:=λaW=>(bD cM eX eY cells bS bL bT dc ey dd ck b xa aZ most xc jh gE ji p xF g1 nA aW.1 aW.2)) gv [0,6,3] (λaW=>[xq _ _ _ aW.1 nA aW.2,_,dW _ _ [_,_,_,_,_,_,_,_,_,_,_,_,_,_,_,_,_,_,_,bu aW.1 nA aW.2,_,_,_,_]]) (λ_=>[]) k0 tR (et hp2 (.tuple ⟨[]⟩)) (fC:=λw hw cX aw=>by rw[rP];exact RN.any (x:=[(cl b p,(cells.getD (cl b p) default),(xF.getD (cl b p) default))]) (xa:=mM [I b.1,I b.2.1,I b.2.2.1,I b.2.2.2.1,I b.2.2.2.2.1,I b.2.2.2.2.2,.slice bS bL bT,xa 0,xa 1,xa 2,xa 3,xa 4,xa 5,xa 6,.slice dc ey dd,aZ 0,aZ 1,aZ 2,I most,bu eX cM eY,xc 0,xc 1,xc 2,xc 3] 0) (aZ:=mM [I b.1,I b.2.1,I b.2.2.1,I b.2.2.2.1,I b.2.2.2.2.1,I b.2.2.2.2.2,.slice bS bL bT,xa 0,xa 1,xa 2,xa 3,xa 4,xa 5,xa 6,.slice dc ey dd,aZ 0,aZ 1,aZ 2,I most,bu eX cM eY,xc 0,xc 1,xc 2,xc 3] 20) _ aw (by simp only [List.length_cons,List.length_nil];omega)) (rest:= ?_);intro nk ⟨j3,j4⟩ ic dA w ah;replace ic:=ic.QT;letI:=b6 ah;refine dP (dQ jf) [] [] aP aQ ?_ ah;exact bU tS λw2 bp=>(by (obtain⟨q1,aH,b0⟩:=aaX (x:=(cl b p,cells.getD (cl b p) default,gE)) (l:=known) (v:=gE) bM bM;rw[q1,aH,b0];rw[Ly,aa0 aj] at rP;subst Ly rP;exact⟨(_,_),rfl,((ic.pick [0,1,2,3,4,5] rfl).done bp)⟩))
 ·refine bA fJ qt (ae jg (ae (ff 28 0 7) (ae (ff 25 0 6) (ae (wh 0 6 3 aI) aP)))) (cG (aaW U U U U af aL) aQ) ?_ ah
  exact bU rK λw2 bp=>(by (obtain⟨q1,aH,b0⟩:=aaZ (x:=(cl b p,cells.getD (cl b p) default,gE)) (l:=known) (v:=gE) (most:=most) (reqs:=cM) bM;rw[q1,aH,b0];exact⟨(_,_),rfl,((aI.pick [0,1,2,3,4,5] rfl).done bp)⟩))
end aa4
end AE
namespace AE
def xG (c:Int):Prop:=0<=c/\c<256
instance (c:Int):Decidable (xG c):=by unfold xG;infer_instance
def j' (b:bQ) (most:Int) (p:d_) (reqs:List gy) (c:Int):Int:=if xG c then jB b most p reqs else 1
def y4 (b:bQ) (most:Int) (p:d_) (reqs:List gy) (c:Int) (x:gy):List gy:=if xG c then mS b most p reqs x else reqs
def Cm {α:Type} (b:bQ) (most:Int) (p:d_) (reqs:List gy) (c:Int) (l:List α) (v:α):List α:=if xG c then pP b most p reqs l v else l
variable {α:Type} {b:bQ} {most:Int} {p:d_} {reqs:List gy} {x:gy} {l:List α} {v:α} {c:Int}
theorem RS (h:0<=c) (ag:c<256):j' b most p reqs c=jB b most p reqs/\y4 b most p reqs c x=mS b most p reqs x/\Cm b most p reqs c l v=pP b most p reqs l v:=⟨aY ⟨h,ag⟩,aY ⟨h,ag⟩,aY ⟨h,ag⟩⟩
theorem RT (h:c<0\/256<=c):j' b most p reqs c=1/\y4 b most p reqs c x=reqs/\Cm b most p reqs c l v=l:=by
 have av:¬xG c:=by unfold xG;omega
 exact⟨a_ av,a_ av,a_ av⟩
end AE
namespace AE
namespace aa5
noncomputable def body:Code:=(Tryd.f18.body).getD .skip
def N:Nat:=17
noncomputable abbrev bC:=fm Tryd.prog Tryd.f18
def aO:b8:={sl:=b3 [(2,4),(1,.agg ⟨[1,2,3]⟩),(0,0)],ms:=[],A:=start}
def bP:bj:=[(.ea (I 34),I 34),
 (.ea (I 3),I 3)]
theorem e0:uK (at' 17 bP [] body aO)=some (34,0):=au
abbrev gA:=at' 17 bP [] body aO
def dF:List bx:=[]
def hd0:aF:=b3 [(2,4),(1,.agg ⟨[1,2,3]⟩)]
def hp0:aF:=fa 17 hd0 3 29
theorem e1:cr (b9 gA) hd0 dF=some [(1,1),(2,2),(3,3),(4,4)]:=au
def dV:dU:=(body,[0],1)
theorem h4:uK (cK 17 bP [] dV (b5 hp0 dF))=some (3,4):=au
abbrev jx:=cK 17 bP [] dV {sl:=hp0,ms:=[],A:=da dF}
def hy:List bx:=[⟨.cells [1,2,3],23,0⟩]
def ht:aF:=b3 [(4,dh 0 0),(3,29)]
def hp1:aF:=fa 17 ht 5 30
theorem jO:cr (b9 jx) ht hy=some [(29,29),(1,1),(2,2),(3,3)]:=au
def iA:dU:=(body,[0],3)
def cd:bj:=[(.ea (I 34),I 34),
 (.ea (I 3),I 3),
 (.bB 3 30,4),
 (.bin .lss 3 4 (I 0),.bool true)]
theorem k0:bC (cK 17 cd [] iA (b5 hp1 hy))=some (I 1):=au
def dk:bj:=[(.ea (I 34),I 34),
 (.ea (I 3),I 3),
 (.bB 3 30,4),
 (.bin .lss 3 4 (I 0),.bool false),
 (.bin .geq 3 4 (I 256),.bool true)]
theorem qq:bC (cK 17 dk [] iA (b5 hp1 hy))=some (I 1):=au
def ei:bj:=[(.ea (I 34),I 34),
 (.ea (I 3),I 3),
 (.bB 3 30,4),
 (.bin .lss 3 4 (I 0),.bool false),
 (.bin .geq 3 4 (I 256),.bool false),
 (.bB 34 29,0)]
theorem yU:hb (cK 17 ei [] iA (b5 hp1 hy))=some (43,[0,.agg ⟨[1,2,3]⟩,.func (.func 44) ⟨[]⟩ ⟨[30,29]⟩]):=au
abbrev pk:=cK 17 ei [] iA {sl:=hp1,ms:=[],A:=da hy}
def kh:List bx:=[]
def k1:aF:=b3 [(6,I 0)]
def hp2:aF:=fa 17 k1 16 32
theorem Cj:cr (b9 pk) k1 kh=some []:=au
def jf:dU:=(body,[1,1,0],4)
theorem Cf:bC (cK 17 bP [] jf (b5 hp2 kh))=some 32:=au
@[reducible] noncomputable def bD (cM:List gy) (eX:cm) (eY:Nat) (bS:cm) (bL bT:Nat) (dc:cm) (ey dd ck:Nat) (b:bQ) (xa:Nat->J) (aZ:Nat->J) (most:Int) (xc:Nat->J) (p:d_) (cell:Int) (eI:Nat:=0) (g1:Nat:=0) (nA:List gy:=[]) (j3:cm:=none) (j4:Nat:=0):List J:=[dh ck 0,I p.1,I p.2.1,I p.2.2,I cell,bu eX cM eY,.slice bS bL bT,.slice dc ey dd,I b.1,I b.2.1,I b.2.2.1,I b.2.2.2.1,I b.2.2.2.2.1,I b.2.2.2.2.2,xa 0,xa 1,xa 2,xa 3,xa 4,xa 5,xa 6,aZ 0,aZ 1,aZ 2,I most,xc 0,xc 1,xc 2,xc 3,dh eI 0,dh g1 0,bu j3 nA j4,I (jB b most p cM)]
theorem any (W:ax) {cM:List gy} {eX:cm} {eY:Nat} {cells:List Int} {bS:cm} {bL bT:Nat} {known:List Bool} {dc:cm} {ey dd ck:Nat} {b:bQ} {xa:Nat->J} {aZ:Nat->J} {most:Int} {xc:Nat->J} (jA:cH (aE W) [tG eX cM eY,nt bS bL bT cells,oJ dc ey dd known,dW ck 80 [I b.1,I b.2.1,I b.2.2.1,I b.2.2.2.1,I b.2.2.2.2.1,I b.2.2.2.2.2,.slice bS bL bT,xa 0,xa 1,xa 2,xa 3,xa 4,xa 5,xa 6,.slice dc ey dd,aZ 0,aZ 1,aZ 2,I most,bu eX cM eY,xc 0,xc 1,xc 2,xc 3]]) (p:d_) (cell:Int) (af:okB b) (hl:cells.length=(fx b).toNat) (al:known.length=cells.length) (ao:cM.length<=400000):Calls Tryd.prog 18 #[dh ck 0,P.val p,I cell] W λe w'=>(∃y:cm×Nat,e= .returned (I (j' b most p cM cell))/\cZ (aE W) [tG eX cM eY,nt bS bL bT cells,oJ dc ey dd known,dW ck 80 [I b.1,I b.2.1,I b.2.2.1,I b.2.2.2.1,I b.2.2.2.2.1,I b.2.2.2.2.2,.slice bS bL bT,xa 0,xa 1,xa 2,xa 3,xa 4,xa 5,xa 6,.slice dc ey dd,aZ 0,aZ 1,aZ 2,I most,bu eX cM eY,xc 0,xc 1,xc 2,xc 3]] (aE w') [nK rB 3 ni (.slice y.1 (y4 b most p cM cell (cl b p,cell,known.ew (cl b p))).length y.2) (y4 b most p cM cell (cl b p,cell,known.ew (cl b p))),hr kQ 1 fQ (.slice bS bL bT) (Cm b most p cM cell cells cell),oJ dc ey dd known,dW ck qP (List.set [I b.1,I b.2.1,I b.2.2.1,I b.2.2.2.1,I b.2.2.2.2.1,I b.2.2.2.2.2,.slice bS bL bT,xa 0,xa 1,xa 2,xa 3,xa 4,xa 5,xa 6,.slice dc ey dd,aZ 0,aZ 1,aZ 2,I most,bu eX cM eY,xc 0,xc 1,xc 2,xc 3] 19 (.slice y.1 (y4 b most p cM cell (cl b p,cell,known.ew (cl b p))).length y.2))])/\cj 0 W w':=by
 refine pN (bD cM eX eY bS bL bT dc ey dd ck b xa aZ most xc p cell) body aO N [ak 0,.agg ⟨[ak 1,ak 2,ak 3]⟩,ak 4] Tryd.func18 λa ah=> ?_
 letI:=b6 ah;have aI:=bK.start W _ jA;refine bA bP [] (ae (gD _) (ae (gD _) aP)) aQ ?_ ah;refine xe (u:=dh ck 0) (cs:=[dh ck 0]) (bm:=λf'=>(bD cM eX eY bS bL bT dc ey dd ck b xa aZ most xc p cell f')) e0 U U U e1 (et hp0 29) rfl (λ_ f'=>fw) (λ_ _=>rfl) ?_;intro j2 eI fc Cd jw dA w ah;have dp:=aI.new (tl Cd fc jw);replace dp:=dp.B0;letI:=b6 ah;refine dP (dQ dV) bP [] (ae (gD _) (ae (gD _) aP)) aQ ?_ ah;refine xe (u:=I cell) (cs:=[I cell]) (bm:=λf'=>(bD cM eX eY bS bL bT dc ey dd ck b xa aZ most xc p cell eI f')) h4 U U U jO (et hp1 30) rfl (λ_ f'=>fw) (λ_ _=>rfl) ?_;intro nj g1 hJ rq mv dA w ah;have gv:=dp.new (tl rq hJ mv);replace gv:=gv.Aa;letI:=b6 ah;by_cases kC:cell<0
 ·refine dP (dQ iA) cd [] (ae (gD _) (ae (gD _) (ae (iX 0 5 gv) (ae bb aP)))) aQ ?_ ah
  exact bU k0 λw2 bp=>(by first|(obtain⟨q1,aH,b0⟩:=RT (x:=(cl b p,cell,known.ew (cl b p))) (l:=cells) (v:=cell) (b:=b) (most:=most) (p:=p) (reqs:=cM) (c:=cell) aj;rw[q1,aH,b0];exact⟨(_,_),rfl,((gv.pick [0,1,2,3] rfl).done bp)⟩)|(obtain⟨q1,aH,b0⟩:=RS (x:=(cl b p,cell,known.ew (cl b p))) (l:=cells) (v:=cell) (b:=b) (most:=most) (p:=p) (reqs:=cM) (c:=cell) aj aj;rw[q1,aH,b0];subst rP Lz;exact⟨(_,_),rfl,((gv.pick [0,1,2,3] rfl).done bp)⟩))
 ·by_cases q1:256<=cell
  ·refine dP (dQ iA) dk [] (ae (gD _) (ae (gD _) (ae (iX 0 5 gv) (ae aU (ae bb aP))))) aQ ?_ ah
   exact bU qq λw2 bp=>(by first|(obtain⟨q1,aH,b0⟩:=RT (x:=(cl b p,cell,known.ew (cl b p))) (l:=cells) (v:=cell) (b:=b) (most:=most) (p:=p) (reqs:=cM) (c:=cell) aj;rw[q1,aH,b0];exact⟨(_,_),rfl,((gv.pick [0,1,2,3] rfl).done bp)⟩)|(obtain⟨q1,aH,b0⟩:=RS (x:=(cl b p,cell,known.ew (cl b p))) (l:=cells) (v:=cell) (b:=b) (most:=most) (p:=p) (reqs:=cM) (c:=cell) aj aj;rw[q1,aH,b0];subst rP Lz;exact⟨(_,_),rfl,((gv.pick [0,1,2,3] rfl).done bp)⟩))
  ·refine dP (dQ iA) ei [] (ae (gD _) (ae (gD _) (ae (iX 0 5 gv) (ae aU (ae aU (ae (iX 0 4 gv) aP)))))) aQ ?_ ah
   obtain⟨nA,rP⟩:=h3 (mS b most p cM (cl b p,cell,known.ew (cl b p)));obtain⟨ak9,Lz⟩:=h3 (pP b most p cM cells cell);refine hG (Y:=dX) (bm:=λaW=>(bD cM eX eY bS bL bT dc ey dd ck b xa aZ most xc p cell eI g1 nA aW.1 aW.2)) gv [0,1,2,3,5,4] (λaW=>[xq _ _ _ aW.1 nA aW.2,xr _ _ _ bS bL bT ak9,_,dW _ _ [_,_,_,_,_,_,_,_,_,_,_,_,_,_,_,_,_,_,_,bu aW.1 nA aW.2,_,_,_,_],_,_]) (λ_=>[]) yU Cj (et hp2 32) (fC:=λw hw cX aw=>by rw[rP,Lz];exact aa3.any (xa:=xa) (aZ:=aZ) (xc:=xc) _ aw p af hl al ao) (rest:= ?_);intro nk ⟨j3,j4⟩ ic dA w ah;replace ic:=ic.Aa;letI:=b6 ah;refine dP (dQ jf) bP [] (ae (gD _) (ae (gD _) aP)) aQ ?_ ah;exact bU Cf λw2 bp=>(by first|(obtain⟨q1,aH,b0⟩:=RT (x:=(cl b p,cell,known.ew (cl b p))) (l:=cells) (v:=cell) (b:=b) (most:=most) (p:=p) (reqs:=cM) (c:=cell) aj;rw[q1,aH,b0];exact⟨(_,_),rfl,((ic.pick [0,1,2,3] rfl).done bp)⟩)|(obtain⟨q1,aH,b0⟩:=RS (x:=(cl b p,cell,known.ew (cl b p))) (l:=cells) (v:=cell) (b:=b) (most:=most) (p:=p) (reqs:=cM) (c:=cell) aj aj;rw[q1,aH,b0];subst rP Lz;exact⟨(_,_),rfl,((ic.pick [0,1,2,3] rfl).done bp)⟩))
end aa5
namespace aa6
noncomputable def body:Code:=(Tryd.f19.body).getD .skip
def N:Nat:=11
def aO:b8:={sl:=b3 [(2,4),(1,.agg ⟨[1,2,3]⟩),(0,0)],ms:=[],A:=start}
def bP:bj:=[(.ea (I 34),I 34),
 (.ea (I 4),I 4)]
theorem e0:uK (at' 11 bP [] body aO)=some (34,0):=au
abbrev gA:=at' 11 bP [] body aO
def dF:List bx:=[]
def hd0:aF:=b3 [(2,4),(1,.agg ⟨[1,2,3]⟩)]
def hp0:aF:=fa 11 hd0 3 29
theorem e1:cr (b9 gA) hd0 dF=some [(1,1),(2,2),(3,3),(4,4)]:=au
def dV:dU:=(body,[0],1)
theorem h4:uK (cK 11 bP [] dV (b5 hp0 dF))=some (4,4):=au
abbrev jx:=cK 11 bP [] dV {sl:=hp0,ms:=[],A:=da dF}
def hy:List bx:=[⟨.cells [1,2,3],23,0⟩]
def ht:aF:=b3 [(4,dh 0 0),(3,29)]
def hp1:aF:=fa 11 ht 5 30
theorem jO:cr (b9 jx) ht hy=some [(29,29),(1,1),(2,2),(3,3)]:=au
def iA:dU:=(body,[0],3)
def cd:bj:=[(.ea (I 34),I 34),
 (.ea (I 4),I 4),
 (.bB 34 29,0)]
theorem k0:hb (cK 11 cd [] iA (b5 hp1 hy))=some (43,[0,.agg ⟨[1,2,3]⟩,.func (.func 45) ⟨[]⟩ ⟨[30,29]⟩]):=au
abbrev pk:=cK 11 cd [] iA {sl:=hp1,ms:=[],A:=da hy}
def kh:List bx:=[]
def k1:aF:=b3 [(6,I 0)]
def hp2:aF:=fa 11 k1 10 32
theorem tR:cr (b9 pk) k1 kh=some []:=au
def jf:dU:=(body,[1,0],4)
theorem tS:fm Tryd.prog Tryd.f19 (cK 11 bP [] jf (b5 hp2 kh))=some 32:=au
@[reducible] noncomputable def bD (cM:List gy) (eX:cm) (eY:Nat) (bS:cm) (bL bT:Nat) (dc:cm) (ey dd ck:Nat) (b:bQ) (xa:Nat->J) (aZ:Nat->J) (most:Int) (xc:Nat->J) (p:d_) (gE:Bool) (eI:Nat:=0) (g1:Nat:=0) (nA:List gy:=[]) (j3:cm:=none) (j4:Nat:=0):List J:=[dh ck 0,I p.1,I p.2.1,I p.2.2,.bool gE,bu eX cM eY,.slice bS bL bT,.slice dc ey dd,I b.1,I b.2.1,I b.2.2.1,I b.2.2.2.1,I b.2.2.2.2.1,I b.2.2.2.2.2,xa 0,xa 1,xa 2,xa 3,xa 4,xa 5,xa 6,aZ 0,aZ 1,aZ 2,I most,xc 0,xc 1,xc 2,xc 3,dh eI 0,dh g1 0,bu j3 nA j4,I (jB b most p cM)]
theorem any (W:ax) {cM:List gy} {eX:cm} {eY:Nat} {cells:List Int} {bS:cm} {bL bT:Nat} {known:List Bool} {dc:cm} {ey dd ck:Nat} {b:bQ} {xa:Nat->J} {aZ:Nat->J} {most:Int} {xc:Nat->J} (jA:cH (aE W) [tG eX cM eY,nt bS bL bT cells,oJ dc ey dd known,dW ck 80 [I b.1,I b.2.1,I b.2.2.1,I b.2.2.2.1,I b.2.2.2.2.1,I b.2.2.2.2.2,.slice bS bL bT,xa 0,xa 1,xa 2,xa 3,xa 4,xa 5,xa 6,.slice dc ey dd,aZ 0,aZ 1,aZ 2,I most,bu eX cM eY,xc 0,xc 1,xc 2,xc 3]]) (p:d_) (gE:Bool) (af:okB b) (hl:cells.length=(fx b).toNat) (al:known.length=cells.length) (ao:cM.length<=400000):Calls Tryd.prog 19 #[dh ck 0,P.val p,.bool gE] W λe w'=>(∃y:cm×Nat,e= .returned (I (jB b most p cM))/\cZ (aE W) [tG eX cM eY,nt bS bL bT cells,oJ dc ey dd known,dW ck 80 [I b.1,I b.2.1,I b.2.2.1,I b.2.2.2.1,I b.2.2.2.2.1,I b.2.2.2.2.2,.slice bS bL bT,xa 0,xa 1,xa 2,xa 3,xa 4,xa 5,xa 6,.slice dc ey dd,aZ 0,aZ 1,aZ 2,I most,bu eX cM eY,xc 0,xc 1,xc 2,xc 3]] (aE w') [nK rB 3 ni (.slice y.1 (mS b most p cM (cl b p,cells.ew (cl b p),gE)).length y.2) (mS b most p cM (cl b p,cells.ew (cl b p),gE)),nt bS bL bT cells,hr n9 1 il (.slice dc ey dd) (pP b most p cM known gE),dW ck qP (List.set [I b.1,I b.2.1,I b.2.2.1,I b.2.2.2.1,I b.2.2.2.2.1,I b.2.2.2.2.2,.slice bS bL bT,xa 0,xa 1,xa 2,xa 3,xa 4,xa 5,xa 6,.slice dc ey dd,aZ 0,aZ 1,aZ 2,I most,bu eX cM eY,xc 0,xc 1,xc 2,xc 3] 19 (.slice y.1 (mS b most p cM (cl b p,cells.ew (cl b p),gE)).length y.2))])/\cj 0 W w':=by
 refine pN (bD cM eX eY bS bL bT dc ey dd ck b xa aZ most xc p gE) body aO N [ak 0,.agg ⟨[ak 1,ak 2,ak 3]⟩,ak 4] Tryd.func19 λa ah=> ?_
 letI:=b6 ah;have aI:=bK.start W _ jA;refine bA bP [] (ae (gD _) (ae (gD _) aP)) aQ ?_ ah;refine xe (u:=dh ck 0) (cs:=[dh ck 0]) (bm:=λf'=>(bD cM eX eY bS bL bT dc ey dd ck b xa aZ most xc p gE f')) e0 U U U e1 (et hp0 29) rfl (λ_ f'=>fw) (λ_ _=>rfl) ?_;intro j2 eI fc Cd jw dA w ah;have dp:=aI.new (tl Cd fc jw);replace dp:=dp.B0;letI:=b6 ah;refine dP (dQ dV) bP [] (ae (gD _) (ae (gD _) aP)) aQ ?_ ah;refine xe (u:= .bool gE) (cs:=[.bool gE]) (bm:=λf'=>(bD cM eX eY bS bL bT dc ey dd ck b xa aZ most xc p gE eI f')) h4 U U U jO (et hp1 30) rfl (λ_ f'=>fw) (λ_ _=>rfl) ?_;intro nj g1 hJ rq mv dA w ah;have gv:=dp.new (tl rq hJ mv);replace gv:=gv.Aa;letI:=b6 ah;refine dP (dQ iA) cd [] (ae (gD _) (ae (gD _) (ae (iX 0 4 gv) aP))) aQ ?_ ah;obtain⟨nA,rP⟩:=h3 (mS b most p cM (cl b p,cells.ew (cl b p),gE));obtain⟨ak',aa7⟩:=h3 (pP b most p cM known gE);refine hG (Y:=dX) (bm:=λaW=>(bD cM eX eY bS bL bT dc ey dd ck b xa aZ most xc p gE eI g1 nA aW.1 aW.2)) gv [0,1,2,3,5,4] (λaW=>[xq _ _ _ aW.1 nA aW.2,_,xr _ _ _ dc ey dd ak',dW _ _ [_,_,_,_,_,_,_,_,_,_,_,_,_,_,_,_,_,_,_,bu aW.1 nA aW.2,_,_,_,_],_,_]) (λ_=>[]) k0 tR (et hp2 32) (fC:=λw hw cX aw=>by rw[rP,aa7];exact aa4.any (xa:=xa) (aZ:=aZ) (xc:=xc) _ aw p af hl al ao) (rest:= ?_);intro nk ⟨j3,j4⟩ ic dA w ah;replace ic:=ic.Aa;letI:=b6 ah;refine dP (dQ jf) bP [] (ae (gD _) (ae (gD _) aP)) aQ ?_ ah;exact bU tS λw2 bp=>(by subst rP aa7;exact⟨(_,_),rfl,((ic.pick [0,1,2,3] rfl).done bp)⟩)
end aa6
end AE
namespace AE
namespace aa8
noncomputable def body:Code:=(Tryd.f51.body).getD .skip
def N:Nat:=16
def aO:b8:={sl:=b3 [(1,.func (.func 52) ⟨[]⟩ ⟨[0,1]⟩),(0,.agg ⟨[3,4,5,6,7,8,2]⟩)],ms:=[],A:=start}
theorem e0:hb (at' 16 [] [] body aO)=some (77,[2]):=au
abbrev gA:=at' 16 [] [] body aO
def dF:List bx:=[⟨.cells [3,4,5,6,7,8,2],28,0⟩,⟨.cells [I 0,I 0,I 0,I 0,I 0,I 0,.slice none 0 0],28,0⟩]
def hd0:aF:=b3 [(4,dh 1 0),(2,dh 0 0),(1,.func (.func 52) ⟨[]⟩ ⟨[0,1]⟩)]
def hp0:aF:=fa 16 hd0 8 9
theorem e3:cr (kS Tryd.prog gA) hd0 dF=some [(0,0),(1,1),(3,3),(4,4),(5,5),(6,6),(7,7),(8,8),(2,2)]:=au
def dV:dU:=(body,[1,0],3)
def cd:bj:=[(.bB 28 0,.agg ⟨[3,4,5,6,7,8,2]⟩),
 (.cq 28 1 0,1),
 (.bB 25 1,.agg ⟨[I 0,I 0,I 0,I 0,I 0,I 0]⟩)]
def h':dZ:=[(78,[.agg ⟨[3,4,5,6,7,8]⟩,.agg ⟨[I 0,I 0,I 0,I 0,I 0,I 0]⟩],.agg ⟨[I 0,I 0,I 0,I 0,I 0,I 0]⟩)]
theorem mF:fm Tryd.prog Tryd.f51 (cK 16 cd h' dV (b5 hp0 dF))=some (.agg ⟨[3,4,5,6,7,8,9]⟩):=au
@[reducible] noncomputable def bD (bS:cm) (bL bT qX:Nat) (b:bQ) (qY:Nat) (sH:List Int:=[]) (ia:cm:=none) (ib:Nat:=0):List J:=[dh qX 0,dh qY 0,.slice bS bL bT,I b.1,I b.2.1,I b.2.2.1,I b.2.2.2.1,I b.2.2.2.2.1,I b.2.2.2.2.2,bu ia sH ib]
theorem any (W:ax) {cells:List Int} {bS:cm} {bL bT qX:Nat} {b:bQ} {qY:Nat} (jA:cH (aE W) [nt bS bL bT cells,dW qX 28 [I b.1,I b.2.1,I b.2.2.1,I b.2.2.2.1,I b.2.2.2.2.1,I b.2.2.2.2.2,.slice bS bL bT],dW qY 28 [I 0,I 0,I 0,I 0,I 0,I 0,.slice none 0 0]]) (av:cells.length<=100000):Calls Tryd.prog 51 #[.agg ⟨[I b.1,I b.2.1,I b.2.2.1,I b.2.2.2.1,I b.2.2.2.2.1,I b.2.2.2.2.2,.slice bS bL bT]⟩,.func (.func 52) #[] #[dh qX 0,dh qY 0]] W λe w'=>(∃y:cm×Nat,e= .returned (.agg ⟨[I b.1,I b.2.1,I b.2.2.1,I b.2.2.2.1,I b.2.2.2.2.1,I b.2.2.2.2.2,bu y.1 cells y.2]⟩)/\cZ (aE W) [nt bS bL bT cells,dW qX 28 [I b.1,I b.2.1,I b.2.2.1,I b.2.2.2.1,I b.2.2.2.2.1,I b.2.2.2.2.2,.slice bS bL bT],dW qY 28 [I 0,I 0,I 0,I 0,I 0,I 0,.slice none 0 0]] (aE w') [nt bS bL bT cells,dW qX 28 [I b.1,I b.2.1,I b.2.2.1,I b.2.2.2.1,I b.2.2.2.2.1,I b.2.2.2.2.2,.slice bS bL bT],dW qY 28 [I 0,I 0,I 0,I 0,I 0,I 0,.slice none 0 0],qn y.1 cells y.2])/\cj 0 W w':=by
 refine pN (bD bS bL bT qX b qY) body aO N [.agg ⟨[ak 3,ak 4,ak 5,ak 6,ak 7,ak 8,ak 2]⟩,.func (.func 52) ⟨[]⟩ ⟨[ak 0,ak 1]⟩] Tryd.func51 λa ah=> ?_
 letI:=b6 ah;have aI:=bK.start W _ jA;refine bA [] [] aP aQ ?_ ah;obtain⟨sH,Al⟩:=h3 (cells);refine hG (Y:=dX) (bm:=λaW=>(bD bS bL bT qX b qY sH aW.1 aW.2)) aI [0] (λaW=>[_]) (λaW=>[qn aW.1 sH aW.2]) e0 e3 (et hp0 9) (fC:=λw hw cX aw=>by rw[Al];exact Kx aw (Rn.any _ ((aw.arr 0 rfl).arr ko) av)) (rest:= ?_);intro j2 ⟨ia,ib⟩ dp dA w ah;replace dp:=dp.BZ;letI:=b6 ah;refine dP (dQ dV) cd h' (ae (wh 0 7 1 dp) (ae (ff 25 0 6) (ae (wh 0 6 2 dp) aP))) (cG (ZV U U U U) aQ) ?_ ah;exact bU mF λw2 bp=>(by subst Al;exact⟨(_,_),rfl,(dp.done bp)⟩)
end aa8
namespace aa9
noncomputable def body:Code:=(Tryd.f31.body).getD .skip
def N:Nat:=8
def aO:b8:={sl:=b3 [(1,.agg ⟨[I 0,I 0,I 0,I 0,I 0,I 0,.slice none 0 0]⟩),(0,.agg ⟨[1,2,3,4,5,6,0]⟩)],ms:=[],A:=start}
def bP:bj:=[(.ea (I 28),I 28)]
theorem e0:uK (at' 8 bP [] body aO)=some (28,(.agg ⟨[1,2,3,4,5,6,0]⟩)):=au
abbrev gA:=at' 8 bP [] body aO
def dF:List bx:=[]
def hd0:aF:=b3 [(1,.agg ⟨[I 0,I 0,I 0,I 0,I 0,I 0,.slice none 0 0]⟩)]
def hp0:aF:=fa 8 hd0 2 7
theorem e1:cr (b9 gA) hd0 dF=some []:=au
def dV:dU:=(body,[0],1)
theorem h4:uK (cK 8 bP [] dV (b5 hp0 dF))=some (28,(.agg ⟨[I 0,I 0,I 0,I 0,I 0,I 0,.slice none 0 0]⟩)):=au
abbrev jx:=cK 8 bP [] dV {sl:=hp0,ms:=[],A:=da dF}
def hy:List bx:=[]
def ht:aF:=b3 [(2,7)]
def hp1:aF:=fa 8 ht 3 8
theorem jO:cr (b9 jx) ht hy=some [(7,7)]:=au
def iA:dU:=(body,[0],2)
theorem k0:FK (cK 8 bP [] iA (b5 hp1 hy))=some 28:=au
abbrev pk:=cK 8 bP [] iA {sl:=hp1,ms:=[],A:=da hy}
def kh:List bx:=[]
def k1:aF:=b3 [(3,8),(2,7)]
def hp2:aF:=fa 8 k1 4 9
theorem qq:cr (b9 pk) k1 kh=some [(8,8),(7,7)]:=au
def jf:dU:=(body,[0],3)
def cd:bj:=[(.ea (I 28),I 28),
 (.bB 28 7,.agg ⟨[1,2,3,4,5,6,0]⟩)]
theorem tK:hb (cK 8 cd [] jf (b5 hp2 kh))=some (51,[.agg ⟨[1,2,3,4,5,6,0]⟩,.func (.func 52) ⟨[]⟩ ⟨[7,8]⟩]):=au
abbrev yT:=cK 8 cd [] jf {sl:=hp2,ms:=[],A:=da kh}
def rJ:List bx:=[]
def u2:aF:=b3 [(4,9)]
def hp3:aF:=fa 8 u2 7 (.agg ⟨[1,2,3,4,5,6,10]⟩)
theorem rK:cr (b9 yT) u2 rJ=some [(9,9)]:=au
def tL:dU:=(body,[1,0],3)
theorem Cb:nJ (cK 8 bP [] tL (b5 hp3 rJ))=some (28,9,(.agg ⟨[1,2,3,4,5,6,10]⟩)):=au
abbrev tM:=cK 8 bP [] tL {sl:=hp3,ms:=[],A:=da rJ}
def tN:List bx:=[]
def tO:aF:=b3 [(4,9)]
def qc:aF:=match g' 8 tO none (.tuple ⟨[]⟩) with|some s=>s|none=> .nil
theorem Hj:cr (b9 tM) tO tN=some [(9,9)]:=au
def Hk:dU:=(body,[1,0],4)
theorem Cc:endCell Tryd.f31 (cK 8 bP [] Hk (b5 qc tN))=some (28,9):=au
@[reducible] noncomputable def bD (bS:cm) (bL bT:Nat) (b:bQ) (eI:Nat:=0) (g1:Nat:=0) (g2:Nat:=0) (qs:List Int:=[]) (tP:cm:=none) (tQ:Nat:=0):List J:=[.slice bS bL bT,I b.1,I b.2.1,I b.2.2.1,I b.2.2.2.1,I b.2.2.2.2.1,I b.2.2.2.2.2,dh eI 0,dh g1 0,dh g2 0,bu tP qs tQ]
theorem any (W:ax) {cells:List Int} {bS:cm} {bL bT:Nat} (jA:cH (aE W) [nt bS bL bT cells]) {b:bQ} (av:cells.length<=100000):Calls Tryd.prog 31 #[.agg ⟨[I b.1,I b.2.1,I b.2.2.1,I b.2.2.2.1,I b.2.2.2.2.1,I b.2.2.2.2.2,.slice bS bL bT]⟩,.agg ⟨[I 0,I 0,I 0,I 0,I 0,I 0,.slice none 0 0]⟩] W λe w'=>(∃y:cm×Nat,e= .returned (.agg ⟨[I b.1,I b.2.1,I b.2.2.1,I b.2.2.2.1,I b.2.2.2.2.1,I b.2.2.2.2.2,bu y.1 cells y.2]⟩)/\cZ (aE W) [nt bS bL bT cells] (aE w') [nt bS bL bT cells,qn y.1 cells y.2])/\cj 0 W w':=by
 refine pN (bD bS bL bT b) body aO N [.agg ⟨[ak 1,ak 2,ak 3,ak 4,ak 5,ak 6,ak 0]⟩,.agg ⟨[I 0,I 0,I 0,I 0,I 0,I 0,.slice none 0 0]⟩] Tryd.func31 λa ah=> ?_
 letI:=b6 ah;have aI:=bK.start W _ jA;refine bA bP [] (ae (gD _) aP) aQ ?_ ah;refine xe (u:= .agg ⟨[I b.1,I b.2.1,I b.2.2.1,I b.2.2.2.1,I b.2.2.2.2.1,I b.2.2.2.2.2,.slice bS bL bT]⟩) (cs:=[I b.1,I b.2.1,I b.2.2.1,I b.2.2.2.1,I b.2.2.2.2.1,I b.2.2.2.2.2,.slice bS bL bT]) (bm:=λf'=>(bD bS bL bT b f')) e0 U U U e1 (et hp0 7) rfl (λ_ f'=>zE) (λ_ _=>rfl) ?_;intro j2 eI fc Cd jw dA w ah;have dp:=aI.new (tl Cd fc jw);replace dp:=dp.G2;letI:=b6 ah;refine dP (dQ dV) bP [] (ae (gD _) aP) aQ ?_ ah;refine xe (u:= .agg ⟨[I 0,I 0,I 0,I 0,I 0,I 0,.slice none 0 0]⟩) (cs:=[I 0,I 0,I 0,I 0,I 0,I 0,.slice none 0 0]) (bm:=λf'=>(bD bS bL bT b eI f')) h4 U U U jO (et hp1 8) rfl (λ_ f'=>fw) (λ_ _=>rfl) ?_;intro nj g1 hJ rq mv dA w ah;have gv:=dp.new (tl rq hJ mv);replace gv:=gv.wi;letI:=b6 ah;refine dP (dQ iA) bP [] (ae (gD _) aP) aQ ?_ ah;refine OH (z:= .agg ⟨[I 0,I 0,I 0,I 0,I 0,I 0,.slice none 0 0]⟩) (bm:=λf'=>(bD bS bL bT b eI g1 f')) k0 au qq (et hp2 9) rfl (λ_ f'=>fw) (λ_ _=>rfl) ?_;intro nk g2 vz kK Rp Hl dA w ah;have ic:=gv.new (tl (ty:=28) (cs:=[I 0,I 0,I 0,I 0,I 0,I 0,.slice none 0 0]) (jr.mk' vz Rp) kK Hl);replace ic:=ic.BZ;letI:=b6 ah;refine dP (dQ jf) cd [] (ae (gD _) (ae (wh 0 7 1 ic) aP)) aQ ?_ ah;obtain⟨qs,Hm⟩:=h3 (cells);refine hG (Y:=dX) (bm:=λaW=>(bD bS bL bT b eI g1 g2 qs aW.1 aW.2)) ic [0,1,2] (λaW=>[_,_,_]) (λaW=>[qn aW.1 qs aW.2]) tK rK (et hp3 (.agg ⟨[1,2,3,4,5,6,10]⟩)) (fC:=λw hw cX aw=>by rw[Hm];exact aa8.any _ aw av) (rest:= ?_);intro Rq ⟨tP,tQ⟩ oN dA w ah;replace oN:=oN.B0;letI:=b6 ah;refine dP (dQ tL) bP [] (ae (gD _) aP) aQ ?_ ah;refine OO (g:=g2) (j:=0) (n:=7) (us:=[I b.1,I b.2.1,I b.2.2.1,I b.2.2.2.1,I b.2.2.2.2.1,I b.2.2.2.2.2,bu tP qs tQ]) (cs:=[I 0,I 0,I 0,I 0,I 0,I 0,.slice none 0 0]) (cs':=[I b.1,I b.2.1,I b.2.2.1,I b.2.2.2.1,I b.2.2.2.2.1,I b.2.2.2.2.2,bu tP qs tQ]) (bm:=(bD bS bL bT b eI g1 g2 qs tP tQ)) rfl Cb au Hj (et qc (.tuple ⟨[]⟩)) U U U U U (p_ rfl (p_ rfl (p_ rfl (p_ rfl (p_ rfl (p_ rfl (p_ rfl FU))))))) (oN.box 3 rfl) (gI rfl) (λ_=>fw) ?_;intro Ln Rr Ce dA w ah;have pn:=oN.lZ 3 rfl (vO Rr Ce);replace pn:=pn.B0;letI:=b6 ah;refine dP (dQ Hk) bP [] (ae (gD _) aP) aQ ?_ ah;exact OU (v:= .agg ⟨[ak 1,ak 2,ak 3,ak 4,ak 5,ak 6,ak 10]⟩) (cs:=[I b.1,I b.2.1,I b.2.2.1,I b.2.2.2.1,I b.2.2.2.2.1,I b.2.2.2.2.2,bu tP qs tQ]) Cc U U (pn.box 3 rfl) au (show bk Tryd.prog (sizeOf 28)=some 7 by kernel_rfl) U U λw2 eW bp=>⟨(by subst Hm;exact⟨(_,_),rfl,((pn.pick [0,4] rfl).done bp)⟩),eW⟩
end aa9
namespace aa'
noncomputable def body:Code:=(Tryd.f22.body).getD .skip
def N:Nat:=9
def aO:b8:={sl:=b3 [(0,0)],ms:=[],A:=start}
def bP:bj:=[(.dN 0,0),
 (.cq 80 0 0,0),
 (.bB 28 0,.agg ⟨[2,3,4,5,6,7,1]⟩)]
theorem e0:hb (at' 9 bP [] body aO)=some (31,[.agg ⟨[2,3,4,5,6,7,1]⟩,.agg ⟨[I 0,I 0,I 0,I 0,I 0,I 0,.slice none 0 0]⟩]):=au
abbrev gA:=at' 9 bP [] body aO
def dF:List bx:=[⟨.cells [I 0,I 0,I 0,I 0,I 0,I 0,.slice none 0 0],28,0⟩]
def hd0:aF:=b3 [(2,dh 0 0)]
def hp0:aF:=fa 9 hd0 8 (.agg ⟨[2,3,4,5,6,7,25]⟩)
theorem e3:cr (kS Tryd.prog gA) hd0 dF=some []:=au
def dV:dU:=(body,[1,0],6)
theorem mF:fm Tryd.prog Tryd.f22 (cK 9 [] [] dV (b5 hp0 dF))=some (.agg ⟨[2,3,4,5,6,7,25]⟩):=au
@[reducible] noncomputable def bD (bS:cm) (bL bT ck:Nat) (b:bQ) (xa:Nat->J) (sH:List Int:=[]) (ia:cm:=none) (ib:Nat:=0):List J:=[dh ck 0,.slice bS bL bT,I b.1,I b.2.1,I b.2.2.1,I b.2.2.2.1,I b.2.2.2.2.1,I b.2.2.2.2.2,xa 0,xa 1,xa 2,xa 3,xa 4,xa 5,xa 6,xa 7,xa 8,xa 9,xa 10,xa 11,xa 12,xa 13,xa 14,xa 15,xa 16,bu ia sH ib]
theorem any (W:ax) {cells:List Int} {bS:cm} {bL bT ck:Nat} {b:bQ} {xa:Nat->J} (jA:cH (aE W) [nt bS bL bT cells,dW ck 80 [I b.1,I b.2.1,I b.2.2.1,I b.2.2.2.1,I b.2.2.2.2.1,I b.2.2.2.2.2,.slice bS bL bT,xa 0,xa 1,xa 2,xa 3,xa 4,xa 5,xa 6,xa 7,xa 8,xa 9,xa 10,xa 11,xa 12,xa 13,xa 14,xa 15,xa 16]]) (av:cells.length<=100000):Calls Tryd.prog 22 #[dh ck 0] W λe w'=>(∃y:cm×Nat,e= .returned (.agg ⟨[I b.1,I b.2.1,I b.2.2.1,I b.2.2.2.1,I b.2.2.2.2.1,I b.2.2.2.2.2,bu y.1 cells y.2]⟩)/\cZ (aE W) [nt bS bL bT cells,dW ck 80 [I b.1,I b.2.1,I b.2.2.1,I b.2.2.2.1,I b.2.2.2.2.1,I b.2.2.2.2.2,.slice bS bL bT,xa 0,xa 1,xa 2,xa 3,xa 4,xa 5,xa 6,xa 7,xa 8,xa 9,xa 10,xa 11,xa 12,xa 13,xa 14,xa 15,xa 16]] (aE w') [nt bS bL bT cells,dW ck qP [I b.1,I b.2.1,I b.2.2.1,I b.2.2.2.1,I b.2.2.2.2.1,I b.2.2.2.2.2,.slice bS bL bT,xa 0,xa 1,xa 2,xa 3,xa 4,xa 5,xa 6,xa 7,xa 8,xa 9,xa 10,xa 11,xa 12,xa 13,xa 14,xa 15,xa 16],qn y.1 cells y.2])/\cj 0 W w':=by
 refine pN (bD bS bL bT ck b xa) body aO N [ak 0] Tryd.func22 λa ah=> ?_
 letI:=b6 ah;have aI:=bK.start W _ jA;refine bA bP [] (ae jg (ae (ff 28 0 7) (ae (wh 0 7 1 aI) aP))) aQ ?_ ah;obtain⟨sH,Al⟩:=h3 (cells);refine hG (Y:=dX) (bm:=λaW=>(bD bS bL bT ck b xa sH aW.1 aW.2)) aI [0] (λaW=>[_]) (λaW=>[qn aW.1 sH aW.2]) e0 e3 (et hp0 (.agg ⟨[2,3,4,5,6,7,25]⟩)) (fC:=λw hw cX aw=>by rw[Al];exact aa9.any _ aw av) (rest:= ?_);intro j2 ⟨ia,ib⟩ dp dA w ah;replace dp:=dp.wi;letI:=b6 ah;refine dP (dQ dV) [] [] aP aQ ?_ ah;exact bU mF λw2 bp=>(by subst Al;exact⟨(_,_),rfl,(dp.done bp)⟩)
end aa'
end AE
namespace AE
namespace aa_
noncomputable def body:Code:=(Tryd.f9.body).getD .skip
def N:Nat:=75
noncomputable abbrev bC:=fm Tryd.prog Tryd.f9
def aO:b8:={sl:=b3 [(3,2),(2,1),(1,0),(0,.agg ⟨[3,4,5,6,7,8,9]⟩)],ms:=[],A:=start}
def bP:bj:=[(.ea (I 80),I 80),
 (.bin .neq 35 10 (I 0),.bool false),
 (.bin .lss 3 2 (I 1),.bool true)]
def j1:dZ:=[(30,[.agg ⟨[3,4,5,6,7,8,9]⟩,0,1],10)]
theorem e0:bC (at' 75 bP j1 body aO)=some (.tuple ⟨[.pointer none,I 1]⟩):=au
def cd:bj:=[(.ea (I 80),I 80),
 (.bin .neq 35 10 (I 0),.bool false),
 (.bin .lss 3 2 (I 1),.bool false),
 (.bin .gtr 3 2 (I 65536),.bool true)]
def h':dZ:=[(30,[.agg ⟨[3,4,5,6,7,8,9]⟩,0,1],10)]
theorem e1:bC (at' 75 cd h' body aO)=some (.tuple ⟨[.pointer none,I 1]⟩):=au
def dk:bj:=[(.ea (I 80),I 80),
 (.bin .neq 35 10 (I 0),.bool false),
 (.bin .lss 3 2 (I 1),.bool false),
 (.bin .gtr 3 2 (I 65536),.bool false),
 (.len #[26] 3 9,11)]
def oL:dZ:=[(30,[.agg ⟨[3,4,5,6,7,8,9]⟩,0,1],10)]
abbrev iF:=at' 75 dk oL body aO
theorem e2:Ga Tryd.prog 75 13 [2,5,7,9,12] iF 2=some (31,[.agg ⟨[3,4,5,6,7,8,9]⟩,.agg ⟨[I 0,I 0,I 0,I 0,I 0,I 0,.slice none 0 0]⟩]):=au
theorem e3:Ga Tryd.prog 75 13 [2,5,7,9,12] iF 5=some (31,[.agg ⟨[3,4,5,6,7,8,9]⟩,.agg ⟨[I 0,I 0,I 0,I 0,I 0,I 0,.slice none 0 0]⟩]):=au
theorem hD:Ga Tryd.prog 75 13 [2,5,7,9,12] iF 7=some (32,[0]):=au
theorem ku:Kc Tryd.prog 75 13 [2,5,7,9,12] iF 9=some (45,11):=au
theorem h4:Kc Tryd.prog 75 13 [2,5,7,9,12] iF 12=some (30,11):=au
def dF:List bx:=[]
def hd0:aF:=b3 [(39,2),(10,11),(9,I 0),(8,.pointer none),(2,1)]
theorem jO:(F1 Tryd.prog 75 13 [2,5,7,9,12] iF).isSome=true:=au
theorem mF:cr (F7 Tryd.prog 75 13 [2,5,7,9,12] iF) hd0 dF=some [(2,2),(1,1),(11,11)]:=au
def Ki:aF:=match uN 75 (gQ iF) [(2,.agg ⟨[ak 3,ak 4,ak 5,ak 6,ak 7,ak 8,ak 12]⟩),(5,.agg ⟨[ak 3,ak 4,ak 5,ak 6,ak 7,ak 8,ak 13]⟩),(7,ak 14),(9,ak 15),(12,ak 16)] hd0 with|some s=>s|none=> .nil
theorem e9:uN 75 (gQ iF) [(2,.agg ⟨[3,4,5,6,7,8,12]⟩),(5,.agg ⟨[3,4,5,6,7,8,13]⟩),(7,14),(9,15),(12,16)] hd0=some Ki:=au
def ei:bj:=[(.ea (I 80),I 80)]
theorem oe:uK (Eb 75 ei [] (yy 13 iF) (gQ iF) (gC iF) (b5 Ki dF))=some (80,(.agg ⟨[3,4,5,6,7,8,12,3,4,5,6,7,8,13,.slice none 0 0,.slice none 0 0,14,15,2,.slice none 0 0,.slice none 0 0,.slice none 0 0,.slice none 0 0,16]⟩)):=au
abbrev jx:=Eb 75 ei [] (yy 13 iF) (gQ iF) (gC iF) {sl:=Ki,ms:=[],A:=da dF}
def hy:List bx:=[]
def ht:aF:=b3 [(10,11),(9,I 0),(8,.pointer none),(2,1)]
def hp1:aF:=fa 75 ht 43 17
theorem ny:cr (b9 jx) ht hy=some [(1,1),(11,11)]:=au
def iA:dU:=(body,[1,1,1,0],15)
theorem yV:hb (cK 75 ei [] iA (b5 hp1 hy))=some (33,[1]):=au
abbrev pk:=cK 75 ei [] iA {sl:=hp1,ms:=[],A:=da hy}
def kh:List bx:=[]
def k1:aF:=b3 [(44,17),(11,17),(10,11),(9,I 0),(8,.pointer none),(2,1)]
def hp2:aF:=fa 75 k1 46 22
theorem yZ:cr (kS Tryd.prog pk) k1 kh=some [(17,17),(1,1),(17,17),(11,11)]:=au
def jf:dU:=(body,[1,1,1,1,0],3)
def fJ:bj:=[(.ea (I 80),I 80),
 (.dN 17,17),
 (.cq 80 17 2,23)]
theorem HG:nJ (cK 75 fJ [] jf (b5 hp2 kh))=some (30,23,22):=au
abbrev yT:=cK 75 fJ [] jf {sl:=hp2,ms:=[],A:=da kh}
def rJ:List bx:=[]
def u2:aF:=b3 [(11,17),(10,11),(9,I 0),(8,.pointer none),(2,1)]
def hp3:aF:=match g' 75 u2 none (.tuple ⟨[]⟩) with|some s=>s|none=> .nil
theorem HI:cr (b9 yT) u2 rJ=some [(17,17),(1,1),(11,11)]:=au
def tL:dU:=(body,[1,1,1,1,0],6)
def hH:bj:=[(.ea (I 80),I 80),
 (.len #[30] 3 1,24),
 (.bin .eql 3 24 (I 0),.bool true)]
abbrev tM:=cK 75 hH [] tL {sl:=hp3,ms:=[],A:=da rJ}
def tN:List bx:=[]
def tO:aF:=b3 [(54,11),(52,17),(11,17),(10,11),(9,I 0),(8,.pointer none)]
def qc:aF:=(bY.set 25 depth tO 53).getD .nil
theorem RJ:sn tM 0 53=some ([.bool true],1,1):=au
theorem HK:cr (b9 tM) tO tN=some [(17,17),(17,17),(11,11),(11,11)]:=au
theorem Cc:bY.set 25 depth tO 53=some qc:=au
theorem RK:hb ((lp (b5 qc tN) tM))=some (34,[25,11]):=au
abbrev RU:=(lp {sl:=qc,ms:=[],A:=da tN} tM)
def Cn:List bx:=[]
def HP:aF:=b3 [(52,17),(11,17),(10,11),(9,I 0),(8,.pointer none)]
def Co:aF:=fa 75 HP 55 26
theorem RV:cr (kS Tryd.prog RU) HP Cn=some [(17,17),(17,17),(11,11)]:=au
def Cp:dU:=(body,[1,1,1,1,1,0,1,2],4)
theorem ak_:nJ (cK 75 fJ [] Cp (b5 Co Cn))=some (30,23,26):=au
abbrev RW:=cK 75 fJ [] Cp {sl:=Co,ms:=[],A:=da Cn}
def Cq:List bx:=[]
def HQ:aF:=b3 [(11,17),(10,11),(9,I 0),(8,.pointer none)]
def Cr:aF:=match g' 75 HQ none (.tuple ⟨[]⟩) with|some s=>s|none=> .nil
theorem ala:cr (b9 RW) HQ Cq=some [(17,17),(11,11)]:=au
def Ct:dU:=(body,[1,1,1,1,1,0,1,2],7)
def lz:bj:=[(.ea (I 80),I 80),
 (.dN 17,17),
 (.cq 80 17 2,23),
 (.bB 30 23,26)]
theorem RX:hb (cK 75 lz [] Ct (b5 Cr Cq))=some (33,[26]):=au
abbrev RY:=cK 75 lz [] Ct {sl:=Cr,ms:=[],A:=da Cq}
def Cu:List bx:=[]
def HR:aF:=b3 [(58,17),(11,17),(10,11),(9,I 0),(8,.pointer none)]
def Cv:aF:=fa 75 HR 63 27
theorem alb:cr (kS Tryd.prog RY) HR Cu=some [(17,17),(11,11),(17,17)]:=au
def Cw:dU:=(body,[1,1,1,1,1,1,0],6)
def mQ:bj:=[(.ea (I 80),I 80),
 (.dN 17,17),
 (.cq 80 17 3,28)]
theorem RZ:nJ (cK 75 mQ [] Cw (b5 Cv Cu))=some (30,28,27):=au
abbrev R0:=cK 75 mQ [] Cw {sl:=Cv,ms:=[],A:=da Cu}
def Ek:List bx:=[]
def HS:aF:=b3 [(11,17),(10,11),(9,I 0),(8,.pointer none)]
def El:aF:=match g' 75 HS none (.tuple ⟨[]⟩) with|some s=>s|none=> .nil
theorem alc:cr (b9 R0) HS Ek=some [(17,17),(11,11)]:=au
def Em:dU:=(body,[1,1,1,1,1,1,0],9)
def eS:List bx:=[]
def eT:aF:=b3 [(67,29),(66,11),(11,17),(9,I 0),(8,.pointer none)]
abbrev hR:=cK 75 ei [] Em {sl:=El,ms:=[],A:=da Ek}
theorem R1:p3 eT eS hR=some [(17,17),(I 0,29),(11,11)]:=au
def fb:Code:=tj body [1,1,1,1,1,1,1,0,1,4]
def iq:List fl:=oE body [1,1,1,1,1,1,1,0,1,4] []
theorem R2:pC hR=fb:=au
theorem R3:gC hR=iq:=au
def pO:bj:=[(.ea (I 80),I 80),
 (.bin .lss 3 29 11,.bool true)]
theorem ald:hb (at' 75 pO [] fb (b5 eT eS))=some (35,[17,29]):=au
abbrev R4:=at' 75 pO [] fb (b5 eT eS)
def HT:List bx:=[]
def HU:aF:=b3 [(67,29),(66,11),(11,17),(9,I 0),(8,.pointer none)]
def Ej:aF:=fa 75 HU 72 (.tuple ⟨[]⟩)
theorem ale:cr (kS Tryd.prog R4) HU HT=some [(17,17),(29,29),(11,11)]:=au
def HV:dU:=(fb,[1,1,0,4,1],3)
def sJ:bj:=[(.ea (I 80),I 80),
 (.bin .add 3 29 (I 1),32)]
theorem alf:qJ eT eS (cK 75 sJ [] HV (b5 Ej HT))=some [(17,17),(32,29),(11,11)]:=au
def sK:bj:=[(.ea (I 80),I 80),
 (.bin .lss 3 29 11,.bool false)]
theorem alg:bC (nP 75 ei [] iq (at' 75 sK [] fb (b5 eT eS)))=some (.tuple ⟨[17,I 0]⟩):=au
def u3:bj:=[(.ea (I 80),I 80),
 (.len #[30] 3 1,24),
 (.bin .eql 3 24 (I 0),.bool false),
 (.dN 17,17),
 (.cq 80 17 2,23),
 (.bB 30 23,22)]
theorem R5:hb (cK 75 u3 [] tL (b5 hp3 rJ))=some (33,[22]):=au
abbrev En:=cK 75 u3 [] tL {sl:=hp3,ms:=[],A:=da rJ}
def Cx:List bx:=[]
def Eo:aF:=b3 [(58,17),(11,17),(10,11),(9,I 0),(8,.pointer none)]
def Cy:aF:=fa 75 Eo 63 33
theorem alh:cr (kS Tryd.prog En) Eo Cx=some [(17,17),(11,11),(17,17)]:=au
def R6:dU:=(body,[1,1,1,1,1,1,0],6)
theorem R7:nJ (cK 75 mQ [] R6 (b5 Cy Cx))=some (30,28,33):=au
abbrev R8:=cK 75 mQ [] R6 {sl:=Cy,ms:=[],A:=da Cx}
def Ep:List bx:=[]
def HW:aF:=b3 [(11,17),(10,11),(9,I 0),(8,.pointer none)]
def Er:aF:=match g' 75 HW none (.tuple ⟨[]⟩) with|some s=>s|none=> .nil
theorem ali:cr (b9 R8) HW Ep=some [(17,17),(11,11)]:=au
def Es:dU:=(body,[1,1,1,1,1,1,0],9)
def HX:List bx:=[]
def HY:aF:=b3 [(67,34),(66,11),(11,17),(9,I 0),(8,.pointer none)]
abbrev R9:=cK 75 ei [] Es {sl:=Er,ms:=[],A:=da Ep}
theorem alj:p3 HY HX R9=some [(17,17),(I 0,34),(11,11)]:=au
def HZ:Code:=tj body [1,1,1,1,1,1,1,0,1,4]
def abb:List fl:=oE body [1,1,1,1,1,1,1,0,1,4] []
theorem alk:pC R9=HZ:=au
theorem R':gC R9=abb:=au
def u4:bj:=[(.ea (I 80),I 80),
 (.bin .lss 3 34 11,.bool true)]
theorem alm:hb (at' 75 u4 [] HZ (b5 HY HX))=some (35,[17,34]):=au
abbrev R_:=at' 75 u4 [] HZ (b5 HY HX)
def H0:List bx:=[]
def A5:aF:=b3 [(67,34),(66,11),(11,17),(9,I 0),(8,.pointer none)]
def H2:aF:=fa 75 A5 72 (.tuple ⟨[]⟩)
theorem aln:cr (kS Tryd.prog R_) A5 H0=some [(17,17),(34,34),(11,11)]:=au
def H3:dU:=(HZ,[1,1,0,4,1],3)
def wv:bj:=[(.ea (I 80),I 80),
 (.bin .add 3 34 (I 1),37)]
theorem Sa:qJ HY HX (cK 75 wv [] H3 (b5 H2 H0))=some [(17,17),(37,34),(11,11)]:=au
def Aq:bj:=[(.ea (I 80),I 80),
 (.bin .lss 3 34 11,.bool false)]
theorem Sb:bC (nP 75 ei [] abb (at' 75 Aq [] HZ (b5 HY HX)))=some (.tuple ⟨[17,I 0]⟩):=au
def Ar:bj:=[(.ea (I 80),I 80),
 (.bin .neq 35 10 (I 0),.bool true)]
def Hv:dZ:=[(30,[.agg ⟨[3,4,5,6,7,8,9]⟩,0,1],10)]
theorem Sc:bC (at' 75 Ar Hv body aO)=some (.tuple ⟨[.pointer none,I 1]⟩):=au
@[reducible] noncomputable def bD (cells:List Int) (bS:cm) (bL bT:Nat) (table:List cW) (kF:cm) (kG:Nat) (known:List Bool) (dc:cm) (dd:Nat) (most:Int) (b:bQ) (u5:List Nat:=[]) (y5:cm:=none) (y6:Nat:=0) (oQ:Nat:=0) (u6:List Nat:=[]) (y7:cm:=none) (y8:Nat:=0) (oR:Nat:=0) (ia:cm:=none) (ib:Nat:=0) (k2:cm:=none) (k3:Nat:=0) (k4:cm:=none) (k5:Nat:=0) (j5:List bR:=[]) (k6:cm:=none) (k7:Nat:=0) (jK:List Bool:=[]) (k8:cm:=none) (k9:Nat:=0) (g1:Nat:=0) (nQ:List Bool:=[]) (j3:cm:=none) (j4:Nat:=0) (g4:Nat:=0) (rQ:List Bool:=[]) (u7:cm:=none) (u9:Nat:=0) (wy:List Bool:=[]) (iO:cm:=none) (iP:Nat:=0) (Et:List Nat:=[]) (j_:cm:=none) (ka:Nat:=0) (wz:List Bool:=[]) (y9:cm:=none) (y':Nat:=0) (Eu:List Nat:=[]) (Sd:cm:=none) (Se:Nat:=0):List J:=[bu kF table kG,bu dc known dd,I most,I b.1,I b.2.1,I b.2.2.1,I b.2.2.2.1,I b.2.2.2.2.1,I b.2.2.2.2.2,.slice bS bL bT,I (y0 b cells table known),I ((cells.length:Nat):Int),bu ia cells ib,bu k2 cells k3,bu k4 table k5,bu k6 j5 k7,bu k8 jK k9,dh g1 0,.slice none ([]:List gy).length 0,.slice none (([]:List az)).length 0,.slice none ((([]:List Nat))).length 0,.slice none (((([]:List Nat)))).length 0,bu j3 nQ j4,dh g1 14,I ((known.length:Nat):Int),.slice (some ⟨g4,0,none⟩) 1 1,bu u7 rQ u9,bu iO wy iP,dh g1 15,I ((oQ:Nat):Int),bu y5 u5 y6,bu j_ Et ka,I ((oQ+1:Nat):Int),bu y9 wz y',I ((oR:Nat):Int),bu y7 u6 y8,bu Sd Eu Se,I ((oR+1:Nat):Int)]
theorem any (W:ax) {b:bQ} {bS:cm} {bL bT:Nat} {cells:List Int} (h0:cE (aE W) 1 fQ (.slice bS bL bT) cells) {oO:J} {table:List cW} (aN:cE (aE W) 8 jF oO table) {oP:J} {known:List Bool} (gX:cE (aE W) 1 il oP known) (most:Int) (cC:mJ (aE W)) (av:cells.length<=10000) (iy:bL=cells.length) (ng:known.length<=100000) (y1:table.length<=100000):Calls Tryd.prog 9 #[.agg ⟨[I b.1,I b.2.1,I b.2.2.1,I b.2.2.2.1,I b.2.2.2.2.1,I b.2.2.2.2.2,.slice bS bL bT]⟩,oO,oP,I most] W λe w'=>(if pq b cells table known most then (∃(g:Nat) (y:dX×rH×rH×rH×rH×rH×rH×rH),e= .returned (.tuple ⟨[dh g 0,I 0]⟩)/\cZ (aE W) [] (aE w') [nK rB 3 ni (.slice none 0 0) [],nK zS 5 kU (.slice none 0 0) [],hr tr 1 qd (.slice none 0 0) [],nK tr 1 qd (.slice y.1.1 (List.range cells.length).length y.1.2) (List.range cells.length),hr n9 1 il (.slice y.2.1.1 y.2.1.2.1 y.2.1.2.2) (jT cells.length cells.length),hr qe 4 dY (.slice y.2.2.1.1 y.2.2.1.2.1 y.2.2.1.2.2) (List.replicate cells.length zT),nt y.2.2.2.1.1 y.2.2.2.1.2.1 y.2.2.2.1.2.2 cells,ajh y.2.2.2.2.1.1 y.2.2.2.2.1.2.1 y.2.2.2.2.1.2.2 table,hr n9 1 il (.slice y.2.2.2.2.2.1.1 y.2.2.2.2.2.1.2.1 y.2.2.2.2.2.1.2.2) (wx known cells.length),nt y.2.2.2.2.2.2.1.1 y.2.2.2.2.2.2.1.2.1 y.2.2.2.2.2.2.1.2.2 cells,hr n9 1 il (.slice y.2.2.2.2.2.2.2.1 y.2.2.2.2.2.2.2.2.1 y.2.2.2.2.2.2.2.2.2) (wx known cells.length),dW g qP [I b.1,I b.2.1,I b.2.2.1,I b.2.2.2.1,I b.2.2.2.2.1,I b.2.2.2.2.2,.slice y.2.2.2.2.2.2.1.1 y.2.2.2.2.2.2.1.2.1 y.2.2.2.2.2.2.1.2.2,I b.1,I b.2.1,I b.2.2.1,I b.2.2.2.1,I b.2.2.2.2.1,I b.2.2.2.2.2,.slice y.2.2.2.1.1 y.2.2.2.1.2.1 y.2.2.2.1.2.2,.slice y.2.2.2.2.2.2.2.1 y.2.2.2.2.2.2.2.2.1 y.2.2.2.2.2.2.2.2.2,.slice y.2.2.2.2.2.1.1 y.2.2.2.2.2.1.2.1 y.2.2.2.2.2.1.2.2,.slice y.2.2.2.2.1.1 y.2.2.2.2.1.2.1 y.2.2.2.2.1.2.2,.slice y.2.2.1.1 y.2.2.1.2.1 y.2.2.1.2.2,I most,.slice none 0 0,.slice none 0 0,.slice none 0 0,.slice y.1.1 (List.range cells.length).length y.1.2,.slice y.2.1.1 y.2.1.2.1 y.2.1.2.2]]) else e= .returned (.tuple ⟨[.pointer none,I 1]⟩))/\cj W.heap.size W w':=by
 obtain⟨kF,kG,rfl⟩:=aN.slice;obtain⟨dc,dd,rfl⟩:=gX.slice;refine jI (bD cells bS bL bT table kF kG known dc dd most b) body aO N [.agg ⟨[ak 3,ak 4,ak 5,ak 6,ak 7,ak 8,ak 9]⟩,ak 0,ak 1,ak 2] Tryd.func9 λa ah=> ?_
 letI:=b6 ah;have aI:=bK.o5 W;by_cases aL:(y0 b cells table known)=0
 ·by_cases ad:most<1
  ·refine bA bP j1 (ae (gD _) (ae sD (ae bb aP))) (cG (Ls U U U U h0 (aN.mono aI.ext) (gX.mono aI.ext) cC aj iy) aQ) ?_ ah
   exact bU e0 λw2 bp=>(by (rw[a_ (λq:pq b cells table known most=>by have q1:=q.1;have aH:=q.2.1;have b0:=q.2.2;omega)];rfl))
  ·by_cases ag:65536<most
   ·refine bA cd h' (ae (gD _) (ae sD (ae aU (ae bb aP)))) (cG (Ls U U U U h0 (aN.mono aI.ext) (gX.mono aI.ext) cC aj iy) aQ) ?_ ah
    exact bU e1 λw2 bp=>(by (rw[a_ (λq:pq b cells table known most=>by have q1:=q.1;have aH:=q.2.1;have b0:=q.2.2;omega)];rfl))
   ·refine bA dk oL (ae (gD _) (ae sD (ae aU (ae aU (ae (eM (h0.mono aI.ext) iz) aP))))) (cG (Ls U U U U h0 (aN.mono aI.ext) (gX.mono aI.ext) cC aj iy) aQ) ?_ ah
    obtain⟨j5,LA⟩:=h3 (List.replicate cells.length zT);have api:j5.length=cells.length:=by rw[LA];exact mz
    obtain⟨jK,LB⟩:=h3 (List.replicate cells.length vW);have apj:jK.length=cells.length:=by rw[LB];exact mz
    refine agH (Y:=dX×dX×dX×dX×dX) (bm:=λaW=>(bD cells bS bL bT table kF kG known dc dd most b [] none 0 0 [] none 0 0 aW.1.1 aW.1.2 aW.2.1.1 aW.2.1.2 aW.2.2.1.1 aW.2.2.1.2 j5 aW.2.2.2.1.1 aW.2.2.2.1.2 jK aW.2.2.2.2.1 aW.2.2.2.2.2)) (m:=13) (dz:=[(2,.agg ⟨[ak 3,ak 4,ak 5,ak 6,ak 7,ak 8,ak 12]⟩),(5,.agg ⟨[ak 3,ak 4,ak 5,ak 6,ak 7,ak 8,ak 13]⟩),(7,ak 14),(9,ak 15),(12,ak 16)]) (R:=λi aW=>bif Nat.beq i 2 then qn aW.1 cells aW.2 else bif Nat.beq i 5 then qn aW.1 cells aW.2 else bif Nat.beq i 7 then K8 aW.1 table aW.2 else bif Nat.beq i 9 then z_ aW.1 j5 aW.2 else bif Nat.beq i 12 then tF aW.1 jK aW.2 else vX []) (rv:=λi aW=>bif Nat.beq i 2 then .agg ⟨[I b.1,I b.2.1,I b.2.2.1,I b.2.2.2.1,I b.2.2.2.2.1,I b.2.2.2.2.2,bu aW.1 cells aW.2]⟩ else bif Nat.beq i 5 then .agg ⟨[I b.1,I b.2.1,I b.2.2.1,I b.2.2.2.1,I b.2.2.2.2.1,I b.2.2.2.2.2,bu aW.1 cells aW.2]⟩ else bif Nat.beq i 7 then bu aW.1 table aW.2 else bif Nat.beq i 9 then bu aW.1 j5 aW.2 else bif Nat.beq i 12 then bu aW.1 jK aW.2 else .bool false) (pr:=λi aW=>bif Nat.beq i 2 then aW.1 else bif Nat.beq i 5 then aW.2.1 else bif Nat.beq i 7 then aW.2.2.1 else bif Nat.beq i 9 then aW.2.2.2.1 else bif Nat.beq i 12 then aW.2.2.2.2 else (none,0)) (mk:=λys=>(ys 2,ys 5,ys 7,ys 9,ys 12)) mixed jO cw (ry (xg.arr (F:=λh5=> .agg ⟨[I b.1,I b.2.1,I b.2.2.1,I b.2.2.2.1,I b.2.2.2.2.1,I b.2.2.2.2.2,h5]⟩) (l:=cells) e2 rfl λw hw cX=>Ro.any _ ((h0.mono aI.ext).mono hw) aj) (ry (xg.arr (F:=λh5=> .agg ⟨[I b.1,I b.2.1,I b.2.2.1,I b.2.2.2.1,I b.2.2.2.2.1,I b.2.2.2.2.2,h5]⟩) (l:=cells) e3 rfl λw hw cX=>Ro.any _ ((h0.mono aI.ext).mono hw) aj) (ry (xg.arr (F:=λh5=>h5) (l:=table) hD rfl λw hw cX=>ZX.any _ ((aN.mono aI.ext).mono hw) y1) (ry (xg.WZ (n:=cells.length) (zr:=zT) (l':=j5) LA ku n' Xp Xq Xr Xs rfl yC rfl (by rfl) aj (by unfold Ks;omega) aj) (ry (xg.WZ (n:=cells.length) (zr:=vW) (l':=jK) LB h4 mn Pl Pm Pn Po rfl kq rfl (by rfl) aj (by unfold Gl;omega) aj) O4))))) (λys=>(ry rfl (ry rfl (ry rfl (ry rfl (ry rfl O4)))))) mF e9 rfl (λaW M'=>(ry rfl (ry rfl (ry rfl (ry rfl (ry rfl O4)))))) (λ_ _=>fw) ?_;intro⟨⟨ia,ib⟩,⟨k2,k3⟩,⟨k4,k5⟩,⟨k6,k7⟩,⟨k8,k9⟩⟩ j2 rI dA w ah;have dp:=aI.put (L':=[]) (N:=[qn ia cells ib,qn k2 cells k3,K8 k4 table k5,z_ k6 j5 k7,tF k8 jK k9]) [] U U rI;replace dp:=dp.B0;letI:=b6 ah;refine FA (F:=ei) (T:=[]) (bq:=1000) (d:=10) mixed (ae (gD _) aP) aQ ?_ ah;refine xe (u:= .agg ⟨[I b.1,I b.2.1,I b.2.2.1,I b.2.2.2.1,I b.2.2.2.2.1,I b.2.2.2.2.2,bu ia cells ib,I b.1,I b.2.1,I b.2.2.1,I b.2.2.2.1,I b.2.2.2.2.1,I b.2.2.2.2.2,bu k2 cells k3,.slice none 0 0,.slice none 0 0,bu k4 table k5,bu k6 j5 k7,I most,.slice none 0 0,.slice none 0 0,.slice none 0 0,.slice none 0 0,bu k8 jK k9]⟩) (cs:=[I b.1,I b.2.1,I b.2.2.1,I b.2.2.2.1,I b.2.2.2.2.1,I b.2.2.2.2.2,bu ia cells ib,I b.1,I b.2.1,I b.2.2.1,I b.2.2.2.1,I b.2.2.2.2.1,I b.2.2.2.2.2,bu k2 cells k3,.slice none 0 0,.slice none 0 0,bu k4 table k5,bu k6 j5 k7,I most,.slice none 0 0,.slice none 0 0,.slice none 0 0,.slice none 0 0,bu k8 jK k9]) (bm:=λf'=>(bD cells bS bL bT table kF kG known dc dd most b [] none 0 0 [] none 0 0 ia ib k2 k3 k4 k5 j5 k6 k7 jK k8 k9 f')) oe U U U ny (et hp1 17) rfl (λ_ f'=>fw) (λ_ _=>rfl) ?_;intro nj g1 hJ rq mv dA w ah;have gv:=dp.new (tl rq hJ mv);replace gv:=gv.new (Rj nj rB 3 ni);replace gv:=gv.new (Rj nj zS 5 kU);replace gv:=gv.new (ZK nj tr 1 qd);replace gv:=gv.new (Rj nj tr 1 qd);replace gv:=gv.Y5;letI:=b6 ah;refine dP (dQ iA) ei [] (ae (gD _) aP) aQ ?_ ah;obtain⟨nQ,Sf⟩:=h3 (known);refine hG (Y:=dX) (bm:=λaW=>(bD cells bS bL bT table kF kG known dc dd most b [] none 0 0 [] none 0 0 ia ib k2 k3 k4 k5 j5 k6 k7 jK k8 k9 g1 nQ aW.1 aW.2)) gv [] (λaW=>[]) (λaW=>[tF aW.1 nQ aW.2]) yV yZ (et hp2 22) (fC:=λw hw cX aw=>by rw[Sf];exact FV (Hi.any _ ((gX.mono gv.ext).mono hw) aj)) (rest:= ?_);intro nk ⟨j3,j4⟩ ic dA w ah;replace ic:=ic.QU;letI:=b6 ah;refine dP (dQ jf) fJ [] (ae (gD _) (ae jg (ae (ff 30 14 1) aP))) aQ ?_ ah;refine Ee 14 [I b.1,I b.2.1,I b.2.2.1,I b.2.2.2.1,I b.2.2.2.2.1,I b.2.2.2.2.2,bu ia cells ib,I b.1,I b.2.1,I b.2.2.1,I b.2.2.2.1,I b.2.2.2.2.1,I b.2.2.2.2.2,bu k2 cells k3,bu j3 nQ j4,.slice none 0 0,bu k4 table k5,bu k6 j5 k7,I most,.slice none ([]:List gy).length 0,.slice none (([]:List az)).length 0,.slice none ((([]:List Nat))).length 0,.slice none (((([]:List Nat)))).length 0,bu k8 jK k9] (bD cells bS bL bT table kF kG known dc dd most b [] none 0 0 [] none 0 0 ia ib k2 k3 k4 k5 j5 k6 k7 jK k8 k9 g1 nQ j3 j4) HG HI (et hp3 (.tuple ⟨[]⟩)) (ic.box 5 rfl) ?_;intro Rq alo Sg dA w ah;have oN:=ic.lZ 5 rfl (vO alo Sg);replace oN:=oN.QU;letI:=b6 ah;by_cases mh:((known.length:Nat):Int)=0
    ·refine dP (dQ tL) hH [] (ae (gD _) (ae (eM (gX.mono oN.ext) mn) (ae bb aP))) aQ ?_ ah
     refine uM (enc:=il) (xs:=[true]) (q:=25) (bm:=λf'=>(bD cells bS bL bT table kF kG known dc dd most b [] none 0 0 [] none 0 0 ia ib k2 k3 k4 k5 j5 k6 k7 jK k8 k9 g1 nQ j3 j4 f')) RJ kq rfl cw cw U U (gI rfl) HK (λ_ _=>fw) Cc (λ_=>rfl) ?_;intro Ln g4 Sh alp Si Ce Sj;have pn:=oN.new (sq Sh Si Ce Sj);letI:=b6 ah;obtain⟨rQ,Sk⟩:=h3 (List.replicate (cells.length) true);refine hG (Y:=dX) (bm:=λaW=>(bD cells bS bL bT table kF kG known dc dd most b [] none 0 0 [] none 0 0 ia ib k2 k3 k4 k5 j5 k6 k7 jK k8 k9 g1 nQ j3 j4 g4 rQ aW.1 aW.2)) pn [11] (λaW=>[_]) (λaW=>[tF aW.1 rQ aW.2]) RK RV (et Co 26) (fC:=λw hw cX aw=>by rw[Sk];exact ak0 _ aw (cells.length) aj) (rest:= ?_);intro Sl ⟨u7,u9⟩ u_ dA w ah;replace u_:=u_.Ec;letI:=b6 ah;refine dP (dQ Cp) fJ [] (ae (gD _) (ae jg (ae (ff 30 14 1) aP))) aQ ?_ ah;refine Ee 14 [I b.1,I b.2.1,I b.2.2.1,I b.2.2.2.1,I b.2.2.2.2.1,I b.2.2.2.2.2,bu ia cells ib,I b.1,I b.2.1,I b.2.2.1,I b.2.2.2.1,I b.2.2.2.2.1,I b.2.2.2.2.2,bu k2 cells k3,bu u7 rQ u9,.slice none 0 0,bu k4 table k5,bu k6 j5 k7,I most,.slice none ([]:List gy).length 0,.slice none (([]:List az)).length 0,.slice none ((([]:List Nat))).length 0,.slice none (((([]:List Nat)))).length 0,bu k8 jK k9] (bD cells bS bL bT table kF kG known dc dd most b [] none 0 0 [] none 0 0 ia ib k2 k3 k4 k5 j5 k6 k7 jK k8 k9 g1 nQ j3 j4 g4 rQ u7 u9) ak_ ala (et Cr (.tuple ⟨[]⟩)) (u_.box 5 rfl) ?_;intro Sm alq alr dA w ah;have tU:=u_.lZ 5 rfl (vO alq alr);replace tU:=tU.Ec;letI:=b6 ah;refine dP (dQ Ct) lz [] (ae (gD _) (ae jg (ae (ff 30 14 1) (ae (iX 14 5 tU) aP)))) aQ ?_ ah;obtain⟨wy,abd⟩:=h3 (rQ);refine hG (Y:=dX) (bm:=λaW=>(bD cells bS bL bT table kF kG known dc dd most b [] none 0 0 [] none 0 0 ia ib k2 k3 k4 k5 j5 k6 k7 jK k8 k9 g1 nQ j3 j4 g4 rQ u7 u9 wy aW.1 aW.2)) tU [] (λaW=>[]) (λaW=>[tF aW.1 wy aW.2]) RX alb (et Cv 27) (fC:=λw hw cX aw=>by rw[abd];exact FV (Hi.any _ (((tU.arr 12 rfl).arr kq).mono hw) (by (rw[Sk,mz];omega)))) (rest:= ?_);intro als ⟨iO,iP⟩ As dA w ah;replace As:=As.QV;letI:=b6 ah;refine dP (dQ Cw) mQ [] (ae (gD _) (ae jg (ae (ff 30 15 1) aP))) aQ ?_ ah;refine Ee 15 [I b.1,I b.2.1,I b.2.2.1,I b.2.2.2.1,I b.2.2.2.2.1,I b.2.2.2.2.2,bu ia cells ib,I b.1,I b.2.1,I b.2.2.1,I b.2.2.2.1,I b.2.2.2.2.1,I b.2.2.2.2.2,bu k2 cells k3,bu u7 rQ u9,bu iO wy iP,bu k4 table k5,bu k6 j5 k7,I most,.slice none ([]:List gy).length 0,.slice none (([]:List az)).length 0,.slice none ((([]:List Nat))).length 0,.slice none (((([]:List Nat)))).length 0,bu k8 jK k9] (bD cells bS bL bT table kF kG known dc dd most b [] none 0 0 [] none 0 0 ia ib k2 k3 k4 k5 j5 k6 k7 jK k8 k9 g1 nQ j3 j4 g4 rQ u7 u9 wy iO iP) RZ alc (et El (.tuple ⟨[]⟩)) (As.box 5 rfl) ?_;intro abe alu alv dA w ah;have Cz:=As.lZ 5 rfl (vO alu alv);replace Cz:=Cz.QV;letI:=b6 ah;refine dP (dQ Em) ei [] (ae (gD _) aP) aQ ?_ ah;refine tp (gq:=(λ(⟨M,u5,y5,y6,At,oQ⟩:Mem×List Nat×Option Addr×Nat×List Bool×Nat)=>aX M (bD cells bS bL bT table kF kG known dc dd most b u5 y5 y6 oQ [] none 0 0 ia ib k2 k3 k4 k5 j5 k6 k7 jK k8 k9 g1 nQ j3 j4 g4 rQ u7 u9 wy iO iP))) (λ(⟨M,u5,y5,y6,At,oQ⟩:Mem×List Nat×Option Addr×Nat×List Bool×Nat)=>bK W.heap.size (aE W) [] M [qn ia cells ib,qn k2 cells k3,K8 k4 table k5,z_ k6 j5 k7,oJ k8 jK.length k9 At,dW g1 80 [I b.1,I b.2.1,I b.2.2.1,I b.2.2.2.1,I b.2.2.2.2.1,I b.2.2.2.2.2,bu ia cells ib,I b.1,I b.2.1,I b.2.2.1,I b.2.2.2.1,I b.2.2.2.2.1,I b.2.2.2.2.2,bu k2 cells k3,bu u7 rQ u9,bu iO wy iP,bu k4 table k5,bu k6 j5 k7,I most,.slice none ([]:List gy).length 0,.slice none (([]:List az)).length 0,.slice none ((([]:List Nat))).length 0,bu y5 u5 y6,bu k8 jK k9],nK rB 3 ni (.slice none ([]:List gy).length 0) ([]:List gy),nK zS 5 kU (.slice none (([]:List az)).length 0) (([]:List az)),hr tr 1 qd (.slice none ((([]:List Nat))).length 0) ((([]:List Nat))),yO y5 u5 y6,tF u7 rQ u9,tF iO wy iP]/\(oQ<=cells.length/\u5=List.range oQ/\At=jT cells.length oQ/\At.length=cells.length/\u5.length=oQ)) (λ(⟨M,u5,y5,y6,At,oQ⟩:Mem×List Nat×Option Addr×Nat×List Bool×Nat)=>cells.length-oQ) ⟨abe,(((([]:List Nat)))),none,0,jK,0⟩ R1 fw (λ_ _ h=>h) (by exact⟨(Cz.pick [0,1,2,3,4,5,6,7,8,9,12,13] rfl),by exact⟨Nat.zero_le _,rfl,by rw[LB];exact(aaM _).symm,aj,rfl⟩⟩) ?_;intro⟨M,u5,y5,y6,At,oQ⟩ bh dA w ah;letI:=b6 ah;refine tk R2 R3 ?_;have qZ:=bh.1;have LC:=bh.2.1;have alw:=bh.2.2.2.2.1;have alx:=bh.2.2.2.2.2;by_cases z0:((oQ:Nat):Int)<((cells.length:Nat):Int)
     ·refine bA pO [] (ae (gD _) (ae bb aP)) aQ ?_ ah
      obtain⟨Et,Sn⟩:=h3 (mN u5 At (oQ));obtain⟨abf,Sp⟩:=h3 (nN At (oQ));refine hG (Y:=dX) (bm:=λaW=>(bD cells bS bL bT table kF kG known dc dd most b u5 y5 y6 oQ [] none 0 0 ia ib k2 k3 k4 k5 j5 k6 k7 jK k8 k9 g1 nQ j3 j4 g4 rQ u7 u9 wy iO iP Et aW.1 aW.2)) qZ [9,4,5] (λaW=>[xq _ _ _ aW.1 Et aW.2,xr _ _ _ k8 jK.length k9 abf,dW _ _ [_,_,_,_,_,_,_,_,_,_,_,_,_,_,_,_,_,_,_,_,_,_,bu aW.1 Et aW.2,_]]) (λ_=>[]) ald ale (et Ej (.tuple ⟨[]⟩)) (fC:=λw hw cX aw=>by rw[Sn,Sp];exact RO.any (xa:=mM [I b.1,I b.2.1,I b.2.2.1,I b.2.2.2.1,I b.2.2.2.2.1,I b.2.2.2.2.2,bu ia cells ib,I b.1,I b.2.1,I b.2.2.1,I b.2.2.2.1,I b.2.2.2.2.1,I b.2.2.2.2.2,bu k2 cells k3,bu u7 rQ u9,bu iO wy iP,bu k4 table k5,bu k6 j5 k7,I most,.slice none ([]:List gy).length 0,.slice none (([]:List az)).length 0,.slice none ((([]:List Nat))).length 0] 0) _ aw (oQ) aj aj) (rest:= ?_);intro abg ⟨j_,ka⟩ CA dA w ah;replace CA:=CA.B1;letI:=b6 ah;refine dP (dQ HV) sJ [] (ae (gD _) (ae kt aP)) aQ ?_ ah;exact tD ⟨abg,Et,j_,ka,abf,oQ+1⟩ alf fw (by exact⟨CA,by have aw:=aaN (show oQ<cells.length by omega) bh.2.2.1 bh.2.2.2.1;exact⟨aj,by rw[Sn];exact aw.1,by rw[Sp];exact aw.2,by rw[Sp,Kw];omega,by rw[Sn,aw.1,List.length_range]⟩⟩)
     ·refine bA sK [] (ae (gD _) (ae aU aP)) aQ ?_ ah
      refine od ei [] (ae (gD _) aP) aQ ?_;exact bU alg λw2 bp=>(by (have al:oQ=cells.length:=aj;have aA:=bh.2.2.1;have hw:=bh.2.2.2.1;rw[al] at aA hw;rw[aY (show pq b cells table known most from ⟨bM,aj,aj⟩),ak1 (show known.length=0 by omega)];subst abd;rw[<-Sk];rw[<-aA,<-hw,<-LA];exact⟨_,((_,_),(_,_,_),(_,_,_),(_,_,_),(_,_,_),(_,_,_),(_,_,_),(_,_,_)),rfl,((qZ.pick [6,7,8,9,4,3,1,2,11,0,10,5] rfl).done bp)⟩))
    ·refine dP (dQ tL) u3 [] (ae (gD _) (ae (eM (gX.mono oN.ext) mn) (ae aU (ae jg (ae (ff 30 14 1) (ae (iX 14 5 oN) aP)))))) aQ ?_ ah
     obtain⟨wz,abh⟩:=h3 (nQ);refine hG (Y:=dX) (bm:=λaW=>(bD cells bS bL bT table kF kG known dc dd most b [] none 0 0 [] none 0 0 ia ib k2 k3 k4 k5 j5 k6 k7 jK k8 k9 g1 nQ j3 j4 0 [] none 0 [] none 0 [] none 0 wz aW.1 aW.2)) oN [] (λaW=>[]) (λaW=>[tF aW.1 wz aW.2]) R5 alh (et Cy 33) (fC:=λw hw cX aw=>by rw[abh];exact FV (Hi.any _ (((oN.arr 10 rfl).arr kq).mono hw) (by (rw[Sf];omega)))) (rest:= ?_);intro Ln ⟨y9,y'⟩ pn dA w ah;replace pn:=pn.B1;letI:=b6 ah;refine dP (dQ R6) mQ [] (ae (gD _) (ae jg (ae (ff 30 15 1) aP))) aQ ?_ ah;refine Ee 15 [I b.1,I b.2.1,I b.2.2.1,I b.2.2.2.1,I b.2.2.2.2.1,I b.2.2.2.2.2,bu ia cells ib,I b.1,I b.2.1,I b.2.2.1,I b.2.2.2.1,I b.2.2.2.2.1,I b.2.2.2.2.2,bu k2 cells k3,bu j3 nQ j4,bu y9 wz y',bu k4 table k5,bu k6 j5 k7,I most,.slice none ([]:List gy).length 0,.slice none (([]:List az)).length 0,.slice none ((([]:List Nat))).length 0,.slice none (((([]:List Nat)))).length 0,bu k8 jK k9] (bD cells bS bL bT table kF kG known dc dd most b [] none 0 0 [] none 0 0 ia ib k2 k3 k4 k5 j5 k6 k7 jK k8 k9 g1 nQ j3 j4 0 [] none 0 [] none 0 [] none 0 wz y9 y') R7 ali (et Er (.tuple ⟨[]⟩)) (pn.box 5 rfl) ?_;intro Sl aly alz dA w ah;have u_:=pn.lZ 5 rfl (vO aly alz);replace u_:=u_.B1;letI:=b6 ah;refine dP (dQ Es) ei [] (ae (gD _) aP) aQ ?_ ah;refine tp (gq:=(λ(⟨M,u6,y7,y8,Au,oR⟩:Mem×List Nat×Option Addr×Nat×List Bool×Nat)=>aX M (bD cells bS bL bT table kF kG known dc dd most b [] none 0 0 u6 y7 y8 oR ia ib k2 k3 k4 k5 j5 k6 k7 jK k8 k9 g1 nQ j3 j4 0 [] none 0 [] none 0 [] none 0 wz y9 y'))) (λ(⟨M,u6,y7,y8,Au,oR⟩:Mem×List Nat×Option Addr×Nat×List Bool×Nat)=>bK W.heap.size (aE W) [] M [qn ia cells ib,qn k2 cells k3,K8 k4 table k5,z_ k6 j5 k7,oJ k8 jK.length k9 Au,dW g1 80 [I b.1,I b.2.1,I b.2.2.1,I b.2.2.2.1,I b.2.2.2.2.1,I b.2.2.2.2.2,bu ia cells ib,I b.1,I b.2.1,I b.2.2.1,I b.2.2.2.1,I b.2.2.2.2.1,I b.2.2.2.2.2,bu k2 cells k3,bu j3 nQ j4,bu y9 wz y',bu k4 table k5,bu k6 j5 k7,I most,.slice none ([]:List gy).length 0,.slice none (([]:List az)).length 0,.slice none ((([]:List Nat))).length 0,bu y7 u6 y8,bu k8 jK k9],nK rB 3 ni (.slice none ([]:List gy).length 0) ([]:List gy),nK zS 5 kU (.slice none (([]:List az)).length 0) (([]:List az)),hr tr 1 qd (.slice none ((([]:List Nat))).length 0) ((([]:List Nat))),yO y7 u6 y8,tF j3 nQ j4,tF y9 wz y']/\(oR<=cells.length/\u6=List.range oR/\Au=jT cells.length oR/\Au.length=cells.length/\u6.length=oR)) (λ(⟨M,u6,y7,y8,Au,oR⟩:Mem×List Nat×Option Addr×Nat×List Bool×Nat)=>cells.length-oR) ⟨Sl,(((([]:List Nat)))),none,0,jK,0⟩ alj fw (λ_ _ h=>h) (by exact⟨u_,by exact⟨Nat.zero_le _,rfl,by rw[LB];exact(aaM _).symm,aj,rfl⟩⟩) ?_;intro⟨M,u6,y7,y8,Au,oR⟩ bh dA w ah;letI:=b6 ah;refine tk alk R' ?_;have abi:=bh.1;have LC:=bh.2.1;have alw:=bh.2.2.2.2.1;have alx:=bh.2.2.2.2.2;by_cases z0:((oR:Nat):Int)<((cells.length:Nat):Int)
     ·refine bA u4 [] (ae (gD _) (ae bb aP)) aQ ?_ ah
      obtain⟨Eu,Sq⟩:=h3 (mN u6 Au (oR));obtain⟨abj,Sr⟩:=h3 (nN Au (oR));refine hG (Y:=dX) (bm:=λaW=>(bD cells bS bL bT table kF kG known dc dd most b [] none 0 0 u6 y7 y8 oR ia ib k2 k3 k4 k5 j5 k6 k7 jK k8 k9 g1 nQ j3 j4 0 [] none 0 [] none 0 [] none 0 wz y9 y' Eu aW.1 aW.2)) abi [9,4,5] (λaW=>[xq _ _ _ aW.1 Eu aW.2,xr _ _ _ k8 jK.length k9 abj,dW _ _ [_,_,_,_,_,_,_,_,_,_,_,_,_,_,_,_,_,_,_,_,_,_,bu aW.1 Eu aW.2,_]]) (λ_=>[]) alm aln (et H2 (.tuple ⟨[]⟩)) (fC:=λw hw cX aw=>by rw[Sq,Sr];exact RO.any (xa:=mM [I b.1,I b.2.1,I b.2.2.1,I b.2.2.2.1,I b.2.2.2.2.1,I b.2.2.2.2.2,bu ia cells ib,I b.1,I b.2.1,I b.2.2.1,I b.2.2.2.1,I b.2.2.2.2.1,I b.2.2.2.2.2,bu k2 cells k3,bu j3 nQ j4,bu y9 wz y',bu k4 table k5,bu k6 j5 k7,I most,.slice none ([]:List gy).length 0,.slice none (([]:List az)).length 0,.slice none ((([]:List Nat))).length 0] 0) _ aw (oR) aj aj) (rest:= ?_);intro Sm ⟨Sd,Se⟩ tU dA w ah;replace tU:=tU.B1;letI:=b6 ah;refine dP (dQ H3) wv [] (ae (gD _) (ae kt aP)) aQ ?_ ah;exact tD ⟨Sm,Eu,Sd,Se,abj,oR+1⟩ Sa fw (by exact⟨tU,by have aw:=aaN (show oR<cells.length by omega) bh.2.2.1 bh.2.2.2.1;exact⟨aj,by rw[Sq];exact aw.1,by rw[Sr];exact aw.2,by rw[Sr,Kw];omega,by rw[Sq,aw.1,List.length_range]⟩⟩)
     ·refine bA Aq [] (ae (gD _) (ae aU aP)) aQ ?_ ah
      refine od ei [] (ae (gD _) aP) aQ ?_;exact bU Sb λw2 bp=>(by (have al:oR=cells.length:=aj;have aA:=bh.2.2.1;have hw:=bh.2.2.2.1;rw[al] at aA hw;rw[aY (show pq b cells table known most from ⟨bM,aj,aj⟩),ak2 (show known.length≠0 by omega)];subst abh;rw[<-Sf];rw[<-aA,<-hw,<-LA];exact⟨_,((_,_),(_,_,_),(_,_,_),(_,_,_),(_,_,_),(_,_,_),(_,_,_),(_,_,_)),rfl,((abi.pick [6,7,8,9,4,3,1,2,11,0,10,5] rfl).done bp)⟩))
 ·refine bA Ar Hv (ae (gD _) (ae tE aP)) (cG (Ls U U U U h0 (aN.mono aI.ext) (gX.mono aI.ext) cC aj iy) aQ) ?_ ah
  exact bU Sc λw2 bp=>(by (rw[a_ (λq:pq b cells table known most=>by have q1:=q.1;have aH:=q.2.1;have b0:=q.2.2;omega)];rfl))
end aa_
end AE
namespace AE
theorem alA (W:ax) {g:Nat} {A:dJ} {e:cx} (h:cH (aE W) [dj g A e]) (fo:gu e.table e.b e.u) (ao:e.u.reqs.length<=10000):
 Calls Tryd.prog 12 #[dx g] W λx w'=>(∃a':dJ,x= .returned (.int .i64 (((i' e.table e.b (hP e.b e.u) e.u).1:Nat):Int))/\cZ (aE W) [dj g A e] (aE w') [dj g a' {e with u:=(i' e.table e.b (hP e.b e.u) e.u).2}])/\cj 0 W w':=aaP.any W h fo ao
theorem alB (W:ax) {g:Nat} {A:dJ} {e:cx} (h:cH (aE W) [dj g A e]) (n:Int) (fo:gu e.table e.b e.u) (ao:e.u.reqs.length<=10000):
 Calls Tryd.prog 10 #[dx g,.int .i64 n] W λx w'=>(∃a':dJ,x= .returned (.int .i64 (((i' e.table e.b n.toNat e.u).1:Nat):Int))/\cZ (aE W) [dj g A e] (aE w') [dj g a' {e with u:=(i' e.table e.b n.toNat e.u).2}])/\cj 0 W w':=aaQ.any W h n fo ao
theorem abk (W:ax) {g:Nat} {A:dJ} {e:cx} (h:cH (aE W) [dj g A e]):
  Calls Tryd.prog 11 #[dx g] W λx w'=>(∃_:Unit,x= .returned (.bool (decide (e.u.bJ.length=0/\e.u.bz.length=0/\e.u.reqs.length=0)))/\cZ (aE W) [dj g A e] (aE w') [dj g A e])/\cj 0 W w':=by
 obtain⟨⟨li,e7,go,nw,oS,re,it,sh⟩,b,table,cells,known,most⟩:=e;have aw:=h.B7;refine(aaR.any W (xa:=mM (qW A ⟨⟨li,e7,go,nw,oS,re,it,sh⟩,b,table,cells,known,most⟩) 0) (aw.pick [0,1,3,11] rfl)).mono λx w' aq=> ?_
 obtain⟨⟨y,rfl,t⟩,hl⟩:=aq;have t2:=cZ.RQ aw [0,1,3,11] U U U t;exact⟨⟨(),rfl,t2.packed⟩,hl⟩
theorem LD (W:ax) {g:Nat} {A:dJ} {e:cx} (h:cH (aE W) [dj g A e]) (av:e.u.aG.length<=100000):
  Calls Tryd.prog 15 #[dx g] W λx w'=>(∃y:dX,x= .returned (.slice y.1 e.u.aG.length y.2)/\cZ (aE W) [dj g A e] (aE w') [dj g A e,hr qe 4 dY (.slice y.1 e.u.aG.length y.2) e.u.aG])/\cj 0 W w':=by
 obtain⟨⟨li,e7,go,nw,oS,re,it,sh⟩,b,table,cells,known,most⟩:=e;have aw:=h.B7;refine(aaS.any W (xa:=mM (qW A ⟨⟨li,e7,go,nw,oS,re,it,sh⟩,b,table,cells,known,most⟩) 0) (aZ:=mM (qW A ⟨⟨li,e7,go,nw,oS,re,it,sh⟩,b,table,cells,known,most⟩) 18) (aw.pick [5,11] rfl) av).mono λx w' aq=> ?_
 obtain⟨⟨y,rfl,t⟩,hl⟩:=aq;have t2:=cZ.lift (L':=[hr qe 4 dY (dK A.l) li,dW g qP (qW A ⟨⟨li,e7,go,nw,oS,re,it,sh⟩,b,table,cells,known,most⟩)]) (N:=[hr qe 4 dY (.slice y.1 li.length y.2) li]) aw [5,11] U U U t;exact⟨⟨y,rfl,cZ.Ps t2⟩,hl⟩
theorem Ss (W:ax) {g:Nat} {A:dJ} {e:cx} (h:cH (aE W) [dj g A e]) (av:e.known.length<=100000):
  Calls Tryd.prog 17 #[dx g] W λx w'=>(∃y:dX,x= .returned (.slice y.1 e.known.length y.2)/\cZ (aE W) [dj g A e] (aE w') [dj g A e,hr n9 1 il (.slice y.1 e.known.length y.2) e.known])/\cj 0 W w':=by
 obtain⟨⟨li,e7,go,nw,oS,re,it,sh⟩,b,table,cells,known,most⟩:=e;have aw:=h.B7;refine(aaU.any W (xa:=mM (qW A ⟨⟨li,e7,go,nw,oS,re,it,sh⟩,b,table,cells,known,most⟩) 0) (aZ:=mM (qW A ⟨⟨li,e7,go,nw,oS,re,it,sh⟩,b,table,cells,known,most⟩) 15) (aw.pick [10,11] rfl) av).mono λx w' aq=> ?_
 obtain⟨⟨y,rfl,t⟩,hl⟩:=aq;have t2:=cZ.lift (L':=[hr n9 1 il (dK A.k) known,dW g qP (qW A ⟨⟨li,e7,go,nw,oS,re,it,sh⟩,b,table,cells,known,most⟩)]) (N:=[hr n9 1 il (.slice y.1 known.length y.2) known]) aw [10,11] U U U t;exact⟨⟨y,rfl,cZ.Ps t2⟩,hl⟩
theorem LF (W:ax) {g:Nat} {A:dJ} {e:cx} (h:cH (aE W) [dj g A e]) (av:e.cells.length<=100000):
  Calls Tryd.prog 22 #[dx g] W λx w'=>(∃y:dX,x= .returned (mu e.b (.slice y.1 e.cells.length y.2))/\cZ (aE W) [dj g A e] (aE w') [dj g A e,hr kQ 1 fQ (.slice y.1 e.cells.length y.2) e.cells])/\cj 0 W w':=by
 obtain⟨⟨li,e7,go,nw,oS,re,it,sh⟩,b,table,cells,known,most⟩:=e;have aw:=h.B7;refine(aa'.any W (xa:=mM (qW A ⟨⟨li,e7,go,nw,oS,re,it,sh⟩,b,table,cells,known,most⟩) 7) (aw.pick [9,11] rfl) av).mono λx w' aq=> ?_
 obtain⟨⟨y,rfl,t⟩,hl⟩:=aq;have t2:=cZ.lift (L':=[hr kQ 1 fQ (dK A.c) cells,dW g qP (qW A ⟨⟨li,e7,go,nw,oS,re,it,sh⟩,b,table,cells,known,most⟩)]) (N:=[hr kQ 1 fQ (.slice y.1 cells.length y.2) cells]) aw [9,11] U U U t;exact⟨⟨y,rfl,cZ.Ps t2⟩,hl⟩
def kx (e:cx) (p:d_) (c:Int):cx:={e with u:={e.u with reqs:=y4 e.b e.most p e.u.reqs c (cl e.b p,c,e.known.getD (cl e.b p) default)},cells:=Cm e.b e.most p e.u.reqs c e.cells c}
def mw (e:cx) (p:d_) (k:Bool):cx:={e with u:={e.u with reqs:=mS e.b e.most p e.u.reqs (cl e.b p,e.cells.getD (cl e.b p) default,k)},known:=pP e.b e.most p e.u.reqs e.known k}
theorem alC (W:ax) {g:Nat} {A:dJ} {e:cx} (h:cH (aE W) [dj g A e]) (p:d_) (c:Int) (af:okB e.b) (hl:e.cells.length=(fx e.b).toNat) (al:e.known.length=e.cells.length) (ao:e.u.reqs.length<=400000):
  Calls Tryd.prog 18 #[dx g,P.val p,.int .i64 c] W λx w'=>(∃a':dJ,x= .returned (.int .i64 (j' e.b e.most p e.u.reqs c))/\cZ (aE W) [dj g A e] (aE w') [dj g a' (kx e p c)])/\cj 0 W w':=by
 obtain⟨⟨li,e7,go,nw,oS,re,it,sh⟩,b,table,cells,known,most⟩:=e;have aw:=h.B7;refine(aa5.any W (xa:=mM (qW A ⟨⟨li,e7,go,nw,oS,re,it,sh⟩,b,table,cells,known,most⟩) 7) (aZ:=mM (qW A ⟨⟨li,e7,go,nw,oS,re,it,sh⟩,b,table,cells,known,most⟩) 15) (xc:=mM (qW A ⟨⟨li,e7,go,nw,oS,re,it,sh⟩,b,table,cells,known,most⟩) 20) (aw.pick [0,9,10,11] rfl) p c af hl al ao).mono λx w' aq=> ?_
 obtain⟨⟨y,rfl,t⟩,hl⟩:=aq;have t2:=cZ.RQ aw [0,9,10,11] U U U t;exact⟨⟨{A with q:=y},rfl,t2.packed⟩,hl⟩
theorem alD (W:ax) {g:Nat} {A:dJ} {e:cx} (h:cH (aE W) [dj g A e]) (p:d_) (k:Bool) (af:okB e.b) (hl:e.cells.length=(fx e.b).toNat) (al:e.known.length=e.cells.length) (ao:e.u.reqs.length<=400000):
  Calls Tryd.prog 19 #[dx g,P.val p,.bool k] W λx w'=>(∃a':dJ,x= .returned (.int .i64 (jB e.b e.most p e.u.reqs))/\cZ (aE W) [dj g A e] (aE w') [dj g a' (mw e p k)])/\cj 0 W w':=by
 obtain⟨⟨li,e7,go,nw,oS,re,it,sh⟩,b,table,cells,known,most⟩:=e;have aw:=h.B7;refine(aa6.any W (xa:=mM (qW A ⟨⟨li,e7,go,nw,oS,re,it,sh⟩,b,table,cells,known,most⟩) 7) (aZ:=mM (qW A ⟨⟨li,e7,go,nw,oS,re,it,sh⟩,b,table,cells,known,most⟩) 15) (xc:=mM (qW A ⟨⟨li,e7,go,nw,oS,re,it,sh⟩,b,table,cells,known,most⟩) 20) (aw.pick [0,9,10,11] rfl) p k af hl al ao).mono λx w' aq=> ?_
 obtain⟨⟨y,rfl,t⟩,hl⟩:=aq;have t2:=cZ.RQ aw [0,9,10,11] U U U t;exact⟨⟨{A with q:=y},rfl,t2.packed⟩,hl⟩
def ki (b:bQ) (cells:List Int) (table:List cW) (known:List Bool) (most:Int):cx:=
 ⟨⟨List.replicate cells.length zT,[],[],List.range cells.length,jT cells.length cells.length,[],cells,wx known cells.length⟩,b,table,cells,wx known cells.length,most⟩
theorem abl (W:ax) {bS:Option Addr} {bL bT:Nat} {cells:List Int} (h0:cE (aE W) 1 fQ (.slice bS bL bT) cells) {b:bQ} {oO oP:J} {table:List cW} {known:List Bool} (aN:cE (aE W) 8 jF oO table) (gX:cE (aE W) 1 il oP known) (most:Int)
  (cC:mJ (aE W)) (av:cells.length<=10000) (iy:bL=cells.length) (ng:known.length<=100000) (y1:table.length<=100000):
  Calls Tryd.prog 9 #[mu b (.slice bS bL bT),oO,oP,.int .i64 most] W λx w'=>(if pq b cells table known most then (∃(g:Nat) (A:dJ),x= .returned (.tuple ⟨[dx g,.int .i64 0]⟩)/\cZ (aE W) [] (aE w') [dj g A (ki b cells table known most)]) else x= .returned (.tuple ⟨[.pointer none,.int .i64 1]⟩))/\cj W.heap.size W w':=by
 refine(aa_.any W h0 aN gX most cC av iy ng y1).mono λx w' aq=> ?_
 obtain⟨h,hl⟩:=aq;refine⟨?_,hl⟩;split at h
 ·rename_i af
  rw[aY af];obtain⟨g,y,rfl,t⟩:=h;have hp:cZ (aE W) [] (aE w') [dj g ⟨(none,0),(none,0),(none,0),y.1,y.2.1,y.2.2.1,y.2.2.2.1,y.2.2.2.2.1,y.2.2.2.2.2.1,y.2.2.2.2.2.2.1,y.2.2.2.2.2.2.2⟩ (ki b cells table known most)]:=⟨t.sp.packed,t.keeps,λb af=>t.fresh b (DT.1 af)⟩;exact⟨g,_,rfl,hp⟩
 ·rename_i af
  rw[a_ af];exact h
end AE
namespace AE
theorem St {table:List cW} (h:(mR table).2=0):Zl table:=by
 have aC:∀i,i<table.length->hI (table.getD i default):=by
  unfold mR at h;split at h
  ·cases h
  ·split at h
   ·cases h
   ·split at h
    ·cases h
    ·split at h
     ·rename_i i ai
      simp only at h;split at h<;>cases h
     ·rename_i tc
      intro i ai;have:=List.find?_eq_none.1 tc i (List.mem_range.2 ai);simp only [decide_eq_true_eq] at this;unfold yY at this;exact Classical.not_not.1 λah=>this (.inl ah)
 intro c;unfold eQ;split
 ·rename_i ar
  have:=aC c.toNat aj;unfold hI at this;obtain⟨_,_,ad,ag,ay,bG,cJ,cU,fR,pv⟩:=this;refine⟨ad,ag,λi ai=> ?_⟩
  match i,ai with
  |0,_=>exact⟨ay,bG⟩
  |1,_=>exact⟨cJ,cU⟩
  |2,_=>exact⟨fR,pv⟩
 ·refine⟨cw,cw,λi ai=> ?_⟩
  match i,ai with
  |0,_=>exact⟨cw,cw⟩
  |1,_=>exact⟨cw,cw⟩
  |2,_=>exact⟨cw,cw⟩
theorem abm {b:bQ} {cells:List Int} {table:List cW} {known:List Bool} (h:y0 b cells table known=0):Lr b cells table known:=by
 unfold y0 at h;split at h
 ·assumption
 ·cases h
theorem alE {known:List Bool} {n:Nat} (h:known.length=0\/known.length=n):(wx known n).length=n:=by
 unfold wx;split
 ·simp
 ·omega
theorem abn (n:Nat):jT n n=List.replicate n true:=ZZ n
theorem alF {b:bQ} {cells:List Int} {table:List cW} {known:List Bool} {most:Int} (h:pq b cells table known most) (av:cells.length<=10000):
  gu table b (ki b cells table known most).u/\(ki b cells table known most).cells.length=(ki b cells table known most).u.b_.length/\(ki b cells table known most).known.length=(ki b cells table known most).u.b_.length/\hP b (ki b cells table known most).u<=361*cells.length:=by
 obtain⟨ad,⟨ag,ay,bG,cJ,cU⟩,fR⟩:=abm h.1;have al:=alE fR;have aC:(fx b).toNat=cells.length:=by omega
 have kn:(hc b).N=cells.length:=(Zh ag).trans aC;have bW:dI (List.replicate cells.length zT)=λ_ _=>0:=by
  funext k c;unfold dI;have:(List.replicate cells.length zT).getD k z4=z4:=by
   rw[dq,List.getElem?_replicate];split<;>rfl
  rw[this];exact Gd c
 have aI:(iN table (ki b cells table known most).u.lit (ki b cells table known most).u.b_).lr (hc b).N:=⟨λk _=>(St ad _).1,λk c _ ar=>(St ad _).2.2 c ar⟩;have hw:qO (hc b) (iN table (ki b cells table known most).u.lit (ki b cells table known most).u.b_) (hx (ki b cells table known most).u):=by
  refine⟨by show (List.replicate cells.length zT).length=_;rw[mz,kn],⟨?_,?_,?_,?_⟩,λ_=>⟨rfl,?_⟩,λc1=>absurd rfl c1⟩
  ·show (jT cells.length cells.length).length=_
   rw[abn,mz,kn]
  ·exact List.nodup_range
  ·intro k al
   rw[kn];exact List.mem_range.1 al
  ·intro k al
   rw[kn] at al;show (jT cells.length cells.length).getD k false=true↔k∈List.range cells.length;rw[abn,dq,List.getElem?_replicate,aY al];simp [al]
  ·show pE (hc b) _ (dI (List.replicate cells.length zT)) (· ∈List.range cells.length)
   rw[bW];exact pE.zero aI λk al=>List.mem_range.2 (by rw[<-kn];exact al)
 have alG:mL (hc b).N (hx (ki b cells table known most).u)<=361*cells.length:=by
  unfold mL;rw[aY (show (hx (ki b cells table known most).u).bJ=[] from rfl)];have:=Xh hw;have aA:(hx (ki b cells table known most).u).bz.length=cells.length:=List.length_range;omega
 refine⟨⟨St ad,ag,?_,?_,?_,hw,⟨λx aq=>(by cases aq),?_⟩,?_,λx aq=>(by cases aq)⟩,?_,?_,?_⟩
 ·show (wx known cells.length).length=_
  rw[al,aC]
 ·show cells.length=(wx known cells.length).length
  rw[al]
 ·show (wx known cells.length).length<=_
  rw[al];exact av
 ·have:=Gh (hx (ki b cells table known most).u)
  show 0+_<=_;omega
 ·unfold qN
  rw[kn] at alG ⊢;omega
 ·exact al.symm
 ·rfl
 ·unfold hP
  show mL (hc b).N (hx (ki b cells table known most).u)+qN (hc b).N*0<=_;omega
end AE
namespace AE
abbrev Ev:=Int×Int×Int×Int×Int×Bool
abbrev alH:aK:=39
theorem Su:Tryd.prog.underlying 31=some (.slice alH):=au
def abo (x:Int×Int×Int×Int×Int×Bool):List J:=[.int .i64 x.1,.int .i64 x.2.1,.int .i64 x.2.2.1,.int .i64 x.2.2.2.1,.int .i64 x.2.2.2.2.1,.bool x.2.2.2.2.2]
abbrev Y.val (x:Ev):J:= .agg ⟨abo x⟩
def xH:List gy->List Int×List Bool->List Int×List Bool
 |[],s=>s
 |x::r,s=>xH r (s.1.set x.1 x.2.1,s.2.set x.1 x.2.2)
structure gF (e:cx):Prop where
 tV:gu e.table e.b e.u
 lc:e.cells.length=e.u.b_.length
 mB:e.known.length=e.u.b_.length
 LG:e.u.reqs.length<=10000
 zN:xH e.u.reqs (e.u.lit,e.u.b_)=(e.cells,e.known)
theorem gF.LH {e:cx} (h:gF e):e.cells.length=(fx e.b).toNat:=h.lc.trans h.tV.len
theorem gF.Sv {e:cx} (h:gF e):e.known.length=e.cells.length:=h.mB.trans h.lc.symm
theorem gF.abp {e:cx} (h:gF e):e.u.reqs.length<=400000:=Nat.le_trans h.LG cw
def nR (e:cx) (n:Int):cx:={e with u:=(i' e.table e.b n.toNat e.u).2}
def kH (e:cx):cx:={e with u:=(i' e.table e.b (hP e.b e.u) e.u).2}
def Ew (x:Ev):d_:=(x.2.2.1,x.2.2.2.1,x.2.2.2.2.1)
def Sw (e:cx) (x:Ev):cx:=if x.1=1 then kx e (Ew x) x.2.1 else if x.1=2 then mw e (Ew x) x.2.2.2.2.2 else if x.1=3 then nR e x.2.1 else if x.1=4 then kH e else e
end AE
end Go.Proofs.YtepcfjbfkedlpaaDoor
namespace Go.Proofs.YtepcfjbfkedlpaaDoor
open Go Go.ChangeShapes Go.WideShapes Go.ChangeAt Go.RowKit
section
theorem Sx:Tryd.prog.cellsOf 23=3:=au
theorem alI:Tryd.prog.cellsOf 25=6:=au
theorem alJ:Tryd.prog.cellsOf 28=7:=au
theorem alK:Tryd.prog.cellsOf 26=1:=au
theorem H4:Tryd.prog.underlying 23=some (.struct (Tryd.prog.fieldsOf 23)):=au
theorem abq:Tryd.prog.underlying 25=some (.struct (Tryd.prog.fieldsOf 25)):=au
theorem Sy:Tryd.prog.underlying 28=some (.struct (Tryd.prog.fieldsOf 28)):=au
section
variable {H:Type} {enc:aK×J->H} {W:ax} {r:Reach} {cu:Nat} {base:Nat} {n1:Nat->Bool} {n3:Bool} {v:J} {d:DataW H} {p:List MemPlace}
theorem alL {t n k:Nat} {cs:List J} {x:DataW H×List MemPlace} (hu:Tryd.prog.underlying t=some (.struct (Tryd.prog.fieldsOf t))) (al:Tryd.prog.cellsOf t=k) (h:DataW.trod enc Tryd.prog W base n1 n3 n t cs=some x):cs.length=k:=by
 obtain⟨_,_,_,_,hlen,_,_⟩:=DataW.trod_struct hu h;rw[hlen,al]
theorem LI {n:Nat} {cs:List J} {x:DataW H×List MemPlace} (h:DataW.trod enc Tryd.prog W base n1 n3 n 3 cs=some x):∃z:Int,cs=[.int .i64 z]:=by
 obtain⟨z,e,_⟩:=DataW.trod_int Tryd.underlying3 h;exact⟨z,e⟩
theorem alM {n:Nat} {cs:List J} {x:DataW H×List MemPlace} (h:DataW.trod enc Tryd.prog W base n1 n3 n 4 cs=some x):∃z:Bool,cs=[.bool z]:=by
 obtain⟨z,e,_⟩:=DataW.trod_bool Tryd.underlying4 h;exact⟨z,e⟩
theorem Sz {n:Nat} {cs:List J} {x:DataW H×List MemPlace} (h:DataW.trod enc Tryd.prog W base n1 n3 n 23 cs=some x):∃p:AE.d_,cs=[.int .i64 p.1,.int .i64 p.2.1,.int .i64 p.2.2]:=by
 have hlen:=alL H4 Sx h;obtain⟨_,vq,aL,_⟩:=p5 (i:=0) (ty:=3) (off:=0) H4 au DE h;obtain⟨_,zz,ad,_⟩:=p5 (i:=1) (ty:=3) (off:=1) H4 au DE h;obtain⟨_,Jp,ag,_⟩:=p5 (i:=2) (ty:=3) (off:=2) H4 au DE h;obtain⟨z0,e0⟩:=LI aL;obtain⟨FJ,e1⟩:=LI ad;obtain⟨z2,e2⟩:=LI ag
 match cs,hlen,e0,e1,e2 with
 |[dE,hA,c2],_,e0,e1,e2=>
  simp only [List.drop_zero,List.drop_succ_cons,List.take_succ_cons,List.take_zero,List.cons.injEq,and_true] at e0 e1 e2;exact⟨(z0,FJ,z2),by rw[e0,e1,e2]⟩
theorem abr {α:Type} [Inhabited α] {dY:α->List J} {k t e:Nat} (hu:Tryd.prog.underlying t=some (.slice e)) (al:Tryd.prog.cellsOf e=k) (h1:0<k) (LJ:∀x,(dY x).length=k)
  (pB:∀n cs x,DataW.trod enc Tryd.prog W base n1 n3 n e cs=some x->∃s:α,cs=dY s) {bq:Nat} {EO:List J} {x:DataW H×List MemPlace} (h:DataW.trod enc Tryd.prog W base n1 n3 bq t EO=some x):
  ∃(a:Option Addr) (n c:Nat) (l:List α),EO=[.slice a n c]/\AE.cE (AE.aE W) k dY (.slice a n c) l/\n=l.length:=by
 rcases Deep.open_slice hu h with ⟨fT,_⟩|⟨a,len,cap,m,n,zI,jq,fT,af,hl,hm,sT,aq,ai⟩
 ·exact⟨none,0,0,[],fT,.nil _ _,rfl⟩
 ·have r5:len<=m:=by rw[sT];split<;>omega
  have Bs:∀i,i<len->∃s:α,∀j u,(dY s)[j]? =some u->W.cell? (a.add (i*k+j))=some u:=λi p6=>by
   obtain⟨cs',ar,aN⟩:=ai i aj;rw[al] at ar;obtain⟨s,rfl⟩:=pB _ _ _ aN;obtain⟨_,_,DF⟩:=World.cells?_some ar;refine⟨s,λj u hj=> ?_⟩;have Oy:j<k:=by have:=(List.getElem?_eq_some_iff.1 hj).1;rwa [LJ] at this
   rw[<-Deep.add_add,DF j Oy];exact hj
  let f:Nat->α:=λi=>if h:i<len then (Bs i h).choose else default
  have aR:∀i,i<len->∀j u,(dY (f i))[j]? =some u->W.cell? (a.add (i*k+j))=some u:=λi p6=>by
   show ∀j u,(dY (if h:i<len then (Bs i h).choose else default))[j]? =some u->_;rw[dif_pos p6];exact(Bs i p6).choose_spec
  have hlen:((List.range len).map f).length=len:=by simp
  refine⟨some a,len,cap,(List.range len).map f,fT,?_,hlen.symm⟩;rcases Nat.eq_zero_or_pos len with aL|aL
  ·subst aL
   exact .nil _ _
  ·obtain⟨mh,alN⟩:∃mh,(dY (f 0))[0]? =some mh:=⟨_,gi (by rw[LJ];exact h1)⟩
   have n4:=aR 0 aL 0 _ alN;rw[Nat.zero_mul,Nat.zero_add] at n4;obtain⟨bn,off,spot⟩:=a;have Oz:∃cs ty fr,W.heap[bn]? =some (.cells cs ty fr)/\spot=none:=by
    unfold World.cell? at n4;split at n4
    ·rename_i hA t1 f1 mc
     split at n4
     ·cases n4
     ·rename_i j0
      refine⟨hA,t1,f1,mc,?_⟩;cases spot with
      |none=>rfl
      |some x=>exact absurd rfl j0
    ·cases n4
   obtain⟨cs,ty,fr,jW,rfl⟩:=Oz;have key:AE.cE (AE.aE W) k dY (.slice (some ⟨bn,off,none⟩) ((List.range len).map f).length cap) ((List.range len).map f):=by
    refine .mk (cs:=cs) (ty:=ty) (fr:=fr) jW (by rw[hlen];exact hl) λi x aq j u hj=> ?_
    have p6:i<len:=by
     have:=(List.getElem?_eq_some_iff.1 aq).1
     rwa [hlen] at this
    have OA:x=f i:=by
     rw[List.getElem?_map,List.getElem?_range p6] at aq;exact(Option.some.inj aq).symm
    subst OA;have:=aR i p6 j u hj;rw[AE.Addr.kz,cell_of_row W _ _ _ _ _ jW,<-Nat.add_assoc] at this;exact this
   rw[hlen] at key;exact key
theorem alO {α:Type} [Inhabited α] {dY:α->List J} {k t e:Nat} (hu:Tryd.prog.underlying t=some (.slice e)) (al:Tryd.prog.cellsOf e=k) (h1:0<k) (LJ:∀x,(dY x).length=k)
  (pB:∀n cs x,DataW.trod enc Tryd.prog W base n1 n3 n e cs=some x->∃s:α,cs=dY s) (aC:Value.okWide Tryd.prog W r cu t v) (h:DataW.Trod enc Tryd.prog W base n1 n3 t v d p):∃l:List α,AE.cE (AE.aE W) k dY v l:=by
 obtain⟨a0,Bq,Br,rfl⟩:=okWide_slice hu aC;obtain⟨bq,h⟩:=h;obtain⟨a,n,c,l,ad,ag,_⟩:=abr hu al h1 LJ pB h;have e:Value.slice a0 Bq Br= .slice a n c:=(List.cons.inj (show [Value.slice a0 Bq Br]=[.slice a n c] from ad)).1;rw[e];exact⟨l,ag⟩
theorem alP (aC:Value.okWide Tryd.prog W r cu 30 v) (h:DataW.Trod enc Tryd.prog W base n1 n3 30 v d p):∃l:List Bool,AE.cE (AE.aE W) 1 AE.il v l:=
 alO Tryd.underlying30 Bm cw (λ_=>rfl) (λ_ _ _ h=>alM h) aC h
theorem alQ {cs:Array J} (h:cs.size=7):∃a b c d e f g,cs= #[a,b,c,d,e,f,g]:=by
 obtain⟨l⟩:=cs
 match l,h with
 |[a,b,c,d,e,f,g],_=>exact⟨a,b,c,d,e,f,g,rfl⟩
theorem alR (aC:Value.okWide Tryd.prog W r cu 28 v) (h:DataW.Trod enc Tryd.prog W base n1 n3 28 v d p):∃(b:AE.bQ) (a:Option Addr) (n c:Nat) (cells:List Int),v=AE.mu b (.slice a n c)/\AE.cE (AE.aE W) 1 AE.fQ (.slice a n c) cells/\n=cells.length:=by
 obtain⟨cs,rfl,cv⟩:=okWide_struct Sy aC;rw[alJ] at cv;obtain⟨fN,eJ,gR,hh,hZ,im,iY,rfl⟩:=alQ cv;obtain⟨bq,h⟩:=h;obtain⟨_,vq,aL,_⟩:=p5 (i:=0) (ty:=25) (off:=0) Sy au alI h;obtain⟨_,zz,ad,_⟩:=p5 (i:=1) (ty:=26) (off:=6) Sy au alK h;obtain⟨_,z0,eI,_⟩:=p5 (i:=0) (ty:=23) (off:=0) abq au Sx aL;obtain⟨_,FJ,g1,_⟩:=p5 (i:=1) (ty:=23) (off:=3) abq au Sx aL;obtain⟨kC,e0⟩:=Sz eI;obtain⟨q1,e1⟩:=Sz g1;obtain⟨a,n,c,l,e2,lV,av⟩:=abr (dY:=AE.fQ) Tryd.underlying26 DE cw (λ_=>rfl) (λ_ _ _ h=>LI h) ad;have f0:[fN,eJ,gR]=[.int .i64 kC.1,.int .i64 kC.2.1,.int .i64 kC.2.2]:=e0;have f1:[hh,hZ,im]=[.int .i64 q1.1,.int .i64 q1.2.1,.int .i64 q1.2.2]:=e1;have f2:[iY]=[.slice a n c]:=e2;simp only [List.cons.injEq,and_true] at f0 f1 f2;refine⟨(kC.1,kC.2.1,kC.2.2,q1.1,q1.2.1,q1.2.2),a,n,c,l,?_,lV,av⟩;rw[f0.1,f0.2.1,f0.2.2,f1.1,f1.2.1,f1.2.2,f2]
end
end
end Go.Proofs.YtepcfjbfkedlpaaDoor
namespace Go.Proofs.YtepcfjbfkedlpaaDoor
open Go Go.Proofs Go.RowKit
namespace AE
theorem abt:∀(l:List gy) (x:gy) (s:List Int×List Bool),xH (l++[x]) s=((xH l s).1.set x.1 x.2.1,(xH l s).2.set x.1 x.2.2)
 |[],_,_=>rfl
 |_::l,x,s=>abt l x _
variable {table:List cW} {b:bQ}
theorem alS (u:iM):xH (gS table b u).2.reqs ((gS table b u).2.lit,(gS table b u).2.b_)=xH u.reqs (u.lit,u.b_)/\(gS table b u).2.reqs.length<=u.reqs.length:=by
 by_cases ad:0<u.bJ.length
 ·rw[G8 ad]
  obtain⟨q1,aH,b0⟩:=Zo (table:=table) (b:=b) u (u.bJ.getD 0 default) (u.bJ.drop 1);dsimp only;rw[q1,aH,b0];exact⟨rfl,ch _⟩
 ·by_cases ag:0<u.bz.length
  ·rw[G9 ad ag]
   obtain⟨q1,aH,b0⟩:=Zp (table:=table) (b:=b) u (u.bz.getD 0 default) (u.bz.drop 1);dsimp only;rw[q1,aH,b0];exact⟨rfl,ch _⟩
  ·by_cases ay:0<u.reqs.length
   ·rw[G' ad ag ay]
    have:=Ha (d:=default) (List.length_pos_iff.1 ay);refine⟨?_,?_⟩
    ·conv=>rhs;rw[this]
     rfl
    ·show (u.reqs.drop 1).length<=_
     rw[List.length_drop];omega
   ·rw[G_ ad ag ay]
    exact⟨rfl,ch _⟩
theorem LK:∀(f:Nat) (u:iM),xH (i' table b f u).2.reqs ((i' table b f u).2.lit,(i' table b f u).2.b_)=xH u.reqs (u.lit,u.b_)/\(i' table b f u).2.reqs.length<=u.reqs.length
 |0,_=>⟨rfl,ch _⟩
 |f+1,u=>by
  unfold i';split
  ·obtain⟨q1,aH⟩:=LK f (gS table b u).2
   obtain⟨cS,dy⟩:=alS (table:=table) (b:=b) u;exact⟨q1.trans cS,Nat.le_trans aH dy⟩
  ·exact⟨rfl,ch _⟩
def rR (e:cx):Prop:=e.u.bJ.length=0/\e.u.bz.length=0/\e.u.reqs.length=0
instance (e:cx):Decidable (rR e):=by unfold rR;infer_instance
def wA (e:cx):Nat:=hP e.b e.u
def y_ (e:cx) (n:Int):Nat:=(i' e.table e.b n.toNat e.u).1
def va (e:cx):Nat:=(i' e.table e.b (hP e.b e.u) e.u).1
theorem abu {u:iM} (h:(gS table b u).1=false):u.bJ.length=0/\u.bz.length=0/\u.reqs.length=0:=by
 by_cases ad:0<u.bJ.length
 ·rw[G8 ad] at h;cases h
 ·by_cases ag:0<u.bz.length
  ·rw[G9 ad ag] at h;cases h
  ·by_cases ay:0<u.reqs.length
   ·rw[G' ad ag ay] at h;cases h
   ·exact⟨aj,aj,aj⟩
theorem gF.run {e:cx} (h:gF e) (f:Nat) {u':iM} (hu:u'=(i' e.table e.b f e.u).2) (aA:gu e.table e.b u'):gF {e with u:=u'}:=by
 subst hu;obtain⟨q1,aH⟩:=LK (table:=e.table) (b:=e.b) f e.u;have hl:=aA.len.trans h.tV.len.symm;exact⟨aA,h.lc.trans hl.symm,h.mB.trans hl.symm,Nat.le_trans aH h.LG,q1.trans h.zN⟩
theorem gF.z7 {e:cx} (h:gF e) (n:Int):gF (nR e n)/\y_ e n<=n.toNat/\(y_ e n<n.toNat->rR (nR e n))/\y_ e n+wA (nR e n)<=wA e/\(nR e n).u.reqs.length<=e.u.reqs.length:=by
 obtain⟨q1,aH⟩:=h.tV.run n.toNat;obtain⟨cS,_,_,vf⟩:=Lf (table:=e.table) (b:=e.b) n.toNat e.u;refine⟨h.run n.toNat rfl q1,cS,λcg=> ?_,aH,(LK (table:=e.table) (b:=e.b) n.toNat e.u).2⟩;have av:=vf.resolve_left (Nat.ne_of_lt cg);exact abu av
theorem gF.set {e:cx} (h:gF e):gF (kH e)/\rR (kH e)/\va e+wA (kH e)<=wA e/\(kH e).u.reqs.length<=e.u.reqs.length:=by
 obtain⟨q1,aH,b0⟩:=h.tV.settle;exact⟨h.run _ rfl q1,abu aH,b0,(LK (table:=e.table) (b:=e.b) _ e.u).2⟩
theorem gF.full {e:cx} (h:gF e) (aw:rR e):yB (hc e.b) (iN e.table e.cells e.known) (dI e.u.aG)/\e.u.lit=e.cells/\e.u.b_=e.known:=by
 unfold rR at aw;have av:gS e.table e.b e.u=(false,e.u):=G_ aj aj aj;obtain⟨_,_,_,ao,_,aR⟩:=h.tV.done (by rw[av]);have hp:=h.zN;rw[ao] at hp;have ad:e.u.lit=e.cells:=congrArg Prod.fst hp;have ag:e.u.b_=e.known:=congrArg Prod.snd hp;rw[ad,ag] at aR;exact⟨aR,ad,ag⟩
def refuse (e:cx) (p:d_):Prop:=e.most<=((e.u.reqs.length:Nat):Int)
theorem abv {α:Type} {l:List α} {k:Nat} {d:α}:l.set k (l.getD k d)=l:=by
 apply List.ext_getElem?;intro i;rw[List.getElem?_set];split
 ·rename_i al
  subst al;split
  ·rename_i hl
   rw[dq,gi hl];rfl
  ·rename_i hl
   exact(List.getElem?_eq_none aj).symm
 ·rfl
theorem gF.ask {e:cx} (h:gF e) (ao:e.u.reqs.length<10000) {p:d_} (hp:bV p e.b) {x:gy} (aq:x.1=cl e.b p) {c:List Int} {k:List Bool} (ar:c=e.cells.set (cl e.b p) x.2.1) (al:k=e.known.set (cl e.b p) x.2.2):
  gF {e with u:={e.u with reqs:=e.u.reqs++[x]},cells:=c,known:=k}/\hP e.b {e.u with reqs:=e.u.reqs++[x]}=wA e+qN (hc e.b).N:=by
 have hl:x.1<e.u.b_.length:=by rw[aq,h.tV.len];exact Lw hp
 obtain⟨q1,aH⟩:=h.tV.ask hl;refine⟨⟨q1,?_,?_,?_,?_⟩,aH⟩
 ·subst ar;exact(List.length_set).trans h.lc
 ·subst al;exact(List.length_set).trans h.mB
 ·show (e.u.reqs++[x]).length<=10000
  rw[List.length_append,List.length_singleton];omega
 ·show xH (e.u.reqs++[x]) _=_
  rw[abt,h.zN,ar,al,aq]
theorem H5 {e:cx} {p:d_} {c:Int} (h:j' e.b e.most p e.u.reqs c≠0):kx e p c=e:=by
 obtain⟨u,b,table,cells,known,most⟩:=e;by_cases ar:xG c
 ·have av:¬acc b most p u.reqs.length:=λq=>h (by unfold j' jB;dsimp only;rw[aY ar,aY q.1,a_ q.2])
  unfold kx y4 Cm mS pP;dsimp only;rw[a_ av,a_ av,ite_self,ite_self]
 ·unfold kx y4 Cm
  dsimp only;rw[a_ ar,a_ ar]
theorem abw {e:cx} {p:d_} {k:Bool} (h:jB e.b e.most p e.u.reqs≠0):mw e p k=e:=by
 obtain⟨u,b,table,cells,known,most⟩:=e;have av:¬acc b most p u.reqs.length:=λq=>h (by unfold jB;dsimp only;rw[aY q.1,a_ q.2])
 unfold mw mS pP;dsimp only;rw[a_ av,a_ av]
theorem abx {e:cx} {p:d_} {c:Int} (h:j' e.b e.most p e.u.reqs c=0):xG c/\bV p e.b/\¬e.most<=((e.u.reqs.length:Nat):Int)/\kx e p c={e with u:={e.u with reqs:=e.u.reqs++[(cl e.b p,c,e.known.getD (cl e.b p) default)]},cells:=e.cells.set (cl e.b p) c}:=by
 unfold j' jB at h;split at h
 ·split at h
  ·split at h
   ·cases h
   ·rename_i ad ag ay
    have bE:acc e.b e.most p e.u.reqs.length:=⟨ag,ay⟩;unfold kx y4 Cm mS pP;rw[aY ad,aY ad,aY bE,aY bE];exact⟨ad,ag,ay,rfl⟩
  ·cases h
 ·cases h
theorem alT {e:cx} {p:d_} {k:Bool} (h:jB e.b e.most p e.u.reqs=0):bV p e.b/\¬e.most<=((e.u.reqs.length:Nat):Int)/\mw e p k={e with u:={e.u with reqs:=e.u.reqs++[(cl e.b p,e.cells.getD (cl e.b p) default,k)]},known:=e.known.set (cl e.b p) k}:=by
 unfold jB at h;split at h
 ·split at h
  ·cases h
  ·rename_i ag ay
   have bE:acc e.b e.most p e.u.reqs.length:=⟨ag,ay⟩;unfold mw mS pP;rw[aY bE,aY bE];exact⟨ag,ay,rfl⟩
 ·cases h
theorem gF.cn {e:cx} (h:gF e) (ao:e.u.reqs.length<10000) (p:d_) (c:Int):gF (kx e p c)/\(j' e.b e.most p e.u.reqs c=0->(kx e p c).u.reqs.length=e.u.reqs.length+1/\wA (kx e p c)=wA e+qN (hc e.b).N)/\(j' e.b e.most p e.u.reqs c≠0->kx e p c=e):=by
 by_cases aL:j' e.b e.most p e.u.reqs c=0
 ·obtain⟨_,hp,_,he⟩:=abx aL
  rw[he];obtain⟨q1,aH⟩:=h.ask ao hp (x:=(cl e.b p,c,e.known.getD (cl e.b p) default)) U U abv.symm;exact⟨q1,λ_=>⟨by show (e.u.reqs++[_]).length=_;rw[List.length_append,List.length_singleton],aH⟩,λav=>absurd aL av⟩
 ·rw[H5 aL]
  exact⟨h,λav=>absurd av aL,λ_=>rfl⟩
theorem gF.bB {e:cx} (h:gF e) (ao:e.u.reqs.length<10000) (p:d_) (k:Bool):gF (mw e p k)/\(jB e.b e.most p e.u.reqs=0->(mw e p k).u.reqs.length=e.u.reqs.length+1/\wA (mw e p k)=wA e+qN (hc e.b).N)/\(jB e.b e.most p e.u.reqs≠0->mw e p k=e):=by
 by_cases aL:jB e.b e.most p e.u.reqs=0
 ·obtain⟨hp,_,he⟩:=alT (k:=k) aL
  rw[he];obtain⟨q1,aH⟩:=h.ask ao hp (x:=(cl e.b p,e.cells.getD (cl e.b p) default,k)) rfl abv.symm rfl;exact⟨q1,λ_=>⟨by show (e.u.reqs++[_]).length=_;rw[List.length_append,List.length_singleton],aH⟩,λav=>absurd aL av⟩
 ·rw[abw aL]
  exact⟨h,λav=>absurd av aL,λ_=>rfl⟩
theorem gF.do {e:cx} (h:gF e) (ao:e.u.reqs.length<10000) (x:Ev):gF (Sw e x)/\(Sw e x).u.reqs.length<=e.u.reqs.length+1:=by
 unfold Sw;split
 ·obtain⟨q1,aH,b0⟩:=h.cn ao (Ew x) x.2.1
  refine⟨q1,?_⟩;by_cases aL:j' e.b e.most (Ew x) e.u.reqs x.2.1=0
  ·rw[(aH aL).1];exact ch _
  ·rw[b0 aL];omega
 ·split
  ·obtain⟨q1,aH,b0⟩:=h.bB ao (Ew x) x.2.2.2.2.2
   refine⟨q1,?_⟩;by_cases aL:jB e.b e.most (Ew x) e.u.reqs=0
   ·rw[(aH aL).1];exact ch _
   ·rw[b0 aL];omega
  ·split
   ·obtain⟨q1,_,_,_,hz⟩:=h.z7 x.2.1
    exact⟨q1,aj⟩
   ·split
    ·obtain⟨q1,_,_,hz⟩:=h.set
     exact⟨q1,aj⟩
    ·exact⟨h,aj⟩
theorem LL {b:bQ} {cells:List Int} {table:List cW} {known:List Bool} {most:Int} (h:pq b cells table known most) (av:cells.length<=10000):gF (ki b cells table known most)/\wA (ki b cells table known most)<=361*cells.length:=by
 obtain⟨q1,aH,b0,eF⟩:=alF h av;exact⟨⟨q1,aH,b0,Nat.zero_le _,rfl⟩,eF⟩
end AE
namespace AE
theorem all_eq {α:Type} [Inhabited α] {l k:List α} (hl:l.length=k.length) (h:∀j,j<l.length->l.getD j default=k.getD j default):l=k:=by
 apply List.ext_getElem hl;intro i ad ag;have:=h i ad;rw[dq,dq,gi ad,gi ag] at this;exact this
theorem aby {a b:Bool} {d:Bool} (ad:a=d) (ag:b=d):a=b:=ad.trans ag.symm
theorem abz {a b:Bool} (ad:¬a=true) (ag:¬b=true):a=b:=by
 cases a<;>cases b<;>simp_all
theorem SA {α fg:Type} [Inhabited α] {f:α->fg} {l:List α} {i:Nat} (h:i<l.length):(l.take i).map f++[f (l.getD i default)]=(l.take (i+1)).map f:=by
 rw[List.take_add_one,List.map_append,gi h,dq,gi h];rfl
end AE
namespace AE
namespace SB
noncomputable def body:Code:=(Tryd.f47.body).getD .skip
def N:Nat:=20
noncomputable abbrev bC:=fm Tryd.prog Tryd.f47
def aO:b8:={sl:=b3 [(0,0)],ms:=[],A:=start}
def bP:bj:=[(.len #[29] 3 0,1),
 (.bin .gtr 3 1 (I 300),.bool true)]
theorem e0:bC (at' 20 bP [] body aO)=some (.bool false):=au
def cd:bj:=[(.len #[29] 3 0,1),
 (.bin .gtr 3 1 (I 300),.bool false)]
def eS:List bx:=[]
def eT:aF:=b3 [(3,2),(0,0)]
abbrev hR:=at' 20 cd [] body aO
theorem e1:p3 eT eS hR=some [(0,0),(I 0,2)]:=au
def fb:Code:=tj body [1,1,0,1,4]
def iq:List fl:=oE body [1,1,0,1,4] []
theorem e2:pC hR=fb:=au
theorem e3:gC hR=iq:=au
def dk:bj:=[(.len #[29] 3 0,1),
 (.bin .lss 3 2 1,.bool true),
 (.dB 29 0 2,3),
 (.cq 70 3 0,4),
 (.bB 9 4,5),
 (.len #[9] 3 5,6),
 (.bin .gtr 3 6 (I 60),.bool true)]
theorem hD:bC (nP 20 [] [] iq (at' 20 dk [] fb (b5 eT eS)))=some (.bool false):=au
def fJ:bj:=[(.len #[29] 3 0,1),
 (.bin .lss 3 2 1,.bool true),
 (.dB 29 0 2,3),
 (.cq 70 3 0,4),
 (.bB 9 4,5),
 (.len #[9] 3 5,6),
 (.bin .gtr 3 6 (I 60),.bool false),
 (.bin .add 3 2 (I 1),7)]
theorem ku:qJ eT eS (at' 20 fJ [] fb (b5 eT eS))=some [(0,0),(7,2)]:=au
def hH:bj:=[(.len #[29] 3 0,1),
 (.bin .lss 3 2 1,.bool false)]
theorem h4:bC (nP 20 [] [] iq (at' 20 hH [] fb (b5 eT eS)))=some (.bool true):=au
@[reducible] noncomputable def bD (l:List cW) (dR:cm) (eg:Nat) (i:Nat:=0):List J:=[bu dR l eg,I ((l.length:Nat):Int),I ((i:Nat):Int),hd (bu dR l eg) (i*8),hd (bu dR l eg) (i*8+0),cD (l.getD (i) default).1,I (((l.getD (i) default).1.length:Nat):Int),I ((i+1:Nat):Int)]
theorem any (W:ax) {h_:J} {l:List cW} (hl:cE (aE W) 8 jF h_ l):Calls Tryd.prog 47 #[h_] W λe w'=>e= .returned (.bool (decide (n8 l)))/\cj W.heap.size W w':=by
 obtain⟨dR,eg,rfl⟩:=hl.slice;refine jI (bD l dR eg) body aO N [ak 0] Tryd.func47 λa ah=> ?_
 letI:=b6 ah;by_cases aL:300<((l.length:Nat):Int)
 ·refine bA bP [] (ae (eM hl lY) (ae bb aP)) aQ ?_ ah
  exact bU e0 λw2 bp=>(by first|(rw[cy (O5 aj)];rfl)|(rw[cy (O6 (i:=i) aj aj)];rfl)|(rw[eC (O7 aj (λj h=>bh.2 j aj))];rfl))
 ·refine bA cd [] (ae (eM hl lY) (ae aU aP)) aQ ?_ ah
  refine tp (gq:=(λi=>aX (aE W) (bD l dR eg i))) (λi=>i<=l.length/\∀j,j<i->(l.getD j default).1.length<=60) (λi=>l.length-i) 0 e1 fw (λ_ _ h=>h) (by exact⟨Nat.zero_le _,λj h=>absurd h (Nat.not_lt_zero _)⟩) ?_;intro i bh dA w ah;letI:=b6 ah;refine tk e2 e3 ?_;by_cases sW:((i:Nat):Int)<((l.length:Nat):Int)
  ·by_cases ih:60<(((l.getD (i) default).1.length:Nat):Int)
   ·refine bA dk [] (ae (eM hl lY) (ae bb (ae (nr hl lY qL) (ae (Wh hl (show i<l.length by omega) U U U U) (ae (qm 0 hl (lO i) Wg) (ae (aV.zH U U rp U U) (ae bb aP))))))) aQ ?_ ah
    refine od [] [] aP aQ ?_;exact bU hD λw2 bp=>(by first|(rw[cy (O5 aj)];rfl)|(rw[cy (O6 (i:=i) aj aj)];rfl)|(rw[eC (O7 aj (λj h=>bh.2 j aj))];rfl))
   ·refine bA fJ [] (ae (eM hl lY) (ae bb (ae (nr hl lY qL) (ae (Wh hl (show i<l.length by omega) U U U U) (ae (qm 0 hl (lO i) Wg) (ae (aV.zH U U rp U U) (ae aU (ae kt aP)))))))) aQ ?_ ah
    exact tD (i+1) ku fw (by exact⟨aj,λj h=>by rcases Nat.lt_or_ge j i with ad|ad;exact bh.2 j ad;rw[show j=i by omega];omega⟩)
  ·refine bA hH [] (ae (eM hl lY) (ae aU aP)) aQ ?_ ah
   refine od [] [] aP aQ ?_;exact bU h4 λw2 bp=>(by first|(rw[cy (O5 aj)];rfl)|(rw[cy (O6 (i:=i) aj aj)];rfl)|(rw[eC (O7 aj (λj h=>bh.2 j aj))];rfl))
end SB
end AE
namespace AE
section
variable [a7]
theorem SC {x:J} {u:J} {l:List cW} (hp:dM [x]=true) (br:ep [x]=[u]) (hl:cE a7.dn 8 jF u l) (h:n8 l):jb Tryd.prog (47,[x],.bool true):=
 kR (a:= #[u]) hp rfl br rfl λw hw=>(SB.any w (hl.mono hw)).mono λe w' ga=>by rw[eC h] at ga;exact ga
theorem alU {x:J} {u:J} {l:List cW} (hp:dM [x]=true) (br:ep [x]=[u]) (hl:cE a7.dn 8 jF u l) (h:¬n8 l):jb Tryd.prog (47,[x],.bool false):=
 kR (a:= #[u]) hp rfl br rfl λw hw=>(SB.any w (hl.mono hw)).mono λe w' ga=>by rw[cy h] at ga;exact ga
end
end AE
namespace AE
namespace SD
noncomputable def body:Code:=(Tryd.f25.body).getD .skip
def N:Nat:=22
noncomputable abbrev bC:=fm Tryd.prog Tryd.f25
def aO:b8:={sl:=b3 [(2,1),(1,0),(0,.agg ⟨[2,3,4,5,6,7,8]⟩)],ms:=[],A:=start}
def bP:bj:=[(.len #[26] 3 8,9),
 (.bin .leq 3 9 (I 1000),.bool true),
 (.len #[30] 3 1,10),
 (.bin .leq 3 10 (I 1200),.bool true)]
def j1:dZ:=[(47,[0],.bool true)]
theorem e0:bC (at' 22 bP j1 body aO)=some (.bool true):=au
def cd:bj:=[(.len #[26] 3 8,9),
 (.bin .leq 3 9 (I 1000),.bool true),
 (.len #[30] 3 1,10),
 (.bin .leq 3 10 (I 1200),.bool false)]
def h':dZ:=[(47,[0],.bool true)]
theorem e1:bC (at' 22 cd h' body aO)=some (.bool false):=au
def dk:bj:=[(.len #[26] 3 8,9),
 (.bin .leq 3 9 (I 1000),.bool false)]
def oL:dZ:=[(47,[0],.bool true)]
theorem e2:bC (at' 22 dk oL body aO)=some (.bool false):=au
def sL:dZ:=[(47,[0],.bool false)]
theorem e3:bC (at' 22 [] sL body aO)=some (.bool false):=au
@[reducible] noncomputable def bD (cells:List Int) (bS:cm) (bL bT:Nat) (table:List cW) (kF:cm) (kG:Nat) (known:List Bool) (dc:cm) (dd:Nat) (b:bQ):List J:=[bu kF table kG,bu dc known dd,I b.1,I b.2.1,I b.2.2.1,I b.2.2.2.1,I b.2.2.2.2.1,I b.2.2.2.2.2,.slice bS bL bT,I ((cells.length:Nat):Int),I ((known.length:Nat):Int)]
theorem any (W:ax) {b:bQ} {bS:cm} {bL bT:Nat} {cells:List Int} (h0:cE (aE W) 1 fQ (.slice bS bL bT) cells) {oO:J} {table:List cW} (aN:cE (aE W) 8 jF oO table) {oP:J} {known:List Bool} (gX:cE (aE W) 1 il oP known) (iy:bL=cells.length):Calls Tryd.prog 25 #[.agg ⟨[I b.1,I b.2.1,I b.2.2.1,I b.2.2.2.1,I b.2.2.2.2.1,I b.2.2.2.2.2,.slice bS bL bT]⟩,oO,oP] W λe w'=>e= .returned (.bool (decide (n8 table/\cells.length<=1000/\known.length<=1200)))/\cj W.heap.size W w':=by
 obtain⟨kF,kG,rfl⟩:=aN.slice;obtain⟨dc,dd,rfl⟩:=gX.slice;refine jI (bD cells bS bL bT table kF kG known dc dd b) body aO N [.agg ⟨[ak 2,ak 3,ak 4,ak 5,ak 6,ak 7,ak 8]⟩,ak 0,ak 1] Tryd.func25 λa ah=> ?_
 letI:=b6 ah;have aI:=bK.o5 W;by_cases aL:n8 table
 ·by_cases ad:((cells.length:Nat):Int)<=1000
  ·by_cases ag:((known.length:Nat):Int)<=1200
   ·refine bA bP j1 (ae (eM (h0.mono aI.ext) iz) (ae bb (ae (eM (gX.mono aI.ext) mn) (ae bb aP)))) (cG (SC U U (aN.mono aI.ext) aL) aQ) ?_ ah
    exact bU e0 λw2 bp=>(by first|(rw[eC (show n8 table/\cells.length<=1000/\known.length<=1200 from ⟨bM,aj,aj⟩)];rfl)|(rw[cy (λq:n8 table/\cells.length<=1000/\known.length<=1200=>by first|exact absurd q.1 bM|(have q1:=q.2.1;have aH:=q.2.2;omega))];rfl))
   ·refine bA cd h' (ae (eM (h0.mono aI.ext) iz) (ae bb (ae (eM (gX.mono aI.ext) mn) (ae aU aP)))) (cG (SC U U (aN.mono aI.ext) aL) aQ) ?_ ah
    exact bU e1 λw2 bp=>(by first|(rw[eC (show n8 table/\cells.length<=1000/\known.length<=1200 from ⟨bM,aj,aj⟩)];rfl)|(rw[cy (λq:n8 table/\cells.length<=1000/\known.length<=1200=>by first|exact absurd q.1 bM|(have q1:=q.2.1;have aH:=q.2.2;omega))];rfl))
  ·refine bA dk oL (ae (eM (h0.mono aI.ext) iz) (ae aU aP)) (cG (SC U U (aN.mono aI.ext) aL) aQ) ?_ ah
   exact bU e2 λw2 bp=>(by first|(rw[eC (show n8 table/\cells.length<=1000/\known.length<=1200 from ⟨bM,aj,aj⟩)];rfl)|(rw[cy (λq:n8 table/\cells.length<=1000/\known.length<=1200=>by first|exact absurd q.1 bM|(have q1:=q.2.1;have aH:=q.2.2;omega))];rfl))
 ·refine bA [] sL aP (cG (alU U U (aN.mono aI.ext) aL) aQ) ?_ ah
  exact bU e3 λw2 bp=>(by first|(rw[eC (show n8 table/\cells.length<=1000/\known.length<=1200 from ⟨bM,aj,aj⟩)];rfl)|(rw[cy (λq:n8 table/\cells.length<=1000/\known.length<=1200=>by first|exact absurd q.1 bM|(have q1:=q.2.1;have aH:=q.2.2;omega))];rfl))
end SD
end AE
namespace AE
def Ex (cells:List Int) (table:List cW) (known:List Bool):Prop:=n8 table/\cells.length<=1000/\known.length<=1200
instance (cells:List Int) (table:List cW) (known:List Bool):Decidable (Ex cells table known):=by unfold Ex;infer_instance
def tW (cells:List Int) (table:List cW) (known:List Bool) (n:Nat):Prop:=cells.length<=120/\n<=30/\Ex cells table known
instance (cells:List Int) (table:List cW) (known:List Bool) (n:Nat):Decidable (tW cells table known n):=by unfold tW;infer_instance
section
variable [a7] {x y z:J} {b:bQ} {cells:List Int} {table:List cW} {known:List Bool} {a:Option Addr} {n c:Nat} {u v:J}
theorem alV (hp:dM [x,y,z]=true) (ao:aM (.bool true)=true) (br:ep [x,y,z]=[mu b (.slice a n c),u,v])
  (ar:cE a7.dn 1 fQ (.slice a n c) cells) (aN:cE a7.dn 8 jF u table) (al:cE a7.dn 1 il v known) (iy:n=cells.length) (h:Ex cells table known):jb Tryd.prog (25,[x,y,z],.bool true):=
 kR (a:= #[mu b (.slice a n c),u,v]) hp ao br rfl λw hw=>(SD.any w (ar.mono hw) (aN.mono hw) (al.mono hw) iy).mono λe w' ga=>by rw[eC (show n8 table/\cells.length<=1000/\known.length<=1200 from h)] at ga;exact ga
theorem alW (hp:dM [x,y,z]=true) (ao:aM (.bool false)=true) (br:ep [x,y,z]=[mu b (.slice a n c),u,v])
  (ar:cE a7.dn 1 fQ (.slice a n c) cells) (aN:cE a7.dn 8 jF u table) (al:cE a7.dn 1 il v known) (iy:n=cells.length) (h:¬Ex cells table known):jb Tryd.prog (25,[x,y,z],.bool false):=
 kR (a:= #[mu b (.slice a n c),u,v]) hp ao br rfl λw hw=>(SD.any w (ar.mono hw) (aN.mono hw) (al.mono hw) iy).mono λe w' ga=>by rw[cy (show ¬(n8 table/\cells.length<=1000/\known.length<=1200) from h)] at ga;exact ga
end
end AE
namespace AE
namespace abA
noncomputable def body:Code:=(Tryd.f7.body).getD .skip
def N:Nat:=24
noncomputable abbrev bC:=fm Tryd.prog Tryd.f7
def aO:b8:={sl:=b3 [(3,2),(2,1),(1,0),(0,.agg ⟨[3,4,5,6,7,8,9]⟩)],ms:=[],A:=start}
def bP:bj:=[(.len #[26] 3 9,10),
 (.bin .leq 3 10 (I 120),.bool true),
 (.len #[31] 3 2,11),
 (.bin .leq 3 11 (I 30),.bool true)]
def j1:dZ:=[(25,[.agg ⟨[3,4,5,6,7,8,9]⟩,0,1],.bool true)]
theorem e0:bC (at' 24 bP j1 body aO)=some (.bool true):=au
def cd:bj:=[(.len #[26] 3 9,10),
 (.bin .leq 3 10 (I 120),.bool true),
 (.len #[31] 3 2,11),
 (.bin .leq 3 11 (I 30),.bool true)]
def h':dZ:=[(25,[.agg ⟨[3,4,5,6,7,8,9]⟩,0,1],.bool false)]
theorem e1:bC (at' 24 cd h' body aO)=some (.bool false):=au
def dk:bj:=[(.len #[26] 3 9,10),
 (.bin .leq 3 10 (I 120),.bool true),
 (.len #[31] 3 2,11),
 (.bin .leq 3 11 (I 30),.bool false)]
theorem e2:bC (at' 24 dk [] body aO)=some (.bool false):=au
def ei:bj:=[(.len #[26] 3 9,10),
 (.bin .leq 3 10 (I 120),.bool false)]
theorem e3:bC (at' 24 ei [] body aO)=some (.bool false):=au
@[reducible] noncomputable def bD (cells:List Int) (bS:cm) (bL bT:Nat) (table:List cW) (kF:cm) (kG:Nat) (known:List Bool) (dc:cm) (dd:Nat) (l:List Ev) (dR:cm) (eg:Nat) (b:bQ):List J:=[bu kF table kG,bu dc known dd,bu dR l eg,I b.1,I b.2.1,I b.2.2.1,I b.2.2.2.1,I b.2.2.2.2.1,I b.2.2.2.2.2,.slice bS bL bT,I ((cells.length:Nat):Int),I ((l.length:Nat):Int)]
theorem any (W:ax) {b:bQ} {bS:cm} {bL bT:Nat} {cells:List Int} (h0:cE (aE W) 1 fQ (.slice bS bL bT) cells) {oO:J} {table:List cW} (aN:cE (aE W) 8 jF oO table) {oP:J} {known:List Bool} (gX:cE (aE W) 1 il oP known) {h_:J} {l:List Ev} (hl:cE (aE W) 6 abo h_ l) (iy:bL=cells.length):Calls Tryd.prog 7 #[.agg ⟨[I b.1,I b.2.1,I b.2.2.1,I b.2.2.2.1,I b.2.2.2.2.1,I b.2.2.2.2.2,.slice bS bL bT]⟩,oO,oP,h_] W λe w'=>e= .returned (.bool (decide (tW cells table known l.length)))/\cj W.heap.size W w':=by
 obtain⟨kF,kG,rfl⟩:=aN.slice;obtain⟨dc,dd,rfl⟩:=gX.slice;obtain⟨dR,eg,rfl⟩:=hl.slice;refine jI (bD cells bS bL bT table kF kG known dc dd l dR eg b) body aO N [.agg ⟨[ak 3,ak 4,ak 5,ak 6,ak 7,ak 8,ak 9]⟩,ak 0,ak 1,ak 2] Tryd.func7 λa ah=> ?_
 letI:=b6 ah;have aI:=bK.o5 W;by_cases aL:((cells.length:Nat):Int)<=120
 ·by_cases ad:((l.length:Nat):Int)<=30
  ·by_cases ag:Ex cells table known
   ·refine bA bP j1 (ae (eM (h0.mono aI.ext) iz) (ae bb (ae (eM (hl.mono aI.ext) Su) (ae bb aP)))) (cG (alV U U U (h0.mono aI.ext) (aN.mono aI.ext) (gX.mono aI.ext) iy ag) aQ) ?_ ah
    exact bU e0 λw2 bp=>(by first|(rw[eC (show tW cells table known l.length from ⟨aj,aj,bM⟩)];rfl)|(rw[cy (λq:tW cells table known l.length=>by first|exact absurd q.2.2 bM|(have q1:=q.1;have aH:=q.2.1;omega))];rfl))
   ·refine bA cd h' (ae (eM (h0.mono aI.ext) iz) (ae bb (ae (eM (hl.mono aI.ext) Su) (ae bb aP)))) (cG (alW U U U (h0.mono aI.ext) (aN.mono aI.ext) (gX.mono aI.ext) iy ag) aQ) ?_ ah
    exact bU e1 λw2 bp=>(by first|(rw[eC (show tW cells table known l.length from ⟨aj,aj,bM⟩)];rfl)|(rw[cy (λq:tW cells table known l.length=>by first|exact absurd q.2.2 bM|(have q1:=q.1;have aH:=q.2.1;omega))];rfl))
  ·refine bA dk [] (ae (eM (h0.mono aI.ext) iz) (ae bb (ae (eM (hl.mono aI.ext) Su) (ae aU aP)))) aQ ?_ ah
   exact bU e2 λw2 bp=>(by first|(rw[eC (show tW cells table known l.length from ⟨aj,aj,bM⟩)];rfl)|(rw[cy (λq:tW cells table known l.length=>by first|exact absurd q.2.2 bM|(have q1:=q.1;have aH:=q.2.1;omega))];rfl))
 ·refine bA ei [] (ae (eM (h0.mono aI.ext) iz) (ae aU aP)) aQ ?_ ah
  exact bU e3 λw2 bp=>(by first|(rw[eC (show tW cells table known l.length from ⟨aj,aj,bM⟩)];rfl)|(rw[cy (λq:tW cells table known l.length=>by first|exact absurd q.2.2 bM|(have q1:=q.1;have aH:=q.2.1;omega))];rfl))
end abA
end AE
namespace AE
def alX:cW:=([97,105,114],false,false,false,1,0,0,0)
def H6:List cW:=[alX,([115,116,111,110,101],true,false,false,16,0,0,0),([103,108,97,115,115],true,false,false,1,0,0,0),([108,97,109,112],true,false,false,16,15,14,10),([115,97,110,100],true,false,true,16,0,0,0),([119,97,116,101,114],false,true,false,3,0,0,0),([108,101,97,118,101,115],true,false,false,2,0,0,0),([101,109,98,101,114],true,false,false,16,9,3,0),([102,111,103],false,false,false,2,0,0,0)]
def wB:bQ:=(0,0,0,1,1,4)
def CS:cx:=ki wB [3,0,0,0] H6 [] 2
def sM:cx:=kH CS
end AE
namespace AE
namespace Ey
noncomputable def body:Code:=(Tryd.f28.body).getD .skip
def N:Nat:=26
noncomputable abbrev bC:=fm Tryd.prog Tryd.f28
def aO:b8:={sl:=b3 [(1,1),(0,0)],ms:=[],A:=start}
def bP:bj:=[(.len #[26] 3 0,2),
 (.len #[26] 3 1,3),
 (.bin .neq 3 2 3,.bool false)]
def eS:List bx:=[]
def eT:aF:=b3 [(5,4),(1,1),(0,0)]
abbrev hR:=at' 26 bP [] body aO
theorem e0:p3 eT eS hR=some [(0,0),(1,1),(I 0,4)]:=au
def fb:Code:=tj body [1,1,0,1,4]
def iq:List fl:=oE body [1,1,0,1,4] []
theorem e1:pC hR=fb:=au
theorem e2:gC hR=iq:=au
def cd:bj:=[(.len #[26] 3 0,2),
 (.bin .lss 3 4 2,.bool true),
 (.dB 26 0 4,5),
 (.bB 3 5,6),
 (.dB 26 1 4,7),
 (.bB 3 7,8),
 (.bin .neq 3 6 8,.bool false),
 (.bin .add 3 4 (I 1),9)]
theorem e3:qJ eT eS (at' 26 cd [] fb (b5 eT eS))=some [(0,0),(1,1),(9,4)]:=au
def dk:bj:=[(.len #[26] 3 0,2),
 (.bin .lss 3 4 2,.bool true),
 (.dB 26 0 4,5),
 (.bB 3 5,6),
 (.dB 26 1 4,7),
 (.bB 3 7,8),
 (.bin .neq 3 6 8,.bool true)]
theorem hD:bC (nP 26 [] [] iq (at' 26 dk [] fb (b5 eT eS)))=some (.bool false):=au
def fJ:bj:=[(.len #[26] 3 0,2),
 (.bin .lss 3 4 2,.bool false)]
theorem ku:bC (nP 26 [] [] iq (at' 26 fJ [] fb (b5 eT eS)))=some (.bool true):=au
def hH:bj:=[(.len #[26] 3 0,2),
 (.len #[26] 3 1,3),
 (.bin .neq 3 2 3,.bool true)]
theorem h4:bC (at' 26 hH [] body aO)=some (.bool false):=au
@[reducible] noncomputable def bD (l:List Int) (dR:cm) (eg:Nat) (k:List Int) (wC:cm) (wD:Nat) (i:Nat:=0):List J:=[bu dR l eg,bu wC k wD,I ((l.length:Nat):Int),I ((k.length:Nat):Int),I ((i:Nat):Int),hd (bu dR l eg) (i*1),I (l.ew (i)),hd (bu wC k wD) (i*1),I (k.ew (i)),I ((i+1:Nat):Int)]
theorem any (W:ax) {h_:J} {l:List Int} (hl:cE (aE W) 1 fQ h_ l) {H7:J} {k:List Int} (al:cE (aE W) 1 fQ H7 k) (av:l.length<=1000000):Calls Tryd.prog 28 #[h_,H7] W λe w'=>e= .returned (.bool (decide (l=k)))/\cj W.heap.size W w':=by
 obtain⟨dR,eg,rfl⟩:=hl.slice;obtain⟨wC,wD,rfl⟩:=al.slice;refine jI (bD l dR eg k wC wD) body aO N [ak 0,ak 1] Tryd.func28 λa ah=> ?_
 letI:=b6 ah;by_cases aL:((l.length:Nat):Int)=((k.length:Nat):Int)
 ·refine bA bP [] (ae (eM hl iz) (ae (eM al iz) (ae sD aP))) aQ ?_ ah
  refine tp (gq:=(λi=>aX (aE W) (bD l dR eg k wC wD i))) (λi=>i<=l.length/\∀j,j<i->l.ew j=k.ew j) (λi=>l.length-i) 0 e0 fw (λ_ _ h=>h) (by exact⟨Nat.zero_le _,λj h=>absurd h (Nat.not_lt_zero _)⟩) ?_;intro i bh dA w ah;letI:=b6 ah;refine tk e1 e2 ?_;by_cases sW:((i:Nat):Int)<((l.length:Nat):Int)
  ·by_cases ih:(l.ew (i))=(k.ew (i))
   ·refine bA cd [] (ae (eM hl iz) (ae bb (ae (nr hl iz uI) (ae (qm 0 hl (lO i) vJ) (ae (nr al iz uI) (ae (qm 0 al (lO i) vJ) (ae sD (ae kt aP)))))))) aQ ?_ ah
    exact tD (i+1) e3 fw (by exact⟨aj,λj h=>by rcases Nat.lt_or_ge j i with ad|ad;exact bh.2 j ad;obtain rfl:j=i:=aj;first|assumption|exact aby bM bM|exact abz bM bM⟩)
   ·refine bA dk [] (ae (eM hl iz) (ae bb (ae (nr hl iz uI) (ae (qm 0 hl (lO i) vJ) (ae (nr al iz uI) (ae (qm 0 al (lO i) vJ) (ae tE aP))))))) aQ ?_ ah
    refine od [] [] aP aQ ?_;exact bU hD λw2 bp=>(by first|(rw[cy (λh:l=k=>by subst h;omega)];rfl)|(rw[cy (λh:l=k=>by subst h;first|exact absurd rfl bM|exact absurd bM bM)];rfl)|(rw[eC (all_eq aj (λj hj=>bh.2 j aj))];rfl))
  ·refine bA fJ [] (ae (eM hl iz) (ae aU aP)) aQ ?_ ah
   refine od [] [] aP aQ ?_;exact bU ku λw2 bp=>(by first|(rw[cy (λh:l=k=>by subst h;omega)];rfl)|(rw[cy (λh:l=k=>by subst h;first|exact absurd rfl bM|exact absurd bM bM)];rfl)|(rw[eC (all_eq aj (λj hj=>bh.2 j aj))];rfl))
 ·refine bA hH [] (ae (eM hl iz) (ae (eM al iz) (ae tE aP))) aQ ?_ ah
  exact bU h4 λw2 bp=>(by first|(rw[cy (λh:l=k=>by subst h;omega)];rfl)|(rw[cy (λh:l=k=>by subst h;first|exact absurd rfl bM|exact absurd bM bM)];rfl)|(rw[eC (all_eq aj (λj hj=>bh.2 j aj))];rfl))
end Ey
end AE
namespace AE
namespace SE
noncomputable def body:Code:=(Tryd.f29.body).getD .skip
def N:Nat:=22
def aO:b8:={sl:=b3 [(1,I 0),(0,0)],ms:=[],A:=start}
def bP:bj:=[(.len #[45] 3 0,1)]
def eS:List bx:=[]
def eT:aF:=b3 [(10,3),(9,1),(8,0),(5,2),(4,.slice none 0 0),(1,I 0)]
abbrev hR:=at' 22 bP [] body aO
theorem e0:p3 eT eS hR=some [(.slice none 0 0,2),(1,1),(0,0),(I 0,3)]:=au
def fb:Code:=tj body [1,1,0,1,4]
def iq:List fl:=oE body [1,1,0,1,4] []
theorem e1:pC hR=fb:=au
theorem e2:gC hR=iq:=au
def cd:bj:=[(.bin .lss 3 3 1,.bool true),
 (.dB 45 0 3,4),
 (.bB 85 4,.agg ⟨[5,6,7,8]⟩)]
theorem e3:Bg (b9 (at' 22 cd [] fb (b5 eT eS))).A 1 (.slice (some ⟨1,0,none⟩) 1 1)=some [5]:=au
theorem hD:p4 26 (at' 22 cd [] fb (b5 eT eS))=some (2,.slice (some ⟨1,0,none⟩) 1 1):=au
abbrev gA:=at' 22 cd [] fb (b5 eT eS)
def dF:List bx:=[]
def hd0:aF:=b3 [(10,3),(9,1),(8,0),(5,2),(4,.slice none 0 0),(1,I 0)]
def hp0:aF:=fa 22 hd0 19 9
theorem ku:cr (b9 gA) hd0 dF=some [(2,2),(1,1),(0,0),(3,3)]:=au
def dV:dU:=(fb,[1,1,0,4,1],6)
def dk:bj:=[(.bin .add 3 3 (I 1),10)]
theorem oe:qJ eT eS (cK 22 dk [] dV (b5 hp0 dF))=some [(9,2),(1,1),(0,0),(10,3)]:=au
def ei:bj:=[(.bin .lss 3 3 1,.bool false)]
theorem ny:fm Tryd.prog Tryd.f29 (nP 22 [] [] iq (at' 22 ei [] fb (b5 eT eS)))=some 2:=au
@[reducible] noncomputable def bD (l:List bR) (dR:cm) (eg:Nat) (b:List Int:=[]) (a:cm:=none) (c:Nat:=0) (i:Nat:=0) (cu:List Int:=[]) (a0:cm:=none) (dE:Nat:=0):List J:=[bu dR l eg,I ((l.length:Nat):Int),bu a b c,I ((i:Nat):Int),hd (bu dR l eg) (i*4),I (l.ew (i)).1,I (l.ew (i)).2.1,I (l.ew (i)).2.2.1,I (l.ew (i)).2.2.2,bu a0 cu dE,I ((i+1:Nat):Int)]
theorem any (W:ax) {h_:J} {l:List bR} (hl:cE (aE W) 4 dY h_ l) (av:l.length<=100000):Calls Tryd.prog 29 #[h_,I 0] W λe w'=>(∃a c,e= .returned (.slice a (l.map λx=>x.1).length c)/\dw W.heap.size (aE w') kQ 1 fQ (.slice a (l.map λx=>x.1).length c) (l.map λx=>x.1))/\cj W.heap.size W w':=by
 obtain⟨dR,eg,rfl⟩:=hl.slice;refine jI (bD l dR eg) body aO N [ak 0,I 0] Tryd.func29 λa ah=> ?_
 letI:=b6 ah;refine bA bP [] (ae (eM hl n') aP) aQ ?_ ah;refine tp (gq:=(λ(⟨M,b,a,c,i⟩:Mem×List Int×Option Addr×Nat×Nat)=>aX M (bD l dR eg b a c i))) (λ(⟨M,b,a,c,i⟩:Mem×List Int×Option Addr×Nat×Nat)=>dw W.heap.size M kQ 1 fQ (bu a b c) b/\(∀j o,aE W j=some o->M j=some o)/\i<=l.length/\b=(l.take i).map λx=>x.1) (λ(⟨M,b,a,c,i⟩:Mem×List Int×Option Addr×Nat×Nat)=>l.length-i) ⟨aE W,[],none,0,0⟩ e0 fw (λ_ _ h=>h) (by exact⟨dw.nil _ _ _ _ _ _,λ_ _ h=>h,Nat.zero_le _,rfl⟩) ?_;intro⟨M,b,a,c,i⟩ bh dA w ah;letI:=b6 ah;refine tk e1 e2 ?_;have Av:=bh;have cO:=bh.1;have bw:=bh.2.1;have B':=bh.2.2.1;have t_:b.length=i:=by rw[bh.2.2.2,List.length_map,List.length_take];omega
 by_cases sW:((i:Nat):Int)<((l.length:Nat):Int)
 ·refine bA cd [] (ae bb (ae (nr (hl.mono bw) n' sx) (ae (aV.sd (hl.mono bw) (lO i) U U BC sx U U U) aP))) aQ ?_ ah
  obtain⟨cu,e4⟩:=h3 (b++[(((l.ew (i)).1):Int)]);have fc:cu.length=b.length+1:=by rw[e4];first|rfl|simp
  refine Bf (l:=b) (lx:=[(((l.ew (i)).1):Int)]) (l':=cu) (bm:=λph pj=>(bD l dR eg b a c i cu ph pj)) (T:=(eP (bu a b c))) e4 hD iz JL JM JN JO JP cw ko JQ ku (et hp0 9) rfl (FC U U cO) (Dy e3 ko cw rfl) (yo (show b.length+1<=1000000 by omega)) (show (b.length+1)*yr<=140737488355328 by unfold yr;omega) (λ_ _ _=>fw) (λ_ _ _=>rfl) ?_;intro j2 a0 dE lP jw rI dA w ah;have u1:=jw.up rI (ch _) bw;letI:=b6 ah;refine dP (dQ dV) dk [] (ae kt aP) aQ ?_ ah;exact tD ⟨j2,cu,a0,dE,i+1⟩ oe fw (by exact⟨lP,u1,aj,by rw[e4,Av.2.2.2];exact SA aj⟩)
 ·refine bA ei [] (ae aU aP) aQ ?_ ah
  refine od [] [] aP aQ ?_;exact bU ny λw2 bp=>(by exact Bh cO (by rw[Av.2.2.2,show i=l.length by omega,List.take_length]) bp)
end SE
namespace abB
noncomputable def body:Code:=(Tryd.f29.body).getD .skip
def N:Nat:=22
def aO:b8:={sl:=b3 [(1,I 2),(0,0)],ms:=[],A:=start}
def bP:bj:=[(.len #[45] 3 0,1)]
def eS:List bx:=[]
def eT:aF:=b3 [(10,3),(9,1),(8,0),(5,2),(4,.slice none 0 0),(1,I 2)]
abbrev hR:=at' 22 bP [] body aO
theorem e0:p3 eT eS hR=some [(.slice none 0 0,2),(1,1),(0,0),(I 0,3)]:=au
def fb:Code:=tj body [1,1,0,1,4]
def iq:List fl:=oE body [1,1,0,1,4] []
theorem e1:pC hR=fb:=au
theorem e2:gC hR=iq:=au
def cd:bj:=[(.bin .lss 3 3 1,.bool true),
 (.dB 45 0 3,4),
 (.bB 85 4,.agg ⟨[5,6,7,8]⟩)]
theorem e3:Bg (b9 (at' 22 cd [] fb (b5 eT eS))).A 1 (.slice (some ⟨1,0,none⟩) 1 1)=some [7]:=au
theorem hD:p4 26 (at' 22 cd [] fb (b5 eT eS))=some (2,.slice (some ⟨1,0,none⟩) 1 1):=au
abbrev gA:=at' 22 cd [] fb (b5 eT eS)
def dF:List bx:=[]
def hd0:aF:=b3 [(10,3),(9,1),(8,0),(5,2),(4,.slice none 0 0),(1,I 2)]
def hp0:aF:=fa 22 hd0 19 9
theorem ku:cr (b9 gA) hd0 dF=some [(2,2),(1,1),(0,0),(3,3)]:=au
def dV:dU:=(fb,[1,1,0,4,1],6)
def dk:bj:=[(.bin .add 3 3 (I 1),10)]
theorem oe:qJ eT eS (cK 22 dk [] dV (b5 hp0 dF))=some [(9,2),(1,1),(0,0),(10,3)]:=au
def ei:bj:=[(.bin .lss 3 3 1,.bool false)]
theorem ny:fm Tryd.prog Tryd.f29 (nP 22 [] [] iq (at' 22 ei [] fb (b5 eT eS)))=some 2:=au
@[reducible] noncomputable def bD (l:List bR) (dR:cm) (eg:Nat) (b:List Int:=[]) (a:cm:=none) (c:Nat:=0) (i:Nat:=0) (cu:List Int:=[]) (a0:cm:=none) (dE:Nat:=0):List J:=[bu dR l eg,I ((l.length:Nat):Int),bu a b c,I ((i:Nat):Int),hd (bu dR l eg) (i*4),I (l.ew (i)).1,I (l.ew (i)).2.1,I (l.ew (i)).2.2.1,I (l.ew (i)).2.2.2,bu a0 cu dE,I ((i+1:Nat):Int)]
theorem any (W:ax) {h_:J} {l:List bR} (hl:cE (aE W) 4 dY h_ l) (av:l.length<=100000):Calls Tryd.prog 29 #[h_,I 2] W λe w'=>(∃a c,e= .returned (.slice a (l.map λx=>x.2.2.1).length c)/\dw W.heap.size (aE w') kQ 1 fQ (.slice a (l.map λx=>x.2.2.1).length c) (l.map λx=>x.2.2.1))/\cj W.heap.size W w':=by
 obtain⟨dR,eg,rfl⟩:=hl.slice;refine jI (bD l dR eg) body aO N [ak 0,I 2] Tryd.func29 λa ah=> ?_
 letI:=b6 ah;refine bA bP [] (ae (eM hl n') aP) aQ ?_ ah;refine tp (gq:=(λ(⟨M,b,a,c,i⟩:Mem×List Int×Option Addr×Nat×Nat)=>aX M (bD l dR eg b a c i))) (λ(⟨M,b,a,c,i⟩:Mem×List Int×Option Addr×Nat×Nat)=>dw W.heap.size M kQ 1 fQ (bu a b c) b/\(∀j o,aE W j=some o->M j=some o)/\i<=l.length/\b=(l.take i).map λx=>x.2.2.1) (λ(⟨M,b,a,c,i⟩:Mem×List Int×Option Addr×Nat×Nat)=>l.length-i) ⟨aE W,[],none,0,0⟩ e0 fw (λ_ _ h=>h) (by exact⟨dw.nil _ _ _ _ _ _,λ_ _ h=>h,Nat.zero_le _,rfl⟩) ?_;intro⟨M,b,a,c,i⟩ bh dA w ah;letI:=b6 ah;refine tk e1 e2 ?_;have Av:=bh;have cO:=bh.1;have bw:=bh.2.1;have B':=bh.2.2.1;have t_:b.length=i:=by rw[bh.2.2.2,List.length_map,List.length_take];omega
 by_cases sW:((i:Nat):Int)<((l.length:Nat):Int)
 ·refine bA cd [] (ae bb (ae (nr (hl.mono bw) n' sx) (ae (aV.sd (hl.mono bw) (lO i) U U BC sx U U U) aP))) aQ ?_ ah
  obtain⟨cu,e4⟩:=h3 (b++[(((l.ew (i)).2.2.1):Int)]);have fc:cu.length=b.length+1:=by rw[e4];first|rfl|simp
  refine Bf (l:=b) (lx:=[(((l.ew (i)).2.2.1):Int)]) (l':=cu) (bm:=λph pj=>(bD l dR eg b a c i cu ph pj)) (T:=(eP (bu a b c))) e4 hD iz JL JM JN JO JP cw ko JQ ku (et hp0 9) rfl (FC U U cO) (Dy e3 ko cw rfl) (yo (show b.length+1<=1000000 by omega)) (show (b.length+1)*yr<=140737488355328 by unfold yr;omega) (λ_ _ _=>fw) (λ_ _ _=>rfl) ?_;intro j2 a0 dE lP jw rI dA w ah;have u1:=jw.up rI (ch _) bw;letI:=b6 ah;refine dP (dQ dV) dk [] (ae kt aP) aQ ?_ ah;exact tD ⟨j2,cu,a0,dE,i+1⟩ oe fw (by exact⟨lP,u1,aj,by rw[e4,Av.2.2.2];exact SA aj⟩)
 ·refine bA ei [] (ae aU aP) aQ ?_ ah
  refine od [] [] aP aQ ?_;exact bU ny λw2 bp=>(by exact Bh cO (by rw[Av.2.2.2,show i=l.length by omega,List.take_length]) bp)
end abB
namespace SF
noncomputable def body:Code:=(Tryd.f29.body).getD .skip
def N:Nat:=22
def aO:b8:={sl:=b3 [(1,I 3),(0,0)],ms:=[],A:=start}
def bP:bj:=[(.len #[45] 3 0,1)]
def eS:List bx:=[]
def eT:aF:=b3 [(10,3),(9,1),(8,0),(5,2),(4,.slice none 0 0),(1,I 3)]
abbrev hR:=at' 22 bP [] body aO
theorem e0:p3 eT eS hR=some [(.slice none 0 0,2),(1,1),(0,0),(I 0,3)]:=au
def fb:Code:=tj body [1,1,0,1,4]
def iq:List fl:=oE body [1,1,0,1,4] []
theorem e1:pC hR=fb:=au
theorem e2:gC hR=iq:=au
def cd:bj:=[(.bin .lss 3 3 1,.bool true),
 (.dB 45 0 3,4),
 (.bB 85 4,.agg ⟨[5,6,7,8]⟩)]
theorem e3:Bg (b9 (at' 22 cd [] fb (b5 eT eS))).A 1 (.slice (some ⟨1,0,none⟩) 1 1)=some [8]:=au
theorem hD:p4 26 (at' 22 cd [] fb (b5 eT eS))=some (2,.slice (some ⟨1,0,none⟩) 1 1):=au
abbrev gA:=at' 22 cd [] fb (b5 eT eS)
def dF:List bx:=[]
def hd0:aF:=b3 [(10,3),(9,1),(8,0),(5,2),(4,.slice none 0 0),(1,I 3)]
def hp0:aF:=fa 22 hd0 19 9
theorem ku:cr (b9 gA) hd0 dF=some [(2,2),(1,1),(0,0),(3,3)]:=au
def dV:dU:=(fb,[1,1,0,4,1],6)
def dk:bj:=[(.bin .add 3 3 (I 1),10)]
theorem oe:qJ eT eS (cK 22 dk [] dV (b5 hp0 dF))=some [(9,2),(1,1),(0,0),(10,3)]:=au
def ei:bj:=[(.bin .lss 3 3 1,.bool false)]
theorem ny:fm Tryd.prog Tryd.f29 (nP 22 [] [] iq (at' 22 ei [] fb (b5 eT eS)))=some 2:=au
@[reducible] noncomputable def bD (l:List bR) (dR:cm) (eg:Nat) (b:List Int:=[]) (a:cm:=none) (c:Nat:=0) (i:Nat:=0) (cu:List Int:=[]) (a0:cm:=none) (dE:Nat:=0):List J:=[bu dR l eg,I ((l.length:Nat):Int),bu a b c,I ((i:Nat):Int),hd (bu dR l eg) (i*4),I (l.ew (i)).1,I (l.ew (i)).2.1,I (l.ew (i)).2.2.1,I (l.ew (i)).2.2.2,bu a0 cu dE,I ((i+1:Nat):Int)]
theorem any (W:ax) {h_:J} {l:List bR} (hl:cE (aE W) 4 dY h_ l) (av:l.length<=100000):Calls Tryd.prog 29 #[h_,I 3] W λe w'=>(∃a c,e= .returned (.slice a (l.map λx=>x.2.2.2).length c)/\dw W.heap.size (aE w') kQ 1 fQ (.slice a (l.map λx=>x.2.2.2).length c) (l.map λx=>x.2.2.2))/\cj W.heap.size W w':=by
 obtain⟨dR,eg,rfl⟩:=hl.slice;refine jI (bD l dR eg) body aO N [ak 0,I 3] Tryd.func29 λa ah=> ?_
 letI:=b6 ah;refine bA bP [] (ae (eM hl n') aP) aQ ?_ ah;refine tp (gq:=(λ(⟨M,b,a,c,i⟩:Mem×List Int×Option Addr×Nat×Nat)=>aX M (bD l dR eg b a c i))) (λ(⟨M,b,a,c,i⟩:Mem×List Int×Option Addr×Nat×Nat)=>dw W.heap.size M kQ 1 fQ (bu a b c) b/\(∀j o,aE W j=some o->M j=some o)/\i<=l.length/\b=(l.take i).map λx=>x.2.2.2) (λ(⟨M,b,a,c,i⟩:Mem×List Int×Option Addr×Nat×Nat)=>l.length-i) ⟨aE W,[],none,0,0⟩ e0 fw (λ_ _ h=>h) (by exact⟨dw.nil _ _ _ _ _ _,λ_ _ h=>h,Nat.zero_le _,rfl⟩) ?_;intro⟨M,b,a,c,i⟩ bh dA w ah;letI:=b6 ah;refine tk e1 e2 ?_;have Av:=bh;have cO:=bh.1;have bw:=bh.2.1;have B':=bh.2.2.1;have t_:b.length=i:=by rw[bh.2.2.2,List.length_map,List.length_take];omega
 by_cases sW:((i:Nat):Int)<((l.length:Nat):Int)
 ·refine bA cd [] (ae bb (ae (nr (hl.mono bw) n' sx) (ae (aV.sd (hl.mono bw) (lO i) U U BC sx U U U) aP))) aQ ?_ ah
  obtain⟨cu,e4⟩:=h3 (b++[(((l.ew (i)).2.2.2):Int)]);have fc:cu.length=b.length+1:=by rw[e4];first|rfl|simp
  refine Bf (l:=b) (lx:=[(((l.ew (i)).2.2.2):Int)]) (l':=cu) (bm:=λph pj=>(bD l dR eg b a c i cu ph pj)) (T:=(eP (bu a b c))) e4 hD iz JL JM JN JO JP cw ko JQ ku (et hp0 9) rfl (FC U U cO) (Dy e3 ko cw rfl) (yo (show b.length+1<=1000000 by omega)) (show (b.length+1)*yr<=140737488355328 by unfold yr;omega) (λ_ _ _=>fw) (λ_ _ _=>rfl) ?_;intro j2 a0 dE lP jw rI dA w ah;have u1:=jw.up rI (ch _) bw;letI:=b6 ah;refine dP (dQ dV) dk [] (ae kt aP) aQ ?_ ah;exact tD ⟨j2,cu,a0,dE,i+1⟩ oe fw (by exact⟨lP,u1,aj,by rw[e4,Av.2.2.2];exact SA aj⟩)
 ·refine bA ei [] (ae aU aP) aQ ?_ ah
  refine od [] [] aP aQ ?_;exact bU ny λw2 bp=>(by exact Bh cO (by rw[Av.2.2.2,show i=l.length by omega,List.take_length]) bp)
end SF
end AE
namespace AE
def Ez:cx:=kx sM (0,0,0) 0
def nS:cx:=kH Ez
def oT:cx:=kx nS (0,0,1) 3
def kb:cx:=mw oT (0,0,1) true
def q0:cx:=nR kb 1
theorem abC:pq wB [3,0,0,0] H6 [] 2:=of_decide_eq_true au
theorem alY:¬pq wB [3,0,0,0] H6 [] 0:=λh=>by
 have:=h.2.1;omega
theorem SG:gF CS:=(LL abC cw).1
theorem abD:gF sM:=SG.set.1
theorem alZ:sM.u.reqs.length<10000:=Nat.lt_of_le_of_lt SG.set.2.2.2 (by show (0:Nat)<_;decide)
theorem abE:gF Ez:=(abD.cn alZ _ _).1
theorem SH:gF nS:=abE.set.1
theorem al0:j' sM.b sM.most (0,0,0) sM.u.reqs 0=0:=au
theorem al1:nS.u.reqs.length=0:=au
theorem al2:oT.u.reqs.length=1:=au
theorem al3:kb.u.reqs.length=2:=au
theorem SI:gF oT:=(SH.cn (by rw[al1];decide) _ _).1
theorem H8:gF kb:=(SI.bB (by rw[al2];decide) _ _).1
theorem al4:rR sM:=of_decide_eq_true au
theorem al5:¬rR kb:=λh=>by have:=h.2.2;rw[al3] at this;cases this
theorem al6:(sM.u.aG.map λx=>x.1)=[15,14,13,12]:=au
theorem al7:(sM.u.aG.map λx=>x.2.2.1)=[10,9,8,7]:=au
theorem al8:(sM.u.aG.map λx=>x.2.2.2)=[0,15,15,15]:=au
theorem al9:(nS.u.aG.map λx=>x.1)=[0,0,0,0]:=au
theorem al':(nS.u.aG.map λx=>x.2.2.2)=[15,15,15,15]:=au
theorem LM:sM.u.aG.length=4:=au
theorem SJ:nS.u.aG.length=4:=au
theorem n2:0<((va Ez:Nat):Int):=of_decide_eq_true au
theorem abF:j' nS.b nS.most (0,0,1) nS.u.reqs 3=0:=au
theorem abG:jB oT.b oT.most (0,0,1) oT.u.reqs=0:=au
theorem SK:j' kb.b kb.most (0,0,1) kb.u.reqs 3=16:=au
theorem SL:j' kb.b kb.most (0,0,4) kb.u.reqs 0=1:=au
theorem abH:kx kb (0,0,1) 3=kb:=H5 (by rw[SK];decide)
theorem abI:kx kb (0,0,4) 0=kb:=H5 (by rw[SL];decide)
theorem al_:y_ kb 1=1:=au
theorem LN:q0.known.length=4:=au
theorem abJ:q0.cells.length=4:=au
theorem SM:q0.cells.getD 1 default=3:=au
theorem wE {W:ax} {g:Nat} {A:dJ} {e e':cx} {p:d_} {c n:Int} (h:cH (aE W) [dj g A e]) (gG:gF e) (ad:kx e p c=e') (ag:j' e.b e.most p e.u.reqs c=n):
  Calls Tryd.prog 18 #[dx g,P.val p,.int .i64 c] W λx w'=>(∃a':dJ,x= .returned (.int .i64 n)/\cZ (aE W) [dj g A e] (aE w') [dj g a' e'])/\cj 0 W w':=by
 subst ad ag;exact alC W h p c gG.tV.box gG.LH gG.Sv gG.abp
theorem LO {W:ax} {g:Nat} {A:dJ} {e e':cx} {p:d_} {k:Bool} {n:Int} (h:cH (aE W) [dj g A e]) (gG:gF e) (ad:mw e p k=e') (ag:jB e.b e.most p e.u.reqs=n):
  Calls Tryd.prog 19 #[dx g,P.val p,.bool k] W λx w'=>(∃a':dJ,x= .returned (.int .i64 n)/\cZ (aE W) [dj g A e] (aE w') [dj g a' e'])/\cj 0 W w':=by
 subst ad ag;exact alD W h p k gG.tV.box gG.LH gG.Sv gG.abp
theorem ama {W:ax} {g:Nat} {A:dJ} {e e':cx} {k:Int} {n:Int} (h:cH (aE W) [dj g A e]) (gG:gF e) (ad:nR e k=e') (ag:((y_ e k:Nat):Int)=n):
  Calls Tryd.prog 10 #[dx g,.int .i64 k] W λx w'=>(∃a':dJ,x= .returned (.int .i64 n)/\cZ (aE W) [dj g A e] (aE w') [dj g a' e'])/\cj 0 W w':=by
 subst ad ag;exact alB W h k gG.tV gG.LG
theorem LP {W:ax} {g:Nat} {A:dJ} {e e':cx} {n:Int} (h:cH (aE W) [dj g A e]) (gG:gF e) (ad:kH e=e') (ag:((va e:Nat):Int)=n):
  Calls Tryd.prog 12 #[dx g] W λx w'=>(∃a':dJ,x= .returned (.int .i64 n)/\cZ (aE W) [dj g A e] (aE w') [dj g a' e'])/\cj 0 W w':=by
 subst ad ag;exact alA W h gG.tV gG.LG
theorem amb {W:ax} {g:Nat} {A:dJ} {e:cx} (h:cH (aE W) [dj g A e]) (aw:rR e):
  Calls Tryd.prog 11 #[dx g] W λx w'=>(∃_:Unit,x= .returned (.bool true)/\cZ (aE W) [dj g A e] (aE w') [dj g A e])/\cj 0 W w':=by
 have:=abk W h
 rwa [eC (show e.u.bJ.length=0/\e.u.bz.length=0/\e.u.reqs.length=0 from aw)] at this
theorem amc {W:ax} {g:Nat} {A:dJ} {e:cx} (h:cH (aE W) [dj g A e]) (aw:¬rR e):
  Calls Tryd.prog 11 #[dx g] W λx w'=>(∃_:Unit,x= .returned (.bool false)/\cZ (aE W) [dj g A e] (aE w') [dj g A e])/\cj 0 W w':=by
 have:=abk W h
 rwa [cy (show ¬(e.u.bJ.length=0/\e.u.bz.length=0/\e.u.reqs.length=0) from aw)] at this
theorem abK {W:ax} {L:List cb} (aw:cH (aE W) L) {bS:Option Addr} {bL bT:Nat} {cells:List Int} (h0:cE (aE W) 1 fQ (.slice bS bL bT) cells) {b:bQ} {oO oP:J} {table:List cW} {known:List Bool} (aN:cE (aE W) 8 jF oO table) (gX:cE (aE W) 1 il oP known) {most:Int}
  (cC:mJ (aE W)) (av:cells.length<=10000) (iy:bL=cells.length) (ng:known.length<=100000) (y1:table.length<=100000) (af:pq b cells table known most):
  Calls Tryd.prog 9 #[mu b (.slice bS bL bT),oO,oP,.int .i64 most] W λx w'=>(∃y:Nat×dJ,x= .returned (.tuple ⟨[dx y.1,.int .i64 0]⟩)/\cZ (aE W) L (aE w') (L++[dj y.1 y.2 (ki b cells table known most)]))/\cj 0 W w':=
 (abl W h0 aN gX most cC av iy ng y1).mono λx w' aq=>by
   obtain⟨h,hl⟩:=aq;rw[aY af] at h;obtain⟨g,A,rfl,t⟩:=h;exact⟨⟨(g,A),rfl,(aw.own.new t).Gm⟩,hl.zero⟩
theorem abL {W:ax} {L:List cb} (aw:cH (aE W) L) {bS:Option Addr} {bL bT:Nat} {cells:List Int} (h0:cE (aE W) 1 fQ (.slice bS bL bT) cells) {b:bQ} {oO oP:J} {table:List cW} {known:List Bool} (aN:cE (aE W) 8 jF oO table) (gX:cE (aE W) 1 il oP known) {most:Int}
  (cC:mJ (aE W)) (av:cells.length<=10000) (iy:bL=cells.length) (ng:known.length<=100000) (y1:table.length<=100000) (af:¬pq b cells table known most):
  Calls Tryd.prog 9 #[mu b (.slice bS bL bT),oO,oP,.int .i64 most] W λx w'=>(∃_:Unit,x= .returned (.tuple ⟨[.pointer none,.int .i64 1]⟩)/\cZ (aE W) L (aE w') L)/\cj 0 W w':=
 DX aw ((abl W h0 aN gX most cC av iy ng y1).mono λx w' aq=>by
  obtain⟨h,hl⟩:=aq;rw[a_ af] at h
  exact⟨h,hl⟩)
theorem H9 {P:aS} {f:FuncId} {args:Array J} {w:ax} {g:bR->Int} {l:List bR} {r:List Int} (e:l.map g=r) {L:List cb} (aw:cH (aE w) L)
  (h:Calls P f args w λe' w'=>(∃a c,e'= .returned (.slice a (l.map g).length c)/\dw w.heap.size (aE w') kQ 1 fQ (.slice a (l.map g).length c) (l.map g))/\cj w.heap.size w w'):
  Calls P f args w λe' w'=>(∃y:Option Addr×Nat,e'= .returned (.slice y.1 r.length y.2)/\cZ (aE w) L (aE w') (L++[hr kQ 1 fQ (.slice y.1 r.length y.2) r]))/\cj 0 w w':=by
 subst e;exact Kx aw h
theorem EA {P:aS} {f:FuncId} {args:Array J} {w:ax} {p:Prop} [Decidable p] (h:Calls P f args w λe w'=>e= .returned (.bool (decide p))/\cj w.heap.size w w') (hp:p):Calls P f args w λe w'=>e= .returned (.bool true)/\cj w.heap.size w w':=by
 rwa [eC hp] at h
end AE
end Go.Proofs.YtepcfjbfkedlpaaDoor
