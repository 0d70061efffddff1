/- RELIGHTWORKS: the card. No condition beyond the row. -/
import Derived.Test.YtepcfjbfkedlpaaDoorWk5
import Derived.Test.YtepcfjbfkedlpaaDoorTie
import Derived.Test.YtepcfjbfkedlpaaDoorCards
set_option maxRecDepth 100000
set_option maxHeartbeats 4000000
noncomputable section
namespace Go.Proofs.YtepcfjbfkedlpaaDoor
open Go Go.Proofs Go.RowKit
namespace a1
def E4 (cells:List Int) (table:List dx) (known:List Bool):Prop:=o8 table/\cells.length<=1000/\known.length<=1200
instance (cells:List Int) (table:List dx) (known:List Bool):Decidable (E4 cells table known):=by unfold E4;infer_instance
def tX (cells:List Int) (table:List dx) (known:List Bool) (n:Nat):Prop:=cells.length<=120/\n<=30/\E4 cells table known
instance (cells:List Int) (table:List dx) (known:List Bool) (n:Nat):Decidable (tX cells table known n):=by unfold tX;infer_instance
section
variable [bp] {x y z:ad} {b:cx} {cells:List Int} {table:List dx} {known:List Bool} {a:Option Addr} {n c:Nat} {u v:ad}
theorem aiH (hp:fH [x,y,z]=true) (ar:bL (.bool true)=true) (b5:fl [x,y,z]=[ov b (.slice a n c),u,v])
  (aA:dr bp.dz 1 gq (.slice a n c) cells) (bw:dr bp.dz 8 js u table) (ao:dr bp.dz 1 iw v known) (iv:n=cells.length) (h:E4 cells table known):j0 Tryd.prog (25,[x,y,z],.bool true):=
 kP (a:= #[ov b (.slice a n c),u,v]) hp ar b5 rfl λw hw=>(RK.any w (aA.mono hw) (bw.mono hw) (ao.mono hw) iv).mono λe w' gE=>by rw[gO (show o8 table/\cells.length<=1000/\known.length<=1200 from h)] at gE;exact gE
theorem aiI (hp:fH [x,y,z]=true) (ar:bL (.bool false)=true) (b5:fl [x,y,z]=[ov b (.slice a n c),u,v])
  (aA:dr bp.dz 1 gq (.slice a n c) cells) (bw:dr bp.dz 8 js u table) (ao:dr bp.dz 1 iw v known) (iv:n=cells.length) (h:¬E4 cells table known):j0 Tryd.prog (25,[x,y,z],.bool false):=
 kP (a:= #[ov b (.slice a n c),u,v]) hp ar b5 rfl λw hw=>(RK.any w (aA.mono hw) (bw.mono hw) (ao.mono hw) iv).mono λe w' gE=>by rw[dT (show ¬(o8 table/\cells.length<=1000/\known.length<=1200) from h)] at gE;exact gE
end
end a1
namespace a1
namespace RL
noncomputable def body:Code:=(Tryd.f7.body).getD .skip
def N:Nat:=24
noncomputable abbrev b9:=fu Tryd.prog Tryd.f7
def aZ:c6:={sl:=bm [(3,2),(2,1),(1,0),(0,.agg ⟨[3,4,5,6,7,8,9]⟩)],ms:=[],A:=start}
def bz:aU:=[(.len #[26] 3 9,10),
 (.bin .leq 3 10 (I 120),.bool true),
 (.len #[31] 3 2,11),
 (.bin .leq 3 11 (I 30),.bool true)]
def h2:dm:=[(25,[.agg ⟨[3,4,5,6,7,8,9]⟩,0,1],.bool true)]
theorem b4:b9 (at' 24 bz h2 body aZ)=some (.bool true):=ag
def cp:aU:=[(.len #[26] 3 9,10),
 (.bin .leq 3 10 (I 120),.bool true),
 (.len #[31] 3 2,11),
 (.bin .leq 3 11 (I 30),.bool true)]
def hR:dm:=[(25,[.agg ⟨[3,4,5,6,7,8,9]⟩,0,1],.bool false)]
theorem bs:b9 (at' 24 cp hR body aZ)=some (.bool false):=ag
def dh:aU:=[(.len #[26] 3 9,10),
 (.bin .leq 3 10 (I 120),.bool true),
 (.len #[31] 3 2,11),
 (.bin .leq 3 11 (I 30),.bool false)]
theorem cw:b9 (at' 24 dh [] body aZ)=some (.bool false):=ag
def d':aU:=[(.len #[26] 3 9,10),
 (.bin .leq 3 10 (I 120),.bool false)]
theorem dD:b9 (at' 24 d' [] body aZ)=some (.bool false):=ag
@[reducible] noncomputable def a6 (cells:List Int) (b_:bH) (b3 ca:Nat) (table:List dx) (cq:bH) (cr:Nat) (known:List Bool) (di:bH) (dj:Nat) (l:List oU) (ej:bH) (er:Nat) (b:cx):List ad:=[aO cq table cr,aO di known dj,aO ej l er,I b.1,I b.2.1,I b.2.2.1,I b.2.2.2.1,I b.2.2.2.2.1,I b.2.2.2.2.2,.slice b_ b3 ca,I ((cells.length:Nat):Int),I ((l.length:Nat):Int)]
theorem any (W:aG) {b:cx} {b_:bH} {b3 ca:Nat} {cells:List Int} (hT:dr (a7 W) 1 gq (.slice b_ b3 ca) cells) {ow:ad} {table:List dx} (bw:dr (a7 W) 8 js ow table) {ox:ad} {known:List Bool} (hZ:dr (a7 W) 1 iw ox known) {iZ:ad} {l:List oU} (az:dr (a7 W) 6 A7 iZ l) (iv:b3=cells.length):Calls Tryd.prog 7 #[.agg ⟨[I b.1,I b.2.1,I b.2.2.1,I b.2.2.2.1,I b.2.2.2.2.1,I b.2.2.2.2.2,.slice b_ b3 ca]⟩,ow,ox,iZ] W λe w'=>e= .returned (.bool (decide (tX cells table known l.length)))/\cO W.heap.size W w':=by
 obtain⟨cq,cr,rfl⟩:=bw.slice;obtain⟨di,dj,rfl⟩:=hZ.slice;obtain⟨ej,er,rfl⟩:=az.slice;refine kT (a6 cells b_ b3 ca table cq cr known di dj l ej er b) body aZ N [.agg ⟨[al 3,al 4,al 5,al 6,al 7,al 8,al 9]⟩,al 0,al 1,al 2] Tryd.func7 λa ae=> ?_
 letI:=bE ae;have a_:=cC.q_ W;by_cases bd:((cells.length:Nat):Int)<=120
 ·by_cases af:((l.length:Nat):Int)<=30
  ·by_cases ah:E4 cells table known
   ·refine br bz h2 (U (e4 (hT.mono a_.ext) iD) (U bf (U (e4 (az.mono a_.ext) zP) (U bf aB)))) (cv (aiH J J J (hT.mono a_.ext) (bw.mono a_.ext) (hZ.mono a_.ext) iv ah) aC) ?_ ae
    exact b2 b4 λw2 bk=>(by first|(rw[gO (show tX cells table known l.length from ⟨aj,aj,aY⟩)];rfl)|(rw[dT (λq:tX cells table known l.length=>by first|exact absurd q.2.2 aY|(have q1:=q.1;have aI:=q.2.1;omega))];rfl))
   ·refine br cp hR (U (e4 (hT.mono a_.ext) iD) (U bf (U (e4 (az.mono a_.ext) zP) (U bf aB)))) (cv (aiI J J J (hT.mono a_.ext) (bw.mono a_.ext) (hZ.mono a_.ext) iv ah) aC) ?_ ae
    exact b2 bs λw2 bk=>(by first|(rw[gO (show tX cells table known l.length from ⟨aj,aj,aY⟩)];rfl)|(rw[dT (λq:tX cells table known l.length=>by first|exact absurd q.2.2 aY|(have q1:=q.1;have aI:=q.2.1;omega))];rfl))
  ·refine br dh [] (U (e4 (hT.mono a_.ext) iD) (U bf (U (e4 (az.mono a_.ext) zP) (U a' aB)))) aC ?_ ae
   exact b2 cw λw2 bk=>(by first|(rw[gO (show tX cells table known l.length from ⟨aj,aj,aY⟩)];rfl)|(rw[dT (λq:tX cells table known l.length=>by first|exact absurd q.2.2 aY|(have q1:=q.1;have aI:=q.2.1;omega))];rfl))
 ·refine br d' [] (U (e4 (hT.mono a_.ext) iD) (U a' aB)) aC ?_ ae
  exact b2 dD λw2 bk=>(by first|(rw[gO (show tX cells table known l.length from ⟨aj,aj,aY⟩)];rfl)|(rw[dT (λq:tX cells table known l.length=>by first|exact absurd q.2.2 aY|(have q1:=q.1;have aI:=q.2.1;omega))];rfl))
end RL
end a1
namespace a1
def aiJ:dx:=([97,105,114],false,false,false,1,0,0,0)
def Iw:List dx:=[aiJ,([115,116,111,110,101],true,false,false,16,0,0,0),([103,108,97,115,115],true,false,false,1,0,0,0),([108,97,109,112],true,false,false,16,15,14,10),([115,97,110,100],true,false,true,16,0,0,0),([119,97,116,101,114],false,true,false,3,0,0,0),([108,101,97,118,101,115],true,false,false,2,0,0,0),([101,109,98,101,114],true,false,false,16,9,3,0),([102,111,103],false,false,false,2,0,0,0)]
def xu:cx:=(0,0,0,1,1,4)
def Dj:eD:=n1 xu [3,0,0,0] Iw [] 2
def tY:eD:=rD Dj
end a1
namespace a1
namespace E5
noncomputable def body:Code:=(Tryd.f28.body).getD .skip
def N:Nat:=26
noncomputable abbrev b9:=fu Tryd.prog Tryd.f28
def aZ:c6:={sl:=bm [(1,1),(0,0)],ms:=[],A:=start}
def bz:aU:=[(.len #[26] 3 0,2),
 (.len #[26] 3 1,3),
 (.bin .neq 3 2 3,.bool false)]
def bt:List bG:=[]
def cl:ax:=bm [(5,4),(1,1),(0,0)]
abbrev fG:=at' 26 bz [] body aZ
theorem b4:mi cl bt fG=some [(0,0),(1,1),(I 0,4)]:=ag
def bY:Code:=nJ body [1,1,0,1,4]
def fJ:List hj:=lp body [1,1,0,1,4] []
theorem bs:lP fG=bY:=ag
theorem cw:gi fG=fJ:=ag
def cp:aU:=[(.len #[26] 3 0,2),
 (.bin .lss 3 4 2,.bool true),
 (.cV 26 0 4,5),
 (.bh 3 5,6),
 (.cV 26 1 4,7),
 (.bh 3 7,8),
 (.bin .neq 3 6 8,.bool false),
 (.bin .add 3 4 (I 1),9)]
theorem dD:eV cl bt (at' 26 cp [] bY (aN cl bt))=some [(0,0),(1,1),(9,4)]:=ag
def dh:aU:=[(.len #[26] 3 0,2),
 (.bin .lss 3 4 2,.bool true),
 (.cV 26 0 4,5),
 (.bh 3 5,6),
 (.cV 26 1 4,7),
 (.bh 3 7,8),
 (.bin .neq 3 6 8,.bool true)]
theorem hq:b9 (jf 26 [] [] fJ (at' 26 dh [] bY (aN cl bt)))=some (.bool false):=ag
def eS:aU:=[(.len #[26] 3 0,2),
 (.bin .lss 3 4 2,.bool false)]
theorem ka:b9 (jf 26 [] [] fJ (at' 26 eS [] bY (aN cl bt)))=some (.bool true):=ag
def fq:aU:=[(.len #[26] 3 0,2),
 (.len #[26] 3 1,3),
 (.bin .neq 3 2 3,.bool true)]
theorem gy:b9 (at' 26 fq [] body aZ)=some (.bool false):=ag
@[reducible] noncomputable def a6 (l:List Int) (ej:bH) (er:Nat) (k:List Int) (Ix:bH) (Iy:Nat) (i:Nat:=0):List ad:=[aO ej l er,aO Ix k Iy,I ((l.length:Nat):Int),I ((k.length:Nat):Int),I ((i:Nat):Int),fM (aO ej l er) (i*1),I (l.aD (i)),fM (aO Ix k Iy) (i*1),I (k.aD (i)),I ((i+1:Nat):Int)]
theorem any (W:aG) {iZ:ad} {l:List Int} (az:dr (a7 W) 1 gq iZ l) {Zt:ad} {k:List Int} (ao:dr (a7 W) 1 gq Zt k) (aT:l.length<=1000000):Calls Tryd.prog 28 #[iZ,Zt] W λe w'=>e= .returned (.bool (decide (l=k)))/\cO W.heap.size W w':=by
 obtain⟨ej,er,rfl⟩:=az.slice;obtain⟨Ix,Iy,rfl⟩:=ao.slice;refine kT (a6 l ej er k Ix Iy) body aZ N [al 0,al 1] Tryd.func28 λa ae=> ?_
 letI:=bE ae;by_cases bd:((l.length:Nat):Int)=((k.length:Nat):Int)
 ·refine br bz [] (U (e4 az iD) (U (e4 ao iD) (U uH aB))) aC ?_ ae
  refine nP (fW:=(λi=>bc (a7 W) (a6 l ej er k Ix Iy i))) (λi=>i<=l.length/\∀j,j<i->l.aD j=k.aD j) (λi=>l.length-i) 0 b4 b7 (λ_ _ h=>h) (by exact⟨Nat.zero_le _,λj h=>absurd h (Nat.not_lt_zero _)⟩) ?_;intro i aK ch w ae;letI:=bE ae;refine nK bs cw ?_;by_cases lM:((i:Nat):Int)<((l.length:Nat):Int)
  ·by_cases jc:(l.aD (i))=(k.aD (i))
   ·refine br cp [] (U (e4 az iD) (U bf (U (f' az iD jO) (U (im 0 az (f_ i) kz) (U (f' ao iD jO) (U (im 0 ao (f_ i) kz) (U uH (U gU aB)))))))) aC ?_ ae
    exact e3 (i+1) dD b7 (by exact⟨aj,λj h=>by rcases Nat.lt_or_ge j i with af|af;exact aK.2 j af;obtain rfl:j=i:=aj;first|assumption|exact aiE aY aY|exact aiF aY aY⟩)
   ·refine br dh [] (U (e4 az iD) (U bf (U (f' az iD jO) (U (im 0 az (f_ i) kz) (U (f' ao iD jO) (U (im 0 ao (f_ i) kz) (U vI aB))))))) aC ?_ ae
    refine j3 [] [] aB aC ?_;exact b2 hq λw2 bk=>(by first|(rw[dT (λh:l=k=>by subst h;omega)];rfl)|(rw[dT (λh:l=k=>by subst h;first|exact absurd rfl aY|exact absurd aY aY)];rfl)|(rw[gO (all_eq aj (λj aq=>aK.2 j aj))];rfl))
  ·refine br eS [] (U (e4 az iD) (U a' aB)) aC ?_ ae
   refine j3 [] [] aB aC ?_;exact b2 ka λw2 bk=>(by first|(rw[dT (λh:l=k=>by subst h;omega)];rfl)|(rw[dT (λh:l=k=>by subst h;first|exact absurd rfl aY|exact absurd aY aY)];rfl)|(rw[gO (all_eq aj (λj aq=>aK.2 j aj))];rfl))
 ·refine br fq [] (U (e4 az iD) (U (e4 ao iD) (U vI aB))) aC ?_ ae
  exact b2 gy λw2 bk=>(by first|(rw[dT (λh:l=k=>by subst h;omega)];rfl)|(rw[dT (λh:l=k=>by subst h;first|exact absurd rfl aY|exact absurd aY aY)];rfl)|(rw[gO (all_eq aj (λj aq=>aK.2 j aj))];rfl))
end E5
end a1
namespace a1
namespace RM
noncomputable def body:Code:=(Tryd.f29.body).getD .skip
def N:Nat:=22
def aZ:c6:={sl:=bm [(1,I 0),(0,0)],ms:=[],A:=start}
def bz:aU:=[(.len #[45] 3 0,1)]
def bt:List bG:=[]
def cl:ax:=bm [(10,3),(9,1),(8,0),(5,2),(4,.slice none 0 0),(1,I 0)]
abbrev fG:=at' 22 bz [] body aZ
theorem b4:mi cl bt fG=some [(.slice none 0 0,2),(1,1),(0,0),(I 0,3)]:=ag
def bY:Code:=nJ body [1,1,0,1,4]
def fJ:List hj:=lp body [1,1,0,1,4] []
theorem bs:lP fG=bY:=ag
theorem cw:gi fG=fJ:=ag
def cp:aU:=[(.bin .lss 3 3 1,.bool true),
 (.cV 45 0 3,4),
 (.bh 85 4,.agg ⟨[5,6,7,8]⟩)]
theorem dD:B4 (b0 (at' 22 cp [] bY (aN cl bt))).A 1 (.slice (some ⟨1,0,none⟩) 1 1)=some [5]:=ag
theorem hq:q9 26 (at' 22 cp [] bY (aN cl bt))=some (2,.slice (some ⟨1,0,none⟩) 1 1):=ag
abbrev eT:=at' 22 cp [] bY (aN cl bt)
def cY:List bG:=[]
def c8:ax:=bm [(10,3),(9,1),(8,0),(5,2),(4,.slice none 0 0),(1,I 0)]
def c0:ax:=dS 22 c8 19 9
theorem ka:bF (b0 eT) c8 cY=some [(2,2),(1,1),(0,0),(3,3)]:=ag
def c5:ct:=(bY,[1,1,0,4,1],6)
def dh:aU:=[(.bin .add 3 3 (I 1),10)]
theorem k2:eV cl bt (bD 22 dh [] c5 (aN c0 cY))=some [(9,2),(1,1),(0,0),(10,3)]:=ag
def d':aU:=[(.bin .lss 3 3 1,.bool false)]
theorem lV:fu Tryd.prog Tryd.f29 (jf 22 [] [] fJ (at' 22 d' [] bY (aN cl bt)))=some 2:=ag
@[reducible] noncomputable def a6 (l:List cc) (ej:bH) (er:Nat) (b:List Int:=[]) (a:bH:=none) (c:Nat:=0) (i:Nat:=0) (cj:List Int:=[]) (a0:bH:=none) (eN:Nat:=0):List ad:=[aO ej l er,I ((l.length:Nat):Int),aO a b c,I ((i:Nat):Int),fM (aO ej l er) (i*4),I (l.aD (i)).1,I (l.aD (i)).2.1,I (l.aD (i)).2.2.1,I (l.aD (i)).2.2.2,aO a0 cj eN,I ((i+1:Nat):Int)]
theorem any (W:aG) {iZ:ad} {l:List cc} (az:dr (a7 W) 4 kh iZ l) (aT:l.length<=100000):Calls Tryd.prog 29 #[iZ,I 0] W λe w'=>(∃a c,e= .returned (.slice a (l.map λx=>x.1).length c)/\eI W.heap.size (a7 w') lD 1 gq (.slice a (l.map λx=>x.1).length c) (l.map λx=>x.1))/\cO W.heap.size W w':=by
 obtain⟨ej,er,rfl⟩:=az.slice;refine kT (a6 l ej er) body aZ N [al 0,I 0] Tryd.func29 λa ae=> ?_
 letI:=bE ae;refine br bz [] (U (e4 az kg) aB) aC ?_ ae;refine nP (fW:=(λ(⟨M,b,a,c,i⟩:Mem×List Int×Option Addr×Nat×Nat)=>bc M (a6 l ej er b a c i))) (λ(⟨M,b,a,c,i⟩:Mem×List Int×Option Addr×Nat×Nat)=>eI W.heap.size M lD 1 gq (aO a b c) b/\(∀j o,a7 W j=some o->M j=some o)/\i<=l.length/\b=(l.take i).map λx=>x.1) (λ(⟨M,b,a,c,i⟩:Mem×List Int×Option Addr×Nat×Nat)=>l.length-i) ⟨a7 W,[],none,0,0⟩ b4 b7 (λ_ _ h=>h) (by exact⟨eI.nil _ _ _ _ _ _,λ_ _ h=>h,Nat.zero_le _,rfl⟩) ?_;intro⟨M,b,a,c,i⟩ aK ch w ae;letI:=bE ae;refine nK bs cw ?_;have A8:=aK;have dR:=aK.1;have gk:=aK.2.1;have H8:=aK.2.2.1;have t_:b.length=i:=by rw[aK.2.2.2,List.length_map,List.length_take];omega
 by_cases lM:((i:Nat):Int)<((l.length:Nat):Int)
 ·refine br cp [] (U bf (U (f' (az.mono gk) kg kS) (U (aW.p_ (az.mono gk) (f_ i) J J GD kS J J J) aB))) aC ?_ ae
  obtain⟨cj,fD⟩:=ey (b++[(((l.aD (i)).1):Int)]);have hh:cj.length=b.length+1:=by rw[fD];first|rfl|simp
  refine B2 (l:=b) (lx:=[(((l.aD (i)).1):Int)]) (l':=cj) (bC:=λoi oj=>(a6 l ej er b a c i cj oi oj)) (T:=(fX (aO a b c))) fD hq iD J8 J9 J' J_ Ka aL j2 Kb ka (cF c0 9) rfl (JX J J dR) (Ga dD j2 aL rfl) (wQ (show b.length+1<=1000000 by omega)) (show (b.length+1)*yX<=140737488355328 by unfold yX;omega) (λ_ _ _=>b7) (λ_ _ _=>rfl) ?_;intro fN a0 eN lT gb s7 ch w ae;have vX:=gb.up s7 (c4 _) gk;letI:=bE ae;refine cm (cn c5) dh [] (U gU aB) aC ?_ ae;exact e3 ⟨fN,cj,a0,eN,i+1⟩ k2 b7 (by exact⟨lT,vX,aj,by rw[fD,A8.2.2.2];exact RH aj⟩)
 ·refine br d' [] (U a' aB) aC ?_ ae
  refine j3 [] [] aB aC ?_;exact b2 lV λw2 bk=>(by exact B5 dR (by rw[A8.2.2.2,show i=l.length by omega,List.take_length]) bk)
end RM
namespace Zu
noncomputable def body:Code:=(Tryd.f29.body).getD .skip
def N:Nat:=22
def aZ:c6:={sl:=bm [(1,I 2),(0,0)],ms:=[],A:=start}
def bz:aU:=[(.len #[45] 3 0,1)]
def bt:List bG:=[]
def cl:ax:=bm [(10,3),(9,1),(8,0),(5,2),(4,.slice none 0 0),(1,I 2)]
abbrev fG:=at' 22 bz [] body aZ
theorem b4:mi cl bt fG=some [(.slice none 0 0,2),(1,1),(0,0),(I 0,3)]:=ag
def bY:Code:=nJ body [1,1,0,1,4]
def fJ:List hj:=lp body [1,1,0,1,4] []
theorem bs:lP fG=bY:=ag
theorem cw:gi fG=fJ:=ag
def cp:aU:=[(.bin .lss 3 3 1,.bool true),
 (.cV 45 0 3,4),
 (.bh 85 4,.agg ⟨[5,6,7,8]⟩)]
theorem dD:B4 (b0 (at' 22 cp [] bY (aN cl bt))).A 1 (.slice (some ⟨1,0,none⟩) 1 1)=some [7]:=ag
theorem hq:q9 26 (at' 22 cp [] bY (aN cl bt))=some (2,.slice (some ⟨1,0,none⟩) 1 1):=ag
abbrev eT:=at' 22 cp [] bY (aN cl bt)
def cY:List bG:=[]
def c8:ax:=bm [(10,3),(9,1),(8,0),(5,2),(4,.slice none 0 0),(1,I 2)]
def c0:ax:=dS 22 c8 19 9
theorem ka:bF (b0 eT) c8 cY=some [(2,2),(1,1),(0,0),(3,3)]:=ag
def c5:ct:=(bY,[1,1,0,4,1],6)
def dh:aU:=[(.bin .add 3 3 (I 1),10)]
theorem k2:eV cl bt (bD 22 dh [] c5 (aN c0 cY))=some [(9,2),(1,1),(0,0),(10,3)]:=ag
def d':aU:=[(.bin .lss 3 3 1,.bool false)]
theorem lV:fu Tryd.prog Tryd.f29 (jf 22 [] [] fJ (at' 22 d' [] bY (aN cl bt)))=some 2:=ag
@[reducible] noncomputable def a6 (l:List cc) (ej:bH) (er:Nat) (b:List Int:=[]) (a:bH:=none) (c:Nat:=0) (i:Nat:=0) (cj:List Int:=[]) (a0:bH:=none) (eN:Nat:=0):List ad:=[aO ej l er,I ((l.length:Nat):Int),aO a b c,I ((i:Nat):Int),fM (aO ej l er) (i*4),I (l.aD (i)).1,I (l.aD (i)).2.1,I (l.aD (i)).2.2.1,I (l.aD (i)).2.2.2,aO a0 cj eN,I ((i+1:Nat):Int)]
theorem any (W:aG) {iZ:ad} {l:List cc} (az:dr (a7 W) 4 kh iZ l) (aT:l.length<=100000):Calls Tryd.prog 29 #[iZ,I 2] W λe w'=>(∃a c,e= .returned (.slice a (l.map λx=>x.2.2.1).length c)/\eI W.heap.size (a7 w') lD 1 gq (.slice a (l.map λx=>x.2.2.1).length c) (l.map λx=>x.2.2.1))/\cO W.heap.size W w':=by
 obtain⟨ej,er,rfl⟩:=az.slice;refine kT (a6 l ej er) body aZ N [al 0,I 2] Tryd.func29 λa ae=> ?_
 letI:=bE ae;refine br bz [] (U (e4 az kg) aB) aC ?_ ae;refine nP (fW:=(λ(⟨M,b,a,c,i⟩:Mem×List Int×Option Addr×Nat×Nat)=>bc M (a6 l ej er b a c i))) (λ(⟨M,b,a,c,i⟩:Mem×List Int×Option Addr×Nat×Nat)=>eI W.heap.size M lD 1 gq (aO a b c) b/\(∀j o,a7 W j=some o->M j=some o)/\i<=l.length/\b=(l.take i).map λx=>x.2.2.1) (λ(⟨M,b,a,c,i⟩:Mem×List Int×Option Addr×Nat×Nat)=>l.length-i) ⟨a7 W,[],none,0,0⟩ b4 b7 (λ_ _ h=>h) (by exact⟨eI.nil _ _ _ _ _ _,λ_ _ h=>h,Nat.zero_le _,rfl⟩) ?_;intro⟨M,b,a,c,i⟩ aK ch w ae;letI:=bE ae;refine nK bs cw ?_;have A8:=aK;have dR:=aK.1;have gk:=aK.2.1;have H8:=aK.2.2.1;have t_:b.length=i:=by rw[aK.2.2.2,List.length_map,List.length_take];omega
 by_cases lM:((i:Nat):Int)<((l.length:Nat):Int)
 ·refine br cp [] (U bf (U (f' (az.mono gk) kg kS) (U (aW.p_ (az.mono gk) (f_ i) J J GD kS J J J) aB))) aC ?_ ae
  obtain⟨cj,fD⟩:=ey (b++[(((l.aD (i)).2.2.1):Int)]);have hh:cj.length=b.length+1:=by rw[fD];first|rfl|simp
  refine B2 (l:=b) (lx:=[(((l.aD (i)).2.2.1):Int)]) (l':=cj) (bC:=λoi oj=>(a6 l ej er b a c i cj oi oj)) (T:=(fX (aO a b c))) fD hq iD J8 J9 J' J_ Ka aL j2 Kb ka (cF c0 9) rfl (JX J J dR) (Ga dD j2 aL rfl) (wQ (show b.length+1<=1000000 by omega)) (show (b.length+1)*yX<=140737488355328 by unfold yX;omega) (λ_ _ _=>b7) (λ_ _ _=>rfl) ?_;intro fN a0 eN lT gb s7 ch w ae;have vX:=gb.up s7 (c4 _) gk;letI:=bE ae;refine cm (cn c5) dh [] (U gU aB) aC ?_ ae;exact e3 ⟨fN,cj,a0,eN,i+1⟩ k2 b7 (by exact⟨lT,vX,aj,by rw[fD,A8.2.2.2];exact RH aj⟩)
 ·refine br d' [] (U a' aB) aC ?_ ae
  refine j3 [] [] aB aC ?_;exact b2 lV λw2 bk=>(by exact B5 dR (by rw[A8.2.2.2,show i=l.length by omega,List.take_length]) bk)
end Zu
namespace RN
noncomputable def body:Code:=(Tryd.f29.body).getD .skip
def N:Nat:=22
def aZ:c6:={sl:=bm [(1,I 3),(0,0)],ms:=[],A:=start}
def bz:aU:=[(.len #[45] 3 0,1)]
def bt:List bG:=[]
def cl:ax:=bm [(10,3),(9,1),(8,0),(5,2),(4,.slice none 0 0),(1,I 3)]
abbrev fG:=at' 22 bz [] body aZ
theorem b4:mi cl bt fG=some [(.slice none 0 0,2),(1,1),(0,0),(I 0,3)]:=ag
def bY:Code:=nJ body [1,1,0,1,4]
def fJ:List hj:=lp body [1,1,0,1,4] []
theorem bs:lP fG=bY:=ag
theorem cw:gi fG=fJ:=ag
def cp:aU:=[(.bin .lss 3 3 1,.bool true),
 (.cV 45 0 3,4),
 (.bh 85 4,.agg ⟨[5,6,7,8]⟩)]
theorem dD:B4 (b0 (at' 22 cp [] bY (aN cl bt))).A 1 (.slice (some ⟨1,0,none⟩) 1 1)=some [8]:=ag
theorem hq:q9 26 (at' 22 cp [] bY (aN cl bt))=some (2,.slice (some ⟨1,0,none⟩) 1 1):=ag
abbrev eT:=at' 22 cp [] bY (aN cl bt)
def cY:List bG:=[]
def c8:ax:=bm [(10,3),(9,1),(8,0),(5,2),(4,.slice none 0 0),(1,I 3)]
def c0:ax:=dS 22 c8 19 9
theorem ka:bF (b0 eT) c8 cY=some [(2,2),(1,1),(0,0),(3,3)]:=ag
def c5:ct:=(bY,[1,1,0,4,1],6)
def dh:aU:=[(.bin .add 3 3 (I 1),10)]
theorem k2:eV cl bt (bD 22 dh [] c5 (aN c0 cY))=some [(9,2),(1,1),(0,0),(10,3)]:=ag
def d':aU:=[(.bin .lss 3 3 1,.bool false)]
theorem lV:fu Tryd.prog Tryd.f29 (jf 22 [] [] fJ (at' 22 d' [] bY (aN cl bt)))=some 2:=ag
@[reducible] noncomputable def a6 (l:List cc) (ej:bH) (er:Nat) (b:List Int:=[]) (a:bH:=none) (c:Nat:=0) (i:Nat:=0) (cj:List Int:=[]) (a0:bH:=none) (eN:Nat:=0):List ad:=[aO ej l er,I ((l.length:Nat):Int),aO a b c,I ((i:Nat):Int),fM (aO ej l er) (i*4),I (l.aD (i)).1,I (l.aD (i)).2.1,I (l.aD (i)).2.2.1,I (l.aD (i)).2.2.2,aO a0 cj eN,I ((i+1:Nat):Int)]
theorem any (W:aG) {iZ:ad} {l:List cc} (az:dr (a7 W) 4 kh iZ l) (aT:l.length<=100000):Calls Tryd.prog 29 #[iZ,I 3] W λe w'=>(∃a c,e= .returned (.slice a (l.map λx=>x.2.2.2).length c)/\eI W.heap.size (a7 w') lD 1 gq (.slice a (l.map λx=>x.2.2.2).length c) (l.map λx=>x.2.2.2))/\cO W.heap.size W w':=by
 obtain⟨ej,er,rfl⟩:=az.slice;refine kT (a6 l ej er) body aZ N [al 0,I 3] Tryd.func29 λa ae=> ?_
 letI:=bE ae;refine br bz [] (U (e4 az kg) aB) aC ?_ ae;refine nP (fW:=(λ(⟨M,b,a,c,i⟩:Mem×List Int×Option Addr×Nat×Nat)=>bc M (a6 l ej er b a c i))) (λ(⟨M,b,a,c,i⟩:Mem×List Int×Option Addr×Nat×Nat)=>eI W.heap.size M lD 1 gq (aO a b c) b/\(∀j o,a7 W j=some o->M j=some o)/\i<=l.length/\b=(l.take i).map λx=>x.2.2.2) (λ(⟨M,b,a,c,i⟩:Mem×List Int×Option Addr×Nat×Nat)=>l.length-i) ⟨a7 W,[],none,0,0⟩ b4 b7 (λ_ _ h=>h) (by exact⟨eI.nil _ _ _ _ _ _,λ_ _ h=>h,Nat.zero_le _,rfl⟩) ?_;intro⟨M,b,a,c,i⟩ aK ch w ae;letI:=bE ae;refine nK bs cw ?_;have A8:=aK;have dR:=aK.1;have gk:=aK.2.1;have H8:=aK.2.2.1;have t_:b.length=i:=by rw[aK.2.2.2,List.length_map,List.length_take];omega
 by_cases lM:((i:Nat):Int)<((l.length:Nat):Int)
 ·refine br cp [] (U bf (U (f' (az.mono gk) kg kS) (U (aW.p_ (az.mono gk) (f_ i) J J GD kS J J J) aB))) aC ?_ ae
  obtain⟨cj,fD⟩:=ey (b++[(((l.aD (i)).2.2.2):Int)]);have hh:cj.length=b.length+1:=by rw[fD];first|rfl|simp
  refine B2 (l:=b) (lx:=[(((l.aD (i)).2.2.2):Int)]) (l':=cj) (bC:=λoi oj=>(a6 l ej er b a c i cj oi oj)) (T:=(fX (aO a b c))) fD hq iD J8 J9 J' J_ Ka aL j2 Kb ka (cF c0 9) rfl (JX J J dR) (Ga dD j2 aL rfl) (wQ (show b.length+1<=1000000 by omega)) (show (b.length+1)*yX<=140737488355328 by unfold yX;omega) (λ_ _ _=>b7) (λ_ _ _=>rfl) ?_;intro fN a0 eN lT gb s7 ch w ae;have vX:=gb.up s7 (c4 _) gk;letI:=bE ae;refine cm (cn c5) dh [] (U gU aB) aC ?_ ae;exact e3 ⟨fN,cj,a0,eN,i+1⟩ k2 b7 (by exact⟨lT,vX,aj,by rw[fD,A8.2.2.2];exact RH aj⟩)
 ·refine br d' [] (U a' aB) aC ?_ ae
  refine j3 [] [] aB aC ?_;exact b2 lV λw2 bk=>(by exact B5 dR (by rw[A8.2.2.2,show i=l.length by omega,List.take_length]) bk)
end RN
end a1
namespace a1
def E6:eD:=qR tY (0,0,0) 0
def oV:eD:=rD E6
def pY:eD:=qR oV (0,0,1) 3
def k9:eD:=tV pY (0,0,1) true
def sa:eD:=ta k9 1
theorem Zv:qP xu [3,0,0,0] Iw [] 2:=of_decide_eq_true ag
theorem aiK:¬qP xu [3,0,0,0] Iw [] 0:=λh=>by
 have:=h.2.1;omega
theorem RO:i_ Dj:=(RG Zv aL).1
theorem Zw:i_ tY:=RO.set.1
theorem aiL:tY.u.reqs.length<10000:=Nat.lt_of_le_of_lt RO.set.2.2.2 (by show (0:Nat)<_;decide)
theorem Zx:i_ E6:=(Zw.dP aiL _ _).1
theorem RP:i_ oV:=Zx.set.1
theorem aiM:pV tY.b tY.most (0,0,0) tY.u.reqs 0=0:=ag
theorem aiN:oV.u.reqs.length=0:=ag
theorem aiO:pY.u.reqs.length=1:=ag
theorem aiP:k9.u.reqs.length=2:=ag
theorem RQ:i_ pY:=(RP.dP (by rw[aiN];decide) _ _).1
theorem Iz:i_ k9:=(RQ.bh (by rw[aiO];decide) _ _).1
theorem aiQ:po tY:=of_decide_eq_true ag
theorem aiR:¬po k9:=λh=>by have:=h.2.2;rw[aiP] at this;cases this
theorem aiS:(tY.u.au.map λx=>x.1)=[15,14,13,12]:=ag
theorem aiT:(tY.u.au.map λx=>x.2.2.1)=[10,9,8,7]:=ag
theorem aiU:(tY.u.au.map λx=>x.2.2.2)=[0,15,15,15]:=ag
theorem aiV:(oV.u.au.map λx=>x.1)=[0,0,0,0]:=ag
theorem aiW:(oV.u.au.map λx=>x.2.2.2)=[15,15,15,15]:=ag
theorem LL:tY.u.au.length=4:=ag
theorem RR:oV.u.au.length=4:=ag
theorem wz:0<((r_ E6:Nat):Int):=of_decide_eq_true ag
theorem Zy:pV oV.b oV.most (0,0,1) oV.u.reqs 3=0:=ag
theorem Zz:l4 pY.b pY.most (0,0,1) pY.u.reqs=0:=ag
theorem RS:pV k9.b k9.most (0,0,1) k9.u.reqs 3=16:=ag
theorem RT:pV k9.b k9.most (0,0,4) k9.u.reqs 0=1:=ag
theorem ZA:qR k9 (0,0,1) 3=k9:=RE (by rw[RS];decide)
theorem ZB:qR k9 (0,0,4) 0=k9:=RE (by rw[RT];decide)
theorem aiX:qp k9 1=1:=ag
theorem LM:sa.known.length=4:=ag
theorem ZC:sa.cells.length=4:=ag
theorem RU:sa.cells.getD 1 default=3:=ag
theorem C2 {W:aG} {g:Nat} {A:fx} {e e':eD} {p:gK} {c n:Int} (h:dO (a7 W) [dF g A e]) (fV:i_ e) (af:qR e p c=e') (ah:pV e.b e.most p e.u.reqs c=n):
  Calls Tryd.prog 18 #[rC g,P.val p,.int .i64 c] W λx w'=>(∃bK:fx,x= .returned (.int .i64 n)/\dw (a7 W) [dF g A e] (a7 w') [dF g bK e'])/\cO 0 W w':=by
 subst af ah;exact Ze W h p c fV.r'.box fV.Ik fV.LF fV.LG
theorem ZD {W:aG} {g:Nat} {A:fx} {e e':eD} {p:gK} {k:Bool} {n:Int} (h:dO (a7 W) [dF g A e]) (fV:i_ e) (af:tV e p k=e') (ah:l4 e.b e.most p e.u.reqs=n):
  Calls Tryd.prog 19 #[rC g,P.val p,.bool k] W λx w'=>(∃bK:fx,x= .returned (.int .i64 n)/\dw (a7 W) [dF g A e] (a7 w') [dF g bK e'])/\cO 0 W w':=by
 subst af ah;exact Zf W h p k fV.r'.box fV.Ik fV.LF fV.LG
theorem RV {W:aG} {g:Nat} {A:fx} {e e':eD} {k:Int} {n:Int} (h:dO (a7 W) [dF g A e]) (fV:i_ e) (af:ta e k=e') (ah:((qp e k:Nat):Int)=n):
  Calls Tryd.prog 10 #[rC g,.int .i64 k] W λx w'=>(∃bK:fx,x= .returned (.int .i64 n)/\dw (a7 W) [dF g A e] (a7 w') [dF g bK e'])/\cO 0 W w':=by
 subst af ah;exact Zb W h k fV.r' fV.E0
theorem IA {W:aG} {g:Nat} {A:fx} {e e':eD} {n:Int} (h:dO (a7 W) [dF g A e]) (fV:i_ e) (af:rD e=e') (ah:((r_ e:Nat):Int)=n):
  Calls Tryd.prog 12 #[rC g] W λx w'=>(∃bK:fx,x= .returned (.int .i64 n)/\dw (a7 W) [dF g A e] (a7 w') [dF g bK e'])/\cO 0 W w':=by
 subst af ah;exact Za W h fV.r' fV.E0
theorem IB {W:aG} {g:Nat} {A:fx} {e:eD} (h:dO (a7 W) [dF g A e]) (ay:po e):
  Calls Tryd.prog 11 #[rC g] W λx w'=>(∃_:Unit,x= .returned (.bool true)/\dw (a7 W) [dF g A e] (a7 w') [dF g A e])/\cO 0 W w':=by
 have:=Zc W h
 rwa [gO (show e.u.aQ.length=0/\e.u.aE.length=0/\e.u.reqs.length=0 from ay)] at this
theorem IC {W:aG} {g:Nat} {A:fx} {e:eD} (h:dO (a7 W) [dF g A e]) (ay:¬po e):
  Calls Tryd.prog 11 #[rC g] W λx w'=>(∃_:Unit,x= .returned (.bool false)/\dw (a7 W) [dF g A e] (a7 w') [dF g A e])/\cO 0 W w':=by
 have:=Zc W h
 rwa [dT (show ¬(e.u.aQ.length=0/\e.u.aE.length=0/\e.u.reqs.length=0) from ay)] at this
theorem ZE {W:aG} {L:List df} (ay:dO (a7 W) L) {b_:Option Addr} {b3 ca:Nat} {cells:List Int} (hT:dr (a7 W) 1 gq (.slice b_ b3 ca) cells) {b:cx} {ow ox:ad} {table:List dx} {known:List Bool} (bw:dr (a7 W) 8 js ow table) (hZ:dr (a7 W) 1 iw ox known) {most:Int}
  (d_:oH (a7 W)) (aT:cells.length<=10000) (iv:b3=cells.length) (rU:known.length<=100000) (zI:table.length<=100000) (ai:qP b cells table known most):
  Calls Tryd.prog 9 #[ov b (.slice b_ b3 ca),ow,ox,.int .i64 most] W λx w'=>(∃y:Nat×fx,x= .returned (.tuple ⟨[rC y.1,.int .i64 0]⟩)/\dw (a7 W) L (a7 w') (L++[dF y.1 y.2 (n1 b cells table known most)]))/\cO 0 W w':=
 (Zg W hT bw hZ most d_ aT iv rU zI).mono λx w' aw=>by
   obtain⟨h,az⟩:=aw;rw[aP ai] at h;obtain⟨g,A,rfl,t⟩:=h;exact⟨⟨(g,A),rfl,(ay.own.new t).GX⟩,az.zero⟩
theorem ZF {W:aG} {L:List df} (ay:dO (a7 W) L) {b_:Option Addr} {b3 ca:Nat} {cells:List Int} (hT:dr (a7 W) 1 gq (.slice b_ b3 ca) cells) {b:cx} {ow ox:ad} {table:List dx} {known:List Bool} (bw:dr (a7 W) 8 js ow table) (hZ:dr (a7 W) 1 iw ox known) {most:Int}
  (d_:oH (a7 W)) (aT:cells.length<=10000) (iv:b3=cells.length) (rU:known.length<=100000) (zI:table.length<=100000) (ai:¬qP b cells table known most):
  Calls Tryd.prog 9 #[ov b (.slice b_ b3 ca),ow,ox,.int .i64 most] W λx w'=>(∃_:Unit,x= .returned (.tuple ⟨[.pointer none,.int .i64 1]⟩)/\dw (a7 W) L (a7 w') L)/\cO 0 W w':=
 Eo ay ((Zg W hT bw hZ most d_ aT iv rU zI).mono λx w' aw=>by
  obtain⟨h,az⟩:=aw;rw[aV ai] at h
  exact⟨h,az⟩)
theorem ID {P:bB} {f:FuncId} {args:Array ad} {w:aG} {g:cc->Int} {l:List cc} {r:List Int} (e:l.map g=r) {L:List df} (ay:dO (a7 w) L)
  (h:Calls P f args w λe' w'=>(∃a c,e'= .returned (.slice a (l.map g).length c)/\eI w.heap.size (a7 w') lD 1 gq (.slice a (l.map g).length c) (l.map g))/\cO w.heap.size w w'):
  Calls P f args w λe' w'=>(∃y:Option Addr×Nat,e'= .returned (.slice y.1 r.length y.2)/\dw (a7 w) L (a7 w') (L++[fY lD 1 gq (.slice y.1 r.length y.2) r]))/\cO 0 w w':=by
 subst e;exact KK ay h
theorem IE {P:bB} {f:FuncId} {args:Array ad} {w:aG} {p:Prop} [Decidable p] (h:Calls P f args w λe w'=>e= .returned (.bool (decide p))/\cO w.heap.size w w') (hp:p):Calls P f args w λe w'=>e= .returned (.bool true)/\cO w.heap.size w w':=by
 rwa [gO hp] at h
end a1
namespace a1
namespace ZG
noncomputable def body:Code:=(Tryd.f8.body).getD .skip
def N:Nat:=149
noncomputable abbrev b9:=fu Tryd.prog Tryd.f8
def aZ:c6:={sl:=bm [],ms:=[],A:=start}
abbrev eT:=at' 149 [] [] body aZ
def cY:List bG:=[⟨.cells [I 0,I 0,I 0,I 1,I 1,I 4,.slice (some ⟨1,0,none⟩) 4 4],28,0⟩,⟨.cells [I 3,I 0,I 0,I 0],3,0⟩]
def c8:ax:=bm [(17,.agg ⟨[I 0,I 0,I 0,I 1,I 1,I 4,.slice (some ⟨1,0,none⟩) 4 4]⟩),(0,.bool false)]
def c0:ax:=(cK.set 0 depth c8 18).getD .nil
theorem b4:tC eT 3 18=some ([da [97,105,114],.bool false,.bool false,.bool false,I 1,I 0,I 0,I 0,da [115,116,111,110,101],.bool true,.bool false,.bool false,I 16,I 0,I 0,I 0,da [103,108,97,115,115],.bool true,.bool false,.bool false,I 1,I 0,I 0,I 0,da [108,97,109,112],.bool true,.bool false,.bool false,I 16,I 15,I 14,I 10,da [115,97,110,100],.bool true,.bool false,.bool true,I 16,I 0,I 0,I 0,da [119,97,116,101,114],.bool false,.bool true,.bool false,I 3,I 0,I 0,I 0,da [108,101,97,118,101,115],.bool true,.bool false,.bool false,I 2,I 0,I 0,I 0,da [101,109,98,101,114],.bool true,.bool false,.bool false,I 16,I 9,I 3,I 0,da [102,111,103],.bool false,.bool false,.bool false,I 2,I 0,I 0,I 0],9,9):=ag
theorem bs:bF (b0 eT) c8 cY=some []:=ag
theorem cw:cK.set 0 depth c8 18=some c0:=ag
abbrev h':=(lE {sl:=c0,ms:=[],A:=cS cY} eT)
def fm:List bG:=[]
def fT:ax:=bm [(18,0),(0,.bool false)]
def eO:ax:=(cK.set (.agg ⟨[I 0,I 0,I 0,I 1,I 1,I 4,1]⟩) depth fT 17).getD .nil
theorem dD:KM h' 1 17 6=some ([I 3,I 0,I 0,I 0],4,4,[I 0,I 0,I 0,I 1,I 1,I 4,.slice (some ⟨1,0,none⟩) 4 4]):=ag
theorem hq:bF (b0 h') fT fm=some [(0,0)]:=ag
theorem ka:cK.set (.agg ⟨[I 0,I 0,I 0,I 1,I 1,I 4,.slice (some ⟨1,0,none⟩) 4 4].set 6 1⟩) depth fT 17=some eO:=ag
theorem gy:eW ((lE (aN eO fm) h'))=some (9,[.agg ⟨[I 0,I 0,I 0,I 1,I 1,I 4,1]⟩,0,.slice none 0 0,I 2]):=ag
abbrev lr:=(lE {sl:=eO,ms:=[],A:=cS fm} h')
def hF:List bG:=[]
def iG:ax:=bm [(0,.bool false)]
def fS:ax:=dS 149 iG 19 (.tuple ⟨[2,I 0]⟩)
theorem np:bF (b0 lr) iG hF=some []:=ag
def ht:ct:=(body,[1,0],3)
abbrev pc:=bD 149 [] [] ht {sl:=fS,ms:=[],A:=cS hF}
def kC:List bG:=[⟨.cells [I 0,I 0,I 0,I 1,I 1,I 4,.slice (some ⟨1,0,none⟩) 4 4],28,0⟩,⟨.cells [I 3,I 0,I 0,I 0],3,0⟩]
def lH:ax:=bm [(23,.agg ⟨[I 0,I 0,I 0,I 1,I 1,I 4,.slice (some ⟨1,0,none⟩) 4 4]⟩),(2,I 0),(1,2),(0,.bool false)]
def jt:ax:=(cK.set 3 depth lH 24).getD .nil
theorem xg:tC pc 3 24=some ([da [97,105,114],.bool false,.bool false,.bool false,I 1,I 0,I 0,I 0,da [115,116,111,110,101],.bool true,.bool false,.bool false,I 16,I 0,I 0,I 0,da [103,108,97,115,115],.bool true,.bool false,.bool false,I 1,I 0,I 0,I 0,da [108,97,109,112],.bool true,.bool false,.bool false,I 16,I 15,I 14,I 10,da [115,97,110,100],.bool true,.bool false,.bool true,I 16,I 0,I 0,I 0,da [119,97,116,101,114],.bool false,.bool true,.bool false,I 3,I 0,I 0,I 0,da [108,101,97,118,101,115],.bool true,.bool false,.bool false,I 2,I 0,I 0,I 0,da [101,109,98,101,114],.bool true,.bool false,.bool false,I 16,I 9,I 3,I 0,da [102,111,103],.bool false,.bool false,.bool false,I 2,I 0,I 0,I 0],9,9):=ag
theorem pg:bF (b0 pc) lH kC=some [(2,2)]:=ag
theorem sK:cK.set 3 depth lH 24=some jt:=ag
abbrev oo:=(lE {sl:=jt,ms:=[],A:=cS kC} pc)
def lh:List bG:=[]
def ml:ax:=bm [(24,3),(2,I 0),(1,2),(0,.bool false)]
def kf:ax:=(cK.set (.agg ⟨[I 0,I 0,I 0,I 1,I 1,I 4,4]⟩) depth ml 23).getD .nil
theorem ru:KM oo 1 23 6=some ([I 3,I 0,I 0,I 0],4,4,[I 0,I 0,I 0,I 1,I 1,I 4,.slice (some ⟨1,0,none⟩) 4 4]):=ag
theorem lW:bF (b0 oo) ml lh=some [(2,2),(3,3)]:=ag
theorem om:cK.set (.agg ⟨[I 0,I 0,I 0,I 1,I 1,I 4,.slice (some ⟨1,0,none⟩) 4 4].set 6 4⟩) depth ml 23=some kf:=ag
theorem nt:eW ((lE (aN kf lh) oo))=some (9,[.agg ⟨[I 0,I 0,I 0,I 1,I 1,I 4,4]⟩,3,.slice none 0 0,I 0]):=ag
abbrev uN:=(lE {sl:=kf,ms:=[],A:=cS lh} oo)
def mX:List bG:=[]
def pP:ax:=bm [(2,I 0),(1,2),(0,.bool false)]
def mY:ax:=dS 149 pP 25 (.tuple ⟨[.pointer none,I 1]⟩)
theorem sL:bF (b0 uN) pP mX=some [(2,2)]:=ag
def mF:ct:=(body,[1,1,0],3)
def cp:aU:=[(.bin .eql 34 2 (.pointer none),.bool false)]
theorem sG:eW (bD 149 cp [] mF (aN mY mX))=some (12,[2]):=ag
abbrev uO:=bD 149 cp [] mF {sl:=mY,ms:=[],A:=cS mX}
def nT:List bG:=[]
def pQ:ax:=bm [(1,2),(0,.bool false)]
def nU:ax:=dS 149 pQ 39 5
theorem ry:bF (b0 uO) pQ nT=some [(2,2)]:=ag
def nV:ct:=(body,[1,1,1,1,0],2)
theorem xe:eW (bD 149 [] [] nV (aN nU nT))=some (15,[2]):=ag
abbrev uP:=bD 149 [] [] nV {sl:=nU,ms:=[],A:=cS nT}
def mG:List bG:=[]
def pR:ax:=bm [(1,2),(0,.bool false)]
def mH:ax:=dS 149 pR 41 6
theorem RW:bF (b0 uP) pR mG=some [(2,2)]:=ag
def mm:ct:=(body,[1,1,1,1,1,0],2)
theorem PJ:eW (bD 149 [] [] mm (aN mH mG))=some (11,[2]):=ag
abbrev zq:=bD 149 [] [] mm {sl:=mH,ms:=[],A:=cS mG}
def sS:List bG:=[]
def tO:ax:=bm [(5,6),(1,2),(0,.bool false)]
def sT:ax:=dS 149 tO 43 (.bool true)
theorem zi:bF (b0 zq) tO sS=some [(2,2),(6,6)]:=ag
def sU:ct:=(body,[1,1,1,1,1,1,0],2)
theorem G9:eW (bD 149 [] [] sU (aN sT sS))=some (29,[6,I 0]):=ag
abbrev zs:=bD 149 [] [] sU {sl:=sT,ms:=[],A:=cS sS}
def sV:List bG:=[]
def tP:ax:=bm [(44,.bool true),(5,6),(1,2),(0,.bool false)]
def r1:ax:=dS 149 tP 46 7
theorem zj:bF (b0 zs) tP sV=some [(2,2),(6,6)]:=ag
def sW:ct:=(body,[1,1,1,1,1,1,0],5)
abbrev vN:=bD 149 [] [] sW {sl:=r1,ms:=[],A:=cS sV}
def pT:List bG:=[]
def sX:ax:=bm [(46,7),(44,.bool true),(5,6),(1,2),(0,.bool false)]
def pU:ax:=(cK.set 8 depth sX 47).getD .nil
theorem Qj:tC vN 0 47=some ([I 15,I 14,I 13,I 12],4,4):=ag
theorem zk:bF (b0 vN) sX pT=some [(2,2),(6,6),(7,7)]:=ag
theorem zl:cK.set 8 depth sX 47=some pU:=ag
theorem zm:eW ((lE (aN pU pT) vN))=some (28,[7,8]):=ag
abbrev zt:=(lE {sl:=pU,ms:=[],A:=cS pT} vN)
def sY:List bG:=[]
def tQ:ax:=bm [(44,.bool true),(5,6),(1,2),(0,.bool false)]
def sZ:ax:=dS 149 tQ 48 (.bool true)
theorem P3:bF (b0 zt) tQ sY=some [(2,2),(6,6)]:=ag
def s0:ct:=(body,[1,1,1,1,1,1,0],7)
theorem Ql:eW (bD 149 [] [] s0 (aN sZ sY))=some (29,[6,I 2]):=ag
abbrev CG:=bD 149 [] [] s0 {sl:=sZ,ms:=[],A:=cS sY}
def xj:List bG:=[]
def uu:ax:=bm [(50,.bool true),(5,6),(1,2),(0,.bool false)]
def xk:ax:=dS 149 uu 52 9
theorem Hm:bF (b0 CG) uu xj=some [(2,2),(6,6)]:=ag
def xl:ct:=(body,[1,1,1,1,1,1,0],11)
abbrev AU:=bD 149 [] [] xl {sl:=xk,ms:=[],A:=cS xj}
def yi:List bG:=[]
def zx:ax:=bm [(52,9),(50,.bool true),(5,6),(1,2),(0,.bool false)]
def yj:ax:=(cK.set 10 depth zx 53).getD .nil
theorem Hn:tC AU 0 53=some ([I 10,I 9,I 8,I 7],4,4):=ag
theorem aiY:bF (b0 AU) zx yi=some [(2,2),(6,6),(9,9)]:=ag
theorem RX:cK.set 10 depth zx 53=some yj:=ag
theorem Ih:eW ((lE (aN yj yi) AU))=some (28,[9,10]):=ag
abbrev HG:=(lE {sl:=yj,ms:=[],A:=cS yi} AU)
def xm:List bG:=[]
def AV:ax:=bm [(50,.bool true),(5,6),(1,2),(0,.bool false)]
def xn:ax:=dS 149 AV 54 (.bool true)
theorem HC:bF (b0 HG) AV xm=some [(2,2),(6,6)]:=ag
def vV:ct:=(body,[1,1,1,1,1,1,0],13)
theorem Ii:eW (bD 149 [] [] vV (aN xn xm))=some (29,[6,I 3]):=ag
abbrev HJ:=bD 149 [] [] vV {sl:=xn,ms:=[],A:=cS xm}
def yk:List bG:=[]
def AW:ax:=bm [(56,.bool true),(1,2),(0,.bool false)]
def yl:ax:=dS 149 AW 58 11
theorem Qp:bF (b0 HJ) AW yk=some [(2,2)]:=ag
def vW:ct:=(body,[1,1,1,1,1,1,0],17)
abbrev AX:=bD 149 [] [] vW {sl:=yl,ms:=[],A:=cS yk}
def zy:List bG:=[]
def zz:ax:=bm [(58,11),(56,.bool true),(1,2),(0,.bool false)]
def zA:ax:=(cK.set 12 depth zz 59).getD .nil
theorem aiZ:tC AX 0 59=some ([I 0,I 15,I 15,I 15],4,4):=ag
theorem Rr:bF (b0 AX) zz zy=some [(2,2),(11,11)]:=ag
theorem CH:cK.set 12 depth zz 59=some zA:=ag
theorem HE:eW ((lE (aN zA zy) AX))=some (28,[11,12]):=ag
abbrev Qz:=(lE {sl:=zA,ms:=[],A:=cS zy} AX)
def EB:List bG:=[]
def HL:ax:=bm [(56,.bool true),(1,2),(0,.bool false)]
def EC:ax:=dS 149 HL 60 (.bool true)
theorem ai0:bF (b0 Qz) HL EB=some [(2,2)]:=ag
def ED:ct:=(body,[1,1,1,1,1,1,0],19)
theorem HF:eW (bD 149 [] [] ED (aN EC EB))=some (18,[2,.agg ⟨[I 0,I 0,I 0]⟩,I 0]):=ag
abbrev QC:=bD 149 [] [] ED {sl:=EC,ms:=[],A:=cS EB}
def EE:List bG:=[]
def HN:ax:=bm [(6,.bool true),(1,2),(0,.bool false)]
def EF:ax:=dS 149 HN 64 (I 0)
theorem RY:bF (b0 QC) HN EE=some [(2,2)]:=ag
def EG:ct:=(body,[1,1,1,1,1,1,1,0],3)
theorem HI:eW (bD 149 [] [] EG (aN EF EE))=some (12,[2]):=ag
abbrev QF:=bD 149 [] [] EG {sl:=EF,ms:=[],A:=cS EE}
def EH:List bG:=[]
def HP:ax:=bm [(7,I 0),(6,.bool true),(1,2),(0,.bool false)]
def EI:ax:=dS 149 HP 66 13
theorem RZ:bF (b0 QF) HP EH=some [(2,2)]:=ag
def EJ:ct:=(body,[1,1,1,1,1,1,1,1,0],2)
theorem Qw:eW (bD 149 [] [] EJ (aN EI EH))=some (15,[2]):=ag
abbrev QJ:=bD 149 [] [] EJ {sl:=EI,ms:=[],A:=cS EH}
def CI:List bG:=[]
def HQ:ax:=bm [(8,13),(7,I 0),(6,.bool true),(1,2),(0,.bool false)]
def CJ:ax:=dS 149 HQ 68 14
theorem R0:bF (b0 QJ) HQ CI=some [(2,2),(13,13)]:=ag
def AY:ct:=(body,[1,1,1,1,1,1,1,1,1,0],2)
def dh:aU:=[(.bin .gtr 3 13 (I 0),.bool true)]
theorem QA:eW (bD 149 dh [] AY (aN CJ CI))=some (29,[14,I 0]):=ag
abbrev QM:=bD 149 dh [] AY {sl:=CJ,ms:=[],A:=cS CI}
def EK:List bG:=[]
def HR:ax:=bm [(75,.bool true),(9,14),(6,.bool true),(1,2),(0,.bool false)]
def EL:ax:=dS 149 HR 77 15
theorem R1:bF (b0 QM) HR EK=some [(2,2),(14,14)]:=ag
def EM:ct:=(body,[1,1,1,1,1,1,1,1,1,1,0],9)
abbrev EN:=bD 149 [] [] EM {sl:=EL,ms:=[],A:=cS EK}
def CK:List bG:=[]
def EO:ax:=bm [(77,15),(75,.bool true),(9,14),(6,.bool true),(1,2),(0,.bool false)]
def CL:ax:=(cK.set 16 depth EO 78).getD .nil
theorem QD:tC EN 0 78=some ([I 0,I 0,I 0,I 0],4,4):=ag
theorem ai1:bF (b0 EN) EO CK=some [(2,2),(14,14),(15,15)]:=ag
theorem ai2:cK.set 16 depth EO 78=some CL:=ag
theorem R2:eW ((lE (aN CL CK) EN))=some (28,[15,16]):=ag
abbrev QQ:=(lE {sl:=CL,ms:=[],A:=cS CK} EN)
def CM:List bG:=[]
def HS:ax:=bm [(75,.bool true),(9,14),(6,.bool true),(1,2),(0,.bool false)]
def CN:ax:=dS 149 HS 79 (.bool true)
theorem HO:bF (b0 QQ) HS CM=some [(2,2),(14,14)]:=ag
def CO:ct:=(body,[1,1,1,1,1,1,1,1,1,1,0],11)
theorem ai3:eW (bD 149 [] [] CO (aN CN CM))=some (29,[14,I 3]):=ag
abbrev QR:=bD 149 [] [] CO {sl:=CN,ms:=[],A:=cS CM}
def EP:List bG:=[]
def HT:ax:=bm [(81,.bool true),(6,.bool true),(1,2),(0,.bool false)]
def ER:ax:=dS 149 HT 83 17
theorem QI:bF (b0 QR) HT EP=some [(2,2)]:=ag
def CP:ct:=(body,[1,1,1,1,1,1,1,1,1,1,0],15)
abbrev ES:=bD 149 [] [] CP {sl:=ER,ms:=[],A:=cS EP}
def ET:List bG:=[]
def EU:ax:=bm [(83,17),(81,.bool true),(6,.bool true),(1,2),(0,.bool false)]
def EV:ax:=(cK.set 18 depth EU 84).getD .nil
theorem ai4:tC ES 0 84=some ([I 15,I 15,I 15,I 15],4,4):=ag
theorem ai5:bF (b0 ES) EU ET=some [(2,2),(17,17)]:=ag
theorem ai6:cK.set 18 depth EU 84=some EV:=ag
theorem QK:eW ((lE (aN EV ET) ES))=some (28,[17,18]):=ag
abbrev QU:=(lE {sl:=EV,ms:=[],A:=cS ET} ES)
def HV:List bG:=[]
def HW:ax:=bm [(81,.bool true),(6,.bool true),(1,2),(0,.bool false)]
def HX:ax:=dS 149 HW 85 (.bool true)
theorem QL:bF (b0 QU) HW HV=some [(2,2)]:=ag
def HY:ct:=(body,[1,1,1,1,1,1,1,1,1,1,0],17)
abbrev h5:=bD 149 [] [] HY {sl:=HX,ms:=[],A:=cS HV}
def R3:List bG:=[]
def R4:ax:=bm [(95,.agg ⟨[I 0,I 0,I 1]⟩),(94,2),(93,I 0),(90,I 0),(10,.bool true),(6,.bool true),(1,2),(0,.bool false)]
theorem ai7:(Ct Tryd.prog 149 8 [2,5] [(2,I 0),(5,I 0)] [] h5).isSome=true:=ag
theorem ai8:bF (Cu Tryd.prog 149 8 [2,5] [(2,I 0),(5,I 0)] [] h5) R4 R3=some [(2,2),(2,2)]:=ag
def R5:ax:=match vG 149 (hl h5) [(2,I 0),(5,I 0)] R4 with|some s=>s|none=> .nil
theorem ai9:vG 149 (hl h5) [(2,I 0),(5,I 0)] R4=some R5:=ag
theorem QN:En Tryd.prog 149 8 [2,5] [(2,I 0),(5,I 0)] [] h5 0 2=some (18,[.inl 2,.inl (.agg ⟨[I 0,I 0,I 1]⟩),.inl (I 3)]):=ag
theorem QO:En Tryd.prog 149 8 [2,5] [(2,I 0),(5,I 0)] [] h5 1 5=some (19,[.inl 2,.inl (.agg ⟨[I 0,I 0,I 1]⟩),.inl (.bool true)]):=ag
theorem ai':eW (AL 149 [] [] (y' 8 h5) (hl h5) (gi h5) (aN R5 R3))=some (18,[2,.agg ⟨[I 0,I 0,I 1]⟩,I 3]):=ag
abbrev ai_:=AL 149 [] [] (y' 8 h5) (hl h5) (gi h5) {sl:=R5,ms:=[],A:=cS R3}
def R6:List bG:=[]
def ZH:ax:=bm [(93,I 0),(90,I 0),(10,.bool true),(6,.bool true),(1,2),(0,.bool false)]
def R7:ax:=dS 149 ZH 96 (I 16)
theorem aja:bF (b0 ai_) ZH R6=some [(2,2)]:=ag
def R8:ct:=(body,[1,1,1,1,1,1,1,1,1,1,1,1,0],9)
theorem ajb:eW (bD 149 [] [] R8 (aN R7 R6))=some (18,[2,.agg ⟨[I 0,I 0,I 4]⟩,I 0]):=ag
abbrev ajc:=bD 149 [] [] R8 {sl:=R7,ms:=[],A:=cS R6}
def R9:List bG:=[]
def ZI:ax:=bm [(14,I 16),(13,I 0),(12,I 0),(10,.bool true),(6,.bool true),(1,2),(0,.bool false)]
def R':ax:=dS 149 ZI 99 (I 1)
theorem ajd:bF (b0 ajc) ZI R9=some [(2,2)]:=ag
def R_:ct:=(body,[1,1,1,1,1,1,1,1,1,1,1,1,1,0],3)
theorem aje:eW (bD 149 [] [] R_ (aN R' R9))=some (11,[2]):=ag
abbrev ajf:=bD 149 [] [] R_ {sl:=R',ms:=[],A:=cS R9}
def Sa:List bG:=[]
def ZJ:ax:=bm [(120,.bool true),(1,2),(0,.bool false)]
def Sb:ax:=dS 149 ZJ 122 (.bool false)
theorem QS:bF (b0 ajf) ZJ Sa=some [(2,2)]:=ag
def Sc:ct:=(body,[1,1,1,1,1,1,1,1,1,1,1,1,1,1,0],23)
theorem QT:eW (bD 149 [] [] Sc (aN Sb Sa))=some (10,[2,I 1]):=ag
abbrev ajg:=bD 149 [] [] Sc {sl:=Sb,ms:=[],A:=cS Sa}
def Sd:List bG:=[]
def ZK:ax:=bm [(130,.bool true),(1,2),(0,.bool false)]
def Se:ax:=dS 149 ZK 132 (I 1)
theorem ajh:bF (b0 ajg) ZK Sd=some [(2,2)]:=ag
def Sf:ct:=(body,[1,1,1,1,1,1,1,1,1,1,1,1,1,1,0],33)
theorem aji:eW (bD 149 [] [] Sf (aN Se Sd))=some (17,[2]):=ag
abbrev ajj:=bD 149 [] [] Sf {sl:=Se,ms:=[],A:=cS Sd}
def LN:List bG:=[]
def ZL:ax:=bm [(135,.bool true),(1,2),(0,.bool false)]
def LO:ax:=dS 149 ZL 137 19
theorem ajk:bF (b0 ajj) ZL LN=some [(2,2)]:=ag
def IG:ct:=(body,[1,1,1,1,1,1,1,1,1,1,1,1,1,1,0],38)
def d':aU:=[(.len #[30] 3 19,20),
 (.bin .eql 3 20 (I 4),.bool true)]
theorem ajl:eW (bD 149 d' [] IG (aN LO LN))=some (22,[2]):=ag
abbrev ajm:=bD 149 d' [] IG {sl:=LO,ms:=[],A:=cS LN}
def Sg:List bG:=[]
def ZM:ax:=bm [(141,.bool true),(0,.bool false)]
def Sh:ax:=dS 149 ZM 143 (.agg ⟨[22,23,24,25,26,27,21]⟩)
theorem ajn:bF (b0 ajm) ZM Sg=some []:=ag
def LP:ct:=(body,[1,1,1,1,1,1,1,1,1,1,1,1,1,1,0],44)
def eS:aU:=[(.cV 26 21 (I 1),28),
 (.bh 3 28,29),
 (.bin .eql 3 29 (I 3),.bool true)]
theorem ajo:b9 (bD 149 eS [] LP (aN Sh Sg))=some (.bool true):=ag
def fq:aU:=[(.cV 26 21 (I 1),28),
 (.bh 3 28,29),
 (.bin .eql 3 29 (I 3),.bool false)]
theorem ajp:b9 (bD 149 fq [] LP (aN Sh Sg))=some (.bool false):=ag
def hs:aU:=[(.len #[30] 3 19,20),
 (.bin .eql 3 20 (I 4),.bool false)]
theorem ajq:b9 (bD 149 hs [] IG (aN LO LN))=some (.bool false):=ag
def hN:aU:=[(.bin .gtr 3 13 (I 0),.bool false)]
abbrev v7:=bD 149 hN [] AY {sl:=CJ,ms:=[],A:=cS CI}
def Si:List bG:=[]
def Sj:ax:=bm [(95,.agg ⟨[I 0,I 0,I 1]⟩),(94,2),(93,I 0),(90,I 0),(10,.bool false),(6,.bool true),(1,2),(0,.bool false)]
theorem ajr:(Ct Tryd.prog 149 8 [2,5] [(2,I 0),(5,I 0)] [] v7).isSome=true:=ag
theorem ajs:bF (Cu Tryd.prog 149 8 [2,5] [(2,I 0),(5,I 0)] [] v7) Sj Si=some [(2,2),(2,2)]:=ag
def Sk:ax:=match vG 149 (hl v7) [(2,I 0),(5,I 0)] Sj with|some s=>s|none=> .nil
theorem ajt:vG 149 (hl v7) [(2,I 0),(5,I 0)] Sj=some Sk:=ag
theorem aju:En Tryd.prog 149 8 [2,5] [(2,I 0),(5,I 0)] [] v7 0 2=some (18,[.inl 2,.inl (.agg ⟨[I 0,I 0,I 1]⟩),.inl (I 3)]):=ag
theorem ajv:En Tryd.prog 149 8 [2,5] [(2,I 0),(5,I 0)] [] v7 1 5=some (19,[.inl 2,.inl (.agg ⟨[I 0,I 0,I 1]⟩),.inl (.bool true)]):=ag
theorem ajw:eW (AL 149 [] [] (y' 8 v7) (hl v7) (gi v7) (aN Sk Si))=some (18,[2,.agg ⟨[I 0,I 0,I 1]⟩,I 3]):=ag
abbrev ajx:=AL 149 [] [] (y' 8 v7) (hl v7) (gi v7) {sl:=Sk,ms:=[],A:=cS Si}
def Sl:List bG:=[]
def ZN:ax:=bm [(93,I 0),(90,I 0),(10,.bool false),(6,.bool true),(1,2),(0,.bool false)]
def Sm:ax:=dS 149 ZN 96 (I 16)
theorem ajy:bF (b0 ajx) ZN Sl=some [(2,2)]:=ag
def Sn:ct:=(body,[1,1,1,1,1,1,1,1,1,1,1,1,0],9)
theorem ajz:eW (bD 149 [] [] Sn (aN Sm Sl))=some (18,[2,.agg ⟨[I 0,I 0,I 4]⟩,I 0]):=ag
abbrev ajA:=bD 149 [] [] Sn {sl:=Sm,ms:=[],A:=cS Sl}
def ZO:List bG:=[]
def ZP:ax:=bm [(14,I 16),(13,I 0),(12,I 0),(10,.bool false),(6,.bool true),(1,2),(0,.bool false)]
def ZQ:ax:=dS 149 ZP 99 (I 1)
theorem ajB:bF (b0 ajA) ZP ZO=some [(2,2)]:=ag
def ZR:ct:=(body,[1,1,1,1,1,1,1,1,1,1,1,1,1,0],3)
theorem ajC:b9 (bD 149 [] [] ZR (aN ZQ ZO))=some (.bool false):=ag
@[reducible] noncomputable def a6 (cJ:Nat:=0) (g1:Nat:=0) (ff:Nat:=0) (g3:Nat:=0) (g4:Nat:=0) (jB:bH:=none) (jC:Nat:=0) (k7:bH:=none) (k8:Nat:=0) (mq:Nat:=0) (na:bH:=none) (nb:Nat:=0) (ny:Nat:=0) (oz:bH:=none) (oA:Nat:=0) (oW:Nat:=0) (qS:bH:=none) (qT:Nat:=0) (tZ:bH:=none) (t':Nat:=0) (u3:Nat:=0) (xv:bH:=none) (xw:Nat:=0) (yr:Nat:=0) (Sp:bH:=none) (Sq:Nat:=0) (Sr:bH:=none) (Ss:Nat:=0):List ad:=[.slice (some ⟨cJ,0,none⟩) 9 9,.slice (some ⟨g1,0,none⟩) 4 4,bj ff 0,.slice (some ⟨g3,0,none⟩) 9 9,.slice (some ⟨g4,0,none⟩) 4 4,I (((r_ Dj):Nat):Int),aO jB tY.u.au jC,.slice k7 [15,14,13,12].length k8,.slice (some ⟨mq,0,none⟩) 4 4,.slice na [10,9,8,7].length nb,.slice (some ⟨ny,0,none⟩) 4 4,.slice oz [0,15,15,15].length oA,.slice (some ⟨oW,0,none⟩) 4 4,I (((r_ E6):Nat):Int),aO qS oV.u.au qT,.slice tZ [0,0,0,0].length t',.slice (some ⟨u3,0,none⟩) 4 4,.slice xv [15,15,15,15].length xw,.slice (some ⟨yr,0,none⟩) 4 4,aO Sp sa.known Sq,I ((sa.known.length:Nat):Int),aO Sr sa.cells Ss,I xu.1,I xu.2.1,I xu.2.2.1,I xu.2.2.2.1,I xu.2.2.2.2.1,I xu.2.2.2.2.2,fM (aO Sr sa.cells Ss) (1*1),I (sa.cells.getD (1) default)]
theorem any (W:aG) (d_:oH (a7 W)):Calls Tryd.prog 8 #[] W λe w'=>e= .returned (.bool true)/\cO W.heap.size W w':=by
 refine @WN (bc (a7 W) a6) _ _ _ _ body aZ N [] (N4 W _) Tryd.func8 (λa ae=> ?_) ag ag ag ag;letI:=bE ae;have a_:=cC.q_ W;refine br [] [] aB aC ?_ ae;refine vC (enc:=js) (xs:=[(([97,105,114]:gx),false,false,false,1,0,0,0),(([115,116,111,110,101]:gx),true,false,false,16,0,0,0),(([103,108,97,115,115]:gx),true,false,false,1,0,0,0),(([108,97,109,112]:gx),true,false,false,16,15,14,10),(([115,97,110,100]:gx),true,false,true,16,0,0,0),(([119,97,116,101,114]:gx),false,true,false,3,0,0,0),(([108,101,97,118,101,115]:gx),true,false,false,2,0,0,0),(([101,109,98,101,114]:gx),true,false,false,16,9,3,0),(([102,111,103]:gx),false,false,false,2,0,0,0)]) (q:=0) (bC:=λfh=>(a6 fh)) b4 B' rfl aL aL J J (h3 rfl) bs (λ_ _=>yT) cw (λ_=>rfl) ?_;intro fN cJ G_ af6 PM gb hh;have bP:=a_.new (tD G_ PM gb hh);letI:=bE ae;refine WG (enc:=gq) (xs:=[3,0,0,0]) (q:=1) (mV:=6) (bC:=λfh=>(a6 cJ fh)) dD j2 rfl aL aL J J (h3 rfl) hq (λ_ _=>b7) ka (λ_=>rfl) ?_;intro hr g1 qz sk Cz lU iL;have dK:=bP.new (tD qz Cz lU iL);letI:=bE ae;refine e5 (Y:=Nat×fx) (bC:=λaF=>(a6 cJ g1 (aF.1))) dK [1,0] (λaF=>[_,_]) (λaF=>[dF (aF.1) (aF.2) Dj]) gy np (cF fS (.tuple ⟨[2,I 0]⟩)) (ez:=λw hw cM ay=>ZE ay (cells:=[3,0,0,0]) (b:=xu) (table:=Iw) (known:=[]) (ay.red 0 rfl) (ay.red 1 rfl) (dr.nil _ _) (d_.mono λi o h=>hw i o (dK.ext i o h)) aL rfl aL aL Zv) (rest:= ?_);intro fU ⟨ff,alF⟩ dE ch w ae;replace dE:=dE.uK;letI:=bE ae;refine cm (cn ht) [] [] aB aC ?_ ae;refine vC (enc:=js) (xs:=[(([97,105,114]:gx),false,false,false,1,0,0,0),(([115,116,111,110,101]:gx),true,false,false,16,0,0,0),(([103,108,97,115,115]:gx),true,false,false,1,0,0,0),(([108,97,109,112]:gx),true,false,false,16,15,14,10),(([115,97,110,100]:gx),true,false,true,16,0,0,0),(([119,97,116,101,114]:gx),false,true,false,3,0,0,0),(([108,101,97,118,101,115]:gx),true,false,false,2,0,0,0),(([101,109,98,101,114]:gx),true,false,false,16,9,3,0),(([102,111,103]:gx),false,false,false,2,0,0,0)]) (q:=3) (bC:=λfh=>(a6 cJ g1 ff fh)) xg B' rfl aL aL J J (h3 rfl) pg (λ_ _=>b7) sK (λ_=>rfl) ?_;intro vL g3 ajD alG ajE uR XP;have gV:=dE.new (tD ajD ajE uR XP);letI:=bE ae;refine WG (enc:=gq) (xs:=[3,0,0,0]) (q:=4) (mV:=6) (bC:=λfh=>(a6 cJ g1 ff g3 fh)) ru j2 rfl aL aL J J (h3 rfl) lW (λ_ _=>b7) om (λ_=>rfl) ?_;intro jy g4 Ho aid Rv jh oQ;have ek:=gV.new (tD Ho Rv jh oQ);letI:=bE ae;refine e5 (Y:=Unit) (bC:=λaF=>(a6 cJ g1 ff g3 g4)) ek [4,3] (λ_=>[_,_]) (λ_=>[]) nt sL (cF mY (.tuple ⟨[.pointer none,I 1]⟩)) (ez:=λw hw cM ay=>ZF ay (cells:=[3,0,0,0]) (b:=xu) (table:=Iw) (known:=[]) (ay.red 0 rfl) (ay.red 1 rfl) (dr.nil _ _) (d_.mono λi o h=>hw i o (ek.ext i o h)) aL rfl aL aL aiK) (rest:= ?_);intro CD _ k5 ch w ae;replace k5:=k5.qj;letI:=bE ae;refine cm (cn mF) cp [] (U (aW.WL rfl ag rfl) aB) aC ?_ ae;refine e5 (Y:=fx) (bC:=λaF=>(a6 cJ g1 ff g3 g4)) k5 [2] (λaF=>[dF ff (aF) tY]) (λ_=>[]) sG ry (cF nU 5) (ez:=λw hw cM ay=>IA ay RO J J) (rest:= ?_);intro Hr alH nX ch w ae;replace nX:=nX.qj;letI:=bE ae;refine cm (cn nV) [] [] aB aC ?_ ae;refine e5 (Y:=fa) (bC:=λaF=>(a6 cJ g1 ff g3 g4 aF.1 aF.2)) nX [2] (λaF=>[_]) (λaF=>[AM aF.1 tY.u.au aF.2]) xe RW (cF mH 6) (ez:=λw hw cM ay=>Zd _ ay (by rw[LL];decide)) (rest:= ?_);intro P7 ⟨jB,jC⟩ ph ch w ae;replace ph:=ph.yc;letI:=bE ae;refine cm (cn mm) [] [] aB aC ?_ ae;refine e5 (Y:=Unit) (bC:=λaF=>(a6 cJ g1 ff g3 g4 jB jC)) ph [2] (λ_=>[_]) (λ_=>[]) PJ zi (cF sT (.bool true)) (ez:=λw hw cM ay=>IB ay aiQ) (rest:= ?_);intro P8 _ tR ch w ae;replace tR:=tR.yc;letI:=bE ae;refine cm (cn sU) [] [] aB aC ?_ ae;refine e5 (Y:=fa) (bC:=λaF=>(a6 cJ g1 ff g3 g4 jB jC aF.1 aF.2)) tR [5] (λaF=>[_]) (λaF=>[fY lD 1 gq (.slice aF.1 [15,14,13,12].length aF.2) [15,14,13,12]]) G9 zj (cF r1 7) (ez:=λw hw cM ay=>ID aiS ay (RM.any _ ((ay.arr 0 rfl).arr eH) (by rw[LL];decide))) (rest:= ?_);intro Y9 ⟨k7,k8⟩ C0 ch w ae;replace C0:=C0.KT;letI:=bE ae;refine cm (cn sW) [] [] aB aC ?_ ae;refine vC (enc:=gq) (xs:=[15,14,13,12]) (q:=8) (bC:=λfh=>(a6 cJ g1 ff g3 g4 jB jC k7 k8 fh)) Qj j2 rfl aL aL J J (h3 rfl) zk (λ_ _=>b7) zl (λ_=>rfl) ?_;intro alI mq ajF alJ ajG ajH ajI;have ajJ:=C0.new (tD ajF ajG ajH ajI);letI:=bE ae;refine e5 (Y:=Unit) (bC:=λaF=>(a6 cJ g1 ff g3 g4 jB jC k7 k8 mq)) ajJ [6,7] (λ_=>[_,_]) (λ_=>[]) zm P3 (cF sZ (.bool true)) (ez:=λw hw cM ay=>Eo ay (IE (E5.any _ ((ay.arr 0 rfl).arr j2) (ay.red 1 rfl) aL) rfl)) (rest:= ?_);intro alK _ St ch w ae;replace St:=St.G3;letI:=bE ae;refine cm (cn s0) [] [] aB aC ?_ ae;refine e5 (Y:=fa) (bC:=λaF=>(a6 cJ g1 ff g3 g4 jB jC k7 k8 mq aF.1 aF.2)) St [5] (λaF=>[_]) (λaF=>[fY lD 1 gq (.slice aF.1 [10,9,8,7].length aF.2) [10,9,8,7]]) Ql Hm (cF xk 9) (ez:=λw hw cM ay=>ID aiT ay (Zu.any _ ((ay.arr 0 rfl).arr eH) (by rw[LL];decide))) (rest:= ?_);intro alL ⟨na,nb⟩ Su ch w ae;replace Su:=Su.zg;letI:=bE ae;refine cm (cn xl) [] [] aB aC ?_ ae;refine vC (enc:=gq) (xs:=[10,9,8,7]) (q:=10) (bC:=λfh=>(a6 cJ g1 ff g3 g4 jB jC k7 k8 mq na nb fh)) Hn j2 rfl aL aL J J (h3 rfl) aiY (λ_ _=>b7) RX (λ_=>rfl) ?_;intro alM ny ajK alN ajL ajM ajN;have ajO:=Su.new (tD ajK ajL ajM ajN);letI:=bE ae;refine e5 (Y:=Unit) (bC:=λaF=>(a6 cJ g1 ff g3 g4 jB jC k7 k8 mq na nb ny)) ajO [8,9] (λ_=>[_,_]) (λ_=>[]) Ih HC (cF xn (.bool true)) (ez:=λw hw cM ay=>Eo ay (IE (E5.any _ ((ay.arr 0 rfl).arr j2) (ay.red 1 rfl) aL) rfl)) (rest:= ?_);intro alO _ Sv ch w ae;replace Sv:=Sv.WR;letI:=bE ae;refine cm (cn vV) [] [] aB aC ?_ ae;refine e5 (Y:=fa) (bC:=λaF=>(a6 cJ g1 ff g3 g4 jB jC k7 k8 mq na nb ny aF.1 aF.2)) Sv [5] (λaF=>[_]) (λaF=>[fY lD 1 gq (.slice aF.1 [0,15,15,15].length aF.2) [0,15,15,15]]) Ii Qp (cF yl 11) (ez:=λw hw cM ay=>ID aiU ay (RN.any _ ((ay.arr 0 rfl).arr eH) (by rw[LL];decide))) (rest:= ?_);intro alP ⟨oz,oA⟩ Sw ch w ae;replace Sw:=Sw.nq;letI:=bE ae;refine cm (cn vW) [] [] aB aC ?_ ae;refine vC (enc:=gq) (xs:=[0,15,15,15]) (q:=12) (bC:=λfh=>(a6 cJ g1 ff g3 g4 jB jC k7 k8 mq na nb ny oz oA fh)) aiZ j2 rfl aL aL J J (h3 rfl) Rr (λ_ _=>b7) CH (λ_=>rfl) ?_;intro alQ oW ajP alR ajQ ajR ajS;have ajT:=Sw.new (tD ajP ajQ ajR ajS);letI:=bE ae;refine e5 (Y:=Unit) (bC:=λaF=>(a6 cJ g1 ff g3 g4 jB jC k7 k8 mq na nb ny oz oA oW)) ajT [10,11] (λ_=>[_,_]) (λ_=>[]) HE ai0 (cF EC (.bool true)) (ez:=λw hw cM ay=>Eo ay (IE (E5.any _ ((ay.arr 0 rfl).arr j2) (ay.red 1 rfl) aL) rfl)) (rest:= ?_);intro alS _ Sx ch w ae;replace Sx:=Sx.vK;letI:=bE ae;refine cm (cn ED) [] [] aB aC ?_ ae;refine e5 (Y:=fx) (bC:=λaF=>(a6 cJ g1 ff g3 g4 jB jC k7 k8 mq na nb ny oz oA oW)) Sx [2] (λaF=>[dF ff (aF) E6]) (λ_=>[]) HF RY (cF EF (I 0)) (ez:=λw hw cM ay=>C2 ay (p:=(0,0,0)) Zw rfl aiM) (rest:= ?_);intro alT alU Sy ch w ae;replace Sy:=Sy.vK;letI:=bE ae;refine cm (cn EG) [] [] aB aC ?_ ae;refine e5 (Y:=fx) (bC:=λaF=>(a6 cJ g1 ff g3 g4 jB jC k7 k8 mq na nb ny oz oA oW)) Sy [2] (λaF=>[dF ff (aF) oV]) (λ_=>[]) HI RZ (cF EI 13) (ez:=λw hw cM ay=>IA ay Zx J J) (rest:= ?_);intro alV yt Sz ch w ae;replace Sz:=Sz.vK;letI:=bE ae;refine cm (cn EJ) [] [] aB aC ?_ ae;refine e5 (Y:=fa) (bC:=λaF=>(a6 cJ g1 ff g3 g4 jB jC k7 k8 mq na nb ny oz oA oW aF.1 aF.2)) Sz [2] (λaF=>[_]) (λaF=>[AM aF.1 oV.u.au aF.2]) Qw R0 (cF CJ 14) (ez:=λw hw cM ay=>Zd _ ay (by rw[RR];decide)) (rest:= ?_);intro alW ⟨qS,qT⟩ II ch w ae;replace II:=II.Es;letI:=bE ae;by_cases z0:0<(((r_ E6):Nat):Int)
 ·refine cm (cn AY) dh [] (U bf aB) aC ?_ ae
  refine e5 (Y:=fa) (bC:=λaF=>(a6 cJ g1 ff g3 g4 jB jC k7 k8 mq na nb ny oz oA oW qS qT aF.1 aF.2)) II [12] (λaF=>[_]) (λaF=>[fY lD 1 gq (.slice aF.1 [0,0,0,0].length aF.2) [0,0,0,0]]) QA R1 (cF EL 15) (ez:=λw hw cM ay=>ID aiV ay (RM.any _ ((ay.arr 0 rfl).arr eH) (by rw[RR];decide))) (rest:= ?_);intro ajU ⟨tZ,t'⟩ C3 ch w ae;replace C3:=C3.PD;letI:=bE ae;refine cm (cn EM) [] [] aB aC ?_ ae;refine vC (enc:=gq) (xs:=[0,0,0,0]) (q:=16) (bC:=λfh=>(a6 cJ g1 ff g3 g4 jB jC k7 k8 mq na nb ny oz oA oW qS qT tZ t' fh)) QD j2 rfl aL aL J J (h3 rfl) ai1 (λ_ _=>b7) ai2 (λ_=>rfl) ?_;intro alX u3 ajV alY ajW ajX ajY;have ajZ:=C3.new (tD ajV ajW ajX ajY);letI:=bE ae;refine e5 (Y:=Unit) (bC:=λaF=>(a6 cJ g1 ff g3 g4 jB jC k7 k8 mq na nb ny oz oA oW qS qT tZ t' u3)) ajZ [13,14] (λ_=>[_,_]) (λ_=>[]) R2 HO (cF CN (.bool true)) (ez:=λw hw cM ay=>Eo ay (IE (E5.any _ ((ay.arr 0 rfl).arr j2) (ay.red 1 rfl) aL) rfl)) (rest:= ?_);intro aj0 _ C4 ch w ae;replace C4:=C4.afQ;letI:=bE ae;refine cm (cn CO) [] [] aB aC ?_ ae;refine e5 (Y:=fa) (bC:=λaF=>(a6 cJ g1 ff g3 g4 jB jC k7 k8 mq na nb ny oz oA oW qS qT tZ t' u3 aF.1 aF.2)) C4 [12] (λaF=>[_]) (λaF=>[fY lD 1 gq (.slice aF.1 [15,15,15,15].length aF.2) [15,15,15,15]]) ai3 QI (cF ER 17) (ez:=λw hw cM ay=>ID aiW ay (RN.any _ ((ay.arr 0 rfl).arr eH) (by rw[RR];decide))) (rest:= ?_);intro aj1 ⟨xv,xw⟩ E7 ch w ae;replace E7:=E7.afR;letI:=bE ae;refine cm (cn CP) [] [] aB aC ?_ ae;refine vC (enc:=gq) (xs:=[15,15,15,15]) (q:=18) (bC:=λfh=>(a6 cJ g1 ff g3 g4 jB jC k7 k8 mq na nb ny oz oA oW qS qT tZ t' u3 xv xw fh)) ai4 j2 rfl aL aL J J (h3 rfl) ai5 (λ_ _=>b7) ai6 (λ_=>rfl) ?_;intro alZ yr aj2 al0 aj3 aj4 aj5;have aj6:=E7.new (tD aj2 aj3 aj4 aj5);letI:=bE ae;refine e5 (Y:=Unit) (bC:=λaF=>(a6 cJ g1 ff g3 g4 jB jC k7 k8 mq na nb ny oz oA oW qS qT tZ t' u3 xv xw yr)) aj6 [15,16] (λ_=>[_,_]) (λ_=>[]) QK QL (cF HX (.bool true)) (ez:=λw hw cM ay=>Eo ay (IE (E5.any _ ((ay.arr 0 rfl).arr j2) (ay.red 1 rfl) aL) rfl)) (rest:= ?_);intro al1 _ LQ ch w ae;replace LQ:=LQ.Et;letI:=bE ae;refine cm (cn HY) [] [] aB aC ?_ ae;refine WM (Y:=fx×fx) (bC:=λaF=>(a6 cJ g1 ff g3 g4 jB jC k7 k8 mq na nb ny oz oA oW qS qT tZ t' u3 xv xw yr)) (m:=8) (eB:=[(2,I 0),(5,I 0)]) (cs:=[(2,I 0),(5,I 0)]) (kv:=[]) (c2:=[2,5]) (L:=(λhU aF=>bif Nat.beq hU 0 then [dF ff yt oV] else bif Nat.beq hU 1 then [dF ff (aF.1) pY] else bif Nat.beq hU 2 then [dF ff (aF.2) k9] else [])) (rv:=(λhU aF=>bif Nat.beq hU 0 then I 0 else bif Nat.beq hU 1 then I 0 else .bool false)) (cL:=[dF ff yt oV]) LQ [2] J J J mixed ai7 aL (default,default) rfl (lG.cons (KR (rv:=(λhU aF=>bif Nat.beq hU 0 then I 0 else bif Nat.beq hU 1 then I 0 else .bool false)) (k:=0) (u:=I 0) J J (λ_=>rfl)) (lG.cons (KR (rv:=(λhU aF=>bif Nat.beq hU 0 then I 0 else bif Nat.beq hU 1 then I 0 else .bool false)) (k:=1) (u:=I 0) J J (λ_=>rfl)) lG.nil)) vH.nil (lG.cons (ya.KO QN rfl (λw aF gk cM zb=>by have kQ:dO (a7 w) [dF ff yt oV]:=zb;exact KP (rv:=(λhU aF=>bif Nat.beq hU 0 then I 0 else bif Nat.beq hU 1 then I 0 else .bool false)) (k:=0) (y:=aF) (tK:=(λhU aF=>bif Nat.beq hU 0 then [dF ff yt oV] else bif Nat.beq hU 1 then [dF ff (aF.1) pY] else bif Nat.beq hU 2 then [dF ff (aF.2) k9] else []) (0+1)) kQ [0] J J (λiW=>[dF ff (iW) pY]) (λiW=>[]) (λiW=>[dF ff (iW) pY]) (λ_=>rfl) (λ_=>rfl) (λiW=>(iW,aF.2)) (λ_=>rfl) (λ_=>rfl) (λiW=>KQ) (show Calls _ _ _ _ λb9 xx=>(∃iW:fx,b9= .returned (I 0)/\dw (a7 w) _ (a7 xx) ([dF ff (iW) pY]))/\cO 0 w xx from C2 (kQ.pick [0] rfl) (p:=(0,0,1)) RP rfl Zy))) (lG.cons (ya.KO QO rfl (λw aF gk cM zb=>by have kQ:dO (a7 w) [dF ff (aF.1) pY]:=zb;exact KP (rv:=(λhU aF=>bif Nat.beq hU 0 then I 0 else bif Nat.beq hU 1 then I 0 else .bool false)) (k:=1) (y:=aF) (tK:=(λhU aF=>bif Nat.beq hU 0 then [dF ff yt oV] else bif Nat.beq hU 1 then [dF ff (aF.1) pY] else bif Nat.beq hU 2 then [dF ff (aF.2) k9] else []) (1+1)) kQ [0] J J (λiW=>[dF ff (iW) k9]) (λiW=>[]) (λiW=>[dF ff (iW) k9]) (λ_=>rfl) (λ_=>rfl) (λiW=>(aF.1,iW)) (λ_=>rfl) (λ_=>rfl) (λiW=>(WK KQ rfl)) (show Calls _ _ _ _ λb9 xx=>(∃iW:fx,b9= .returned (I 0)/\dw (a7 w) _ (a7 xx) ([dF ff (iW) k9]))/\cO 0 w xx from ZD (kQ.pick [0] rfl) (p:=(0,0,1)) RQ rfl Zz))) lG.nil)) ai8 ai9 rfl (λaF aS=>(lG.cons rfl (lG.cons rfl lG.nil))) (λ_ _=>b7) ?_;intro⟨al2,aj7⟩ al3 aj8 ch w ae;have SA:=LQ.put (L':=[dF ff aj7 k9]) (N:=[]) [2] J J aj8;replace SA:=SA.Et;letI:=bE ae;refine DU (F:=[]) (T:=[]) (bN:=1000) (d:=10) mixed aB aC ?_ ae;refine e5 (Y:=fx) (bC:=λaF=>(a6 cJ g1 ff g3 g4 jB jC k7 k8 mq na nb ny oz oA oW qS qT tZ t' u3 xv xw yr)) SA [2] (λaF=>[dF ff (aF) k9]) (λ_=>[]) ai' aja (cF R7 (I 16)) (ez:=λw hw cM ay=>C2 ay (p:=(0,0,1)) Iz ZA RS) (rest:= ?_);intro al4 al5 SB ch w ae;replace SB:=SB.Et;letI:=bE ae;refine cm (cn R8) [] [] aB aC ?_ ae;refine e5 (Y:=fx) (bC:=λaF=>(a6 cJ g1 ff g3 g4 jB jC k7 k8 mq na nb ny oz oA oW qS qT tZ t' u3 xv xw yr)) SB [2] (λaF=>[dF ff (aF) k9]) (λ_=>[]) ajb ajd (cF R' (I 1)) (ez:=λw hw cM ay=>C2 ay (p:=(0,0,4)) Iz ZB RT) (rest:= ?_);intro al6 al7 SC ch w ae;replace SC:=SC.Et;letI:=bE ae;refine cm (cn R_) [] [] aB aC ?_ ae;refine e5 (Y:=Unit) (bC:=λaF=>(a6 cJ g1 ff g3 g4 jB jC k7 k8 mq na nb ny oz oA oW qS qT tZ t' u3 xv xw yr)) SC [2] (λ_=>[_]) (λ_=>[]) aje QS (cF Sb (.bool false)) (ez:=λw hw cM ay=>IC ay aiR) (rest:= ?_);intro al8 _ SD ch w ae;replace SD:=SD.Et;letI:=bE ae;refine cm (cn Sc) [] [] aB aC ?_ ae;refine e5 (Y:=fx) (bC:=λaF=>(a6 cJ g1 ff g3 g4 jB jC k7 k8 mq na nb ny oz oA oW qS qT tZ t' u3 xv xw yr)) SD [2] (λaF=>[dF ff (aF) sa]) (λ_=>[]) QT ajh (cF Se (I 1)) (ez:=λw hw cM ay=>RV ay Iz rfl (by rw[aiX];rfl)) (rest:= ?_);intro al9 al' SE ch w ae;replace SE:=SE.Et;letI:=bE ae;refine cm (cn Sf) [] [] aB aC ?_ ae;refine e5 (Y:=fa) (bC:=λaF=>(a6 cJ g1 ff g3 g4 jB jC k7 k8 mq na nb ny oz oA oW qS qT tZ t' u3 xv xw yr aF.1 aF.2)) SE [2] (λaF=>[_]) (λaF=>[uJ aF.1 sa.known aF.2]) aji ajk (cF LO 19) (ez:=λw hw cM ay=>aih _ ay (by rw[LM];decide)) (rest:= ?_);intro al_ ⟨Sp,Sq⟩ IJ ch w ae;replace IJ:=IJ.afS;letI:=bE ae;by_cases z0:((sa.known.length:Nat):Int)=4
  ·refine cm (cn IG) d' [] (U (e4 ((IJ.arr 17 rfl).arr h9) kA) (U bf aB)) aC ?_ ae
   have ama:sa.cells.length=4:=by exact ZC
   refine e5 (Y:=fa) (bC:=λaF=>(a6 cJ g1 ff g3 g4 jB jC k7 k8 mq na nb ny oz oA oW qS qT tZ t' u3 xv xw yr Sp Sq aF.1 aF.2)) IJ [2] (λaF=>[_]) (λaF=>[rp aF.1 sa.cells aF.2]) ajl ajn (cF Sh (.agg ⟨[22,23,24,25,26,27,21]⟩)) (ez:=λw hw cM ay=>aii _ ay (by rw[ZC];decide)) (rest:= ?_);intro amb ⟨Sr,Ss⟩ E8 ch w ae;replace E8:=E8.afT;letI:=bE ae;by_cases z0:(sa.cells.getD (1) default)=3
   ·refine cm (cn LP) eS [] (U (Cv ((E8.arr 18 rfl).arr j2) (show 1<sa.cells.length by omega) iD jO) (U (im 0 ((E8.arr 18 rfl).arr j2) (f_ 1) kz) (U bf aB))) aC ?_ ae
    exact b2 ajo λw2 bk=>(by rfl)
   ·refine cm (cn LP) fq [] (U (Cv ((E8.arr 18 rfl).arr j2) (show 1<sa.cells.length by omega) iD jO) (U (im 0 ((E8.arr 18 rfl).arr j2) (f_ 1) kz) (U a' aB))) aC ?_ ae
    exact b2 ajp λw2 bk=>(by (exfalso;have ZS:=wz;have LD:=LM;have Q7:=RU;omega))
  ·refine cm (cn IG) hs [] (U (e4 ((IJ.arr 17 rfl).arr h9) kA) (U a' aB)) aC ?_ ae
   exact b2 ajq λw2 bk=>(by (exfalso;have ZS:=wz;have LD:=LM;have Q7:=RU;omega))
 ·refine cm (cn AY) hN [] (U a' aB) aC ?_ ae
  refine WM (Y:=fx×fx) (bC:=λaF=>(a6 cJ g1 ff g3 g4 jB jC k7 k8 mq na nb ny oz oA oW qS qT none 0 0 none 0 0 none 0 none 0)) (m:=8) (eB:=[(2,I 0),(5,I 0)]) (cs:=[(2,I 0),(5,I 0)]) (kv:=[]) (c2:=[2,5]) (L:=(λhU aF=>bif Nat.beq hU 0 then [dF ff yt oV] else bif Nat.beq hU 1 then [dF ff (aF.1) pY] else bif Nat.beq hU 2 then [dF ff (aF.2) k9] else [])) (rv:=(λhU aF=>bif Nat.beq hU 0 then I 0 else bif Nat.beq hU 1 then I 0 else .bool false)) (cL:=[dF ff yt oV]) II [2] J J J mixed ajr aL (default,default) rfl (lG.cons (KR (rv:=(λhU aF=>bif Nat.beq hU 0 then I 0 else bif Nat.beq hU 1 then I 0 else .bool false)) (k:=0) (u:=I 0) J J (λ_=>rfl)) (lG.cons (KR (rv:=(λhU aF=>bif Nat.beq hU 0 then I 0 else bif Nat.beq hU 1 then I 0 else .bool false)) (k:=1) (u:=I 0) J J (λ_=>rfl)) lG.nil)) vH.nil (lG.cons (ya.KO aju rfl (λw aF gk cM zb=>by have kQ:dO (a7 w) [dF ff yt oV]:=zb;exact KP (rv:=(λhU aF=>bif Nat.beq hU 0 then I 0 else bif Nat.beq hU 1 then I 0 else .bool false)) (k:=0) (y:=aF) (tK:=(λhU aF=>bif Nat.beq hU 0 then [dF ff yt oV] else bif Nat.beq hU 1 then [dF ff (aF.1) pY] else bif Nat.beq hU 2 then [dF ff (aF.2) k9] else []) (0+1)) kQ [0] J J (λiW=>[dF ff (iW) pY]) (λiW=>[]) (λiW=>[dF ff (iW) pY]) (λ_=>rfl) (λ_=>rfl) (λiW=>(iW,aF.2)) (λ_=>rfl) (λ_=>rfl) (λiW=>KQ) (show Calls _ _ _ _ λb9 xx=>(∃iW:fx,b9= .returned (I 0)/\dw (a7 w) _ (a7 xx) ([dF ff (iW) pY]))/\cO 0 w xx from C2 (kQ.pick [0] rfl) (p:=(0,0,1)) RP rfl Zy))) (lG.cons (ya.KO ajv rfl (λw aF gk cM zb=>by have kQ:dO (a7 w) [dF ff (aF.1) pY]:=zb;exact KP (rv:=(λhU aF=>bif Nat.beq hU 0 then I 0 else bif Nat.beq hU 1 then I 0 else .bool false)) (k:=1) (y:=aF) (tK:=(λhU aF=>bif Nat.beq hU 0 then [dF ff yt oV] else bif Nat.beq hU 1 then [dF ff (aF.1) pY] else bif Nat.beq hU 2 then [dF ff (aF.2) k9] else []) (1+1)) kQ [0] J J (λiW=>[dF ff (iW) k9]) (λiW=>[]) (λiW=>[dF ff (iW) k9]) (λ_=>rfl) (λ_=>rfl) (λiW=>(aF.1,iW)) (λ_=>rfl) (λ_=>rfl) (λiW=>(WK KQ rfl)) (show Calls _ _ _ _ λb9 xx=>(∃iW:fx,b9= .returned (I 0)/\dw (a7 w) _ (a7 xx) ([dF ff (iW) k9]))/\cO 0 w xx from ZD (kQ.pick [0] rfl) (p:=(0,0,1)) RQ rfl Zz))) lG.nil)) ajs ajt rfl (λaF aS=>(lG.cons rfl (lG.cons rfl lG.nil))) (λ_ _=>b7) ?_;intro⟨amc,aj9⟩ ajU aj' ch w ae;have C3:=II.put (L':=[dF ff aj9 k9]) (N:=[]) [2] J J aj';replace C3:=C3.Es;letI:=bE ae;refine DU (F:=[]) (T:=[]) (bN:=1000) (d:=10) mixed aB aC ?_ ae;refine e5 (Y:=fx) (bC:=λaF=>(a6 cJ g1 ff g3 g4 jB jC k7 k8 mq na nb ny oz oA oW qS qT none 0 0 none 0 0 none 0 none 0)) C3 [2] (λaF=>[dF ff (aF) k9]) (λ_=>[]) ajw ajy (cF Sm (I 16)) (ez:=λw hw cM ay=>C2 ay (p:=(0,0,1)) Iz ZA RS) (rest:= ?_);intro aj0 amd C4 ch w ae;replace C4:=C4.Es;letI:=bE ae;refine cm (cn Sn) [] [] aB aC ?_ ae;refine e5 (Y:=fx) (bC:=λaF=>(a6 cJ g1 ff g3 g4 jB jC k7 k8 mq na nb ny oz oA oW qS qT none 0 0 none 0 0 none 0 none 0)) C4 [2] (λaF=>[dF ff (aF) k9]) (λ_=>[]) ajz ajB (cF ZQ (I 1)) (ez:=λw hw cM ay=>C2 ay (p:=(0,0,4)) Iz ZB RT) (rest:= ?_);intro aj1 ame E7 ch w ae;replace E7:=E7.Es;letI:=bE ae;refine cm (cn ZR) [] [] aB aC ?_ ae;exact b2 ajC λw2 bk=>(by (exfalso;have ZS:=wz;have LD:=LM;have Q7:=RU;omega))
end ZG
end a1
namespace a1
namespace SF
noncomputable def body:Code:=(Tryd.f13.body).getD .skip
def N:Nat:=33
noncomputable abbrev b9:=fu Tryd.prog Tryd.f13
def aZ:c6:={sl:=bm [(1,.agg ⟨[1,2,3,4,5,6]⟩),(0,0)],ms:=[],A:=start}
def bz:aU:=[(.bin .eql 3 1 (I 1),.bool true)]
theorem b4:eW (at' 33 bz [] body aZ)=some (18,[0,.agg ⟨[3,4,5]⟩,2]):=ag
abbrev eT:=at' 33 bz [] body aZ
def cY:List bG:=[]
def c8:ax:=bm [(4,I 0)]
def c0:ax:=dS 33 c8 14 7
theorem dD:bF (hQ Tryd.prog eT) c8 cY=some []:=ag
def c5:ct:=(body,[1,0,1,4,1,2,0],6)
theorem lA:b9 (bD 33 [] [] c5 (aN c0 cY))=some 7:=ag
def dh:aU:=[(.bin .eql 3 1 (I 1),.bool false),
 (.bin .eql 3 1 (I 2),.bool true)]
theorem np:eW (at' 33 dh [] body aZ)=some (19,[0,.agg ⟨[3,4,5]⟩,6]):=ag
abbrev h':=at' 33 dh [] body aZ
def fm:List bG:=[]
def fT:ax:=bm [(4,I 0)]
def eO:ax:=dS 33 fT 22 8
theorem jS:bF (hQ Tryd.prog h') fT fm=some []:=ag
def ga:ct:=(body,[1,0,1,4,1,3,1,2,0],6)
theorem ru:b9 (bD 33 [] [] ga (aN eO fm))=some 8:=ag
def d':aU:=[(.bin .eql 3 1 (I 1),.bool false),
 (.bin .eql 3 1 (I 2),.bool false),
 (.bin .eql 3 1 (I 3),.bool true)]
theorem lW:eW (at' 33 d' [] body aZ)=some (10,[0,2]):=ag
abbrev lr:=at' 33 d' [] body aZ
def hF:List bG:=[]
def iG:ax:=bm [(4,I 0)]
def fS:ax:=dS 33 iG 28 9
theorem ot:bF (hQ Tryd.prog lr) iG hF=some []:=ag
def ht:ct:=(body,[1,0,1,4,1,3,1,3,1,2],4)
theorem pd:b9 (bD 33 [] [] ht (aN fS hF))=some (I 0):=ag
def eS:aU:=[(.bin .eql 3 1 (I 1),.bool false),
 (.bin .eql 3 1 (I 2),.bool false),
 (.bin .eql 3 1 (I 3),.bool false),
 (.bin .eql 3 1 (I 4),.bool true)]
theorem qm:eW (at' 33 eS [] body aZ)=some (12,[0]):=ag
abbrev pc:=at' 33 eS [] body aZ
def kC:List bG:=[]
def lH:ax:=bm [(4,I 0)]
def jt:ax:=dS 33 lH 32 10
theorem sM:bF (hQ Tryd.prog pc) lH kC=some []:=ag
def k0:ct:=(body,[1,0,1,4,1,3,1,3,1,3,1,2],2)
theorem G6:b9 (bD 33 [] [] k0 (aN jt kC))=some (I 0):=ag
def fq:aU:=[(.bin .eql 3 1 (I 1),.bool false),
 (.bin .eql 3 1 (I 2),.bool false),
 (.bin .eql 3 1 (I 3),.bool false),
 (.bin .eql 3 1 (I 4),.bool false)]
theorem xe:b9 (at' 33 fq [] body aZ)=some (I 0):=ag
@[reducible] noncomputable def a6 (en:eD) (jX:Nat) (x:oU):List ad:=[bj jX 0,I x.1,I x.2.1,I x.2.2.1,I x.2.2.2.1,I x.2.2.2.2.1,.bool x.2.2.2.2.2,I (pV en.b en.most (x.2.2.1,x.2.2.2.1,x.2.2.2.2.1) en.u.reqs x.2.1),I (l4 en.b en.most (x.2.2.1,x.2.2.2.1,x.2.2.2.2.1) en.u.reqs),I (((i' en.table en.b x.2.1.toNat en.u).1:Nat):Int),I (((i' en.table en.b (iy en.b en.u) en.u).1:Nat):Int)]
theorem any (W:aG) {en:eD} {jX:Nat} {ym:fx} (gm:dO (a7 W) [dF jX ym en]) (x:oU) (fV:i_ en):Calls Tryd.prog 13 #[bj jX 0,Y.val x] W λe w'=>(∃A:fx,e= .returned (I (rE en x))/\dw (a7 W) [dF jX ym en] (a7 w') [dF jX A (nx en x)])/\cO 0 W w':=by
 refine lg (a6 en jX x) body aZ N [al 0,.agg ⟨[al 1,al 2,al 3,al 4,al 5,al 6]⟩] Tryd.func13 λa ae=> ?_
 letI:=bE ae;have a_:=cC.start W _ gm;by_cases bd:x.1=1
 ·refine br bz [] (U bf aB) aC ?_ ae
  obtain⟨r9,jA⟩:=ey (qR en (x.2.2.1,x.2.2.2.1,x.2.2.2.2.1) x.2.1);refine e5 (Y:=fx) (bC:=λaF=>(a6 en jX x)) a_ [0] (λaF=>[dF jX (aF) r9]) (λ_=>[]) b4 dD (cF c0 7) (ez:=λw hw cM ay=>by rw[jA];exact Ze _ ay (x.2.2.1,x.2.2.2.1,x.2.2.2.2.1) x.2.1 fV.r'.box fV.Ik fV.LF fV.LG) (rest:= ?_);intro fN CY bP ch w ae;replace bP:=bP.nR;letI:=bE ae;refine cm (cn c5) [] [] aB aC ?_ ae;exact b2 lA λw2 bk=>(by first|(obtain⟨q1,aI⟩:=E1 (e:=en) (x:=x) aY;rw[q1,aI];subst jA;exact⟨_,rfl,(bP.done bk)⟩)|(obtain⟨q1,aI⟩:=E2 (e:=en) (x:=x) aY aY;rw[q1,aI];subst jA;exact⟨_,rfl,(bP.done bk)⟩)|(obtain⟨q1,aI⟩:=Il (e:=en) (x:=x) aY aY aY;rw[q1,aI];subst jA;exact⟨_,rfl,(bP.done bk)⟩)|(obtain⟨q1,aI⟩:=Im (e:=en) (x:=x) aY aY aY aY;rw[q1,aI];subst jA;exact⟨_,rfl,(bP.done bk)⟩)|(obtain⟨q1,aI⟩:=Io (e:=en) (x:=x) aY aY aY aY;rw[q1,aI];exact⟨_,rfl,(bP.done bk)⟩))
 ·by_cases af:x.1=2
  ·refine br dh [] (U a' (U bf aB)) aC ?_ ae
   obtain⟨r9,jA⟩:=ey (tV en (x.2.2.1,x.2.2.2.1,x.2.2.2.2.1) x.2.2.2.2.2);refine e5 (Y:=fx) (bC:=λaF=>(a6 en jX x)) a_ [0] (λaF=>[dF jX (aF) r9]) (λ_=>[]) np jS (cF eO 8) (ez:=λw hw cM ay=>by rw[jA];exact Zf _ ay (x.2.2.1,x.2.2.2.1,x.2.2.2.2.1) x.2.2.2.2.2 fV.r'.box fV.Ik fV.LF fV.LG) (rest:= ?_);intro fN CY bP ch w ae;replace bP:=bP.nR;letI:=bE ae;refine cm (cn ga) [] [] aB aC ?_ ae;exact b2 ru λw2 bk=>(by first|(obtain⟨q1,aI⟩:=E1 (e:=en) (x:=x) aY;rw[q1,aI];subst jA;exact⟨_,rfl,(bP.done bk)⟩)|(obtain⟨q1,aI⟩:=E2 (e:=en) (x:=x) aY aY;rw[q1,aI];subst jA;exact⟨_,rfl,(bP.done bk)⟩)|(obtain⟨q1,aI⟩:=Il (e:=en) (x:=x) aY aY aY;rw[q1,aI];subst jA;exact⟨_,rfl,(bP.done bk)⟩)|(obtain⟨q1,aI⟩:=Im (e:=en) (x:=x) aY aY aY aY;rw[q1,aI];subst jA;exact⟨_,rfl,(bP.done bk)⟩)|(obtain⟨q1,aI⟩:=Io (e:=en) (x:=x) aY aY aY aY;rw[q1,aI];exact⟨_,rfl,(bP.done bk)⟩))
  ·by_cases ah:x.1=3
   ·refine br d' [] (U a' (U a' (U bf aB))) aC ?_ ae
    obtain⟨r9,jA⟩:=ey (ta en x.2.1);refine e5 (Y:=fx) (bC:=λaF=>(a6 en jX x)) a_ [0] (λaF=>[dF jX (aF) r9]) (λ_=>[]) lW ot (cF fS 9) (ez:=λw hw cM ay=>by rw[jA];exact Zb _ ay x.2.1 fV.r' fV.E0) (rest:= ?_);intro fN CY bP ch w ae;replace bP:=bP.nR;letI:=bE ae;refine cm (cn ht) [] [] aB aC ?_ ae;exact b2 pd λw2 bk=>(by first|(obtain⟨q1,aI⟩:=E1 (e:=en) (x:=x) aY;rw[q1,aI];subst jA;exact⟨_,rfl,(bP.done bk)⟩)|(obtain⟨q1,aI⟩:=E2 (e:=en) (x:=x) aY aY;rw[q1,aI];subst jA;exact⟨_,rfl,(bP.done bk)⟩)|(obtain⟨q1,aI⟩:=Il (e:=en) (x:=x) aY aY aY;rw[q1,aI];subst jA;exact⟨_,rfl,(bP.done bk)⟩)|(obtain⟨q1,aI⟩:=Im (e:=en) (x:=x) aY aY aY aY;rw[q1,aI];subst jA;exact⟨_,rfl,(bP.done bk)⟩)|(obtain⟨q1,aI⟩:=Io (e:=en) (x:=x) aY aY aY aY;rw[q1,aI];exact⟨_,rfl,(bP.done bk)⟩))
   ·by_cases aH:x.1=4
    ·refine br eS [] (U a' (U a' (U a' (U bf aB)))) aC ?_ ae
     obtain⟨r9,jA⟩:=ey (rD en);refine e5 (Y:=fx) (bC:=λaF=>(a6 en jX x)) a_ [0] (λaF=>[dF jX (aF) r9]) (λ_=>[]) qm sM (cF jt 10) (ez:=λw hw cM ay=>by rw[jA];exact Za _ ay fV.r' fV.E0) (rest:= ?_);intro fN CY bP ch w ae;replace bP:=bP.nR;letI:=bE ae;refine cm (cn k0) [] [] aB aC ?_ ae;exact b2 G6 λw2 bk=>(by first|(obtain⟨q1,aI⟩:=E1 (e:=en) (x:=x) aY;rw[q1,aI];subst jA;exact⟨_,rfl,(bP.done bk)⟩)|(obtain⟨q1,aI⟩:=E2 (e:=en) (x:=x) aY aY;rw[q1,aI];subst jA;exact⟨_,rfl,(bP.done bk)⟩)|(obtain⟨q1,aI⟩:=Il (e:=en) (x:=x) aY aY aY;rw[q1,aI];subst jA;exact⟨_,rfl,(bP.done bk)⟩)|(obtain⟨q1,aI⟩:=Im (e:=en) (x:=x) aY aY aY aY;rw[q1,aI];subst jA;exact⟨_,rfl,(bP.done bk)⟩)|(obtain⟨q1,aI⟩:=Io (e:=en) (x:=x) aY aY aY aY;rw[q1,aI];exact⟨_,rfl,(bP.done bk)⟩))
    ·refine br fq [] (U a' (U a' (U a' (U a' aB)))) aC ?_ ae
     exact b2 xe λw2 bk=>(by first|(obtain⟨q1,aI⟩:=E1 (e:=en) (x:=x) aY;rw[q1,aI];subst jA;exact⟨_,rfl,((a_.pick [0] rfl).done bk)⟩)|(obtain⟨q1,aI⟩:=E2 (e:=en) (x:=x) aY aY;rw[q1,aI];subst jA;exact⟨_,rfl,((a_.pick [0] rfl).done bk)⟩)|(obtain⟨q1,aI⟩:=Il (e:=en) (x:=x) aY aY aY;rw[q1,aI];subst jA;exact⟨_,rfl,((a_.pick [0] rfl).done bk)⟩)|(obtain⟨q1,aI⟩:=Im (e:=en) (x:=x) aY aY aY aY;rw[q1,aI];subst jA;exact⟨_,rfl,((a_.pick [0] rfl).done bk)⟩)|(obtain⟨q1,aI⟩:=Io (e:=en) (x:=x) aY aY aY aY;rw[q1,aI];exact⟨_,rfl,((a_.pick [0] rfl).done bk)⟩))
end SF
end a1
namespace a1
section
variable [bp]
theorem SG (d_:oH bp.dz):j0 Tryd.prog (8,[],.bool true):=
 kP (a:= #[]) J J J J λw hw=>ZG.any w (d_.mono hw)
variable {x y z q:ad} {b:cx} {cells:List Int} {table:List dx} {known:List Bool} {l:List oU} {a:Option Addr} {n c:Nat} {u v t:ad}
theorem aj_ (hp:fH [x,y,z,q]=true) (b5:fl [x,y,z,q]=[ov b (.slice a n c),u,v,t])
  (aA:dr bp.dz 1 gq (.slice a n c) cells) (bw:dr bp.dz 8 js u table) (ao:dr bp.dz 1 iw v known) (az:dr bp.dz 6 A7 t l) (iv:n=cells.length) (h:tX cells table known l.length):j0 Tryd.prog (7,[x,y,z,q],.bool true):=
 kP (a:= #[ov b (.slice a n c),u,v,t]) hp rfl b5 rfl λw hw=>(RL.any w (aA.mono hw) (bw.mono hw) (ao.mono hw) (az.mono hw) iv).mono λe w' gE=>by rw[gO h] at gE;exact gE
theorem aka (hp:fH [x,y,z,q]=true) (b5:fl [x,y,z,q]=[ov b (.slice a n c),u,v,t])
  (aA:dr bp.dz 1 gq (.slice a n c) cells) (bw:dr bp.dz 8 js u table) (ao:dr bp.dz 1 iw v known) (az:dr bp.dz 6 A7 t l) (iv:n=cells.length) (h:¬tX cells table known l.length):j0 Tryd.prog (7,[x,y,z,q],.bool false):=
 kP (a:= #[ov b (.slice a n c),u,v,t]) hp rfl b5 rfl λw hw=>(RL.any w (aA.mono hw) (bw.mono hw) (ao.mono hw) (az.mono hw) iv).mono λe w' gE=>by rw[dT h] at gE;exact gE
end
end a1
namespace a1
theorem akb {b:cx} {cells:List Int} {table:List dx} {known:List Bool} {most:Int} (h:qP b cells table known most) (aT:cells.length<=10000):(hG b).N=cells.length:=by
 have af:=(RG h aT).1;have ah:=af.Ik;have aH:(hG b).N=(gj b).toNat:=QZ af.r'.box;exact aH.trans ah.symm
def u4 (N R:Nat):Nat:=361*N+(365*N+2)*(R-1)
theorem akc {N R:Nat} (h:1<=R):u4 N (R+1)=u4 N R+(365*N+2):=by
 obtain⟨r,rfl⟩:∃r,R=r+1:=⟨R-1,aj⟩;unfold u4;rw[show r+1+1-1=r+1 by omega,show r+1-1=r by omega,Nat.mul_add];omega
theorem ZT {N R:Nat} (h:N<=120) (ah:R<=31):u4 N R<=2000000:=by
 have:(365*N+2)*(R-1)<=43802*30:=Nat.mul_le_mul aj aj;unfold u4;omega
theorem akd {N R:Nat} (h:1<=R):u4 N R<=500*(N+1)*R:=by
 obtain⟨r,rfl⟩:∃r,R=r+1:=⟨R-1,aj⟩;have af:(365*N+2)*r<=500*(N+1)*r:=Nat.mul_le_mul_right _ aj;unfold u4;rw[show r+1-1=r by omega,Nat.mul_add,Nat.mul_one];omega
theorem ake {N R:Nat} {fQ:Int} (h:1<=R) (qb:fQ<=((u4 N R:Nat):Int)):fQ<=(500*((N+1:Nat):Int))*((R:Nat):Int):=by
 have af:=akd (N:=N) h;have ah:((u4 N R:Nat):Int)<=((500*(N+1)*R:Nat):Int):=Int.ofNat_le.2 af;rw[Int.natCast_mul,Int.natCast_mul] at ah;exact Int.le_trans qb ah
theorem ZU {N R:Nat} (h:N<=120) (ah:R<=31):0<=(500*((N+1:Nat):Int))*((R:Nat):Int)/\(500*((N+1:Nat):Int))*((R:Nat):Int)<=2000000:=by
 have aH:500*(N+1)*R<=60500*31:=Nat.mul_le_mul aj ah;have ck:(500*((N+1:Nat):Int))*((R:Nat):Int)=((500*(N+1)*R:Nat):Int):=by rw[Int.natCast_mul,Int.natCast_mul];rfl
 omega
structure qq (b:cx) (N:Nat) (e:eD) (fQ R i:Nat):Prop where
 ok:i_ e
 reqs:e.u.reqs.length<=i
 c9:1<=R
 eF:R<=i+1
 box:e.b=b
 w:fQ+u2 e<=u4 N R
variable {b:cx} {N fQ R i:Nat} {e:eD}
theorem qq.akf (h:qq b N e fQ R i) (kN:N<=120) (ak:i<=30):fQ<=2000000/\1<=R/\R<=31:=by
 have af:=ZT (N:=N) (R:=R) kN (by have:=h.eF;omega);have ah:=h.w;have aH:=h.c9;have ck:=h.eF;exact⟨aj,aH,aj⟩
theorem qq.Iv (h:qq b N e fQ R i) (n:Int):qq b N (ta e n) (fQ+qp e n) R (i+1)/\qp e n<=n.toNat/\(qp e n<n.toNat->po (ta e n))/\fQ+qp e n<=u4 N R:=by
 obtain⟨q1,aI,bS,fo,iK⟩:=h.ok.Iv n;have ah:=h.w;have aH:=h.reqs;have ck:=h.eF;exact⟨⟨q1,aj,h.c9,aj,h.box,aj⟩,aI,bS,aj⟩
theorem qq.set (h:qq b N e fQ R i):qq b N (rD e) (fQ+r_ e) R (i+1)/\po (rD e)/\fQ+r_ e<=u4 N R:=by
 obtain⟨q1,aI,fo,iK⟩:=h.ok.set;have ah:=h.w;have aH:=h.reqs;have ck:=h.eF;exact⟨⟨q1,aj,h.c9,aj,h.box,aj⟩,aI,aj⟩
theorem qq.skip (h:qq b N e fQ R i):qq b N e fQ R (i+1):=by
 have aH:=h.reqs;have ck:=h.eF;exact⟨h.ok,aj,h.c9,aj,h.box,h.w⟩
theorem qq.RF (h:qq b N e fQ R i) (ak:i<=30) (kN:(hG b).N=N) {x:oU} (aw:x.1=1\/x.1=2):(rE e x=0->qq b N (nx e x) fQ (R+1) (i+1)/\¬po (nx e x))/\(rE e x≠0->qq b N (nx e x) fQ R (i+1)):=by
 have aH:=h.reqs;have ck:=h.eF;have ar:e.u.reqs.length<10000:=by omega
 obtain⟨q1,aI⟩:=h.ok.do ar x
 obtain⟨c9,eF⟩:=h.ok.RF ar aw;refine⟨λbd=> ?_,λbd=> ?_⟩
 ·obtain⟨s1,s2⟩:=c9 bd
  refine⟨⟨q1,aj,aj,aj,(aiD e x).1.trans h.box,?_⟩,λay=> ?_⟩
  ·have ah:=h.w
   have ai:=h.box;rw[akc h.c9,s2,ai,kN];unfold qH;omega
  ·have:=ay.2.2
   omega
 ·rw[eF bd]
  exact h.skip
theorem qq.begin {cells:List Int} {table:List dx} {known:List Bool} {most:Int} (h:qP b cells table known most) (aT:cells.length<=10000):qq b cells.length (n1 b cells table known most) 0 1 0:=by
 obtain⟨q1,aI⟩:=RG h aT;refine⟨q1,c4 _,c4 _,c4 _,rfl,?_⟩;unfold u4;omega
end a1
namespace a1
namespace ZV
noncomputable def body:Code:=(Tryd.f3.body).getD .skip
def N:Nat:=128
noncomputable abbrev b9:=fu Tryd.prog Tryd.f3
def aZ:c6:={sl:=bm [(4,3),(3,2),(2,1),(1,0),(0,.agg ⟨[4,5,6,7,8,9,10]⟩)],ms:=[],A:=start}
def h2:dm:=[(7,[.agg ⟨[4,5,6,7,8,9,10]⟩,0,1,2],.bool true)]
theorem b4:eW (at' 128 [] h2 body aZ)=some (9,[.agg ⟨[4,5,6,7,8,9,10]⟩,0,1,I 100]):=ag
abbrev eT:=at' 128 [] h2 body aZ
def cY:List bG:=[⟨.cells [4,5,6,7,8,9,10],28,0⟩]
def c8:ax:=bm [(10,.bool false),(5,bj 0 0),(4,3),(3,2)]
def c0:ax:=dS 128 c8 29 (.tuple ⟨[11,I 0]⟩)
theorem dD:bF (b0 eT) c8 cY=some [(2,2),(3,3),(4,4),(5,5),(6,6),(7,7),(8,8),(9,9),(10,10)]:=ag
def c5:ct:=(body,[1,1,0],4)
def cp:aU:=[(.bin .eql 34 11 (.pointer none),.bool false),
 (.len #[31] 3 2,12)]
def bt:List bG:=[⟨.cells [4,5,6,7,8,9,10],28,0⟩]
def cl:ax:=bm [(45,15),(44,12),(43,2),(14,14),(13,13),(11,11),(5,bj 0 0),(4,3)]
abbrev fG:=bD 128 cp [] c5 {sl:=c0,ms:=[],A:=cS cY}
theorem lA:mi cl bt fG=some [(11,11),(2,2),(I 0,13),(I 0,15),(3,3),(12,12),(I 1,14),(4,4),(5,5),(6,6),(7,7),(8,8),(9,9),(10,10)]:=ag
def bY:Code:=nJ body [1,1,1,1,1,0,1,4]
def fJ:List hj:=lp body [1,1,1,1,1,0,1,4] []
theorem np:lP fG=bY:=ag
theorem k2:gi fG=fJ:=ag
def dh:aU:=[(.bin .lss 3 15 12,.bool true),
 (.cV 31 2 15,16),
 (.bh 39 16,.agg ⟨[17,18,19,20,21,22]⟩),
 (.bin .eql 3 17 (I 3),.bool true)]
theorem lV:eW (at' 128 dh [] bY (aN cl bt))=some (10,[11,18]):=ag
abbrev h':=at' 128 dh [] bY (aN cl bt)
def fm:List bG:=[⟨.cells [4,5,6,7,8,9,10],28,0⟩,⟨.cells [17,18,19,20,21,22],39,0⟩]
def fT:ax:=bm [(45,15),(44,12),(43,2),(16,bj 1 0),(14,14),(13,13),(11,11),(5,bj 0 0),(4,3)]
def eO:ax:=dS 128 fT 56 24
theorem xg:bF (hQ Tryd.prog h') fT fm=some [(11,11),(2,2),(13,13),(15,15),(3,3),(12,12),(14,14),(4,4),(5,5),(6,6),(7,7),(8,8),(9,9),(10,10),(17,17),(18,18),(19,19),(20,20),(21,21),(22,22)]:=ag
def ga:ct:=(bY,[1,1,0,4,1,1,4,1,2,0],4)
def d':aU:=[(.bin .lss 3 24 (I 0),.bool false),
 (.eZ #[3,3] 3 18 (I 0),25),
 (.bin .gtr 3 24 25,.bool true)]
theorem om:b9 (jf 128 [] [] fJ (bD 128 d' [] ga (aN eO fm)))=some (.bool false):=ag
def fq:aU:=[(.bin .lss 3 24 (I 0),.bool false),
 (.eZ #[3,3] 3 18 (I 0),25),
 (.bin .gtr 3 24 25,.bool false),
 (.bin .lss 3 24 18,.bool true)]
theorem nt:eW (bD 128 fq [] ga (aN eO fm))=some (11,[11]):=ag
abbrev lr:=bD 128 fq [] ga {sl:=eO,ms:=[],A:=cS fm}
def hF:List bG:=[⟨.cells [4,5,6,7,8,9,10],28,0⟩]
def iG:ax:=bm [(71,.bool true),(66,.bool false),(45,15),(44,12),(43,2),(17,24),(14,14),(13,13),(11,11),(5,bj 0 0),(4,3)]
def fS:ax:=dS 128 iG 73 (.bool true)
theorem sL:bF (b0 lr) iG hF=some [(11,11),(2,2),(24,24),(13,13),(15,15),(3,3),(12,12),(14,14),(4,4),(5,5),(6,6),(7,7),(8,8),(9,9),(10,10)]:=ag
def ht:ct:=(bY,[1,1,0,4,1,1,4,1,2,1,0,0],17)
def hs:aU:=[(.bin .add 3 13 24,26),
 (.bin .add 3 15 (I 1),23)]
theorem sG:eV cl bt (bD 128 hs [] ht (aN fS hF))=some [(11,11),(2,2),(26,13),(23,15),(3,3),(12,12),(14,14),(4,4),(5,5),(6,6),(7,7),(8,8),(9,9),(10,10)]:=ag
theorem uM:eW (bD 128 fq [] ga (aN eO fm))=some (11,[11]):=ag
abbrev pc:=bD 128 fq [] ga {sl:=eO,ms:=[],A:=cS fm}
def kC:List bG:=[⟨.cells [4,5,6,7,8,9,10],28,0⟩]
def lH:ax:=bm [(71,.bool true),(66,.bool false),(45,15),(44,12),(43,2),(17,24),(14,14),(13,13),(11,11),(5,bj 0 0),(4,3)]
def jt:ax:=dS 128 lH 73 (.bool false)
theorem pe:bF (b0 pc) lH kC=some [(11,11),(2,2),(24,24),(13,13),(15,15),(3,3),(12,12),(14,14),(4,4),(5,5),(6,6),(7,7),(8,8),(9,9),(10,10)]:=ag
def k0:ct:=(bY,[1,1,0,4,1,1,4,1,2,1,0,0],17)
theorem Cx:b9 (jf 128 [] [] fJ (bD 128 [] [] k0 (aN jt kC)))=some (.bool false):=ag
def hN:aU:=[(.bin .lss 3 24 (I 0),.bool false),
 (.eZ #[3,3] 3 18 (I 0),25),
 (.bin .gtr 3 24 25,.bool false),
 (.bin .lss 3 24 18,.bool false),
 (.bin .add 3 13 24,26),
 (.bin .add 3 15 (I 1),23)]
theorem G7:eV cl bt (bD 128 hN [] ga (aN eO fm))=some [(11,11),(2,2),(26,13),(23,15),(3,3),(12,12),(14,14),(4,4),(5,5),(6,6),(7,7),(8,8),(9,9),(10,10)]:=ag
def hS:aU:=[(.bin .lss 3 15 12,.bool true),
 (.cV 31 2 15,16),
 (.bh 39 16,.agg ⟨[17,18,19,20,21,22]⟩),
 (.bin .eql 3 17 (I 3),.bool false),
 (.bin .eql 3 17 (I 4),.bool true)]
theorem RW:eW (at' 128 hS [] bY (aN cl bt))=some (12,[11]):=ag
abbrev oo:=at' 128 hS [] bY (aN cl bt)
def lh:List bG:=[⟨.cells [4,5,6,7,8,9,10],28,0⟩]
def ml:ax:=bm [(82,13),(45,15),(44,12),(43,2),(14,14),(13,13),(11,11),(5,bj 0 0),(4,3)]
def kf:ax:=dS 128 ml 84 27
theorem Hh:bF (hQ Tryd.prog oo) ml lh=some [(11,11),(2,2),(13,13),(15,15),(3,3),(12,12),(13,13),(14,14),(4,4),(5,5),(6,6),(7,7),(8,8),(9,9),(10,10)]:=ag
def nS:ct:=(bY,[1,1,0,4,1,1,4,1,3,1,2,0],3)
def jT:aU:=[(.bin .add 3 13 27,28)]
theorem zi:eW (bD 128 jT [] nS (aN kf lh))=some (11,[11]):=ag
abbrev uN:=bD 128 jT [] nS {sl:=kf,ms:=[],A:=cS lh}
def mX:List bG:=[⟨.cells [4,5,6,7,8,9,10],28,0⟩]
def pP:ax:=bm [(45,15),(44,12),(43,2),(14,14),(13,28),(11,11),(5,bj 0 0),(4,3)]
def mY:ax:=dS 128 pP 87 (.bool true)
theorem Hj:bF (b0 uN) pP mX=some [(11,11),(2,2),(28,28),(15,15),(3,3),(12,12),(14,14),(4,4),(5,5),(6,6),(7,7),(8,8),(9,9),(10,10)]:=ag
def mF:ct:=(bY,[1,1,0,4,1,1,4,1,3,1,2,1,0],2)
def jx:aU:=[(.bin .add 3 15 (I 1),23)]
theorem zj:eV cl bt (bD 128 jx [] mF (aN mY mX))=some [(11,11),(2,2),(28,13),(23,15),(3,3),(12,12),(14,14),(4,4),(5,5),(6,6),(7,7),(8,8),(9,9),(10,10)]:=ag
theorem Cy:eW (bD 128 jT [] nS (aN kf lh))=some (11,[11]):=ag
abbrev uO:=bD 128 jT [] nS {sl:=kf,ms:=[],A:=cS lh}
def nT:List bG:=[⟨.cells [4,5,6,7,8,9,10],28,0⟩]
def pQ:ax:=bm [(45,15),(44,12),(43,2),(14,14),(13,28),(11,11),(5,bj 0 0),(4,3)]
def nU:ax:=dS 128 pQ 87 (.bool false)
theorem Qi:bF (b0 uO) pQ nT=some [(11,11),(2,2),(28,28),(15,15),(3,3),(12,12),(14,14),(4,4),(5,5),(6,6),(7,7),(8,8),(9,9),(10,10)]:=ag
def nV:ct:=(bY,[1,1,0,4,1,1,4,1,3,1,2,1,0],2)
theorem zn:b9 (jf 128 [] [] fJ (bD 128 [] [] nV (aN nU nT)))=some (.bool false):=ag
def kD:aU:=[(.bin .lss 3 15 12,.bool true),
 (.cV 31 2 15,16),
 (.bh 39 16,.agg ⟨[17,18,19,20,21,22]⟩),
 (.bin .eql 3 17 (I 3),.bool false),
 (.bin .eql 3 17 (I 4),.bool false),
 (.bin .eql 3 17 (I 1),.bool true)]
theorem akg:eW (at' 128 kD [] bY (aN cl bt))=some (13,[11,.agg ⟨[17,18,19,20,21,22]⟩]):=ag
abbrev uP:=at' 128 kD [] bY (aN cl bt)
def mG:List bG:=[⟨.cells [4,5,6,7,8,9,10],28,0⟩]
def pR:ax:=bm [(45,15),(44,12),(43,2),(14,14),(13,13),(11,11),(5,bj 0 0),(4,3)]
def mH:ax:=dS 128 pR 94 29
theorem akh:bF (hQ Tryd.prog uP) pR mG=some [(11,11),(2,2),(13,13),(15,15),(3,3),(12,12),(14,14),(4,4),(5,5),(6,6),(7,7),(8,8),(9,9),(10,10)]:=ag
def mm:ct:=(bY,[1,1,0,4,1,1,4,1,3,1,3,1,2,0],3)
def mI:aU:=[(.bin .eql 35 29 (I 0),.bool true),
 (.bin .add 3 14 (I 1),30)]
theorem Hl:eW (bD 128 mI [] mm (aN mH mG))=some (11,[11]):=ag
abbrev zq:=bD 128 mI [] mm {sl:=mH,ms:=[],A:=cS mG}
def sS:List bG:=[⟨.cells [4,5,6,7,8,9,10],28,0⟩]
def tO:ax:=bm [(45,15),(44,12),(43,2),(14,30),(13,13),(11,11),(5,bj 0 0),(4,3)]
def sT:ax:=dS 128 tO 99 (.bool true)
theorem aki:bF (b0 zq) tO sS=some [(11,11),(2,2),(13,13),(15,15),(3,3),(12,12),(30,30),(4,4),(5,5),(6,6),(7,7),(8,8),(9,9),(10,10)]:=ag
def sU:ct:=(bY,[1,1,0,4,1,1,4,1,3,1,3,1,2,1,2,1,0],2)
theorem RX:b9 (jf 128 [] [] fJ (bD 128 [] [] sU (aN sT sS)))=some (.bool false):=ag
theorem Ih:eW (bD 128 mI [] mm (aN mH mG))=some (11,[11]):=ag
abbrev zs:=bD 128 mI [] mm {sl:=mH,ms:=[],A:=cS mG}
def sV:List bG:=[⟨.cells [4,5,6,7,8,9,10],28,0⟩]
def tP:ax:=bm [(45,15),(44,12),(43,2),(14,30),(13,13),(11,11),(5,bj 0 0),(4,3)]
def r1:ax:=dS 128 tP 99 (.bool false)
theorem HC:bF (b0 zs) tP sV=some [(11,11),(2,2),(13,13),(15,15),(3,3),(12,12),(30,30),(4,4),(5,5),(6,6),(7,7),(8,8),(9,9),(10,10)]:=ag
def sW:ct:=(bY,[1,1,0,4,1,1,4,1,3,1,3,1,2,1,2,1,0],2)
theorem Ii:eV cl bt (bD 128 jx [] sW (aN r1 sV))=some [(11,11),(2,2),(13,13),(23,15),(3,3),(12,12),(30,14),(4,4),(5,5),(6,6),(7,7),(8,8),(9,9),(10,10)]:=ag
def lX:aU:=[(.bin .eql 35 29 (I 0),.bool false),
 (.bin .add 3 15 (I 1),23)]
theorem Rq:eV cl bt (bD 128 lX [] mm (aN mH mG))=some [(11,11),(2,2),(13,13),(23,15),(3,3),(12,12),(14,14),(4,4),(5,5),(6,6),(7,7),(8,8),(9,9),(10,10)]:=ag
def nu:aU:=[(.bin .lss 3 15 12,.bool true),
 (.cV 31 2 15,16),
 (.bh 39 16,.agg ⟨[17,18,19,20,21,22]⟩),
 (.bin .eql 3 17 (I 3),.bool false),
 (.bin .eql 3 17 (I 4),.bool false),
 (.bin .eql 3 17 (I 1),.bool false),
 (.bin .eql 3 17 (I 2),.bool true)]
theorem Qo:eW (at' 128 nu [] bY (aN cl bt))=some (13,[11,.agg ⟨[17,18,19,20,21,22]⟩]):=ag
abbrev vN:=at' 128 nu [] bY (aN cl bt)
def pT:List bG:=[⟨.cells [4,5,6,7,8,9,10],28,0⟩]
def sX:ax:=bm [(45,15),(44,12),(43,2),(14,14),(13,13),(11,11),(5,bj 0 0),(4,3)]
def pU:ax:=dS 128 sX 94 29
theorem Qr:bF (hQ Tryd.prog vN) sX pT=some [(11,11),(2,2),(13,13),(15,15),(3,3),(12,12),(14,14),(4,4),(5,5),(6,6),(7,7),(8,8),(9,9),(10,10)]:=ag
def rz:ct:=(bY,[1,1,0,4,1,1,4,1,3,1,3,1,2,0],3)
theorem CH:eW (bD 128 mI [] rz (aN pU pT))=some (11,[11]):=ag
abbrev zt:=bD 128 mI [] rz {sl:=pU,ms:=[],A:=cS pT}
def sY:List bG:=[⟨.cells [4,5,6,7,8,9,10],28,0⟩]
def tQ:ax:=bm [(45,15),(44,12),(43,2),(14,30),(13,13),(11,11),(5,bj 0 0),(4,3)]
def sZ:ax:=dS 128 tQ 99 (.bool true)
theorem akj:bF (b0 zt) tQ sY=some [(11,11),(2,2),(13,13),(15,15),(3,3),(12,12),(30,30),(4,4),(5,5),(6,6),(7,7),(8,8),(9,9),(10,10)]:=ag
def s0:ct:=(bY,[1,1,0,4,1,1,4,1,3,1,3,1,2,1,2,1,0],2)
theorem Qt:b9 (jf 128 [] [] fJ (bD 128 [] [] s0 (aN sZ sY)))=some (.bool false):=ag
theorem HF:eW (bD 128 mI [] rz (aN pU pT))=some (11,[11]):=ag
abbrev CG:=bD 128 mI [] rz {sl:=pU,ms:=[],A:=cS pT}
def xj:List bG:=[⟨.cells [4,5,6,7,8,9,10],28,0⟩]
def uu:ax:=bm [(45,15),(44,12),(43,2),(14,30),(13,13),(11,11),(5,bj 0 0),(4,3)]
def xk:ax:=dS 128 uu 99 (.bool false)
theorem RY:bF (b0 CG) uu xj=some [(11,11),(2,2),(13,13),(15,15),(3,3),(12,12),(30,30),(4,4),(5,5),(6,6),(7,7),(8,8),(9,9),(10,10)]:=ag
def xl:ct:=(bY,[1,1,0,4,1,1,4,1,3,1,3,1,2,1,2,1,0],2)
theorem HI:eV cl bt (bD 128 jx [] xl (aN xk xj))=some [(11,11),(2,2),(13,13),(23,15),(3,3),(12,12),(30,14),(4,4),(5,5),(6,6),(7,7),(8,8),(9,9),(10,10)]:=ag
theorem Qu:eV cl bt (bD 128 lX [] rz (aN pU pT))=some [(11,11),(2,2),(13,13),(23,15),(3,3),(12,12),(14,14),(4,4),(5,5),(6,6),(7,7),(8,8),(9,9),(10,10)]:=ag
def s3:aU:=[(.bin .lss 3 15 12,.bool true),
 (.cV 31 2 15,16),
 (.bh 39 16,.agg ⟨[17,18,19,20,21,22]⟩),
 (.bin .eql 3 17 (I 3),.bool false),
 (.bin .eql 3 17 (I 4),.bool false),
 (.bin .eql 3 17 (I 1),.bool false),
 (.bin .eql 3 17 (I 2),.bool false),
 (.bin .add 3 15 (I 1),23)]
theorem akk:eV cl bt (at' 128 s3 [] bY (aN cl bt))=some [(11,11),(2,2),(13,13),(23,15),(3,3),(12,12),(14,14),(4,4),(5,5),(6,6),(7,7),(8,8),(9,9),(10,10)]:=ag
def uW:aU:=[(.bin .lss 3 15 12,.bool false)]
theorem RZ:eW (jf 128 [] [] fJ (at' 128 uW [] bY (aN cl bt)))=some (12,[11]):=ag
abbrev AU:=jf 128 [] [] fJ (at' 128 uW [] bY (aN cl bt))
def yi:List bG:=[⟨.cells [4,5,6,7,8,9,10],28,0⟩]
def zx:ax:=bm [(101,13),(14,14),(13,13),(11,11),(5,bj 0 0),(4,3)]
def yj:ax:=dS 128 zx 103 27
theorem Qv:bF (hQ Tryd.prog AU) zx yi=some [(11,11),(13,13),(13,13),(3,3),(14,14),(4,4),(5,5),(6,6),(7,7),(8,8),(9,9),(10,10)]:=ag
def EA:ct:=(body,[1,1,1,1,1,1,0],3)
def uX:aU:=[(.bin .add 3 13 27,28)]
def EX:dm:=[(8,[],.bool true)]
theorem R0:eW (bD 128 uX EX EA (aN yj yi))=some (10,[11,3]):=ag
abbrev HG:=bD 128 uX EX EA {sl:=yj,ms:=[],A:=cS yi}
def xm:List bG:=[⟨.cells [4,5,6,7,8,9,10],28,0⟩]
def AV:ax:=bm [(106,.bool true),(14,14),(13,28),(11,11),(5,bj 0 0)]
def xn:ax:=dS 128 AV 109 31
theorem Qy:bF (hQ Tryd.prog HG) AV xm=some [(11,11),(28,28),(14,14),(4,4),(5,5),(6,6),(7,7),(8,8),(9,9),(10,10)]:=ag
def vV:ct:=(body,[1,1,1,1,1,1,1,0],5)
def uY:aU:=[(.bin .eql 3 31 (I 0),.bool true)]
theorem R1:eW (bD 128 uY [] vV (aN xn xm))=some (12,[11]):=ag
abbrev HJ:=bD 128 uY [] vV {sl:=xn,ms:=[],A:=cS xm}
def yk:List bG:=[⟨.cells [4,5,6,7,8,9,10],28,0⟩]
def AW:ax:=bm [(112,.bool true),(14,14),(13,28),(5,bj 0 0)]
def yl:ax:=dS 128 AW 114 32
theorem QB:bF (hQ Tryd.prog HJ) AW yk=some [(28,28),(14,14),(4,4),(5,5),(6,6),(7,7),(8,8),(9,9),(10,10)]:=ag
def vW:ct:=(body,[1,1,1,1,1,1,1,0],10)
def vO:aU:=[(.bin .eql 3 32 (I 0),.bool true),
 (.len #[26] 3 10,33),
 (.bin .add 3 33 (I 1),34),
 (.bin .mul 3 (I 500) 34,35),
 (.bin .mul 3 35 14,36),
 (.bin .leq 3 28 36,.bool true)]
theorem R2:b9 (bD 128 vO [] vW (aN yl yk))=some (.bool true):=ag
def vP:aU:=[(.bin .eql 3 32 (I 0),.bool true),
 (.len #[26] 3 10,33),
 (.bin .add 3 33 (I 1),34),
 (.bin .mul 3 (I 500) 34,35),
 (.bin .mul 3 35 14,36),
 (.bin .leq 3 28 36,.bool false)]
theorem akl:b9 (bD 128 vP [] vW (aN yl yk))=some (.bool false):=ag
def vQ:aU:=[(.bin .eql 3 32 (I 0),.bool false)]
theorem QE:b9 (bD 128 vQ [] vW (aN yl yk))=some (.bool false):=ag
def vR:aU:=[(.bin .eql 3 31 (I 0),.bool false)]
theorem HO:b9 (bD 128 vR [] vV (aN xn xm))=some (.bool false):=ag
theorem QG:eW (at' 128 [] h2 body aZ)=some (9,[.agg ⟨[4,5,6,7,8,9,10]⟩,0,1,I 100]):=ag
abbrev AX:=at' 128 [] h2 body aZ
def zy:List bG:=[⟨.cells [4,5,6,7,8,9,10],28,0⟩]
def zz:ax:=bm [(10,.bool false),(5,bj 0 0),(4,3),(3,2)]
def zA:ax:=dS 128 zz 29 (.tuple ⟨[.pointer none,I 1]⟩)
theorem akm:bF (b0 AX) zz zy=some [(2,2),(3,3),(4,4),(5,5),(6,6),(7,7),(8,8),(9,9),(10,10)]:=ag
def HK:ct:=(body,[1,1,0],4)
def Ib:dm:=[(8,[],.bool true)]
theorem akn:b9 (bD 128 [] Ib HK (aN zA zy))=some (.bool true):=ag
def Ic:dm:=[(7,[.agg ⟨[4,5,6,7,8,9,10]⟩,0,1,2],.bool false),
 (8,[],.bool true)]
theorem ako:b9 (at' 128 [] Ic body aZ)=some (.bool true):=ag
@[reducible] noncomputable def a6 (cells:List Int) (b_:bH) (b3 ca:Nat) (table:List dx) (cq:bH) (cr:Nat) (known:List Bool) (di:bH) (dj:Nat) (l:List oU) (ej:bH) (er:Nat) (n:Int) (b:cx) (e:eD:=default) (fQ:Nat:=0) (R:Nat:=0) (i:Nat:=0) (nc:Nat:=0) (jY:eD:=default) (C5:eD:=default):List ad:=[aO cq table cr,aO di known dj,aO ej l er,I n,I b.1,I b.2.1,I b.2.2.1,I b.2.2.2.1,I b.2.2.2.2.1,I b.2.2.2.2.2,.slice b_ b3 ca,bj nc 0,I ((l.length:Nat):Int),I ((fQ:Nat):Int),I ((R:Nat):Int),I ((i:Nat):Int),fM (aO ej l er) (i*6),I (l.aD (i)).1,I (l.aD (i)).2.1,I (l.aD (i)).2.2.1,I (l.aD (i)).2.2.2.1,I (l.aD (i)).2.2.2.2.1,.bool (l.aD (i)).2.2.2.2.2,I ((i+1:Nat):Int),I (((qp e (l.aD (i)).2.1):Nat):Int),I (max (l.aD (i)).2.1 0),I ((fQ+(qp e (l.aD (i)).2.1):Nat):Int),I (((r_ e):Nat):Int),I ((fQ+(r_ e):Nat):Int),I (rE e (l.aD (i))),I ((R+1:Nat):Int),I (((qp jY n):Nat):Int),I (((r_ C5):Nat):Int),I ((cells.length:Nat):Int),I ((cells.length+1:Nat):Int),I (500*((cells.length+1:Nat):Int)),I ((500*((cells.length+1:Nat):Int))*((R:Nat):Int))]
theorem any (W:aG) {b:cx} {b_:bH} {b3 ca:Nat} {cells:List Int} (hT:dr (a7 W) 1 gq (.slice b_ b3 ca) cells) {ow:ad} {table:List dx} (bw:dr (a7 W) 8 js ow table) {ox:ad} {known:List Bool} (hZ:dr (a7 W) 1 iw ox known) {iZ:ad} {l:List oU} (az:dr (a7 W) 6 A7 iZ l) (n:Int) (d_:oH (a7 W)) (iv:b3=cells.length):Calls Tryd.prog 3 #[.agg ⟨[I b.1,I b.2.1,I b.2.2.1,I b.2.2.2.1,I b.2.2.2.2.1,I b.2.2.2.2.2,.slice b_ b3 ca]⟩,ow,ox,iZ,I n] W λe w'=>e= .returned (.bool true)/\cO W.heap.size W w':=by
 obtain⟨cq,cr,rfl⟩:=bw.slice;obtain⟨di,dj,rfl⟩:=hZ.slice;obtain⟨ej,er,rfl⟩:=az.slice;refine kT (a6 cells b_ b3 ca table cq cr known di dj l ej er n b) body aZ N [.agg ⟨[al 4,al 5,al 6,al 7,al 8,al 9,al 10]⟩,al 0,al 1,al 2,al 3] Tryd.func3 λa ae=> ?_
 letI:=bE ae;have a_:=cC.q_ W;by_cases bd:tX cells table known l.length
 ·refine br [] h2 aB (cv (aj_ J J (hT.mono a_.ext) (bw.mono a_.ext) (hZ.mono a_.ext) (az.mono a_.ext) iv bd) aC) ?_ ae
  by_cases oI:qP b cells table known 100
  ·obtain⟨r9,jA⟩:=ey (n1 b cells table known 100)
   refine e5 (Y:=Nat×fx) (bC:=λaF=>(a6 cells b_ b3 ca table cq cr known di dj l ej er n b default 0 0 0 (aF.1))) a_ [] (λaF=>[]) (λaF=>[dF (aF.1) (aF.2) r9]) b4 dD (cF c0 (.tuple ⟨[11,I 0]⟩)) (ez:=λw hw cM ay=>by rw[jA];exact ZE ay ((hT.mono a_.ext).mono hw) ((bw.mono a_.ext).mono hw) ((hZ.mono a_.ext).mono hw) (d_.mono λi o h=>hw i o (a_.ext i o h)) (by have:=bd.1;omega) iv (by have:=bd.2.2.2.2;omega) (by have:=bd.2.2.1.1;omega) oI) (rest:= ?_);intro fN ⟨nc,akp⟩ bP ch w ae;replace bP:=bP.nR;letI:=bE ae;refine cm (cn c5) cp [] (U (aW.WL rfl ag rfl) (U (e4 (az.mono bP.ext) zP) aB)) aC ?_ ae;refine nP (fW:=(λ(⟨M,e,A,fQ,R,i⟩:Mem×eD×fx×Nat×Nat×Nat)=>bc M (a6 cells b_ b3 ca table cq cr known di dj l ej er n b e fQ R i nc))) (λ(⟨M,e,A,fQ,R,i⟩:Mem×eD×fx×Nat×Nat×Nat)=>cC W.heap.size (a7 W) [] M [dF nc A e]/\(i<=l.length/\qq b cells.length e fQ R i)) (λ(⟨M,e,A,fQ,R,i⟩:Mem×eD×fx×Nat×Nat×Nat)=>l.length-i) ⟨fN,r9,akp,0,1,0⟩ lA b7 (λ_ _ h=>h) (by exact⟨bP,by exact⟨Nat.zero_le _,by subst jA;exact qq.begin oI (by have:=bd.1;omega)⟩⟩) ?_;intro⟨M,e,A,fQ,R,i⟩ aK ch w ae;letI:=bE ae;refine nK np k2 ?_;have bX:=aK.1;have afU:=bd.1;have Nt:=bd.2.1;have kN:=akb oI aj;have rM:=aK.2.1;have nj:=aK.2.2;have fV:=nj.ok;have xE:=nj.akf aj aj;have amf:=ZT (N:=cells.length) (R:=R) aj aj;have IK:=nj.Iv (l.aD i).2.1;have A9:=nj.set;have mf:=nj.RF (x:=l.aD i) aj kN;have amg:=IK.2.1;have akq:=IK.2.2.1;have amh:=IK.2.2.2;have ami:=A9.2.2;by_cases ea:((i:Nat):Int)<((l.length:Nat):Int)
   ·by_cases q1:(l.aD (i)).1=3
    ·refine br dh [] (U bf (U (f' (az.mono bX.ext) zP yp) (U (aW.p_ (az.mono bX.ext) (f_ i) J J Ij yp J J J) (U bf aB)))) aC ?_ ae
     obtain⟨jY,n2⟩:=ey (ta e (l.aD (i)).2.1);refine e5 (Y:=fx) (bC:=λaF=>(a6 cells b_ b3 ca table cq cr known di dj l ej er n b e fQ R i nc jY)) bX [0] (λaF=>[dF nc (aF) jY]) (λ_=>[]) lV xg (cF eO 24) (ez:=λw hw cM ay=>by rw[n2];exact RV ay aY J J) (rest:= ?_);intro hr xy dK ch w ae;replace dK:=dK.nR;letI:=bE ae;by_cases jq:(max (l.aD (i)).2.1 0)<(((qp e (l.aD (i)).2.1):Nat):Int)
     ·refine cm (cn ga) d' [] (U a' (U (aW.jL J J J J J J) (U bf aB))) aC ?_ ae
      refine j3 [] [] aB aC ?_;exact b2 om λw2 bk=>(by (exfalso;omega))
     ·by_cases c9:(((qp e (l.aD (i)).2.1):Nat):Int)<(l.aD (i)).2.1
      ·refine cm (cn ga) fq [] (U a' (U (aW.jL J J J J J J) (U a' (U bf aB)))) aC ?_ ae
       by_cases tc:po jY
       ·refine e5 (Y:=Unit) (bC:=λaF=>(a6 cells b_ b3 ca table cq cr known di dj l ej er n b e fQ R i nc jY)) dK [0] (λ_=>[_]) (λ_=>[]) nt sL (cF fS (.bool true)) (ez:=λw hw cM ay=>IB ay tc) (rest:= ?_)
        intro fU _ dE ch w ae;replace dE:=dE.nR;letI:=bE ae;refine cm (cn ht) hs [] (U (aW.bi J J J J J J (j1 rfl aj aj)) (U (aW.bi J J J J J J (j1 rfl aj aj)) aB)) aC ?_ ae;exact e3 ⟨fU,jY,xy,fQ+(qp e (l.aD (i)).2.1),R,i+1⟩ sG b7 (by exact⟨dE,by (exact⟨aj,by subst n2;exact IK.1⟩)⟩)
       ·refine e5 (Y:=Unit) (bC:=λaF=>(a6 cells b_ b3 ca table cq cr known di dj l ej er n b e fQ R i nc jY)) dK [0] (λ_=>[_]) (λ_=>[]) uM pe (cF jt (.bool false)) (ez:=λw hw cM ay=>IC ay tc) (rest:= ?_)
        intro fU _ dE ch w ae;replace dE:=dE.nR;letI:=bE ae;refine cm (cn k0) [] [] aB aC ?_ ae;refine j3 [] [] aB aC ?_;exact b2 Cx λw2 bk=>(by (exfalso;subst n2;exact tc (akq aj)))
      ·refine cm (cn ga) hN [] (U a' (U (aW.jL J J J J J J) (U a' (U a' (U (aW.bi J J J J J J (j1 rfl aj aj)) (U (aW.bi J J J J J J (j1 rfl aj aj)) aB)))))) aC ?_ ae
       exact e3 ⟨hr,jY,xy,fQ+(qp e (l.aD (i)).2.1),R,i+1⟩ G7 b7 (by exact⟨dK,by (exact⟨aj,by subst n2;exact IK.1⟩)⟩)
    ·by_cases aI:(l.aD (i)).1=4
     ·refine br hS [] (U bf (U (f' (az.mono bX.ext) zP yp) (U (aW.p_ (az.mono bX.ext) (f_ i) J J Ij yp J J J) (U a' (U bf aB))))) aC ?_ ae
      obtain⟨jY,n2⟩:=ey (rD e);refine e5 (Y:=fx) (bC:=λaF=>(a6 cells b_ b3 ca table cq cr known di dj l ej er n b e fQ R i nc jY)) bX [0] (λaF=>[dF nc (aF) jY]) (λ_=>[]) RW Hh (cF kf 27) (ez:=λw hw cM ay=>by rw[n2];exact IA ay aY J J) (rest:= ?_);intro hr xy dK ch w ae;replace dK:=dK.nR;letI:=bE ae;refine cm (cn nS) jT [] (U (aW.bi J J J J J J (j1 rfl aj aj)) aB) aC ?_ ae;by_cases tc:po jY
      ·refine e5 (Y:=Unit) (bC:=λaF=>(a6 cells b_ b3 ca table cq cr known di dj l ej er n b e fQ R i nc jY)) dK [0] (λ_=>[_]) (λ_=>[]) zi Hj (cF mY (.bool true)) (ez:=λw hw cM ay=>IB ay tc) (rest:= ?_)
       intro fU _ dE ch w ae;replace dE:=dE.nR;letI:=bE ae;refine cm (cn mF) jx [] (U (aW.bi J J J J J J (j1 rfl aj aj)) aB) aC ?_ ae;exact e3 ⟨fU,jY,xy,fQ+(r_ e),R,i+1⟩ zj b7 (by exact⟨dE,by (exact⟨aj,by subst n2;exact A9.1⟩)⟩)
      ·refine e5 (Y:=Unit) (bC:=λaF=>(a6 cells b_ b3 ca table cq cr known di dj l ej er n b e fQ R i nc jY)) dK [0] (λ_=>[_]) (λ_=>[]) Cy Qi (cF nU (.bool false)) (ez:=λw hw cM ay=>IC ay tc) (rest:= ?_)
       intro fU _ dE ch w ae;replace dE:=dE.nR;letI:=bE ae;refine cm (cn nV) [] [] aB aC ?_ ae;refine j3 [] [] aB aC ?_;exact b2 zn λw2 bk=>(by (exfalso;subst n2;exact tc A9.2.1))
     ·by_cases bS:(l.aD (i)).1=1
      ·refine br kD [] (U bf (U (f' (az.mono bX.ext) zP yp) (U (aW.p_ (az.mono bX.ext) (f_ i) J J Ij yp J J J) (U a' (U a' (U bf aB)))))) aC ?_ ae
       obtain⟨jY,n2⟩:=ey (nx e (l.aD (i)));refine e5 (Y:=fx) (bC:=λaF=>(a6 cells b_ b3 ca table cq cr known di dj l ej er n b e fQ R i nc jY)) bX [0] (λaF=>[dF nc (aF) jY]) (λ_=>[]) akg akh (cF mH 29) (ez:=λw hw cM ay=>by rw[n2];exact SF.any _ ay (l.aD (i)) aY) (rest:= ?_);intro hr xy dK ch w ae;replace dK:=dK.nR;letI:=bE ae;by_cases jq:(rE e (l.aD (i)))=0
       ·refine cm (cn mm) mI [] (U bf (U (aW.bi J J J J J J (j1 rfl aj aj)) aB)) aC ?_ ae
        by_cases tc:po jY
        ·refine e5 (Y:=Unit) (bC:=λaF=>(a6 cells b_ b3 ca table cq cr known di dj l ej er n b e fQ R i nc jY)) dK [0] (λ_=>[_]) (λ_=>[]) Hl aki (cF sT (.bool true)) (ez:=λw hw cM ay=>IB ay tc) (rest:= ?_)
         intro fU _ dE ch w ae;replace dE:=dE.nR;letI:=bE ae;refine cm (cn sU) [] [] aB aC ?_ ae;refine j3 [] [] aB aC ?_;exact b2 RX λw2 bk=>(by (exfalso;subst n2;exact((mf aj).1 aY).2 tc))
        ·refine e5 (Y:=Unit) (bC:=λaF=>(a6 cells b_ b3 ca table cq cr known di dj l ej er n b e fQ R i nc jY)) dK [0] (λ_=>[_]) (λ_=>[]) Ih HC (cF r1 (.bool false)) (ez:=λw hw cM ay=>IC ay tc) (rest:= ?_)
         intro fU _ dE ch w ae;replace dE:=dE.nR;letI:=bE ae;refine cm (cn sW) jx [] (U (aW.bi J J J J J J (j1 rfl aj aj)) aB) aC ?_ ae;exact e3 ⟨fU,jY,xy,fQ,R+1,i+1⟩ Ii b7 (by exact⟨dE,by (exact⟨aj,by subst n2;exact((mf aj).1 aY).1⟩)⟩)
       ·refine cm (cn mm) lX [] (U a' (U (aW.bi J J J J J J (j1 rfl aj aj)) aB)) aC ?_ ae
        exact e3 ⟨hr,jY,xy,fQ,R,i+1⟩ Rq b7 (by exact⟨dK,by (exact⟨aj,by subst n2;exact(mf aj).2 aY⟩)⟩)
      ·by_cases fo:(l.aD (i)).1=2
       ·refine br nu [] (U bf (U (f' (az.mono bX.ext) zP yp) (U (aW.p_ (az.mono bX.ext) (f_ i) J J Ij yp J J J) (U a' (U a' (U a' (U bf aB))))))) aC ?_ ae
        obtain⟨jY,n2⟩:=ey (nx e (l.aD (i)));refine e5 (Y:=fx) (bC:=λaF=>(a6 cells b_ b3 ca table cq cr known di dj l ej er n b e fQ R i nc jY)) bX [0] (λaF=>[dF nc (aF) jY]) (λ_=>[]) Qo Qr (cF pU 29) (ez:=λw hw cM ay=>by rw[n2];exact SF.any _ ay (l.aD (i)) aY) (rest:= ?_);intro hr xy dK ch w ae;replace dK:=dK.nR;letI:=bE ae;by_cases jq:(rE e (l.aD (i)))=0
        ·refine cm (cn rz) mI [] (U bf (U (aW.bi J J J J J J (j1 rfl aj aj)) aB)) aC ?_ ae
         by_cases tc:po jY
         ·refine e5 (Y:=Unit) (bC:=λaF=>(a6 cells b_ b3 ca table cq cr known di dj l ej er n b e fQ R i nc jY)) dK [0] (λ_=>[_]) (λ_=>[]) CH akj (cF sZ (.bool true)) (ez:=λw hw cM ay=>IB ay tc) (rest:= ?_)
          intro fU _ dE ch w ae;replace dE:=dE.nR;letI:=bE ae;refine cm (cn s0) [] [] aB aC ?_ ae;refine j3 [] [] aB aC ?_;exact b2 Qt λw2 bk=>(by (exfalso;subst n2;exact((mf aj).1 aY).2 tc))
         ·refine e5 (Y:=Unit) (bC:=λaF=>(a6 cells b_ b3 ca table cq cr known di dj l ej er n b e fQ R i nc jY)) dK [0] (λ_=>[_]) (λ_=>[]) HF RY (cF xk (.bool false)) (ez:=λw hw cM ay=>IC ay tc) (rest:= ?_)
          intro fU _ dE ch w ae;replace dE:=dE.nR;letI:=bE ae;refine cm (cn xl) jx [] (U (aW.bi J J J J J J (j1 rfl aj aj)) aB) aC ?_ ae;exact e3 ⟨fU,jY,xy,fQ,R+1,i+1⟩ HI b7 (by exact⟨dE,by (exact⟨aj,by subst n2;exact((mf aj).1 aY).1⟩)⟩)
        ·refine cm (cn rz) lX [] (U a' (U (aW.bi J J J J J J (j1 rfl aj aj)) aB)) aC ?_ ae
         exact e3 ⟨hr,jY,xy,fQ,R,i+1⟩ Qu b7 (by exact⟨dK,by (exact⟨aj,by subst n2;exact(mf aj).2 aY⟩)⟩)
       ·refine br s3 [] (U bf (U (f' (az.mono bX.ext) zP yp) (U (aW.p_ (az.mono bX.ext) (f_ i) J J Ij yp J J J) (U a' (U a' (U a' (U a' (U (aW.bi J J J J J J (j1 rfl aj aj)) aB)))))))) aC ?_ ae
        exact e3 ⟨M,e,A,fQ,R,i+1⟩ akk b7 (by exact⟨(bX.pick [0] rfl),by exact⟨aj,nj.skip⟩⟩)
   ·refine br uW [] (U a' aB) aC ?_ ae
    refine j3 [] [] aB aC ?_;obtain⟨jY,n2⟩:=ey (rD e);refine e5 (Y:=fx) (bC:=λaF=>(a6 cells b_ b3 ca table cq cr known di dj l ej er n b e fQ R i nc jY)) bX [0] (λaF=>[dF nc (aF) jY]) (λ_=>[]) RZ Qv (cF yj 27) (ez:=λw hw cM ay=>by rw[n2];exact IA ay aY J J) (rest:= ?_);intro hr xy dK ch w ae;replace dK:=dK.nR;letI:=bE ae;refine cm (cn EA) uX EX (U (aW.bi J J J J J J (j1 rfl aj aj)) aB) (cv (SG (d_.mono dK.ext)) aC) ?_ ae;obtain⟨C5,SH⟩:=ey (ta jY n);refine e5 (Y:=fx) (bC:=λaF=>(a6 cells b_ b3 ca table cq cr known di dj l ej er n b e fQ R i nc jY C5)) dK [0] (λaF=>[dF nc (aF) C5]) (λ_=>[]) R0 Qy (cF xn 31) (ez:=λw hw cM ay=>by rw[SH];exact RV ay (by (subst n2;exact A9.1.ok)) J J) (rest:= ?_);intro fU amj dE ch w ae;replace dE:=dE.nR;letI:=bE ae;by_cases v0:(((qp jY n):Nat):Int)=0
    ·refine cm (cn vV) uY [] (U bf aB) aC ?_ ae
     obtain⟨akr,aks⟩:=ey (rD C5);refine e5 (Y:=fx) (bC:=λaF=>(a6 cells b_ b3 ca table cq cr known di dj l ej er n b e fQ R i nc jY C5)) dE [0] (λaF=>[dF nc (aF) akr]) (λ_=>[]) R1 QB (cF yl 32) (ez:=λw hw cM ay=>by rw[aks];exact IA ay (by (subst SH;subst n2;exact(A9.1.Iv n).1.ok)) J J) (rest:= ?_);intro vL amk gV ch w ae;replace gV:=gV.nR;letI:=bE ae;by_cases z0:(((r_ C5):Nat):Int)=0
     ·by_cases y0:((fQ+(r_ e):Nat):Int)<=((500*((cells.length+1:Nat):Int))*((R:Nat):Int))
      ·refine cm (cn vW) vO [] (U bf (U (e4 (hT.mono gV.ext) iD) (U (aW.bi J J J J J J (j1 rfl aj aj)) (U (aW.bi J J J J J J (j1 rfl aj aj)) (U (aW.bi J J J J J J (j1 rfl aj (by (have cy:=ZU (N:=cells.length) (R:=R) aj aj;omega)))) (U bf aB)))))) aC ?_ ae
       exact b2 R2 λw2 bk=>(by rfl)
      ·refine cm (cn vW) vP [] (U bf (U (e4 (hT.mono gV.ext) iD) (U (aW.bi J J J J J J (j1 rfl aj aj)) (U (aW.bi J J J J J J (j1 rfl aj aj)) (U (aW.bi J J J J J J (j1 rfl (by (have cy:=ZU (N:=cells.length) (R:=R) aj aj;omega)) aj)) (U a' aB)))))) aC ?_ ae
       exact b2 akl λw2 bk=>(by (exfalso;exact y0 (ake xE.2.1 aj)))
     ·refine cm (cn vW) vQ [] (U a' aB) aC ?_ ae
      exact b2 QE λw2 bk=>(by (exfalso;have cy:=(aiz A9.2.1).1;have akt:=(Zr A9.2.1 n).2;subst SH;subst n2;rw[akt] at z0;omega))
    ·refine cm (cn vV) vR [] (U a' aB) aC ?_ ae
     exact b2 HO λw2 bk=>(by (exfalso;subst n2;have cy:=(Zr A9.2.1 n).1;omega))
  ·refine e5 (Y:=Unit) (bC:=λaF=>(a6 cells b_ b3 ca table cq cr known di dj l ej er n b)) a_ [] (λ_=>[]) (λ_=>[]) QG akm (cF zA (.tuple ⟨[.pointer none,I 1]⟩)) (ez:=λw hw cM ay=>ZF ay ((hT.mono a_.ext).mono hw) ((bw.mono a_.ext).mono hw) ((hZ.mono a_.ext).mono hw) (d_.mono λi o h=>hw i o (a_.ext i o h)) (by have:=bd.1;omega) iv (by have:=bd.2.2.2.2;omega) (by have:=bd.2.2.1.1;omega) oI) (rest:= ?_)
   intro fN _ bP ch w ae;letI:=bE ae;refine cm (cn HK) [] Ib aB (cv (SG (d_.mono bP.ext)) aC) ?_ ae;exact b2 akn λw2 bk=>(by rfl)
 ·refine br [] Ic aB (cv (aka J J (hT.mono a_.ext) (bw.mono a_.ext) (hZ.mono a_.ext) (az.mono a_.ext) iv bd) (cv (SG (d_.mono a_.ext)) aC)) ?_ ae
  exact b2 ako λw2 bk=>(by rfl)
end ZV
end a1
end Go.Proofs.YtepcfjbfkedlpaaDoor
namespace Go.Proofs.YtepcfjbfkedlpaaDoor
open Go Go.ChangeShapes Go.WideShapes Go.ChangeAt Go.RowKit
section
theorem aku (os:Os) (args:Array ad):laidMetH Tryd.prog Rows.relightWorksRow.laid ((World.laidAll Tryd.prog os Rows.relightWorksRow.laid).forCall (λ_ _=>0) ⟨#[],args,[]⟩).memory:=by
 rw[MakeChecks.laidMetH_plain _ _ _ ag];exact laidMet_laidAll _ ag ag
theorem akv (os:Os) (SI:os.Started) (H:Type) (enc:bq×ad->H):
  ReturnsInHanded {} Tryd.checked os 3 .any (λw args=>(Rows.relightWorksSpec.pre enc Tryd.prog Tryd.f3 [] false w args/\laidMetH Tryd.prog Rows.relightWorksRow.laid w)/\sizedMet enc Tryd.prog Tryd.f3 (OpenSpec.ofChange Rows.relightWorksSpec) false w args)
   (Rows.relightWorksSpec.post enc Tryd.prog Tryd.f3 false true false false):=by
 refine returnsInHanded_of_change_and (C:=Tryd.checked) (X:=λw _=>laidMetH Tryd.prog Rows.relightWorksRow.laid w) (λ_ _ _ ae h=>h.of_heap ae) own SI ag Tryd.func3
  (ChangeSpec.witness_shaped (enc:=enc) (C:=Tryd.checked) (os:=os) (X:=λw _=>laidMetH Tryd.prog Rows.relightWorksRow.laid w) false (World.laidAll Tryd.prog os Rows.relightWorksRow.laid) #[a1.ov (0,0,0,0,0,0) (.slice none 0 0),.slice none 0 0,.slice none 0 0,.slice none 0 0,.int .i64 0] 8 (World.laidAll_os _ _ _)
    (World.shaped_of_ZipB ag ag) ag ag ag (aku os _)) ?_
 intro W base args ds aml before akw nj _ _ jZ _;have hval:∀(j:Nat) t v,Tryd.f3.params[j]? =some t->args[j]? =some v->Value.okWide Tryd.prog W .any base t v:=akw;have SJ:=nj;obtain⟨p,q,G_,wF,rfl,_,_⟩:=nj;have oE:DataW.TrodAll enc Tryd.prog W 0 (λ_=>true) true Tryd.f3.params.toList args.toList ds p:=G_;rw[Tryd.params3] at oE hval;have akx:=oE;obtain⟨v0,v1,hB,v3,v4,Iq,Ir,qV,Is,Iu,lM,jc,hY,oa,rN,rfl,rfl,rfl,bd,af,ah,aH,ck⟩:=aix oE;obtain⟨rfl,rfl⟩:=trodVars_none wF;obtain⟨cj,a0,sf,eN,fe,rfl,Rn,hh⟩:=aiw (hval 0 28 v0 J J) bd;obtain⟨l1,NP⟩:=adD (hval 1 29 v1 J J) af;obtain⟨jo,AI⟩:=ait (hval 2 30 hB J J) ah;obtain⟨amm,BJ⟩:=aiu (hval 3 31 v3 J J) aH;obtain⟨Rl,rfl⟩:=adC (hval 4 3 v4 J J) ck;simp only [List.append_nil] at SJ;have c_:∀x∈lM++jc++hY++oa++rN,x.block<W.heap.size:=λx aw=>by simpa using SJ.lt x aw
 refine(a1.ZV.any W Rn NP AI BJ Rl (adG jZ rfl) hh).mono λe W' ⟨he,ai⟩=> ?_
 subst he;exact⟨_,rfl,_,_,_,[],lM++jc++hY++oa++rN,[],SJ,trodAll_mk1 (shut_bool Tryd.underlying4 _),U9 adx ai.below _ _ _ _ ag akx c_,rfl,ai.below.frame _,λh=>by cases h⟩
theorem aky:Rows.RelightWorksSaid:=
 OpenClaim.holds_of_wide 3 Tryd.f3 J J J J J J J ⟨rfl,rfl,rfl,rfl,rfl⟩ J J J J J ag Tryd.func3 ag
  (of_decide_eq_true ag) (by unfold Func.isWrapper;first|(rw[aP (by decide +kernel)];kernel_rfl)|(rw[aV (by decide +kernel)];exact⟨rfl,rfl⟩))
  (λos SI H enc _=>akv os SI H enc)
theorem relightWorks_card:Rows.RelightWorksCardSaid:=
 Claim7.holds_tied_plain_at .later [] [.widerDeep] true (true,"78eb4871fa419e5ac688e7dc1fcbc34f891c58178f14bf11d800c71083c6e710") false aky (λ_ h=>by cases h) ag (λ_ h=>by cases h) relightWorks_row_tie rfl ⟨rfl,rfl⟩ ag rfl
  (λf fn bn p9=>by
    obtain rfl:f=3:=Option.some.inj ((show Tryd.prog.funcNamed "voxel/voxellaw34.RelightWorks"=some 3 by kernel_rfl).symm.trans bn) |>.symm;obtain rfl:fn=Tryd.f3:=(Option.some.inj (Tryd.func3.symm.trans p9)).symm;exact⟨ag,λj t bw=>by
     rw[Tryd.params3] at bw;have hm:=Array.mem_of_getElem? bw;have lK:(Tryd.f3.params.toList.all λu=> !Tryd.prog.wantsStandIn u)=true:=by kernel_rfl
     rw[Tryd.params3] at lK;have hw:=List.all_eq_true.1 lK t (by simpa using hm)
     exact(show Tryd.prog.wantsStandIn t=false by simpa using hw)⟩)
  ag
#print axioms relightWorks_card
end
end Go.Proofs.YtepcfjbfkedlpaaDoor
