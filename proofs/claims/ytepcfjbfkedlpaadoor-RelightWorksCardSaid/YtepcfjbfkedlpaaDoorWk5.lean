/- Parts of the proof. -/
import Derived.Test.YtepcfjbfkedlpaaDoorWk4
import Derived.ProofKit
import Derived.Shelf.Bits.Mul64
import Derived.Ground.Names2Prog
import Derived.Shelf.GgClosure.StringsIndexFuncTop
import Derived.Ground.GgwProg
set_option maxRecDepth 100000
set_option maxHeartbeats 4000000
noncomputable section
namespace Go.Proofs.YtepcfjbfkedlpaaDoor
open Go Go.Proofs Go.RowKit
namespace a1
def hG (b:cx):pI:=aeD (cI b).1.toNat (cI b).2.1.toNat (cI b).2.2.toNat
def jz (table:List dx) (lit:List Int) (aX:List Bool):il:=
 ⟨λk=>(bA table (lit.getD k default)).2.2.2.2.1,λk c=>cX (bA table (lit.getD k default)) c,λk=>aX.getD k default⟩
def iq (u:gY):gT:=⟨u.au,u.aQ,u.gone,u.aE,u.waits⟩
theorem QZ {b:cx} (ai:okB b):(hG b).N=(gj b).toNat:=by
 obtain⟨af,_,ah,_,aH,_⟩:=Cl ai;show (cI b).1.toNat*(cI b).2.1.toNat*(cI b).2.2.toNat=_;unfold gj;have e:(cI b).1*(cI b).2.1*(cI b).2.2=(((cI b).1.toNat*(cI b).2.1.toNat*(cI b).2.2.toNat:Nat):Int):=by
  rw[Int.natCast_mul,Int.natCast_mul,Int.toNat_of_nonneg af,Int.toNat_of_nonneg ah,Int.toNat_of_nonneg aH]
 rw[e,Int.toNat_natCast]
variable {table:List dx} {b:cx}
theorem ahc {k:Nat} (ai:okB b) (ao:k<(hG b).N):sR b k↔(hG b).top k=true:=by
 obtain⟨af,_,ah,_,aH,_⟩:=Cl ai;have ay:cI b=((((cI b).1.toNat:Nat):Int),(((cI b).2.1.toNat:Nat):Int),(((cI b).2.2.toNat:Nat):Int)):=by
  rw[Int.toNat_of_nonneg af,Int.toNat_of_nonneg ah,Int.toNat_of_nonneg aH]
 have kN:k<(cI b).1.toNat*(cI b).2.1.toNat*(cI b).2.2.toNat:=ao;have bn:ki b:=by
  by_cases bn:ki b
  ·exact bn
  ·rw[Ec bn] at kN
   simp at kN
 unfold sR;rw[Xk ay kN];show b.2.2.1+((iS (cI b).1.toNat (cI b).2.1.toNat k:Nat):Int)=b.2.2.2.2.2-1↔decide (iS (cI b).1.toNat (cI b).2.1.toNat k+1=(cI b).2.2.toNat)=true;have ck:(cI b).2.2=b.2.2.2.2.2-b.2.2.1:=by rw[AG bn]
 rw[decide_eq_true_eq];omega
theorem XU {F:Int} {au:List cc} {c:Nat} (aA:c<4):∀(l:List (Nat×Int)) (out:cc),dP (ix F au l out) c=l.foldl (λa p=>max a (given (eK au p.1 c) F c (decide (0<p.2)))) (dP out c)
 |[],out=>rfl
 |p::l,out=>by
  show dP (ix F au l (pO F out (au.getD p.1 default) p.2)) c=_;rw[XU aA l,List.foldl_cons];congr 1;unfold pO;rw[ri aA];rfl
theorem ahd {lit:List Int} {au:List cc} {sh:List Bool} {k c:Nat} (ai:okB b) (ao:k<(hG b).N) (aA:c<4):dP (jH table lit au sh b k) c=rule (hG b) (jz table lit sh) (eK au) k c:=by
 unfold jH rule;show dP (if sh.getD k default=true then _ else _) c=if sh.getD k default=true then _ else _
 split
 ·rw[XU aA]
  congr 1;unfold K8 vD;have bw:=ahc ai ao
  match c,aA with
  |0,_=>rfl
  |1,_=>rfl
  |2,_=>rfl
  |3,_=>
   show (if sR b k then _ else _)=if (3:Nat)=3 then (if (hG b).top k=true then _ else _) else _
   rw[aP rfl];by_cases h:sR b k
   ·rw[aP h,aP (bw.1 h)];rfl
   ·rw[aV h,aV (λe=>h (bw.2 e))]
 ·exact Gs c
theorem ahe {lit:List Int} {sh:List Bool} {k:Nat} (ai:okB b) (ao:k<(hG b).N) (w:gT):jH table lit w.au sh b k=qG (hG b) (jz table lit sh) w k:=cc.ext' λc aA=>by
 rw[ahd ai ao aA];unfold qG;rw[ri aA]
theorem ahf (x y:cc):oR 4 x y=uE x y:=by
 unfold oR uE pJ;simp
theorem ahg (x y:cc):qO 4 x y=Av x y:=by
 unfold qO Av;simp
theorem ahh {lit:List Int} {sh:List Bool} {old:cc} {p:Nat×Int} {w:gT}:sH table lit old (w.aQ,w.gone,w.au) p=((ic (jz table lit sh) old w p).aQ,(ic (jz table lit sh) old w p).gone,(ic (jz table lit sh) old w p).au)/\(ic (jz table lit sh) old w p).aE=w.aE/\(ic (jz table lit sh) old w p).waits=w.waits:=by
 have e:pN (bA table (lit.getD p.1 default)).2.2.2.2.1 old (w.au.getD p.1 default) p.2=qF (jz table lit sh) old (w.au.getD p.1 z4) p:=rfl;unfold sH ic xd uL yd;rw[e];split
 ·exact⟨rfl,rfl,rfl⟩
 ·exact⟨rfl,rfl,rfl⟩
theorem XV {lit:List Int} {sh:List Bool} {old:cc}:∀(l:List (Nat×Int)) (w:gT),kF table lit old l (w.aQ,w.gone,w.au)=((l.foldl (ic (jz table lit sh) old) w).aQ,(l.foldl (ic (jz table lit sh) old) w).gone,(l.foldl (ic (jz table lit sh) old) w).au)/\(l.foldl (ic (jz table lit sh) old) w).aE=w.aE/\(l.foldl (ic (jz table lit sh) old) w).waits=w.waits
 |[],w=>⟨rfl,rfl,rfl⟩
 |p::l,w=>by
  obtain⟨af,ah,aH⟩:=ahh (table:=table) (lit:=lit) (sh:=sh) (old:=old) (p:=p) (w:=w);obtain⟨g1,g2,g3⟩:=XV (sh:=sh) l (ic (jz table lit sh) old w p);refine⟨?_,g2.trans ah,g3.trans aH⟩;show kF table lit old l (sH table lit old (w.aQ,w.gone,w.au) p)=_;rw[af,g1];rfl
theorem ahi (w:gT) (k:Nat):jQ w k={w with aE:=mE w.aE w.waits k,waits:=og w.waits k}:=by
 unfold jQ mE og;show (if w.waits.getD k default=true then _ else _)=_;split<;>rfl
theorem Ln {α:Type} (f:α->Nat):∀(l:List α) (w:gT),l.foldl (λw p=>jQ w (f p)) w={w with aE:=(l.foldl (λs p=>(mE s.1 s.2 (f p),og s.2 (f p))) (w.aE,w.waits)).1,waits:=(l.foldl (λs p=>(mE s.1 s.2 (f p),og s.2 (f p))) (w.aE,w.waits)).2}
 |[],w=>rfl
 |p::l,w=>by
  rw[List.foldl_cons,Ln f l,ahi];rfl
theorem H3 {α:Type} {l:List α} {d:α} (h:l≠[]):l=l.getD 0 d::l.drop 1:=by
 cases l with
 |nil=>exact absurd rfl h
 |cons x r=>rfl
theorem ahj {u:gY} (h:u.aQ≠[]):tH (hG b) (jz table u.lit u.aX) (iq u)=some (iq (yg table b u (u.aQ.getD 0 default) (u.aQ.drop 1))):=by
 unfold tH;have e:(iq u).aQ=u.aQ.getD 0 default::u.aQ.drop 1:=H3 h;rw[e];obtain⟨af,ah,aH⟩:=XV (table:=table) (lit:=u.lit) (sh:=u.aX) (old:=(u.aQ.getD 0 default).2) (eE b u.aX (u.aQ.getD 0 default).1 6) {iq u with aQ:=u.aQ.drop 1};show some (Gu (iR (hG b) (jz table u.lit u.aX) (iq u) (u.aQ.getD 0 default) (u.aQ.drop 1)))=_;refine congrArg some ?_;have az:xi table b u (u.aQ.getD 0 default) (u.aQ.drop 1)=((iR (hG b) (jz table u.lit u.aX) (iq u) (u.aQ.getD 0 default) (u.aQ.drop 1)).aQ,(iR (hG b) (jz table u.lit u.aX) (iq u) (u.aQ.getD 0 default) (u.aQ.drop 1)).gone,(iR (hG b) (jz table u.lit u.aX) (iq u) (u.aQ.getD 0 default) (u.aQ.drop 1)).au):=af
 change (iR (hG b) (jz table u.lit u.aX) (iq u) (u.aQ.getD 0 default) (u.aQ.drop 1)).aE=u.aE at ah
 change (iR (hG b) (jz table u.lit u.aX) (iq u) (u.aQ.getD 0 default) (u.aQ.drop 1)).waits=u.waits at aH
 unfold yg Gu;rw[az];generalize iR (hG b) (jz table u.lit u.aX) (iq u) (u.aQ.getD 0 default) (u.aQ.drop 1)=X at ah aH ⊢;by_cases de:X.aQ=[]
 ·rw[aP de,aP (by show X.aQ.length=0;rw[de];rfl)]
  have:=Ln (λk:Nat=>k) X.gone X
  change X.gone.foldl jQ X=_ at this
  rw[this,ah,aH];rfl
 ·rw[aV de,aV (by show ¬X.aQ.length=0;intro e;exact de (List.length_eq_zero_iff.1 e))]
  show _=(⟨X.au,X.aQ,X.gone,u.aE,u.waits⟩:gT);rw[<-ah,<-aH]
theorem ahk {u:gY} (ai:okB b) (h:u.aQ=[]) (ah:u.aE≠[]) (ao:u.aE.getD 0 default<(hG b).N):tH (hG b) (jz table u.lit u.aX) (iq u)=some (iq (yh table b u (u.aE.getD 0 default) (u.aE.drop 1))):=by
 unfold tH;rw[show (iq u).aQ=[] from h,show (iq u).aE=u.aE.getD 0 default::u.aE.drop 1 from H3 ah];show some (Gv (hG b) (jz table u.lit u.aX) (iq u) (u.aE.getD 0 default) (u.aE.drop 1))=_;refine congrArg some ?_;have aT:Ev table b u (u.aE.getD 0 default)=qG (hG b) (jz table u.lit u.aX) (iq u) (u.aE.getD 0 default):=ahe ai ao (iq u);unfold yh Gv;rw[aT,ahf,ahg];show (if Av _ (u.au.getD (u.aE.getD 0 default) default)=true then _ else _)=iq (if Av _ (u.au.getD (u.aE.getD 0 default) default)=true then _ else _);split
 ·have:=Ln (λp:Nat×Int=>p.1) (mC (hG b) (jz table u.lit u.aX) (u.aE.getD 0 default)) {iq u with aE:=u.aE.drop 1,waits:=u.waits.set (u.aE.getD 0 default) false,au:=u.au.set (u.aE.getD 0 default) (uE (qG (hG b) (jz table u.lit u.aX) (iq u) (u.aE.getD 0 default)) (u.au.getD (u.aE.getD 0 default) z4))}
  exact this
 ·rfl
theorem XW {u:gY} (h:u.aQ=[]) (ah:u.aE=[]):tH (hG b) (jz table u.lit u.aX) (iq u)=none:=by
 unfold tH;rw[show (iq u).aQ=[] from h,show (iq u).aE=[] from ah]
end a1
namespace a1
def XX (table:List dx):Prop:=∀c:Int,1<=(bA table c).2.2.2.2.1/\(bA table c).2.2.2.2.1<=16/\∀i,i<3->0<=cX (bA table c) i/\cX (bA table c) i<=15
def CS (l:List e2):Prop:=∀x∈l,∀c,c<4->0<=dP x.2 c/\dP x.2 c<=15
def Lo (l:List cc):Prop:=∀k c,k<l.length->c<4->0<=eK l k c/\eK l k c<=15
structure A0 (w:gT):Prop where
 fL:CS w.aQ
 XY:w.gone.length+mS qe w.au<=4*w.au.length+1
theorem ahl {S:il} {old:cc} {w:gT} {p:Nat×Int} (hp:p.1<w.au.length) (ai:Lo w.au) (az:CS w.aQ):
  CS (ic S old w p).aQ/\Lo (ic S old w p).au/\(ic S old w p).au.length=w.au.length/\(ic S old w p).gone.length+w.aQ.length=(ic S old w p).aQ.length+w.gone.length:=by
 unfold ic;split
 ·exact⟨az,ai,rfl,Nat.add_comm _ _⟩
 ·refine⟨?_,?_,by simp [j9],by simp [j9];omega⟩
  ·intro x aw c aA
   rcases List.mem_append.1 aw with aw|aw
   ·exact az x aw c aA
   ·rw[List.mem_singleton.1 aw]
    show 0<=dP (qF S old (w.au.getD p.1 z4) p) c/\_;have:=ai p.1 c hp aA;unfold eK at this;unfold qF;rw[ri aA];split
    ·exact this
    ·omega
  ·intro k c ao aA
   have Df:k<w.au.length:=by simpa [j9] using ao
   rw[OR hp aA];split
   ·omega
   ·exact ai k c Df aA
theorem XZ {S:il} {old:cc}:∀(l:List (Nat×Int)) (w:gT),(∀p∈l,p.1<w.au.length)->Lo w.au->CS w.aQ->
  CS (l.foldl (ic S old) w).aQ/\(l.foldl (ic S old) w).gone.length+w.aQ.length=(l.foldl (ic S old) w).aQ.length+w.gone.length
 |[],w,_,_,az=>⟨az,Nat.add_comm _ _⟩
 |p::l,w,hp,ai,az=>by
  obtain⟨q1,aI,bS,fo⟩:=ahl (S:=S) (old:=old) (hp p (by simp)) ai az;obtain⟨c9,eF⟩:=XZ (S:=S) (old:=old) l (ic S old w p) (λq cy=>by rw[bS];exact hp q (by simp [cy])) aI q1;exact⟨c9,by rw[List.foldl_cons];omega⟩
variable {G:pI}
theorem X0 {α:Type} (f:α->Nat) (l:List α) (w:gT):(l.foldl (λw p=>jQ w (f p)) w).au=w.au/\(l.foldl (λw p=>jQ w (f p)) w).aQ=w.aQ/\(l.foldl (λw p=>jQ w (f p)) w).gone=w.gone:=by
 rw[Ln];exact⟨rfl,rfl,rfl⟩
theorem A0.unit {S:il} {w w':gT} (h:rV G S w) (f:A0 w) (hu:tH G S w=some w'):A0 w':=by
 unfold tH at hu;split at hu
 ·rename_i x r aw
  cases hu;have dU:w.aQ≠[]:=by rw[aw];simp
  obtain⟨bg,ke,cL,fe,cur,At,bu⟩:=h.down dU;have As:x.1<G.N:=bu.lost x (by rw[aw];simp);have c_:∀p∈mC G S x.1,p.1<w.au.length:=λp hp=>by rw[h.len];exact G.tF _ p.1 p.2 As (wW.1 hp).1
  obtain⟨eO,fS,_,_⟩:=VS (S:=S) (old:=x.2) (mC G S x.1) {w with aQ:=r} c_;have ahm:Lo w.au:=λk c ao aA=>h.bound k c (by rw[<-h.len];exact ao) aA
  obtain⟨c9,eF⟩:=XZ (S:=S) (old:=x.2) (mC G S x.1) {w with aQ:=r} c_ ahm λy hy=>f.fL y (by rw[aw];simp [hy])
  change (iR G S w x r).aQ.length+mS qe (iR G S w x r).au<=r.length+mS qe w.au at eO
  change (iR G S w x r).au.length=w.au.length at fS
  change CS (iR G S w x r).aQ at c9
  change (iR G S w x r).gone.length+r.length=(iR G S w x r).aQ.length+w.gone.length at eF
  have bn:=f.XY;unfold Gu;split
  ·rename_i de
   obtain⟨g1,g2,g3⟩:=X0 (λk:Nat=>k) (iR G S w x r).gone (iR G S w x r)
   change ((iR G S w x r).gone.foldl jQ (iR G S w x r)).au=_ at g1
   change ((iR G S w x r).gone.foldl jQ (iR G S w x r)).aQ=_ at g2
   refine⟨?_,?_⟩
   ·show CS ((iR G S w x r).gone.foldl jQ (iR G S w x r)).aQ
    rw[g2];exact c9
   ·show ([]:List Nat).length+mS qe ((iR G S w x r).gone.foldl jQ (iR G S w x r)).au<=4*((iR G S w x r).gone.foldl jQ (iR G S w x r)).au.length+1
    rw[g1];have:=Gw (iR G S w x r);simp only [List.length_nil];omega
  ·exact⟨c9,aj⟩
 ·rename_i aw
  obtain⟨z6,_⟩:=h.up aw;split at hu
  ·rename_i k r bg
   cases hu;have key:∀w':gT,w'.aQ=[]->w'.gone=[]->A0 w':=λw' af ah=>⟨(by rw[af];exact λx aw=>absurd aw (by simp)),by
    have:=Gw w';rw[ah,List.length_nil]
    omega⟩
   unfold Gv;simp only;split
   ·obtain⟨_,g2,g3⟩:=X0 (λp:Nat×Int=>p.1) (mC G S k) {w with aE:=r,waits:=w.waits.set k false,au:=w.au.set k (uE (qG G S w k) (w.au.getD k z4))}
    exact key _ (g2.trans aw) (g3.trans z6)
   ·exact key _ aw z6
  ·cases hu
theorem A0.BW {S:il} {w:gT} (h:rV G S w) (af:w.aQ=[]) (ah:w.gone=[]) {k:Nat} (ao:k<G.N):A0 (j9 w k (w.au.getD k z4)):=by
 refine⟨?_,?_⟩
 ·intro x aw c aA
  unfold j9 at aw;simp only [af,List.nil_append,List.mem_singleton] at aw;rw[aw];exact h.bound k c ao aA
 ·have:=Gw (j9 w k (w.au.getD k z4))
  have bg:(j9 w k (w.au.getD k z4)).gone.length=1:=by
   unfold j9;simp [ah]
  omega
structure hn (table:List dx) (b:cx) (u:gY):Prop where
 CT:XX table
 box:okB b
 len:u.aX.length=(gj b).toNat
 H4:u.lit.length=u.aX.length
 few:u.aX.length<=10000
 work:rV (hG b) (jz table u.lit u.aX) (iq u)
 fit:A0 (iq u)
 nN:nN (hG b).N (iq u)<=qH (hG b).N
 reqs:∀x∈u.reqs,x.1<u.aX.length
def iy (b:cx) (u:gY):Nat:=nN (hG b).N (iq u)+qH (hG b).N*u.reqs.length
variable {table:List dx} {b:cx} {u:gY}
theorem hn.N (h:hn table b u):(hG b).N=u.aX.length:=(QZ h.box).trans h.len.symm
theorem hn.ok (h:hn table b u):(jz table u.lit u.aX).rT (hG b).N:=⟨λk _=>(h.CT _).1,λk c _ aA=>(h.CT _).2.2 c aA⟩
theorem hn.X1 (h:hn table b u):u.au.length=u.aX.length:=h.work.len.trans h.N
theorem hn.ahn (h:hn table b u):u.waits.length=u.aX.length:=h.work.wait.len.trans h.N
theorem hn.fL (h:hn table b u):∀x∈u.aQ,x.1<u.aX.length/\0<=x.2.1/\x.2.1<=15/\0<=x.2.2.1/\x.2.2.1<=15/\0<=x.2.2.2.1/\x.2.2.2.1<=15/\0<=x.2.2.2.2/\x.2.2.2.2<=15:=λx aw=>by
 have dU:(iq u).aQ≠[]:=λe=>by
  have:x∈(iq u).aQ:=aw;rw[e] at this;cases this
 obtain⟨_,ke,cL,fe,cur,_,bu⟩:=h.work.down dU;have q:=h.fit.fL x aw;refine⟨by rw[<-h.N];exact bu.lost x aw,?_⟩;exact⟨(q 0 aL).1,(q 0 aL).2,(q 1 aL).1,(q 1 aL).2,(q 2 aL).1,(q 2 aL).2,(q 3 aL).1,(q 3 aL).2⟩
theorem hn.nw (h:hn table b u):∀k∈u.aE,k<u.aX.length:=λk ao=>by rw[<-h.N];exact h.work.wait.lt k ao
theorem hn.go (h:hn table b u):∀k∈u.gone,k<u.aX.length:=λk ao=>by
 by_cases aw:(iq u).aQ=[]
 ·have:=(h.work.up aw).1
  have Df:k∈(iq u).gone:=ao;rw[this] at Df;cases Df
 ·obtain⟨_,ke,cL,fe,cur,_,bu⟩:=h.work.down aw
  rw[<-h.N];exact bu.D' k ao
theorem hn.li (h:hn table b u):∀n,n<u.aX.length->0<=(u.au.getD n default).1/\(u.au.getD n default).1<=15/\0<=(u.au.getD n default).2.1/\(u.au.getD n default).2.1<=15/\0<=(u.au.getD n default).2.2.1/\(u.au.getD n default).2.2.1<=15/\0<=(u.au.getD n default).2.2.2/\(u.au.getD n default).2.2.2<=15:=λn aT=>by
 have q:=λc (aA:c<4)=>h.work.bound n c (by rw[h.N];exact aT) aA
 exact⟨(q 0 aL).1,(q 0 aL).2,(q 1 aL).1,(q 1 aL).2,(q 2 aL).1,(q 2 aL).2,(q 3 aL).1,(q 3 aL).2⟩
theorem hn.bQ (h:hn table b u):∀n,n<u.aX.length->1<=(bA table (u.lit.getD n default)).2.2.2.2.1/\(bA table (u.lit.getD n default)).2.2.2.2.1<=16:=λn _=>⟨(h.CT _).1,(h.CT _).2.1⟩
theorem hn.fP (h:hn table b u):u.aQ.length<=50000:=by
 have hp:=h.nN;unfold a1.nN at hp;have kN:=h.N;have bn:=h.few;by_cases aw:(iq u).aQ=[]
 ·have:u.aQ=[]:=aw
  rw[this];exact Nat.zero_le _
 ·rw[aV aw] at hp
  unfold qH at hp;have:(iq u).aQ.length=u.aQ.length:=rfl;omega
theorem hn.ew (h:hn table b u):u.gone.length<=50000:=by
 have af:=h.fit.XY;have ah:=h.X1;have bn:=h.few;have bs:(iq u).gone.length=u.gone.length:=rfl;have cw:(iq u).au.length=u.au.length:=rfl;omega
theorem hn.qX (h:hn table b u):u.aE.length<=50000:=by
 have af:=h.work.wait.count;have bn:=h.few;have kN:=h.N;have bs:(iq u).aE.length=u.aE.length:=rfl;omega
theorem X2 (u:gY) (x:e2) (r:List e2):(yg table b u x r).lit=u.lit/\(yg table b u x r).aX=u.aX/\(yg table b u x r).reqs=u.reqs:=by
 unfold yg;split<;>exact⟨rfl,rfl,rfl⟩
theorem X3 (u:gY) (k:Nat) (r:List Nat):(yh table b u k r).lit=u.lit/\(yh table b u k r).aX=u.aX/\(yh table b u k r).reqs=u.reqs:=by
 unfold yh;split<;>exact⟨rfl,rfl,rfl⟩
theorem hn.step {u':gY} (h:hn table b u) (hu:tH (hG b) (jz table u.lit u.aX) (iq u)=some (iq u')) (ao:u'.lit=u.lit/\u'.aX=u.aX/\u'.reqs=u.reqs):hn table b u'/\iy b u'+1<=iy b u:=by
 obtain⟨gZ,jn,wS⟩:=ao;obtain⟨w1,w2⟩:=h.work.unit h.ok hu;refine⟨⟨h.CT,h.box,by rw[jn];exact h.len,by rw[gZ,jn];exact h.H4,by rw[jn];exact h.few,by rw[gZ,jn];exact w1,h.fit.unit h.work hu,by have:=h.nN;omega,by rw[wS,jn];exact h.reqs⟩,?_⟩;unfold iy;rw[wS];omega
theorem hn.unit (h:hn table b u) (af:(fK table b u).1=true):hn table b (fK table b u).2/\iy b (fK table b u).2+1<=iy b u:=by
 by_cases az:u.aQ=[]
 ·by_cases bg:u.aE=[]
  ·by_cases ar:u.reqs=[]
   ·rw[Ey (by rw[az];simp) (by rw[bg];simp) (by rw[ar];simp)] at af
    cases af
   ·have aw:u.reqs=u.reqs.getD 0 default::u.reqs.drop 1:=H3 ar
    rw[HA (by rw[az];simp) (by rw[bg];simp) (List.length_pos_iff.2 ar)];have kZ:(u.reqs.getD 0 default).1<u.aX.length:=h.reqs _ (by rw[aw];simp);have ao:(u.reqs.getD 0 default).1<(hG b).N:=by rw[h.N];exact kZ
    have aT:=XW (table:=table) (b:=b) az bg;generalize he:u.reqs.getD 0 default=x at aw kZ ao ⊢;have hw:iq (Le u x (u.reqs.drop 1))=j9 (iq u) x.1 ((iq u).au.getD x.1 z4):=rfl;have yy:∀n,n≠x.1->(jz table (u.lit.set x.1 x.2.1) (u.aX.set x.1 x.2.2)).kY n=(jz table u.lit u.aX).kY n/\(∀c,(jz table (u.lit.set x.1 x.2.1) (u.aX.set x.1 x.2.2)).emit n c=(jz table u.lit u.aX).emit n c)/\(jz table (u.lit.set x.1 x.2.1) (u.aX.set x.1 x.2.2)).aX n=(jz table u.lit u.aX).aX n:=λn dU=>by
     have bs:(u.lit.set x.1 x.2.1).getD n default=u.lit.getD n default:=by
      rw[y5 (by rw[h.H4];exact kZ),aV dU]
     have cw:(u.aX.set x.1 x.2.2).getD n default=u.aX.getD n default:=by
      rw[y5 kZ,aV dU]
     refine⟨?_,λc=> ?_,cw⟩
     ·show (bA table ((u.lit.set x.1 x.2.1).getD n default)).2.2.2.2.1=_
      rw[bs];rfl
     ·show cX (bA table ((u.lit.set x.1 x.2.1).getD n default)) c=_
      rw[bs];rfl
    obtain⟨t1,t2⟩:=h.work.BW h.ok aT ao yy;obtain⟨s1,_,tv,_⟩:=h.work.settled h.ok aT;have aA:u.reqs.length=(u.reqs.drop 1).length+1:=by
     rw[List.length_drop];have:=List.length_pos_iff.2 ar;omega
    refine⟨⟨h.CT,h.box,?_,?_,?_,?_,?_,?_,?_⟩,?_⟩
    ·show (u.aX.set x.1 x.2.2).length=_
     rw[List.length_set];exact h.len
    ·show (u.lit.set x.1 x.2.1).length=(u.aX.set x.1 x.2.2).length
     rw[List.length_set,List.length_set];exact h.H4
    ·show (u.aX.set x.1 x.2.2).length<=_
     rw[List.length_set];exact h.few
    ·rw[hw]
     exact t1
    ·rw[hw]
     exact A0.BW h.work s1 tv ao
    ·rw[hw]
     omega
    ·intro y hy
     show y.1<(u.aX.set x.1 x.2.2).length;rw[List.length_set];exact h.reqs y (by rw[aw];exact List.mem_cons_of_mem _ hy)
    ·unfold iy
     rw[hw,aA];show _+qH (hG b).N*(u.reqs.drop 1).length+1<=_;rw[Nat.mul_add,Nat.mul_one];omega
  ·rw[Ex (by rw[az];simp) (List.length_pos_iff.2 bg)]
   have aw:u.aE=u.aE.getD 0 default::u.aE.drop 1:=H3 bg;refine h.step (ahk h.box az bg ?_) (X3 u _ _);rw[h.N];exact h.nw _ (by rw[aw];simp)
 ·rw[Ew (List.length_pos_iff.2 az)]
  exact h.step (ahj az) (X2 u _ _)
theorem hn.done (h:hn table b u) (af:(fK table b u).1=false):(fK table b u).2=u/\u.aQ=[]/\u.aE=[]/\u.reqs=[]/\u.gone=[]/\y4 (hG b) (jz table u.lit u.aX) (eK u.au):=by
 by_cases az:u.aQ=[]
 ·by_cases bg:u.aE=[]
  ·by_cases ar:u.reqs=[]
   ·obtain⟨s1,s2,tv,Oe⟩:=h.work.settled h.ok (XW (table:=table) (b:=b) az bg)
    exact⟨by rw[Ey (by rw[az];simp) (by rw[bg];simp) (by rw[ar];simp)],az,bg,ar,tv,Oe⟩
   ·rw[HA (by rw[az];simp) (by rw[bg];simp) (List.length_pos_iff.2 ar)] at af
    cases af
  ·rw[Ex (by rw[az];simp) (List.length_pos_iff.2 bg)] at af
   cases af
 ·rw[Ew (List.length_pos_iff.2 az)] at af
  cases af
theorem hn.ask {x:gJ} (h:hn table b u) (aw:x.1<u.aX.length):hn table b {u with reqs:=u.reqs++[x]}/\iy b {u with reqs:=u.reqs++[x]}=iy b u+qH (hG b).N:=by
 refine⟨⟨h.CT,h.box,h.len,h.H4,h.few,h.work,h.fit,h.nN,λy hy=> ?_⟩,?_⟩
 ·rcases List.mem_append.1 hy with hy|hy
  ·exact h.reqs y hy
  ·rw[List.mem_singleton.1 hy]
   exact aw
 ·unfold iy
  show a1.nN (hG b).N (iq u)+qH (hG b).N*(u.reqs++[x]).length=_;rw[List.length_append,List.length_singleton,Nat.mul_add,Nat.mul_one];omega
def ou (table:List dx) (b:cx):Nat->gY->gY
 |0,u=>u
 |n+1,u=>(fK table b (ou table b n u)).2
end a1
namespace a1
def i' (table:List dx) (b:cx):Nat->gY->Nat×gY
 |0,u=>(0,u)
 |f+1,u=>if (fK table b u).1=true then ((i' table b f (fK table b u).2).1+1,(i' table b f (fK table b u).2).2) else (0,u)
variable {table:List dx} {b:cx}
theorem H5 (n:Nat) (u:gY):ou table b (n+1) u=ou table b n (fK table b u).2:=by
 induction n with
 |zero=>rfl
 |succ n eJ=>exact congrArg (λx=>(fK table b x).2) eJ
theorem Q0:∀(d f:Nat) (u:gY),d<=f->(∀m,m<d->(fK table b (ou table b m u)).1=true)->(d=f\/(fK table b (ou table b d u)).1=false)->i' table b f u=(d,ou table b d u)
 |0,0,u,_,_,_=>rfl
 |0,f+1,u,_,_,h=>by
  have h:=h.resolve_left aj
  change (fK table b u).1=false at h
  unfold i';rw[h];rfl
 |d+1,0,u,h,_,_=>absurd h aj
 |d+1,f+1,u,h,af,ah=>by
  have bd:=af 0 aj
  change (fK table b u).1=true at bd
  have:=Q0 d f (fK table b u).2 aj (λm hm=>by rw[<-H5];exact af (m+1) aj) (ah.imp (λe=>by omega) λe=>by rw[<-H5];exact e);unfold i';rw[aP bd,this,H5]
theorem hn.many {u:gY} (h:hn table b u):∀d,(∀m,m<d->(fK table b (ou table b m u)).1=true)->hn table b (ou table b d u)/\d+iy b (ou table b d u)<=iy b u
 |0,_=>⟨h,by simp [ou]⟩
 |d+1,af=>by
  obtain⟨q1,aI⟩:=hn.many h d λm hm=>af m aj
  obtain⟨c9,eF⟩:=q1.unit (af d aj);refine⟨c9,?_⟩;show d+1+iy b (fK table b (ou table b d u)).2<=_;omega
theorem Lp:∀(f:Nat) (u:gY),(i' table b f u).1<=f/\(i' table b f u).2=ou table b (i' table b f u).1 u/\(∀m,m<(i' table b f u).1->(fK table b (ou table b m u)).1=true)/\((i' table b f u).1=f\/(fK table b (i' table b f u).2).1=false)
 |0,u=>⟨c4 _,rfl,λm hm=>absurd hm (Nat.not_lt_zero m),.inl rfl⟩
 |f+1,u=>by
  obtain⟨af,ah,aH,ck⟩:=Lp f (fK table b u).2;unfold i';split
  ·rename_i h
   refine⟨by simp only;omega,by rw[H5];exact ah,λm hm=> ?_,?_⟩
   ·cases m with
    |zero=>exact h
    |succ m=>
     rw[H5];exact aH m (by simp only at hm;omega)
   ·exact ck.imp (λe=>by simp only;omega) λe=>e
  ·rename_i h
   exact⟨Nat.zero_le _,rfl,λm hm=>absurd hm (Nat.not_lt_zero m),.inr (by simpa using h)⟩
theorem hn.settle {u:gY} (h:hn table b u):hn table b (i' table b (iy b u) u).2/\(fK table b (i' table b (iy b u) u).2).1=false/\(i' table b (iy b u) u).1+iy b (i' table b (iy b u) u).2<=iy b u:=by
 obtain⟨af,ah,aH,ck⟩:=Lp (table:=table) (b:=b) (iy b u) u;obtain⟨q1,aI⟩:=h.many _ aH;rw[<-ah] at q1 aI;refine⟨q1,?_,aI⟩;rcases ck with ck|ck
 ·cases hu:(fK table b (i' table b (iy b u) u).2).1 with
  |false=>rfl
  |true=>
   have:=(q1.unit hu).2;omega
 ·exact ck
theorem hn.run {u:gY} (h:hn table b u) (f:Nat):hn table b (i' table b f u).2/\(i' table b f u).1+iy b (i' table b f u).2<=iy b u:=by
 obtain⟨af,ah,aH,ck⟩:=Lp (table:=table) (b:=b) f u;obtain⟨q1,aI⟩:=h.many _ aH;rw[<-ah] at q1 aI;exact⟨q1,aI⟩
theorem hn.X4 {u:gY} (h:hn table b u) (ar:u.reqs.length<=10000):iy b u<=1000000000000:=by
 have af:=h.nN;have ah:(hG b).N<=10000:=by rw[h.N];exact h.few
 have aH:qH (hG b).N<=3650002:=by unfold qH;omega
 have ck:qH (hG b).N*u.reqs.length<=3650002*10000:=Nat.mul_le_mul aH ar;unfold iy;omega
theorem aho {rQ vs:gY} {d:Nat} (h:vs=ou table b d rQ) (hm:∀m,m<d->(fK table b (ou table b m rQ)).1=true) (bw:(fK table b vs).1=true):
  (fK table b vs).2=ou table b (d+1) rQ/\∀m,m<d+1->(fK table b (ou table b m rQ)).1=true:=by
 subst h;refine⟨rfl,λm ahp=> ?_⟩;rcases Nat.lt_succ_iff_lt_or_eq.1 ahp with h|rfl
 ·exact hm m h
 ·exact bw
end a1
namespace a1
namespace X5
noncomputable def body:Code:=(Tryd.f78.body).getD .skip
def N:Nat:=14
noncomputable abbrev b9:=fu Tryd.prog Tryd.f78
def aZ:c6:={sl:=bm [(1,.agg ⟨[I 0,I 0,I 0,I 0,I 0,I 0]⟩),(0,.agg ⟨[0,1,2,3,4,5]⟩)],ms:=[],A:=start}
def bz:aU:=[(.eZ #[3,3] 3 0 (I 0),6),
 (.eZ #[3,3] 3 1 (I 0),7),
 (.eZ #[3,3] 3 2 (I 0),8),
 (.oZ #[3,3] 3 3 (I 0),9),
 (.oZ #[3,3] 3 4 (I 0),10),
 (.oZ #[3,3] 3 5 (I 0),11),
 (.bin .geq 3 6 6,.bool true),
 (.bin .lss 3 6 9,.bool true),
 (.bin .geq 3 7 7,.bool true),
 (.bin .lss 3 7 10,.bool true),
 (.bin .geq 3 8 8,.bool true),
 (.bin .lss 3 8 11,.bool true)]
theorem b4:b9 (at' 14 bz [] body aZ)=some (.agg ⟨[6,7,8,9,10,11]⟩):=ag
def cp:aU:=[(.eZ #[3,3] 3 0 (I 0),6),
 (.eZ #[3,3] 3 1 (I 0),7),
 (.eZ #[3,3] 3 2 (I 0),8),
 (.oZ #[3,3] 3 3 (I 0),9),
 (.oZ #[3,3] 3 4 (I 0),10),
 (.oZ #[3,3] 3 5 (I 0),11),
 (.bin .geq 3 6 6,.bool true),
 (.bin .lss 3 6 9,.bool true),
 (.bin .geq 3 7 7,.bool true),
 (.bin .lss 3 7 10,.bool true),
 (.bin .geq 3 8 8,.bool true),
 (.bin .lss 3 8 11,.bool false)]
theorem bs:b9 (at' 14 cp [] body aZ)=some (.agg ⟨[I 0,I 0,I 0,I 0,I 0,I 0]⟩):=ag
def dh:aU:=[(.eZ #[3,3] 3 0 (I 0),6),
 (.eZ #[3,3] 3 1 (I 0),7),
 (.eZ #[3,3] 3 2 (I 0),8),
 (.oZ #[3,3] 3 3 (I 0),9),
 (.oZ #[3,3] 3 4 (I 0),10),
 (.oZ #[3,3] 3 5 (I 0),11),
 (.bin .geq 3 6 6,.bool true),
 (.bin .lss 3 6 9,.bool true),
 (.bin .geq 3 7 7,.bool true),
 (.bin .lss 3 7 10,.bool false)]
theorem cw:b9 (at' 14 dh [] body aZ)=some (.agg ⟨[I 0,I 0,I 0,I 0,I 0,I 0]⟩):=ag
def d':aU:=[(.eZ #[3,3] 3 0 (I 0),6),
 (.eZ #[3,3] 3 1 (I 0),7),
 (.eZ #[3,3] 3 2 (I 0),8),
 (.oZ #[3,3] 3 3 (I 0),9),
 (.oZ #[3,3] 3 4 (I 0),10),
 (.oZ #[3,3] 3 5 (I 0),11),
 (.bin .geq 3 6 6,.bool true),
 (.bin .lss 3 6 9,.bool false)]
theorem dD:b9 (at' 14 d' [] body aZ)=some (.agg ⟨[I 0,I 0,I 0,I 0,I 0,I 0]⟩):=ag
@[reducible] noncomputable def a6 (b:cx):List ad:=[I b.1,I b.2.1,I b.2.2.1,I b.2.2.2.1,I b.2.2.2.2.1,I b.2.2.2.2.2,I (max b.1 0),I (max b.2.1 0),I (max b.2.2.1 0),I (min b.2.2.2.1 0),I (min b.2.2.2.2.1 0),I (min b.2.2.2.2.2 0)]
theorem any (W:aG) (b:cx):Calls Tryd.prog 78 #[X.val b,.agg ⟨[I 0,I 0,I 0,I 0,I 0,I 0]⟩] W λe w'=>e= .returned (.agg ⟨[I 0,I 0,I 0,I 0,I 0,I 0]⟩)/\cO W.heap.size W w':=by
 refine kT (a6 b) body aZ N [.agg ⟨[al 0,al 1,al 2,al 3,al 4,al 5]⟩,.agg ⟨[I 0,I 0,I 0,I 0,I 0,I 0]⟩] Tryd.func78 λa ae=> ?_
 letI:=bE ae;by_cases bd:(max b.1 0)<(min b.2.2.2.1 0)
 ·by_cases af:(max b.2.1 0)<(min b.2.2.2.2.1 0)
  ·by_cases ah:(max b.2.2.1 0)<(min b.2.2.2.2.2 0)
   ·refine br bz [] (U (aW.jL J J J J J J) (U (aW.jL J J J J J J) (U (aW.jL J J J J J J) (U (aW.vx J J J J J J) (U (aW.vx J J J J J J) (U (aW.vx J J J J J J) (U bf (U bf (U bf (U bf (U bf (U bf aB)))))))))))) aC ?_ ae
    exact b2 b4 λw2 bk=>(by (exfalso;omega))
   ·refine br cp [] (U (aW.jL J J J J J J) (U (aW.jL J J J J J J) (U (aW.jL J J J J J J) (U (aW.vx J J J J J J) (U (aW.vx J J J J J J) (U (aW.vx J J J J J J) (U bf (U bf (U bf (U bf (U bf (U a' aB)))))))))))) aC ?_ ae
    exact b2 bs λw2 bk=>(by rfl)
  ·refine br dh [] (U (aW.jL J J J J J J) (U (aW.jL J J J J J J) (U (aW.jL J J J J J J) (U (aW.vx J J J J J J) (U (aW.vx J J J J J J) (U (aW.vx J J J J J J) (U bf (U bf (U bf (U a' aB)))))))))) aC ?_ ae
   exact b2 cw λw2 bk=>(by rfl)
 ·refine br d' [] (U (aW.jL J J J J J J) (U (aW.jL J J J J J J) (U (aW.jL J J J J J J) (U (aW.vx J J J J J J) (U (aW.vx J J J J J J) (U (aW.vx J J J J J J) (U bf (U a' aB)))))))) aC ?_ ae
  exact b2 dD λw2 bk=>(by rfl)
end X5
end a1
namespace a1
def Q1:ad:= .agg ⟨[.int .i64 0,.int .i64 0,.int .i64 0,.int .i64 0,.int .i64 0,.int .i64 0]⟩
variable [bp]
theorem X6 {x y r:ad} {b:cx} (hp:fH [x,y]=true) (ar:bL r=true) (b5:fl [x,y]=[X.val b,Q1]) (dc:bb r=Q1):j0 Tryd.prog (78,[x,y],r):=
 kP (a:= #[X.val b,Q1]) hp ar b5 dc λw _=>X5.any w b
end a1
namespace a1
@[reducible] def ov (b:cx) (v:ad):ad:= .agg ⟨[.int .i64 b.1,.int .i64 b.2.1,.int .i64 b.2.2.1,.int .i64 b.2.2.2.1,.int .i64 b.2.2.2.2.1,.int .i64 b.2.2.2.2.2,v]⟩
theorem ahq {α:Type} {P:bB} {f:FuncId} {args:Array ad} {w:aG} {e:bq} {k:Nat} {enc:α->List ad} {l:List α} {L:List df} {F:ad->ad} (ay:dO (a7 w) L)
  (h:Calls P f args w λe' w'=>(∃a c,e'= .returned (F (.slice a l.length c))/\eI w.heap.size (a7 w') e k enc (.slice a l.length c) l)/\cO w.heap.size w w'):
  Calls P f args w λe' w'=>(∃y:Option Addr×Nat,e'= .returned (F (.slice y.1 l.length y.2))/\dw (a7 w) L (a7 w') (L++[fY e k enc (.slice y.1 l.length y.2) l]))/\cO 0 w w':=
 h.mono λe' w' he=>by
   obtain⟨⟨a,c,rfl,dR⟩,az⟩:=he;have t:dw (a7 w) [] (a7 w') [fY e k enc (.slice a l.length c) l]:=⟨dO.one (Ch dR),λi o ak _=>by
    rw[show a7 w' i=a7 w i from az.block i (Array.getElem?_eq_some_iff.1 ak).1]
    exact ak,λb ai=> .inr (Array.getElem?_eq_none_iff.2 (dR.known b (ra.1 ai)).2)⟩
   exact⟨⟨(a,c),rfl,(ay.own.new t).GX⟩,az.zero⟩
theorem ahr {α:Type} (M:Mem) (e:bq) (k:Nat) (enc:α->List ad):dw M [] M [fY e k enc (.slice none 0 0) []]:=
 ⟨dO.one (Ch (eI.nil 0 M e k enc none)),λ_ _ h _=>h,λb ai=>by
   have:some b=fX (.slice none 0 0):=ra.1 ai
   cases this⟩
theorem Q2 {α:Type} (M:Mem) (e:bq) (k:Nat) (enc:α->List ad):dw M [] M [kd e k enc (.slice none 0 0) []]:=
 ⟨dO.one (Vs (eI.nil 0 M e k enc none).queue),λ_ _ h _=>h,λb ai=>by
   have:some b=fX (.slice none 0 0):=ra.1 ai
   cases this⟩
end a1
namespace a1
namespace X7
noncomputable def body:Code:=(Tryd.f40.body).getD .skip
def N:Nat:=8
def aZ:c6:={sl:=bm [(0,0)],ms:=[],A:=start}
def bz:aU:=[(.bin .eql 45 0 (.slice none 0 0),.bool true)]
theorem b4:fu Tryd.prog Tryd.f40 (at' 8 bz [] body aZ)=some (.slice none 0 0):=ag
def cp:aU:=[(.bin .eql 45 0 (.slice none 0 0),.bool false)]
theorem bs:q9 45 (at' 8 cp [] body aZ)=some (.slice (some ⟨0,0,none⟩) 0 0,0):=ag
abbrev eT:=at' 8 cp [] body aZ
def cY:List bG:=[]
def c8:ax:=bm [(2,.slice none 0 0)]
def c0:ax:=dS 8 c8 7 1
theorem cw:bF (b0 eT) c8 cY=some []:=ag
def c5:ct:=(body,[1,1,0],3)
theorem iC:fu Tryd.prog Tryd.f40 (bD 8 [] [] c5 (aN c0 cY))=some 1:=ag
@[reducible] noncomputable def a6 (l:List cc) (ej:bH) (er:Nat) (cj:List cc:=[]) (a0:bH:=none) (eN:Nat:=0):List ad:=[aO ej l er,aO a0 cj eN]
theorem any (W:aG) {iZ:ad} {l:List cc} (az:dr (a7 W) 4 kh iZ l) (aT:l.length<=100000):Calls Tryd.prog 40 #[iZ] W λe w'=>(∃a c,e= .returned (aO a l c)/\eI W.heap.size (a7 w') oK 4 kh (aO a l c) l)/\cO W.heap.size W w':=by
 obtain⟨ej,er,rfl⟩:=az.slice;refine kT (a6 l ej er) body aZ N [al 0] Tryd.func40 λa ae=> ?_
 letI:=bE ae;by_cases bd:ej=none
 ·refine br bz [] (U (aW.J0 rfl kg rfl bd) aB) aC ?_ ae
  exact b2 b4 λw2 bk=>(by (subst bd;exact JZ az.isNil))
 ·refine br cp [] (U (aW.J1 rfl kg rfl bd) aB) aC ?_ ae
  obtain⟨cj,fD⟩:=ey ([]++l);have hh:cj.length=0+l.length:=by rw[fD];simp
  refine B2 (l:=[]) (lx:=l) (l':=cj) (bC:=λoi oj=>(a6 l ej er cj oi oj)) (T:=none) fD bs kg V6 V7 V8 V9 aeF aL eH aeG cw (cF c0 1) rfl (JY ag) (B3 J J λw hw=>az.reads eH hw) (wQ (show 0+l.length<=1000000 by omega)) (show (0+l.length)*Ku<=140737488355328 by unfold Ku;omega) (λ_ _ _=>yT) (λ_ _ _=>rfl) ?_;intro fN a0 eN lT gb s7 ch w ae;have vX:=gb.up s7 (c4 _) (λ_ _ h=>h);letI:=bE ae;refine cm (cn c5) [] [] aB aC ?_ ae;exact b2 iC λw2 bk=>(by (exact B5 lT (by rw[fD];rfl) bk))
end X7
namespace H6
noncomputable def body:Code:=(Tryd.f33.body).getD .skip
def N:Nat:=8
def aZ:c6:={sl:=bm [(0,0)],ms:=[],A:=start}
def bz:aU:=[(.bin .eql 30 0 (.slice none 0 0),.bool true)]
theorem b4:fu Tryd.prog Tryd.f33 (at' 8 bz [] body aZ)=some (.slice none 0 0):=ag
def cp:aU:=[(.bin .eql 30 0 (.slice none 0 0),.bool false)]
theorem bs:q9 30 (at' 8 cp [] body aZ)=some (.slice (some ⟨0,0,none⟩) 0 0,0):=ag
abbrev eT:=at' 8 cp [] body aZ
def cY:List bG:=[]
def c8:ax:=bm [(2,.slice none 0 0)]
def c0:ax:=dS 8 c8 7 1
theorem cw:bF (b0 eT) c8 cY=some []:=ag
def c5:ct:=(body,[1,1,0],3)
theorem iC:fu Tryd.prog Tryd.f33 (bD 8 [] [] c5 (aN c0 cY))=some 1:=ag
@[reducible] noncomputable def a6 (l:List Bool) (ej:bH) (er:Nat) (cj:List Bool:=[]) (a0:bH:=none) (eN:Nat:=0):List ad:=[aO ej l er,aO a0 cj eN]
theorem any (W:aG) {iZ:ad} {l:List Bool} (az:dr (a7 W) 1 iw iZ l) (aT:l.length<=100000):Calls Tryd.prog 33 #[iZ] W λe w'=>(∃a c,e= .returned (aO a l c)/\eI W.heap.size (a7 w') mT 1 iw (aO a l c) l)/\cO W.heap.size W w':=by
 obtain⟨ej,er,rfl⟩:=az.slice;refine kT (a6 l ej er) body aZ N [al 0] Tryd.func33 λa ae=> ?_
 letI:=bE ae;by_cases bd:ej=none
 ·refine br bz [] (U (aW.J0 rfl kA rfl bd) aB) aC ?_ ae
  exact b2 b4 λw2 bk=>(by (subst bd;exact JZ az.isNil))
 ·refine br cp [] (U (aW.J1 rfl kA rfl bd) aB) aC ?_ ae
  obtain⟨cj,fD⟩:=ey ([]++l);have hh:cj.length=0+l.length:=by rw[fD];simp
  refine B2 (l:=[]) (lx:=l) (l':=cj) (bC:=λoi oj=>(a6 l ej er cj oi oj)) (T:=none) fD bs kA O1 O2 O3 O4 aeE aL h9 O5 cw (cF c0 1) rfl (JY ag) (B3 J J λw hw=>az.reads h9 hw) (wQ (show 0+l.length<=1000000 by omega)) (show (0+l.length)*Gz<=140737488355328 by unfold Gz;omega) (λ_ _ _=>yT) (λ_ _ _=>rfl) ?_;intro fN a0 eN lT gb s7 ch w ae;have vX:=gb.up s7 (c4 _) (λ_ _ h=>h);letI:=bE ae;refine cm (cn c5) [] [] aB aC ?_ ae;exact b2 iC λw2 bk=>(by (exact B5 lT (by rw[fD];rfl) bk))
end H6
namespace Q3
noncomputable def body:Code:=(Tryd.f77.body).getD .skip
def N:Nat:=8
def aZ:c6:={sl:=bm [(0,0)],ms:=[],A:=start}
def bz:aU:=[(.bin .eql 26 0 (.slice none 0 0),.bool true)]
theorem b4:fu Tryd.prog Tryd.f77 (at' 8 bz [] body aZ)=some (.slice none 0 0):=ag
def cp:aU:=[(.bin .eql 26 0 (.slice none 0 0),.bool false)]
theorem bs:q9 26 (at' 8 cp [] body aZ)=some (.slice (some ⟨0,0,none⟩) 0 0,0):=ag
abbrev eT:=at' 8 cp [] body aZ
def cY:List bG:=[]
def c8:ax:=bm [(2,.slice none 0 0)]
def c0:ax:=dS 8 c8 7 1
theorem cw:bF (b0 eT) c8 cY=some []:=ag
def c5:ct:=(body,[1,1,0],3)
theorem iC:fu Tryd.prog Tryd.f77 (bD 8 [] [] c5 (aN c0 cY))=some 1:=ag
@[reducible] noncomputable def a6 (l:List Int) (ej:bH) (er:Nat) (cj:List Int:=[]) (a0:bH:=none) (eN:Nat:=0):List ad:=[aO ej l er,aO a0 cj eN]
theorem any (W:aG) {iZ:ad} {l:List Int} (az:dr (a7 W) 1 gq iZ l) (aT:l.length<=100000):Calls Tryd.prog 77 #[iZ] W λe w'=>(∃a c,e= .returned (aO a l c)/\eI W.heap.size (a7 w') lD 1 gq (aO a l c) l)/\cO W.heap.size W w':=by
 obtain⟨ej,er,rfl⟩:=az.slice;refine kT (a6 l ej er) body aZ N [al 0] Tryd.func77 λa ae=> ?_
 letI:=bE ae;by_cases bd:ej=none
 ·refine br bz [] (U (aW.J0 rfl iD rfl bd) aB) aC ?_ ae
  exact b2 b4 λw2 bk=>(by (subst bd;exact JZ az.isNil))
 ·refine br cp [] (U (aW.J1 rfl iD rfl bd) aB) aC ?_ ae
  obtain⟨cj,fD⟩:=ey ([]++l);have hh:cj.length=0+l.length:=by rw[fD];simp
  refine B2 (l:=[]) (lx:=l) (l':=cj) (bC:=λoi oj=>(a6 l ej er cj oi oj)) (T:=none) fD bs iD J8 J9 J' J_ Ka aL j2 Kb cw (cF c0 1) rfl (JY ag) (B3 J J λw hw=>az.reads j2 hw) (wQ (show 0+l.length<=1000000 by omega)) (show (0+l.length)*yX<=140737488355328 by unfold yX;omega) (λ_ _ _=>yT) (λ_ _ _=>rfl) ?_;intro fN a0 eN lT gb s7 ch w ae;have vX:=gb.up s7 (c4 _) (λ_ _ h=>h);letI:=bE ae;refine cm (cn c5) [] [] aB aC ?_ ae;exact b2 iC λw2 bk=>(by (exact B5 lT (by rw[fD];rfl) bk))
end Q3
namespace X8
noncomputable def body:Code:=(Tryd.f32.body).getD .skip
def N:Nat:=8
def aZ:c6:={sl:=bm [(0,0)],ms:=[],A:=start}
def bz:aU:=[(.bin .eql 29 0 (.slice none 0 0),.bool true)]
theorem b4:fu Tryd.prog Tryd.f32 (at' 8 bz [] body aZ)=some (.slice none 0 0):=ag
def cp:aU:=[(.bin .eql 29 0 (.slice none 0 0),.bool false)]
theorem bs:q9 29 (at' 8 cp [] body aZ)=some (.slice (some ⟨0,0,none⟩) 0 0,0):=ag
abbrev eT:=at' 8 cp [] body aZ
def cY:List bG:=[]
def c8:ax:=bm [(2,.slice none 0 0)]
def c0:ax:=dS 8 c8 7 1
theorem cw:bF (b0 eT) c8 cY=some []:=ag
def c5:ct:=(body,[1,1,0],3)
theorem iC:fu Tryd.prog Tryd.f32 (bD 8 [] [] c5 (aN c0 cY))=some 1:=ag
@[reducible] noncomputable def a6 (l:List dx) (ej:bH) (er:Nat) (cj:List dx:=[]) (a0:bH:=none) (eN:Nat:=0):List ad:=[aO ej l er,aO a0 cj eN]
theorem any (W:aG) {iZ:ad} {l:List dx} (az:dr (a7 W) 8 js iZ l) (aT:l.length<=100000):Calls Tryd.prog 32 #[iZ] W λe w'=>(∃a c,e= .returned (aO a l c)/\eI W.heap.size (a7 w') qc 8 js (aO a l c) l)/\cO W.heap.size W w':=by
 obtain⟨ej,er,rfl⟩:=az.slice;refine kT (a6 l ej er) body aZ N [al 0] Tryd.func32 λa ae=> ?_
 letI:=bE ae;by_cases bd:ej=none
 ·refine br bz [] (U (aW.J0 rfl mQ rfl bd) aB) aC ?_ ae
  exact b2 b4 λw2 bk=>(by (subst bd;exact JZ az.isNil))
 ·refine br cp [] (U (aW.J1 rfl mQ rfl bd) aB) aC ?_ ae
  obtain⟨cj,fD⟩:=ey ([]++l);have hh:cj.length=0+l.length:=by rw[fD];simp
  refine B2 (l:=[]) (lx:=l) (l':=cj) (bC:=λoi oj=>(a6 l ej er cj oi oj)) (T:=none) fD bs mQ adj adk adl adn ado aL B' adp cw (cF c0 1) rfl (JY ag) (B3 J J λw hw=>az.reads B' hw) (wQ (show 0+l.length<=1000000 by omega)) (show (0+l.length)*Od<=140737488355328 by unfold Od;omega) (λ_ _ _=>yT) (λ_ _ _=>rfl) ?_;intro fN a0 eN lT gb s7 ch w ae;have vX:=gb.up s7 (c4 _) (λ_ _ h=>h);letI:=bE ae;refine cm (cn c5) [] [] aB aC ?_ ae;exact b2 iC λw2 bk=>(by (exact B5 lT (by rw[fD];rfl) bk))
end X8
end a1
namespace a1
namespace X9
noncomputable def body:Code:=(Tryd.f51.body).getD .skip
def N:Nat:=16
def aZ:c6:={sl:=bm [(1,.func (.func 52) ⟨[]⟩ ⟨[0,1]⟩),(0,.agg ⟨[2,3,4,5,6,7,8]⟩)],ms:=[],A:=start}
theorem b4:eW (at' 16 [] [] body aZ)=some (77,[8]):=ag
abbrev eT:=at' 16 [] [] body aZ
def cY:List bG:=[⟨.cells [2,3,4,5,6,7,8],28,0⟩,⟨.cells [I 0,I 0,I 0,I 0,I 0,I 0,.slice none 0 0],28,0⟩]
def c8:ax:=bm [(4,bj 1 0),(2,bj 0 0),(1,.func (.func 52) ⟨[]⟩ ⟨[0,1]⟩)]
def c0:ax:=dS 16 c8 8 9
theorem dD:bF (hQ Tryd.prog eT) c8 cY=some [(0,0),(1,1),(2,2),(3,3),(4,4),(5,5),(6,6),(7,7),(8,8)]:=ag
def c5:ct:=(body,[1,0],3)
def cp:aU:=[(.bh 28 0,.agg ⟨[2,3,4,5,6,7,8]⟩),
 (.bQ 28 1 0,1),
 (.bh 25 1,.agg ⟨[I 0,I 0,I 0,I 0,I 0,I 0]⟩)]
def hR:dm:=[(78,[.agg ⟨[2,3,4,5,6,7]⟩,.agg ⟨[I 0,I 0,I 0,I 0,I 0,I 0]⟩],.agg ⟨[I 0,I 0,I 0,I 0,I 0,I 0]⟩)]
theorem lA:fu Tryd.prog Tryd.f51 (bD 16 cp hR c5 (aN c0 cY))=some (.agg ⟨[2,3,4,5,6,7,9]⟩):=ag
@[reducible] noncomputable def a6 (b_:bH) (b3 ca r7:Nat) (b:cx) (r8:Nat) (tT:List Int:=[]) (hd:bH:=none) (hf:Nat:=0):List ad:=[bj r7 0,bj r8 0,I b.1,I b.2.1,I b.2.2.1,I b.2.2.2.1,I b.2.2.2.2.1,I b.2.2.2.2.2,.slice b_ b3 ca,aO hd tT hf]
theorem any (W:aG) {b_:bH} {b3 ca:Nat} {cells:List Int} (hT:dr (a7 W) 1 gq (.slice b_ b3 ca) cells) {r7:Nat} {b:cx} (ahs:je 0 (a7 W) (bj r7 0) 28 [I b.1,I b.2.1,I b.2.2.1,I b.2.2.2.1,I b.2.2.2.2.1,I b.2.2.2.2.2,.slice b_ b3 ca]) {r8:Nat} (aht:je 0 (a7 W) (bj r8 0) 28 [I 0,I 0,I 0,I 0,I 0,I 0,.slice none 0 0]) (aT:cells.length<=100000):Calls Tryd.prog 51 #[.agg ⟨[I b.1,I b.2.1,I b.2.2.1,I b.2.2.2.1,I b.2.2.2.2.1,I b.2.2.2.2.2,.slice b_ b3 ca]⟩,.func (.func 52) #[] #[bj r7 0,bj r8 0]] W λe w'=>(∃a c,e= .returned (ov b (aO a cells c))/\eI W.heap.size (a7 w') lD 1 gq (aO a cells c) cells)/\cO W.heap.size W w':=by
 refine kT (a6 b_ b3 ca r7 b r8) body aZ N [.agg ⟨[al 2,al 3,al 4,al 5,al 6,al 7,al 8]⟩,.func (.func 52) ⟨[]⟩ ⟨[al 0,al 1]⟩] Tryd.func51 λa ae=> ?_
 letI:=bE ae;have a_:=cC.q_ W;refine br [] [] aB aC ?_ ae;obtain⟨tT,A1⟩:=ey (cells);refine e5 (Y:=fa) (bC:=λaF=>(a6 b_ b3 ca r7 b r8 tT aF.1 aF.2)) a_ [] (λaF=>[]) (λaF=>[rp aF.1 tT aF.2]) b4 dD (cF c0 9) (ez:=λw hw cM ay=>by rw[A1];exact Gq (Q3.any _ ((hT.mono a_.ext).mono hw) aT)) (rest:= ?_);intro fN ⟨hd,hf⟩ bP ch w ae;replace bP:=bP.nR;letI:=bE ae;refine cm (cn c5) cp hR (U (aW.OD (g:=r7) (o:=0) (n:=7) (ahs.up bP.ext) J J J ag ag J J J) (U (b1 25 0 6) (U (aW.OD (g:=r8) (o:=0) (n:=6) (aht.up bP.ext) J J J ag ag J J J) aB))) (cv (X6 J J J J) aC) ?_ ae;exact b2 lA λw2 bk=>(by subst A1;exact⟨_,_,rfl,(bP.arr 0 rfl).mono (c4 _) λ_ _ _ h=>bk _ _ h⟩)
end X9
namespace Q4
noncomputable def body:Code:=(Tryd.f31.body).getD .skip
def N:Nat:=8
def aZ:c6:={sl:=bm [(1,.agg ⟨[I 0,I 0,I 0,I 0,I 0,I 0,.slice none 0 0]⟩),(0,.agg ⟨[0,1,2,3,4,5,6]⟩)],ms:=[],A:=start}
def bz:aU:=[(.cz (I 28),I 28)]
theorem b4:uC (at' 8 bz [] body aZ)=some (28,(.agg ⟨[0,1,2,3,4,5,6]⟩)):=ag
abbrev eT:=at' 8 bz [] body aZ
def cY:List bG:=[]
def c8:ax:=bm [(1,.agg ⟨[I 0,I 0,I 0,I 0,I 0,I 0,.slice none 0 0]⟩)]
def c0:ax:=dS 8 c8 2 7
theorem bs:bF (b0 eT) c8 cY=some []:=ag
def c5:ct:=(body,[0],1)
theorem gy:uC (bD 8 bz [] c5 (aN c0 cY))=some (28,(.agg ⟨[I 0,I 0,I 0,I 0,I 0,I 0,.slice none 0 0]⟩)):=ag
abbrev h':=bD 8 bz [] c5 {sl:=c0,ms:=[],A:=cS cY}
def fm:List bG:=[]
def fT:ax:=bm [(2,7)]
def eO:ax:=dS 8 fT 3 8
theorem iC:bF (b0 h') fT fm=some [(7,7)]:=ag
def ga:ct:=(body,[0],2)
theorem jS:Am (bD 8 bz [] ga (aN eO fm))=some 28:=ag
abbrev lr:=bD 8 bz [] ga {sl:=eO,ms:=[],A:=cS fm}
def hF:List bG:=[]
def iG:ax:=bm [(3,8),(2,7)]
def fS:ax:=dS 8 iG 4 9
theorem pb:bF (b0 lr) iG hF=some [(8,8),(7,7)]:=ag
def ht:ct:=(body,[0],3)
def cp:aU:=[(.cz (I 28),I 28),
 (.bh 28 7,.agg ⟨[0,1,2,3,4,5,6]⟩)]
theorem lW:eW (bD 8 cp [] ht (aN fS hF))=some (51,[.agg ⟨[0,1,2,3,4,5,6]⟩,.func (.func 52) ⟨[]⟩ ⟨[7,8]⟩]):=ag
abbrev pc:=bD 8 cp [] ht {sl:=fS,ms:=[],A:=cS hF}
def kC:List bG:=[]
def lH:ax:=bm [(4,9)]
def jt:ax:=dS 8 lH 7 (.agg ⟨[0,1,2,3,4,5,10]⟩)
theorem ot:bF (b0 pc) lH kC=some [(9,9)]:=ag
def k0:ct:=(body,[1,0],3)
theorem pd:hc (bD 8 bz [] k0 (aN jt kC))=some (28,9,(.agg ⟨[0,1,2,3,4,5,10]⟩)):=ag
abbrev oo:=bD 8 bz [] k0 {sl:=jt,ms:=[],A:=cS kC}
def lh:List bG:=[]
def ml:ax:=bm [(4,9)]
def kf:ax:=match e8 8 ml none (.tuple ⟨[]⟩) with|some s=>s|none=> .nil
theorem qm:bF (b0 oo) ml lh=some [(9,9)]:=ag
def nS:ct:=(body,[1,0],4)
theorem pe:endCell Tryd.f31 (bD 8 bz [] nS (aN kf lh))=some (28,9):=ag
@[reducible] noncomputable def a6 (b_:bH) (b3 ca:Nat) (b:cx) (cJ:Nat:=0) (g1:Nat:=0) (g2:Nat:=0) (rA:List Int:=[]) (uZ:bH:=none) (u0:Nat:=0):List ad:=[I b.1,I b.2.1,I b.2.2.1,I b.2.2.2.1,I b.2.2.2.2.1,I b.2.2.2.2.2,.slice b_ b3 ca,bj cJ 0,bj g1 0,bj g2 0,aO uZ rA u0]
theorem any (W:aG) {b:cx} {b_:bH} {b3 ca:Nat} {cells:List Int} (hT:dr (a7 W) 1 gq (.slice b_ b3 ca) cells) (aT:cells.length<=100000):Calls Tryd.prog 31 #[.agg ⟨[I b.1,I b.2.1,I b.2.2.1,I b.2.2.2.1,I b.2.2.2.2.1,I b.2.2.2.2.2,.slice b_ b3 ca]⟩,.agg ⟨[I 0,I 0,I 0,I 0,I 0,I 0,.slice none 0 0]⟩] W λe w'=>(∃a c,e= .returned (ov b (aO a cells c))/\eI W.heap.size (a7 w') lD 1 gq (aO a cells c) cells)/\cO W.heap.size W w':=by
 refine kT (a6 b_ b3 ca b) body aZ N [.agg ⟨[al 0,al 1,al 2,al 3,al 4,al 5,al 6]⟩,.agg ⟨[I 0,I 0,I 0,I 0,I 0,I 0,.slice none 0 0]⟩] Tryd.func31 λa ae=> ?_
 letI:=bE ae;have a_:=cC.q_ W;refine br bz [] (U (cd _) aB) aC ?_ ae;refine wT (u:= .agg ⟨[I b.1,I b.2.1,I b.2.2.1,I b.2.2.2.1,I b.2.2.2.2.1,I b.2.2.2.2.2,.slice b_ b3 ca]⟩) (cs:=[I b.1,I b.2.1,I b.2.2.1,I b.2.2.2.1,I b.2.2.2.2.1,I b.2.2.2.2.2,.slice b_ b3 ca]) (bC:=λfh=>(a6 b_ b3 ca b fh)) b4 J J J bs (cF c0 7) rfl (λ_ fh=>yT) (λ_ _=>rfl) ?_;intro fN cJ hh k3 gb ch w ae;have bP:=a_.new (rb k3 hh gb);replace bP:=bP.nR;letI:=bE ae;refine cm (cn c5) bz [] (U (cd _) aB) aC ?_ ae;refine wT (u:= .agg ⟨[I 0,I 0,I 0,I 0,I 0,I 0,.slice none 0 0]⟩) (cs:=[I 0,I 0,I 0,I 0,I 0,I 0,.slice none 0 0]) (bC:=λfh=>(a6 b_ b3 ca b cJ fh)) gy J J J iC (cF eO 8) rfl (λ_ fh=>b7) (λ_ _=>rfl) ?_;intro hr g1 iL rf lU ch w ae;have dK:=bP.new (rb rf iL lU);replace dK:=dK.AN;letI:=bE ae;refine cm (cn ga) bz [] (U (cd _) aB) aC ?_ ae;refine D4 (z:= .agg ⟨[I 0,I 0,I 0,I 0,I 0,I 0,.slice none 0 0]⟩) (bC:=λfh=>(a6 b_ b3 ca b cJ g1 fh)) jS ag pb (cF fS 9) rfl (λ_ fh=>b7) (λ_ _=>rfl) ?_;intro fU g2 sj lk CC uQ ch w ae;have dE:=dK.new (rb (ty:=28) (cs:=[I 0,I 0,I 0,I 0,I 0,I 0,.slice none 0 0]) (je.mk' sj CC) lk uQ);replace dE:=dE.uK;letI:=bE ae;refine cm (cn ht) cp [] (U (cd _) (U (j_ 0 7 0 dE) aB)) aC ?_ ae;obtain⟨rA,H7⟩:=ey (cells);refine e5 (Y:=fa) (bC:=λaF=>(a6 b_ b3 ca b cJ g1 g2 rA aF.1 aF.2)) dE [0,1] (λaF=>[_,_]) (λaF=>[rp aF.1 rA aF.2]) lW ot (cF jt (.agg ⟨[0,1,2,3,4,5,10]⟩)) (ez:=λw hw cM ay=>by rw[H7];exact ahq (F:=ov b) ay (X9.any _ ((hT.mono dE.ext).mono hw) (ay.box 0 rfl) (ay.box 1 rfl) aT)) (rest:= ?_);intro vL ⟨uZ,u0⟩ gV ch w ae;replace gV:=gV.vJ;letI:=bE ae;refine cm (cn k0) bz [] (U (cd _) aB) aC ?_ ae;refine D6 (g:=g2) (j:=0) (n:=7) (us:=[I b.1,I b.2.1,I b.2.2.1,I b.2.2.2.1,I b.2.2.2.2.1,I b.2.2.2.2.2,aO uZ rA u0]) (cs:=[I 0,I 0,I 0,I 0,I 0,I 0,.slice none 0 0]) (cs':=[I b.1,I b.2.1,I b.2.2.1,I b.2.2.2.1,I b.2.2.2.2.1,I b.2.2.2.2.2,aO uZ rA u0]) (bC:=(a6 b_ b3 ca b cJ g1 g2 rA uZ u0)) rfl pd ag qm (cF kf (.tuple ⟨[]⟩)) J J J J J (kR rfl (kR rfl (kR rfl (kR rfl (kR rfl (kR rfl (kR rfl Cj))))))) (gV.box 2 rfl) (h3 rfl) (λ_=>b7) ?_;intro jy Q5 jh ch w ae;have ek:=gV.gM 2 rfl (lR Q5 jh);replace ek:=ek.vJ;letI:=bE ae;refine cm (cn nS) bz [] (U (cd _) aB) aC ?_ ae;exact GH (v:= .agg ⟨[al 0,al 1,al 2,al 3,al 4,al 5,al 10]⟩) (cs:=[I b.1,I b.2.1,I b.2.2.1,I b.2.2.2.1,I b.2.2.2.2.1,I b.2.2.2.2.2,aO uZ rA u0]) pe J J (ek.box 2 rfl) ag (show bZ Tryd.prog (sizeOf 28)=some 7 by kernel_rfl) J J λw2 zu bk=>⟨(by subst H7;exact⟨_,_,rfl,(ek.arr 3 rfl).mono (c4 _) λ_ _ _ h=>bk _ _ h⟩),zu⟩
end Q4
end a1
end Go.Proofs.YtepcfjbfkedlpaaDoor
namespace Go.Proofs.YtepcfjbfkedlpaaDoor
open Go Go.Proofs Go.Shelf Go.RowKit Go.Lib
section
def ahu:Go.Shelf.Ren:=⟨λ|212=>56|263=>82|264=>83|n=>n,λ|46=>104|51=>127|146=>128|53=>130|148=>131|n=>n,λ|n=>n⟩
theorem ahv:Go.Proofs.Lays.n212 Tryd.prog ahu:={
 mixed:=by kernel_rfl
 f212:=Tryd.func56.trans (congrArg some ag)
 f263:=Tryd.func82.trans (congrArg some ag)
 f264:=Tryd.func83.trans (congrArg some ag)
 t46:=Tryd.underlying104
 a46:=Tryd.isAgg104
 z46:=Tryd.sizeOf104
 v46:=Tryd.zeroValue104
 t51:=Tryd.underlying127
 a51:=Tryd.isAgg127
 z51:=Tryd.sizeOf127
 v51:=Tryd.zeroValue127
 t53:=Tryd.underlying130
 a53:=Tryd.isAgg130
 z53:=Tryd.sizeOf130
 v53:=Tryd.zeroValue130
 t146:=Tryd.underlying128
 a146:=Tryd.isAgg128
 z146:=Tryd.sizeOf128
 v146:=Tryd.zeroValue128
 t148:=Tryd.underlying131
 a148:=Tryd.isAgg131
 z148:=Tryd.sizeOf131
 v148:=Tryd.zeroValue131}
open Go.RowKit Go.Lib in
theorem bits_Mul (x y:Nat) (aw:x<18446744073709551616) (hy:y<18446744073709551616) (w:aG):
 Calls Tryd.prog 56 #[.int .u64 x,.int .u64 y] w λe w'=>e= .returned (.tuple #[.int .u64 ((x*y/18446744073709551616:Nat):Int),.int .u64 ((x*y%18446744073709551616:Nat):Int)])/\w'=w:=Any.bits_Mul ahv x y aw hy w
namespace a1
def kK (n i:Nat):List Bool:=List.replicate i true++List.replicate (n-i) false
theorem X' (n:Nat):kK n n=List.replicate n true:=by simp [kK]
theorem ahw (n:Nat):(List.replicate n wZ).take 0++[true].take (min [true].length ((List.replicate n wZ).length-0))++(List.replicate n wZ).drop (0+min [true].length ((List.replicate n wZ).length-0))=kK n (min [true].length ((List.replicate n wZ).length-0)):=by
 have de:wZ=false:=rfl;rw[de,nz];cases n with
 |zero=>rfl
 |succ n=>
  have:min [true].length (n+1-0)=1:=by simp
  rw[this];simp [kK]
theorem ahx {n i:Nat} (h:i<=n):(kK n i).take i++((kK n i).take i).take (min ((kK n i).take i).length ((kK n i).length-i))++(kK n i).drop (i+min ((kK n i).take i).length ((kK n i).length-i))=kK n (i+min ((kK n i).take i).length ((kK n i).length-i)):=by
 have af:(kK n i).take i=List.replicate i true:=by
  unfold kK;rw[List.take_append_of_le_length (by simp)];simp
 have ah:(kK n i).length=n:=by simp [kK];omega
 rw[af,ah,nz];generalize hm:min i (n-i)=m;have ahy:m<=i:=by omega
 have Kl:m<=n-i:=by omega
 unfold kK;rw[List.drop_append,nz,List.drop_of_length_le (by simp),Nat.add_sub_cancel_left,List.take_replicate,List.drop_replicate,Nat.min_eq_left ahy,List.nil_append,List.replicate_append_replicate];congr 2;omega
theorem ahz {α:Type} {B:Nat} {M:Mem} {e:bq} {k:Nat} {enc:α->List ad} {a:Option Addr} {n c:Nat} {l:List α} (h:eI B M e k enc (.slice a n c) l):l.length<=c:=by
 obtain⟨bR,c',he,aA⟩:=h.queue.cap;cases he;exact aA
section
variable [bp]
theorem X_ {x y r:ad} {p q:Nat} (hp:fH [x,y]=true) (ar:bL r=true) (b5:fl [x,y]=[.int .u64 ((p:Nat):Int),.int .u64 ((q:Nat):Int)]) (dc:bb r= .tuple ⟨[.int .u64 0,.int .u64 ((q:Nat):Int)]⟩) (af:p=1) (ah:q<=9000000000000000000):j0 Tryd.prog (56,[x,y],r):=
 kP (a:= #[.int .u64 ((p:Nat):Int),.int .u64 ((q:Nat):Int)]) hp ar b5 dc λw _=>(bits_Mul p q aj aj w).mono λe w' he=>by
  obtain⟨rfl,rfl⟩:=he;subst af;refine⟨?_,⟨rfl,rfl,rfl,c4 _,λ_ _=>rfl⟩,c4 _⟩;rw[Nat.one_mul,Nat.div_eq_of_lt aj,Nat.mod_eq_of_lt aj];rfl
end
end a1
end
end Go.Proofs.YtepcfjbfkedlpaaDoor
namespace Go.Proofs.YtepcfjbfkedlpaaDoor
open Go Go.Proofs Go.RowKit
namespace a1
namespace Ya
noncomputable def body:Code:=(Tryd.f34.body).getD .skip
def N:Nat:=48
def aZ:c6:={sl:=bm [(1,1),(0,0)],ms:=[],A:=start}
def bz:aU:=[(.bin .lss 3 1 (I 0),.bool false),
 (.len #[30] 3 0,2),
 (.conv 3 104 2,3),
 (.conv 3 104 1,4),
 (.bin .gtr 104 4 (.int .u64 9223372036854775807),.bool true)]
def h2:dm:=[(56,[3,4],.tuple ⟨[.int .u64 0,4]⟩)]
def cp:aU:=[(.bin .lss 3 1 (I 0),.bool false),
 (.len #[30] 3 0,2),
 (.conv 3 104 2,3),
 (.conv 3 104 1,4),
 (.bin .gtr 104 4 (.int .u64 9223372036854775807),.bool false),
 (.conv 104 3 4,1)]
def hR:dm:=[(56,[3,4],.tuple ⟨[.int .u64 0,4]⟩)]
theorem b4:OK (at' 48 cp hR body aZ)=some (30,1):=ag
abbrev eT:=at' 48 cp hR body aZ
def cY:List bG:=[]
def c8:ax:=bm [(4,.slice none 0 0),(0,0)]
def c0:ax:=dS 48 c8 30 5
theorem bs:bF (b0 eT) c8 cY=some [(0,0)]:=ag
def c5:ct:=(body,[1,1,1,1,0],3)
theorem gy:Cm 30 30 (bD 48 [] [] c5 (aN c0 cY))=some (5,0):=ag
abbrev h':=bD 48 [] [] c5 {sl:=c0,ms:=[],A:=cS cY}
def fm:List bG:=[]
def fT:ax:=bm [(7,5),(4,.slice none 0 0)]
def eO:ax:=dS 48 fT 33 6
theorem iC:bF (b0 h') fT fm=some [(5,5)]:=ag
def ga:ct:=(body,[1,1,1,1,1,0],3)
def bt:List bG:=[]
def cl:ax:=bm [(8,7),(7,5),(4,.slice none 0 0)]
abbrev fG:=bD 48 [] [] ga {sl:=eO,ms:=[],A:=cS fm}
theorem jS:mi cl bt fG=some [(5,5),(6,7)]:=ag
def bY:Code:=nJ body [1,1,1,1,1,1,0,4]
def fJ:List hj:=lp body [1,1,1,1,1,1,0,4] []
theorem pb:lP fG=bY:=ag
theorem xg:gi fG=fJ:=ag
def d':aU:=[(.len #[30] 3 5,8),
 (.bin .lss 3 7 8,.bool true),
 (.p4 30 5 (some 7) none none,9),
 (.p4 30 5 none (some 7) none,10)]
theorem pg:Cm 30 30 (at' 48 d' [] bY (aN cl bt))=some (9,10):=ag
abbrev lr:=at' 48 d' [] bY (aN cl bt)
def hF:List bG:=[]
def iG:ax:=bm [(38,7),(8,7),(7,5),(4,.slice none 0 0)]
def fS:ax:=dS 48 iG 45 11
theorem sK:bF (b0 lr) iG hF=some [(5,5),(7,7),(7,7)]:=ag
def ht:ct:=(bY,[1,4],8)
def eS:aU:=[(.bin .add 3 7 11,12)]
theorem ot:eV cl bt (bD 48 eS [] ht (aN fS hF))=some [(5,5),(12,7)]:=ag
def fq:aU:=[(.len #[30] 3 5,8),
 (.bin .lss 3 7 8,.bool false)]
theorem uU:fu Tryd.prog Tryd.f34 (jf 48 [] [] fJ (at' 48 fq [] bY (aN cl bt)))=some 5:=ag
@[reducible] noncomputable def a6 (x:List Bool) (iE:bH) (iF n:Nat) (b8:List Bool:=[]) (i:Nat:=0) (cj:List Bool:=[]) (a0:bH:=none) (eN:Nat:=0):List ad:=[aO iE x iF,I ((n:Nat):Int),I ((x.length:Nat):Int),.int .u64 ((x.length:Nat):Int),.int .u64 ((n:Nat):Int),aO a0 cj eN,I (((min x.length (cj.length-0)):Nat):Int),I ((i:Nat):Int),I ((b8.length:Nat):Int),.slice (lC a0 eN i 1) (cj.length-i) (eN-i),.slice a0 i eN,I (((min (b8.take i).length (b8.length-i)):Nat):Int),I ((i+(min (b8.take i).length (b8.length-i)):Nat):Int)]
theorem any (W:aG) {x:List Bool} {iE:bH} {iF:Nat} (gm:dO (a7 W) [qd 1 iw (aO iE x iF) x]) (n:Nat) (aw:x=[true]) (aT:n<=100000):Calls Tryd.prog 34 #[aO iE x iF,I ((n:Nat):Int)] W λe w'=>(∃y:bH×Nat,e= .returned (.slice y.1 n y.2)/\dw (a7 W) [qd 1 iw (aO iE x iF) x] (a7 w') [qd 1 iw (aO iE x iF) x,fY mT 1 iw (.slice y.1 n y.2) (List.replicate n true)])/\cO 0 W w':=by
 refine lg (a6 x iE iF n) body aZ N [al 0,al 1] Tryd.func34 λa ae=> ?_
 letI:=bE ae;have a_:=cC.start W _ gm;have Cb:x.length=1:=by rw[aw];rfl
 by_cases bd:9223372036854775807<((n:Nat):Int)
 ·refine br bz h2 (U a' (U (e4 ((a_.red 0 rfl).arr h9) kA) (U (aW.Gb J J ag ag (k':= .u64) ag (KG aj aj) J J) (U (aW.Gb J J ag ag (k':= .u64) ag (KG aj aj) J J) (U bf aB))))) (cv (X_ J J J J Cb aj) aC) ?_ ae
  exfalso;omega
 ·refine br cp hR (U a' (U (e4 ((a_.red 0 rfl).arr h9) kA) (U (aW.Gb J J ag ag (k':= .u64) ag (KG aj aj) J J) (U (aW.Gb J J ag ag (k':= .u64) ag (KG aj aj) J J) (U a' (U (aW.Gb J J ag ag (k':= .i64) ag (wrap64 aj aj) J J) aB)))))) (cv (X_ J J J J Cb aj) aC) ?_ ae
  obtain⟨cj,fD⟩:=ey (List.replicate n wZ);have hh:cj.length=n:=by rw[fD];exact nz
  refine ad8 (n:=n) (zr:=wZ) (l':=cj) (bC:=λoi oj=>(a6 x iE iF n [] 0 cj oi oj)) fD b4 kA O1 O2 O3 O4 rfl h9 bs (cF c0 5) J J (by rfl) aj (by unfold Gz;omega) aj (λ_ _ _=>b7) (λ_ _ _=>rfl) ?_;intro fN a0 eN lT gb Cw ch w ae;have bP:=a_.new (ad1 lT gb Cw);replace bP:=bP.AN;letI:=bE ae;refine cm (cn c5) [] [] aB aC ?_ ae;obtain⟨Q6,nf⟩:=ey (cj.take 0++x.take (min x.length (cj.length-0))++cj.drop (0+(min x.length (cj.length-0))));have iL:Q6.length=cj.length:=by rw[nf];simp only [List.length_append,List.length_take,List.length_drop];omega
  refine Wn (e:=4) (u:=aO a0 cj eN) (a:=a0) (c:=eN) (i:=0) (m:=(min x.length (cj.length-0))) (l:=cj) (ys:=x) (l':=Q6) (bC:=(a6 x iE iF n [] 0 cj a0 eN)) nf rfl gy ag ag h9 O5 iC (cF eO 6) J J (congrArg (λz=>Value.slice a0 z eN) (show cj.length=cj.length by omega)) rfl ((congrArg (λz=>Value.slice a0 z eN) (show cj.length=cj.length by omega)).trans (afq _ _ _)) (Wp J J ((bP.red 0 rfl).arr h9) h9) (by apply List.ne_nil_of_length_pos;omega) aj (bP.arr 1 rfl) (λ_=>rfl) (λ_=>b7) ?_;intro hr Gj lU ch w ae;have dK:=bP.gM 1 rfl (nL Gj lU);replace dK:=dK.AN;letI:=bE ae;refine cm (cn ga) [] [] aB aC ?_ ae;refine nP (fW:=(λ(⟨M,b8,i⟩:Mem×List Bool×Nat)=>bc M (a6 x iE iF n b8 i cj a0 eN))) (λ(⟨M,b8,i⟩:Mem×List Bool×Nat)=>cC 0 (a7 W) a_.mL M [qd 1 iw (aO iE x iF) x,h1 a0 cj.length eN b8]/\(i<=n/\b8=kK n i/\b8.length=n/\(0<n->0<i))) (λ(⟨M,b8,i⟩:Mem×List Bool×Nat)=>n-i) ⟨hr,Q6,(min x.length (cj.length-0))⟩ jS b7 (λ_ _ h=>h) (by exact⟨dK,by exact⟨aj,by rw[nf];subst fD aw;exact ahw n,aj,aj⟩⟩) ?_;intro⟨M,b8,i⟩ aK ch w ae;letI:=bE ae;refine nK pb xg ?_;have bX:=aK.1;have Q7:=ahz (bX.arr 1 rfl);have H8:=aK.2.1;have als:=aK.2.2.2.1;have r1:=aK.2.2.2.2;by_cases jq:((i:Nat):Int)<((b8.length:Nat):Int)
  ·refine br d' [] (U (e4 ((bX.arr 1 rfl).arr h9) kA) (U bf (U (aW.J2 J J J kA rk J J (show i<=cj.length by omega) rfl) (U (aW.ac6 J J J kA rk J J (show i<=eN by omega) rfl) aB)))) aC ?_ ae
   obtain⟨AZ,jb⟩:=ey (b8.take i++(b8.take i).take (min (b8.take i).length (b8.length-i))++b8.drop (i+(min (b8.take i).length (b8.length-i))));have lk:AZ.length=b8.length:=by rw[jb];simp only [List.length_append,List.length_take,List.length_drop];omega
   refine Wn (e:=4) (u:=aO a0 cj eN) (a:=a0) (c:=eN) (i:=i) (m:=(min (b8.take i).length (b8.length-i))) (l:=b8) (ys:=(b8.take i)) (l':=AZ) (bC:=(a6 x iE iF n b8 i cj a0 eN)) jb rfl pg ag ag h9 O5 sK (cF fS 11) J J (congrArg (λz=>Value.slice a0 z eN) (show cj.length=b8.length by omega)) rfl (congrArg (λz=>Value.slice (lC a0 eN i 1) z (eN-i)) (show (cj.length-i)=b8.length-i by omega)) (Wp J J (((bX.arr 1 rfl).arr h9).take (show i<=cj.length by omega)) h9) (by apply List.ne_nil_of_length_pos;(simp only [List.length_take];omega)) aj (bX.arr 1 rfl) (λ_=>rfl) (λ_=>b7) ?_;intro fU sx uQ ch w ae;have dE:=bX.gM 1 rfl (nL sx uQ);replace dE:=dE.AN;letI:=bE ae;refine cm (cn ht) eS [] (U gU aB) aC ?_ ae;exact e3 ⟨fU,AZ,i+(min (b8.take i).length (b8.length-i))⟩ ot b7 (by exact⟨dE,by have Q8:(b8.take i).length=i:=(by rw[List.length_take];omega);exact⟨by rw[Q8];omega,by rw[jb,aK.2.2.1];exact ahx H8,aj,aj⟩⟩) (by have Q8:(b8.take i).length=i:=(by rw[List.length_take];omega);show n-(i+min _ _)<n-i;rw[Q8];omega)
  ·refine br fq [] (U (e4 ((bX.arr 1 rfl).arr h9) kA) (U a' aB)) aC ?_ ae
   refine j3 [] [] aB aC ?_;exact b2 uU λw2 bk=>(by have oX:i=n:=aj;have jZ:b8=List.replicate n true:=(by rw[aK.2.2.1,oX,X']);rw[<-jZ,<-hh];exact⟨(_,_),rfl,((bX.pick [0,1] rfl).done bk)⟩)
end Ya
end a1
namespace a1
def tU (c:Int):Prop:=0<=c/\c<256
instance (c:Int):Decidable (tU c):=by unfold tU;infer_instance
def s8:List Int->Int
 |[]=> -1
 |c::r=>if tU c then (if s8 r<0 then -1 else s8 r+1) else 0
theorem Yb:∀{l:List Int},(∀c∈l,tU c)->s8 l= -1
 |[],_=>rfl
 |c::r,h=>by
  unfold s8;rw[aP (h c (by simp)),Yb λd bu=>h d (by simp [bu]),aP aL]
theorem Q9:∀{l:List Int} {i:Nat},i<l.length->(∀c∈l.take i,tU c)->¬tU (l.getD i default)->s8 l=i
 |[],i,h,_,_=>by simp at h
 |c::r,0,_,_,h=>by
  unfold s8;rw[aV (show ¬tU c from h)];rfl
 |c::r,i+1,h,af,ah=>by
  unfold s8;rw[aP (af c (by simp)),Q9 (l:=r) (i:=i) (by simpa using h) (λd bu=>af d (by simp [bu])) ah,aV aj];omega
theorem ahA {l:List Int} {i:Nat} (h:∀c∈l.take i,tU c) (ak:i<l.length) (af:0<=l.getD i default) (ah:l.getD i default<256):∀c∈l.take (i+1),tU c:=by
 have:l.take (i+1)=l.take i++[l.getD i default]:=by
  rw[List.take_add_one,eP,ig ak];rfl
 rw[this];intro c aA;rcases List.mem_append.1 aA with aA|aA
 ·exact h c aA
 ·rw[List.mem_singleton.1 aA]
  exact⟨af,ah⟩
theorem ahB {l:List Int} {i:Nat} (h:∀c∈l.take i,tU c) (ak:l.length<=i):∀c∈l,tU c:=by
 rwa [List.take_of_length_le ak] at h
def Q':cx:=(0,0,0,0,0,0)
def xp (b:cx) (cells:List Int):Prop:=okB b/\(ki b\/b=Q')/\gj b<=2097152/\gj b=cells.length/\s8 cells<0
instance (b:cx) (cells:List Int):Decidable (xp b cells):=by unfold xp;infer_instance
end a1
namespace a1
namespace Q_
noncomputable def body:Code:=(Tryd.f71.body).getD .skip
def N:Nat:=34
noncomputable abbrev b9:=fu Tryd.prog Tryd.f71
def aZ:c6:={sl:=bm [(0,.agg ⟨[0,1,2,3,4,5]⟩)],ms:=[],A:=start}
def cp:aU:=[(.bin .lss 3 0 (I (-1048575)),.bool true)]
theorem b4:b9 (uG 34 cp [] 7 (at' 34 [] [] body aZ))=some (.bool false):=ag
def dh:aU:=[(.bin .lss 3 0 (I (-1048575)),.bool false),
 (.bin .gtr 3 0 (I 1048575),.bool true)]
theorem bs:b9 (uG 34 dh [] 7 (at' 34 [] [] body aZ))=some (.bool false):=ag
def d':aU:=[(.bin .lss 3 0 (I (-1048575)),.bool false),
 (.bin .gtr 3 0 (I 1048575),.bool false),
 (.bin .lss 3 1 (I (-1048575)),.bool true)]
theorem cw:b9 (uG 34 d' [] 7 (at' 34 [] [] body aZ))=some (.bool false):=ag
def eS:aU:=[(.bin .lss 3 0 (I (-1048575)),.bool false),
 (.bin .gtr 3 0 (I 1048575),.bool false),
 (.bin .lss 3 1 (I (-1048575)),.bool false),
 (.bin .gtr 3 1 (I 1048575),.bool true)]
theorem dD:b9 (uG 34 eS [] 7 (at' 34 [] [] body aZ))=some (.bool false):=ag
def fq:aU:=[(.bin .lss 3 0 (I (-1048575)),.bool false),
 (.bin .gtr 3 0 (I 1048575),.bool false),
 (.bin .lss 3 1 (I (-1048575)),.bool false),
 (.bin .gtr 3 1 (I 1048575),.bool false),
 (.bin .lss 3 2 (I (-1048575)),.bool true)]
theorem hq:b9 (uG 34 fq [] 7 (at' 34 [] [] body aZ))=some (.bool false):=ag
def hs:aU:=[(.bin .lss 3 0 (I (-1048575)),.bool false),
 (.bin .gtr 3 0 (I 1048575),.bool false),
 (.bin .lss 3 1 (I (-1048575)),.bool false),
 (.bin .gtr 3 1 (I 1048575),.bool false),
 (.bin .lss 3 2 (I (-1048575)),.bool false),
 (.bin .gtr 3 2 (I 1048575),.bool true)]
theorem ka:b9 (uG 34 hs [] 7 (at' 34 [] [] body aZ))=some (.bool false):=ag
def hN:aU:=[(.bin .lss 3 0 (I (-1048575)),.bool false),
 (.bin .gtr 3 0 (I 1048575),.bool false),
 (.bin .lss 3 1 (I (-1048575)),.bool false),
 (.bin .gtr 3 1 (I 1048575),.bool false),
 (.bin .lss 3 2 (I (-1048575)),.bool false),
 (.bin .gtr 3 2 (I 1048575),.bool false),
 (.bin .lss 3 3 (I (-1048575)),.bool true)]
theorem gy:b9 (uG 34 hN [] 7 (at' 34 [] [] body aZ))=some (.bool false):=ag
def hS:aU:=[(.bin .lss 3 0 (I (-1048575)),.bool false),
 (.bin .gtr 3 0 (I 1048575),.bool false),
 (.bin .lss 3 1 (I (-1048575)),.bool false),
 (.bin .gtr 3 1 (I 1048575),.bool false),
 (.bin .lss 3 2 (I (-1048575)),.bool false),
 (.bin .gtr 3 2 (I 1048575),.bool false),
 (.bin .lss 3 3 (I (-1048575)),.bool false),
 (.bin .gtr 3 3 (I 1048575),.bool true)]
theorem iC:b9 (uG 34 hS [] 7 (at' 34 [] [] body aZ))=some (.bool false):=ag
def jT:aU:=[(.bin .lss 3 0 (I (-1048575)),.bool false),
 (.bin .gtr 3 0 (I 1048575),.bool false),
 (.bin .lss 3 1 (I (-1048575)),.bool false),
 (.bin .gtr 3 1 (I 1048575),.bool false),
 (.bin .lss 3 2 (I (-1048575)),.bool false),
 (.bin .gtr 3 2 (I 1048575),.bool false),
 (.bin .lss 3 3 (I (-1048575)),.bool false),
 (.bin .gtr 3 3 (I 1048575),.bool false),
 (.bin .lss 3 4 (I (-1048575)),.bool true)]
theorem lA:b9 (uG 34 jT [] 7 (at' 34 [] [] body aZ))=some (.bool false):=ag
def jx:aU:=[(.bin .lss 3 0 (I (-1048575)),.bool false),
 (.bin .gtr 3 0 (I 1048575),.bool false),
 (.bin .lss 3 1 (I (-1048575)),.bool false),
 (.bin .gtr 3 1 (I 1048575),.bool false),
 (.bin .lss 3 2 (I (-1048575)),.bool false),
 (.bin .gtr 3 2 (I 1048575),.bool false),
 (.bin .lss 3 3 (I (-1048575)),.bool false),
 (.bin .gtr 3 3 (I 1048575),.bool false),
 (.bin .lss 3 4 (I (-1048575)),.bool false),
 (.bin .gtr 3 4 (I 1048575),.bool true)]
theorem np:b9 (uG 34 jx [] 7 (at' 34 [] [] body aZ))=some (.bool false):=ag
def kD:aU:=[(.bin .lss 3 0 (I (-1048575)),.bool false),
 (.bin .gtr 3 0 (I 1048575),.bool false),
 (.bin .lss 3 1 (I (-1048575)),.bool false),
 (.bin .gtr 3 1 (I 1048575),.bool false),
 (.bin .lss 3 2 (I (-1048575)),.bool false),
 (.bin .gtr 3 2 (I 1048575),.bool false),
 (.bin .lss 3 3 (I (-1048575)),.bool false),
 (.bin .gtr 3 3 (I 1048575),.bool false),
 (.bin .lss 3 4 (I (-1048575)),.bool false),
 (.bin .gtr 3 4 (I 1048575),.bool false),
 (.bin .lss 3 5 (I (-1048575)),.bool true)]
theorem k2:b9 (uG 34 kD [] 7 (at' 34 [] [] body aZ))=some (.bool false):=ag
def mI:aU:=[(.bin .lss 3 0 (I (-1048575)),.bool false),
 (.bin .gtr 3 0 (I 1048575),.bool false),
 (.bin .lss 3 1 (I (-1048575)),.bool false),
 (.bin .gtr 3 1 (I 1048575),.bool false),
 (.bin .lss 3 2 (I (-1048575)),.bool false),
 (.bin .gtr 3 2 (I 1048575),.bool false),
 (.bin .lss 3 3 (I (-1048575)),.bool false),
 (.bin .gtr 3 3 (I 1048575),.bool false),
 (.bin .lss 3 4 (I (-1048575)),.bool false),
 (.bin .gtr 3 4 (I 1048575),.bool false),
 (.bin .lss 3 5 (I (-1048575)),.bool false),
 (.bin .gtr 3 5 (I 1048575),.bool true)]
theorem lV:b9 (uG 34 mI [] 7 (at' 34 [] [] body aZ))=some (.bool false):=ag
def lX:aU:=[(.bin .lss 3 0 (I (-1048575)),.bool false),
 (.bin .gtr 3 0 (I 1048575),.bool false),
 (.bin .lss 3 1 (I (-1048575)),.bool false),
 (.bin .gtr 3 1 (I 1048575),.bool false),
 (.bin .lss 3 2 (I (-1048575)),.bool false),
 (.bin .gtr 3 2 (I 1048575),.bool false),
 (.bin .lss 3 3 (I (-1048575)),.bool false),
 (.bin .gtr 3 3 (I 1048575),.bool false),
 (.bin .lss 3 4 (I (-1048575)),.bool false),
 (.bin .gtr 3 4 (I 1048575),.bool false),
 (.bin .lss 3 5 (I (-1048575)),.bool false),
 (.bin .gtr 3 5 (I 1048575),.bool false)]
theorem jS:b9 (uG 34 lX [] 7 (at' 34 [] [] body aZ))=some (.bool true):=ag
@[reducible] noncomputable def a6 (b:cx):List ad:=[I b.1,I b.2.1,I b.2.2.1,I b.2.2.2.1,I b.2.2.2.2.1,I b.2.2.2.2.2]
theorem any (W:aG) (b:cx):Calls Tryd.prog 71 #[X.val b] W λe w'=>e= .returned (.bool (decide (okB b)))/\cO W.heap.size W w':=by
 refine kT (a6 b) body aZ N [.agg ⟨[al 0,al 1,al 2,al 3,al 4,al 5]⟩] Tryd.func71 λa ae=> ?_
 letI:=bE ae;refine br [] [] aB aC ?_ ae;by_cases bd:b.1<(-1048575)
 ·refine ux (m:=7) (F:=cp) (T:=[]) (bN:=1000) (d:=10) mixed (U bf aB) aC ?_
  exact b2 b4 λw2 bk=>(by (rw[dT (show ¬okB b from by unfold okB;omega)];rfl))
 ·by_cases af:1048575<b.1
  ·refine ux (m:=7) (F:=dh) (T:=[]) (bN:=1000) (d:=10) mixed (U a' (U bf aB)) aC ?_
   exact b2 bs λw2 bk=>(by (rw[dT (show ¬okB b from by unfold okB;omega)];rfl))
  ·by_cases ah:b.2.1<(-1048575)
   ·refine ux (m:=7) (F:=d') (T:=[]) (bN:=1000) (d:=10) mixed (U a' (U a' (U bf aB))) aC ?_
    exact b2 cw λw2 bk=>(by (rw[dT (show ¬okB b from by unfold okB;omega)];rfl))
   ·by_cases aH:1048575<b.2.1
    ·refine ux (m:=7) (F:=eS) (T:=[]) (bN:=1000) (d:=10) mixed (U a' (U a' (U a' (U bf aB)))) aC ?_
     exact b2 dD λw2 bk=>(by (rw[dT (show ¬okB b from by unfold okB;omega)];rfl))
    ·by_cases ck:b.2.2.1<(-1048575)
     ·refine ux (m:=7) (F:=fq) (T:=[]) (bN:=1000) (d:=10) mixed (U a' (U a' (U a' (U a' (U bf aB))))) aC ?_
      exact b2 hq λw2 bk=>(by (rw[dT (show ¬okB b from by unfold okB;omega)];rfl))
     ·by_cases dd:1048575<b.2.2.1
      ·refine ux (m:=7) (F:=hs) (T:=[]) (bN:=1000) (d:=10) mixed (U a' (U a' (U a' (U a' (U a' (U bf aB)))))) aC ?_
       exact b2 ka λw2 bk=>(by (rw[dT (show ¬okB b from by unfold okB;omega)];rfl))
      ·by_cases dM:b.2.2.2.1<(-1048575)
       ·refine ux (m:=7) (F:=hN) (T:=[]) (bN:=1000) (d:=10) mixed (U a' (U a' (U a' (U a' (U a' (U a' (U bf aB))))))) aC ?_
        exact b2 gy λw2 bk=>(by (rw[dT (show ¬okB b from by unfold okB;omega)];rfl))
       ·by_cases gW:1048575<b.2.2.2.1
        ·refine ux (m:=7) (F:=hS) (T:=[]) (bN:=1000) (d:=10) mixed (U a' (U a' (U a' (U a' (U a' (U a' (U a' (U bf aB)))))))) aC ?_
         exact b2 iC λw2 bk=>(by (rw[dT (show ¬okB b from by unfold okB;omega)];rfl))
        ·by_cases qu:b.2.2.2.2.1<(-1048575)
         ·refine ux (m:=7) (F:=jT) (T:=[]) (bN:=1000) (d:=10) mixed (U a' (U a' (U a' (U a' (U a' (U a' (U a' (U a' (U bf aB))))))))) aC ?_
          exact b2 lA λw2 bk=>(by (rw[dT (show ¬okB b from by unfold okB;omega)];rfl))
         ·by_cases jm:1048575<b.2.2.2.2.1
          ·refine ux (m:=7) (F:=jx) (T:=[]) (bN:=1000) (d:=10) mixed (U a' (U a' (U a' (U a' (U a' (U a' (U a' (U a' (U a' (U bf aB)))))))))) aC ?_
           exact b2 np λw2 bk=>(by (rw[dT (show ¬okB b from by unfold okB;omega)];rfl))
          ·by_cases WE:b.2.2.2.2.2<(-1048575)
           ·refine ux (m:=7) (F:=kD) (T:=[]) (bN:=1000) (d:=10) mixed (U a' (U a' (U a' (U a' (U a' (U a' (U a' (U a' (U a' (U a' (U bf aB))))))))))) aC ?_
            exact b2 k2 λw2 bk=>(by (rw[dT (show ¬okB b from by unfold okB;omega)];rfl))
           ·by_cases alu:1048575<b.2.2.2.2.2
            ·refine ux (m:=7) (F:=mI) (T:=[]) (bN:=1000) (d:=10) mixed (U a' (U a' (U a' (U a' (U a' (U a' (U a' (U a' (U a' (U a' (U a' (U bf aB)))))))))))) aC ?_
             exact b2 lV λw2 bk=>(by (rw[dT (show ¬okB b from by unfold okB;omega)];rfl))
            ·refine ux (m:=7) (F:=lX) (T:=[]) (bN:=1000) (d:=10) mixed (U a' (U a' (U a' (U a' (U a' (U a' (U a' (U a' (U a' (U a' (U a' (U a' aB)))))))))))) aC ?_
             exact b2 jS λw2 bk=>(by (rw[gO (show okB b from by unfold okB;omega)];rfl))
end Q_
namespace Yc
noncomputable def body:Code:=(Tryd.f92.body).getD .skip
def N:Nat:=19
noncomputable abbrev b9:=fu Tryd.prog Tryd.f92
def aZ:c6:={sl:=bm [(1,.func (.func 75) ⟨[]⟩ ⟨[]⟩),(0,0)],ms:=[],A:=start}
def bz:aU:=[(.len #[26] 3 0,1)]
def bt:List bG:=[]
def cl:ax:=bm [(8,2),(7,1),(1,.func (.func 75) ⟨[]⟩ ⟨[]⟩),(0,0)]
abbrev fG:=at' 19 bz [] body aZ
theorem b4:mi cl bt fG=some [(0,0),(1,1),(I 0,2)]:=ag
def bY:Code:=nJ body [1,0,1,4]
def fJ:List hj:=lp body [1,0,1,4] []
theorem bs:lP fG=bY:=ag
theorem cw:gi fG=fJ:=ag
def cp:aU:=[(.bin .lss 3 2 1,.bool true),
 (.cV 26 0 2,3),
 (.bh 3 3,4),
 (.bin .geq 3 4 (I 0),.bool true),
 (.bin .lss 3 4 (I 256),.bool true),
 (.bin .add 3 2 (I 1),5)]
theorem dD:eV cl bt (at' 19 cp [] bY (aN cl bt))=some [(0,0),(1,1),(5,2)]:=ag
def dh:aU:=[(.bin .lss 3 2 1,.bool true),
 (.cV 26 0 2,3),
 (.bh 3 3,4),
 (.bin .geq 3 4 (I 0),.bool true),
 (.bin .lss 3 4 (I 256),.bool false)]
theorem hq:b9 (jf 19 [] [] fJ (at' 19 dh [] bY (aN cl bt)))=some 2:=ag
def eS:aU:=[(.bin .lss 3 2 1,.bool true),
 (.cV 26 0 2,3),
 (.bh 3 3,4),
 (.bin .geq 3 4 (I 0),.bool false)]
theorem ka:b9 (jf 19 [] [] fJ (at' 19 eS [] bY (aN cl bt)))=some 2:=ag
def fq:aU:=[(.bin .lss 3 2 1,.bool false)]
theorem gy:b9 (jf 19 [] [] fJ (at' 19 fq [] bY (aN cl bt)))=some (I (-1)):=ag
@[reducible] noncomputable def a6 (l:List Int) (ej:bH) (er:Nat) (i:Nat:=0):List ad:=[aO ej l er,I ((l.length:Nat):Int),I ((i:Nat):Int),fM (aO ej l er) (i*1),I (l.getD (i) default),I ((i+1:Nat):Int)]
theorem any (W:aG) {iZ:ad} {l:List Int} (az:dr (a7 W) 1 gq iZ l) (aT:l.length<=10000000):Calls Tryd.prog 92 #[iZ,.func (.func 75) #[] #[]] W λe w'=>e= .returned (I (s8 l))/\cO W.heap.size W w':=by
 obtain⟨ej,er,rfl⟩:=az.slice;refine kT (a6 l ej er) body aZ N [al 0,.func (.func 75) ⟨[]⟩ ⟨[]⟩] Tryd.func92 λa ae=> ?_
 letI:=bE ae;refine br bz [] (U (e4 az iD) aB) aC ?_ ae;refine nP (fW:=(λi=>bc (a7 W) (a6 l ej er i))) (λi=>i<=l.length/\∀c∈l.take i,tU c) (λi=>l.length-i) 0 b4 b7 (λ_ _ h=>h) (by exact⟨Nat.zero_le _,λc aA=>by simp at aA⟩) ?_;intro i aK ch w ae;letI:=bE ae;refine nK bs cw ?_;have H8:=aK.1;by_cases lM:((i:Nat):Int)<((l.length:Nat):Int)
 ·by_cases jc:0<=(l.getD (i) default)
  ·by_cases hY:(l.getD (i) default)<256
   ·refine br cp [] (U bf (U (f' az iD jO) (U (im 0 az (f_ i) kz) (U bf (U bf (U gU aB)))))) aC ?_ ae
    exact e3 (i+1) dD b7 (by exact⟨aj,ahA aK.2 aj aY aj⟩)
   ·refine br dh [] (U bf (U (f' az iD jO) (U (im 0 az (f_ i) kz) (U bf (U a' aB))))) aC ?_ ae
    refine j3 [] [] aB aC ?_;exact b2 hq λw2 bk=>(by (rw[Q9 (i:=i) aj aK.2 (λq=>by unfold tU at q;omega)];rfl))
  ·refine br eS [] (U bf (U (f' az iD jO) (U (im 0 az (f_ i) kz) (U a' aB)))) aC ?_ ae
   refine j3 [] [] aB aC ?_;exact b2 ka λw2 bk=>(by (rw[Q9 (i:=i) aj aK.2 (λq=>by unfold tU at q;omega)];rfl))
 ·refine br fq [] (U a' aB) aC ?_ ae
  refine j3 [] [] aB aC ?_;exact b2 gy λw2 bk=>(by (rw[Yb (ahB aK.2 aj)];rfl))
end Yc
end a1
namespace a1
namespace Yd
noncomputable def body:Code:=(Tryd.f73.body).getD .skip
def N:Nat:=14
def aZ:c6:={sl:=bm [(0,.agg ⟨[0,1,2,3,4,5]⟩)],ms:=[],A:=start}
def bz:aU:=[(.bin .mul 3 6 7,9),
 (.bin .mul 3 9 8,10)]
def h2:dm:=[(80,[.agg ⟨[0,1,2,3,4,5]⟩],.agg ⟨[6,7,8]⟩)]
theorem b4:fu Tryd.prog Tryd.f73 (at' 14 bz h2 body aZ)=some 10:=ag
@[reducible] noncomputable def a6 (b:cx):List ad:=[I b.1,I b.2.1,I b.2.2.1,I b.2.2.2.1,I b.2.2.2.2.1,I b.2.2.2.2.2,I (cI b).1,I (cI b).2.1,I (cI b).2.2,I ((cI b).1*(cI b).2.1),I (((cI b).1*(cI b).2.1)*(cI b).2.2)]
theorem any (W:aG) (b:cx) (ai:okB b):Calls Tryd.prog 73 #[X.val b] W λe w'=>e= .returned (I (gj b))/\cO W.heap.size W w':=by
 refine kT (a6 b) body aZ N [.agg ⟨[al 0,al 1,al 2,al 3,al 4,al 5]⟩] Tryd.func73 λa ae=> ?_
 letI:=bE ae;have de:=Cl ai;have aR:=Pb ai;refine br bz h2 (U gU (U gU aB)) (cv (KU J J J J ai) aC) ?_ ae;exact b2 b4 λw2 bk=>(by rfl)
end Yd
namespace Ra
noncomputable def body:Code:=(Tryd.f72.body).getD .skip
def N:Nat:=8
noncomputable abbrev b9:=fu Tryd.prog Tryd.f72
def aZ:c6:={sl:=bm [(0,.agg ⟨[0,1,2,3,4,5]⟩)],ms:=[],A:=start}
def bz:aU:=[(.bin .geq 3 0 0,.bool true),
 (.bin .lss 3 0 3,.bool true),
 (.bin .geq 3 1 1,.bool true),
 (.bin .lss 3 1 4,.bool true),
 (.bin .geq 3 2 2,.bool true),
 (.bin .lss 3 2 5,.bool true)]
theorem b4:b9 (at' 8 bz [] body aZ)=some (.bool false):=ag
def cp:aU:=[(.bin .geq 3 0 0,.bool true),
 (.bin .lss 3 0 3,.bool true),
 (.bin .geq 3 1 1,.bool true),
 (.bin .lss 3 1 4,.bool true),
 (.bin .geq 3 2 2,.bool true),
 (.bin .lss 3 2 5,.bool false)]
theorem bs:b9 (at' 8 cp [] body aZ)=some (.bool true):=ag
def dh:aU:=[(.bin .geq 3 0 0,.bool true),
 (.bin .lss 3 0 3,.bool true),
 (.bin .geq 3 1 1,.bool true),
 (.bin .lss 3 1 4,.bool false)]
theorem cw:b9 (at' 8 dh [] body aZ)=some (.bool true):=ag
def d':aU:=[(.bin .geq 3 0 0,.bool true),
 (.bin .lss 3 0 3,.bool false)]
theorem dD:b9 (at' 8 d' [] body aZ)=some (.bool true):=ag
@[reducible] noncomputable def a6 (b:cx):List ad:=[I b.1,I b.2.1,I b.2.2.1,I b.2.2.2.1,I b.2.2.2.2.1,I b.2.2.2.2.2]
theorem any (W:aG) (b:cx):Calls Tryd.prog 72 #[X.val b] W λe w'=>e= .returned (.bool (decide (¬ki b)))/\cO W.heap.size W w':=by
 refine kT (a6 b) body aZ N [.agg ⟨[al 0,al 1,al 2,al 3,al 4,al 5]⟩] Tryd.func72 λa ae=> ?_
 letI:=bE ae;by_cases bd:b.1<b.2.2.2.1
 ·by_cases af:b.2.1<b.2.2.2.2.1
  ·by_cases ah:b.2.2.1<b.2.2.2.2.2
   ·refine br bz [] (U bf (U bf (U bf (U bf (U bf (U bf aB)))))) aC ?_ ae
    exact b2 b4 λw2 bk=>(by (rw[dT (show ¬¬ki b from by unfold ki;omega)];rfl))
   ·refine br cp [] (U bf (U bf (U bf (U bf (U bf (U a' aB)))))) aC ?_ ae
    exact b2 bs λw2 bk=>(by (rw[gO (show ¬ki b from by unfold ki;omega)];rfl))
  ·refine br dh [] (U bf (U bf (U bf (U a' aB)))) aC ?_ ae
   exact b2 cw λw2 bk=>(by (rw[gO (show ¬ki b from by unfold ki;omega)];rfl))
 ·refine br d' [] (U bf (U a' aB)) aC ?_ ae
  exact b2 dD λw2 bk=>(by (rw[gO (show ¬ki b from by unfold ki;omega)];rfl))
end Ra
end a1
namespace a1
abbrev Rb:bq:=25
theorem ahC (p q:cx):uA Tryd.prog 10000 Rb (X.val p) (X.val q)=some ((p.1==q.1&&(p.2.1==q.2.1&&(p.2.2.1==q.2.2.1&&true)))&&((p.2.2.2.1==q.2.2.2.1&&(p.2.2.2.2.1==q.2.2.2.2.1&&(p.2.2.2.2.2==q.2.2.2.2.2&&true)))&&true)):=ag
theorem ahD:Tryd.prog.eqGuardType Tryd.prog.depth Rb=false:=ag
theorem ahE (p q:cx):((p.1==q.1&&(p.2.1==q.2.1&&(p.2.2.1==q.2.2.1&&true)))&&((p.2.2.2.1==q.2.2.2.1&&(p.2.2.2.2.1==q.2.2.2.2.1&&(p.2.2.2.2.2==q.2.2.2.2.2&&true)))&&true))=decide (p=q):=by
 obtain⟨a,b,c,d,e,f⟩:=p;obtain⟨bR,b',c',wu,e',nB⟩:=q;rw[Bool.eq_iff_iff];simp [and_assoc]
section
variable [bp]
theorem H9 {x y:ad} {p q:cx} (aw:bL x=true) (hy:bL y=true) (ex:bb x=X.val p) (iV:bb y=X.val q) {d:Bool} (bu:d= !decide (p=q)):aW Tryd.prog (.bin .neq Rb x y,.bool d):=by
 subst bu;exact aW.Oc ahD aw hy ex iV ((ahC p q).trans (by rw[ahE]))
theorem zE {x r:ad} {b:cx} (hp:fH [x]=true) (ar:bL r=true) (b5:fl [x]=[X.val b]) (dc:bb r= .bool true) (h:okB b):j0 Tryd.prog (71,[x],r):=
 kP (a:= #[X.val b]) hp ar b5 dc λw _=>(Q_.any w b).mono λe w' he=>by rw[gO h] at he;exact he
theorem ahF {x r:ad} {b:cx} (hp:fH [x]=true) (ar:bL r=true) (b5:fl [x]=[X.val b]) (dc:bb r= .bool false) (h:¬okB b):j0 Tryd.prog (71,[x],r):=
 kP (a:= #[X.val b]) hp ar b5 dc λw _=>(Q_.any w b).mono λe w' he=>by rw[dT h] at he;exact he
theorem H' {x r:ad} {b:cx} (hp:fH [x]=true) (ar:bL r=true) (b5:fl [x]=[X.val b]) (dc:bb r= .bool true) (h:¬ki b):j0 Tryd.prog (72,[x],r):=
 kP (a:= #[X.val b]) hp ar b5 dc λw _=>(Ra.any w b).mono λe w' he=>by rw[gO h] at he;exact he
theorem Lq {x r:ad} {b:cx} (hp:fH [x]=true) (ar:bL r=true) (b5:fl [x]=[X.val b]) (dc:bb r= .bool false) (h:¬¬ki b):j0 Tryd.prog (72,[x],r):=
 kP (a:= #[X.val b]) hp ar b5 dc λw _=>(Ra.any w b).mono λe w' he=>by rw[dT h] at he;exact he
theorem A2 {x r:ad} {b:cx} (hp:fH [x]=true) (ar:bL r=true) (b5:fl [x]=[X.val b]) (dc:bb r= .int .i64 (gj b)) (ai:okB b):j0 Tryd.prog (73,[x],r):=
 kP (a:= #[X.val b]) hp ar b5 dc λw _=>Yd.any w b ai
def H_:ad:= .func (.func 75) ⟨[]⟩ ⟨[]⟩
theorem Lr {x r:ad} {a:Option Addr} {n c:Nat} {l:List Int} (hp:fH [x,H_]=true) (ar:bL r=true) (b5:fl [x,H_]=[.slice a n c,H_]) (dc:bb r= .int .i64 (s8 l)) (az:dr bp.dz 1 gq (.slice a n c) l) (aT:l.length<=10000000):j0 Tryd.prog (92,[x,H_],r):=
 kP (a:= #[.slice a n c,H_]) hp ar b5 dc λw hw=>Yc.any w (az.mono hw) aT
end
theorem Ye {b:cx} {cells:List Int} (bd:okB b) (af:ki b\/b=Q') (ah:gj b<=2097152) (aH:gj b=((cells.length:Nat):Int)) (ck:¬0<=s8 cells):decide (xp b cells)=true:=gO ⟨bd,af,ah,aH,aj⟩
theorem A3 {b:cx} {cells:List Int} (h:okB b->(ki b\/b=Q')->gj b<=2097152->gj b=((cells.length:Nat):Int)->0<=s8 cells):decide (xp b cells)=false:=dT λq=>by
 obtain⟨q1,aI,bS,fo,iK⟩:=q;have:=h q1 aI bS fo;omega
end a1
namespace a1
namespace Rc
noncomputable def body:Code:=(Tryd.f50.body).getD .skip
def N:Nat:=37
noncomputable abbrev b9:=fu Tryd.prog Tryd.f50
def aZ:c6:={sl:=bm [(0,.agg ⟨[0,1,2,3,4,5,6]⟩)],ms:=[],A:=start}
def bz:aU:=[(.bin .neq 25 (.agg ⟨[0,1,2,3,4,5]⟩) (.agg ⟨[I 0,I 0,I 0,I 0,I 0,I 0]⟩),.bool false),
 (.bin .leq 3 7 (I 2097152),.bool true),
 (.len #[26] 3 6,8),
 (.bin .eql 3 7 8,.bool true),
 (.bin .geq 3 9 (I 0),.bool true)]
def h2:dm:=[(71,[.agg ⟨[0,1,2,3,4,5]⟩],.bool true),
 (72,[.agg ⟨[al 0,al 1,al 2,al 3,al 4,al 5]⟩],.bool true),
 (73,[.agg ⟨[al 0,al 1,al 2,al 3,al 4,al 5]⟩],al 7),
 (92,[al 6,.func (.func 75) ⟨[]⟩ ⟨[]⟩],al 9)]
theorem b4:b9 (at' 37 bz h2 body aZ)=some (.bool false):=ag
def cp:aU:=[(.bin .neq 25 (.agg ⟨[0,1,2,3,4,5]⟩) (.agg ⟨[I 0,I 0,I 0,I 0,I 0,I 0]⟩),.bool false),
 (.bin .leq 3 7 (I 2097152),.bool true),
 (.len #[26] 3 6,8),
 (.bin .eql 3 7 8,.bool true),
 (.bin .geq 3 9 (I 0),.bool false)]
def hR:dm:=[(71,[.agg ⟨[0,1,2,3,4,5]⟩],.bool true),
 (72,[.agg ⟨[al 0,al 1,al 2,al 3,al 4,al 5]⟩],.bool true),
 (73,[.agg ⟨[al 0,al 1,al 2,al 3,al 4,al 5]⟩],al 7),
 (92,[al 6,.func (.func 75) ⟨[]⟩ ⟨[]⟩],al 9)]
theorem bs:b9 (at' 37 cp hR body aZ)=some (.bool true):=ag
def dh:aU:=[(.bin .neq 25 (.agg ⟨[0,1,2,3,4,5]⟩) (.agg ⟨[I 0,I 0,I 0,I 0,I 0,I 0]⟩),.bool false),
 (.bin .leq 3 7 (I 2097152),.bool true),
 (.len #[26] 3 6,8),
 (.bin .eql 3 7 8,.bool false)]
def lq:dm:=[(71,[.agg ⟨[0,1,2,3,4,5]⟩],.bool true),
 (72,[.agg ⟨[al 0,al 1,al 2,al 3,al 4,al 5]⟩],.bool true),
 (73,[.agg ⟨[al 0,al 1,al 2,al 3,al 4,al 5]⟩],al 7)]
theorem cw:b9 (at' 37 dh lq body aZ)=some (.bool false):=ag
def d':aU:=[(.bin .neq 25 (.agg ⟨[0,1,2,3,4,5]⟩) (.agg ⟨[I 0,I 0,I 0,I 0,I 0,I 0]⟩),.bool false),
 (.bin .leq 3 7 (I 2097152),.bool false)]
def kb:dm:=[(71,[.agg ⟨[0,1,2,3,4,5]⟩],.bool true),
 (72,[.agg ⟨[al 0,al 1,al 2,al 3,al 4,al 5]⟩],.bool true),
 (73,[.agg ⟨[al 0,al 1,al 2,al 3,al 4,al 5]⟩],al 7)]
theorem dD:b9 (at' 37 d' kb body aZ)=some (.bool false):=ag
def eS:aU:=[(.bin .neq 25 (.agg ⟨[0,1,2,3,4,5]⟩) (.agg ⟨[I 0,I 0,I 0,I 0,I 0,I 0]⟩),.bool true)]
def nW:dm:=[(71,[.agg ⟨[0,1,2,3,4,5]⟩],.bool true),
 (72,[.agg ⟨[al 0,al 1,al 2,al 3,al 4,al 5]⟩],.bool true)]
theorem hq:b9 (at' 37 eS nW body aZ)=some (.bool false):=ag
def fq:aU:=[(.bin .leq 3 7 (I 2097152),.bool true),
 (.len #[26] 3 6,8),
 (.bin .eql 3 7 8,.bool true),
 (.bin .geq 3 9 (I 0),.bool true)]
def qN:dm:=[(71,[.agg ⟨[0,1,2,3,4,5]⟩],.bool true),
 (72,[.agg ⟨[al 0,al 1,al 2,al 3,al 4,al 5]⟩],.bool false),
 (73,[.agg ⟨[al 0,al 1,al 2,al 3,al 4,al 5]⟩],al 7),
 (92,[al 6,.func (.func 75) ⟨[]⟩ ⟨[]⟩],al 9)]
theorem ka:b9 (at' 37 fq qN body aZ)=some (.bool false):=ag
def hs:aU:=[(.bin .leq 3 7 (I 2097152),.bool true),
 (.len #[26] 3 6,8),
 (.bin .eql 3 7 8,.bool true),
 (.bin .geq 3 9 (I 0),.bool false)]
def mZ:dm:=[(71,[.agg ⟨[0,1,2,3,4,5]⟩],.bool true),
 (72,[.agg ⟨[al 0,al 1,al 2,al 3,al 4,al 5]⟩],.bool false),
 (73,[.agg ⟨[al 0,al 1,al 2,al 3,al 4,al 5]⟩],al 7),
 (92,[al 6,.func (.func 75) ⟨[]⟩ ⟨[]⟩],al 9)]
theorem gy:b9 (at' 37 hs mZ body aZ)=some (.bool true):=ag
def hN:aU:=[(.bin .leq 3 7 (I 2097152),.bool true),
 (.len #[26] 3 6,8),
 (.bin .eql 3 7 8,.bool false)]
def vM:dm:=[(71,[.agg ⟨[0,1,2,3,4,5]⟩],.bool true),
 (72,[.agg ⟨[al 0,al 1,al 2,al 3,al 4,al 5]⟩],.bool false),
 (73,[.agg ⟨[al 0,al 1,al 2,al 3,al 4,al 5]⟩],al 7)]
theorem iC:b9 (at' 37 hN vM body aZ)=some (.bool false):=ag
def hS:aU:=[(.bin .leq 3 7 (I 2097152),.bool false)]
def sI:dm:=[(71,[.agg ⟨[0,1,2,3,4,5]⟩],.bool true),
 (72,[.agg ⟨[al 0,al 1,al 2,al 3,al 4,al 5]⟩],.bool false),
 (73,[.agg ⟨[al 0,al 1,al 2,al 3,al 4,al 5]⟩],al 7)]
theorem lA:b9 (at' 37 hS sI body aZ)=some (.bool false):=ag
def AQ:dm:=[(71,[.agg ⟨[0,1,2,3,4,5]⟩],.bool false)]
theorem np:b9 (at' 37 [] AQ body aZ)=some (.bool false):=ag
@[reducible] noncomputable def a6 (cells:List Int) (b_:bH) (b3 ca:Nat) (b:cx):List ad:=[I b.1,I b.2.1,I b.2.2.1,I b.2.2.2.1,I b.2.2.2.2.1,I b.2.2.2.2.2,.slice b_ b3 ca,I (gj b),I ((cells.length:Nat):Int),I (s8 cells)]
theorem any (W:aG) {b:cx} {b_:bH} {b3 ca:Nat} {cells:List Int} (hT:dr (a7 W) 1 gq (.slice b_ b3 ca) cells) (aT:cells.length<=10000000) (iv:b3=cells.length):Calls Tryd.prog 50 #[.agg ⟨[I b.1,I b.2.1,I b.2.2.1,I b.2.2.2.1,I b.2.2.2.2.1,I b.2.2.2.2.2,.slice b_ b3 ca]⟩] W λe w'=>e= .returned (.bool (decide (xp b cells)))/\cO W.heap.size W w':=by
 refine kT (a6 cells b_ b3 ca b) body aZ N [.agg ⟨[al 0,al 1,al 2,al 3,al 4,al 5,al 6]⟩] Tryd.func50 λa ae=> ?_
 letI:=bE ae;have a_:=cC.q_ W;by_cases bd:okB b
 ·by_cases af:¬ki b
  ·by_cases ah:b=((0,0,0,0,0,0):cx)
   ·by_cases aH:(gj b)<=2097152
    ·by_cases ck:(gj b)=((cells.length:Nat):Int)
     ·by_cases dd:0<=(s8 cells)
      ·refine br bz h2 (U (H9 J J J J (by rw[gO ah];rfl)) (U bf (U (e4 (hT.mono a_.ext) iD) (U bf (U bf aB))))) (cv (zE J J J J bd) (cv (H' J J J J af) (cv (A2 J J J J aY) (cv (Lr J J J J (hT.mono a_.ext) aT) aC)))) ?_ ae
       exact b2 b4 λw2 bk=>(by (rw[A3 (λq1 aI bS fo=>by omega)];rfl))
      ·refine br cp hR (U (H9 J J J J (by rw[gO ah];rfl)) (U bf (U (e4 (hT.mono a_.ext) iD) (U bf (U a' aB))))) (cv (zE J J J J bd) (cv (H' J J J J af) (cv (A2 J J J J aY) (cv (Lr J J J J (hT.mono a_.ext) aT) aC)))) ?_ ae
       exact b2 bs λw2 bk=>(by (rw[Ye aY (by exact .inr aY) aj aj aj];rfl))
     ·refine br dh lq (U (H9 J J J J (by rw[gO ah];rfl)) (U bf (U (e4 (hT.mono a_.ext) iD) (U a' aB)))) (cv (zE J J J J bd) (cv (H' J J J J af) (cv (A2 J J J J aY) aC))) ?_ ae
      exact b2 cw λw2 bk=>(by (rw[A3 (λq1 aI bS fo=>by omega)];rfl))
    ·refine br d' kb (U (H9 J J J J (by rw[gO ah];rfl)) (U a' aB)) (cv (zE J J J J bd) (cv (H' J J J J af) (cv (A2 J J J J aY) aC))) ?_ ae
     exact b2 dD λw2 bk=>(by (rw[A3 (λq1 aI bS fo=>by omega)];rfl))
   ·refine br eS nW (U (H9 J J J J (by rw[dT ah];rfl)) aB) (cv (zE J J J J bd) (cv (H' J J J J af) aC)) ?_ ae
    exact b2 hq λw2 bk=>(by (rw[A3 (λq1 aI bS fo=>by exact absurd (aI.resolve_left aY) aY)];rfl))
  ·by_cases ah:(gj b)<=2097152
   ·by_cases aH:(gj b)=((cells.length:Nat):Int)
    ·by_cases ck:0<=(s8 cells)
     ·refine br fq qN (U bf (U (e4 (hT.mono a_.ext) iD) (U bf (U bf aB)))) (cv (zE J J J J bd) (cv (Lq J J J J af) (cv (A2 J J J J aY) (cv (Lr J J J J (hT.mono a_.ext) aT) aC)))) ?_ ae
      exact b2 ka λw2 bk=>(by (rw[A3 (λq1 aI bS fo=>by omega)];rfl))
     ·refine br hs mZ (U bf (U (e4 (hT.mono a_.ext) iD) (U bf (U a' aB)))) (cv (zE J J J J bd) (cv (Lq J J J J af) (cv (A2 J J J J aY) (cv (Lr J J J J (hT.mono a_.ext) aT) aC)))) ?_ ae
      exact b2 gy λw2 bk=>(by (rw[Ye aY (by exact .inl (Classical.not_not.1 aY)) aj aj aj];rfl))
    ·refine br hN vM (U bf (U (e4 (hT.mono a_.ext) iD) (U a' aB))) (cv (zE J J J J bd) (cv (Lq J J J J af) (cv (A2 J J J J aY) aC))) ?_ ae
     exact b2 iC λw2 bk=>(by (rw[A3 (λq1 aI bS fo=>by omega)];rfl))
   ·refine br hS sI (U a' aB) (cv (zE J J J J bd) (cv (Lq J J J J af) (cv (A2 J J J J aY) aC))) ?_ ae
    exact b2 lA λw2 bk=>(by (rw[A3 (λq1 aI bS fo=>by omega)];rfl))
 ·refine br [] AQ aB (cv (ahF J J J J bd) aC) ?_ ae
  exact b2 np λw2 bk=>(by (rw[A3 (λq1 aI bS fo=>by exact absurd q1 aY)];rfl))
end Rc
end a1
namespace a1
def Ls (r:Nat):Bool:=decide (97<=r)&&decide (r<=122)
def CU (r:Nat):Bool:= !Ls r&& !decide (r=45)
def qo (s:gx):Prop:=(0<s.length/\s.length<=32)/\¬(((s.getD 0 0).toNat:Nat):Int)=45/\¬(((s.getD ((((s.length:Nat):Int)-1)).toNat 0).toNat:Nat):Int)=45/\Lib.idxFunc CU true ⟨s.toArray⟩<0
instance (s:gx):Decidable (qo s):=by unfold qo;infer_instance
abbrev Rd:=gx×Bool×Bool×Bool
def ahG (x:Rd):List ad:=[da x.1,.bool x.2.1,.bool x.2.2.1,.bool x.2.2.2]
abbrev rL.val (x:Rd):ad:= .agg ⟨ahG x⟩
def m' (x:dx):Rd:=
 if x.2.1=true then (if x.2.2.1=true then ([],false,false,false) else if x.2.2.2.1=true then ([102,97,108,108,105,110,103],true,false,true) else ([115,111,108,105,100],true,false,false))
 else if x.2.2.1=true then (if x.2.2.2.1=true then ([],false,false,false) else ([108,105,113,117,105,100],false,true,false))
 else if x.2.2.2.1=true then ([],false,false,false) else ([103,97,115],false,false,false)
section
variable {x:dx}
theorem ahH (bd:¬x.2.1=true) (af:¬x.2.2.1=true) (ah:¬x.2.2.2.1=true):m' x=([103,97,115],false,false,false):=by unfold m';rw[aV bd,aV af,aV ah]
theorem ahI (bd:x.2.1=true) (af:¬x.2.2.1=true) (ah:¬x.2.2.2.1=true):m' x=([115,111,108,105,100],true,false,false):=by unfold m';rw[aP bd,aV af,aV ah]
theorem ahJ (bd:x.2.1=true) (af:¬x.2.2.1=true) (ah:x.2.2.2.1=true):m' x=([102,97,108,108,105,110,103],true,false,true):=by unfold m';rw[aP bd,aV af,aP ah]
theorem ahK (bd:¬x.2.1=true) (af:x.2.2.1=true) (ah:¬x.2.2.2.1=true):m' x=([108,105,113,117,105,100],false,true,false):=by unfold m';rw[aV bd,aP af,aV ah]
theorem ahL (bd:x.2.1=true) (af:x.2.2.1=true):m' x=([],false,false,false):=by unfold m';rw[aP bd,aP af]
theorem Yf (bd:¬x.2.1=true) (ah:x.2.2.2.1=true):m' x=([],false,false,false):=by unfold m';rw[aV bd];split<;>first|rfl|rw[aP ah]
end
def iz (x:dx):Prop:=qo x.1/\¬(m' x).1=[]/\1<=x.2.2.2.2.1/\x.2.2.2.2.1<=16/\0<=x.2.2.2.2.2.1/\x.2.2.2.2.2.1<=15/\0<=x.2.2.2.2.2.2.1/\x.2.2.2.2.2.2.1<=15/\0<=x.2.2.2.2.2.2.2/\x.2.2.2.2.2.2.2<=15
instance (x:dx):Decidable (iz x):=by unfold iz;infer_instance
def Ia:dx:=([97,105,114],false,false,false,1,0,0,0)
def CV (l:List dx) (i:Nat):List gx:=(l.take i).map (·.1)
def zF (l:List dx) (i:Nat):Prop:=¬iz (l.getD i default)\/(l.getD i default).1∈CV l i
instance (l:List dx) (i:Nat):Decidable (zF l i):=by unfold zF;infer_instance
def nZ (l:List dx):Int×Int:=
 if 256<l.length then (-1,2) else if l.length=0 then (-1,1) else if ¬l.getD 0 default=Ia then (0,1) else
 match (List.range l.length).find? (λi=>decide (zF l i)) with
 |some i=>(i,if iz (l.getD i default) then 10 else 1)
 |none=>(0,0)
section
variable {l:List dx}
theorem ahM (h:256<l.length):nZ l=(-1,2):=by unfold nZ;rw[aP h]
theorem ahN (bd:¬256<l.length) (h:l.length=0):nZ l=(-1,1):=by unfold nZ;rw[aV bd,aP h]
theorem ahO (bd:¬256<l.length) (af:¬l.length=0) (h:¬l.getD 0 default=Ia):nZ l=(0,1):=by unfold nZ;rw[aV bd,aV af,aP h]
theorem Yg {p:Nat->Bool} {n i:Nat} (ak:i<n) (h:∀j,j<i->p j=false) (hp:p i=true):(List.range n).find? p=some i:=by
 rw[List.find?_eq_some_iff_getElem];refine⟨hp,i,by simpa using ak,by simp,λj aq=> ?_⟩;simp [h j aq]
theorem ahP {i:Nat} (bd:¬256<l.length) (af:¬l.length=0) (cG:l.getD 0 default=Ia) (ak:i<l.length) (h:∀j,j<i->¬zF l j) (ai:¬iz (l.getD i default)):nZ l=((i:Int),1):=by
 unfold nZ;rw[aV bd,aV af,aV (λh=>h cG),Yg ak (λj aq=>dT (h j aq)) (gO (.inl ai))];simp only;rw[aV ai]
theorem ahQ {i:Nat} (bd:¬256<l.length) (af:¬l.length=0) (cG:l.getD 0 default=Ia) (ak:i<l.length) (h:∀j,j<i->¬zF l j) (aR:iz (l.getD i default)) (ai:(l.getD i default).1∈CV l i):nZ l=((i:Int),10):=by
 unfold nZ;rw[aV bd,aV af,aV (λh=>h cG),Yg ak (λj aq=>dT (h j aq)) (gO (.inr ai))];simp only;rw[aP aR]
theorem ahR (bd:¬256<l.length) (af:¬l.length=0) (cG:l.getD 0 default=Ia) (h:∀j,j<l.length->¬zF l j):nZ l=(0,0):=by
 unfold nZ;rw[aV bd,aV af,aV (λh=>h cG),List.find?_eq_none.2 λj aq=>by simpa using h j (by simpa using aq)]
theorem ahS {i:Nat} (aR:iz (l.getD i default)) (ai:¬(l.getD i default).1∈CV l i):¬zF l i:=λh=>h.elim (λh=>h aR) ai
theorem ahT {i:Nat} (ak:i<l.length):CV l (i+1)=CV l i++[(l.getD i default).1]:=by
 unfold CV;rw[List.take_add_one,List.map_append,ig ak,eP,ig ak];rfl
end
theorem Re:bZ Tryd.prog (underlying 120)=some (.map 9 4):=ag
theorem Rf:bZ Tryd.prog (underlying 9)=some .string:=ag
theorem ahU:bZ Tryd.prog (zeroValue 4)=some (.bool false):=ag
theorem Rg (b:Bool) (n:gx):bZ Tryd.prog (Instr.checkKey b 10000 9 (da n))=some ():=ag
end a1
end Go.Proofs.YtepcfjbfkedlpaaDoor
namespace Go.Proofs.YtepcfjbfkedlpaaDoor
open Go Go.Proofs Go.Shelf Go.RowKit Go.Lib
section
def ahV:Go.Shelf.Ren:=⟨λ|15=>100|20=>106|n=>n,λ|9=>9|23=>149|3=>3|4=>4|0=>0|21=>21|n=>n,λ|n=>n⟩
theorem ahW:Go.Proofs.LaysGw.n15 Tryd.prog ahV:={
 mixed:=by kernel_rfl
 f15:=Tryd.func100.trans (congrArg some ag)
 f20:=Tryd.func106.trans (congrArg some ag)
 t0:=Tryd.underlying0
 a0:=Tryd.isAgg0
 z0:=Tryd.sizeOf0
 v0:=Tryd.zeroValue0
 i0:=by kernel_rfl
 t3:=Tryd.underlying3
 a3:=Tryd.isAgg3
 z3:=Tryd.sizeOf3
 v3:=Tryd.zeroValue3
 i3:=by kernel_rfl
 t4:=Tryd.underlying4
 a4:=Tryd.isAgg4
 z4:=Tryd.sizeOf4
 v4:=Tryd.zeroValue4
 i4:=by kernel_rfl
 t9:=Tryd.underlying9
 a9:=Tryd.isAgg9
 z9:=Tryd.sizeOf9
 v9:=Tryd.zeroValue9
 i9:=by kernel_rfl
 t21:=Tryd.underlying21
 a21:=Tryd.isAgg21
 z21:=Tryd.sizeOf21
 v21:=Tryd.zeroValue21
 i21:=by kernel_rfl
 t23:=Tryd.underlying149
 a23:=Tryd.isAgg149
 z23:=Tryd.sizeOf149
 v23:=Tryd.zeroValue149
 i23:=by kernel_rfl}
open Go.RowKit Go.Lib in
theorem strings_IndexFunc (g:Nat) (Jg:Array ad) (Ez:∀args w,(callFunc g args).run Tryd.prog w= .ok (.enter g args) w) (p:Nat->Bool) (s:ByteArray) (w:aG) (hp:PredAt Tryd.prog g Jg encR p w):
 Calls Tryd.prog 100 #[.string s,.func (.func g) #[] Jg] w λe w'=>e= .returned (.int .i64 (Lib.idxFunc p true s))/\Below w.heap.size w w':=Any.strings_IndexFunc ahW g Jg Ez p s w hp
namespace a1
theorem ahX (r:Nat) (W:aG):Calls Tryd.prog 99 #[encR r] W λe w'=>e= .returned (.bool (Ls r))/\∃q,w'=W.drewN q:=by
 by_cases af:97<=r<;>by_cases ah:r<=122
 all_goals
  have y0:(97:Int)<=(r:Int)↔97<=r:=by omega
  have z2:(r:Int)<=122↔r<=122:=by omega
  go_enter Tryd.func99,Tryd.ntmps99
  go_wp2
  all_goals first|(exfalso;omega)|(go_ret;exact⟨by simp [Ls,af,ah],0,rfl⟩)
theorem ahY (w:aG) (B off:Nat) (cM:B<w.heap.size) (aA:w.cell? ⟨B,off,none⟩=some (.func (.func 99) #[] #[])):
  PredAt Tryd.prog 101 #[.pointer (some ⟨B,off,none⟩)] encR CU w:=λW r ai=>by
 have Fz:W.cell? ⟨B,off,none⟩=some (.func (.func 99) #[] #[]):=(ai.cell (p:=⟨B,off,none⟩) cM).trans aA;have jZ:=ahX r W;unfold FnGives;cases af:Ls r<;>by_cases z2:(r:Int)=45
 all_goals
  have ah:r=45↔(r:Int)=45:=by omega
  rw[af] at jZ
  go_enter Tryd.func101,Tryd.ntmps101
  go_wp2_with (go_at_call 99;refine jZ.mono ?_;rintro e w' ⟨rfl,q,rfl⟩)
  all_goals first|(go_ret;exact⟨by simp [CU,af,ah,z2],q,rfl⟩)|omega
theorem Yh (g:FuncId) (u:ad):bL (Ac g u)=false:=by unfold Ac;simp [bL,fH]
theorem Yi [bp] {x r:ad} {s:gx} (hp:bL x=true) (ar:bL r=true) (ex:bb x=da s) (dc:bb r= .int .i64 (Lib.idxFunc CU true ⟨s.toArray⟩)):
  BN Tryd.prog (100,[x,Ac 101 (.func (.func 99) ⟨[]⟩ ⟨[]⟩)],r):=by
 intro w _ us cG
 match us,cG with
 |[eL,eY],⟨af,ah,_⟩=>
  have bs:eL=da s:=by
   rcases af with ⟨_,h⟩|⟨g,u,B,off,h,_⟩
   ·rw[h,ex]
   ·rw[h,Yh] at hp;cases hp
  rcases ah with ⟨h,_⟩|⟨g,u,B,off,h,_,cw,cM,aA⟩
  ·rw[Yh] at h;cases h
  ·unfold Ac at h
   simp only [Value.func.injEq,Fn.func.injEq,Array.mk.injEq,List.cons.injEq,Value.agg.injEq,and_true,true_and] at h;obtain⟨rfl,rfl⟩:=h;subst bs cw;refine(strings_IndexFunc 101 #[.pointer (some ⟨B,off,none⟩)] (enters_of Tryd.func101 ag rfl) CU ⟨s.toArray⟩ w (ahY w B off cM aA)).mono λe w' ⟨he,ai⟩=> ?_
   exact⟨_,he,λφ=>by rw[<-dc];exact aM.wD φ r ar,⟨ai,c4 _⟩⟩
 |[],h=>exact h.elim
 |[_],h=>exact h.2.elim
 |_::_::_::_,h=>exact h.2.2.elim
end a1
end
end Go.Proofs.YtepcfjbfkedlpaaDoor
namespace Go.Proofs.YtepcfjbfkedlpaaDoor
open Go Go.Proofs Go.RowKit
namespace a1
namespace Rh
noncomputable def body:Code:=(Tryd.f90.body).getD .skip
def N:Nat:=31
noncomputable abbrev b9:=fu Tryd.prog Tryd.f90
def aZ:c6:={sl:=bm [(0,0)],ms:=[],A:=start}
def bz:aU:=[(.len #[9] 3 0,1),
 (.bin .gtr 3 1 (I 0),.bool true),
 (.bin .leq 3 1 (I 32),.bool true),
 (.h6 9 0 (I 0),2),
 (.bin .neq 5 2 (.int .u8 45),.bool false)]
theorem b4:b9 (at' 31 bz [] body aZ)=some (.bool false):=ag
def cp:aU:=[(.len #[9] 3 0,1),
 (.bin .gtr 3 1 (I 0),.bool true),
 (.bin .leq 3 1 (I 32),.bool true),
 (.h6 9 0 (I 0),2),
 (.bin .neq 5 2 (.int .u8 45),.bool true),
 (.bin .sub 3 1 (I 1),3),
 (.h6 9 0 3,4),
 (.bin .neq 5 4 (.int .u8 45),.bool false)]
theorem bs:b9 (at' 31 cp [] body aZ)=some (.bool false):=ag
def dh:aU:=[(.len #[9] 3 0,1),
 (.bin .gtr 3 1 (I 0),.bool true),
 (.bin .leq 3 1 (I 32),.bool true),
 (.h6 9 0 (I 0),2),
 (.bin .neq 5 2 (.int .u8 45),.bool true),
 (.bin .sub 3 1 (I 1),3),
 (.h6 9 0 3,4),
 (.bin .neq 5 4 (.int .u8 45),.bool true),
 (.bin .lss 3 5 (I 0),.bool true)]
def lq:dm:=[(100,[0,.func (.func 101) ⟨[]⟩ ⟨[.agg ⟨[.slice none 7 7,.func (.func 99) ⟨[]⟩ ⟨[]⟩]⟩]⟩],5)]
theorem cw:b9 (at' 31 dh lq body aZ)=some (.bool true):=ag
def d':aU:=[(.len #[9] 3 0,1),
 (.bin .gtr 3 1 (I 0),.bool true),
 (.bin .leq 3 1 (I 32),.bool true),
 (.h6 9 0 (I 0),2),
 (.bin .neq 5 2 (.int .u8 45),.bool true),
 (.bin .sub 3 1 (I 1),3),
 (.h6 9 0 3,4),
 (.bin .neq 5 4 (.int .u8 45),.bool true),
 (.bin .lss 3 5 (I 0),.bool false)]
def kb:dm:=[(100,[0,.func (.func 101) ⟨[]⟩ ⟨[.agg ⟨[.slice none 7 7,.func (.func 99) ⟨[]⟩ ⟨[]⟩]⟩]⟩],5)]
theorem dD:b9 (at' 31 d' kb body aZ)=some (.bool false):=ag
def eS:aU:=[(.len #[9] 3 0,1),
 (.bin .gtr 3 1 (I 0),.bool true),
 (.bin .leq 3 1 (I 32),.bool false)]
theorem hq:b9 (at' 31 eS [] body aZ)=some (.bool false):=ag
def fq:aU:=[(.len #[9] 3 0,1),
 (.bin .gtr 3 1 (I 0),.bool false)]
theorem ka:b9 (at' 31 fq [] body aZ)=some (.bool false):=ag
@[reducible] noncomputable def a6 (s:gx):List ad:=[da s,I ((s.length:Nat):Int),.int .u8 (((s.getD 0 0).toNat:Nat):Int),I (((s.length:Nat):Int)-1),.int .u8 (((s.getD ((((s.length:Nat):Int)-1)).toNat 0).toNat:Nat):Int),I (Lib.idxFunc CU true ⟨s.toArray⟩)]
theorem any (W:aG) (s:gx):Calls Tryd.prog 90 #[da s] W λe w'=>e= .returned (.bool (decide (qo s)))/\cO W.heap.size W w':=by
 refine kT (a6 s) body aZ N [al 0] Tryd.func90 λa ae=> ?_
 letI:=bE ae;by_cases bd:0<((s.length:Nat):Int)
 ·by_cases af:((s.length:Nat):Int)<=32
  ·by_cases ah:(((s.getD 0 0).toNat:Nat):Int)=45
   ·refine br bz [] (U (aW.Aj J J sw J J) (U bf (U bf (U (aW.B7 (l:=s) (j:=0) (show 0<s.length by omega) J J J sw J J J) (U uH aB))))) aC ?_ ae
    exact b2 b4 λw2 bk=>(by (rw[dT (λh:qo s=>by have af:=h.1;have ah:=h.2.1;have aH:=h.2.2.1;have ck:=h.2.2.2;omega)];rfl))
   ·by_cases aH:(((s.getD ((((s.length:Nat):Int)-1)).toNat 0).toNat:Nat):Int)=45
    ·refine br cp [] (U (aW.Aj J J sw J J) (U bf (U bf (U (aW.B7 (l:=s) (j:=0) (show 0<s.length by omega) J J J sw J J J) (U vI (U gU (U (aW.B7 (l:=s) (j:=((((s.length:Nat):Int)-1)).toNat) (show ((((s.length:Nat):Int)-1)).toNat<s.length by omega) J J J sw rfl (Gd aj) rfl) (U uH aB)))))))) aC ?_ ae
     exact b2 bs λw2 bk=>(by (rw[dT (λh:qo s=>by have af:=h.1;have ah:=h.2.1;have aH:=h.2.2.1;have ck:=h.2.2.2;omega)];rfl))
    ·by_cases ck:(Lib.idxFunc CU true ⟨s.toArray⟩)<0
     ·refine br dh lq (U (aW.Aj J J sw J J) (U bf (U bf (U (aW.B7 (l:=s) (j:=0) (show 0<s.length by omega) J J J sw J J J) (U vI (U gU (U (aW.B7 (l:=s) (j:=((((s.length:Nat):Int)-1)).toNat) (show ((((s.length:Nat):Int)-1)).toNat<s.length by omega) J J J sw rfl (Gd aj) rfl) (U vI (U bf aB))))))))) (N5 (Yi J J J J) aC) ?_ ae
      exact b2 cw λw2 bk=>(by (rw[gO (show qo s from ⟨⟨aj,aj⟩,aY,aY,aY⟩)];rfl))
     ·refine br d' kb (U (aW.Aj J J sw J J) (U bf (U bf (U (aW.B7 (l:=s) (j:=0) (show 0<s.length by omega) J J J sw J J J) (U vI (U gU (U (aW.B7 (l:=s) (j:=((((s.length:Nat):Int)-1)).toNat) (show ((((s.length:Nat):Int)-1)).toNat<s.length by omega) J J J sw rfl (Gd aj) rfl) (U vI (U a' aB))))))))) (N5 (Yi J J J J) aC) ?_ ae
      exact b2 dD λw2 bk=>(by (rw[dT (λh:qo s=>by have af:=h.1;have ah:=h.2.1;have aH:=h.2.2.1;have ck:=h.2.2.2;omega)];rfl))
  ·refine br eS [] (U (aW.Aj J J sw J J) (U bf (U a' aB))) aC ?_ ae
   exact b2 hq λw2 bk=>(by (rw[dT (λh:qo s=>by have af:=h.1;have ah:=h.2.1;have aH:=h.2.2.1;have ck:=h.2.2.2;omega)];rfl))
 ·refine br fq [] (U (aW.Aj J J sw J J) (U a' aB)) aC ?_ ae
  exact b2 ka λw2 bk=>(by (rw[dT (λh:qo s=>by have af:=h.1;have ah:=h.2.1;have aH:=h.2.2.1;have ck:=h.2.2.2;omega)];rfl))
end Rh
namespace Yj
noncomputable def body:Code:=(Tryd.f91.body).getD .skip
def N:Nat:=31
noncomputable abbrev b9:=fu Tryd.prog Tryd.f91
def aZ:c6:={sl:=bm [(0,.agg ⟨[0,1,2,3,4,5,6,7]⟩)],ms:=[],A:=start}
def bz:aU:=[(.bh 151 1000000,.agg ⟨[da [103,97,115],.bool false,.bool false,.bool false,da [115,111,108,105,100],.bool true,.bool false,.bool false,da [102,97,108,108,105,110,103],.bool true,.bool false,.bool true,da [108,105,113,117,105,100],.bool false,.bool true,.bool false]⟩),
 (.bin .eql 4 (.bool false) 1,.bool false),
 (.bin .eql 4 (.bool true) 1,.bool true),
 (.bin .eql 4 (.bool false) 2,.bool false)]
theorem b4:b9 (at' 31 bz [] body aZ)=some (.agg ⟨[da [],.bool false,.bool false,.bool false]⟩):=ag
def cp:aU:=[(.bh 151 1000000,.agg ⟨[da [103,97,115],.bool false,.bool false,.bool false,da [115,111,108,105,100],.bool true,.bool false,.bool false,da [102,97,108,108,105,110,103],.bool true,.bool false,.bool true,da [108,105,113,117,105,100],.bool false,.bool true,.bool false]⟩),
 (.bin .eql 4 (.bool false) 1,.bool false),
 (.bin .eql 4 (.bool true) 1,.bool true),
 (.bin .eql 4 (.bool false) 2,.bool true),
 (.bin .eql 4 (.bool false) 3,.bool false),
 (.bin .eql 4 (.bool true) 3,.bool true)]
theorem bs:b9 (at' 31 cp [] body aZ)=some (.agg ⟨[da [102,97,108,108,105,110,103],.bool true,.bool false,.bool true]⟩):=ag
def dh:aU:=[(.bh 151 1000000,.agg ⟨[da [103,97,115],.bool false,.bool false,.bool false,da [115,111,108,105,100],.bool true,.bool false,.bool false,da [102,97,108,108,105,110,103],.bool true,.bool false,.bool true,da [108,105,113,117,105,100],.bool false,.bool true,.bool false]⟩),
 (.bin .eql 4 (.bool false) 1,.bool false),
 (.bin .eql 4 (.bool true) 1,.bool true),
 (.bin .eql 4 (.bool false) 2,.bool true),
 (.bin .eql 4 (.bool false) 3,.bool true)]
theorem cw:b9 (at' 31 dh [] body aZ)=some (.agg ⟨[da [115,111,108,105,100],.bool true,.bool false,.bool false]⟩):=ag
def d':aU:=[(.bh 151 1000000,.agg ⟨[da [103,97,115],.bool false,.bool false,.bool false,da [115,111,108,105,100],.bool true,.bool false,.bool false,da [102,97,108,108,105,110,103],.bool true,.bool false,.bool true,da [108,105,113,117,105,100],.bool false,.bool true,.bool false]⟩),
 (.bin .eql 4 (.bool false) 1,.bool true),
 (.bin .eql 4 (.bool false) 2,.bool false),
 (.bin .eql 4 (.bool true) 1,.bool false),
 (.bin .eql 4 (.bool true) 2,.bool true),
 (.bin .eql 4 (.bool false) 3,.bool false)]
theorem dD:b9 (at' 31 d' [] body aZ)=some (.agg ⟨[da [],.bool false,.bool false,.bool false]⟩):=ag
def eS:aU:=[(.bh 151 1000000,.agg ⟨[da [103,97,115],.bool false,.bool false,.bool false,da [115,111,108,105,100],.bool true,.bool false,.bool false,da [102,97,108,108,105,110,103],.bool true,.bool false,.bool true,da [108,105,113,117,105,100],.bool false,.bool true,.bool false]⟩),
 (.bin .eql 4 (.bool false) 1,.bool true),
 (.bin .eql 4 (.bool false) 2,.bool false),
 (.bin .eql 4 (.bool true) 1,.bool false),
 (.bin .eql 4 (.bool true) 2,.bool true),
 (.bin .eql 4 (.bool false) 3,.bool true)]
theorem hq:b9 (at' 31 eS [] body aZ)=some (.agg ⟨[da [108,105,113,117,105,100],.bool false,.bool true,.bool false]⟩):=ag
def fq:aU:=[(.bh 151 1000000,.agg ⟨[da [103,97,115],.bool false,.bool false,.bool false,da [115,111,108,105,100],.bool true,.bool false,.bool false,da [102,97,108,108,105,110,103],.bool true,.bool false,.bool true,da [108,105,113,117,105,100],.bool false,.bool true,.bool false]⟩),
 (.bin .eql 4 (.bool false) 1,.bool true),
 (.bin .eql 4 (.bool false) 2,.bool true),
 (.bin .eql 4 (.bool false) 3,.bool false),
 (.bin .eql 4 (.bool true) 1,.bool false),
 (.bin .eql 4 (.bool true) 2,.bool false)]
theorem ka:b9 (at' 31 fq [] body aZ)=some (.agg ⟨[da [],.bool false,.bool false,.bool false]⟩):=ag
def hs:aU:=[(.bh 151 1000000,.agg ⟨[da [103,97,115],.bool false,.bool false,.bool false,da [115,111,108,105,100],.bool true,.bool false,.bool false,da [102,97,108,108,105,110,103],.bool true,.bool false,.bool true,da [108,105,113,117,105,100],.bool false,.bool true,.bool false]⟩),
 (.bin .eql 4 (.bool false) 1,.bool true),
 (.bin .eql 4 (.bool false) 2,.bool true),
 (.bin .eql 4 (.bool false) 3,.bool true)]
theorem gy:b9 (at' 31 hs [] body aZ)=some (.agg ⟨[da [103,97,115],.bool false,.bool false,.bool false]⟩):=ag
@[reducible] noncomputable def a6 (x:dx):List ad:=[da x.1,.bool x.2.1,.bool x.2.2.1,.bool x.2.2.2.1,I x.2.2.2.2.1,I x.2.2.2.2.2.1,I x.2.2.2.2.2.2.1,I x.2.2.2.2.2.2.2]
theorem any (W:aG) (x:dx) (d_:oH (a7 W)):Calls Tryd.prog 91 #[M.val x] W λe w'=>e= .returned (rL.val (m' x))/\cO W.heap.size W w':=by
 refine kT (a6 x) body aZ N [.agg ⟨[al 0,al 1,al 2,al 3,al 4,al 5,al 6,al 7]⟩] Tryd.func91 λa ae=> ?_
 letI:=bE ae;by_cases bd:x.2.1=true
 ·by_cases af:x.2.2.1=true
  ·refine br bz [] (U (B_ d_ (o:=0) (n:=16) J J ag ag J J J J) (U (yZ J J J J aL bd) (U (D0 J J J J J bd) (U (yZ J J J J aL af) aB)))) aC ?_ ae
   exact b2 b4 λw2 bk=>(by (rw[ahL aY aY];rfl))
  ·by_cases ah:x.2.2.2.1=true
   ·refine br cp [] (U (B_ d_ (o:=0) (n:=16) J J ag ag J J J J) (U (yZ J J J J aL bd) (U (D0 J J J J J bd) (U (wR J J J J aL af) (U (yZ J J J J aL ah) (U (D0 J J J J J ah) aB)))))) aC ?_ ae
    exact b2 bs λw2 bk=>(by (rw[ahJ aY aY aY];rfl))
   ·refine br dh [] (U (B_ d_ (o:=0) (n:=16) J J ag ag J J J J) (U (yZ J J J J aL bd) (U (D0 J J J J J bd) (U (wR J J J J aL af) (U (wR J J J J aL ah) aB))))) aC ?_ ae
    exact b2 cw λw2 bk=>(by (rw[ahI aY aY aY];rfl))
 ·by_cases af:x.2.2.1=true
  ·by_cases ah:x.2.2.2.1=true
   ·refine br d' [] (U (B_ d_ (o:=0) (n:=16) J J ag ag J J J J) (U (wR J J J J aL bd) (U (yZ J J J J aL af) (U (Kd J J J J J bd) (U (D0 J J J J J af) (U (yZ J J J J aL ah) aB)))))) aC ?_ ae
    exact b2 dD λw2 bk=>(by (rw[Yf aY aY];rfl))
   ·refine br eS [] (U (B_ d_ (o:=0) (n:=16) J J ag ag J J J J) (U (wR J J J J aL bd) (U (yZ J J J J aL af) (U (Kd J J J J J bd) (U (D0 J J J J J af) (U (wR J J J J aL ah) aB)))))) aC ?_ ae
    exact b2 hq λw2 bk=>(by (rw[ahK aY aY aY];rfl))
  ·by_cases ah:x.2.2.2.1=true
   ·refine br fq [] (U (B_ d_ (o:=0) (n:=16) J J ag ag J J J J) (U (wR J J J J aL bd) (U (wR J J J J aL af) (U (yZ J J J J aL ah) (U (Kd J J J J J bd) (U (Kd J J J J J af) aB)))))) aC ?_ ae
    exact b2 ka λw2 bk=>(by (rw[Yf aY aY];rfl))
   ·refine br hs [] (U (B_ d_ (o:=0) (n:=16) J J ag ag J J J J) (U (wR J J J J aL bd) (U (wR J J J J aL af) (U (wR J J J J aL ah) aB)))) aC ?_ ae
    exact b2 gy λw2 bk=>(by (rw[ahH aY aY aY];rfl))
end Yj
end a1
namespace a1
variable [bp]
theorem mn {x:ad} {s:gx} (hp:fH [x]=true) (b5:fl [x]=[da s]) (h:qo s):j0 Tryd.prog (90,[x],.bool true):=
 kP (a:= #[da s]) hp rfl b5 rfl λw _=>(Rh.any w s).mono λe w' gE=>by rw[gO h] at gE;exact gE
theorem CW {x:ad} {s:gx} (hp:fH [x]=true) (b5:fl [x]=[da s]) (h:¬qo s):j0 Tryd.prog (90,[x],.bool false):=
 kP (a:= #[da s]) hp rfl b5 rfl λw _=>(Rh.any w s).mono λe w' gE=>by rw[dT h] at gE;exact gE
theorem mo {x r:ad} {m:dx} (hp:fH [x]=true) (ar:bL r=true) (b5:fl [x]=[M.val m]) (dc:bb r=rL.val (m' m)) (d_:oH bp.dz):j0 Tryd.prog (91,[x],r):=
 kP (a:= #[M.val m]) hp ar b5 dc λw hw=>Yj.any w m (d_.mono hw)
end a1
namespace a1
namespace Ri
noncomputable def body:Code:=(Tryd.f70.body).getD .skip
def N:Nat:=30
noncomputable abbrev b9:=fu Tryd.prog Tryd.f70
def aZ:c6:={sl:=bm [(0,.agg ⟨[0,1,2,3,4,5,6,7]⟩)],ms:=[],A:=start}
def bz:aU:=[(.bin .lss 3 5 (I 0),.bool true),
 (.bin .neq 9 8 (da []),.bool false)]
def h2:dm:=[(90,[0],.bool true),
 (91,[.agg ⟨[al 0,al 1,al 2,al 3,al 4,al 5,al 6,al 7]⟩],.agg ⟨[al 8,al 9,al 10,al 11]⟩)]
theorem b4:b9 (at' 30 bz h2 body aZ)=some (.bool false):=ag
def cp:aU:=[(.bin .lss 3 5 (I 0),.bool true),
 (.bin .neq 9 8 (da []),.bool true),
 (.bin .geq 3 4 (I 1),.bool true),
 (.bin .leq 3 4 (I 16),.bool true)]
def hR:dm:=[(90,[0],.bool true),
 (91,[.agg ⟨[al 0,al 1,al 2,al 3,al 4,al 5,al 6,al 7]⟩],.agg ⟨[al 8,al 9,al 10,al 11]⟩)]
theorem bs:b9 (at' 30 cp hR body aZ)=some (.bool false):=ag
def dh:aU:=[(.bin .lss 3 5 (I 0),.bool true),
 (.bin .neq 9 8 (da []),.bool true),
 (.bin .geq 3 4 (I 1),.bool true),
 (.bin .leq 3 4 (I 16),.bool false)]
def lq:dm:=[(90,[0],.bool true),
 (91,[.agg ⟨[al 0,al 1,al 2,al 3,al 4,al 5,al 6,al 7]⟩],.agg ⟨[al 8,al 9,al 10,al 11]⟩)]
theorem cw:b9 (at' 30 dh lq body aZ)=some (.bool false):=ag
def d':aU:=[(.bin .lss 3 5 (I 0),.bool true),
 (.bin .neq 9 8 (da []),.bool true),
 (.bin .geq 3 4 (I 1),.bool false)]
def kb:dm:=[(90,[0],.bool true),
 (91,[.agg ⟨[al 0,al 1,al 2,al 3,al 4,al 5,al 6,al 7]⟩],.agg ⟨[al 8,al 9,al 10,al 11]⟩)]
theorem dD:b9 (at' 30 d' kb body aZ)=some (.bool false):=ag
def eS:aU:=[(.bin .lss 3 5 (I 0),.bool true)]
def nW:dm:=[(90,[0],.bool false)]
theorem hq:b9 (at' 30 eS nW body aZ)=some (.bool false):=ag
def fq:aU:=[(.bin .lss 3 5 (I 0),.bool false),
 (.bin .gtr 3 5 (I 15),.bool true),
 (.bin .neq 9 8 (da []),.bool false)]
def qN:dm:=[(90,[0],.bool true),
 (91,[.agg ⟨[al 0,al 1,al 2,al 3,al 4,al 5,al 6,al 7]⟩],.agg ⟨[al 8,al 9,al 10,al 11]⟩)]
theorem ka:b9 (at' 30 fq qN body aZ)=some (.bool false):=ag
def hs:aU:=[(.bin .lss 3 5 (I 0),.bool false),
 (.bin .gtr 3 5 (I 15),.bool true),
 (.bin .neq 9 8 (da []),.bool true),
 (.bin .geq 3 4 (I 1),.bool true),
 (.bin .leq 3 4 (I 16),.bool true)]
def mZ:dm:=[(90,[0],.bool true),
 (91,[.agg ⟨[al 0,al 1,al 2,al 3,al 4,al 5,al 6,al 7]⟩],.agg ⟨[al 8,al 9,al 10,al 11]⟩)]
theorem gy:b9 (at' 30 hs mZ body aZ)=some (.bool false):=ag
def hN:aU:=[(.bin .lss 3 5 (I 0),.bool false),
 (.bin .gtr 3 5 (I 15),.bool true),
 (.bin .neq 9 8 (da []),.bool true),
 (.bin .geq 3 4 (I 1),.bool true),
 (.bin .leq 3 4 (I 16),.bool false)]
def vM:dm:=[(90,[0],.bool true),
 (91,[.agg ⟨[al 0,al 1,al 2,al 3,al 4,al 5,al 6,al 7]⟩],.agg ⟨[al 8,al 9,al 10,al 11]⟩)]
theorem iC:b9 (at' 30 hN vM body aZ)=some (.bool false):=ag
def hS:aU:=[(.bin .lss 3 5 (I 0),.bool false),
 (.bin .gtr 3 5 (I 15),.bool true),
 (.bin .neq 9 8 (da []),.bool true),
 (.bin .geq 3 4 (I 1),.bool false)]
def sI:dm:=[(90,[0],.bool true),
 (91,[.agg ⟨[al 0,al 1,al 2,al 3,al 4,al 5,al 6,al 7]⟩],.agg ⟨[al 8,al 9,al 10,al 11]⟩)]
theorem lA:b9 (at' 30 hS sI body aZ)=some (.bool false):=ag
def jT:aU:=[(.bin .lss 3 5 (I 0),.bool false),
 (.bin .gtr 3 5 (I 15),.bool true)]
def AQ:dm:=[(90,[0],.bool false)]
theorem np:b9 (at' 30 jT AQ body aZ)=some (.bool false):=ag
def jx:aU:=[(.bin .lss 3 5 (I 0),.bool false),
 (.bin .gtr 3 5 (I 15),.bool false),
 (.bin .lss 3 6 (I 0),.bool true),
 (.bin .neq 9 8 (da []),.bool false)]
def Hs:dm:=[(90,[0],.bool true),
 (91,[.agg ⟨[al 0,al 1,al 2,al 3,al 4,al 5,al 6,al 7]⟩],.agg ⟨[al 8,al 9,al 10,al 11]⟩)]
theorem k2:b9 (at' 30 jx Hs body aZ)=some (.bool false):=ag
def kD:aU:=[(.bin .lss 3 5 (I 0),.bool false),
 (.bin .gtr 3 5 (I 15),.bool false),
 (.bin .lss 3 6 (I 0),.bool true),
 (.bin .neq 9 8 (da []),.bool true),
 (.bin .geq 3 4 (I 1),.bool true),
 (.bin .leq 3 4 (I 16),.bool true)]
def Yk:dm:=[(90,[0],.bool true),
 (91,[.agg ⟨[al 0,al 1,al 2,al 3,al 4,al 5,al 6,al 7]⟩],.agg ⟨[al 8,al 9,al 10,al 11]⟩)]
theorem lV:b9 (at' 30 kD Yk body aZ)=some (.bool false):=ag
def mI:aU:=[(.bin .lss 3 5 (I 0),.bool false),
 (.bin .gtr 3 5 (I 15),.bool false),
 (.bin .lss 3 6 (I 0),.bool true),
 (.bin .neq 9 8 (da []),.bool true),
 (.bin .geq 3 4 (I 1),.bool true),
 (.bin .leq 3 4 (I 16),.bool false)]
def Yl:dm:=[(90,[0],.bool true),
 (91,[.agg ⟨[al 0,al 1,al 2,al 3,al 4,al 5,al 6,al 7]⟩],.agg ⟨[al 8,al 9,al 10,al 11]⟩)]
theorem jS:b9 (at' 30 mI Yl body aZ)=some (.bool false):=ag
def lX:aU:=[(.bin .lss 3 5 (I 0),.bool false),
 (.bin .gtr 3 5 (I 15),.bool false),
 (.bin .lss 3 6 (I 0),.bool true),
 (.bin .neq 9 8 (da []),.bool true),
 (.bin .geq 3 4 (I 1),.bool false)]
def Ht:dm:=[(90,[0],.bool true),
 (91,[.agg ⟨[al 0,al 1,al 2,al 3,al 4,al 5,al 6,al 7]⟩],.agg ⟨[al 8,al 9,al 10,al 11]⟩)]
theorem pb:b9 (at' 30 lX Ht body aZ)=some (.bool false):=ag
def nu:aU:=[(.bin .lss 3 5 (I 0),.bool false),
 (.bin .gtr 3 5 (I 15),.bool false),
 (.bin .lss 3 6 (I 0),.bool true)]
def Hu:dm:=[(90,[0],.bool false)]
theorem xg:b9 (at' 30 nu Hu body aZ)=some (.bool false):=ag
def s3:aU:=[(.bin .lss 3 5 (I 0),.bool false),
 (.bin .gtr 3 5 (I 15),.bool false),
 (.bin .lss 3 6 (I 0),.bool false),
 (.bin .gtr 3 6 (I 15),.bool true),
 (.bin .neq 9 8 (da []),.bool false)]
def AR:dm:=[(90,[0],.bool true),
 (91,[.agg ⟨[al 0,al 1,al 2,al 3,al 4,al 5,al 6,al 7]⟩],.agg ⟨[al 8,al 9,al 10,al 11]⟩)]
theorem pg:b9 (at' 30 s3 AR body aZ)=some (.bool false):=ag
def uW:aU:=[(.bin .lss 3 5 (I 0),.bool false),
 (.bin .gtr 3 5 (I 15),.bool false),
 (.bin .lss 3 6 (I 0),.bool false),
 (.bin .gtr 3 6 (I 15),.bool true),
 (.bin .neq 9 8 (da []),.bool true),
 (.bin .geq 3 4 (I 1),.bool true),
 (.bin .leq 3 4 (I 16),.bool true)]
def Hv:dm:=[(90,[0],.bool true),
 (91,[.agg ⟨[al 0,al 1,al 2,al 3,al 4,al 5,al 6,al 7]⟩],.agg ⟨[al 8,al 9,al 10,al 11]⟩)]
theorem sK:b9 (at' 30 uW Hv body aZ)=some (.bool false):=ag
def uX:aU:=[(.bin .lss 3 5 (I 0),.bool false),
 (.bin .gtr 3 5 (I 15),.bool false),
 (.bin .lss 3 6 (I 0),.bool false),
 (.bin .gtr 3 6 (I 15),.bool true),
 (.bin .neq 9 8 (da []),.bool true),
 (.bin .geq 3 4 (I 1),.bool true),
 (.bin .leq 3 4 (I 16),.bool false)]
def EX:dm:=[(90,[0],.bool true),
 (91,[.agg ⟨[al 0,al 1,al 2,al 3,al 4,al 5,al 6,al 7]⟩],.agg ⟨[al 8,al 9,al 10,al 11]⟩)]
theorem ru:b9 (at' 30 uX EX body aZ)=some (.bool false):=ag
def uY:aU:=[(.bin .lss 3 5 (I 0),.bool false),
 (.bin .gtr 3 5 (I 15),.bool false),
 (.bin .lss 3 6 (I 0),.bool false),
 (.bin .gtr 3 6 (I 15),.bool true),
 (.bin .neq 9 8 (da []),.bool true),
 (.bin .geq 3 4 (I 1),.bool false)]
def Ym:dm:=[(90,[0],.bool true),
 (91,[.agg ⟨[al 0,al 1,al 2,al 3,al 4,al 5,al 6,al 7]⟩],.agg ⟨[al 8,al 9,al 10,al 11]⟩)]
theorem lW:b9 (at' 30 uY Ym body aZ)=some (.bool false):=ag
def vO:aU:=[(.bin .lss 3 5 (I 0),.bool false),
 (.bin .gtr 3 5 (I 15),.bool false),
 (.bin .lss 3 6 (I 0),.bool false),
 (.bin .gtr 3 6 (I 15),.bool true)]
def Hw:dm:=[(90,[0],.bool false)]
theorem om:b9 (at' 30 vO Hw body aZ)=some (.bool false):=ag
def vP:aU:=[(.bin .lss 3 5 (I 0),.bool false),
 (.bin .gtr 3 5 (I 15),.bool false),
 (.bin .lss 3 6 (I 0),.bool false),
 (.bin .gtr 3 6 (I 15),.bool false),
 (.bin .lss 3 7 (I 0),.bool true),
 (.bin .neq 9 8 (da []),.bool false)]
def Hx:dm:=[(90,[0],.bool true),
 (91,[.agg ⟨[al 0,al 1,al 2,al 3,al 4,al 5,al 6,al 7]⟩],.agg ⟨[al 8,al 9,al 10,al 11]⟩)]
theorem nt:b9 (at' 30 vP Hx body aZ)=some (.bool false):=ag
def vQ:aU:=[(.bin .lss 3 5 (I 0),.bool false),
 (.bin .gtr 3 5 (I 15),.bool false),
 (.bin .lss 3 6 (I 0),.bool false),
 (.bin .gtr 3 6 (I 15),.bool false),
 (.bin .lss 3 7 (I 0),.bool true),
 (.bin .neq 9 8 (da []),.bool true),
 (.bin .geq 3 4 (I 1),.bool true),
 (.bin .leq 3 4 (I 16),.bool true)]
def Hy:dm:=[(90,[0],.bool true),
 (91,[.agg ⟨[al 0,al 1,al 2,al 3,al 4,al 5,al 6,al 7]⟩],.agg ⟨[al 8,al 9,al 10,al 11]⟩)]
theorem ot:b9 (at' 30 vQ Hy body aZ)=some (.bool false):=ag
def vR:aU:=[(.bin .lss 3 5 (I 0),.bool false),
 (.bin .gtr 3 5 (I 15),.bool false),
 (.bin .lss 3 6 (I 0),.bool false),
 (.bin .gtr 3 6 (I 15),.bool false),
 (.bin .lss 3 7 (I 0),.bool true),
 (.bin .neq 9 8 (da []),.bool true),
 (.bin .geq 3 4 (I 1),.bool true),
 (.bin .leq 3 4 (I 16),.bool false)]
def Hz:dm:=[(90,[0],.bool true),
 (91,[.agg ⟨[al 0,al 1,al 2,al 3,al 4,al 5,al 6,al 7]⟩],.agg ⟨[al 8,al 9,al 10,al 11]⟩)]
theorem uU:b9 (at' 30 vR Hz body aZ)=some (.bool false):=ag
def AS:aU:=[(.bin .lss 3 5 (I 0),.bool false),
 (.bin .gtr 3 5 (I 15),.bool false),
 (.bin .lss 3 6 (I 0),.bool false),
 (.bin .gtr 3 6 (I 15),.bool false),
 (.bin .lss 3 7 (I 0),.bool true),
 (.bin .neq 9 8 (da []),.bool true),
 (.bin .geq 3 4 (I 1),.bool false)]
def Ib:dm:=[(90,[0],.bool true),
 (91,[.agg ⟨[al 0,al 1,al 2,al 3,al 4,al 5,al 6,al 7]⟩],.agg ⟨[al 8,al 9,al 10,al 11]⟩)]
theorem sL:b9 (at' 30 AS Ib body aZ)=some (.bool false):=ag
def zv:aU:=[(.bin .lss 3 5 (I 0),.bool false),
 (.bin .gtr 3 5 (I 15),.bool false),
 (.bin .lss 3 6 (I 0),.bool false),
 (.bin .gtr 3 6 (I 15),.bool false),
 (.bin .lss 3 7 (I 0),.bool true)]
def Ic:dm:=[(90,[0],.bool false)]
theorem sF:b9 (at' 30 zv Ic body aZ)=some (.bool false):=ag
def HU:aU:=[(.bin .lss 3 5 (I 0),.bool false),
 (.bin .gtr 3 5 (I 15),.bool false),
 (.bin .lss 3 6 (I 0),.bool false),
 (.bin .gtr 3 6 (I 15),.bool false),
 (.bin .lss 3 7 (I 0),.bool false),
 (.bin .gtr 3 7 (I 15),.bool true),
 (.bin .neq 9 8 (da []),.bool false)]
def Yn:dm:=[(90,[0],.bool true),
 (91,[.agg ⟨[al 0,al 1,al 2,al 3,al 4,al 5,al 6,al 7]⟩],.agg ⟨[al 8,al 9,al 10,al 11]⟩)]
theorem ql:b9 (at' 30 HU Yn body aZ)=some (.bool false):=ag
def zw:aU:=[(.bin .lss 3 5 (I 0),.bool false),
 (.bin .gtr 3 5 (I 15),.bool false),
 (.bin .lss 3 6 (I 0),.bool false),
 (.bin .gtr 3 6 (I 15),.bool false),
 (.bin .lss 3 7 (I 0),.bool false),
 (.bin .gtr 3 7 (I 15),.bool true),
 (.bin .neq 9 8 (da []),.bool true),
 (.bin .geq 3 4 (I 1),.bool true),
 (.bin .leq 3 4 (I 16),.bool true)]
def Yo:dm:=[(90,[0],.bool true),
 (91,[.agg ⟨[al 0,al 1,al 2,al 3,al 4,al 5,al 6,al 7]⟩],.agg ⟨[al 8,al 9,al 10,al 11]⟩)]
theorem pd:b9 (at' 30 zw Yo body aZ)=some (.bool false):=ag
def yf:aU:=[(.bin .lss 3 5 (I 0),.bool false),
 (.bin .gtr 3 5 (I 15),.bool false),
 (.bin .lss 3 6 (I 0),.bool false),
 (.bin .gtr 3 6 (I 15),.bool false),
 (.bin .lss 3 7 (I 0),.bool false),
 (.bin .gtr 3 7 (I 15),.bool true),
 (.bin .neq 9 8 (da []),.bool true),
 (.bin .geq 3 4 (I 1),.bool true),
 (.bin .leq 3 4 (I 16),.bool false)]
def Yp:dm:=[(90,[0],.bool true),
 (91,[.agg ⟨[al 0,al 1,al 2,al 3,al 4,al 5,al 6,al 7]⟩],.agg ⟨[al 8,al 9,al 10,al 11]⟩)]
theorem qm:b9 (at' 30 yf Yp body aZ)=some (.bool false):=ag
def HZ:aU:=[(.bin .lss 3 5 (I 0),.bool false),
 (.bin .gtr 3 5 (I 15),.bool false),
 (.bin .lss 3 6 (I 0),.bool false),
 (.bin .gtr 3 6 (I 15),.bool false),
 (.bin .lss 3 7 (I 0),.bool false),
 (.bin .gtr 3 7 (I 15),.bool true),
 (.bin .neq 9 8 (da []),.bool true),
 (.bin .geq 3 4 (I 1),.bool false)]
def Yq:dm:=[(90,[0],.bool true),
 (91,[.agg ⟨[al 0,al 1,al 2,al 3,al 4,al 5,al 6,al 7]⟩],.agg ⟨[al 8,al 9,al 10,al 11]⟩)]
theorem sG:b9 (at' 30 HZ Yq body aZ)=some (.bool false):=ag
def Yr:aU:=[(.bin .lss 3 5 (I 0),.bool false),
 (.bin .gtr 3 5 (I 15),.bool false),
 (.bin .lss 3 6 (I 0),.bool false),
 (.bin .gtr 3 6 (I 15),.bool false),
 (.bin .lss 3 7 (I 0),.bool false),
 (.bin .gtr 3 7 (I 15),.bool true)]
def Ys:dm:=[(90,[0],.bool false)]
theorem uM:b9 (at' 30 Yr Ys body aZ)=some (.bool false):=ag
def Yt:aU:=[(.bin .lss 3 5 (I 0),.bool false),
 (.bin .gtr 3 5 (I 15),.bool false),
 (.bin .lss 3 6 (I 0),.bool false),
 (.bin .gtr 3 6 (I 15),.bool false),
 (.bin .lss 3 7 (I 0),.bool false),
 (.bin .gtr 3 7 (I 15),.bool false),
 (.bin .neq 9 8 (da []),.bool false)]
def Yu:dm:=[(90,[0],.bool true),
 (91,[.agg ⟨[al 0,al 1,al 2,al 3,al 4,al 5,al 6,al 7]⟩],.agg ⟨[al 8,al 9,al 10,al 11]⟩)]
theorem sM:b9 (at' 30 Yt Yu body aZ)=some (.bool false):=ag
def Yv:aU:=[(.bin .lss 3 5 (I 0),.bool false),
 (.bin .gtr 3 5 (I 15),.bool false),
 (.bin .lss 3 6 (I 0),.bool false),
 (.bin .gtr 3 6 (I 15),.bool false),
 (.bin .lss 3 7 (I 0),.bool false),
 (.bin .gtr 3 7 (I 15),.bool false),
 (.bin .neq 9 8 (da []),.bool true),
 (.bin .geq 3 4 (I 1),.bool true),
 (.bin .leq 3 4 (I 16),.bool true)]
def Yw:dm:=[(90,[0],.bool true),
 (91,[.agg ⟨[al 0,al 1,al 2,al 3,al 4,al 5,al 6,al 7]⟩],.agg ⟨[al 8,al 9,al 10,al 11]⟩)]
theorem ry:b9 (at' 30 Yv Yw body aZ)=some (.bool true):=ag
def Yx:aU:=[(.bin .lss 3 5 (I 0),.bool false),
 (.bin .gtr 3 5 (I 15),.bool false),
 (.bin .lss 3 6 (I 0),.bool false),
 (.bin .gtr 3 6 (I 15),.bool false),
 (.bin .lss 3 7 (I 0),.bool false),
 (.bin .gtr 3 7 (I 15),.bool false),
 (.bin .neq 9 8 (da []),.bool true),
 (.bin .geq 3 4 (I 1),.bool true),
 (.bin .leq 3 4 (I 16),.bool false)]
def Yy:dm:=[(90,[0],.bool true),
 (91,[.agg ⟨[al 0,al 1,al 2,al 3,al 4,al 5,al 6,al 7]⟩],.agg ⟨[al 8,al 9,al 10,al 11]⟩)]
theorem pe:b9 (at' 30 Yx Yy body aZ)=some (.bool false):=ag
def Yz:aU:=[(.bin .lss 3 5 (I 0),.bool false),
 (.bin .gtr 3 5 (I 15),.bool false),
 (.bin .lss 3 6 (I 0),.bool false),
 (.bin .gtr 3 6 (I 15),.bool false),
 (.bin .lss 3 7 (I 0),.bool false),
 (.bin .gtr 3 7 (I 15),.bool false),
 (.bin .neq 9 8 (da []),.bool true),
 (.bin .geq 3 4 (I 1),.bool false)]
def YA:dm:=[(90,[0],.bool true),
 (91,[.agg ⟨[al 0,al 1,al 2,al 3,al 4,al 5,al 6,al 7]⟩],.agg ⟨[al 8,al 9,al 10,al 11]⟩)]
theorem uT:b9 (at' 30 Yz YA body aZ)=some (.bool false):=ag
def YB:aU:=[(.bin .lss 3 5 (I 0),.bool false),
 (.bin .gtr 3 5 (I 15),.bool false),
 (.bin .lss 3 6 (I 0),.bool false),
 (.bin .gtr 3 6 (I 15),.bool false),
 (.bin .lss 3 7 (I 0),.bool false),
 (.bin .gtr 3 7 (I 15),.bool false)]
def YC:dm:=[(90,[0],.bool false)]
theorem G5:b9 (at' 30 YB YC body aZ)=some (.bool false):=ag
@[reducible] noncomputable def a6 (x:dx):List ad:=[da x.1,.bool x.2.1,.bool x.2.2.1,.bool x.2.2.2.1,I x.2.2.2.2.1,I x.2.2.2.2.2.1,I x.2.2.2.2.2.2.1,I x.2.2.2.2.2.2.2,da (m' x).1,.bool (m' x).2.1,.bool (m' x).2.2.1,.bool (m' x).2.2.2]
theorem any (W:aG) (x:dx) (d_:oH (a7 W)):Calls Tryd.prog 70 #[M.val x] W λe w'=>e= .returned (.bool (decide (iz x)))/\cO W.heap.size W w':=by
 refine kT (a6 x) body aZ N [.agg ⟨[al 0,al 1,al 2,al 3,al 4,al 5,al 6,al 7]⟩] Tryd.func70 λa ae=> ?_
 letI:=bE ae;by_cases bd:x.2.2.2.2.2.1<0
 ·by_cases af:qo x.1
  ·by_cases ah:(m' x).1=([]:gx)
   ·refine br bz h2 (U bf (U (aW.B8 J J J J ah) aB)) (cv (mn J J af) (cv (mo J J J J d_) aC)) ?_ ae
    exact b2 b4 λw2 bk=>(by (rw[dT (λh:iz x=>absurd h.2.1 (by exact not_not_intro aY))];rfl))
   ·by_cases aH:1<=x.2.2.2.2.1
    ·by_cases ck:x.2.2.2.2.1<=16
     ·refine br cp hR (U bf (U (aW.o6 J J J J ah) (U bf (U bf aB)))) (cv (mn J J af) (cv (mo J J J J d_) aC)) ?_ ae
      exact b2 bs λw2 bk=>(by (rw[dT (λh:iz x=>by have:=h.2.2;omega)];rfl))
     ·refine br dh lq (U bf (U (aW.o6 J J J J ah) (U bf (U a' aB)))) (cv (mn J J af) (cv (mo J J J J d_) aC)) ?_ ae
      exact b2 cw λw2 bk=>(by (rw[dT (λh:iz x=>by have:=h.2.2;omega)];rfl))
    ·refine br d' kb (U bf (U (aW.o6 J J J J ah) (U a' aB))) (cv (mn J J af) (cv (mo J J J J d_) aC)) ?_ ae
     exact b2 dD λw2 bk=>(by (rw[dT (λh:iz x=>by have:=h.2.2;omega)];rfl))
  ·refine br eS nW (U bf aB) (cv (CW J J af) aC) ?_ ae
   exact b2 hq λw2 bk=>(by (rw[dT (λh:iz x=>absurd h.1 aY)];rfl))
 ·by_cases af:15<x.2.2.2.2.2.1
  ·by_cases ah:qo x.1
   ·by_cases aH:(m' x).1=([]:gx)
    ·refine br fq qN (U a' (U bf (U (aW.B8 J J J J aH) aB))) (cv (mn J J ah) (cv (mo J J J J d_) aC)) ?_ ae
     exact b2 ka λw2 bk=>(by (rw[dT (λh:iz x=>absurd h.2.1 (by exact not_not_intro aY))];rfl))
    ·by_cases ck:1<=x.2.2.2.2.1
     ·by_cases dd:x.2.2.2.2.1<=16
      ·refine br hs mZ (U a' (U bf (U (aW.o6 J J J J aH) (U bf (U bf aB))))) (cv (mn J J ah) (cv (mo J J J J d_) aC)) ?_ ae
       exact b2 gy λw2 bk=>(by (rw[dT (λh:iz x=>by have:=h.2.2;omega)];rfl))
      ·refine br hN vM (U a' (U bf (U (aW.o6 J J J J aH) (U bf (U a' aB))))) (cv (mn J J ah) (cv (mo J J J J d_) aC)) ?_ ae
       exact b2 iC λw2 bk=>(by (rw[dT (λh:iz x=>by have:=h.2.2;omega)];rfl))
     ·refine br hS sI (U a' (U bf (U (aW.o6 J J J J aH) (U a' aB)))) (cv (mn J J ah) (cv (mo J J J J d_) aC)) ?_ ae
      exact b2 lA λw2 bk=>(by (rw[dT (λh:iz x=>by have:=h.2.2;omega)];rfl))
   ·refine br jT AQ (U a' (U bf aB)) (cv (CW J J ah) aC) ?_ ae
    exact b2 np λw2 bk=>(by (rw[dT (λh:iz x=>absurd h.1 aY)];rfl))
  ·by_cases ah:x.2.2.2.2.2.2.1<0
   ·by_cases aH:qo x.1
    ·by_cases ck:(m' x).1=([]:gx)
     ·refine br jx Hs (U a' (U a' (U bf (U (aW.B8 J J J J ck) aB)))) (cv (mn J J aH) (cv (mo J J J J d_) aC)) ?_ ae
      exact b2 k2 λw2 bk=>(by (rw[dT (λh:iz x=>absurd h.2.1 (by exact not_not_intro aY))];rfl))
     ·by_cases dd:1<=x.2.2.2.2.1
      ·by_cases dM:x.2.2.2.2.1<=16
       ·refine br kD Yk (U a' (U a' (U bf (U (aW.o6 J J J J ck) (U bf (U bf aB)))))) (cv (mn J J aH) (cv (mo J J J J d_) aC)) ?_ ae
        exact b2 lV λw2 bk=>(by (rw[dT (λh:iz x=>by have:=h.2.2;omega)];rfl))
       ·refine br mI Yl (U a' (U a' (U bf (U (aW.o6 J J J J ck) (U bf (U a' aB)))))) (cv (mn J J aH) (cv (mo J J J J d_) aC)) ?_ ae
        exact b2 jS λw2 bk=>(by (rw[dT (λh:iz x=>by have:=h.2.2;omega)];rfl))
      ·refine br lX Ht (U a' (U a' (U bf (U (aW.o6 J J J J ck) (U a' aB))))) (cv (mn J J aH) (cv (mo J J J J d_) aC)) ?_ ae
       exact b2 pb λw2 bk=>(by (rw[dT (λh:iz x=>by have:=h.2.2;omega)];rfl))
    ·refine br nu Hu (U a' (U a' (U bf aB))) (cv (CW J J aH) aC) ?_ ae
     exact b2 xg λw2 bk=>(by (rw[dT (λh:iz x=>absurd h.1 aY)];rfl))
   ·by_cases aH:15<x.2.2.2.2.2.2.1
    ·by_cases ck:qo x.1
     ·by_cases dd:(m' x).1=([]:gx)
      ·refine br s3 AR (U a' (U a' (U a' (U bf (U (aW.B8 J J J J dd) aB))))) (cv (mn J J ck) (cv (mo J J J J d_) aC)) ?_ ae
       exact b2 pg λw2 bk=>(by (rw[dT (λh:iz x=>absurd h.2.1 (by exact not_not_intro aY))];rfl))
      ·by_cases dM:1<=x.2.2.2.2.1
       ·by_cases gW:x.2.2.2.2.1<=16
        ·refine br uW Hv (U a' (U a' (U a' (U bf (U (aW.o6 J J J J dd) (U bf (U bf aB))))))) (cv (mn J J ck) (cv (mo J J J J d_) aC)) ?_ ae
         exact b2 sK λw2 bk=>(by (rw[dT (λh:iz x=>by have:=h.2.2;omega)];rfl))
        ·refine br uX EX (U a' (U a' (U a' (U bf (U (aW.o6 J J J J dd) (U bf (U a' aB))))))) (cv (mn J J ck) (cv (mo J J J J d_) aC)) ?_ ae
         exact b2 ru λw2 bk=>(by (rw[dT (λh:iz x=>by have:=h.2.2;omega)];rfl))
       ·refine br uY Ym (U a' (U a' (U a' (U bf (U (aW.o6 J J J J dd) (U a' aB)))))) (cv (mn J J ck) (cv (mo J J J J d_) aC)) ?_ ae
        exact b2 lW λw2 bk=>(by (rw[dT (λh:iz x=>by have:=h.2.2;omega)];rfl))
     ·refine br vO Hw (U a' (U a' (U a' (U bf aB)))) (cv (CW J J ck) aC) ?_ ae
      exact b2 om λw2 bk=>(by (rw[dT (λh:iz x=>absurd h.1 aY)];rfl))
    ·by_cases ck:x.2.2.2.2.2.2.2<0
     ·by_cases dd:qo x.1
      ·by_cases dM:(m' x).1=([]:gx)
       ·refine br vP Hx (U a' (U a' (U a' (U a' (U bf (U (aW.B8 J J J J dM) aB)))))) (cv (mn J J dd) (cv (mo J J J J d_) aC)) ?_ ae
        exact b2 nt λw2 bk=>(by (rw[dT (λh:iz x=>absurd h.2.1 (by exact not_not_intro aY))];rfl))
       ·by_cases gW:1<=x.2.2.2.2.1
        ·by_cases qu:x.2.2.2.2.1<=16
         ·refine br vQ Hy (U a' (U a' (U a' (U a' (U bf (U (aW.o6 J J J J dM) (U bf (U bf aB)))))))) (cv (mn J J dd) (cv (mo J J J J d_) aC)) ?_ ae
          exact b2 ot λw2 bk=>(by (rw[dT (λh:iz x=>by have:=h.2.2;omega)];rfl))
         ·refine br vR Hz (U a' (U a' (U a' (U a' (U bf (U (aW.o6 J J J J dM) (U bf (U a' aB)))))))) (cv (mn J J dd) (cv (mo J J J J d_) aC)) ?_ ae
          exact b2 uU λw2 bk=>(by (rw[dT (λh:iz x=>by have:=h.2.2;omega)];rfl))
        ·refine br AS Ib (U a' (U a' (U a' (U a' (U bf (U (aW.o6 J J J J dM) (U a' aB))))))) (cv (mn J J dd) (cv (mo J J J J d_) aC)) ?_ ae
         exact b2 sL λw2 bk=>(by (rw[dT (λh:iz x=>by have:=h.2.2;omega)];rfl))
      ·refine br zv Ic (U a' (U a' (U a' (U a' (U bf aB))))) (cv (CW J J dd) aC) ?_ ae
       exact b2 sF λw2 bk=>(by (rw[dT (λh:iz x=>absurd h.1 aY)];rfl))
     ·by_cases dd:15<x.2.2.2.2.2.2.2
      ·by_cases dM:qo x.1
       ·by_cases gW:(m' x).1=([]:gx)
        ·refine br HU Yn (U a' (U a' (U a' (U a' (U a' (U bf (U (aW.B8 J J J J gW) aB))))))) (cv (mn J J dM) (cv (mo J J J J d_) aC)) ?_ ae
         exact b2 ql λw2 bk=>(by (rw[dT (λh:iz x=>absurd h.2.1 (by exact not_not_intro aY))];rfl))
        ·by_cases qu:1<=x.2.2.2.2.1
         ·by_cases jm:x.2.2.2.2.1<=16
          ·refine br zw Yo (U a' (U a' (U a' (U a' (U a' (U bf (U (aW.o6 J J J J gW) (U bf (U bf aB))))))))) (cv (mn J J dM) (cv (mo J J J J d_) aC)) ?_ ae
           exact b2 pd λw2 bk=>(by (rw[dT (λh:iz x=>by have:=h.2.2;omega)];rfl))
          ·refine br yf Yp (U a' (U a' (U a' (U a' (U a' (U bf (U (aW.o6 J J J J gW) (U bf (U a' aB))))))))) (cv (mn J J dM) (cv (mo J J J J d_) aC)) ?_ ae
           exact b2 qm λw2 bk=>(by (rw[dT (λh:iz x=>by have:=h.2.2;omega)];rfl))
         ·refine br HZ Yq (U a' (U a' (U a' (U a' (U a' (U bf (U (aW.o6 J J J J gW) (U a' aB)))))))) (cv (mn J J dM) (cv (mo J J J J d_) aC)) ?_ ae
          exact b2 sG λw2 bk=>(by (rw[dT (λh:iz x=>by have:=h.2.2;omega)];rfl))
       ·refine br Yr Ys (U a' (U a' (U a' (U a' (U a' (U bf aB)))))) (cv (CW J J dM) aC) ?_ ae
        exact b2 uM λw2 bk=>(by (rw[dT (λh:iz x=>absurd h.1 aY)];rfl))
      ·by_cases dM:qo x.1
       ·by_cases gW:(m' x).1=([]:gx)
        ·refine br Yt Yu (U a' (U a' (U a' (U a' (U a' (U a' (U (aW.B8 J J J J gW) aB))))))) (cv (mn J J dM) (cv (mo J J J J d_) aC)) ?_ ae
         exact b2 sM λw2 bk=>(by (rw[dT (λh:iz x=>absurd h.2.1 (by exact not_not_intro aY))];rfl))
        ·by_cases qu:1<=x.2.2.2.2.1
         ·by_cases jm:x.2.2.2.2.1<=16
          ·refine br Yv Yw (U a' (U a' (U a' (U a' (U a' (U a' (U (aW.o6 J J J J gW) (U bf (U bf aB))))))))) (cv (mn J J dM) (cv (mo J J J J d_) aC)) ?_ ae
           exact b2 ry λw2 bk=>(by (rw[gO (show iz x from ⟨aY,aY,aj,aj,aj,aj,aj,aj,aj,aj⟩)];rfl))
          ·refine br Yx Yy (U a' (U a' (U a' (U a' (U a' (U a' (U (aW.o6 J J J J gW) (U bf (U a' aB))))))))) (cv (mn J J dM) (cv (mo J J J J d_) aC)) ?_ ae
           exact b2 pe λw2 bk=>(by (rw[dT (λh:iz x=>by have:=h.2.2;omega)];rfl))
         ·refine br Yz YA (U a' (U a' (U a' (U a' (U a' (U a' (U (aW.o6 J J J J gW) (U a' aB)))))))) (cv (mn J J dM) (cv (mo J J J J d_) aC)) ?_ ae
          exact b2 uT λw2 bk=>(by (rw[dT (λh:iz x=>by have:=h.2.2;omega)];rfl))
       ·refine br YB YC (U a' (U a' (U a' (U a' (U a' (U a' aB)))))) (cv (CW J J dM) aC) ?_ ae
        exact b2 G5 λw2 bk=>(by (rw[dT (λh:iz x=>absurd h.1 aY)];rfl))
end Ri
end a1
namespace a1
variable [bp]
theorem YD {x:ad} {m:dx} (hp:fH [x]=true) (b5:fl [x]=[M.val m]) (d_:oH bp.dz) (h:iz m):j0 Tryd.prog (70,[x],.bool true):=
 kP (a:= #[M.val m]) hp rfl b5 rfl λw hw=>(Ri.any w m (d_.mono hw)).mono λe w' gE=>by rw[gO h] at gE;exact gE
theorem ahZ {x:ad} {m:dx} (hp:fH [x]=true) (b5:fl [x]=[M.val m]) (d_:oH bp.dz) (h:¬iz m):j0 Tryd.prog (70,[x],.bool false):=
 kP (a:= #[M.val m]) hp rfl b5 rfl λw hw=>(Ri.any w m (d_.mono hw)).mono λe w' gE=>by rw[dT h] at gE;exact gE
end a1
namespace a1
namespace YE
noncomputable def body:Code:=(Tryd.f49.body).getD .skip
def N:Nat:=42
noncomputable abbrev b9:=fu Tryd.prog Tryd.f49
def aZ:c6:={sl:=bm [(0,0)],ms:=[],A:=start}
def bz:aU:=[(.cz (.bool true),.bool true),
 (.len #[29] 3 0,1),
 (.bin .gtr 3 1 (I 256),.bool true)]
theorem b4:b9 (at' 42 bz [] body aZ)=some (.tuple ⟨[I (-1),I 2]⟩):=ag
def cp:aU:=[(.cz (.bool true),.bool true),
 (.len #[29] 3 0,1),
 (.bin .gtr 3 1 (I 256),.bool false),
 (.bin .eql 3 1 (I 0),.bool true)]
theorem bs:b9 (at' 42 cp [] body aZ)=some (.tuple ⟨[I (-1),I 1]⟩):=ag
def dh:aU:=[(.cz (.bool true),.bool true),
 (.len #[29] 3 0,1),
 (.bin .gtr 3 1 (I 256),.bool false),
 (.bin .eql 3 1 (I 0),.bool false),
 (.cV 29 0 (I 0),2),
 (.bh 70 2,.agg ⟨[3,4,5,6,7,8,9,10]⟩),
 (.bin .neq 70 (.agg ⟨[3,4,5,6,7,8,9,10]⟩) (.agg ⟨[da [97,105,114],.bool false,.bool false,.bool false,I 1,I 0,I 0,I 0]⟩),.bool false)]
theorem cw:On (at' 42 dh [] body aZ)=some 120:=ag
abbrev eT:=at' 42 dh [] body aZ
def cY:List bG:=[]
def c8:ax:=bm [(3,I 0),(2,I 0),(0,0)]
def c0:ax:=dS 42 c8 21 11
theorem dD:bF (b0 eT) c8 cY=some [(0,0)]:=ag
def c5:ct:=(body,[1,1,0],1)
def d':aU:=[(.cz (.bool true),.bool true),
 (.len #[29] 3 0,1)]
def bt:List bG:=[]
def cl:ax:=bm [(24,12),(23,1),(22,0),(4,11)]
abbrev fG:=bD 42 d' [] c5 {sl:=c0,ms:=[],A:=cS cY}
theorem lA:mi cl bt fG=some [(1,1),(11,11),(I 0,12),(0,0)]:=ag
def bY:Code:=nJ body [1,1,1,0,1,4]
def fJ:List hj:=lp body [1,1,1,0,1,4] []
theorem np:lP fG=bY:=ag
theorem k2:gi fG=fJ:=ag
def eS:aU:=[(.cz (.bool true),.bool true),
 (.bin .lss 3 12 1,.bool true),
 (.cV 29 0 12,13),
 (.bh 70 13,.agg ⟨[14,15,16,17,18,19,20,21]⟩),
 (.q0 120 11 14 false,.bool true)]
def nW:dm:=[(70,[.agg ⟨[14,15,16,17,18,19,20,21]⟩],.bool true)]
def fq:aU:=[(.cz (.bool true),.bool true)]
theorem lV:b9 (jf 42 fq [] fJ (at' 42 eS nW bY (aN cl bt)))=some (.tuple ⟨[12,I 10]⟩):=ag
def hs:aU:=[(.cz (.bool true),.bool true),
 (.bin .lss 3 12 1,.bool true),
 (.cV 29 0 12,13),
 (.bh 70 13,.agg ⟨[14,15,16,17,18,19,20,21]⟩),
 (.q0 120 11 14 false,.bool false)]
def mZ:dm:=[(70,[.agg ⟨[14,15,16,17,18,19,20,21]⟩],.bool true)]
theorem jS:Oo (at' 42 hs mZ bY (aN cl bt))=some (120,11,14,.bool true):=ag
abbrev h':=at' 42 hs mZ bY (aN cl bt)
def fm:List bG:=[]
def fT:ax:=bm [(24,12),(23,1),(22,0),(4,11)]
def eO:ax:=match e8 42 fT none (.tuple ⟨[]⟩) with|some s=>s|none=> .nil
theorem pb:bF (b0 h') fT fm=some [(1,1),(11,11),(12,12),(0,0)]:=ag
def ga:ct:=(bY,[1,1,0,4,1,1,1],4)
def hN:aU:=[(.cz (.bool true),.bool true),
 (.bin .add 3 12 (I 1),22)]
theorem lW:eV cl bt (bD 42 hN [] ga (aN eO fm))=some [(1,1),(11,11),(22,12),(0,0)]:=ag
def hS:aU:=[(.cz (.bool true),.bool true),
 (.bin .lss 3 12 1,.bool true),
 (.cV 29 0 12,13),
 (.bh 70 13,.agg ⟨[14,15,16,17,18,19,20,21]⟩)]
def sI:dm:=[(70,[.agg ⟨[14,15,16,17,18,19,20,21]⟩],.bool false)]
theorem om:b9 (jf 42 fq [] fJ (at' 42 hS sI bY (aN cl bt)))=some (.tuple ⟨[12,I 1]⟩):=ag
def jT:aU:=[(.cz (.bool true),.bool true),
 (.bin .lss 3 12 1,.bool false)]
theorem nt:b9 (jf 42 fq [] fJ (at' 42 jT [] bY (aN cl bt)))=some (.tuple ⟨[I 0,I 0]⟩):=ag
def jx:aU:=[(.cz (.bool true),.bool true),
 (.len #[29] 3 0,1),
 (.bin .gtr 3 1 (I 256),.bool false),
 (.bin .eql 3 1 (I 0),.bool false),
 (.cV 29 0 (I 0),2),
 (.bh 70 2,.agg ⟨[3,4,5,6,7,8,9,10]⟩),
 (.bin .neq 70 (.agg ⟨[3,4,5,6,7,8,9,10]⟩) (.agg ⟨[da [97,105,114],.bool false,.bool false,.bool false,I 1,I 0,I 0,I 0]⟩),.bool true)]
theorem ot:b9 (at' 42 jx [] body aZ)=some (.tuple ⟨[I 0,I 1]⟩):=ag
@[reducible] noncomputable def a6 (l:List dx) (ej:bH) (er:Nat) (i:Nat:=0) (cJ:Nat:=0):List ad:=[aO ej l er,I ((l.length:Nat):Int),fM (aO ej l er) (0*8),da (l.aD (0)).1,.bool (l.aD (0)).2.1,.bool (l.aD (0)).2.2.1,.bool (l.aD (0)).2.2.2.1,I (l.aD (0)).2.2.2.2.1,I (l.aD (0)).2.2.2.2.2.1,I (l.aD (0)).2.2.2.2.2.2.1,I (l.aD (0)).2.2.2.2.2.2.2,.map (some cJ),I ((i:Nat):Int),fM (aO ej l er) (i*8),da (l.aD (i)).1,.bool (l.aD (i)).2.1,.bool (l.aD (i)).2.2.1,.bool (l.aD (i)).2.2.2.1,I (l.aD (i)).2.2.2.2.1,I (l.aD (i)).2.2.2.2.2.1,I (l.aD (i)).2.2.2.2.2.2.1,I (l.aD (i)).2.2.2.2.2.2.2,I ((i+1:Nat):Int)]
theorem any (W:aG) {iZ:ad} {l:List dx} (az:dr (a7 W) 8 js iZ l) (d_:oH (a7 W)):Calls Tryd.prog 49 #[iZ] W λe w'=>e= .returned (.tuple #[I (nZ l).1,I (nZ l).2])/\cO W.heap.size W w':=by
 obtain⟨ej,er,rfl⟩:=az.slice;refine kT (a6 l ej er) body aZ N [al 0] Tryd.func49 λa ae=> ?_
 letI:=bE ae;by_cases bd:256<((l.length:Nat):Int)
 ·refine br bz [] (U (aW.cz J J) (U (e4 az mQ) (U bf aB))) aC ?_ ae
  exact b2 b4 λw2 bk=>(by refine congrArg Ending.returned ?_;(rw[ahM aj];rfl))
 ·by_cases af:((l.length:Nat):Int)=0
  ·refine br cp [] (U (aW.cz J J) (U (e4 az mQ) (U a' (U bf aB)))) aC ?_ ae
   exact b2 bs λw2 bk=>(by refine congrArg Ending.returned ?_;(rw[ahN aj aj];rfl))
  ·by_cases ah:(l.aD (0))=((([97,105,114]:gx),false,false,false,1,0,0,0):dx)
   ·refine br dh [] (U (aW.cz J J) (U (e4 az mQ) (U a' (U a' (U (Cv az (show 0<l.length by omega) mQ rS) (U (aW.p_ az (f_ 0) J J B9 rS J J J) (U (U6 J J J J (by rw[gO ah];rfl)) aB))))))) aC ?_ ae
    obtain⟨cj,fD⟩:=ey ([]);refine adM (bC:=λfh=>(a6 l ej er 0 fh)) fD cw dD (cF c0 11) rfl (λ_ fh=>b7) (λ_ _=>rfl) ?_;intro fN cJ lT gb ch w ae;have vX:=gb.up (λi h=>by cases h) (c4 _) (λ_ _ h=>h);letI:=bE ae;refine cm (cn c5) d' [] (U (aW.cz J J) (U (e4 (az.mono vX) mQ) aB)) aC ?_ ae;refine nP (fW:=(λ(⟨M,b,i⟩:Mem×List gx×Nat)=>bc M (a6 l ej er i cJ))) (λ(⟨M,b,i⟩:Mem×List gx×Nat)=>vz W.heap.size M (.map (some cJ)) b/\(∀i o,a7 W i=some o->M i=some o)/\b=CV l i/\i<=l.length/\∀j,j<i->¬zF l j) (λ(⟨M,b,i⟩:Mem×List gx×Nat)=>l.length-i) ⟨fN,cj,0⟩ lA b7 (λ_ _ h=>h) (by exact⟨lT,vX,fD,Nat.zero_le _,λj h=>absurd h (Nat.not_lt_zero _)⟩) ?_;intro⟨M,b,i⟩ aK ch w ae;letI:=bE ae;refine nK np k2 ?_;have dR:=aK.1;have gk:=aK.2.1;by_cases ea:((i:Nat):Int)<((l.length:Nat):Int)
    ·by_cases q1:iz (l.aD (i))
     ·by_cases aI:(l.aD (i)).1∈b
      ·refine br eS nW (U (aW.cz J J) (U bf (U (f' (az.mono gk) mQ rS) (U (aW.p_ (az.mono gk) (f_ i) J J B9 rS J J J) (U (aW.adK J J Re Rf Rg dR J J aI) aB))))) (cv (YD J J (by exact d_.mono aY) q1) aC) ?_ ae
       refine j3 fq [] (U (aW.cz J J) aB) aC ?_;exact b2 lV λw2 bk=>(by refine congrArg Ending.returned ?_;(rw[ahQ (i:=i) aj aj aY aj aK.2.2.2.2 aY (by rw[<-aK.2.2.1];assumption)];rfl))
      ·refine br hs mZ (U (aW.cz J J) (U bf (U (f' (az.mono gk) mQ rS) (U (aW.p_ (az.mono gk) (f_ i) J J B9 rS J J J) (U (aW.adL J J Re Rf ahU Rg dR J J aI) aB))))) (cv (YD J J (by exact d_.mono aY) q1) aC) ?_ ae
       obtain⟨fR,nf⟩:=ey (b++[(l.aD (i)).1]);refine adN (u:= .map (some cJ)) (n:=(l.aD (i)).1) (ns:=b) (ns':=fR) (bC:=(a6 l ej er i cJ)) nf jS Re Rf Rg pb (cF eO (.tuple ⟨[]⟩)) J J J J dR aY (λ_=>b7) ?_;intro hr Gj lU ch w ae;have ah0:=lU.up (λi h=>(dR.known i h).2) (c4 _) gk;letI:=bE ae;refine cm (cn ga) hN [] (U (aW.cz J J) (U gU aB)) aC ?_ ae;exact e3 ⟨hr,fR,i+1⟩ lW b7 (by exact⟨Gj,ah0,by rw[nf,aK.2.2.1,ahT aj],aj,λj aq=>by rcases Nat.lt_succ_iff_lt_or_eq.1 aq with h|rfl;exact aK.2.2.2.2 j h;exact ahS aY (by rw[<-aK.2.2.1];assumption)⟩)
     ·refine br hS sI (U (aW.cz J J) (U bf (U (f' (az.mono gk) mQ rS) (U (aW.p_ (az.mono gk) (f_ i) J J B9 rS J J J) aB)))) (cv (ahZ J J (by exact d_.mono aY) q1) aC) ?_ ae
      refine j3 fq [] (U (aW.cz J J) aB) aC ?_;exact b2 om λw2 bk=>(by refine congrArg Ending.returned ?_;(rw[ahP (i:=i) aj aj aY aj aK.2.2.2.2 aY];rfl))
    ·refine br jT [] (U (aW.cz J J) (U a' aB)) aC ?_ ae
     refine j3 fq [] (U (aW.cz J J) aB) aC ?_;exact b2 nt λw2 bk=>(by refine congrArg Ending.returned ?_;(rw[ahR aj aj aY (λj aq=>aK.2.2.2.2 j aj)];rfl))
   ·refine br jx [] (U (aW.cz J J) (U (e4 az mQ) (U a' (U a' (U (Cv az (show 0<l.length by omega) mQ rS) (U (aW.p_ az (f_ 0) J J B9 rS J J J) (U (U6 J J J J (by rw[dT ah];rfl)) aB))))))) aC ?_ ae
    exact b2 ot λw2 bk=>(by refine congrArg Ending.returned ?_;(rw[ahO aj aj aY];rfl))
end YE
end a1
namespace a1
section
variable [bp]
theorem Ie {x r:ad} {u:ad} {l:List dx} (hp:fH [x]=true) (ar:bL r=true) (b5:fl [x]=[u]) (dc:bb r= .tuple #[.int .i64 (nZ l).1,.int .i64 (nZ l).2]) (az:dr bp.dz 8 js u l) (d_:oH bp.dz):j0 Tryd.prog (49,[x],r):=
 kP (a:= #[u]) hp ar b5 dc λw hw=>YE.any w (az.mono hw) (d_.mono hw)
theorem Rj {x r:ad} {b:cx} {cells:List Int} {a:Option Addr} {n c:Nat} (hp:fH [x]=true) (ar:bL r=true) (b5:fl [x]=[ov b (.slice a n c)]) (dc:bb r= .bool true) (az:dr bp.dz 1 gq (.slice a n c) cells) (aT:cells.length<=10000000) (iv:n=cells.length) (h:xp b cells):j0 Tryd.prog (50,[x],r):=
 kP (a:= #[ov b (.slice a n c)]) hp ar b5 dc λw hw=>(Rc.any w (az.mono hw) aT iv).mono λe w' he=>by rw[gO h] at he;exact he
theorem ah1 {x r:ad} {b:cx} {cells:List Int} {a:Option Addr} {n c:Nat} (hp:fH [x]=true) (ar:bL r=true) (b5:fl [x]=[ov b (.slice a n c)]) (dc:bb r= .bool false) (az:dr bp.dz 1 gq (.slice a n c) cells) (aT:cells.length<=10000000) (iv:n=cells.length) (h:¬xp b cells):j0 Tryd.prog (50,[x],r):=
 kP (a:= #[ov b (.slice a n c)]) hp ar b5 dc λw hw=>(Rc.any w (az.mono hw) aT iv).mono λe w' he=>by rw[dT h] at he;exact he
end
def Lt (b:cx) (cells:List Int) (table:List dx) (known:List Bool):Prop:=(nZ table).2=0/\xp b cells/\(known.length=0\/known.length=cells.length)
instance (b:cx) (cells:List Int) (table:List dx) (known:List Bool):Decidable (Lt b cells table known):=by unfold Lt;infer_instance
def zG (b:cx) (cells:List Int) (table:List dx) (known:List Bool):Int:=if Lt b cells table known then 0 else 1
theorem YF {b:cx} {cells:List Int} {table:List dx} {known:List Bool} (bd:(nZ table).2=0) (af:xp b cells) (ah:known.length=0\/known.length=cells.length):zG b cells table known=0:=aP ⟨bd,af,ah⟩
theorem Rk {b:cx} {cells:List Int} {table:List dx} {known:List Bool} (h:(nZ table).2=0->xp b cells->¬(known.length=0\/known.length=cells.length)):zG b cells table known=1:=aV λq=>h q.1 q.2.1 q.2.2
end a1
namespace a1
namespace YG
noncomputable def body:Code:=(Tryd.f30.body).getD .skip
def N:Nat:=34
noncomputable abbrev b9:=fu Tryd.prog Tryd.f30
def aZ:c6:={sl:=bm [(2,1),(1,0),(0,.agg ⟨[2,3,4,5,6,7,8]⟩)],ms:=[],A:=start}
def bz:aU:=[(.bin .neq 35 10 (I 0),.bool false),
 (.len #[30] 3 1,11),
 (.bin .neq 3 11 (I 0),.bool false)]
def h2:dm:=[(49,[0],.tuple ⟨[9,10]⟩),
 (50,[.agg ⟨[al 2,al 3,al 4,al 5,al 6,al 7,al 8]⟩],.bool true)]
theorem b4:b9 (at' 34 bz h2 body aZ)=some (I 0):=ag
def cp:aU:=[(.bin .neq 35 10 (I 0),.bool false),
 (.len #[30] 3 1,11),
 (.bin .neq 3 11 (I 0),.bool true),
 (.len #[26] 3 8,12),
 (.bin .neq 3 11 12,.bool false)]
def hR:dm:=[(49,[0],.tuple ⟨[9,10]⟩),
 (50,[.agg ⟨[al 2,al 3,al 4,al 5,al 6,al 7,al 8]⟩],.bool true)]
theorem bs:b9 (at' 34 cp hR body aZ)=some (I 0):=ag
def dh:aU:=[(.bin .neq 35 10 (I 0),.bool false),
 (.len #[30] 3 1,11),
 (.bin .neq 3 11 (I 0),.bool true),
 (.len #[26] 3 8,12),
 (.bin .neq 3 11 12,.bool true)]
def lq:dm:=[(49,[0],.tuple ⟨[9,10]⟩),
 (50,[.agg ⟨[al 2,al 3,al 4,al 5,al 6,al 7,al 8]⟩],.bool true)]
theorem cw:b9 (at' 34 dh lq body aZ)=some (I 1):=ag
def d':aU:=[(.bin .neq 35 10 (I 0),.bool false)]
def kb:dm:=[(49,[0],.tuple ⟨[9,10]⟩),
 (50,[.agg ⟨[al 2,al 3,al 4,al 5,al 6,al 7,al 8]⟩],.bool false)]
theorem dD:b9 (at' 34 d' kb body aZ)=some (I 1):=ag
def eS:aU:=[(.bin .neq 35 10 (I 0),.bool true)]
def nW:dm:=[(49,[0],.tuple ⟨[9,10]⟩)]
theorem hq:b9 (at' 34 eS nW body aZ)=some (I 1):=ag
@[reducible] noncomputable def a6 (cells:List Int) (b_:bH) (b3 ca:Nat) (table:List dx) (cq:bH) (cr:Nat) (known:List Bool) (di:bH) (dj:Nat) (b:cx):List ad:=[aO cq table cr,aO di known dj,I b.1,I b.2.1,I b.2.2.1,I b.2.2.2.1,I b.2.2.2.2.1,I b.2.2.2.2.2,.slice b_ b3 ca,I (nZ table).1,I (nZ table).2,I ((known.length:Nat):Int),I ((cells.length:Nat):Int)]
theorem any (W:aG) {b:cx} {b_:bH} {b3 ca:Nat} {cells:List Int} (hT:dr (a7 W) 1 gq (.slice b_ b3 ca) cells) {ow:ad} {table:List dx} (bw:dr (a7 W) 8 js ow table) {ox:ad} {known:List Bool} (hZ:dr (a7 W) 1 iw ox known) (d_:oH (a7 W)) (aT:cells.length<=10000000) (iv:b3=cells.length):Calls Tryd.prog 30 #[.agg ⟨[I b.1,I b.2.1,I b.2.2.1,I b.2.2.2.1,I b.2.2.2.2.1,I b.2.2.2.2.2,.slice b_ b3 ca]⟩,ow,ox] W λe w'=>e= .returned (I (zG b cells table known))/\cO W.heap.size W w':=by
 obtain⟨cq,cr,rfl⟩:=bw.slice;obtain⟨di,dj,rfl⟩:=hZ.slice;refine kT (a6 cells b_ b3 ca table cq cr known di dj b) body aZ N [.agg ⟨[al 2,al 3,al 4,al 5,al 6,al 7,al 8]⟩,al 0,al 1] Tryd.func30 λa ae=> ?_
 letI:=bE ae;have a_:=cC.q_ W;by_cases bd:(nZ table).2=0
 ·by_cases af:xp b cells
  ·by_cases ah:((known.length:Nat):Int)=0
   ·refine br bz h2 (U uH (U (e4 (hZ.mono a_.ext) kA) (U uH aB))) (cv (Ie J J J J (bw.mono a_.ext) d_) (cv (Rj J J J J hT aT iv af) aC)) ?_ ae
    exact b2 b4 λw2 bk=>(by (rw[YF aY aY aj];rfl))
   ·by_cases aH:((known.length:Nat):Int)=((cells.length:Nat):Int)
    ·refine br cp hR (U uH (U (e4 (hZ.mono a_.ext) kA) (U vI (U (e4 (hT.mono a_.ext) iD) (U uH aB))))) (cv (Ie J J J J (bw.mono a_.ext) d_) (cv (Rj J J J J hT aT iv af) aC)) ?_ ae
     exact b2 bs λw2 bk=>(by (rw[YF aY aY aj];rfl))
    ·refine br dh lq (U uH (U (e4 (hZ.mono a_.ext) kA) (U vI (U (e4 (hT.mono a_.ext) iD) (U vI aB))))) (cv (Ie J J J J (bw.mono a_.ext) d_) (cv (Rj J J J J hT aT iv af) aC)) ?_ ae
     exact b2 cw λw2 bk=>(by (rw[Rk (λq1 aI=>by omega)];rfl))
  ·refine br d' kb (U uH aB) (cv (Ie J J J J (bw.mono a_.ext) d_) (cv (ah1 J J J J hT aT iv af) aC)) ?_ ae
   exact b2 dD λw2 bk=>(by (rw[Rk (λq1 aI=>by exact absurd aI aY)];rfl))
 ·refine br eS nW (U vI aB) (cv (Ie J J J J (bw.mono a_.ext) d_) aC) ?_ ae
  exact b2 hq λw2 bk=>(by (rw[Rk (λq1 aI=>by omega)];rfl))
end YG
end a1
namespace a1
section
variable [bp]
theorem Lu {x y z r:ad} {b:cx} {cells:List Int} {table:List dx} {known:List Bool} {a:Option Addr} {n c:Nat} {u v:ad} (hp:fH [x,y,z]=true) (ar:bL r=true) (b5:fl [x,y,z]=[ov b (.slice a n c),u,v]) (dc:bb r= .int .i64 (zG b cells table known))
  (aA:dr bp.dz 1 gq (.slice a n c) cells) (bw:dr bp.dz 8 js u table) (ao:dr bp.dz 1 iw v known) (d_:oH bp.dz) (aT:cells.length<=10000000) (iv:n=cells.length):j0 Tryd.prog (30,[x,y,z],r):=
 kP (a:= #[ov b (.slice a n c),u,v]) hp ar b5 dc λw hw=>YG.any w (aA.mono hw) (bw.mono hw) (ao.mono hw) (d_.mono hw) aT iv
end
theorem ah2 (w:aG) {iE:Option Addr} {iF:Nat} (gm:dO (a7 w) [qd 1 iw (.slice iE [true].length iF) [true]]) (n:Nat) (aT:n<=100000):
  Calls Tryd.prog 34 #[.slice iE [true].length iF,.int .i64 ((n:Nat):Int)] w λe w'=>(∃y:Option Addr×Nat,e= .returned (.slice y.1 (List.replicate n true).length y.2)/\dw (a7 w) [qd 1 iw (.slice iE [true].length iF) [true]] (a7 w') [qd 1 iw (.slice iE [true].length iF) [true],fY mT 1 iw (.slice y.1 (List.replicate n true).length y.2) (List.replicate n true)])/\cO 0 w w':=by
 have h:=Ya.any w gm n rfl aT;rw[nz];exact h
theorem YH (n:Nat):kK n 0=List.replicate n wZ:=by
 unfold kK;rfl
theorem YI {n k:Nat} {g:List Nat} {w:List Bool} (ao:k<n) (bg:g=List.range k) (hw:w=kK n k):mE g w k=List.range (k+1)/\og w k=kK n (k+1):=by
 subst bg hw;have h:(kK n k).getD k default=false:=by
  unfold kK;rw[eP,List.getElem?_append_right (by simp),nz,Nat.sub_self,List.getElem?_replicate,aP aj];rfl
 unfold mE og;rw[h];refine⟨?_,?_⟩
 ·show List.range k++[k]=_
  rw[List.range_succ]
 ·show (kK n k).set k true=_
  unfold kK;rw[List.set_append_right _ _ (by simp),nz,Nat.sub_self];obtain⟨m,hm⟩:∃m,n-k=m+1:=⟨n-k-1,aj⟩;rw[hm,show n-(k+1)=m by omega,List.replicate_succ,List.set_cons_zero,List.replicate_succ',List.append_assoc];rfl
def xq (known:List Bool) (n:Nat):List Bool:=if known.length=0 then List.replicate n true else known
theorem ah3 {known:List Bool} {n:Nat} (h:known.length=0):xq known n=List.replicate n true:=aP h
theorem ah4 {known:List Bool} {n:Nat} (h:known.length≠0):xq known n=known:=aV h
def qP (b:cx) (cells:List Int) (table:List dx) (known:List Bool) (most:Int):Prop:=zG b cells table known=0/\1<=most/\most<=65536
instance (b:cx) (cells:List Int) (table:List dx) (known:List Bool) (most:Int):Decidable (qP b cells table known most):=by unfold qP;infer_instance
abbrev s9:=Option Addr×Nat×Nat
end a1
namespace a1
structure fx where
 q:fa
 o:fa
 g:fa
 s:fa
 w:s9
 l:s9
 i:s9
 t:s9
 h:s9
 c:s9
 k:s9
structure eD where
 u:gY
 b:cx
 table:List dx
 cells:List Int
 known:List Bool
 most:Int
@[reducible] def A4 (a:fa) (n:Nat):ad:= .slice a.1 n a.2
@[reducible] def e6 (a:s9):ad:= .slice a.1 a.2.1 a.2.2
@[reducible] def rB (A:fx) (e:eD):List ad:=[.int .i64 e.b.1,.int .i64 e.b.2.1,.int .i64 e.b.2.2.1,.int .i64 e.b.2.2.2.1,.int .i64 e.b.2.2.2.2.1,.int .i64 e.b.2.2.2.2.2,e6 A.c,.int .i64 e.b.1,.int .i64 e.b.2.1,.int .i64 e.b.2.2.1,.int .i64 e.b.2.2.2.1,.int .i64 e.b.2.2.2.2.1,.int .i64 e.b.2.2.2.2.2,e6 A.i,e6 A.k,e6 A.h,e6 A.t,e6 A.l,.int .i64 e.most,A4 A.q e.u.reqs.length,A4 A.o e.u.aQ.length,A4 A.g e.u.gone.length,A4 A.s e.u.aE.length,e6 A.w]
@[reducible] def YJ (g:Nat) (A:fx) (e:eD):List df:=
  [kd qI 3 oL (A4 A.q e.u.reqs.length) e.u.reqs,kd rl 5 pK (A4 A.o e.u.aQ.length) e.u.aQ,fY nO 1 mD (A4 A.g e.u.gone.length) e.u.gone,kd nO 1 mD (A4 A.s e.u.aE.length) e.u.aE,fY mT 1 iw (e6 A.w) e.u.waits,fY oK 4 kh (e6 A.l) e.u.au,fY lD 1 gq (e6 A.i) e.u.lit,fY qc 8 js (e6 A.t) e.table,fY mT 1 iw (e6 A.h) e.u.aX,fY lD 1 gq (e6 A.c) e.cells,fY mT 1 iw (e6 A.k) e.known,cb g lF (rB A e)]
def dF (g:Nat) (A:fx) (e:eD):df:=w8 (YJ g A e)
def rC (g:Nat):ad:= .pointer (some ⟨g,0,none⟩)
theorem dw.Lv {M aS:Mem} {L o9 L':List df} (ay:dO M L) (is:List Nat) (kX:mB L.length is=true) (hp:a1.pick L is=o9) (az:L'.length=is.length) (t:dw M o9 aS L'):dw M L aS (oJ L is L'):=by
 have:=dw.lift (N:=[]) ay is kX hp az (by rw[List.append_nil];exact t)
 rwa [List.append_nil] at this
theorem dO.CX {M:Mem} {g:Nat} {A:fx} {e:eD} (h:dO M [dF g A e]):dO M (YJ g A e):=h.afy
instance:Inhabited fx:=⟨⟨(none,0),(none,0),(none,0),(none,0),(none,0,0),(none,0,0),(none,0,0),(none,0,0),(none,0,0),(none,0,0),(none,0,0)⟩⟩
instance:Inhabited eD:=⟨⟨⟨[],[],[],[],[],[],[],[]⟩,(0,0,0,0,0,0),[],[],[],0⟩⟩
def Ig (e:eD):eD:={e with u:=(fK e.table e.b e.u).2}
theorem YK (W:aG) {g:Nat} {A:fx} {e:eD} (h:dO (a7 W) [dF g A e]) (bg:hn e.table e.b e.u):
  Calls Tryd.prog 36 #[rC g] W λx w'=>(∃bK:fx,x= .returned (.bool (fK e.table e.b e.u).1)/\dw (a7 W) [dF g A e] (a7 w') [dF g bK (Ig e)])/\cO 0 W w':=by
 obtain⟨⟨li,fL,go,nw,oS,re,it,sh⟩,b,table,cells,known,most⟩:=e;have ay:=h.CX;refine(XH.any W (xa:=h0 (rB A ⟨⟨li,fL,go,nw,oS,re,it,sh⟩,b,table,cells,known,most⟩) 0) (ay.pick [0,1,2,3,4,5,6,7,8,11] rfl) bg.box bg.len bg.X1 bg.H4 bg.ahn bg.fL bg.nw bg.go bg.reqs bg.li bg.bQ bg.fP bg.ew bg.qX).mono λx w' aw=> ?_
 obtain⟨⟨y,rfl,t⟩,az⟩:=aw;have t2:=dw.Lv ay [0,1,2,3,4,5,6,7,8,11] J J J t;exact⟨⟨{A with q:=y.1,o:=y.2.1,g:=y.2.2.1,s:=y.2.2.2},rfl,t2.packed⟩,az⟩
structure u1 (en e:eD) (d:Nat):Prop where
 eq:e={en with u:=ou en.table en.b d en.u}
 all:∀m,m<d->(fK en.table en.b (ou en.table en.b m en.u)).1=true
 aD:hn e.table e.b e.u
 le:d+iy en.b e.u<=iy en.b en.u
theorem u1.zero {en:eD} (h:hn en.table en.b en.u):u1 en en 0:=⟨rfl,λm hm=>absurd hm (Nat.not_lt_zero m),h,aj⟩
theorem u1.next {en e e':eD} {d:Nat} (h:u1 en e d) (he:e'=Ig e) (hu:(fK e.table e.b e.u).1=true):u1 en e' (d+1)/\iy en.b e'.u<iy en.b e.u:=by
 subst he;obtain⟨ah5,wz⟩:=h.aD.unit hu;have hle:=h.le;have cy:=h.eq;subst cy;obtain⟨xJ,Pc⟩:=aho rfl h.all hu;have ah6:iy en.b (fK en.table en.b (ou en.table en.b d en.u)).2+1<=iy en.b (ou en.table en.b d en.u):=wz;have alv:d+iy en.b (ou en.table en.b d en.u)<=iy en.b en.u:=hle;have Rl:d+1+iy en.b (fK en.table en.b (ou en.table en.b d en.u)).2<=iy en.b en.u:=by omega
 exact⟨⟨congrArg (λu=>({en with u:=u}:eD)) xJ,Pc,ah5,Rl⟩,ah6⟩
theorem u1.last {en e e':eD} {d f:Nat} (h:u1 en e d) (he:e'=Ig e) (hu:¬(fK e.table e.b e.u).1=true) (bn:d<=f):i' en.table en.b f en.u=(d,e'.u)/\e'={en with u:=e'.u}:=by
 have gg:(fK e.table e.b e.u).1=false:=by simpa using hu
 have mP:=(h.aD.done gg).1;have cy:=h.eq;subst he cy;have me:=Q0 d f en.u bn h.all (.inr gg);refine⟨?_,rfl⟩;rw[me];exact congrArg (Prod.mk d) mP.symm
theorem u1.full {en e:eD} {d:Nat} (h:u1 en e d):i' en.table en.b d en.u=(d,e.u)/\e={en with u:=e.u}:=by
 have cy:=h.eq;subst cy;exact⟨Q0 d d en.u (c4 _) h.all (.inl rfl),rfl⟩
end a1
namespace a1
namespace YL
noncomputable def body:Code:=(Tryd.f12.body).getD .skip
def N:Nat:=9
def aZ:c6:={sl:=bm [(0,0)],ms:=[],A:=start}
def bt:List bG:=[]
def cl:ax:=bm [(3,1),(2,I 0),(0,0)]
abbrev fG:=at' 9 [] [] body aZ
theorem b4:mi cl bt fG=some [(0,0),(I 0,1)]:=ag
def bY:Code:=nJ body [1,1,0,4]
def fJ:List hj:=lp body [1,1,0,4] []
theorem bs:lP fG=bY:=ag
theorem cw:gi fG=fJ:=ag
theorem dD:eW (at' 9 [] [] bY (aN cl bt))=some (36,[0]):=ag
abbrev eT:=at' 9 [] [] bY (aN cl bt)
def cY:List bG:=[]
def c8:ax:=bm [(3,1),(2,I 0),(0,0)]
def c0:ax:=dS 9 c8 5 2
theorem gy:bF (hQ Tryd.prog eT) c8 cY=some [(0,0),(1,1)]:=ag
def c5:ct:=(bY,[0,0],2)
def cp:aU:=[(.cz 2,.bool true),
 (.bin .add 3 1 (I 1),3)]
theorem lV:eV cl bt (bD 9 cp [] c5 (aN c0 cY))=some [(0,0),(3,1)]:=ag
def dh:aU:=[(.cz 2,.bool false)]
theorem jS:fu Tryd.prog Tryd.f12 (jf 9 [] [] fJ (bD 9 dh [] c5 (aN c0 cY)))=some 1:=ag
@[reducible] noncomputable def a6 (jX:Nat) (e:eD:=default) (d:Nat:=0):List ad:=[bj jX 0,I ((d:Nat):Int),.bool (fK e.table e.b e.u).1,I ((d+1:Nat):Int)]
theorem any (W:aG) {en:eD} {jX:Nat} {ym:fx} (gm:dO (a7 W) [dF jX ym en]) (zH:hn en.table en.b en.u) (ar:en.u.reqs.length<=10000):Calls Tryd.prog 12 #[bj jX 0] W λe w'=>(∃A:fx,e= .returned (I (((i' en.table en.b (iy en.b en.u) en.u).1:Nat):Int))/\dw (a7 W) [dF jX ym en] (a7 w') [dF jX A {en with u:=(i' en.table en.b (iy en.b en.u) en.u).2}])/\cO 0 W w':=by
 refine lg (a6 jX) body aZ N [al 0] Tryd.func12 λa ae=> ?_
 letI:=bE ae;have a_:=cC.start W _ gm;have zI:=zH.X4 ar;refine br [] [] aB aC ?_ ae;refine nP (fW:=(λ(⟨M,e,A,d⟩:Mem×eD×fx×Nat)=>bc M (a6 jX e d))) (λ(⟨M,e,A,d⟩:Mem×eD×fx×Nat)=>cC 0 (a7 W) a_.mL M [dF jX A e]/\(u1 en e d)) (λ(⟨M,e,A,d⟩:Mem×eD×fx×Nat)=>iy en.b e.u) ⟨(a7 W),en,ym,0⟩ b4 b7 (λ_ _ h=>h) (by exact⟨(a_.pick [0] rfl),by exact u1.zero zH⟩) ?_;intro⟨M,e,A,d⟩ aK ch w ae;letI:=bE ae;refine nK bs cw ?_;have bX:=aK.1;have bg:=aK.2.aD;have ah7:=aK.2.le;refine br [] [] aB aC ?_ ae;obtain⟨r9,jA⟩:=ey (Ig e);refine e5 (Y:=fx) (bC:=λaF=>(a6 jX e d)) bX [0] (λaF=>[dF jX (aF) r9]) (λ_=>[]) dD gy (cF c0 2) (ez:=λw hw cM ay=>by rw[jA];exact YK _ ay bg) (rest:= ?_);intro fN CY bP ch w ae;replace bP:=bP.nR;letI:=bE ae;by_cases ea:(fK e.table e.b e.u).1=true
 ·refine cm (cn c5) cp [] (U (yY J J ea) (U gU aB)) aC ?_ ae
  exact e3 ⟨fN,r9,CY,d+1⟩ lV b7 (by exact⟨bP,by exact(aK.2.next jA aY).1⟩) (by exact(aK.2.next jA aY).2)
 ·refine cm (cn c5) dh [] (U (DZ J J ea) aB) aC ?_ ae
  refine j3 [] [] aB aC ?_;exact b2 jS λw2 bk=>(by obtain⟨q1,aI⟩:=aK.2.last (f:=iy en.b en.u) jA aY aj;rw[q1,<-aI];exact⟨_,rfl,(bP.done bk)⟩)
end YL
end a1
namespace a1
namespace YM
noncomputable def body:Code:=(Tryd.f10.body).getD .skip
def N:Nat:=19
def aZ:c6:={sl:=bm [(1,1),(0,0)],ms:=[],A:=start}
def bt:List bG:=[]
def cl:ax:=bm [(6,2),(5,.func (.func 36) ⟨[0]⟩ ⟨[]⟩),(4,I 0),(1,1)]
abbrev fG:=at' 19 [] [] body aZ
theorem b4:mi cl bt fG=some [(1,1),(0,0),(I 0,2)]:=ag
def bY:Code:=nJ body [1,1,0,4]
def fJ:List hj:=lp body [1,1,0,4] []
theorem bs:lP fG=bY:=ag
theorem cw:gi fG=fJ:=ag
def cp:aU:=[(.bin .lss 3 2 1,.bool true)]
theorem dD:eW (at' 19 cp [] bY (aN cl bt))=some (36,[0]):=ag
abbrev eT:=at' 19 cp [] bY (aN cl bt)
def cY:List bG:=[]
def c8:ax:=bm [(12,.bool true),(6,2),(5,.func (.func 36) ⟨[0]⟩ ⟨[]⟩),(4,I 0),(1,1)]
def c0:ax:=dS 19 c8 14 3
theorem gy:bF (hQ Tryd.prog eT) c8 cY=some [(1,1),(0,0),(2,2)]:=ag
def c5:ct:=(bY,[0,0],6)
def dh:aU:=[(.cz 3,.bool true),
 (.bin .add 3 2 (I 1),4)]
theorem lV:eV cl bt (bD 19 dh [] c5 (aN c0 cY))=some [(1,1),(0,0),(4,2)]:=ag
def d':aU:=[(.cz 3,.bool false)]
theorem jS:fu Tryd.prog Tryd.f10 (jf 19 [] [] fJ (bD 19 d' [] c5 (aN c0 cY)))=some 2:=ag
def eS:aU:=[(.bin .lss 3 2 1,.bool false)]
theorem pb:fu Tryd.prog Tryd.f10 (jf 19 [] [] fJ (at' 19 eS [] bY (aN cl bt)))=some 2:=ag
@[reducible] noncomputable def a6 (jX:Nat) (n:Int) (e:eD:=default) (d:Nat:=0):List ad:=[bj jX 0,I n,I ((d:Nat):Int),.bool (fK e.table e.b e.u).1,I ((d+1:Nat):Int)]
theorem any (W:aG) {en:eD} {jX:Nat} {ym:fx} (gm:dO (a7 W) [dF jX ym en]) (n:Int) (zH:hn en.table en.b en.u) (ar:en.u.reqs.length<=10000):Calls Tryd.prog 10 #[bj jX 0,I n] W λe w'=>(∃A:fx,e= .returned (I (((i' en.table en.b n.toNat en.u).1:Nat):Int))/\dw (a7 W) [dF jX ym en] (a7 w') [dF jX A {en with u:=(i' en.table en.b n.toNat en.u).2}])/\cO 0 W w':=by
 refine lg (a6 jX n) body aZ N [al 0,al 1] Tryd.func10 λa ae=> ?_
 letI:=bE ae;have a_:=cC.start W _ gm;have zI:=zH.X4 ar;refine br [] [] aB aC ?_ ae;refine nP (fW:=(λ(⟨M,e,A,d⟩:Mem×eD×fx×Nat)=>bc M (a6 jX n e d))) (λ(⟨M,e,A,d⟩:Mem×eD×fx×Nat)=>cC 0 (a7 W) a_.mL M [dF jX A e]/\(u1 en e d/\d<=n.toNat)) (λ(⟨M,e,A,d⟩:Mem×eD×fx×Nat)=>iy en.b e.u) ⟨(a7 W),en,ym,0⟩ b4 b7 (λ_ _ h=>h) (by exact⟨(a_.pick [0] rfl),by exact⟨u1.zero zH,Nat.zero_le _⟩⟩) ?_;intro⟨M,e,A,d⟩ aK ch w ae;letI:=bE ae;refine nK bs cw ?_;have bX:=aK.1;have bg:=aK.2.1.aD;have ah7:=aK.2.1.le;have vp:=aK.2.2;by_cases lM:((d:Nat):Int)<n
 ·refine br cp [] (U bf aB) aC ?_ ae
  obtain⟨r9,jA⟩:=ey (Ig e);refine e5 (Y:=fx) (bC:=λaF=>(a6 jX n e d)) bX [0] (λaF=>[dF jX (aF) r9]) (λ_=>[]) dD gy (cF c0 3) (ez:=λw hw cM ay=>by rw[jA];exact YK _ ay bg) (rest:= ?_);intro fN CY bP ch w ae;replace bP:=bP.nR;letI:=bE ae;by_cases ea:(fK e.table e.b e.u).1=true
  ·refine cm (cn c5) dh [] (U (yY J J ea) (U gU aB)) aC ?_ ae
   exact e3 ⟨fN,r9,CY,d+1⟩ lV b7 (by exact⟨bP,by exact⟨(aK.2.1.next jA aY).1,aj⟩⟩) (by exact(aK.2.1.next jA aY).2)
  ·refine cm (cn c5) d' [] (U (DZ J J ea) aB) aC ?_ ae
   refine j3 [] [] aB aC ?_;exact b2 jS λw2 bk=>(by first|(obtain⟨q1,aI⟩:=aK.2.1.full;obtain rfl:d=n.toNat:=aj;rw[q1,<-aI];exact⟨_,rfl,(bP.done bk)⟩)|(obtain⟨q1,aI⟩:=aK.2.1.last (f:=n.toNat) jA aY aj;rw[q1,<-aI];exact⟨_,rfl,(bP.done bk)⟩))
 ·refine br eS [] (U a' aB) aC ?_ ae
  refine j3 [] [] aB aC ?_;exact b2 pb λw2 bk=>(by first|(obtain⟨q1,aI⟩:=aK.2.1.full;obtain rfl:d=n.toNat:=aj;rw[q1,<-aI];exact⟨_,rfl,((bX.pick [0] rfl).done bk)⟩)|(obtain⟨q1,aI⟩:=aK.2.1.last (f:=n.toNat) jA aY aj;rw[q1,<-aI];exact⟨_,rfl,((bX.pick [0] rfl).done bk)⟩))
end YM
end a1
namespace a1
namespace YN
noncomputable def body:Code:=(Tryd.f11.body).getD .skip
def N:Nat:=19
noncomputable abbrev b9:=fu Tryd.prog Tryd.f11
def aZ:c6:={sl:=bm [(0,0)],ms:=[],A:=start}
def bz:aU:=[(.dt 0,0),
 (.bQ 80 0 8,25),
 (.dt 25,25),
 (.bQ 76 25 0,25),
 (.bh 74 25,2),
 (.len #[74] 3 2,26),
 (.bin .eql 3 26 (I 0),.bool true),
 (.bQ 80 0 10,27),
 (.dt 27,27),
 (.bQ 78 27 0,27),
 (.bh 26 27,3),
 (.len #[26] 3 3,28),
 (.bin .eql 3 28 (I 0),.bool true),
 (.bQ 80 0 7,29),
 (.dt 29,29),
 (.bQ 73 29 0,29),
 (.bh 71 29,1),
 (.len #[71] 3 1,30),
 (.bin .eql 3 30 (I 0),.bool true)]
theorem b4:b9 (at' 19 bz [] body aZ)=some (.bool true):=ag
def cp:aU:=[(.dt 0,0),
 (.bQ 80 0 8,25),
 (.dt 25,25),
 (.bQ 76 25 0,25),
 (.bh 74 25,2),
 (.len #[74] 3 2,26),
 (.bin .eql 3 26 (I 0),.bool true),
 (.bQ 80 0 10,27),
 (.dt 27,27),
 (.bQ 78 27 0,27),
 (.bh 26 27,3),
 (.len #[26] 3 3,28),
 (.bin .eql 3 28 (I 0),.bool true),
 (.bQ 80 0 7,29),
 (.dt 29,29),
 (.bQ 73 29 0,29),
 (.bh 71 29,1),
 (.len #[71] 3 1,30),
 (.bin .eql 3 30 (I 0),.bool false)]
theorem bs:b9 (at' 19 cp [] body aZ)=some (.bool false):=ag
def dh:aU:=[(.dt 0,0),
 (.bQ 80 0 8,25),
 (.dt 25,25),
 (.bQ 76 25 0,25),
 (.bh 74 25,2),
 (.len #[74] 3 2,26),
 (.bin .eql 3 26 (I 0),.bool true),
 (.bQ 80 0 10,27),
 (.dt 27,27),
 (.bQ 78 27 0,27),
 (.bh 26 27,3),
 (.len #[26] 3 3,28),
 (.bin .eql 3 28 (I 0),.bool false)]
theorem cw:b9 (at' 19 dh [] body aZ)=some (.bool false):=ag
def d':aU:=[(.dt 0,0),
 (.bQ 80 0 8,25),
 (.dt 25,25),
 (.bQ 76 25 0,25),
 (.bh 74 25,2),
 (.len #[74] 3 2,26),
 (.bin .eql 3 26 (I 0),.bool false)]
theorem dD:b9 (at' 19 d' [] body aZ)=some (.bool false):=ag
@[reducible] noncomputable def a6 (bI:List gJ) (c1:bH) (cW:Nat) (aQ:List e2) (cZ:bH) (cT:Nat) (aE:List Nat) (dy:bH) (dv aJ:Nat) (xa:Nat->ad) (v21:ad) (v23:ad):List ad:=[bj aJ 0,aO c1 bI cW,aO cZ aQ cT,aO dy aE dv,xa 0,xa 1,xa 2,xa 3,xa 4,xa 5,xa 6,xa 7,xa 8,xa 9,xa 10,xa 11,xa 12,xa 13,xa 14,xa 15,xa 16,xa 17,xa 18,v21,v23,bj aJ 20,I ((aQ.length:Nat):Int),bj aJ 22,I ((aE.length:Nat):Int),bj aJ 19,I ((bI.length:Nat):Int)]
theorem any (W:aG) {bI:List gJ} {c1:bH} {cW:Nat} {aQ:List e2} {cZ:bH} {cT:Nat} {aE:List Nat} {dy:bH} {dv aJ:Nat} {xa:Nat->ad} {v21:ad} {v23:ad} (gm:dO (a7 W) [qh c1 bI cW,pL cZ aQ cT,pa dy aE dv,cb aJ 80 [xa 0,xa 1,xa 2,xa 3,xa 4,xa 5,xa 6,xa 7,xa 8,xa 9,xa 10,xa 11,xa 12,xa 13,xa 14,xa 15,xa 16,xa 17,xa 18,aO c1 bI cW,aO cZ aQ cT,v21,aO dy aE dv,v23]]):Calls Tryd.prog 11 #[bj aJ 0] W λe w'=>(∃y:Unit,e= .returned (.bool (decide (aQ.length=0/\aE.length=0/\bI.length=0)))/\dw (a7 W) [qh c1 bI cW,pL cZ aQ cT,pa dy aE dv,cb aJ 80 [xa 0,xa 1,xa 2,xa 3,xa 4,xa 5,xa 6,xa 7,xa 8,xa 9,xa 10,xa 11,xa 12,xa 13,xa 14,xa 15,xa 16,xa 17,xa 18,aO c1 bI cW,aO cZ aQ cT,v21,aO dy aE dv,v23]] (a7 w') [qh c1 bI cW,pL cZ aQ cT,pa dy aE dv,cb aJ lF [xa 0,xa 1,xa 2,xa 3,xa 4,xa 5,xa 6,xa 7,xa 8,xa 9,xa 10,xa 11,xa 12,xa 13,xa 14,xa 15,xa 16,xa 17,xa 18,aO c1 bI cW,aO cZ aQ cT,v21,aO dy aE dv,v23]])/\cO 0 W w':=by
 refine lg (a6 bI c1 cW aQ cZ cT aE dy dv aJ xa v21 v23) body aZ N [al 0] Tryd.func11 λa ae=> ?_
 letI:=bE ae;have a_:=cC.start W _ gm;by_cases bd:((aQ.length:Nat):Int)=0
 ·by_cases af:((aE.length:Nat):Int)=0
  ·by_cases ah:((bI.length:Nat):Int)=0
   ·refine br bz [] (U dB (U (b1 76 20 1) (U dB (U (b1 74 0 1) (U (cu 20 3 a_) (U (e4 ((a_.j8 1 rfl).arr rm) uF) (U bf (U (b1 78 22 1) (U dB (U (b1 26 0 1) (U (cu 22 3 a_) (U (e4 ((a_.j8 2 rfl).arr kZ) vF) (U bf (U (b1 73 19 1) (U dB (U (b1 71 0 1) (U (cu 19 3 a_) (U (e4 ((a_.j8 0 rfl).arr rW) wY) (U bf aB))))))))))))))))))) aC ?_ ae
    exact b2 b4 λw2 bk=>(by (rw[gO aj];exact⟨(),rfl,((a_.pick [0,1,2,3] rfl).done bk)⟩))
   ·refine br cp [] (U dB (U (b1 76 20 1) (U dB (U (b1 74 0 1) (U (cu 20 3 a_) (U (e4 ((a_.j8 1 rfl).arr rm) uF) (U bf (U (b1 78 22 1) (U dB (U (b1 26 0 1) (U (cu 22 3 a_) (U (e4 ((a_.j8 2 rfl).arr kZ) vF) (U bf (U (b1 73 19 1) (U dB (U (b1 71 0 1) (U (cu 19 3 a_) (U (e4 ((a_.j8 0 rfl).arr rW) wY) (U a' aB))))))))))))))))))) aC ?_ ae
    exact b2 bs λw2 bk=>(by (rw[dT aj];exact⟨(),rfl,((a_.pick [0,1,2,3] rfl).done bk)⟩))
  ·refine br dh [] (U dB (U (b1 76 20 1) (U dB (U (b1 74 0 1) (U (cu 20 3 a_) (U (e4 ((a_.j8 1 rfl).arr rm) uF) (U bf (U (b1 78 22 1) (U dB (U (b1 26 0 1) (U (cu 22 3 a_) (U (e4 ((a_.j8 2 rfl).arr kZ) vF) (U a' aB))))))))))))) aC ?_ ae
   exact b2 cw λw2 bk=>(by (rw[dT aj];exact⟨(),rfl,((a_.pick [0,1,2,3] rfl).done bk)⟩))
 ·refine br d' [] (U dB (U (b1 76 20 1) (U dB (U (b1 74 0 1) (U (cu 20 3 a_) (U (e4 ((a_.j8 1 rfl).arr rm) uF) (U a' aB))))))) aC ?_ ae
  exact b2 dD λw2 bk=>(by (rw[dT aj];exact⟨(),rfl,((a_.pick [0,1,2,3] rfl).done bk)⟩))
end YN
namespace YO
noncomputable def body:Code:=(Tryd.f15.body).getD .skip
def N:Nat:=8
def aZ:c6:={sl:=bm [(0,0)],ms:=[],A:=start}
def bz:aU:=[(.dt 0,0),
 (.bQ 80 0 5,25),
 (.bh 45 25,1)]
theorem b4:eW (at' 8 bz [] body aZ)=some (40,[1]):=ag
abbrev eT:=at' 8 bz [] body aZ
def cY:List bG:=[]
def c8:ax:=bm [(2,.slice none 0 0)]
def c0:ax:=dS 8 c8 7 26
theorem dD:bF (hQ Tryd.prog eT) c8 cY=some []:=ag
def c5:ct:=(body,[1,0],5)
theorem lA:fu Tryd.prog Tryd.f15 (bD 8 [] [] c5 (aN c0 cY))=some 26:=ag
@[reducible] noncomputable def a6 (bT:bH) (bU bV aJ:Nat) (xa:Nat->ad) (av:Nat->ad) (Lw:List cc:=[]) (hd:bH:=none) (hf:Nat:=0):List ad:=[bj aJ 0,.slice bT bU bV,xa 0,xa 1,xa 2,xa 3,xa 4,xa 5,xa 6,xa 7,xa 8,xa 9,xa 10,xa 11,xa 12,xa 13,xa 14,xa 15,xa 16,av 0,av 1,av 2,av 3,av 4,av 5,bj aJ 17,aO hd Lw hf]
theorem any (W:aG) {au:List cc} {bT:bH} {bU bV aJ:Nat} {xa:Nat->ad} {av:Nat->ad} (gm:dO (a7 W) [mj bT bU bV au,cb aJ 80 [xa 0,xa 1,xa 2,xa 3,xa 4,xa 5,xa 6,xa 7,xa 8,xa 9,xa 10,xa 11,xa 12,xa 13,xa 14,xa 15,xa 16,.slice bT bU bV,av 0,av 1,av 2,av 3,av 4,av 5]]) (aT:au.length<=100000):Calls Tryd.prog 15 #[bj aJ 0] W λe w'=>(∃y:bH×Nat,e= .returned (aO y.1 au y.2)/\dw (a7 W) [mj bT bU bV au,cb aJ 80 [xa 0,xa 1,xa 2,xa 3,xa 4,xa 5,xa 6,xa 7,xa 8,xa 9,xa 10,xa 11,xa 12,xa 13,xa 14,xa 15,xa 16,.slice bT bU bV,av 0,av 1,av 2,av 3,av 4,av 5]] (a7 w') ([mj bT bU bV au,cb aJ 80 [xa 0,xa 1,xa 2,xa 3,xa 4,xa 5,xa 6,xa 7,xa 8,xa 9,xa 10,xa 11,xa 12,xa 13,xa 14,xa 15,xa 16,.slice bT bU bV,av 0,av 1,av 2,av 3,av 4,av 5]]++[AM y.1 au y.2]))/\cO 0 W w':=by
 refine lg (a6 bT bU bV aJ xa av) body aZ N [al 0] Tryd.func15 λa ae=> ?_
 letI:=bE ae;have a_:=cC.start W _ gm;refine br bz [] (U dB (U (b1 45 17 1) (U (cu 17 1 a_) aB))) aC ?_ ae;obtain⟨Lw,YP⟩:=ey (au);refine e5 (Y:=fa) (bC:=λaF=>(a6 bT bU bV aJ xa av Lw aF.1 aF.2)) a_ [0] (λaF=>[_]) (λaF=>[AM aF.1 Lw aF.2]) b4 dD (cF c0 26) (ez:=λw hw cM ay=>by rw[YP];exact KK ay (X7.any _ ((ay.arr 0 rfl).arr eH) aT)) (rest:= ?_);intro fN ⟨hd,hf⟩ bP ch w ae;replace bP:=bP.uK;letI:=bE ae;refine cm (cn c5) [] [] aB aC ?_ ae;exact b2 lA λw2 bk=>(by (subst YP;exact⟨(_,_),rfl,(bP.done bk)⟩))
end YO
namespace YQ
noncomputable def body:Code:=(Tryd.f17.body).getD .skip
def N:Nat:=8
def aZ:c6:={sl:=bm [(0,0)],ms:=[],A:=start}
def bz:aU:=[(.dt 0,0),
 (.bQ 80 0 2,25),
 (.bh 30 25,1)]
theorem b4:eW (at' 8 bz [] body aZ)=some (33,[1]):=ag
abbrev eT:=at' 8 bz [] body aZ
def cY:List bG:=[]
def c8:ax:=bm [(2,.slice none 0 0)]
def c0:ax:=dS 8 c8 7 26
theorem dD:bF (hQ Tryd.prog eT) c8 cY=some []:=ag
def c5:ct:=(body,[1,0],5)
theorem lA:fu Tryd.prog Tryd.f17 (bD 8 [] [] c5 (aN c0 cY))=some 26:=ag
@[reducible] noncomputable def a6 (di:bH) (fc dj aJ:Nat) (xa:Nat->ad) (av:Nat->ad) (Lx:List Bool:=[]) (hd:bH:=none) (hf:Nat:=0):List ad:=[bj aJ 0,.slice di fc dj,xa 0,xa 1,xa 2,xa 3,xa 4,xa 5,xa 6,xa 7,xa 8,xa 9,xa 10,xa 11,xa 12,xa 13,av 0,av 1,av 2,av 3,av 4,av 5,av 6,av 7,av 8,bj aJ 14,aO hd Lx hf]
theorem any (W:aG) {known:List Bool} {di:bH} {fc dj aJ:Nat} {xa:Nat->ad} {av:Nat->ad} (gm:dO (a7 W) [h1 di fc dj known,cb aJ 80 [xa 0,xa 1,xa 2,xa 3,xa 4,xa 5,xa 6,xa 7,xa 8,xa 9,xa 10,xa 11,xa 12,xa 13,.slice di fc dj,av 0,av 1,av 2,av 3,av 4,av 5,av 6,av 7,av 8]]) (aT:known.length<=100000):Calls Tryd.prog 17 #[bj aJ 0] W λe w'=>(∃y:bH×Nat,e= .returned (aO y.1 known y.2)/\dw (a7 W) [h1 di fc dj known,cb aJ 80 [xa 0,xa 1,xa 2,xa 3,xa 4,xa 5,xa 6,xa 7,xa 8,xa 9,xa 10,xa 11,xa 12,xa 13,.slice di fc dj,av 0,av 1,av 2,av 3,av 4,av 5,av 6,av 7,av 8]] (a7 w') ([h1 di fc dj known,cb aJ 80 [xa 0,xa 1,xa 2,xa 3,xa 4,xa 5,xa 6,xa 7,xa 8,xa 9,xa 10,xa 11,xa 12,xa 13,.slice di fc dj,av 0,av 1,av 2,av 3,av 4,av 5,av 6,av 7,av 8]]++[uJ y.1 known y.2]))/\cO 0 W w':=by
 refine lg (a6 di fc dj aJ xa av) body aZ N [al 0] Tryd.func17 λa ae=> ?_
 letI:=bE ae;have a_:=cC.start W _ gm;refine br bz [] (U dB (U (b1 30 14 1) (U (cu 14 1 a_) aB))) aC ?_ ae;obtain⟨Lx,YR⟩:=ey (known);refine e5 (Y:=fa) (bC:=λaF=>(a6 di fc dj aJ xa av Lx aF.1 aF.2)) a_ [0] (λaF=>[_]) (λaF=>[uJ aF.1 Lx aF.2]) b4 dD (cF c0 26) (ez:=λw hw cM ay=>by rw[YR];exact KK ay (H6.any _ ((ay.arr 0 rfl).arr h9) aT)) (rest:= ?_);intro fN ⟨hd,hf⟩ bP ch w ae;replace bP:=bP.uK;letI:=bE ae;refine cm (cn c5) [] [] aB aC ?_ ae;exact b2 lA λw2 bk=>(by (subst YR;exact⟨(_,_),rfl,(bP.done bk)⟩))
end YQ
end a1
namespace a1
theorem ah8 {b:cx} {p:gK} (h:fz p b):0<(gj b).toNat:=by
 unfold fz at h;have bn:ki b:=by unfold ki;omega
 unfold gj;rw[AG bn];dsimp only;have af:0<(b.2.2.2.1-b.1)*(b.2.2.2.2.1-b.2.1):=Int.mul_pos aj aj;have ah:0<(b.2.2.2.1-b.1)*(b.2.2.2.2.1-b.2.1)*(b.2.2.2.2.2-b.2.2.1):=Int.mul_pos af aj;omega
theorem Rm {b:cx} {p:gK} (h:fz p b):cE b p<(gj b).toNat:=by
 have:=K6 (b:=b) (k:=0) (sh:=List.replicate (gj b).toNat false) (by rw[nz];exact ah8 h) nz p
 rwa [nz] at this
def acc (b:cx) (most:Int) (p:gK) (n:Nat):Prop:=fz p b/\¬most<=((n:Nat):Int)
instance (b:cx) (most:Int) (p:gK) (n:Nat):Decidable (acc b most p n):=by unfold acc;infer_instance
def l4 (b:cx) (most:Int) (p:gK) (reqs:List gJ):Int:=if fz p b then (if most<=((reqs.length:Nat):Int) then 16 else 0) else 1
def n0 (b:cx) (most:Int) (p:gK) (reqs:List gJ) (x:gJ):List gJ:=if acc b most p reqs.length then reqs++[x] else reqs
def qQ {α:Type} (b:cx) (most:Int) (p:gK) (reqs:List gJ) (l:List α) (v:α):List α:=if acc b most p reqs.length then l.set (cE b p) v else l
variable {α:Type} {b:cx} {most:Int} {p:gK} {reqs:List gJ} {x:gJ} {l:List α} {v:α}
theorem YS (h:fz p b) (af:¬most<=((reqs.length:Nat):Int)):l4 b most p reqs=0/\n0 b most p reqs x=reqs++[x]/\qQ b most p reqs l v=l.set (cE b p) v:=by
 unfold l4 n0 qQ;rw[aP h,aV af,aP ⟨h,af⟩,aP ⟨h,af⟩];exact⟨rfl,rfl,rfl⟩
theorem YT (h:fz p b) (af:most<=((reqs.length:Nat):Int)):l4 b most p reqs=16/\n0 b most p reqs x=reqs/\qQ b most p reqs l v=l:=by
 unfold l4 n0 qQ;rw[aP h,aP af,aV λq=>q.2 af,aV λq=>q.2 af];exact⟨rfl,rfl,rfl⟩
theorem YU (h:¬fz p b):l4 b most p reqs=1/\n0 b most p reqs x=reqs/\qQ b most p reqs l v=l:=by
 unfold l4 n0 qQ;rw[aV h,aV λq=>h q.1,aV λq=>h q.1];exact⟨rfl,rfl,rfl⟩
theorem YV {l:List α} {k:Nat} {v d:α} (ao:k<l.length):(l.set k v).getD k d=v:=by
 rw[eP,List.getElem?_set,aP rfl,aP ao];rfl
end a1
namespace a1
namespace YW
noncomputable def body:Code:=(Tryd.f44.body).getD .skip
def N:Nat:=12
def aZ:c6:={sl:=bm [(2,2),(1,1),(0,0)],ms:=[],A:=start}
def bz:aU:=[(.bh 34 2,28),
 (.dt 28,28),
 (.bQ 80 28 0,28),
 (.bQ 28 28 1,29),
 (.bh 26 29,3),
 (.bh 3 1,27),
 (.cV 26 3 0,30)]
theorem b4:hc (at' 12 bz [] body aZ)=some (3,30,27):=ag
abbrev eT:=at' 12 bz [] body aZ
def cY:List bG:=[]
def c8:ax:=bm []
def c0:ax:=match e8 12 c8 none (.tuple ⟨[]⟩) with|some s=>s|none=> .nil
theorem bs:bF (b0 eT) c8 cY=some []:=ag
def c5:ct:=(body,[],9)
theorem gy:fu Tryd.prog Tryd.f44 (bD 12 [] [] c5 (aN c0 cY))=some (.tuple ⟨[]⟩):=ag
@[reducible] noncomputable def a6 (b_:bH) (b3 ca aJ:Nat) (xa:Nat->ad) (av:Nat->ad) (eC:Nat) (cell:Int) (dg k:Nat):List ad:=[I ((k:Nat):Int),bj eC 0,bj dg 0,.slice b_ b3 ca,xa 0,xa 1,xa 2,xa 3,xa 4,xa 5,av 0,av 1,av 2,av 3,av 4,av 5,av 6,av 7,av 8,av 9,av 10,av 11,av 12,av 13,av 14,av 15,av 16,I cell,bj aJ 0,bj aJ 6,fM (.slice b_ b3 ca) (k*1)]
theorem any (W:aG) {cells:List Int} {b_:bH} {b3 ca aJ:Nat} {xa:Nat->ad} {av:Nat->ad} {eC:Nat} {cell:Int} {dg:Nat} (gm:dO (a7 W) [j4 b_ b3 ca cells,cb aJ 80 [xa 0,xa 1,xa 2,xa 3,xa 4,xa 5,.slice b_ b3 ca,av 0,av 1,av 2,av 3,av 4,av 5,av 6,av 7,av 8,av 9,av 10,av 11,av 12,av 13,av 14,av 15,av 16],cb eC 3 [I cell],cb dg 34 [bj aJ 0]]) (k:Nat) (ao:k<cells.length):Calls Tryd.prog 44 #[I ((k:Nat):Int),bj eC 0,bj dg 0] W λe w'=>(∃y:Unit,e= .returned (.tuple #[])/\dw (a7 W) [j4 b_ b3 ca cells,cb aJ 80 [xa 0,xa 1,xa 2,xa 3,xa 4,xa 5,.slice b_ b3 ca,av 0,av 1,av 2,av 3,av 4,av 5,av 6,av 7,av 8,av 9,av 10,av 11,av 12,av 13,av 14,av 15,av 16],cb eC 3 [I cell],cb dg 34 [bj aJ 0]] (a7 w') [fY lD 1 gq (.slice b_ b3 ca) (cells.set k cell),cb aJ lF [xa 0,xa 1,xa 2,xa 3,xa 4,xa 5,.slice b_ b3 ca,av 0,av 1,av 2,av 3,av 4,av 5,av 6,av 7,av 8,av 9,av 10,av 11,av 12,av 13,av 14,av 15,av 16],cb eC 3 [I cell],cb dg x8 [bj aJ 0]])/\cO 0 W w':=by
 refine lg (a6 b_ b3 ca aJ xa av eC cell dg k) body aZ N [al 0,al 1,al 2] Tryd.func44 λa ae=> ?_
 letI:=bE ae;have a_:=cC.start W _ gm;refine br bz [] (U (cu 0 3 a_) (U dB (U (b1 28 0 7) (U (b1 26 6 1) (U (cu 6 1 a_) (U (cu 0 2 a_) (U (f' ((a_.arr 0 rfl).arr j2) iD jO) aB))))))) aC ?_ ae;obtain⟨ah9,fD⟩:=ey (cells.set k cell);have hh:ah9.length=cells.length:=by rw[fD];exact List.length_set
 refine oO 0 (a6 b_ b3 ca aJ xa av eC cell dg k) fD b4 j2 bs (cF c0 (.tuple ⟨[]⟩)) (a_.arr 0 rfl) (show k<cells.length by omega) ?_;intro fN lT gb ch w ae;have bP:=a_.gM 0 rfl (nL lT gb);replace bP:=bP.vJ;letI:=bE ae;refine cm (cn c5) [] [] aB aC ?_ ae;exact b2 gy λw2 bk=>(by subst_vars;exact⟨(),rfl,(bP.done bk)⟩)
end YW
namespace YX
noncomputable def body:Code:=(Tryd.f45.body).getD .skip
def N:Nat:=11
def aZ:c6:={sl:=bm [(2,2),(1,1),(0,0)],ms:=[],A:=start}
def bz:aU:=[(.bh 34 2,28),
 (.dt 28,28),
 (.bQ 80 28 2,29),
 (.bh 30 29,3),
 (.bh 4 1,27),
 (.cV 30 3 0,30)]
theorem b4:hc (at' 11 bz [] body aZ)=some (4,30,27):=ag
abbrev eT:=at' 11 bz [] body aZ
def cY:List bG:=[]
def c8:ax:=bm []
def c0:ax:=match e8 11 c8 none (.tuple ⟨[]⟩) with|some s=>s|none=> .nil
theorem bs:bF (b0 eT) c8 cY=some []:=ag
def c5:ct:=(body,[],8)
theorem gy:fu Tryd.prog Tryd.f45 (bD 11 [] [] c5 (aN c0 cY))=some (.tuple ⟨[]⟩):=ag
@[reducible] noncomputable def a6 (di:bH) (fc dj aJ:Nat) (xa:Nat->ad) (av:Nat->ad) (eC:Nat) (hM:Bool) (dg k:Nat):List ad:=[I ((k:Nat):Int),bj eC 0,bj dg 0,.slice di fc dj,xa 0,xa 1,xa 2,xa 3,xa 4,xa 5,xa 6,xa 7,xa 8,xa 9,xa 10,xa 11,xa 12,xa 13,av 0,av 1,av 2,av 3,av 4,av 5,av 6,av 7,av 8,.bool hM,bj aJ 0,bj aJ 14,fM (.slice di fc dj) (k*1)]
theorem any (W:aG) {known:List Bool} {di:bH} {fc dj aJ:Nat} {xa:Nat->ad} {av:Nat->ad} {eC:Nat} {hM:Bool} {dg:Nat} (gm:dO (a7 W) [h1 di fc dj known,cb aJ 80 [xa 0,xa 1,xa 2,xa 3,xa 4,xa 5,xa 6,xa 7,xa 8,xa 9,xa 10,xa 11,xa 12,xa 13,.slice di fc dj,av 0,av 1,av 2,av 3,av 4,av 5,av 6,av 7,av 8],cb eC 4 [.bool hM],cb dg 34 [bj aJ 0]]) (k:Nat) (ao:k<known.length):Calls Tryd.prog 45 #[I ((k:Nat):Int),bj eC 0,bj dg 0] W λe w'=>(∃y:Unit,e= .returned (.tuple #[])/\dw (a7 W) [h1 di fc dj known,cb aJ 80 [xa 0,xa 1,xa 2,xa 3,xa 4,xa 5,xa 6,xa 7,xa 8,xa 9,xa 10,xa 11,xa 12,xa 13,.slice di fc dj,av 0,av 1,av 2,av 3,av 4,av 5,av 6,av 7,av 8],cb eC 4 [.bool hM],cb dg 34 [bj aJ 0]] (a7 w') [fY mT 1 iw (.slice di fc dj) (known.set k hM),cb aJ lF [xa 0,xa 1,xa 2,xa 3,xa 4,xa 5,xa 6,xa 7,xa 8,xa 9,xa 10,xa 11,xa 12,xa 13,.slice di fc dj,av 0,av 1,av 2,av 3,av 4,av 5,av 6,av 7,av 8],cb eC 4 [.bool hM],cb dg x8 [bj aJ 0]])/\cO 0 W w':=by
 refine lg (a6 di fc dj aJ xa av eC hM dg k) body aZ N [al 0,al 1,al 2] Tryd.func45 λa ae=> ?_
 letI:=bE ae;have a_:=cC.start W _ gm;refine br bz [] (U (cu 0 3 a_) (U dB (U (b1 30 14 1) (U (cu 14 1 a_) (U (cu 0 2 a_) (U (f' ((a_.arr 0 rfl).arr h9) kA rk) aB)))))) aC ?_ ae;obtain⟨PO,fD⟩:=ey (known.set k hM);have hh:PO.length=known.length:=by rw[fD];exact List.length_set
 refine oO 0 (a6 di fc dj aJ xa av eC hM dg k) fD b4 h9 bs (cF c0 (.tuple ⟨[]⟩)) (a_.arr 0 rfl) (show k<known.length by omega) ?_;intro fN lT gb ch w ae;have bP:=a_.gM 0 rfl (nL lT gb);replace bP:=bP.vJ;letI:=bE ae;refine cm (cn c5) [] [] aB aC ?_ ae;exact b2 gy λw2 bk=>(by subst_vars;exact⟨(),rfl,(bP.done bk)⟩)
end YX
namespace YY
noncomputable def body:Code:=(Tryd.f43.body).getD .skip
def N:Nat:=55
noncomputable abbrev b9:=fu Tryd.prog Tryd.f43
def aZ:c6:={sl:=bm [(2,.func (.func 44) ⟨[]⟩ ⟨[4,5]⟩),(1,.agg ⟨[1,2,3]⟩),(0,0)],ms:=[],A:=start}
def bz:aU:=[(.dt 0,0),
 (.bQ 80 0 0,0),
 (.bQ 28 0 0,0),
 (.bh 25 0,.agg ⟨[9,10,11,12,13,14]⟩),
 (.bin .lss 3 31 (I 0),.bool false),
 (.bQ 80 0 7,32),
 (.bQ 73 32 0,32),
 (.bh 71 32,6),
 (.len #[71] 3 6,33),
 (.bQ 80 0 6,34),
 (.bh 3 34,25),
 (.bin .geq 3 33 25,.bool true)]
def h2:dm:=[(55,[.agg ⟨[9,10,11,12,13,14]⟩,.agg ⟨[1,2,3]⟩],31)]
theorem b4:b9 (at' 55 bz h2 body aZ)=some (I 16):=ag
def cp:aU:=[(.dt 0,0),
 (.bQ 80 0 0,0),
 (.bQ 28 0 0,0),
 (.bh 25 0,.agg ⟨[9,10,11,12,13,14]⟩),
 (.bin .lss 3 31 (I 0),.bool false),
 (.bQ 80 0 7,32),
 (.bQ 73 32 0,32),
 (.bh 71 32,6),
 (.len #[71] 3 6,33),
 (.bQ 80 0 6,34),
 (.bh 3 34,25),
 (.bin .geq 3 33 25,.bool false)]
def hR:dm:=[(55,[.agg ⟨[9,10,11,12,13,14]⟩,.agg ⟨[1,2,3]⟩],31)]
theorem bs:eW (at' 55 cp hR body aZ)=some (44,[31,4,5]):=ag
abbrev eT:=at' 55 cp hR body aZ
def cY:List bG:=[]
def c8:ax:=bm [(7,31),(6,I 0),(0,0)]
def c0:ax:=dS 55 c8 32 (.tuple ⟨[]⟩)
theorem hq:bF (hQ Tryd.prog eT) c8 cY=some [(0,0),(31,31)]:=ag
def c5:ct:=(body,[1,1,1,0],3)
def dh:aU:=[(.dt 0,0),
 (.bQ 80 0 7,32),
 (.bQ 80 0 0,0),
 (.bQ 28 0 1,35),
 (.bh 26 35,7),
 (.cV 26 7 31,36),
 (.bh 3 36,37),
 (.bQ 80 0 2,38),
 (.bh 30 38,8),
 (.cV 30 8 31,39),
 (.bh 4 39,40)]
abbrev h':=bD 55 dh [] c5 {sl:=c0,ms:=[],A:=cS cY}
def fm:List bG:=[]
def fT:ax:=bm [(35,32),(6,I 0)]
def eO:ax:=(cK.set 41 depth fT 53).getD .nil
theorem np:tC h' 0 53=some ([31,37,40],1,1):=ag
theorem k2:bF (b0 h') fT fm=some [(32,32)]:=ag
theorem lV:cK.set 41 depth fT 53=some eO:=ag
theorem jS:eW ((lE (aN eO fm) h'))=some (69,[32,41]):=ag
abbrev lr:=(lE {sl:=eO,ms:=[],A:=cS fm} h')
def hF:List bG:=[]
def iG:ax:=bm [(6,I 0)]
def fS:ax:=dS 55 iG 54 (.tuple ⟨[]⟩)
theorem pg:bF (hQ Tryd.prog lr) iG hF=some []:=ag
def ht:ct:=(body,[1,1,1,1,0],22)
theorem nt:b9 (bD 55 [] [] ht (aN fS hF))=some (I 0):=ag
def eS:aU:=[(.dt 0,0),
 (.bQ 80 0 0,0),
 (.bQ 28 0 0,0),
 (.bh 25 0,.agg ⟨[9,10,11,12,13,14]⟩)]
def nW:dm:=[(55,[.agg ⟨[9,10,11,12,13,14]⟩,.agg ⟨[1,2,3]⟩],I (-1))]
theorem ot:b9 (at' 55 eS nW body aZ)=some (I 1):=ag
@[reducible] noncomputable def a6 (bI:List gJ) (c1:bH) (cW:Nat) (b_:bH) (b3 ca:Nat) (known:List Bool) (di:bH) (fc dj aJ:Nat) (b:cx) (xa:Nat->ad) (av:Nat->ad) (most:Int) (xc:Nat->ad) (eC:Nat) (cell:Int) (dg:Nat) (p:gK) (yn:List Int:=[]) (g1:Nat:=0) (oy:List gJ:=[]) (jU:bH:=none) (jV:Nat:=0):List ad:=[bj aJ 0,I p.1,I p.2.1,I p.2.2,bj eC 0,bj dg 0,aO c1 bI cW,.slice b_ b3 ca,.slice di fc dj,I b.1,I b.2.1,I b.2.2.1,I b.2.2.2.1,I b.2.2.2.2.1,I b.2.2.2.2.2,xa 0,xa 1,xa 2,xa 3,xa 4,xa 5,xa 6,av 0,av 1,av 2,I most,xc 0,xc 1,xc 2,xc 3,I cell,I ((cE b p:Nat):Int),bj aJ 19,I ((bI.length:Nat):Int),bj aJ 18,bj aJ 6,fM (.slice b_ b3 ca) (cE b p*1),I (yn.getD (cE b p) default),bj aJ 14,fM (.slice di fc dj) (cE b p*1),.bool (known.getD (cE b p) default),.slice (some ⟨g1,0,none⟩) 1 1,aO jU oy jV]
theorem any (W:aG) {bI:List gJ} {c1:bH} {cW:Nat} {cells:List Int} {b_:bH} {b3 ca:Nat} {known:List Bool} {di:bH} {fc dj aJ:Nat} {b:cx} {xa:Nat->ad} {av:Nat->ad} {most:Int} {xc:Nat->ad} {eC:Nat} {cell:Int} {dg:Nat} (gm:dO (a7 W) [qh c1 bI cW,j4 b_ b3 ca cells,h1 di fc dj known,cb aJ 80 [I b.1,I b.2.1,I b.2.2.1,I b.2.2.2.1,I b.2.2.2.2.1,I b.2.2.2.2.2,.slice b_ b3 ca,xa 0,xa 1,xa 2,xa 3,xa 4,xa 5,xa 6,.slice di fc dj,av 0,av 1,av 2,I most,aO c1 bI cW,xc 0,xc 1,xc 2,xc 3],cb eC 3 [I cell],cb dg 34 [bj aJ 0]]) (p:gK) (ai:okB b) (az:cells.length=(gj b).toNat) (ao:known.length=cells.length) (ar:bI.length<=400000):Calls Tryd.prog 43 #[bj aJ 0,P.val p,.func (.func 44) #[] #[bj eC 0,bj dg 0]] W λe w'=>(∃y:bH×Nat,e= .returned (I (l4 b most p bI))/\dw (a7 W) [qh c1 bI cW,j4 b_ b3 ca cells,h1 di fc dj known,cb aJ 80 [I b.1,I b.2.1,I b.2.2.1,I b.2.2.2.1,I b.2.2.2.2.1,I b.2.2.2.2.2,.slice b_ b3 ca,xa 0,xa 1,xa 2,xa 3,xa 4,xa 5,xa 6,.slice di fc dj,av 0,av 1,av 2,I most,aO c1 bI cW,xc 0,xc 1,xc 2,xc 3],cb eC 3 [I cell],cb dg 34 [bj aJ 0]] (a7 w') [kd qI 3 oL (.slice y.1 (n0 b most p bI (cE b p,cell,known.getD (cE b p) default)).length y.2) (n0 b most p bI (cE b p,cell,known.getD (cE b p) default)),fY lD 1 gq (.slice b_ b3 ca) (qQ b most p bI cells cell),h1 di fc dj known,cb aJ lF (List.set [I b.1,I b.2.1,I b.2.2.1,I b.2.2.2.1,I b.2.2.2.2.1,I b.2.2.2.2.2,.slice b_ b3 ca,xa 0,xa 1,xa 2,xa 3,xa 4,xa 5,xa 6,.slice di fc dj,av 0,av 1,av 2,I most,aO c1 bI cW,xc 0,xc 1,xc 2,xc 3] 19 (.slice y.1 (n0 b most p bI (cE b p,cell,known.getD (cE b p) default)).length y.2)),cb eC 3 [I cell],cb dg x8 [bj aJ 0]])/\cO 0 W w':=by
 refine lg (a6 bI c1 cW b_ b3 ca known di fc dj aJ b xa av most xc eC cell dg p) body aZ N [al 0,.agg ⟨[al 1,al 2,al 3]⟩,.func (.func 44) ⟨[]⟩ ⟨[al 4,al 5]⟩] Tryd.func43 λa ae=> ?_
 letI:=bE ae;have a_:=cC.start W _ gm;have gH:fz p b->cE b p<cells.length:=λh=>az▸Rm h
 by_cases bd:fz p b
 ·replace gH:=gH bd
  by_cases af:most<=((bI.length:Nat):Int)
  ·refine br bz h2 (U dB (U (b1 28 0 7) (U (b1 25 0 6) (U (j_ 0 6 3 a_) (U a' (U (b1 73 19 1) (U (b1 71 0 1) (U (cu 19 3 a_) (U (e4 ((a_.j8 0 rfl).arr rW) wY) (U (b1 3 18 1) (U (cu 18 3 a_) (U bf aB)))))))))))) (cv (ye J J J J ai bd) aC) ?_ ae
   exact b2 b4 λw2 bk=>(by (obtain⟨q1,aI,bS⟩:=YT (x:=(cE b p,cell,known.getD (cE b p) default)) (l:=cells) (v:=cell) aY aY;rw[q1,aI,bS];exact⟨(_,_),rfl,((a_.pick [0,1,2,3,4,5] rfl).done bk)⟩))
  ·refine br cp hR (U dB (U (b1 28 0 7) (U (b1 25 0 6) (U (j_ 0 6 3 a_) (U a' (U (b1 73 19 1) (U (b1 71 0 1) (U (cu 19 3 a_) (U (e4 ((a_.j8 0 rfl).arr rW) wY) (U (b1 3 18 1) (U (cu 18 3 a_) (U a' aB)))))))))))) (cv (ye J J J J ai bd) aC) ?_ ae
   obtain⟨yn,Ly⟩:=ey (cells.set (cE b p) cell);have Rn:yn.length=cells.length:=by rw[Ly,List.length_set]
   refine e5 (Y:=Unit) (bC:=λaF=>(a6 bI c1 cW b_ b3 ca known di fc dj aJ b xa av most xc eC cell dg p yn)) a_ [1,3,4,5] (λ_=>[qL _ _ _ b_ b3 ca yn,_,_,_]) (λ_=>[]) bs hq (cF c0 (.tuple ⟨[]⟩)) (ez:=λw hw cM ay=>by rw[Ly];exact YW.any (xa:=h0 [I b.1,I b.2.1,I b.2.2.1,I b.2.2.2.1,I b.2.2.2.2.1,I b.2.2.2.2.2] 0) (av:=h0 [xa 0,xa 1,xa 2,xa 3,xa 4,xa 5,xa 6,.slice di fc dj,av 0,av 1,av 2,I most,aO c1 bI cW,xc 0,xc 1,xc 2,xc 3] 0) _ ay (cE b p) aj) (rest:= ?_);intro fN _ bP ch w ae;replace bP:=bP.yc;letI:=bE ae;refine cm (cn c5) dh [] (U dB (U (b1 73 19 1) (U (b1 28 0 7) (U (b1 26 6 1) (U (cu 6 3 bP) (U (f' ((bP.arr 1 rfl).arr j2) iD jO) (U (im 0 ((bP.arr 1 rfl).arr j2) (f_ (cE b p)) kz) (U (b1 30 14 1) (U (cu 14 3 bP) (U (f' ((bP.arr 2 rfl).arr h9) kA rk) (U (im 0 ((bP.arr 2 rfl).arr h9) (f_ (cE b p)) vy) aB))))))))))) aC ?_ ae;refine vC (enc:=oL) (xs:=[(cE b p,(yn.getD (cE b p) default),(known.getD (cE b p) default))]) (q:=41) (bC:=λfh=>(a6 bI c1 cW b_ b3 ca known di fc dj aJ b xa av most xc eC cell dg p yn fh)) np rW rfl aL aL J J (h3 rfl) k2 (λ_ _=>b7) lV (λ_=>rfl) ?_;intro hr g1 qz sk Cz lU iL;have dK:=bP.new (tD qz Cz lU iL);letI:=bE ae;obtain⟨oy,s'⟩:=ey (bI++[(cE b p,(yn.getD (cE b p) default),(known.getD (cE b p) default))]);refine e5 (Y:=fa) (bC:=λaF=>(a6 bI c1 cW b_ b3 ca known di fc dj aJ b xa av most xc eC cell dg p yn g1 oy aF.1 aF.2)) dK [0,6,3] (λaF=>[oN _ _ _ aF.1 oy aF.2,_,cb _ _ [_,_,_,_,_,_,_,_,_,_,_,_,_,_,_,_,_,_,_,aO aF.1 oy aF.2,_,_,_,_]]) (λ_=>[]) jS pg (cF fS (.tuple ⟨[]⟩)) (ez:=λw hw cM ay=>by rw[s'];exact PG.any (x:=[(cE b p,(yn.getD (cE b p) default),(known.getD (cE b p) default))]) (xa:=h0 [I b.1,I b.2.1,I b.2.2.1,I b.2.2.2.1,I b.2.2.2.2.1,I b.2.2.2.2.2,.slice b_ b3 ca,xa 0,xa 1,xa 2,xa 3,xa 4,xa 5,xa 6,.slice di fc dj,av 0,av 1,av 2,I most,aO c1 bI cW,xc 0,xc 1,xc 2,xc 3] 0) (av:=h0 [I b.1,I b.2.1,I b.2.2.1,I b.2.2.2.1,I b.2.2.2.2.1,I b.2.2.2.2.2,.slice b_ b3 ca,xa 0,xa 1,xa 2,xa 3,xa 4,xa 5,xa 6,.slice di fc dj,av 0,av 1,av 2,I most,aO c1 bI cW,xc 0,xc 1,xc 2,xc 3] 20) _ ay (by simp only [List.length_cons,List.length_nil];omega)) (rest:= ?_);intro fU ⟨jU,jV⟩ dE ch w ae;replace dE:=dE.KT;letI:=bE ae;refine cm (cn ht) [] [] aB aC ?_ ae;exact b2 nt λw2 bk=>(by (obtain⟨q1,aI,bS⟩:=YS (x:=(cE b p,cell,known.getD (cE b p) default)) (l:=cells) (v:=cell) aY aY;rw[q1,aI,bS];rw[Ly,YV aj] at s';subst Ly s';exact⟨(_,_),rfl,((dE.pick [0,1,2,3,4,5] rfl).done bk)⟩))
 ·refine br eS nW (U dB (U (b1 28 0 7) (U (b1 25 0 6) (U (j_ 0 6 3 a_) aB)))) (cv (Hd J J J J ai bd) aC) ?_ ae
  exact b2 ot λw2 bk=>(by (obtain⟨q1,aI,bS⟩:=YU (x:=(cE b p,cell,known.getD (cE b p) default)) (l:=cells) (v:=cell) (most:=most) (reqs:=bI) aY;rw[q1,aI,bS];exact⟨(_,_),rfl,((a_.pick [0,1,2,3,4,5] rfl).done bk)⟩))
end YY
namespace YZ
noncomputable def body:Code:=(Tryd.f43.body).getD .skip
def N:Nat:=55
noncomputable abbrev b9:=fu Tryd.prog Tryd.f43
def aZ:c6:={sl:=bm [(2,.func (.func 45) ⟨[]⟩ ⟨[4,5]⟩),(1,.agg ⟨[1,2,3]⟩),(0,0)],ms:=[],A:=start}
def bz:aU:=[(.dt 0,0),
 (.bQ 80 0 0,0),
 (.bQ 28 0 0,0),
 (.bh 25 0,.agg ⟨[9,10,11,12,13,14]⟩),
 (.bin .lss 3 31 (I 0),.bool false),
 (.bQ 80 0 7,32),
 (.bQ 73 32 0,32),
 (.bh 71 32,6),
 (.len #[71] 3 6,33),
 (.bQ 80 0 6,34),
 (.bh 3 34,25),
 (.bin .geq 3 33 25,.bool true)]
def h2:dm:=[(55,[.agg ⟨[9,10,11,12,13,14]⟩,.agg ⟨[1,2,3]⟩],31)]
theorem b4:b9 (at' 55 bz h2 body aZ)=some (I 16):=ag
def cp:aU:=[(.dt 0,0),
 (.bQ 80 0 0,0),
 (.bQ 28 0 0,0),
 (.bh 25 0,.agg ⟨[9,10,11,12,13,14]⟩),
 (.bin .lss 3 31 (I 0),.bool false),
 (.bQ 80 0 7,32),
 (.bQ 73 32 0,32),
 (.bh 71 32,6),
 (.len #[71] 3 6,33),
 (.bQ 80 0 6,34),
 (.bh 3 34,25),
 (.bin .geq 3 33 25,.bool false)]
def hR:dm:=[(55,[.agg ⟨[9,10,11,12,13,14]⟩,.agg ⟨[1,2,3]⟩],31)]
theorem bs:eW (at' 55 cp hR body aZ)=some (45,[31,4,5]):=ag
abbrev eT:=at' 55 cp hR body aZ
def cY:List bG:=[]
def c8:ax:=bm [(7,31),(6,I 0),(0,0)]
def c0:ax:=dS 55 c8 32 (.tuple ⟨[]⟩)
theorem hq:bF (hQ Tryd.prog eT) c8 cY=some [(0,0),(31,31)]:=ag
def c5:ct:=(body,[1,1,1,0],3)
def dh:aU:=[(.dt 0,0),
 (.bQ 80 0 7,32),
 (.bQ 80 0 0,0),
 (.bQ 28 0 1,35),
 (.bh 26 35,7),
 (.cV 26 7 31,36),
 (.bh 3 36,37),
 (.bQ 80 0 2,38),
 (.bh 30 38,8),
 (.cV 30 8 31,39),
 (.bh 4 39,40)]
abbrev h':=bD 55 dh [] c5 {sl:=c0,ms:=[],A:=cS cY}
def fm:List bG:=[]
def fT:ax:=bm [(35,32),(6,I 0)]
def eO:ax:=(cK.set 41 depth fT 53).getD .nil
theorem np:tC h' 0 53=some ([31,37,40],1,1):=ag
theorem k2:bF (b0 h') fT fm=some [(32,32)]:=ag
theorem lV:cK.set 41 depth fT 53=some eO:=ag
theorem jS:eW ((lE (aN eO fm) h'))=some (69,[32,41]):=ag
abbrev lr:=(lE {sl:=eO,ms:=[],A:=cS fm} h')
def hF:List bG:=[]
def iG:ax:=bm [(6,I 0)]
def fS:ax:=dS 55 iG 54 (.tuple ⟨[]⟩)
theorem pg:bF (hQ Tryd.prog lr) iG hF=some []:=ag
def ht:ct:=(body,[1,1,1,1,0],22)
theorem nt:b9 (bD 55 [] [] ht (aN fS hF))=some (I 0):=ag
def eS:aU:=[(.dt 0,0),
 (.bQ 80 0 0,0),
 (.bQ 28 0 0,0),
 (.bh 25 0,.agg ⟨[9,10,11,12,13,14]⟩)]
def nW:dm:=[(55,[.agg ⟨[9,10,11,12,13,14]⟩,.agg ⟨[1,2,3]⟩],I (-1))]
theorem ot:b9 (at' 55 eS nW body aZ)=some (I 1):=ag
@[reducible] noncomputable def a6 (bI:List gJ) (c1:bH) (cW:Nat) (cells:List Int) (b_:bH) (b3 ca:Nat) (di:bH) (fc dj aJ:Nat) (b:cx) (xa:Nat->ad) (av:Nat->ad) (most:Int) (xc:Nat->ad) (eC:Nat) (hM:Bool) (dg:Nat) (p:gK) (yo:List Bool:=[]) (g1:Nat:=0) (oy:List gJ:=[]) (jU:bH:=none) (jV:Nat:=0):List ad:=[bj aJ 0,I p.1,I p.2.1,I p.2.2,bj eC 0,bj dg 0,aO c1 bI cW,.slice b_ b3 ca,.slice di fc dj,I b.1,I b.2.1,I b.2.2.1,I b.2.2.2.1,I b.2.2.2.2.1,I b.2.2.2.2.2,xa 0,xa 1,xa 2,xa 3,xa 4,xa 5,xa 6,av 0,av 1,av 2,I most,xc 0,xc 1,xc 2,xc 3,.bool hM,I ((cE b p:Nat):Int),bj aJ 19,I ((bI.length:Nat):Int),bj aJ 18,bj aJ 6,fM (.slice b_ b3 ca) (cE b p*1),I (cells.getD (cE b p) default),bj aJ 14,fM (.slice di fc dj) (cE b p*1),.bool (yo.getD (cE b p) default),.slice (some ⟨g1,0,none⟩) 1 1,aO jU oy jV]
theorem any (W:aG) {bI:List gJ} {c1:bH} {cW:Nat} {cells:List Int} {b_:bH} {b3 ca:Nat} {known:List Bool} {di:bH} {fc dj aJ:Nat} {b:cx} {xa:Nat->ad} {av:Nat->ad} {most:Int} {xc:Nat->ad} {eC:Nat} {hM:Bool} {dg:Nat} (gm:dO (a7 W) [qh c1 bI cW,j4 b_ b3 ca cells,h1 di fc dj known,cb aJ 80 [I b.1,I b.2.1,I b.2.2.1,I b.2.2.2.1,I b.2.2.2.2.1,I b.2.2.2.2.2,.slice b_ b3 ca,xa 0,xa 1,xa 2,xa 3,xa 4,xa 5,xa 6,.slice di fc dj,av 0,av 1,av 2,I most,aO c1 bI cW,xc 0,xc 1,xc 2,xc 3],cb eC 4 [.bool hM],cb dg 34 [bj aJ 0]]) (p:gK) (ai:okB b) (az:cells.length=(gj b).toNat) (ao:known.length=cells.length) (ar:bI.length<=400000):Calls Tryd.prog 43 #[bj aJ 0,P.val p,.func (.func 45) #[] #[bj eC 0,bj dg 0]] W λe w'=>(∃y:bH×Nat,e= .returned (I (l4 b most p bI))/\dw (a7 W) [qh c1 bI cW,j4 b_ b3 ca cells,h1 di fc dj known,cb aJ 80 [I b.1,I b.2.1,I b.2.2.1,I b.2.2.2.1,I b.2.2.2.2.1,I b.2.2.2.2.2,.slice b_ b3 ca,xa 0,xa 1,xa 2,xa 3,xa 4,xa 5,xa 6,.slice di fc dj,av 0,av 1,av 2,I most,aO c1 bI cW,xc 0,xc 1,xc 2,xc 3],cb eC 4 [.bool hM],cb dg 34 [bj aJ 0]] (a7 w') [kd qI 3 oL (.slice y.1 (n0 b most p bI (cE b p,cells.getD (cE b p) default,hM)).length y.2) (n0 b most p bI (cE b p,cells.getD (cE b p) default,hM)),j4 b_ b3 ca cells,fY mT 1 iw (.slice di fc dj) (qQ b most p bI known hM),cb aJ lF (List.set [I b.1,I b.2.1,I b.2.2.1,I b.2.2.2.1,I b.2.2.2.2.1,I b.2.2.2.2.2,.slice b_ b3 ca,xa 0,xa 1,xa 2,xa 3,xa 4,xa 5,xa 6,.slice di fc dj,av 0,av 1,av 2,I most,aO c1 bI cW,xc 0,xc 1,xc 2,xc 3] 19 (.slice y.1 (n0 b most p bI (cE b p,cells.getD (cE b p) default,hM)).length y.2)),cb eC 4 [.bool hM],cb dg x8 [bj aJ 0]])/\cO 0 W w':=by
 refine lg (a6 bI c1 cW cells b_ b3 ca di fc dj aJ b xa av most xc eC hM dg p) body aZ N [al 0,.agg ⟨[al 1,al 2,al 3]⟩,.func (.func 45) ⟨[]⟩ ⟨[al 4,al 5]⟩] Tryd.func43 λa ae=> ?_
 letI:=bE ae;have a_:=cC.start W _ gm;have gH:fz p b->cE b p<cells.length:=λh=>az▸Rm h
 by_cases bd:fz p b
 ·replace gH:=gH bd
  by_cases af:most<=((bI.length:Nat):Int)
  ·refine br bz h2 (U dB (U (b1 28 0 7) (U (b1 25 0 6) (U (j_ 0 6 3 a_) (U a' (U (b1 73 19 1) (U (b1 71 0 1) (U (cu 19 3 a_) (U (e4 ((a_.j8 0 rfl).arr rW) wY) (U (b1 3 18 1) (U (cu 18 3 a_) (U bf aB)))))))))))) (cv (ye J J J J ai bd) aC) ?_ ae
   exact b2 b4 λw2 bk=>(by (obtain⟨q1,aI,bS⟩:=YT (x:=(cE b p,cells.getD (cE b p) default,hM)) (l:=known) (v:=hM) aY aY;rw[q1,aI,bS];exact⟨(_,_),rfl,((a_.pick [0,1,2,3,4,5] rfl).done bk)⟩))
  ·refine br cp hR (U dB (U (b1 28 0 7) (U (b1 25 0 6) (U (j_ 0 6 3 a_) (U a' (U (b1 73 19 1) (U (b1 71 0 1) (U (cu 19 3 a_) (U (e4 ((a_.j8 0 rfl).arr rW) wY) (U (b1 3 18 1) (U (cu 18 3 a_) (U a' aB)))))))))))) (cv (ye J J J J ai bd) aC) ?_ ae
   obtain⟨yo,Lz⟩:=ey (known.set (cE b p) hM);have Rn:yo.length=known.length:=by rw[Lz,List.length_set]
   refine e5 (Y:=Unit) (bC:=λaF=>(a6 bI c1 cW cells b_ b3 ca di fc dj aJ b xa av most xc eC hM dg p yo)) a_ [2,3,4,5] (λ_=>[qL _ _ _ di fc dj yo,_,_,_]) (λ_=>[]) bs hq (cF c0 (.tuple ⟨[]⟩)) (ez:=λw hw cM ay=>by rw[Lz];exact YX.any (xa:=h0 [I b.1,I b.2.1,I b.2.2.1,I b.2.2.2.1,I b.2.2.2.2.1,I b.2.2.2.2.2,.slice b_ b3 ca,xa 0,xa 1,xa 2,xa 3,xa 4,xa 5,xa 6] 0) (av:=h0 [av 0,av 1,av 2,I most,aO c1 bI cW,xc 0,xc 1,xc 2,xc 3] 0) _ ay (cE b p) aj) (rest:= ?_);intro fN _ bP ch w ae;replace bP:=bP.yc;letI:=bE ae;refine cm (cn c5) dh [] (U dB (U (b1 73 19 1) (U (b1 28 0 7) (U (b1 26 6 1) (U (cu 6 3 bP) (U (f' ((bP.arr 1 rfl).arr j2) iD jO) (U (im 0 ((bP.arr 1 rfl).arr j2) (f_ (cE b p)) kz) (U (b1 30 14 1) (U (cu 14 3 bP) (U (f' ((bP.arr 2 rfl).arr h9) kA rk) (U (im 0 ((bP.arr 2 rfl).arr h9) (f_ (cE b p)) vy) aB))))))))))) aC ?_ ae;refine vC (enc:=oL) (xs:=[(cE b p,(cells.getD (cE b p) default),(yo.getD (cE b p) default))]) (q:=41) (bC:=λfh=>(a6 bI c1 cW cells b_ b3 ca di fc dj aJ b xa av most xc eC hM dg p yo fh)) np rW rfl aL aL J J (h3 rfl) k2 (λ_ _=>b7) lV (λ_=>rfl) ?_;intro hr g1 qz sk Cz lU iL;have dK:=bP.new (tD qz Cz lU iL);letI:=bE ae;obtain⟨oy,s'⟩:=ey (bI++[(cE b p,(cells.getD (cE b p) default),(yo.getD (cE b p) default))]);refine e5 (Y:=fa) (bC:=λaF=>(a6 bI c1 cW cells b_ b3 ca di fc dj aJ b xa av most xc eC hM dg p yo g1 oy aF.1 aF.2)) dK [0,6,3] (λaF=>[oN _ _ _ aF.1 oy aF.2,_,cb _ _ [_,_,_,_,_,_,_,_,_,_,_,_,_,_,_,_,_,_,_,aO aF.1 oy aF.2,_,_,_,_]]) (λ_=>[]) jS pg (cF fS (.tuple ⟨[]⟩)) (ez:=λw hw cM ay=>by rw[s'];exact PG.any (x:=[(cE b p,(cells.getD (cE b p) default),(yo.getD (cE b p) default))]) (xa:=h0 [I b.1,I b.2.1,I b.2.2.1,I b.2.2.2.1,I b.2.2.2.2.1,I b.2.2.2.2.2,.slice b_ b3 ca,xa 0,xa 1,xa 2,xa 3,xa 4,xa 5,xa 6,.slice di fc dj,av 0,av 1,av 2,I most,aO c1 bI cW,xc 0,xc 1,xc 2,xc 3] 0) (av:=h0 [I b.1,I b.2.1,I b.2.2.1,I b.2.2.2.1,I b.2.2.2.2.1,I b.2.2.2.2.2,.slice b_ b3 ca,xa 0,xa 1,xa 2,xa 3,xa 4,xa 5,xa 6,.slice di fc dj,av 0,av 1,av 2,I most,aO c1 bI cW,xc 0,xc 1,xc 2,xc 3] 20) _ ay (by simp only [List.length_cons,List.length_nil];omega)) (rest:= ?_);intro fU ⟨jU,jV⟩ dE ch w ae;replace dE:=dE.KT;letI:=bE ae;refine cm (cn ht) [] [] aB aC ?_ ae;exact b2 nt λw2 bk=>(by (obtain⟨q1,aI,bS⟩:=YS (x:=(cE b p,cells.getD (cE b p) default,hM)) (l:=known) (v:=hM) aY aY;rw[q1,aI,bS];rw[Lz,YV aj] at s';subst Lz s';exact⟨(_,_),rfl,((dE.pick [0,1,2,3,4,5] rfl).done bk)⟩))
 ·refine br eS nW (U dB (U (b1 28 0 7) (U (b1 25 0 6) (U (j_ 0 6 3 a_) aB)))) (cv (Hd J J J J ai bd) aC) ?_ ae
  exact b2 ot λw2 bk=>(by (obtain⟨q1,aI,bS⟩:=YU (x:=(cE b p,cells.getD (cE b p) default,hM)) (l:=known) (v:=hM) (most:=most) (reqs:=bI) aY;rw[q1,aI,bS];exact⟨(_,_),rfl,((a_.pick [0,1,2,3,4,5] rfl).done bk)⟩))
end YZ
end a1
namespace a1
def zJ (c:Int):Prop:=0<=c/\c<256
instance (c:Int):Decidable (zJ c):=by unfold zJ;infer_instance
def pV (b:cx) (most:Int) (p:gK) (reqs:List gJ) (c:Int):Int:=if zJ c then l4 b most p reqs else 1
def zK (b:cx) (most:Int) (p:gK) (reqs:List gJ) (c:Int) (x:gJ):List gJ:=if zJ c then n0 b most p reqs x else reqs
def CZ {α:Type} (b:cx) (most:Int) (p:gK) (reqs:List gJ) (c:Int) (l:List α) (v:α):List α:=if zJ c then qQ b most p reqs l v else l
variable {α:Type} {b:cx} {most:Int} {p:gK} {reqs:List gJ} {x:gJ} {l:List α} {v:α} {c:Int}
theorem Ro (h:0<=c) (ah:c<256):pV b most p reqs c=l4 b most p reqs/\zK b most p reqs c x=n0 b most p reqs x/\CZ b most p reqs c l v=qQ b most p reqs l v:=⟨aP ⟨h,ah⟩,aP ⟨h,ah⟩,aP ⟨h,ah⟩⟩
theorem Rp (h:c<0\/256<=c):pV b most p reqs c=1/\zK b most p reqs c x=reqs/\CZ b most p reqs c l v=l:=by
 have aT:¬zJ c:=by unfold zJ;omega
 exact⟨aV aT,aV aT,aV aT⟩
end a1
namespace a1
namespace Y0
noncomputable def body:Code:=(Tryd.f18.body).getD .skip
def N:Nat:=17
noncomputable abbrev b9:=fu Tryd.prog Tryd.f18
def aZ:c6:={sl:=bm [(2,4),(1,.agg ⟨[1,2,3]⟩),(0,0)],ms:=[],A:=start}
def bz:aU:=[(.cz (I 34),I 34),
 (.cz (I 3),I 3)]
theorem b4:uC (at' 17 bz [] body aZ)=some (34,0):=ag
abbrev eT:=at' 17 bz [] body aZ
def cY:List bG:=[]
def c8:ax:=bm [(2,4),(1,.agg ⟨[1,2,3]⟩)]
def c0:ax:=dS 17 c8 3 29
theorem bs:bF (b0 eT) c8 cY=some [(1,1),(2,2),(3,3),(4,4)]:=ag
def c5:ct:=(body,[0],1)
theorem gy:uC (bD 17 bz [] c5 (aN c0 cY))=some (3,4):=ag
abbrev h':=bD 17 bz [] c5 {sl:=c0,ms:=[],A:=cS cY}
def fm:List bG:=[⟨.cells [1,2,3],23,0⟩]
def fT:ax:=bm [(4,bj 0 0),(3,29)]
def eO:ax:=dS 17 fT 5 30
theorem iC:bF (b0 h') fT fm=some [(29,29),(1,1),(2,2),(3,3)]:=ag
def ga:ct:=(body,[0],3)
def cp:aU:=[(.cz (I 34),I 34),
 (.cz (I 3),I 3),
 (.bh 3 30,4),
 (.bin .lss 3 4 (I 0),.bool true)]
theorem jS:b9 (bD 17 cp [] ga (aN eO fm))=some (I 1):=ag
def dh:aU:=[(.cz (I 34),I 34),
 (.cz (I 3),I 3),
 (.bh 3 30,4),
 (.bin .lss 3 4 (I 0),.bool false),
 (.bin .geq 3 4 (I 256),.bool true)]
theorem pb:b9 (bD 17 dh [] ga (aN eO fm))=some (I 1):=ag
def d':aU:=[(.cz (I 34),I 34),
 (.cz (I 3),I 3),
 (.bh 3 30,4),
 (.bin .lss 3 4 (I 0),.bool false),
 (.bin .geq 3 4 (I 256),.bool false),
 (.bh 34 29,0)]
theorem xg:eW (bD 17 d' [] ga (aN eO fm))=some (43,[0,.agg ⟨[1,2,3]⟩,.func (.func 44) ⟨[]⟩ ⟨[30,29]⟩]):=ag
abbrev lr:=bD 17 d' [] ga {sl:=eO,ms:=[],A:=cS fm}
def hF:List bG:=[]
def iG:ax:=bm [(6,I 0)]
def fS:ax:=dS 17 iG 16 32
theorem ru:bF (b0 lr) iG hF=some []:=ag
def ht:ct:=(body,[1,1,0],4)
theorem uU:b9 (bD 17 bz [] ht (aN fS hF))=some 32:=ag
@[reducible] noncomputable def a6 (bI:List gJ) (c1:bH) (cW:Nat) (b_:bH) (b3 ca:Nat) (di:bH) (fc dj aJ:Nat) (b:cx) (xa:Nat->ad) (av:Nat->ad) (most:Int) (xc:Nat->ad) (p:gK) (cell:Int) (cJ:Nat:=0) (g1:Nat:=0) (oy:List gJ:=[]) (jU:bH:=none) (jV:Nat:=0):List ad:=[bj aJ 0,I p.1,I p.2.1,I p.2.2,I cell,aO c1 bI cW,.slice b_ b3 ca,.slice di fc dj,I b.1,I b.2.1,I b.2.2.1,I b.2.2.2.1,I b.2.2.2.2.1,I b.2.2.2.2.2,xa 0,xa 1,xa 2,xa 3,xa 4,xa 5,xa 6,av 0,av 1,av 2,I most,xc 0,xc 1,xc 2,xc 3,bj cJ 0,bj g1 0,aO jU oy jV,I (l4 b most p bI)]
theorem any (W:aG) {bI:List gJ} {c1:bH} {cW:Nat} {cells:List Int} {b_:bH} {b3 ca:Nat} {known:List Bool} {di:bH} {fc dj aJ:Nat} {b:cx} {xa:Nat->ad} {av:Nat->ad} {most:Int} {xc:Nat->ad} (gm:dO (a7 W) [qh c1 bI cW,j4 b_ b3 ca cells,h1 di fc dj known,cb aJ 80 [I b.1,I b.2.1,I b.2.2.1,I b.2.2.2.1,I b.2.2.2.2.1,I b.2.2.2.2.2,.slice b_ b3 ca,xa 0,xa 1,xa 2,xa 3,xa 4,xa 5,xa 6,.slice di fc dj,av 0,av 1,av 2,I most,aO c1 bI cW,xc 0,xc 1,xc 2,xc 3]]) (p:gK) (cell:Int) (ai:okB b) (az:cells.length=(gj b).toNat) (ao:known.length=cells.length) (ar:bI.length<=400000):Calls Tryd.prog 18 #[bj aJ 0,P.val p,I cell] W λe w'=>(∃y:bH×Nat,e= .returned (I (pV b most p bI cell))/\dw (a7 W) [qh c1 bI cW,j4 b_ b3 ca cells,h1 di fc dj known,cb aJ 80 [I b.1,I b.2.1,I b.2.2.1,I b.2.2.2.1,I b.2.2.2.2.1,I b.2.2.2.2.2,.slice b_ b3 ca,xa 0,xa 1,xa 2,xa 3,xa 4,xa 5,xa 6,.slice di fc dj,av 0,av 1,av 2,I most,aO c1 bI cW,xc 0,xc 1,xc 2,xc 3]] (a7 w') [kd qI 3 oL (.slice y.1 (zK b most p bI cell (cE b p,cell,known.aD (cE b p))).length y.2) (zK b most p bI cell (cE b p,cell,known.aD (cE b p))),fY lD 1 gq (.slice b_ b3 ca) (CZ b most p bI cell cells cell),h1 di fc dj known,cb aJ lF (List.set [I b.1,I b.2.1,I b.2.2.1,I b.2.2.2.1,I b.2.2.2.2.1,I b.2.2.2.2.2,.slice b_ b3 ca,xa 0,xa 1,xa 2,xa 3,xa 4,xa 5,xa 6,.slice di fc dj,av 0,av 1,av 2,I most,aO c1 bI cW,xc 0,xc 1,xc 2,xc 3] 19 (.slice y.1 (zK b most p bI cell (cE b p,cell,known.aD (cE b p))).length y.2))])/\cO 0 W w':=by
 refine lg (a6 bI c1 cW b_ b3 ca di fc dj aJ b xa av most xc p cell) body aZ N [al 0,.agg ⟨[al 1,al 2,al 3]⟩,al 4] Tryd.func18 λa ae=> ?_
 letI:=bE ae;have a_:=cC.start W _ gm;refine br bz [] (U (cd _) (U (cd _) aB)) aC ?_ ae;refine wT (u:=bj aJ 0) (cs:=[bj aJ 0]) (bC:=λfh=>(a6 bI c1 cW b_ b3 ca di fc dj aJ b xa av most xc p cell fh)) b4 J J J bs (cF c0 29) rfl (λ_ fh=>b7) (λ_ _=>rfl) ?_;intro fN cJ hh k3 gb ch w ae;have bP:=a_.new (rb k3 hh gb);replace bP:=bP.qj;letI:=bE ae;refine cm (cn c5) bz [] (U (cd _) (U (cd _) aB)) aC ?_ ae;refine wT (u:=I cell) (cs:=[I cell]) (bC:=λfh=>(a6 bI c1 cW b_ b3 ca di fc dj aJ b xa av most xc p cell cJ fh)) gy J J J iC (cF eO 30) rfl (λ_ fh=>b7) (λ_ _=>rfl) ?_;intro hr g1 iL rf lU ch w ae;have dK:=bP.new (rb rf iL lU);replace dK:=dK.yc;letI:=bE ae;by_cases ea:cell<0
 ·refine cm (cn ga) cp [] (U (cd _) (U (cd _) (U (cu 0 5 dK) (U bf aB)))) aC ?_ ae
  exact b2 jS λw2 bk=>(by first|(obtain⟨q1,aI,bS⟩:=Rp (x:=(cE b p,cell,known.aD (cE b p))) (l:=cells) (v:=cell) (b:=b) (most:=most) (p:=p) (reqs:=bI) (c:=cell) aj;rw[q1,aI,bS];exact⟨(_,_),rfl,((dK.pick [0,1,2,3] rfl).done bk)⟩)|(obtain⟨q1,aI,bS⟩:=Ro (x:=(cE b p,cell,known.aD (cE b p))) (l:=cells) (v:=cell) (b:=b) (most:=most) (p:=p) (reqs:=bI) (c:=cell) aj aj;rw[q1,aI,bS];subst s' LA;exact⟨(_,_),rfl,((dK.pick [0,1,2,3] rfl).done bk)⟩))
 ·by_cases q1:256<=cell
  ·refine cm (cn ga) dh [] (U (cd _) (U (cd _) (U (cu 0 5 dK) (U a' (U bf aB))))) aC ?_ ae
   exact b2 pb λw2 bk=>(by first|(obtain⟨q1,aI,bS⟩:=Rp (x:=(cE b p,cell,known.aD (cE b p))) (l:=cells) (v:=cell) (b:=b) (most:=most) (p:=p) (reqs:=bI) (c:=cell) aj;rw[q1,aI,bS];exact⟨(_,_),rfl,((dK.pick [0,1,2,3] rfl).done bk)⟩)|(obtain⟨q1,aI,bS⟩:=Ro (x:=(cE b p,cell,known.aD (cE b p))) (l:=cells) (v:=cell) (b:=b) (most:=most) (p:=p) (reqs:=bI) (c:=cell) aj aj;rw[q1,aI,bS];subst s' LA;exact⟨(_,_),rfl,((dK.pick [0,1,2,3] rfl).done bk)⟩))
  ·refine cm (cn ga) d' [] (U (cd _) (U (cd _) (U (cu 0 5 dK) (U a' (U a' (U (cu 0 4 dK) aB)))))) aC ?_ ae
   obtain⟨oy,s'⟩:=ey (n0 b most p bI (cE b p,cell,known.aD (cE b p)));obtain⟨ah',LA⟩:=ey (qQ b most p bI cells cell);refine e5 (Y:=fa) (bC:=λaF=>(a6 bI c1 cW b_ b3 ca di fc dj aJ b xa av most xc p cell cJ g1 oy aF.1 aF.2)) dK [0,1,2,3,5,4] (λaF=>[oN _ _ _ aF.1 oy aF.2,qL _ _ _ b_ b3 ca ah',_,cb _ _ [_,_,_,_,_,_,_,_,_,_,_,_,_,_,_,_,_,_,_,aO aF.1 oy aF.2,_,_,_,_],_,_]) (λ_=>[]) xg ru (cF fS 32) (ez:=λw hw cM ay=>by rw[s',LA];exact YY.any (xa:=xa) (av:=av) (xc:=xc) _ ay p ai az ao ar) (rest:= ?_);intro fU ⟨jU,jV⟩ dE ch w ae;replace dE:=dE.yc;letI:=bE ae;refine cm (cn ht) bz [] (U (cd _) (U (cd _) aB)) aC ?_ ae;exact b2 uU λw2 bk=>(by first|(obtain⟨q1,aI,bS⟩:=Rp (x:=(cE b p,cell,known.aD (cE b p))) (l:=cells) (v:=cell) (b:=b) (most:=most) (p:=p) (reqs:=bI) (c:=cell) aj;rw[q1,aI,bS];exact⟨(_,_),rfl,((dE.pick [0,1,2,3] rfl).done bk)⟩)|(obtain⟨q1,aI,bS⟩:=Ro (x:=(cE b p,cell,known.aD (cE b p))) (l:=cells) (v:=cell) (b:=b) (most:=most) (p:=p) (reqs:=bI) (c:=cell) aj aj;rw[q1,aI,bS];subst s' LA;exact⟨(_,_),rfl,((dE.pick [0,1,2,3] rfl).done bk)⟩))
end Y0
namespace Y1
noncomputable def body:Code:=(Tryd.f19.body).getD .skip
def N:Nat:=11
def aZ:c6:={sl:=bm [(2,4),(1,.agg ⟨[1,2,3]⟩),(0,0)],ms:=[],A:=start}
def bz:aU:=[(.cz (I 34),I 34),
 (.cz (I 4),I 4)]
theorem b4:uC (at' 11 bz [] body aZ)=some (34,0):=ag
abbrev eT:=at' 11 bz [] body aZ
def cY:List bG:=[]
def c8:ax:=bm [(2,4),(1,.agg ⟨[1,2,3]⟩)]
def c0:ax:=dS 11 c8 3 29
theorem bs:bF (b0 eT) c8 cY=some [(1,1),(2,2),(3,3),(4,4)]:=ag
def c5:ct:=(body,[0],1)
theorem gy:uC (bD 11 bz [] c5 (aN c0 cY))=some (4,4):=ag
abbrev h':=bD 11 bz [] c5 {sl:=c0,ms:=[],A:=cS cY}
def fm:List bG:=[⟨.cells [1,2,3],23,0⟩]
def fT:ax:=bm [(4,bj 0 0),(3,29)]
def eO:ax:=dS 11 fT 5 30
theorem iC:bF (b0 h') fT fm=some [(29,29),(1,1),(2,2),(3,3)]:=ag
def ga:ct:=(body,[0],3)
def cp:aU:=[(.cz (I 34),I 34),
 (.cz (I 4),I 4),
 (.bh 34 29,0)]
theorem jS:eW (bD 11 cp [] ga (aN eO fm))=some (43,[0,.agg ⟨[1,2,3]⟩,.func (.func 45) ⟨[]⟩ ⟨[30,29]⟩]):=ag
abbrev lr:=bD 11 cp [] ga {sl:=eO,ms:=[],A:=cS fm}
def hF:List bG:=[]
def iG:ax:=bm [(6,I 0)]
def fS:ax:=dS 11 iG 10 32
theorem pg:bF (b0 lr) iG hF=some []:=ag
def ht:ct:=(body,[1,0],4)
theorem nt:fu Tryd.prog Tryd.f19 (bD 11 bz [] ht (aN fS hF))=some 32:=ag
@[reducible] noncomputable def a6 (bI:List gJ) (c1:bH) (cW:Nat) (b_:bH) (b3 ca:Nat) (di:bH) (fc dj aJ:Nat) (b:cx) (xa:Nat->ad) (av:Nat->ad) (most:Int) (xc:Nat->ad) (p:gK) (hM:Bool) (cJ:Nat:=0) (g1:Nat:=0) (oy:List gJ:=[]) (jU:bH:=none) (jV:Nat:=0):List ad:=[bj aJ 0,I p.1,I p.2.1,I p.2.2,.bool hM,aO c1 bI cW,.slice b_ b3 ca,.slice di fc dj,I b.1,I b.2.1,I b.2.2.1,I b.2.2.2.1,I b.2.2.2.2.1,I b.2.2.2.2.2,xa 0,xa 1,xa 2,xa 3,xa 4,xa 5,xa 6,av 0,av 1,av 2,I most,xc 0,xc 1,xc 2,xc 3,bj cJ 0,bj g1 0,aO jU oy jV,I (l4 b most p bI)]
theorem any (W:aG) {bI:List gJ} {c1:bH} {cW:Nat} {cells:List Int} {b_:bH} {b3 ca:Nat} {known:List Bool} {di:bH} {fc dj aJ:Nat} {b:cx} {xa:Nat->ad} {av:Nat->ad} {most:Int} {xc:Nat->ad} (gm:dO (a7 W) [qh c1 bI cW,j4 b_ b3 ca cells,h1 di fc dj known,cb aJ 80 [I b.1,I b.2.1,I b.2.2.1,I b.2.2.2.1,I b.2.2.2.2.1,I b.2.2.2.2.2,.slice b_ b3 ca,xa 0,xa 1,xa 2,xa 3,xa 4,xa 5,xa 6,.slice di fc dj,av 0,av 1,av 2,I most,aO c1 bI cW,xc 0,xc 1,xc 2,xc 3]]) (p:gK) (hM:Bool) (ai:okB b) (az:cells.length=(gj b).toNat) (ao:known.length=cells.length) (ar:bI.length<=400000):Calls Tryd.prog 19 #[bj aJ 0,P.val p,.bool hM] W λe w'=>(∃y:bH×Nat,e= .returned (I (l4 b most p bI))/\dw (a7 W) [qh c1 bI cW,j4 b_ b3 ca cells,h1 di fc dj known,cb aJ 80 [I b.1,I b.2.1,I b.2.2.1,I b.2.2.2.1,I b.2.2.2.2.1,I b.2.2.2.2.2,.slice b_ b3 ca,xa 0,xa 1,xa 2,xa 3,xa 4,xa 5,xa 6,.slice di fc dj,av 0,av 1,av 2,I most,aO c1 bI cW,xc 0,xc 1,xc 2,xc 3]] (a7 w') [kd qI 3 oL (.slice y.1 (n0 b most p bI (cE b p,cells.aD (cE b p),hM)).length y.2) (n0 b most p bI (cE b p,cells.aD (cE b p),hM)),j4 b_ b3 ca cells,fY mT 1 iw (.slice di fc dj) (qQ b most p bI known hM),cb aJ lF (List.set [I b.1,I b.2.1,I b.2.2.1,I b.2.2.2.1,I b.2.2.2.2.1,I b.2.2.2.2.2,.slice b_ b3 ca,xa 0,xa 1,xa 2,xa 3,xa 4,xa 5,xa 6,.slice di fc dj,av 0,av 1,av 2,I most,aO c1 bI cW,xc 0,xc 1,xc 2,xc 3] 19 (.slice y.1 (n0 b most p bI (cE b p,cells.aD (cE b p),hM)).length y.2))])/\cO 0 W w':=by
 refine lg (a6 bI c1 cW b_ b3 ca di fc dj aJ b xa av most xc p hM) body aZ N [al 0,.agg ⟨[al 1,al 2,al 3]⟩,al 4] Tryd.func19 λa ae=> ?_
 letI:=bE ae;have a_:=cC.start W _ gm;refine br bz [] (U (cd _) (U (cd _) aB)) aC ?_ ae;refine wT (u:=bj aJ 0) (cs:=[bj aJ 0]) (bC:=λfh=>(a6 bI c1 cW b_ b3 ca di fc dj aJ b xa av most xc p hM fh)) b4 J J J bs (cF c0 29) rfl (λ_ fh=>b7) (λ_ _=>rfl) ?_;intro fN cJ hh k3 gb ch w ae;have bP:=a_.new (rb k3 hh gb);replace bP:=bP.qj;letI:=bE ae;refine cm (cn c5) bz [] (U (cd _) (U (cd _) aB)) aC ?_ ae;refine wT (u:= .bool hM) (cs:=[.bool hM]) (bC:=λfh=>(a6 bI c1 cW b_ b3 ca di fc dj aJ b xa av most xc p hM cJ fh)) gy J J J iC (cF eO 30) rfl (λ_ fh=>b7) (λ_ _=>rfl) ?_;intro hr g1 iL rf lU ch w ae;have dK:=bP.new (rb rf iL lU);replace dK:=dK.yc;letI:=bE ae;refine cm (cn ga) cp [] (U (cd _) (U (cd _) (U (cu 0 4 dK) aB))) aC ?_ ae;obtain⟨oy,s'⟩:=ey (n0 b most p bI (cE b p,cells.aD (cE b p),hM));obtain⟨ah_,Y2⟩:=ey (qQ b most p bI known hM);refine e5 (Y:=fa) (bC:=λaF=>(a6 bI c1 cW b_ b3 ca di fc dj aJ b xa av most xc p hM cJ g1 oy aF.1 aF.2)) dK [0,1,2,3,5,4] (λaF=>[oN _ _ _ aF.1 oy aF.2,_,qL _ _ _ di fc dj ah_,cb _ _ [_,_,_,_,_,_,_,_,_,_,_,_,_,_,_,_,_,_,_,aO aF.1 oy aF.2,_,_,_,_],_,_]) (λ_=>[]) jS pg (cF fS 32) (ez:=λw hw cM ay=>by rw[s',Y2];exact YZ.any (xa:=xa) (av:=av) (xc:=xc) _ ay p ai az ao ar) (rest:= ?_);intro fU ⟨jU,jV⟩ dE ch w ae;replace dE:=dE.yc;letI:=bE ae;refine cm (cn ht) bz [] (U (cd _) (U (cd _) aB)) aC ?_ ae;exact b2 nt λw2 bk=>(by subst s' Y2;exact⟨(_,_),rfl,((dE.pick [0,1,2,3] rfl).done bk)⟩)
end Y1
end a1
namespace a1
namespace Y3
noncomputable def body:Code:=(Tryd.f51.body).getD .skip
def N:Nat:=16
def aZ:c6:={sl:=bm [(1,.func (.func 52) ⟨[]⟩ ⟨[0,1]⟩),(0,.agg ⟨[3,4,5,6,7,8,2]⟩)],ms:=[],A:=start}
theorem b4:eW (at' 16 [] [] body aZ)=some (77,[2]):=ag
abbrev eT:=at' 16 [] [] body aZ
def cY:List bG:=[⟨.cells [3,4,5,6,7,8,2],28,0⟩,⟨.cells [I 0,I 0,I 0,I 0,I 0,I 0,.slice none 0 0],28,0⟩]
def c8:ax:=bm [(4,bj 1 0),(2,bj 0 0),(1,.func (.func 52) ⟨[]⟩ ⟨[0,1]⟩)]
def c0:ax:=dS 16 c8 8 9
theorem dD:bF (hQ Tryd.prog eT) c8 cY=some [(0,0),(1,1),(3,3),(4,4),(5,5),(6,6),(7,7),(8,8),(2,2)]:=ag
def c5:ct:=(body,[1,0],3)
def cp:aU:=[(.bh 28 0,.agg ⟨[3,4,5,6,7,8,2]⟩),
 (.bQ 28 1 0,1),
 (.bh 25 1,.agg ⟨[I 0,I 0,I 0,I 0,I 0,I 0]⟩)]
def hR:dm:=[(78,[.agg ⟨[3,4,5,6,7,8]⟩,.agg ⟨[I 0,I 0,I 0,I 0,I 0,I 0]⟩],.agg ⟨[I 0,I 0,I 0,I 0,I 0,I 0]⟩)]
theorem lA:fu Tryd.prog Tryd.f51 (bD 16 cp hR c5 (aN c0 cY))=some (.agg ⟨[3,4,5,6,7,8,9]⟩):=ag
@[reducible] noncomputable def a6 (b_:bH) (b3 ca r7:Nat) (b:cx) (r8:Nat) (tT:List Int:=[]) (hd:bH:=none) (hf:Nat:=0):List ad:=[bj r7 0,bj r8 0,.slice b_ b3 ca,I b.1,I b.2.1,I b.2.2.1,I b.2.2.2.1,I b.2.2.2.2.1,I b.2.2.2.2.2,aO hd tT hf]
theorem any (W:aG) {cells:List Int} {b_:bH} {b3 ca r7:Nat} {b:cx} {r8:Nat} (gm:dO (a7 W) [j4 b_ b3 ca cells,cb r7 28 [I b.1,I b.2.1,I b.2.2.1,I b.2.2.2.1,I b.2.2.2.2.1,I b.2.2.2.2.2,.slice b_ b3 ca],cb r8 28 [I 0,I 0,I 0,I 0,I 0,I 0,.slice none 0 0]]) (aT:cells.length<=100000):Calls Tryd.prog 51 #[.agg ⟨[I b.1,I b.2.1,I b.2.2.1,I b.2.2.2.1,I b.2.2.2.2.1,I b.2.2.2.2.2,.slice b_ b3 ca]⟩,.func (.func 52) #[] #[bj r7 0,bj r8 0]] W λe w'=>(∃y:bH×Nat,e= .returned (.agg ⟨[I b.1,I b.2.1,I b.2.2.1,I b.2.2.2.1,I b.2.2.2.2.1,I b.2.2.2.2.2,aO y.1 cells y.2]⟩)/\dw (a7 W) [j4 b_ b3 ca cells,cb r7 28 [I b.1,I b.2.1,I b.2.2.1,I b.2.2.2.1,I b.2.2.2.2.1,I b.2.2.2.2.2,.slice b_ b3 ca],cb r8 28 [I 0,I 0,I 0,I 0,I 0,I 0,.slice none 0 0]] (a7 w') [j4 b_ b3 ca cells,cb r7 28 [I b.1,I b.2.1,I b.2.2.1,I b.2.2.2.1,I b.2.2.2.2.1,I b.2.2.2.2.2,.slice b_ b3 ca],cb r8 28 [I 0,I 0,I 0,I 0,I 0,I 0,.slice none 0 0],rp y.1 cells y.2])/\cO 0 W w':=by
 refine lg (a6 b_ b3 ca r7 b r8) body aZ N [.agg ⟨[al 3,al 4,al 5,al 6,al 7,al 8,al 2]⟩,.func (.func 52) ⟨[]⟩ ⟨[al 0,al 1]⟩] Tryd.func51 λa ae=> ?_
 letI:=bE ae;have a_:=cC.start W _ gm;refine br [] [] aB aC ?_ ae;obtain⟨tT,A1⟩:=ey (cells);refine e5 (Y:=fa) (bC:=λaF=>(a6 b_ b3 ca r7 b r8 tT aF.1 aF.2)) a_ [0] (λaF=>[_]) (λaF=>[rp aF.1 tT aF.2]) b4 dD (cF c0 9) (ez:=λw hw cM ay=>by rw[A1];exact KK ay (Q3.any _ ((ay.arr 0 rfl).arr j2) aT)) (rest:= ?_);intro fN ⟨hd,hf⟩ bP ch w ae;replace bP:=bP.vJ;letI:=bE ae;refine cm (cn c5) cp hR (U (j_ 0 7 1 bP) (U (b1 25 0 6) (U (j_ 0 6 2 bP) aB))) (cv (X6 J J J J) aC) ?_ ae;exact b2 lA λw2 bk=>(by subst A1;exact⟨(_,_),rfl,(bP.done bk)⟩)
end Y3
namespace Y4
noncomputable def body:Code:=(Tryd.f31.body).getD .skip
def N:Nat:=8
def aZ:c6:={sl:=bm [(1,.agg ⟨[I 0,I 0,I 0,I 0,I 0,I 0,.slice none 0 0]⟩),(0,.agg ⟨[1,2,3,4,5,6,0]⟩)],ms:=[],A:=start}
def bz:aU:=[(.cz (I 28),I 28)]
theorem b4:uC (at' 8 bz [] body aZ)=some (28,(.agg ⟨[1,2,3,4,5,6,0]⟩)):=ag
abbrev eT:=at' 8 bz [] body aZ
def cY:List bG:=[]
def c8:ax:=bm [(1,.agg ⟨[I 0,I 0,I 0,I 0,I 0,I 0,.slice none 0 0]⟩)]
def c0:ax:=dS 8 c8 2 7
theorem bs:bF (b0 eT) c8 cY=some []:=ag
def c5:ct:=(body,[0],1)
theorem gy:uC (bD 8 bz [] c5 (aN c0 cY))=some (28,(.agg ⟨[I 0,I 0,I 0,I 0,I 0,I 0,.slice none 0 0]⟩)):=ag
abbrev h':=bD 8 bz [] c5 {sl:=c0,ms:=[],A:=cS cY}
def fm:List bG:=[]
def fT:ax:=bm [(2,7)]
def eO:ax:=dS 8 fT 3 8
theorem iC:bF (b0 h') fT fm=some [(7,7)]:=ag
def ga:ct:=(body,[0],2)
theorem jS:Am (bD 8 bz [] ga (aN eO fm))=some 28:=ag
abbrev lr:=bD 8 bz [] ga {sl:=eO,ms:=[],A:=cS fm}
def hF:List bG:=[]
def iG:ax:=bm [(3,8),(2,7)]
def fS:ax:=dS 8 iG 4 9
theorem pb:bF (b0 lr) iG hF=some [(8,8),(7,7)]:=ag
def ht:ct:=(body,[0],3)
def cp:aU:=[(.cz (I 28),I 28),
 (.bh 28 7,.agg ⟨[1,2,3,4,5,6,0]⟩)]
theorem lW:eW (bD 8 cp [] ht (aN fS hF))=some (51,[.agg ⟨[1,2,3,4,5,6,0]⟩,.func (.func 52) ⟨[]⟩ ⟨[7,8]⟩]):=ag
abbrev pc:=bD 8 cp [] ht {sl:=fS,ms:=[],A:=cS hF}
def kC:List bG:=[]
def lH:ax:=bm [(4,9)]
def jt:ax:=dS 8 lH 7 (.agg ⟨[1,2,3,4,5,6,10]⟩)
theorem ot:bF (b0 pc) lH kC=some [(9,9)]:=ag
def k0:ct:=(body,[1,0],3)
theorem pd:hc (bD 8 bz [] k0 (aN jt kC))=some (28,9,(.agg ⟨[1,2,3,4,5,6,10]⟩)):=ag
abbrev oo:=bD 8 bz [] k0 {sl:=jt,ms:=[],A:=cS kC}
def lh:List bG:=[]
def ml:ax:=bm [(4,9)]
def kf:ax:=match e8 8 ml none (.tuple ⟨[]⟩) with|some s=>s|none=> .nil
theorem qm:bF (b0 oo) ml lh=some [(9,9)]:=ag
def nS:ct:=(body,[1,0],4)
theorem pe:endCell Tryd.f31 (bD 8 bz [] nS (aN kf lh))=some (28,9):=ag
@[reducible] noncomputable def a6 (b_:bH) (b3 ca:Nat) (b:cx) (cJ:Nat:=0) (g1:Nat:=0) (g2:Nat:=0) (rA:List Int:=[]) (uZ:bH:=none) (u0:Nat:=0):List ad:=[.slice b_ b3 ca,I b.1,I b.2.1,I b.2.2.1,I b.2.2.2.1,I b.2.2.2.2.1,I b.2.2.2.2.2,bj cJ 0,bj g1 0,bj g2 0,aO uZ rA u0]
theorem any (W:aG) {cells:List Int} {b_:bH} {b3 ca:Nat} (gm:dO (a7 W) [j4 b_ b3 ca cells]) {b:cx} (aT:cells.length<=100000):Calls Tryd.prog 31 #[.agg ⟨[I b.1,I b.2.1,I b.2.2.1,I b.2.2.2.1,I b.2.2.2.2.1,I b.2.2.2.2.2,.slice b_ b3 ca]⟩,.agg ⟨[I 0,I 0,I 0,I 0,I 0,I 0,.slice none 0 0]⟩] W λe w'=>(∃y:bH×Nat,e= .returned (.agg ⟨[I b.1,I b.2.1,I b.2.2.1,I b.2.2.2.1,I b.2.2.2.2.1,I b.2.2.2.2.2,aO y.1 cells y.2]⟩)/\dw (a7 W) [j4 b_ b3 ca cells] (a7 w') [j4 b_ b3 ca cells,rp y.1 cells y.2])/\cO 0 W w':=by
 refine lg (a6 b_ b3 ca b) body aZ N [.agg ⟨[al 1,al 2,al 3,al 4,al 5,al 6,al 0]⟩,.agg ⟨[I 0,I 0,I 0,I 0,I 0,I 0,.slice none 0 0]⟩] Tryd.func31 λa ae=> ?_
 letI:=bE ae;have a_:=cC.start W _ gm;refine br bz [] (U (cd _) aB) aC ?_ ae;refine wT (u:= .agg ⟨[I b.1,I b.2.1,I b.2.2.1,I b.2.2.2.1,I b.2.2.2.2.1,I b.2.2.2.2.2,.slice b_ b3 ca]⟩) (cs:=[I b.1,I b.2.1,I b.2.2.1,I b.2.2.2.1,I b.2.2.2.2.1,I b.2.2.2.2.2,.slice b_ b3 ca]) (bC:=λfh=>(a6 b_ b3 ca b fh)) b4 J J J bs (cF c0 7) rfl (λ_ fh=>yT) (λ_ _=>rfl) ?_;intro fN cJ hh k3 gb ch w ae;have bP:=a_.new (rb k3 hh gb);replace bP:=bP.AN;letI:=bE ae;refine cm (cn c5) bz [] (U (cd _) aB) aC ?_ ae;refine wT (u:= .agg ⟨[I 0,I 0,I 0,I 0,I 0,I 0,.slice none 0 0]⟩) (cs:=[I 0,I 0,I 0,I 0,I 0,I 0,.slice none 0 0]) (bC:=λfh=>(a6 b_ b3 ca b cJ fh)) gy J J J iC (cF eO 8) rfl (λ_ fh=>b7) (λ_ _=>rfl) ?_;intro hr g1 iL rf lU ch w ae;have dK:=bP.new (rb rf iL lU);replace dK:=dK.uK;letI:=bE ae;refine cm (cn ga) bz [] (U (cd _) aB) aC ?_ ae;refine D4 (z:= .agg ⟨[I 0,I 0,I 0,I 0,I 0,I 0,.slice none 0 0]⟩) (bC:=λfh=>(a6 b_ b3 ca b cJ g1 fh)) jS ag pb (cF fS 9) rfl (λ_ fh=>b7) (λ_ _=>rfl) ?_;intro fU g2 sj lk CC uQ ch w ae;have dE:=dK.new (rb (ty:=28) (cs:=[I 0,I 0,I 0,I 0,I 0,I 0,.slice none 0 0]) (je.mk' sj CC) lk uQ);replace dE:=dE.vJ;letI:=bE ae;refine cm (cn ht) cp [] (U (cd _) (U (j_ 0 7 1 dE) aB)) aC ?_ ae;obtain⟨rA,H7⟩:=ey (cells);refine e5 (Y:=fa) (bC:=λaF=>(a6 b_ b3 ca b cJ g1 g2 rA aF.1 aF.2)) dE [0,1,2] (λaF=>[_,_,_]) (λaF=>[rp aF.1 rA aF.2]) lW ot (cF jt (.agg ⟨[1,2,3,4,5,6,10]⟩)) (ez:=λw hw cM ay=>by rw[H7];exact Y3.any _ ay aT) (rest:= ?_);intro vL ⟨uZ,u0⟩ gV ch w ae;replace gV:=gV.qj;letI:=bE ae;refine cm (cn k0) bz [] (U (cd _) aB) aC ?_ ae;refine D6 (g:=g2) (j:=0) (n:=7) (us:=[I b.1,I b.2.1,I b.2.2.1,I b.2.2.2.1,I b.2.2.2.2.1,I b.2.2.2.2.2,aO uZ rA u0]) (cs:=[I 0,I 0,I 0,I 0,I 0,I 0,.slice none 0 0]) (cs':=[I b.1,I b.2.1,I b.2.2.1,I b.2.2.2.1,I b.2.2.2.2.1,I b.2.2.2.2.2,aO uZ rA u0]) (bC:=(a6 b_ b3 ca b cJ g1 g2 rA uZ u0)) rfl pd ag qm (cF kf (.tuple ⟨[]⟩)) J J J J J (kR rfl (kR rfl (kR rfl (kR rfl (kR rfl (kR rfl (kR rfl Cj))))))) (gV.box 3 rfl) (h3 rfl) (λ_=>b7) ?_;intro jy Q5 jh ch w ae;have ek:=gV.gM 3 rfl (lR Q5 jh);replace ek:=ek.qj;letI:=bE ae;refine cm (cn nS) bz [] (U (cd _) aB) aC ?_ ae;exact GH (v:= .agg ⟨[al 1,al 2,al 3,al 4,al 5,al 6,al 10]⟩) (cs:=[I b.1,I b.2.1,I b.2.2.1,I b.2.2.2.1,I b.2.2.2.2.1,I b.2.2.2.2.2,aO uZ rA u0]) pe J J (ek.box 3 rfl) ag (show bZ Tryd.prog (sizeOf 28)=some 7 by kernel_rfl) J J λw2 zu bk=>⟨(by subst H7;exact⟨(_,_),rfl,((ek.pick [0,4] rfl).done bk)⟩),zu⟩
end Y4
namespace Y5
noncomputable def body:Code:=(Tryd.f22.body).getD .skip
def N:Nat:=9
def aZ:c6:={sl:=bm [(0,0)],ms:=[],A:=start}
def bz:aU:=[(.dt 0,0),
 (.bQ 80 0 0,0),
 (.bh 28 0,.agg ⟨[2,3,4,5,6,7,1]⟩)]
theorem b4:eW (at' 9 bz [] body aZ)=some (31,[.agg ⟨[2,3,4,5,6,7,1]⟩,.agg ⟨[I 0,I 0,I 0,I 0,I 0,I 0,.slice none 0 0]⟩]):=ag
abbrev eT:=at' 9 bz [] body aZ
def cY:List bG:=[⟨.cells [I 0,I 0,I 0,I 0,I 0,I 0,.slice none 0 0],28,0⟩]
def c8:ax:=bm [(2,bj 0 0)]
def c0:ax:=dS 9 c8 8 (.agg ⟨[2,3,4,5,6,7,25]⟩)
theorem dD:bF (hQ Tryd.prog eT) c8 cY=some []:=ag
def c5:ct:=(body,[1,0],6)
theorem lA:fu Tryd.prog Tryd.f22 (bD 9 [] [] c5 (aN c0 cY))=some (.agg ⟨[2,3,4,5,6,7,25]⟩):=ag
@[reducible] noncomputable def a6 (b_:bH) (b3 ca aJ:Nat) (b:cx) (xa:Nat->ad) (tT:List Int:=[]) (hd:bH:=none) (hf:Nat:=0):List ad:=[bj aJ 0,.slice b_ b3 ca,I b.1,I b.2.1,I b.2.2.1,I b.2.2.2.1,I b.2.2.2.2.1,I b.2.2.2.2.2,xa 0,xa 1,xa 2,xa 3,xa 4,xa 5,xa 6,xa 7,xa 8,xa 9,xa 10,xa 11,xa 12,xa 13,xa 14,xa 15,xa 16,aO hd tT hf]
theorem any (W:aG) {cells:List Int} {b_:bH} {b3 ca aJ:Nat} {b:cx} {xa:Nat->ad} (gm:dO (a7 W) [j4 b_ b3 ca cells,cb aJ 80 [I b.1,I b.2.1,I b.2.2.1,I b.2.2.2.1,I b.2.2.2.2.1,I b.2.2.2.2.2,.slice b_ b3 ca,xa 0,xa 1,xa 2,xa 3,xa 4,xa 5,xa 6,xa 7,xa 8,xa 9,xa 10,xa 11,xa 12,xa 13,xa 14,xa 15,xa 16]]) (aT:cells.length<=100000):Calls Tryd.prog 22 #[bj aJ 0] W λe w'=>(∃y:bH×Nat,e= .returned (.agg ⟨[I b.1,I b.2.1,I b.2.2.1,I b.2.2.2.1,I b.2.2.2.2.1,I b.2.2.2.2.2,aO y.1 cells y.2]⟩)/\dw (a7 W) [j4 b_ b3 ca cells,cb aJ 80 [I b.1,I b.2.1,I b.2.2.1,I b.2.2.2.1,I b.2.2.2.2.1,I b.2.2.2.2.2,.slice b_ b3 ca,xa 0,xa 1,xa 2,xa 3,xa 4,xa 5,xa 6,xa 7,xa 8,xa 9,xa 10,xa 11,xa 12,xa 13,xa 14,xa 15,xa 16]] (a7 w') [j4 b_ b3 ca cells,cb aJ lF [I b.1,I b.2.1,I b.2.2.1,I b.2.2.2.1,I b.2.2.2.2.1,I b.2.2.2.2.2,.slice b_ b3 ca,xa 0,xa 1,xa 2,xa 3,xa 4,xa 5,xa 6,xa 7,xa 8,xa 9,xa 10,xa 11,xa 12,xa 13,xa 14,xa 15,xa 16],rp y.1 cells y.2])/\cO 0 W w':=by
 refine lg (a6 b_ b3 ca aJ b xa) body aZ N [al 0] Tryd.func22 λa ae=> ?_
 letI:=bE ae;have a_:=cC.start W _ gm;refine br bz [] (U dB (U (b1 28 0 7) (U (j_ 0 7 1 a_) aB))) aC ?_ ae;obtain⟨tT,A1⟩:=ey (cells);refine e5 (Y:=fa) (bC:=λaF=>(a6 b_ b3 ca aJ b xa tT aF.1 aF.2)) a_ [0] (λaF=>[_]) (λaF=>[rp aF.1 tT aF.2]) b4 dD (cF c0 (.agg ⟨[2,3,4,5,6,7,25]⟩)) (ez:=λw hw cM ay=>by rw[A1];exact Y4.any _ ay aT) (rest:= ?_);intro fN ⟨hd,hf⟩ bP ch w ae;replace bP:=bP.uK;letI:=bE ae;refine cm (cn c5) [] [] aB aC ?_ ae;exact b2 lA λw2 bk=>(by subst A1;exact⟨(_,_),rfl,(bP.done bk)⟩)
end Y5
end a1
namespace a1
namespace Y6
noncomputable def body:Code:=(Tryd.f9.body).getD .skip
def N:Nat:=75
noncomputable abbrev b9:=fu Tryd.prog Tryd.f9
def aZ:c6:={sl:=bm [(3,2),(2,1),(1,0),(0,.agg ⟨[3,4,5,6,7,8,9]⟩)],ms:=[],A:=start}
def bz:aU:=[(.cz (I 80),I 80),
 (.bin .neq 35 10 (I 0),.bool false),
 (.bin .lss 3 2 (I 1),.bool true)]
def h2:dm:=[(30,[.agg ⟨[3,4,5,6,7,8,9]⟩,0,1],10)]
theorem b4:b9 (at' 75 bz h2 body aZ)=some (.tuple ⟨[.pointer none,I 1]⟩):=ag
def cp:aU:=[(.cz (I 80),I 80),
 (.bin .neq 35 10 (I 0),.bool false),
 (.bin .lss 3 2 (I 1),.bool false),
 (.bin .gtr 3 2 (I 65536),.bool true)]
def hR:dm:=[(30,[.agg ⟨[3,4,5,6,7,8,9]⟩,0,1],10)]
theorem bs:b9 (at' 75 cp hR body aZ)=some (.tuple ⟨[.pointer none,I 1]⟩):=ag
def dh:aU:=[(.cz (I 80),I 80),
 (.bin .neq 35 10 (I 0),.bool false),
 (.bin .lss 3 2 (I 1),.bool false),
 (.bin .gtr 3 2 (I 65536),.bool false),
 (.len #[26] 3 9,11)]
def lq:dm:=[(30,[.agg ⟨[3,4,5,6,7,8,9]⟩,0,1],10)]
abbrev h5:=at' 75 dh lq body aZ
theorem cw:GU Tryd.prog 75 13 [2,5,7,9,12] h5 2=some (31,[.agg ⟨[3,4,5,6,7,8,9]⟩,.agg ⟨[I 0,I 0,I 0,I 0,I 0,I 0,.slice none 0 0]⟩]):=ag
theorem dD:GU Tryd.prog 75 13 [2,5,7,9,12] h5 5=some (31,[.agg ⟨[3,4,5,6,7,8,9]⟩,.agg ⟨[I 0,I 0,I 0,I 0,I 0,I 0,.slice none 0 0]⟩]):=ag
theorem hq:GU Tryd.prog 75 13 [2,5,7,9,12] h5 7=some (32,[0]):=ag
theorem ka:KJ Tryd.prog 75 13 [2,5,7,9,12] h5 9=some (45,11):=ag
theorem gy:KJ Tryd.prog 75 13 [2,5,7,9,12] h5 12=some (30,11):=ag
def cY:List bG:=[]
def c8:ax:=bm [(39,2),(10,11),(9,I 0),(8,.pointer none),(2,1)]
theorem iC:(GK Tryd.prog 75 13 [2,5,7,9,12] h5).isSome=true:=ag
theorem lA:bF (GM Tryd.prog 75 13 [2,5,7,9,12] h5) c8 cY=some [(2,2),(1,1),(11,11)]:=ag
def Gt:ax:=match vG 75 (hl h5) [(2,.agg ⟨[al 3,al 4,al 5,al 6,al 7,al 8,al 12]⟩),(5,.agg ⟨[al 3,al 4,al 5,al 6,al 7,al 8,al 13]⟩),(7,al 14),(9,al 15),(12,al 16)] c8 with|some s=>s|none=> .nil
theorem np:vG 75 (hl h5) [(2,.agg ⟨[3,4,5,6,7,8,12]⟩),(5,.agg ⟨[3,4,5,6,7,8,13]⟩),(7,14),(9,15),(12,16)] c8=some Gt:=ag
def d':aU:=[(.cz (I 80),I 80)]
theorem k2:uC (AL 75 d' [] (y' 13 h5) (hl h5) (gi h5) (aN Gt cY))=some (80,(.agg ⟨[3,4,5,6,7,8,12,3,4,5,6,7,8,13,.slice none 0 0,.slice none 0 0,14,15,2,.slice none 0 0,.slice none 0 0,.slice none 0 0,.slice none 0 0,16]⟩)):=ag
abbrev h':=AL 75 d' [] (y' 13 h5) (hl h5) (gi h5) {sl:=Gt,ms:=[],A:=cS cY}
def fm:List bG:=[]
def fT:ax:=bm [(10,11),(9,I 0),(8,.pointer none),(2,1)]
def eO:ax:=dS 75 fT 43 17
theorem lV:bF (b0 h') fT fm=some [(1,1),(11,11)]:=ag
def ga:ct:=(body,[1,1,1,0],15)
theorem sK:eW (bD 75 d' [] ga (aN eO fm))=some (33,[1]):=ag
abbrev lr:=bD 75 d' [] ga {sl:=eO,ms:=[],A:=cS fm}
def hF:List bG:=[]
def iG:ax:=bm [(44,17),(11,17),(10,11),(9,I 0),(8,.pointer none),(2,1)]
def fS:ax:=dS 75 iG 46 22
theorem om:bF (hQ Tryd.prog lr) iG hF=some [(17,17),(1,1),(17,17),(11,11)]:=ag
def ht:ct:=(body,[1,1,1,1,0],3)
def eS:aU:=[(.cz (I 80),I 80),
 (.dt 17,17),
 (.bQ 80 17 2,23)]
theorem sF:hc (bD 75 eS [] ht (aN fS hF))=some (30,23,22):=ag
abbrev pc:=bD 75 eS [] ht {sl:=fS,ms:=[],A:=cS hF}
def kC:List bG:=[]
def lH:ax:=bm [(11,17),(10,11),(9,I 0),(8,.pointer none),(2,1)]
def jt:ax:=match e8 75 lH none (.tuple ⟨[]⟩) with|some s=>s|none=> .nil
theorem ql:bF (b0 pc) lH kC=some [(17,17),(1,1),(11,11)]:=ag
def k0:ct:=(body,[1,1,1,1,0],6)
def fq:aU:=[(.cz (I 80),I 80),
 (.len #[30] 3 1,24),
 (.bin .eql 3 24 (I 0),.bool true)]
abbrev oo:=bD 75 fq [] k0 {sl:=jt,ms:=[],A:=cS kC}
def lh:List bG:=[]
def ml:ax:=bm [(54,11),(52,17),(11,17),(10,11),(9,I 0),(8,.pointer none)]
def kf:ax:=(cK.set 25 depth ml 53).getD .nil
theorem sM:tC oo 0 53=some ([.bool true],1,1):=ag
theorem ry:bF (b0 oo) ml lh=some [(17,17),(17,17),(11,11),(11,11)]:=ag
theorem pe:cK.set 25 depth ml 53=some kf:=ag
theorem uT:eW ((lE (aN kf lh) oo))=some (34,[25,11]):=ag
abbrev uN:=(lE {sl:=kf,ms:=[],A:=cS lh} oo)
def mX:List bG:=[]
def pP:ax:=bm [(52,17),(11,17),(10,11),(9,I 0),(8,.pointer none)]
def mY:ax:=dS 75 pP 55 26
theorem xe:bF (hQ Tryd.prog uN) pP mX=some [(17,17),(17,17),(11,11)]:=ag
def mF:ct:=(body,[1,1,1,1,1,0,1,2],4)
theorem Hg:hc (bD 75 eS [] mF (aN mY mX))=some (30,23,26):=ag
abbrev uO:=bD 75 eS [] mF {sl:=mY,ms:=[],A:=cS mX}
def nT:List bG:=[]
def pQ:ax:=bm [(11,17),(10,11),(9,I 0),(8,.pointer none)]
def nU:ax:=match e8 75 pQ none (.tuple ⟨[]⟩) with|some s=>s|none=> .nil
theorem Hh:bF (b0 uO) pQ nT=some [(17,17),(11,11)]:=ag
def nV:ct:=(body,[1,1,1,1,1,0,1,2],7)
def hs:aU:=[(.cz (I 80),I 80),
 (.dt 17,17),
 (.bQ 80 17 2,23),
 (.bh 30 23,26)]
theorem zi:eW (bD 75 hs [] nV (aN nU nT))=some (33,[26]):=ag
abbrev uP:=bD 75 hs [] nV {sl:=nU,ms:=[],A:=cS nT}
def mG:List bG:=[]
def pR:ax:=bm [(58,17),(11,17),(10,11),(9,I 0),(8,.pointer none)]
def mH:ax:=dS 75 pR 63 27
theorem Hj:bF (hQ Tryd.prog uP) pR mG=some [(17,17),(11,11),(17,17)]:=ag
def mm:ct:=(body,[1,1,1,1,1,1,0],6)
def hN:aU:=[(.cz (I 80),I 80),
 (.dt 17,17),
 (.bQ 80 17 3,28)]
theorem zj:hc (bD 75 hN [] mm (aN mH mG))=some (30,28,27):=ag
abbrev zq:=bD 75 hN [] mm {sl:=mH,ms:=[],A:=cS mG}
def sS:List bG:=[]
def tO:ax:=bm [(11,17),(10,11),(9,I 0),(8,.pointer none)]
def sT:ax:=match e8 75 tO none (.tuple ⟨[]⟩) with|some s=>s|none=> .nil
theorem Cy:bF (b0 zq) tO sS=some [(17,17),(11,11)]:=ag
def sU:ct:=(body,[1,1,1,1,1,1,0],9)
def bt:List bG:=[]
def cl:ax:=bm [(67,29),(66,11),(11,17),(9,I 0),(8,.pointer none)]
abbrev fG:=bD 75 d' [] sU {sl:=sT,ms:=[],A:=cS sS}
theorem zk:mi cl bt fG=some [(17,17),(I 0,29),(11,11)]:=ag
def bY:Code:=nJ body [1,1,1,1,1,1,1,0,1,4]
def fJ:List hj:=lp body [1,1,1,1,1,1,1,0,1,4] []
theorem zl:lP fG=bY:=ag
theorem zm:gi fG=fJ:=ag
def hS:aU:=[(.cz (I 80),I 80),
 (.bin .lss 3 29 11,.bool true)]
theorem zn:eW (at' 75 hS [] bY (aN cl bt))=some (35,[17,29]):=ag
abbrev zs:=at' 75 hS [] bY (aN cl bt)
def sV:List bG:=[]
def tP:ax:=bm [(67,29),(66,11),(11,17),(9,I 0),(8,.pointer none)]
def r1:ax:=dS 75 tP 72 (.tuple ⟨[]⟩)
theorem P4:bF (hQ Tryd.prog zs) tP sV=some [(17,17),(29,29),(11,11)]:=ag
def sW:ct:=(bY,[1,1,0,4,1],3)
def jT:aU:=[(.cz (I 80),I 80),
 (.bin .add 3 29 (I 1),32)]
theorem Hk:eV cl bt (bD 75 jT [] sW (aN r1 sV))=some [(17,17),(32,29),(11,11)]:=ag
def jx:aU:=[(.cz (I 80),I 80),
 (.bin .lss 3 29 11,.bool false)]
theorem Hl:b9 (jf 75 d' [] fJ (at' 75 jx [] bY (aN cl bt)))=some (.tuple ⟨[17,I 0]⟩):=ag
def kD:aU:=[(.cz (I 80),I 80),
 (.len #[30] 3 1,24),
 (.bin .eql 3 24 (I 0),.bool false),
 (.dt 17,17),
 (.bQ 80 17 2,23),
 (.bh 30 23,22)]
theorem Hm:eW (bD 75 kD [] k0 (aN jt kC))=some (33,[22]):=ag
abbrev vN:=bD 75 kD [] k0 {sl:=jt,ms:=[],A:=cS kC}
def pT:List bG:=[]
def sX:ax:=bm [(58,17),(11,17),(10,11),(9,I 0),(8,.pointer none)]
def pU:ax:=dS 75 sX 63 33
theorem Qm:bF (hQ Tryd.prog vN) sX pT=some [(17,17),(11,11),(17,17)]:=ag
def rz:ct:=(body,[1,1,1,1,1,1,0],6)
theorem Ih:hc (bD 75 hN [] rz (aN pU pT))=some (30,28,33):=ag
abbrev zt:=bD 75 hN [] rz {sl:=pU,ms:=[],A:=cS pT}
def sY:List bG:=[]
def tQ:ax:=bm [(11,17),(10,11),(9,I 0),(8,.pointer none)]
def sZ:ax:=match e8 75 tQ none (.tuple ⟨[]⟩) with|some s=>s|none=> .nil
theorem aia:bF (b0 zt) tQ sY=some [(17,17),(11,11)]:=ag
def s0:ct:=(body,[1,1,1,1,1,1,0],9)
def e7:List bG:=[]
def kj:ax:=bm [(67,34),(66,11),(11,17),(9,I 0),(8,.pointer none)]
abbrev qn:=bD 75 d' [] s0 {sl:=sZ,ms:=[],A:=cS sY}
theorem aib:mi kj e7 qn=some [(17,17),(I 0,34),(11,11)]:=ag
def gD:Code:=nJ body [1,1,1,1,1,1,1,0,1,4]
def sJ:List hj:=lp body [1,1,1,1,1,1,1,0,1,4] []
theorem aic:lP qn=gD:=ag
theorem Ii:gi qn=sJ:=ag
def mI:aU:=[(.cz (I 80),I 80),
 (.bin .lss 3 34 11,.bool true)]
theorem Rq:eW (at' 75 mI [] gD (aN kj e7))=some (35,[17,34]):=ag
abbrev CG:=at' 75 mI [] gD (aN kj e7)
def xj:List bG:=[]
def uu:ax:=bm [(67,34),(66,11),(11,17),(9,I 0),(8,.pointer none)]
def xk:ax:=dS 75 uu 72 (.tuple ⟨[]⟩)
theorem Qq:bF (hQ Tryd.prog CG) uu xj=some [(17,17),(34,34),(11,11)]:=ag
def xl:ct:=(gD,[1,1,0,4,1],3)
def lX:aU:=[(.cz (I 80),I 80),
 (.bin .add 3 34 (I 1),37)]
theorem Rr:eV kj e7 (bD 75 lX [] xl (aN xk xj))=some [(17,17),(37,34),(11,11)]:=ag
def nu:aU:=[(.cz (I 80),I 80),
 (.bin .lss 3 34 11,.bool false)]
theorem CH:b9 (jf 75 d' [] sJ (at' 75 nu [] gD (aN kj e7)))=some (.tuple ⟨[17,I 0]⟩):=ag
def s3:aU:=[(.cz (I 80),I 80),
 (.bin .neq 35 10 (I 0),.bool true)]
def AR:dm:=[(30,[.agg ⟨[3,4,5,6,7,8,9]⟩,0,1],10)]
theorem HE:b9 (at' 75 s3 AR body aZ)=some (.tuple ⟨[.pointer none,I 1]⟩):=ag
@[reducible] noncomputable def a6 (cells:List Int) (b_:bH) (b3 ca:Nat) (table:List dx) (cq:bH) (cr:Nat) (known:List Bool) (di:bH) (dj:Nat) (most:Int) (b:cx) (vY:List Nat:=[]) (zL:bH:=none) (zM:Nat:=0) (pW:Nat:=0) (vZ:List Nat:=[]) (zN:bH:=none) (zO:Nat:=0) (pX:Nat:=0) (hd:bH:=none) (hf:Nat:=0) (kk:bH:=none) (kl:Nat:=0) (l5:bH:=none) (l6:Nat:=0) (kU:List cc:=[]) (l7:bH:=none) (l8:Nat:=0) (kn:List Bool:=[]) (l9:bH:=none) (l_:Nat:=0) (g1:Nat:=0) (oT:List Bool:=[]) (jU:bH:=none) (jV:Nat:=0) (g4:Nat:=0) (s_:List Bool:=[]) (r5:bH:=none) (r6:Nat:=0) (xr:List Bool:=[]) (jB:bH:=none) (jC:Nat:=0) (EY:List Nat:=[]) (k7:bH:=none) (k8:Nat:=0) (xt:List Bool:=[]) (pk:bH:=none) (pn:Nat:=0) (EZ:List Nat:=[]) (Rs:bH:=none) (Rt:Nat:=0):List ad:=[aO cq table cr,aO di known dj,I most,I b.1,I b.2.1,I b.2.2.1,I b.2.2.2.1,I b.2.2.2.2.1,I b.2.2.2.2.2,.slice b_ b3 ca,I (zG b cells table known),I ((cells.length:Nat):Int),aO hd cells hf,aO kk cells kl,aO l5 table l6,aO l7 kU l8,aO l9 kn l_,bj g1 0,.slice none ([]:List gJ).length 0,.slice none (([]:List e2)).length 0,.slice none ((([]:List Nat))).length 0,.slice none (((([]:List Nat)))).length 0,aO jU oT jV,bj g1 14,I ((known.length:Nat):Int),.slice (some ⟨g4,0,none⟩) 1 1,aO r5 s_ r6,aO jB xr jC,bj g1 15,I ((pW:Nat):Int),aO zL vY zM,aO k7 EY k8,I ((pW+1:Nat):Int),aO pk xt pn,I ((pX:Nat):Int),aO zN vZ zO,aO Rs EZ Rt,I ((pX+1:Nat):Int)]
theorem any (W:aG) {b:cx} {b_:bH} {b3 ca:Nat} {cells:List Int} (hT:dr (a7 W) 1 gq (.slice b_ b3 ca) cells) {ow:ad} {table:List dx} (bw:dr (a7 W) 8 js ow table) {ox:ad} {known:List Bool} (hZ:dr (a7 W) 1 iw ox known) (most:Int) (d_:oH (a7 W)) (aT:cells.length<=10000) (iv:b3=cells.length) (rU:known.length<=100000) (zI:table.length<=100000):Calls Tryd.prog 9 #[.agg ⟨[I b.1,I b.2.1,I b.2.2.1,I b.2.2.2.1,I b.2.2.2.2.1,I b.2.2.2.2.2,.slice b_ b3 ca]⟩,ow,ox,I most] W λe w'=>(if qP b cells table known most then (∃(g:Nat) (y:fa×s9×s9×s9×s9×s9×s9×s9),e= .returned (.tuple ⟨[bj g 0,I 0]⟩)/\dw (a7 W) [] (a7 w') [kd qI 3 oL (.slice none 0 0) [],kd rl 5 pK (.slice none 0 0) [],fY nO 1 mD (.slice none 0 0) [],kd nO 1 mD (.slice y.1.1 (List.range cells.length).length y.1.2) (List.range cells.length),fY mT 1 iw (.slice y.2.1.1 y.2.1.2.1 y.2.1.2.2) (kK cells.length cells.length),fY oK 4 kh (.slice y.2.2.1.1 y.2.2.1.2.1 y.2.2.1.2.2) (List.replicate cells.length Aw),j4 y.2.2.2.1.1 y.2.2.2.1.2.1 y.2.2.2.1.2.2 cells,rq y.2.2.2.2.1.1 y.2.2.2.2.1.2.1 y.2.2.2.2.1.2.2 table,fY mT 1 iw (.slice y.2.2.2.2.2.1.1 y.2.2.2.2.2.1.2.1 y.2.2.2.2.2.1.2.2) (xq known cells.length),j4 y.2.2.2.2.2.2.1.1 y.2.2.2.2.2.2.1.2.1 y.2.2.2.2.2.2.1.2.2 cells,fY mT 1 iw (.slice y.2.2.2.2.2.2.2.1 y.2.2.2.2.2.2.2.2.1 y.2.2.2.2.2.2.2.2.2) (xq known cells.length),cb g lF [I b.1,I b.2.1,I b.2.2.1,I b.2.2.2.1,I b.2.2.2.2.1,I b.2.2.2.2.2,.slice y.2.2.2.2.2.2.1.1 y.2.2.2.2.2.2.1.2.1 y.2.2.2.2.2.2.1.2.2,I b.1,I b.2.1,I b.2.2.1,I b.2.2.2.1,I b.2.2.2.2.1,I b.2.2.2.2.2,.slice y.2.2.2.1.1 y.2.2.2.1.2.1 y.2.2.2.1.2.2,.slice y.2.2.2.2.2.2.2.1 y.2.2.2.2.2.2.2.2.1 y.2.2.2.2.2.2.2.2.2,.slice y.2.2.2.2.2.1.1 y.2.2.2.2.2.1.2.1 y.2.2.2.2.2.1.2.2,.slice y.2.2.2.2.1.1 y.2.2.2.2.1.2.1 y.2.2.2.2.1.2.2,.slice y.2.2.1.1 y.2.2.1.2.1 y.2.2.1.2.2,I most,.slice none 0 0,.slice none 0 0,.slice none 0 0,.slice y.1.1 (List.range cells.length).length y.1.2,.slice y.2.1.1 y.2.1.2.1 y.2.1.2.2]]) else e= .returned (.tuple ⟨[.pointer none,I 1]⟩))/\cO W.heap.size W w':=by
 obtain⟨cq,cr,rfl⟩:=bw.slice;obtain⟨di,dj,rfl⟩:=hZ.slice;refine kT (a6 cells b_ b3 ca table cq cr known di dj most b) body aZ N [.agg ⟨[al 3,al 4,al 5,al 6,al 7,al 8,al 9]⟩,al 0,al 1,al 2] Tryd.func9 λa ae=> ?_
 letI:=bE ae;have a_:=cC.q_ W;by_cases bd:(zG b cells table known)=0
 ·by_cases af:most<1
  ·refine br bz h2 (U (cd _) (U uH (U bf aB))) (cv (Lu J J J J hT (bw.mono a_.ext) (hZ.mono a_.ext) d_ aj iv) aC) ?_ ae
   exact b2 b4 λw2 bk=>(by (rw[aV (λq:qP b cells table known most=>by have q1:=q.1;have aI:=q.2.1;have bS:=q.2.2;omega)];rfl))
  ·by_cases ah:65536<most
   ·refine br cp hR (U (cd _) (U uH (U a' (U bf aB)))) (cv (Lu J J J J hT (bw.mono a_.ext) (hZ.mono a_.ext) d_ aj iv) aC) ?_ ae
    exact b2 bs λw2 bk=>(by (rw[aV (λq:qP b cells table known most=>by have q1:=q.1;have aI:=q.2.1;have bS:=q.2.2;omega)];rfl))
   ·refine br dh lq (U (cd _) (U uH (U a' (U a' (U (e4 (hT.mono a_.ext) iD) aB))))) (cv (Lu J J J J hT (bw.mono a_.ext) (hZ.mono a_.ext) d_ aj iv) aC) ?_ ae
    obtain⟨kU,LB⟩:=ey (List.replicate cells.length Aw);have alw:kU.length=cells.length:=by rw[LB];exact nz
    obtain⟨kn,LC⟩:=ey (List.replicate cells.length wZ);have alx:kn.length=cells.length:=by rw[LC];exact nz
    refine afw (Y:=fa×fa×fa×fa×fa) (bC:=λaF=>(a6 cells b_ b3 ca table cq cr known di dj most b [] none 0 0 [] none 0 0 aF.1.1 aF.1.2 aF.2.1.1 aF.2.1.2 aF.2.2.1.1 aF.2.2.1.2 kU aF.2.2.2.1.1 aF.2.2.2.1.2 kn aF.2.2.2.2.1 aF.2.2.2.2.2)) (m:=13) (eB:=[(2,.agg ⟨[al 3,al 4,al 5,al 6,al 7,al 8,al 12]⟩),(5,.agg ⟨[al 3,al 4,al 5,al 6,al 7,al 8,al 13]⟩),(7,al 14),(9,al 15),(12,al 16)]) (R:=λi aF=>bif Nat.beq i 2 then rp aF.1 cells aF.2 else bif Nat.beq i 5 then rp aF.1 cells aF.2 else bif Nat.beq i 7 then KS aF.1 table aF.2 else bif Nat.beq i 9 then AM aF.1 kU aF.2 else bif Nat.beq i 12 then uJ aF.1 kn aF.2 else w8 []) (rv:=λi aF=>bif Nat.beq i 2 then .agg ⟨[I b.1,I b.2.1,I b.2.2.1,I b.2.2.2.1,I b.2.2.2.2.1,I b.2.2.2.2.2,aO aF.1 cells aF.2]⟩ else bif Nat.beq i 5 then .agg ⟨[I b.1,I b.2.1,I b.2.2.1,I b.2.2.2.1,I b.2.2.2.2.1,I b.2.2.2.2.2,aO aF.1 cells aF.2]⟩ else bif Nat.beq i 7 then aO aF.1 table aF.2 else bif Nat.beq i 9 then aO aF.1 kU aF.2 else bif Nat.beq i 12 then aO aF.1 kn aF.2 else .bool false) (pr:=λi aF=>bif Nat.beq i 2 then aF.1 else bif Nat.beq i 5 then aF.2.1 else bif Nat.beq i 7 then aF.2.2.1 else bif Nat.beq i 9 then aF.2.2.2.1 else bif Nat.beq i 12 then aF.2.2.2.2 else (none,0)) (mk:=λys=>(ys 2,ys 5,ys 7,ys 9,ys 12)) mixed iC aL (sE (x_.arr (F:=λiW=> .agg ⟨[I b.1,I b.2.1,I b.2.2.1,I b.2.2.2.1,I b.2.2.2.2.1,I b.2.2.2.2.2,iW]⟩) (l:=cells) cw rfl λw hw cM=>Q4.any _ ((hT.mono a_.ext).mono hw) aj) (sE (x_.arr (F:=λiW=> .agg ⟨[I b.1,I b.2.1,I b.2.2.1,I b.2.2.2.1,I b.2.2.2.2.1,I b.2.2.2.2.2,iW]⟩) (l:=cells) dD rfl λw hw cM=>Q4.any _ ((hT.mono a_.ext).mono hw) aj) (sE (x_.arr (F:=λiW=>iW) (l:=table) hq rfl λw hw cM=>X8.any _ ((bw.mono a_.ext).mono hw) zI) (sE (x_.Wt (n:=cells.length) (zr:=Aw) (l':=kU) LB ka kg V6 V7 V8 V9 rfl eH rfl (by rfl) aj (by unfold Ku;omega) aj) (sE (x_.Wt (n:=cells.length) (zr:=wZ) (l':=kn) LC gy kA O1 O2 O3 O4 rfl h9 rfl (by rfl) aj (by unfold Gz;omega) aj) Ps))))) (λys=>(sE rfl (sE rfl (sE rfl (sE rfl (sE rfl Ps)))))) lA np rfl (λaF aS=>(sE rfl (sE rfl (sE rfl (sE rfl (sE rfl Ps)))))) (λ_ _=>b7) ?_;intro⟨⟨hd,hf⟩,⟨kk,kl⟩,⟨l5,l6⟩,⟨l7,l8⟩,⟨l9,l_⟩⟩ fN s7 ch w ae;have bP:=a_.put (L':=[]) (N:=[rp hd cells hf,rp kk cells kl,KS l5 table l6,AM l7 kU l8,uJ l9 kn l_]) [] J J s7;replace bP:=bP.qj;letI:=bE ae;refine DU (F:=d') (T:=[]) (bN:=1000) (d:=10) mixed (U (cd _) aB) aC ?_ ae;refine wT (u:= .agg ⟨[I b.1,I b.2.1,I b.2.2.1,I b.2.2.2.1,I b.2.2.2.2.1,I b.2.2.2.2.2,aO hd cells hf,I b.1,I b.2.1,I b.2.2.1,I b.2.2.2.1,I b.2.2.2.2.1,I b.2.2.2.2.2,aO kk cells kl,.slice none 0 0,.slice none 0 0,aO l5 table l6,aO l7 kU l8,I most,.slice none 0 0,.slice none 0 0,.slice none 0 0,.slice none 0 0,aO l9 kn l_]⟩) (cs:=[I b.1,I b.2.1,I b.2.2.1,I b.2.2.2.1,I b.2.2.2.2.1,I b.2.2.2.2.2,aO hd cells hf,I b.1,I b.2.1,I b.2.2.1,I b.2.2.2.1,I b.2.2.2.2.1,I b.2.2.2.2.2,aO kk cells kl,.slice none 0 0,.slice none 0 0,aO l5 table l6,aO l7 kU l8,I most,.slice none 0 0,.slice none 0 0,.slice none 0 0,.slice none 0 0,aO l9 kn l_]) (bC:=λfh=>(a6 cells b_ b3 ca table cq cr known di dj most b [] none 0 0 [] none 0 0 hd hf kk kl l5 l6 kU l7 l8 kn l9 l_ fh)) k2 J J J lV (cF eO 17) rfl (λ_ fh=>b7) (λ_ _=>rfl) ?_;intro hr g1 iL rf lU ch w ae;have dK:=bP.new (rb rf iL lU);replace dK:=dK.new (Q2 hr qI 3 oL);replace dK:=dK.new (Q2 hr rl 5 pK);replace dK:=dK.new (ahr hr nO 1 mD);replace dK:=dK.new (Q2 hr nO 1 mD);replace dK:=dK.WR;letI:=bE ae;refine cm (cn ga) d' [] (U (cd _) aB) aC ?_ ae;obtain⟨oT,Ru⟩:=ey (known);refine e5 (Y:=fa) (bC:=λaF=>(a6 cells b_ b3 ca table cq cr known di dj most b [] none 0 0 [] none 0 0 hd hf kk kl l5 l6 kU l7 l8 kn l9 l_ g1 oT aF.1 aF.2)) dK [] (λaF=>[]) (λaF=>[uJ aF.1 oT aF.2]) sK om (cF fS 22) (ez:=λw hw cM ay=>by rw[Ru];exact Gq (H6.any _ ((hZ.mono dK.ext).mono hw) aj)) (rest:= ?_);intro fU ⟨jU,jV⟩ dE ch w ae;replace dE:=dE.nq;letI:=bE ae;refine cm (cn ht) eS [] (U (cd _) (U dB (U (b1 30 14 1) aB))) aC ?_ ae;refine oP 14 [I b.1,I b.2.1,I b.2.2.1,I b.2.2.2.1,I b.2.2.2.2.1,I b.2.2.2.2.2,aO hd cells hf,I b.1,I b.2.1,I b.2.2.1,I b.2.2.2.1,I b.2.2.2.2.1,I b.2.2.2.2.2,aO kk cells kl,aO jU oT jV,.slice none 0 0,aO l5 table l6,aO l7 kU l8,I most,.slice none ([]:List gJ).length 0,.slice none (([]:List e2)).length 0,.slice none ((([]:List Nat))).length 0,.slice none (((([]:List Nat)))).length 0,aO l9 kn l_] (a6 cells b_ b3 ca table cq cr known di dj most b [] none 0 0 [] none 0 0 hd hf kk kl l5 l6 kU l7 l8 kn l9 l_ g1 oT jU jV) sF ql (cF jt (.tuple ⟨[]⟩)) (dE.box 5 rfl) ?_;intro vL zo uR ch w ae;have gV:=dE.gM 5 rfl (lR zo uR);replace gV:=gV.nq;letI:=bE ae;by_cases rQ:((known.length:Nat):Int)=0
    ·refine cm (cn k0) fq [] (U (cd _) (U (e4 (hZ.mono gV.ext) kA) (U bf aB))) aC ?_ ae
     refine vC (enc:=iw) (xs:=[true]) (q:=25) (bC:=λfh=>(a6 cells b_ b3 ca table cq cr known di dj most b [] none 0 0 [] none 0 0 hd hf kk kl l5 l6 kU l7 l8 kn l9 l_ g1 oT jU jV fh)) sM h9 rfl aL aL J J (h3 rfl) ry (λ_ _=>b7) pe (λ_=>rfl) ?_;intro jy g4 Ho aid Rv jh oQ;have ek:=gV.new (tD Ho Rv jh oQ);letI:=bE ae;obtain⟨s_,Rw⟩:=ey (List.replicate (cells.length) true);refine e5 (Y:=fa) (bC:=λaF=>(a6 cells b_ b3 ca table cq cr known di dj most b [] none 0 0 [] none 0 0 hd hf kk kl l5 l6 kU l7 l8 kn l9 l_ g1 oT jU jV g4 s_ aF.1 aF.2)) ek [11] (λaF=>[_]) (λaF=>[uJ aF.1 s_ aF.2]) uT xe (cF mY 26) (ez:=λw hw cM ay=>by rw[Rw];exact ah2 _ ay (cells.length) aj) (rest:= ?_);intro CD ⟨r5,r6⟩ k5 ch w ae;replace k5:=k5.Es;letI:=bE ae;refine cm (cn mF) eS [] (U (cd _) (U dB (U (b1 30 14 1) aB))) aC ?_ ae;refine oP 14 [I b.1,I b.2.1,I b.2.2.1,I b.2.2.2.1,I b.2.2.2.2.1,I b.2.2.2.2.2,aO hd cells hf,I b.1,I b.2.1,I b.2.2.1,I b.2.2.2.1,I b.2.2.2.2.1,I b.2.2.2.2.2,aO kk cells kl,aO r5 s_ r6,.slice none 0 0,aO l5 table l6,aO l7 kU l8,I most,.slice none ([]:List gJ).length 0,.slice none (([]:List e2)).length 0,.slice none ((([]:List Nat))).length 0,.slice none (((([]:List Nat)))).length 0,aO l9 kn l_] (a6 cells b_ b3 ca table cq cr known di dj most b [] none 0 0 [] none 0 0 hd hf kk kl l5 l6 kU l7 l8 kn l9 l_ g1 oT jU jV g4 s_ r5 r6) Hg Hh (cF nU (.tuple ⟨[]⟩)) (k5.box 5 rfl) ?_;intro Hr P5 P6 ch w ae;have nX:=k5.gM 5 rfl (lR P5 P6);replace nX:=nX.Es;letI:=bE ae;refine cm (cn nV) hs [] (U (cd _) (U dB (U (b1 30 14 1) (U (cu 14 5 nX) aB)))) aC ?_ ae;obtain⟨xr,Y7⟩:=ey (s_);refine e5 (Y:=fa) (bC:=λaF=>(a6 cells b_ b3 ca table cq cr known di dj most b [] none 0 0 [] none 0 0 hd hf kk kl l5 l6 kU l7 l8 kn l9 l_ g1 oT jU jV g4 s_ r5 r6 xr aF.1 aF.2)) nX [] (λaF=>[]) (λaF=>[uJ aF.1 xr aF.2]) zi Hj (cF mH 27) (ez:=λw hw cM ay=>by rw[Y7];exact Gq (H6.any _ (((nX.arr 12 rfl).arr h9).mono hw) (by (rw[Rw,nz];omega)))) (rest:= ?_);intro P7 ⟨jB,jC⟩ ph ch w ae;replace ph:=ph.PD;letI:=bE ae;refine cm (cn mm) hN [] (U (cd _) (U dB (U (b1 30 15 1) aB))) aC ?_ ae;refine oP 15 [I b.1,I b.2.1,I b.2.2.1,I b.2.2.2.1,I b.2.2.2.2.1,I b.2.2.2.2.2,aO hd cells hf,I b.1,I b.2.1,I b.2.2.1,I b.2.2.2.1,I b.2.2.2.2.1,I b.2.2.2.2.2,aO kk cells kl,aO r5 s_ r6,aO jB xr jC,aO l5 table l6,aO l7 kU l8,I most,.slice none ([]:List gJ).length 0,.slice none (([]:List e2)).length 0,.slice none ((([]:List Nat))).length 0,.slice none (((([]:List Nat)))).length 0,aO l9 kn l_] (a6 cells b_ b3 ca table cq cr known di dj most b [] none 0 0 [] none 0 0 hd hf kk kl l5 l6 kU l7 l8 kn l9 l_ g1 oT jU jV g4 s_ r5 r6 xr jB jC) zj Cy (cF sT (.tuple ⟨[]⟩)) (ph.box 5 rfl) ?_;intro P8 P9 P' ch w ae;have tR:=ph.gM 5 rfl (lR P9 P');replace tR:=tR.PD;letI:=bE ae;refine cm (cn sU) d' [] (U (cd _) aB) aC ?_ ae;refine nP (fW:=(λ(⟨M,vY,zL,zM,A5,pW⟩:Mem×List Nat×Option Addr×Nat×List Bool×Nat)=>bc M (a6 cells b_ b3 ca table cq cr known di dj most b vY zL zM pW [] none 0 0 hd hf kk kl l5 l6 kU l7 l8 kn l9 l_ g1 oT jU jV g4 s_ r5 r6 xr jB jC))) (λ(⟨M,vY,zL,zM,A5,pW⟩:Mem×List Nat×Option Addr×Nat×List Bool×Nat)=>cC W.heap.size (a7 W) [] M [rp hd cells hf,rp kk cells kl,KS l5 table l6,AM l7 kU l8,h1 l9 kn.length l_ A5,cb g1 80 [I b.1,I b.2.1,I b.2.2.1,I b.2.2.2.1,I b.2.2.2.2.1,I b.2.2.2.2.2,aO hd cells hf,I b.1,I b.2.1,I b.2.2.1,I b.2.2.2.1,I b.2.2.2.2.1,I b.2.2.2.2.2,aO kk cells kl,aO r5 s_ r6,aO jB xr jC,aO l5 table l6,aO l7 kU l8,I most,.slice none ([]:List gJ).length 0,.slice none (([]:List e2)).length 0,.slice none ((([]:List Nat))).length 0,aO zL vY zM,aO l9 kn l_],kd qI 3 oL (.slice none ([]:List gJ).length 0) ([]:List gJ),kd rl 5 pK (.slice none (([]:List e2)).length 0) (([]:List e2)),fY nO 1 mD (.slice none ((([]:List Nat))).length 0) ((([]:List Nat))),pa zL vY zM,uJ r5 s_ r6,uJ jB xr jC]/\(pW<=cells.length/\vY=List.range pW/\A5=kK cells.length pW/\A5.length=cells.length/\vY.length=pW)) (λ(⟨M,vY,zL,zM,A5,pW⟩:Mem×List Nat×Option Addr×Nat×List Bool×Nat)=>cells.length-pW) ⟨P8,(((([]:List Nat)))),none,0,kn,0⟩ zk b7 (λ_ _ h=>h) (by exact⟨(tR.pick [0,1,2,3,4,5,6,7,8,9,12,13] rfl),by exact⟨Nat.zero_le _,rfl,by rw[LC];exact(YH _).symm,aj,rfl⟩⟩) ?_;intro⟨M,vY,zL,zM,A5,pW⟩ aK ch w ae;letI:=bE ae;refine nK zl zm ?_;have bX:=aK.1;have LD:=aK.2.1;have aie:=aK.2.2.2.2.1;have aif:=aK.2.2.2.2.2;by_cases z0:((pW:Nat):Int)<((cells.length:Nat):Int)
     ·refine br hS [] (U (cd _) (U bf aB)) aC ?_ ae
      obtain⟨EY,Rx⟩:=ey (mE vY A5 (pW));obtain⟨Y8,Ry⟩:=ey (og A5 (pW));refine e5 (Y:=fa) (bC:=λaF=>(a6 cells b_ b3 ca table cq cr known di dj most b vY zL zM pW [] none 0 0 hd hf kk kl l5 l6 kU l7 l8 kn l9 l_ g1 oT jU jV g4 s_ r5 r6 xr jB jC EY aF.1 aF.2)) bX [9,4,5] (λaF=>[oN _ _ _ aF.1 EY aF.2,qL _ _ _ l9 kn.length l_ Y8,cb _ _ [_,_,_,_,_,_,_,_,_,_,_,_,_,_,_,_,_,_,_,_,_,_,aO aF.1 EY aF.2,_]]) (λ_=>[]) zn P4 (cF r1 (.tuple ⟨[]⟩)) (ez:=λw hw cM ay=>by rw[Rx,Ry];exact Ha.any (xa:=h0 [I b.1,I b.2.1,I b.2.2.1,I b.2.2.2.1,I b.2.2.2.2.1,I b.2.2.2.2.2,aO hd cells hf,I b.1,I b.2.1,I b.2.2.1,I b.2.2.2.1,I b.2.2.2.2.1,I b.2.2.2.2.2,aO kk cells kl,aO r5 s_ r6,aO jB xr jC,aO l5 table l6,aO l7 kU l8,I most,.slice none ([]:List gJ).length 0,.slice none (([]:List e2)).length 0,.slice none ((([]:List Nat))).length 0] 0) _ ay (pW) aj aj) (rest:= ?_);intro Y9 ⟨k7,k8⟩ C0 ch w ae;replace C0:=C0.vK;letI:=bE ae;refine cm (cn sW) jT [] (U (cd _) (U gU aB)) aC ?_ ae;exact e3 ⟨Y9,EY,k7,k8,Y8,pW+1⟩ Hk b7 (by exact⟨C0,by have ay:=YI (show pW<cells.length by omega) aK.2.2.1 aK.2.2.2.1;exact⟨aj,by rw[Rx];exact ay.1,by rw[Ry];exact ay.2,by rw[Ry,Kx];omega,by rw[Rx,ay.1,List.length_range]⟩⟩)
     ·refine br jx [] (U (cd _) (U a' aB)) aC ?_ ae
      refine j3 d' [] (U (cd _) aB) aC ?_;exact b2 Hl λw2 bk=>(by (have ao:pW=cells.length:=aj;have bg:=aK.2.2.1;have hw:=aK.2.2.2.1;rw[ao] at bg hw;rw[aP (show qP b cells table known most from ⟨aY,aj,aj⟩),ah3 (show known.length=0 by omega)];subst Y7;rw[<-Rw];rw[<-bg,<-hw,<-LB];exact⟨_,((_,_),(_,_,_),(_,_,_),(_,_,_),(_,_,_),(_,_,_),(_,_,_),(_,_,_)),rfl,((bX.pick [6,7,8,9,4,3,1,2,11,0,10,5] rfl).done bk)⟩))
    ·refine cm (cn k0) kD [] (U (cd _) (U (e4 (hZ.mono gV.ext) kA) (U a' (U dB (U (b1 30 14 1) (U (cu 14 5 gV) aB)))))) aC ?_ ae
     obtain⟨xt,Y'⟩:=ey (oT);refine e5 (Y:=fa) (bC:=λaF=>(a6 cells b_ b3 ca table cq cr known di dj most b [] none 0 0 [] none 0 0 hd hf kk kl l5 l6 kU l7 l8 kn l9 l_ g1 oT jU jV 0 [] none 0 [] none 0 [] none 0 xt aF.1 aF.2)) gV [] (λaF=>[]) (λaF=>[uJ aF.1 xt aF.2]) Hm Qm (cF pU 33) (ez:=λw hw cM ay=>by rw[Y'];exact Gq (H6.any _ (((gV.arr 10 rfl).arr h9).mono hw) (by (rw[Ru];omega)))) (rest:= ?_);intro jy ⟨pk,pn⟩ ek ch w ae;replace ek:=ek.vK;letI:=bE ae;refine cm (cn rz) hN [] (U (cd _) (U dB (U (b1 30 15 1) aB))) aC ?_ ae;refine oP 15 [I b.1,I b.2.1,I b.2.2.1,I b.2.2.2.1,I b.2.2.2.2.1,I b.2.2.2.2.2,aO hd cells hf,I b.1,I b.2.1,I b.2.2.1,I b.2.2.2.1,I b.2.2.2.2.1,I b.2.2.2.2.2,aO kk cells kl,aO jU oT jV,aO pk xt pn,aO l5 table l6,aO l7 kU l8,I most,.slice none ([]:List gJ).length 0,.slice none (([]:List e2)).length 0,.slice none ((([]:List Nat))).length 0,.slice none (((([]:List Nat)))).length 0,aO l9 kn l_] (a6 cells b_ b3 ca table cq cr known di dj most b [] none 0 0 [] none 0 0 hd hf kk kl l5 l6 kU l7 l8 kn l9 l_ g1 oT jU jV 0 [] none 0 [] none 0 [] none 0 xt pk pn) Ih aia (cF sZ (.tuple ⟨[]⟩)) (ek.box 5 rfl) ?_;intro CD Hp Hq ch w ae;have k5:=ek.gM 5 rfl (lR Hp Hq);replace k5:=k5.vK;letI:=bE ae;refine cm (cn s0) d' [] (U (cd _) aB) aC ?_ ae;refine nP (fW:=(λ(⟨M,vZ,zN,zO,A6,pX⟩:Mem×List Nat×Option Addr×Nat×List Bool×Nat)=>bc M (a6 cells b_ b3 ca table cq cr known di dj most b [] none 0 0 vZ zN zO pX hd hf kk kl l5 l6 kU l7 l8 kn l9 l_ g1 oT jU jV 0 [] none 0 [] none 0 [] none 0 xt pk pn))) (λ(⟨M,vZ,zN,zO,A6,pX⟩:Mem×List Nat×Option Addr×Nat×List Bool×Nat)=>cC W.heap.size (a7 W) [] M [rp hd cells hf,rp kk cells kl,KS l5 table l6,AM l7 kU l8,h1 l9 kn.length l_ A6,cb g1 80 [I b.1,I b.2.1,I b.2.2.1,I b.2.2.2.1,I b.2.2.2.2.1,I b.2.2.2.2.2,aO hd cells hf,I b.1,I b.2.1,I b.2.2.1,I b.2.2.2.1,I b.2.2.2.2.1,I b.2.2.2.2.2,aO kk cells kl,aO jU oT jV,aO pk xt pn,aO l5 table l6,aO l7 kU l8,I most,.slice none ([]:List gJ).length 0,.slice none (([]:List e2)).length 0,.slice none ((([]:List Nat))).length 0,aO zN vZ zO,aO l9 kn l_],kd qI 3 oL (.slice none ([]:List gJ).length 0) ([]:List gJ),kd rl 5 pK (.slice none (([]:List e2)).length 0) (([]:List e2)),fY nO 1 mD (.slice none ((([]:List Nat))).length 0) ((([]:List Nat))),pa zN vZ zO,uJ jU oT jV,uJ pk xt pn]/\(pX<=cells.length/\vZ=List.range pX/\A6=kK cells.length pX/\A6.length=cells.length/\vZ.length=pX)) (λ(⟨M,vZ,zN,zO,A6,pX⟩:Mem×List Nat×Option Addr×Nat×List Bool×Nat)=>cells.length-pX) ⟨CD,(((([]:List Nat)))),none,0,kn,0⟩ aib b7 (λ_ _ h=>h) (by exact⟨k5,by exact⟨Nat.zero_le _,rfl,by rw[LC];exact(YH _).symm,aj,rfl⟩⟩) ?_;intro⟨M,vZ,zN,zO,A6,pX⟩ aK ch w ae;letI:=bE ae;refine nK aic Ii ?_;have gN:=aK.1;have LD:=aK.2.1;have aie:=aK.2.2.2.2.1;have aif:=aK.2.2.2.2.2;by_cases z0:((pX:Nat):Int)<((cells.length:Nat):Int)
     ·refine br mI [] (U (cd _) (U bf aB)) aC ?_ ae
      obtain⟨EZ,Rz⟩:=ey (mE vZ A6 (pX));obtain⟨Y_,RA⟩:=ey (og A6 (pX));refine e5 (Y:=fa) (bC:=λaF=>(a6 cells b_ b3 ca table cq cr known di dj most b [] none 0 0 vZ zN zO pX hd hf kk kl l5 l6 kU l7 l8 kn l9 l_ g1 oT jU jV 0 [] none 0 [] none 0 [] none 0 xt pk pn EZ aF.1 aF.2)) gN [9,4,5] (λaF=>[oN _ _ _ aF.1 EZ aF.2,qL _ _ _ l9 kn.length l_ Y_,cb _ _ [_,_,_,_,_,_,_,_,_,_,_,_,_,_,_,_,_,_,_,_,_,_,aO aF.1 EZ aF.2,_]]) (λ_=>[]) Rq Qq (cF xk (.tuple ⟨[]⟩)) (ez:=λw hw cM ay=>by rw[Rz,RA];exact Ha.any (xa:=h0 [I b.1,I b.2.1,I b.2.2.1,I b.2.2.2.1,I b.2.2.2.2.1,I b.2.2.2.2.2,aO hd cells hf,I b.1,I b.2.1,I b.2.2.1,I b.2.2.2.1,I b.2.2.2.2.1,I b.2.2.2.2.2,aO kk cells kl,aO jU oT jV,aO pk xt pn,aO l5 table l6,aO l7 kU l8,I most,.slice none ([]:List gJ).length 0,.slice none (([]:List e2)).length 0,.slice none ((([]:List Nat))).length 0] 0) _ ay (pX) aj aj) (rest:= ?_);intro Hr ⟨Rs,Rt⟩ nX ch w ae;replace nX:=nX.vK;letI:=bE ae;refine cm (cn xl) lX [] (U (cd _) (U gU aB)) aC ?_ ae;exact e3 ⟨Hr,EZ,Rs,Rt,Y_,pX+1⟩ Rr b7 (by exact⟨nX,by have ay:=YI (show pX<cells.length by omega) aK.2.2.1 aK.2.2.2.1;exact⟨aj,by rw[Rz];exact ay.1,by rw[RA];exact ay.2,by rw[RA,Kx];omega,by rw[Rz,ay.1,List.length_range]⟩⟩)
     ·refine br nu [] (U (cd _) (U a' aB)) aC ?_ ae
      refine j3 d' [] (U (cd _) aB) aC ?_;exact b2 CH λw2 bk=>(by (have ao:pX=cells.length:=aj;have bg:=aK.2.2.1;have hw:=aK.2.2.2.1;rw[ao] at bg hw;rw[aP (show qP b cells table known most from ⟨aY,aj,aj⟩),ah4 (show known.length≠0 by omega)];subst Y';rw[<-Ru];rw[<-bg,<-hw,<-LB];exact⟨_,((_,_),(_,_,_),(_,_,_),(_,_,_),(_,_,_),(_,_,_),(_,_,_),(_,_,_)),rfl,((gN.pick [6,7,8,9,4,3,1,2,11,0,10,5] rfl).done bk)⟩))
 ·refine br s3 AR (U (cd _) (U vI aB)) (cv (Lu J J J J hT (bw.mono a_.ext) (hZ.mono a_.ext) d_ aj iv) aC) ?_ ae
  exact b2 HE λw2 bk=>(by (rw[aV (λq:qP b cells table known most=>by have q1:=q.1;have aI:=q.2.1;have bS:=q.2.2;omega)];rfl))
end Y6
end a1
namespace a1
theorem Za (W:aG) {g:Nat} {A:fx} {e:eD} (h:dO (a7 W) [dF g A e]) (zH:hn e.table e.b e.u) (ar:e.u.reqs.length<=10000):
 Calls Tryd.prog 12 #[rC g] W λx w'=>(∃bK:fx,x= .returned (.int .i64 (((i' e.table e.b (iy e.b e.u) e.u).1:Nat):Int))/\dw (a7 W) [dF g A e] (a7 w') [dF g bK {e with u:=(i' e.table e.b (iy e.b e.u) e.u).2}])/\cO 0 W w':=YL.any W h zH ar
theorem Zb (W:aG) {g:Nat} {A:fx} {e:eD} (h:dO (a7 W) [dF g A e]) (n:Int) (zH:hn e.table e.b e.u) (ar:e.u.reqs.length<=10000):
 Calls Tryd.prog 10 #[rC g,.int .i64 n] W λx w'=>(∃bK:fx,x= .returned (.int .i64 (((i' e.table e.b n.toNat e.u).1:Nat):Int))/\dw (a7 W) [dF g A e] (a7 w') [dF g bK {e with u:=(i' e.table e.b n.toNat e.u).2}])/\cO 0 W w':=YM.any W h n zH ar
theorem Zc (W:aG) {g:Nat} {A:fx} {e:eD} (h:dO (a7 W) [dF g A e]):
  Calls Tryd.prog 11 #[rC g] W λx w'=>(∃_:Unit,x= .returned (.bool (decide (e.u.aQ.length=0/\e.u.aE.length=0/\e.u.reqs.length=0)))/\dw (a7 W) [dF g A e] (a7 w') [dF g A e])/\cO 0 W w':=by
 obtain⟨⟨li,fL,go,nw,oS,re,it,sh⟩,b,table,cells,known,most⟩:=e;have ay:=h.CX;refine(YN.any W (xa:=h0 (rB A ⟨⟨li,fL,go,nw,oS,re,it,sh⟩,b,table,cells,known,most⟩) 0) (ay.pick [0,1,3,11] rfl)).mono λx w' aw=> ?_
 obtain⟨⟨y,rfl,t⟩,az⟩:=aw;have t2:=dw.Lv ay [0,1,3,11] J J J t;exact⟨⟨(),rfl,t2.packed⟩,az⟩
theorem Zd (W:aG) {g:Nat} {A:fx} {e:eD} (h:dO (a7 W) [dF g A e]) (aT:e.u.au.length<=100000):
  Calls Tryd.prog 15 #[rC g] W λx w'=>(∃y:fa,x= .returned (.slice y.1 e.u.au.length y.2)/\dw (a7 W) [dF g A e] (a7 w') [dF g A e,fY oK 4 kh (.slice y.1 e.u.au.length y.2) e.u.au])/\cO 0 W w':=by
 obtain⟨⟨li,fL,go,nw,oS,re,it,sh⟩,b,table,cells,known,most⟩:=e;have ay:=h.CX;refine(YO.any W (xa:=h0 (rB A ⟨⟨li,fL,go,nw,oS,re,it,sh⟩,b,table,cells,known,most⟩) 0) (av:=h0 (rB A ⟨⟨li,fL,go,nw,oS,re,it,sh⟩,b,table,cells,known,most⟩) 18) (ay.pick [5,11] rfl) aT).mono λx w' aw=> ?_
 obtain⟨⟨y,rfl,t⟩,az⟩:=aw;have t2:=dw.lift (L':=[fY oK 4 kh (e6 A.l) li,cb g lF (rB A ⟨⟨li,fL,go,nw,oS,re,it,sh⟩,b,table,cells,known,most⟩)]) (N:=[fY oK 4 kh (.slice y.1 li.length y.2) li]) ay [5,11] J J J t;exact⟨⟨y,rfl,dw.Pt t2⟩,az⟩
theorem aih (W:aG) {g:Nat} {A:fx} {e:eD} (h:dO (a7 W) [dF g A e]) (aT:e.known.length<=100000):
  Calls Tryd.prog 17 #[rC g] W λx w'=>(∃y:fa,x= .returned (.slice y.1 e.known.length y.2)/\dw (a7 W) [dF g A e] (a7 w') [dF g A e,fY mT 1 iw (.slice y.1 e.known.length y.2) e.known])/\cO 0 W w':=by
 obtain⟨⟨li,fL,go,nw,oS,re,it,sh⟩,b,table,cells,known,most⟩:=e;have ay:=h.CX;refine(YQ.any W (xa:=h0 (rB A ⟨⟨li,fL,go,nw,oS,re,it,sh⟩,b,table,cells,known,most⟩) 0) (av:=h0 (rB A ⟨⟨li,fL,go,nw,oS,re,it,sh⟩,b,table,cells,known,most⟩) 15) (ay.pick [10,11] rfl) aT).mono λx w' aw=> ?_
 obtain⟨⟨y,rfl,t⟩,az⟩:=aw;have t2:=dw.lift (L':=[fY mT 1 iw (e6 A.k) known,cb g lF (rB A ⟨⟨li,fL,go,nw,oS,re,it,sh⟩,b,table,cells,known,most⟩)]) (N:=[fY mT 1 iw (.slice y.1 known.length y.2) known]) ay [10,11] J J J t;exact⟨⟨y,rfl,dw.Pt t2⟩,az⟩
theorem aii (W:aG) {g:Nat} {A:fx} {e:eD} (h:dO (a7 W) [dF g A e]) (aT:e.cells.length<=100000):
  Calls Tryd.prog 22 #[rC g] W λx w'=>(∃y:fa,x= .returned (ov e.b (.slice y.1 e.cells.length y.2))/\dw (a7 W) [dF g A e] (a7 w') [dF g A e,fY lD 1 gq (.slice y.1 e.cells.length y.2) e.cells])/\cO 0 W w':=by
 obtain⟨⟨li,fL,go,nw,oS,re,it,sh⟩,b,table,cells,known,most⟩:=e;have ay:=h.CX;refine(Y5.any W (xa:=h0 (rB A ⟨⟨li,fL,go,nw,oS,re,it,sh⟩,b,table,cells,known,most⟩) 7) (ay.pick [9,11] rfl) aT).mono λx w' aw=> ?_
 obtain⟨⟨y,rfl,t⟩,az⟩:=aw;have t2:=dw.lift (L':=[fY lD 1 gq (e6 A.c) cells,cb g lF (rB A ⟨⟨li,fL,go,nw,oS,re,it,sh⟩,b,table,cells,known,most⟩)]) (N:=[fY lD 1 gq (.slice y.1 cells.length y.2) cells]) ay [9,11] J J J t;exact⟨⟨y,rfl,dw.Pt t2⟩,az⟩
def qR (e:eD) (p:gK) (c:Int):eD:={e with u:={e.u with reqs:=zK e.b e.most p e.u.reqs c (cE e.b p,c,e.known.getD (cE e.b p) default)},cells:=CZ e.b e.most p e.u.reqs c e.cells c}
def tV (e:eD) (p:gK) (k:Bool):eD:={e with u:={e.u with reqs:=n0 e.b e.most p e.u.reqs (cE e.b p,e.cells.getD (cE e.b p) default,k)},known:=qQ e.b e.most p e.u.reqs e.known k}
theorem Ze (W:aG) {g:Nat} {A:fx} {e:eD} (h:dO (a7 W) [dF g A e]) (p:gK) (c:Int) (ai:okB e.b) (az:e.cells.length=(gj e.b).toNat) (ao:e.known.length=e.cells.length) (ar:e.u.reqs.length<=400000):
  Calls Tryd.prog 18 #[rC g,P.val p,.int .i64 c] W λx w'=>(∃bK:fx,x= .returned (.int .i64 (pV e.b e.most p e.u.reqs c))/\dw (a7 W) [dF g A e] (a7 w') [dF g bK (qR e p c)])/\cO 0 W w':=by
 obtain⟨⟨li,fL,go,nw,oS,re,it,sh⟩,b,table,cells,known,most⟩:=e;have ay:=h.CX;refine(Y0.any W (xa:=h0 (rB A ⟨⟨li,fL,go,nw,oS,re,it,sh⟩,b,table,cells,known,most⟩) 7) (av:=h0 (rB A ⟨⟨li,fL,go,nw,oS,re,it,sh⟩,b,table,cells,known,most⟩) 15) (xc:=h0 (rB A ⟨⟨li,fL,go,nw,oS,re,it,sh⟩,b,table,cells,known,most⟩) 20) (ay.pick [0,9,10,11] rfl) p c ai az ao ar).mono λx w' aw=> ?_
 obtain⟨⟨y,rfl,t⟩,az⟩:=aw;have t2:=dw.Lv ay [0,9,10,11] J J J t;exact⟨⟨{A with q:=y},rfl,t2.packed⟩,az⟩
theorem Zf (W:aG) {g:Nat} {A:fx} {e:eD} (h:dO (a7 W) [dF g A e]) (p:gK) (k:Bool) (ai:okB e.b) (az:e.cells.length=(gj e.b).toNat) (ao:e.known.length=e.cells.length) (ar:e.u.reqs.length<=400000):
  Calls Tryd.prog 19 #[rC g,P.val p,.bool k] W λx w'=>(∃bK:fx,x= .returned (.int .i64 (l4 e.b e.most p e.u.reqs))/\dw (a7 W) [dF g A e] (a7 w') [dF g bK (tV e p k)])/\cO 0 W w':=by
 obtain⟨⟨li,fL,go,nw,oS,re,it,sh⟩,b,table,cells,known,most⟩:=e;have ay:=h.CX;refine(Y1.any W (xa:=h0 (rB A ⟨⟨li,fL,go,nw,oS,re,it,sh⟩,b,table,cells,known,most⟩) 7) (av:=h0 (rB A ⟨⟨li,fL,go,nw,oS,re,it,sh⟩,b,table,cells,known,most⟩) 15) (xc:=h0 (rB A ⟨⟨li,fL,go,nw,oS,re,it,sh⟩,b,table,cells,known,most⟩) 20) (ay.pick [0,9,10,11] rfl) p k ai az ao ar).mono λx w' aw=> ?_
 obtain⟨⟨y,rfl,t⟩,az⟩:=aw;have t2:=dw.Lv ay [0,9,10,11] J J J t;exact⟨⟨{A with q:=y},rfl,t2.packed⟩,az⟩
def n1 (b:cx) (cells:List Int) (table:List dx) (known:List Bool) (most:Int):eD:=
 ⟨⟨List.replicate cells.length Aw,[],[],List.range cells.length,kK cells.length cells.length,[],cells,xq known cells.length⟩,b,table,cells,xq known cells.length,most⟩
theorem Zg (W:aG) {b_:Option Addr} {b3 ca:Nat} {cells:List Int} (hT:dr (a7 W) 1 gq (.slice b_ b3 ca) cells) {b:cx} {ow ox:ad} {table:List dx} {known:List Bool} (bw:dr (a7 W) 8 js ow table) (hZ:dr (a7 W) 1 iw ox known) (most:Int)
  (d_:oH (a7 W)) (aT:cells.length<=10000) (iv:b3=cells.length) (rU:known.length<=100000) (zI:table.length<=100000):
  Calls Tryd.prog 9 #[ov b (.slice b_ b3 ca),ow,ox,.int .i64 most] W λx w'=>(if qP b cells table known most then (∃(g:Nat) (A:fx),x= .returned (.tuple ⟨[rC g,.int .i64 0]⟩)/\dw (a7 W) [] (a7 w') [dF g A (n1 b cells table known most)]) else x= .returned (.tuple ⟨[.pointer none,.int .i64 1]⟩))/\cO W.heap.size W w':=by
 refine(Y6.any W hT bw hZ most d_ aT iv rU zI).mono λx w' aw=> ?_
 obtain⟨h,az⟩:=aw;refine⟨?_,az⟩;split at h
 ·rename_i ai
  rw[aP ai];obtain⟨g,y,rfl,t⟩:=h;have hp:dw (a7 W) [] (a7 w') [dF g ⟨(none,0),(none,0),(none,0),y.1,y.2.1,y.2.2.1,y.2.2.2.1,y.2.2.2.2.1,y.2.2.2.2.2.1,y.2.2.2.2.2.2.1,y.2.2.2.2.2.2.2⟩ (n1 b cells table known most)]:=⟨t.sp.packed,t.keeps,λb ai=>t.fresh b (Ek.1 ai)⟩;exact⟨g,_,rfl,hp⟩
 ·rename_i ai
  rw[aV ai];exact h
end a1
namespace a1
theorem RB {table:List dx} (h:(nZ table).2=0):XX table:=by
 have aR:∀i,i<table.length->iz (table.getD i default):=by
  unfold nZ at h;split at h
  ·cases h
  ·split at h
   ·cases h
   ·split at h
    ·cases h
    ·split at h
     ·rename_i i ak
      simp only at h;split at h<;>cases h
     ·rename_i uv
      intro i ak;have:=List.find?_eq_none.1 uv i (List.mem_range.2 ak);simp only [decide_eq_true_eq] at this;unfold zF at this;exact Classical.not_not.1 λae=>this (.inl ae)
 intro c;unfold bA;split
 ·rename_i aA
  have:=aR c.toNat aj;unfold iz at this;obtain⟨_,_,af,ah,aH,ck,dd,dM,gW,qu⟩:=this;refine⟨af,ah,λi ak=> ?_⟩
  match i,ak with
  |0,_=>exact⟨aH,ck⟩
  |1,_=>exact⟨dd,dM⟩
  |2,_=>exact⟨gW,qu⟩
 ·refine⟨aL,aL,λi ak=> ?_⟩
  match i,ak with
  |0,_=>exact⟨aL,aL⟩
  |1,_=>exact⟨aL,aL⟩
  |2,_=>exact⟨aL,aL⟩
theorem aij {b:cx} {cells:List Int} {table:List dx} {known:List Bool} (h:zG b cells table known=0):Lt b cells table known:=by
 unfold zG at h;split at h
 ·assumption
 ·cases h
theorem aik {known:List Bool} {n:Nat} (h:known.length=0\/known.length=n):(xq known n).length=n:=by
 unfold xq;split
 ·simp
 ·omega
theorem Zh (n:Nat):kK n n=List.replicate n true:=X' n
theorem ail {b:cx} {cells:List Int} {table:List dx} {known:List Bool} {most:Int} (h:qP b cells table known most) (aT:cells.length<=10000):
  hn table b (n1 b cells table known most).u/\(n1 b cells table known most).cells.length=(n1 b cells table known most).u.aX.length/\(n1 b cells table known most).known.length=(n1 b cells table known most).u.aX.length/\iy b (n1 b cells table known most).u<=361*cells.length:=by
 obtain⟨af,⟨ah,aH,ck,dd,dM⟩,gW⟩:=aij h.1;have ao:=aik gW;have aR:(gj b).toNat=cells.length:=by omega
 have kN:(hG b).N=cells.length:=(QZ ah).trans aR;have de:eK (List.replicate cells.length Aw)=λ_ _=>0:=by
  funext k c;unfold eK;have:(List.replicate cells.length Aw).getD k z4=z4:=by
   rw[eP,List.getElem?_replicate];split<;>rfl
  rw[this];exact Gs c
 have a_:(jz table (n1 b cells table known most).u.lit (n1 b cells table known most).u.aX).rT (hG b).N:=⟨λk _=>(RB af _).1,λk c _ aA=>(RB af _).2.2 c aA⟩;have hw:rV (hG b) (jz table (n1 b cells table known most).u.lit (n1 b cells table known most).u.aX) (iq (n1 b cells table known most).u):=by
  refine⟨by show (List.replicate cells.length Aw).length=_;rw[nz,kN],⟨?_,?_,?_,?_⟩,λ_=>⟨rfl,?_⟩,λdU=>absurd rfl dU⟩
  ·show (kK cells.length cells.length).length=_
   rw[Zh,nz,kN]
  ·exact List.nodup_range
  ·intro k ao
   rw[kN];exact List.mem_range.1 ao
  ·intro k ao
   rw[kN] at ao;show (kK cells.length cells.length).getD k false=true↔k∈List.range cells.length;rw[Zh,eP,List.getElem?_replicate,aP ao];simp [ao]
  ·show qE (hG b) _ (eK (List.replicate cells.length Aw)) (· ∈List.range cells.length)
   rw[de];exact qE.zero a_ λk ao=>List.mem_range.2 (by rw[<-kN];exact ao)
 have aim:nN (hG b).N (iq (n1 b cells table known most).u)<=361*cells.length:=by
  unfold nN;rw[aP (show (iq (n1 b cells table known most).u).aQ=[] from rfl)];have:=VR hw;have bg:(iq (n1 b cells table known most).u).aE.length=cells.length:=List.length_range;omega
 refine⟨⟨RB af,ah,?_,?_,?_,hw,⟨λx aw=>(by cases aw),?_⟩,?_,λx aw=>(by cases aw)⟩,?_,?_,?_⟩
 ·show (xq known cells.length).length=_
  rw[ao,aR]
 ·show cells.length=(xq known cells.length).length
  rw[ao]
 ·show (xq known cells.length).length<=_
  rw[ao];exact aT
 ·have:=Gw (iq (n1 b cells table known most).u)
  show 0+_<=_;omega
 ·unfold qH
  rw[kN] at aim ⊢;omega
 ·exact ao.symm
 ·rfl
 ·unfold iy
  show nN (hG b).N (iq (n1 b cells table known most).u)+qH (hG b).N*0<=_;omega
end a1
namespace a1
abbrev oU:=Int×Int×Int×Int×Int×Bool
abbrev C1:bq:=39
theorem yp:bZ Tryd.prog (sizeOf C1)=some 6:=ag
theorem Ij:bZ Tryd.prog (isAgg C1)=some true:=ag
theorem zP:Tryd.prog.underlying 31=some (.slice C1):=ag
def A7 (x:Int×Int×Int×Int×Int×Bool):List ad:=[.int .i64 x.1,.int .i64 x.2.1,.int .i64 x.2.2.1,.int .i64 x.2.2.2.1,.int .i64 x.2.2.2.2.1,.bool x.2.2.2.2.2]
theorem ain:∀x,(A7 x).length=6:=λ_=>rfl
abbrev Y.val (x:oU):ad:= .agg ⟨A7 x⟩
def yq:List gJ->List Int×List Bool->List Int×List Bool
 |[],s=>s
 |x::r,s=>yq r (s.1.set x.1 x.2.1,s.2.set x.1 x.2.2)
structure i_ (e:eD):Prop where
 r':hn e.table e.b e.u
 lc:e.cells.length=e.u.aX.length
 q0:e.known.length=e.u.aX.length
 E0:e.u.reqs.length<=10000
 Aq:yq e.u.reqs (e.u.lit,e.u.aX)=(e.cells,e.known)
theorem i_.Ik {e:eD} (h:i_ e):e.cells.length=(gj e.b).toNat:=h.lc.trans h.r'.len
theorem i_.LF {e:eD} (h:i_ e):e.known.length=e.cells.length:=h.q0.trans h.lc.symm
theorem i_.LG {e:eD} (h:i_ e):e.u.reqs.length<=400000:=Nat.le_trans h.E0 aL
def ta (e:eD) (n:Int):eD:={e with u:=(i' e.table e.b n.toNat e.u).2}
def rD (e:eD):eD:={e with u:=(i' e.table e.b (iy e.b e.u) e.u).2}
def tW (x:oU):gK:=(x.2.2.1,x.2.2.2.1,x.2.2.2.2.1)
def nx (e:eD) (x:oU):eD:=if x.1=1 then qR e (tW x) x.2.1 else if x.1=2 then tV e (tW x) x.2.2.2.2.2 else if x.1=3 then ta e x.2.1 else if x.1=4 then rD e else e
def rE (e:eD) (x:oU):Int:=if x.1=1 then pV e.b e.most (tW x) e.u.reqs x.2.1 else if x.1=2 then l4 e.b e.most (tW x) e.u.reqs else 0
theorem E1 {e:eD} {x:oU} (h:x.1=1):nx e x=qR e (tW x) x.2.1/\rE e x=pV e.b e.most (tW x) e.u.reqs x.2.1:=⟨aP h,aP h⟩
theorem E2 {e:eD} {x:oU} (af:¬x.1=1) (h:x.1=2):nx e x=tV e (tW x) x.2.2.2.2.2/\rE e x=l4 e.b e.most (tW x) e.u.reqs:=by
 unfold nx rE;rw[aV af,aV af,aP h,aP h];exact⟨rfl,rfl⟩
theorem Il {e:eD} {x:oU} (af:¬x.1=1) (ah:¬x.1=2) (h:x.1=3):nx e x=ta e x.2.1/\rE e x=0:=by
 unfold nx rE;rw[aV af,aV af,aV ah,aV ah,aP h];exact⟨rfl,rfl⟩
theorem Im {e:eD} {x:oU} (af:¬x.1=1) (ah:¬x.1=2) (aH:¬x.1=3) (h:x.1=4):nx e x=rD e/\rE e x=0:=by
 unfold nx rE;rw[aV af,aV af,aV ah,aV ah,aV aH,aP h];exact⟨rfl,rfl⟩
theorem Io {e:eD} {x:oU} (af:¬x.1=1) (ah:¬x.1=2) (aH:¬x.1=3) (h:¬x.1=4):nx e x=e/\rE e x=0:=by
 unfold nx rE;rw[aV af,aV af,aV ah,aV ah,aV aH,aV h];exact⟨rfl,rfl⟩
end a1
end Go.Proofs.YtepcfjbfkedlpaaDoor
namespace Go.Proofs.YtepcfjbfkedlpaaDoor
open Go Go.ChangeShapes Go.WideShapes Go.ChangeAt Go.RowKit
section
theorem LH:Tryd.prog.cellsOf 23=3:=ag
theorem aio:Tryd.prog.cellsOf 25=6:=ag
theorem aip:Tryd.prog.cellsOf 28=7:=ag
theorem Zi:Tryd.prog.cellsOf a1.C1=6:=ag
theorem aiq:Tryd.prog.cellsOf 26=1:=ag
theorem LI:Tryd.prog.underlying 23=some (.struct (Tryd.prog.fieldsOf 23)):=ag
theorem Zj:Tryd.prog.underlying 25=some (.struct (Tryd.prog.fieldsOf 25)):=ag
theorem RC:Tryd.prog.underlying 28=some (.struct (Tryd.prog.fieldsOf 28)):=ag
theorem Ip:Tryd.prog.underlying a1.C1=some (.struct (Tryd.prog.fieldsOf a1.C1)):=ag
section
variable {H:Type} {enc:bq×ad->H} {W:aG} {r:Reach} {cj:Nat} {base:Nat} {mz:Nat->Bool} {mA:Bool} {v:ad} {d:DataW H} {p:List MemPlace}
theorem Zk {t n k:Nat} {cs:List ad} {x:DataW H×List MemPlace} (hu:Tryd.prog.underlying t=some (.struct (Tryd.prog.fieldsOf t))) (ao:Tryd.prog.cellsOf t=k) (h:DataW.trod enc Tryd.prog W base mz mA n t cs=some x):cs.length=k:=by
 obtain⟨_,_,_,_,hlen,_,_⟩:=DataW.trod_struct hu h;rw[hlen,ao]
theorem E3 {n:Nat} {cs:List ad} {x:DataW H×List MemPlace} (h:DataW.trod enc Tryd.prog W base mz mA n 3 cs=some x):∃z:Int,cs=[.int .i64 z]:=by
 obtain⟨z,e,_⟩:=DataW.trod_int Tryd.underlying3 h;exact⟨z,e⟩
theorem Zl {n:Nat} {cs:List ad} {x:DataW H×List MemPlace} (h:DataW.trod enc Tryd.prog W base mz mA n 4 cs=some x):∃z:Bool,cs=[.bool z]:=by
 obtain⟨z,e,_⟩:=DataW.trod_bool Tryd.underlying4 h;exact⟨z,e⟩
theorem RD {n:Nat} {cs:List ad} {x:DataW H×List MemPlace} (h:DataW.trod enc Tryd.prog W base mz mA n 23 cs=some x):∃p:a1.gK,cs=[.int .i64 p.1,.int .i64 p.2.1,.int .i64 p.2.2]:=by
 have hlen:=Zk LI LH h;obtain⟨_,vi,bd,_⟩:=o7 (i:=0) (ty:=3) (off:=0) LI ag Ak h;obtain⟨_,yQ,af,_⟩:=o7 (i:=1) (ty:=3) (off:=1) LI ag Ak h;obtain⟨_,F2,ah,_⟩:=o7 (i:=2) (ty:=3) (off:=2) LI ag Ak h;obtain⟨z0,b4⟩:=E3 bd;obtain⟨y0,bs⟩:=E3 af;obtain⟨z2,cw⟩:=E3 ah
 match cs,hlen,b4,bs,cw with
 |[eN,fP,ew],_,b4,bs,cw=>
  simp only [List.drop_zero,List.drop_succ_cons,List.take_succ_cons,List.take_zero,List.cons.injEq,and_true] at b4 bs cw;exact⟨(z0,y0,z2),by rw[b4,bs,cw]⟩
theorem air {n:Nat} {cs:List ad} {x:DataW H×List MemPlace} (h:DataW.trod enc Tryd.prog W base mz mA n a1.C1 cs=some x):∃s:a1.oU,cs=a1.A7 s:=by
 have hlen:=Zk Ip Zi h;obtain⟨_,vi,bd,_⟩:=o7 (i:=0) (ty:=3) (off:=0) Ip ag Ak h;obtain⟨_,yQ,af,_⟩:=o7 (i:=1) (ty:=3) (off:=1) Ip ag Ak h;obtain⟨_,F2,ah,_⟩:=o7 (i:=2) (ty:=23) (off:=2) Ip ag LH h;obtain⟨_,Vc,aH,_⟩:=o7 (i:=3) (ty:=4) (off:=5) Ip ag Al h;obtain⟨z0,b4⟩:=E3 bd;obtain⟨y0,bs⟩:=E3 af;obtain⟨z2,cw⟩:=RD ah;obtain⟨z3,dD⟩:=Zl aH
 match cs,hlen,b4,bs,cw,dD with
 |[eN,fP,ew,qX,Bk,F5],_,b4,bs,cw,dD=>
  simp only [List.drop_zero,List.drop_succ_cons,List.take_succ_cons,List.take_zero,List.cons.injEq,and_true] at b4 bs cw dD;exact⟨(z0,y0,z2.1,z2.2.1,z2.2.2,z3),by rw[b4,bs,cw.1,cw.2.1,cw.2.2,dD];rfl⟩
theorem Zm {α:Type} [Inhabited α] {kh:α->List ad} {k t e:Nat} (hu:Tryd.prog.underlying t=some (.slice e)) (ao:Tryd.prog.cellsOf e=k) (ji:0<k) (LJ:∀x,(kh x).length=k)
  (yP:∀n cs x,DataW.trod enc Tryd.prog W base mz mA n e cs=some x->∃s:α,cs=kh s) {bN:Nat} {Fh:List ad} {x:DataW H×List MemPlace} (h:DataW.trod enc Tryd.prog W base mz mA bN t Fh=some x):
  ∃(a:Option Addr) (n c:Nat) (l:List α),Fh=[.slice a n c]/\a1.dr (a1.a7 W) k kh (.slice a n c) l/\n=l.length:=by
 rcases Deep.open_slice hu h with ⟨hJ,_⟩|⟨a,len,cap,m,n,adE,adF,hJ,ai,az,hm,wh,aw,ak⟩
 ·exact⟨none,0,0,[],hJ,.nil _ _,rfl⟩
 ·have tn:len<=m:=by rw[wh];split<;>omega
  have Ce:∀i,i<len->∃s:α,∀j u,(kh s)[j]? =some u->W.cell? (a.add (i*k+j))=some u:=λi q'=>by
   obtain⟨cs',aA,bw⟩:=ak i aj;rw[ao] at aA;obtain⟨s,rfl⟩:=yP _ _ _ bw;obtain⟨_,_,Cf⟩:=World.cells?_some aA;refine⟨s,λj u aq=> ?_⟩;have Og:j<k:=by have:=(List.getElem?_eq_some_iff.1 aq).1;rwa [LJ] at this
   rw[<-Deep.add_add,Cf j Og];exact aq
  let f:Nat->α:=λi=>if h:i<len then (Ce i h).choose else default
  have bn:∀i,i<len->∀j u,(kh (f i))[j]? =some u->W.cell? (a.add (i*k+j))=some u:=λi q'=>by
   show ∀j u,(kh (if h:i<len then (Ce i h).choose else default))[j]? =some u->_;rw[dif_pos q'];exact(Ce i q').choose_spec
  have hlen:((List.range len).map f).length=len:=by simp
  refine⟨some a,len,cap,(List.range len).map f,hJ,?_,hlen.symm⟩;rcases Nat.eq_zero_or_pos len with bd|bd
  ·subst bd
   exact .nil _ _
  ·obtain⟨rQ,ais⟩:∃rQ,(kh (f 0))[0]? =some rQ:=⟨_,ig (by rw[LJ];exact ji)⟩
   have oI:=bn 0 bd 0 _ ais;rw[Nat.zero_mul,Nat.zero_add] at oI;obtain⟨bJ,off,spot⟩:=a;have Oh:∃cs ty fr,W.heap[bJ]? =some (.cells cs ty fr)/\spot=none:=by
    unfold World.cell? at oI;split at oI
    ·rename_i fP t1 f1 nf
     split at oI
     ·cases oI
     ·rename_i kQ
      refine⟨fP,t1,f1,nf,?_⟩;cases spot with
      |none=>rfl
      |some x=>exact absurd rfl kQ
    ·cases oI
   obtain⟨cs,ty,fr,kL,rfl⟩:=Oh;have key:a1.dr (a1.a7 W) k kh (.slice (some ⟨bJ,off,none⟩) ((List.range len).map f).length cap) ((List.range len).map f):=by
    refine .mk (cs:=cs) (ty:=ty) (fr:=fr) kL (by rw[hlen];exact az) λi x aw j u aq=> ?_
    have q':i<len:=by
     have:=(List.getElem?_eq_some_iff.1 aw).1
     rwa [hlen] at this
    have Oi:x=f i:=by
     rw[List.getElem?_map,List.getElem?_range q'] at aw;exact(Option.some.inj aw).symm
    subst Oi;have:=bn i q' j u aq;rw[a1.Addr.ly,cell_of_row W _ _ _ _ _ kL,<-Nat.add_assoc] at this;exact this
   rw[hlen] at key;exact key
theorem Zn {α:Type} [Inhabited α] {kh:α->List ad} {k t e:Nat} (hu:Tryd.prog.underlying t=some (.slice e)) (ao:Tryd.prog.cellsOf e=k) (ji:0<k) (LJ:∀x,(kh x).length=k)
  (yP:∀n cs x,DataW.trod enc Tryd.prog W base mz mA n e cs=some x->∃s:α,cs=kh s) (aR:Value.okWide Tryd.prog W r cj t v) (h:DataW.Trod enc Tryd.prog W base mz mA t v d p):∃l:List α,a1.dr (a1.a7 W) k kh v l:=by
 obtain⟨a0,Cc,Cd,rfl⟩:=okWide_slice hu aR;obtain⟨bN,h⟩:=h;obtain⟨a,n,c,l,af,ah,_⟩:=Zm hu ao ji LJ yP h;have e:Value.slice a0 Cc Cd= .slice a n c:=(List.cons.inj (show [Value.slice a0 Cc Cd]=[.slice a n c] from af)).1;rw[e];exact⟨l,ah⟩
theorem ait (aR:Value.okWide Tryd.prog W r cj 30 v) (h:DataW.Trod enc Tryd.prog W base mz mA 30 v d p):∃l:List Bool,a1.dr (a1.a7 W) 1 a1.iw v l:=
 Zn Tryd.underlying30 Al aL (λ_=>rfl) (λ_ _ _ h=>Zl h) aR h
theorem aiu (aR:Value.okWide Tryd.prog W r cj 31 v) (h:DataW.Trod enc Tryd.prog W base mz mA 31 v d p):∃l:List a1.oU,a1.dr (a1.a7 W) 6 a1.A7 v l:=
 Zn Tryd.underlying31 Zi aL a1.ain (λ_ _ _ h=>air h) aR h
theorem aiv {cs:Array ad} (h:cs.size=7):∃a b c d e f g,cs= #[a,b,c,d,e,f,g]:=by
 obtain⟨l⟩:=cs
 match l,h with
 |[a,b,c,d,e,f,g],_=>exact⟨a,b,c,d,e,f,g,rfl⟩
theorem aiw (aR:Value.okWide Tryd.prog W r cj 28 v) (h:DataW.Trod enc Tryd.prog W base mz mA 28 v d p):∃(b:a1.cx) (a:Option Addr) (n c:Nat) (cells:List Int),v=a1.ov b (.slice a n c)/\a1.dr (a1.a7 W) 1 a1.gq (.slice a n c) cells/\n=cells.length:=by
 obtain⟨cs,rfl,dV⟩:=okWide_struct RC aR;rw[aip] at dV;obtain⟨gI,fp,hP,ib,iT,jg,jG,rfl⟩:=aiv dV;obtain⟨bN,h⟩:=h;obtain⟨_,vi,bd,_⟩:=o7 (i:=0) (ty:=25) (off:=0) RC ag aio h;obtain⟨_,yQ,af,_⟩:=o7 (i:=1) (ty:=26) (off:=6) RC ag aiq h;obtain⟨_,z0,cJ,_⟩:=o7 (i:=0) (ty:=23) (off:=0) Zj ag LH bd;obtain⟨_,y0,g1,_⟩:=o7 (i:=1) (ty:=23) (off:=3) Zj ag LH bd;obtain⟨ea,b4⟩:=RD cJ;obtain⟨q1,bs⟩:=RD g1;obtain⟨a,n,c,l,cw,oE,aT⟩:=Zm (kh:=a1.gq) Tryd.underlying26 Ak aL (λ_=>rfl) (λ_ _ _ h=>E3 h) af;have f0:[gI,fp,hP]=[.int .i64 ea.1,.int .i64 ea.2.1,.int .i64 ea.2.2]:=b4;have f1:[ib,iT,jg]=[.int .i64 q1.1,.int .i64 q1.2.1,.int .i64 q1.2.2]:=bs;have f2:[jG]=[.slice a n c]:=cw;simp only [List.cons.injEq,and_true] at f0 f1 f2;refine⟨(ea.1,ea.2.1,ea.2.2,q1.1,q1.2.1,q1.2.2),a,n,c,l,?_,oE,aT⟩;rw[f0.1,f0.2.1,f0.2.2,f1.1,f1.2.1,f1.2.2,f2]
end
theorem aix {H:Type} {enc:bq×ad->H} {P:bB} {w:aG} {base:Nat} {mz:Nat->Bool} {mA:Bool} {t0 t1 t2 t3 t4:bq} {args:Array ad} {ds:List (DataW H)} {ps:List MemPlace} (h:DataW.TrodAll enc P w base mz mA [t0,t1,t2,t3,t4] args.toList ds ps):
  ∃v0 v1 hB v3 v4 Iq Ir qV Is Iu lM jc hY oa rN,args= #[v0,v1,hB,v3,v4]/\ds=[Iq,Ir,qV,Is,Iu]/\ps=lM++jc++hY++oa++rN/\DataW.Trod enc P w base mz mA t0 v0 Iq lM/\DataW.Trod enc P w base mz mA t1 v1 Ir jc/\DataW.Trod enc P w base mz mA t2 hB qV hY/\DataW.Trod enc P w base mz mA t3 v3 Is oa/\DataW.Trod enc P w base mz mA t4 v4 Iu rN:=by
 obtain⟨v0,aly,Iq,alz,lM,ea,hW,rfl,rfl,bd,jq⟩:=trodAll_cons h;obtain⟨v1,alA,Ir,DG,jc,q1,rfl,rfl,rfl,af,c9⟩:=trodAll_cons jq;obtain⟨hB,alB,qV,D7,hY,aI,rfl,rfl,rfl,ah,eF⟩:=trodAll_cons c9;obtain⟨v3,alC,Is,acr,oa,bS,rfl,rfl,rfl,aH,hx⟩:=trodAll_cons eF;obtain⟨v4,alD,Iu,alE,rN,fo,rfl,rfl,rfl,ck,xA⟩:=trodAll_cons hx;obtain⟨rfl,rfl,rfl⟩:=trodAll_nil xA;exact⟨v0,v1,hB,v3,v4,Iq,Ir,qV,Is,Iu,lM,jc,hY,oa,rN,by cases args;simp_all,rfl,by simp,bd,af,ah,aH,ck⟩
end
end Go.Proofs.YtepcfjbfkedlpaaDoor
namespace Go.Proofs.YtepcfjbfkedlpaaDoor
open Go Go.Proofs Go.RowKit
namespace a1
theorem Zo:∀(l:List gJ) (x:gJ) (s:List Int×List Bool),yq (l++[x]) s=((yq l s).1.set x.1 x.2.1,(yq l s).2.set x.1 x.2.2)
 |[],_,_=>rfl
 |_::l,x,s=>Zo l x _
variable {table:List dx} {b:cx}
theorem aiy (u:gY):yq (fK table b u).2.reqs ((fK table b u).2.lit,(fK table b u).2.aX)=yq u.reqs (u.lit,u.aX)/\(fK table b u).2.reqs.length<=u.reqs.length:=by
 by_cases af:0<u.aQ.length
 ·rw[Ew af]
  obtain⟨q1,aI,bS⟩:=X2 (table:=table) (b:=b) u (u.aQ.getD 0 default) (u.aQ.drop 1);dsimp only;rw[q1,aI,bS];exact⟨rfl,c4 _⟩
 ·by_cases ah:0<u.aE.length
  ·rw[Ex af ah]
   obtain⟨q1,aI,bS⟩:=X3 (table:=table) (b:=b) u (u.aE.getD 0 default) (u.aE.drop 1);dsimp only;rw[q1,aI,bS];exact⟨rfl,c4 _⟩
  ·by_cases aH:0<u.reqs.length
   ·rw[HA af ah aH]
    have:=H3 (d:=default) (List.length_pos_iff.1 aH);refine⟨?_,?_⟩
    ·conv=>rhs;rw[this]
     rfl
    ·show (u.reqs.drop 1).length<=_
     rw[List.length_drop];omega
   ·rw[Ey af ah aH]
    exact⟨rfl,c4 _⟩
theorem LK:∀(f:Nat) (u:gY),yq (i' table b f u).2.reqs ((i' table b f u).2.lit,(i' table b f u).2.aX)=yq u.reqs (u.lit,u.aX)/\(i' table b f u).2.reqs.length<=u.reqs.length
 |0,_=>⟨rfl,c4 _⟩
 |f+1,u=>by
  unfold i';split
  ·obtain⟨q1,aI⟩:=LK f (fK table b u).2
   obtain⟨c9,eF⟩:=aiy (table:=table) (b:=b) u;exact⟨q1.trans c9,Nat.le_trans aI eF⟩
  ·exact⟨rfl,c4 _⟩
def po (e:eD):Prop:=e.u.aQ.length=0/\e.u.aE.length=0/\e.u.reqs.length=0
instance (e:eD):Decidable (po e):=by unfold po;infer_instance
def u2 (e:eD):Nat:=iy e.b e.u
def qp (e:eD) (n:Int):Nat:=(i' e.table e.b n.toNat e.u).1
def r_ (e:eD):Nat:=(i' e.table e.b (iy e.b e.u) e.u).1
theorem Zp {u:gY} (h:(fK table b u).1=false):u.aQ.length=0/\u.aE.length=0/\u.reqs.length=0:=by
 by_cases af:0<u.aQ.length
 ·rw[Ew af] at h;cases h
 ·by_cases ah:0<u.aE.length
  ·rw[Ex af ah] at h;cases h
  ·by_cases aH:0<u.reqs.length
   ·rw[HA af ah aH] at h;cases h
   ·exact⟨aj,aj,aj⟩
theorem Zq {e:eD} (h:po e):∀n,i' e.table e.b n e.u=(0,e.u)
 |0=>rfl
 |n+1=>by
  unfold po at h;have:fK e.table e.b e.u=(false,e.u):=Ey aj aj aj;unfold i';rw[this];rfl
theorem Zr {e:eD} (h:po e) (n:Int):qp e n=0/\ta e n=e:=by
 unfold qp ta;rw[Zq h];exact⟨rfl,rfl⟩
theorem aiz {e:eD} (h:po e):r_ e=0/\rD e=e:=by
 unfold r_ rD;rw[Zq h];exact⟨rfl,rfl⟩
theorem i_.run {e:eD} (h:i_ e) (f:Nat) {u':gY} (hu:u'=(i' e.table e.b f e.u).2) (bg:hn e.table e.b u'):i_ {e with u:=u'}:=by
 subst hu;obtain⟨q1,aI⟩:=LK (table:=e.table) (b:=e.b) f e.u;have az:=bg.len.trans h.r'.len.symm;exact⟨bg,h.lc.trans az.symm,h.q0.trans az.symm,Nat.le_trans aI h.E0,q1.trans h.Aq⟩
theorem i_.Iv {e:eD} (h:i_ e) (n:Int):i_ (ta e n)/\qp e n<=n.toNat/\(qp e n<n.toNat->po (ta e n))/\qp e n+u2 (ta e n)<=u2 e/\(ta e n).u.reqs.length<=e.u.reqs.length:=by
 obtain⟨q1,aI⟩:=h.r'.run n.toNat;obtain⟨c9,_,_,xA⟩:=Lp (table:=e.table) (b:=e.b) n.toNat e.u;refine⟨h.run n.toNat rfl q1,c9,λc_=> ?_,aI,(LK (table:=e.table) (b:=e.b) n.toNat e.u).2⟩;have aT:=xA.resolve_left (Nat.ne_of_lt c_);exact Zp aT
theorem i_.set {e:eD} (h:i_ e):i_ (rD e)/\po (rD e)/\r_ e+u2 (rD e)<=u2 e/\(rD e).u.reqs.length<=e.u.reqs.length:=by
 obtain⟨q1,aI,bS⟩:=h.r'.settle;exact⟨h.run _ rfl q1,Zp aI,bS,(LK (table:=e.table) (b:=e.b) _ e.u).2⟩
theorem i_.full {e:eD} (h:i_ e) (ay:po e):y4 (hG e.b) (jz e.table e.cells e.known) (eK e.u.au)/\e.u.lit=e.cells/\e.u.aX=e.known:=by
 unfold po at ay;have aT:fK e.table e.b e.u=(false,e.u):=Ey aj aj aj;obtain⟨_,_,_,ar,_,bn⟩:=h.r'.done (by rw[aT]);have hp:=h.Aq;rw[ar] at hp;have af:e.u.lit=e.cells:=congrArg Prod.fst hp;have ah:e.u.aX=e.known:=congrArg Prod.snd hp;rw[af,ah] at bn;exact⟨bn,af,ah⟩
def refuse (e:eD) (p:gK):Prop:=e.most<=((e.u.reqs.length:Nat):Int)
theorem Zs {α:Type} {l:List α} {k:Nat} {d:α}:l.set k (l.getD k d)=l:=by
 apply List.ext_getElem?;intro i;rw[List.getElem?_set];split
 ·rename_i ao
  subst ao;split
  ·rename_i az
   rw[eP,ig az];rfl
  ·rename_i az
   exact(List.getElem?_eq_none aj).symm
 ·rfl
theorem i_.ask {e:eD} (h:i_ e) (ar:e.u.reqs.length<10000) {p:gK} (hp:fz p e.b) {x:gJ} (aw:x.1=cE e.b p) {c:List Int} {k:List Bool} (aA:c=e.cells.set (cE e.b p) x.2.1) (ao:k=e.known.set (cE e.b p) x.2.2):
  i_ {e with u:={e.u with reqs:=e.u.reqs++[x]},cells:=c,known:=k}/\iy e.b {e.u with reqs:=e.u.reqs++[x]}=u2 e+qH (hG e.b).N:=by
 have az:x.1<e.u.aX.length:=by rw[aw,h.r'.len];exact Rm hp
 obtain⟨q1,aI⟩:=h.r'.ask az;refine⟨⟨q1,?_,?_,?_,?_⟩,aI⟩
 ·subst aA;exact(List.length_set).trans h.lc
 ·subst ao;exact(List.length_set).trans h.q0
 ·show (e.u.reqs++[x]).length<=10000
  rw[List.length_append,List.length_singleton];omega
 ·show yq (e.u.reqs++[x]) _=_
  rw[Zo,h.Aq,aA,ao,aw]
theorem RE {e:eD} {p:gK} {c:Int} (h:pV e.b e.most p e.u.reqs c≠0):qR e p c=e:=by
 obtain⟨u,b,table,cells,known,most⟩:=e;by_cases aA:zJ c
 ·have aT:¬acc b most p u.reqs.length:=λq=>h (by unfold pV l4;dsimp only;rw[aP aA,aP q.1,aV q.2])
  unfold qR zK CZ n0 qQ;dsimp only;rw[aV aT,aV aT,ite_self,ite_self]
 ·unfold qR zK CZ
  dsimp only;rw[aV aA,aV aA]
theorem aiA {e:eD} {p:gK} {k:Bool} (h:l4 e.b e.most p e.u.reqs≠0):tV e p k=e:=by
 obtain⟨u,b,table,cells,known,most⟩:=e;have aT:¬acc b most p u.reqs.length:=λq=>h (by unfold l4;dsimp only;rw[aP q.1,aV q.2])
 unfold tV n0 qQ;dsimp only;rw[aV aT,aV aT]
theorem aiB {e:eD} {p:gK} {c:Int} (h:pV e.b e.most p e.u.reqs c=0):zJ c/\fz p e.b/\¬e.most<=((e.u.reqs.length:Nat):Int)/\qR e p c={e with u:={e.u with reqs:=e.u.reqs++[(cE e.b p,c,e.known.getD (cE e.b p) default)]},cells:=e.cells.set (cE e.b p) c}:=by
 unfold pV l4 at h;split at h
 ·split at h
  ·split at h
   ·cases h
   ·rename_i af ah aH
    have hy:acc e.b e.most p e.u.reqs.length:=⟨ah,aH⟩;unfold qR zK CZ n0 qQ;rw[aP af,aP af,aP hy,aP hy];exact⟨af,ah,aH,rfl⟩
  ·cases h
 ·cases h
theorem aiC {e:eD} {p:gK} {k:Bool} (h:l4 e.b e.most p e.u.reqs=0):fz p e.b/\¬e.most<=((e.u.reqs.length:Nat):Int)/\tV e p k={e with u:={e.u with reqs:=e.u.reqs++[(cE e.b p,e.cells.getD (cE e.b p) default,k)]},known:=e.known.set (cE e.b p) k}:=by
 unfold l4 at h;split at h
 ·split at h
  ·cases h
  ·rename_i ah aH
   have hy:acc e.b e.most p e.u.reqs.length:=⟨ah,aH⟩;unfold tV n0 qQ;rw[aP hy,aP hy];exact⟨ah,aH,rfl⟩
 ·cases h
theorem i_.dP {e:eD} (h:i_ e) (ar:e.u.reqs.length<10000) (p:gK) (c:Int):i_ (qR e p c)/\(pV e.b e.most p e.u.reqs c=0->(qR e p c).u.reqs.length=e.u.reqs.length+1/\u2 (qR e p c)=u2 e+qH (hG e.b).N)/\(pV e.b e.most p e.u.reqs c≠0->qR e p c=e):=by
 by_cases bd:pV e.b e.most p e.u.reqs c=0
 ·obtain⟨_,hp,_,he⟩:=aiB bd
  rw[he];obtain⟨q1,aI⟩:=h.ask ar hp (x:=(cE e.b p,c,e.known.getD (cE e.b p) default)) J J Zs.symm;exact⟨q1,λ_=>⟨by show (e.u.reqs++[_]).length=_;rw[List.length_append,List.length_singleton],aI⟩,λaT=>absurd bd aT⟩
 ·rw[RE bd]
  exact⟨h,λaT=>absurd aT bd,λ_=>rfl⟩
theorem i_.bh {e:eD} (h:i_ e) (ar:e.u.reqs.length<10000) (p:gK) (k:Bool):i_ (tV e p k)/\(l4 e.b e.most p e.u.reqs=0->(tV e p k).u.reqs.length=e.u.reqs.length+1/\u2 (tV e p k)=u2 e+qH (hG e.b).N)/\(l4 e.b e.most p e.u.reqs≠0->tV e p k=e):=by
 by_cases bd:l4 e.b e.most p e.u.reqs=0
 ·obtain⟨hp,_,he⟩:=aiC (k:=k) bd
  rw[he];obtain⟨q1,aI⟩:=h.ask ar hp (x:=(cE e.b p,e.cells.getD (cE e.b p) default,k)) rfl Zs.symm rfl;exact⟨q1,λ_=>⟨by show (e.u.reqs++[_]).length=_;rw[List.length_append,List.length_singleton],aI⟩,λaT=>absurd bd aT⟩
 ·rw[aiA bd]
  exact⟨h,λaT=>absurd aT bd,λ_=>rfl⟩
theorem aiD (e:eD) (x:oU):(nx e x).b=e.b/\(nx e x).table=e.table/\(nx e x).most=e.most:=by
 unfold nx;split
 ·exact⟨rfl,rfl,rfl⟩
 ·split
  ·exact⟨rfl,rfl,rfl⟩
  ·split
   ·exact⟨rfl,rfl,rfl⟩
   ·split<;>exact⟨rfl,rfl,rfl⟩
theorem i_.do {e:eD} (h:i_ e) (ar:e.u.reqs.length<10000) (x:oU):i_ (nx e x)/\(nx e x).u.reqs.length<=e.u.reqs.length+1:=by
 unfold nx;split
 ·obtain⟨q1,aI,bS⟩:=h.dP ar (tW x) x.2.1
  refine⟨q1,?_⟩;by_cases bd:pV e.b e.most (tW x) e.u.reqs x.2.1=0
  ·rw[(aI bd).1];exact c4 _
  ·rw[bS bd];omega
 ·split
  ·obtain⟨q1,aI,bS⟩:=h.bh ar (tW x) x.2.2.2.2.2
   refine⟨q1,?_⟩;by_cases bd:l4 e.b e.most (tW x) e.u.reqs=0
   ·rw[(aI bd).1];exact c4 _
   ·rw[bS bd];omega
  ·split
   ·obtain⟨q1,_,_,_,iK⟩:=h.Iv x.2.1
    exact⟨q1,aj⟩
   ·split
    ·obtain⟨q1,_,_,iK⟩:=h.set
     exact⟨q1,aj⟩
    ·exact⟨h,aj⟩
theorem i_.RF {e:eD} (h:i_ e) (ar:e.u.reqs.length<10000) {x:oU} (aw:x.1=1\/x.1=2):(rE e x=0->(nx e x).u.reqs.length=e.u.reqs.length+1/\u2 (nx e x)=u2 e+qH (hG e.b).N)/\(rE e x≠0->nx e x=e):=by
 by_cases af:x.1=1
 ·obtain⟨q1,aI⟩:=E1 (e:=e) (x:=x) af
  rw[q1,aI];exact(h.dP ar (tW x) x.2.1).2
 ·obtain⟨q1,aI⟩:=E2 (e:=e) (x:=x) af (aw.resolve_left af)
  rw[q1,aI];exact(h.bh ar (tW x) x.2.2.2.2.2).2
theorem RG {b:cx} {cells:List Int} {table:List dx} {known:List Bool} {most:Int} (h:qP b cells table known most) (aT:cells.length<=10000):i_ (n1 b cells table known most)/\u2 (n1 b cells table known most)<=361*cells.length:=by
 obtain⟨q1,aI,bS,fo⟩:=ail h aT;exact⟨⟨q1,aI,bS,Nat.zero_le _,rfl⟩,fo⟩
end a1
namespace a1
theorem all_eq {α:Type} [Inhabited α] {l k:List α} (az:l.length=k.length) (h:∀j,j<l.length->l.getD j default=k.getD j default):l=k:=by
 apply List.ext_getElem az;intro i af ah;have:=h i af;rw[eP,eP,ig af,ig ah] at this;exact this
theorem aiE {a b:Bool} {d:Bool} (af:a=d) (ah:b=d):a=b:=af.trans ah.symm
theorem aiF {a b:Bool} (af:¬a=true) (ah:¬b=true):a=b:=by
 cases a<;>cases b<;>simp_all
theorem RH {α qv:Type} [Inhabited α] {f:α->qv} {l:List α} {i:Nat} (h:i<l.length):(l.take i).map f++[f (l.getD i default)]=(l.take (i+1)).map f:=by
 rw[List.take_add_one,List.map_append,ig h,eP,ig h];rfl
end a1
namespace a1
namespace RI
noncomputable def body:Code:=(Tryd.f47.body).getD .skip
def N:Nat:=20
noncomputable abbrev b9:=fu Tryd.prog Tryd.f47
def aZ:c6:={sl:=bm [(0,0)],ms:=[],A:=start}
def bz:aU:=[(.len #[29] 3 0,1),
 (.bin .gtr 3 1 (I 300),.bool true)]
theorem b4:b9 (at' 20 bz [] body aZ)=some (.bool false):=ag
def cp:aU:=[(.len #[29] 3 0,1),
 (.bin .gtr 3 1 (I 300),.bool false)]
def bt:List bG:=[]
def cl:ax:=bm [(3,2),(0,0)]
abbrev fG:=at' 20 cp [] body aZ
theorem bs:mi cl bt fG=some [(0,0),(I 0,2)]:=ag
def bY:Code:=nJ body [1,1,0,1,4]
def fJ:List hj:=lp body [1,1,0,1,4] []
theorem cw:lP fG=bY:=ag
theorem dD:gi fG=fJ:=ag
def dh:aU:=[(.len #[29] 3 0,1),
 (.bin .lss 3 2 1,.bool true),
 (.cV 29 0 2,3),
 (.bQ 70 3 0,4),
 (.bh 9 4,5),
 (.len #[9] 3 5,6),
 (.bin .gtr 3 6 (I 60),.bool true)]
theorem hq:b9 (jf 20 [] [] fJ (at' 20 dh [] bY (aN cl bt)))=some (.bool false):=ag
def eS:aU:=[(.len #[29] 3 0,1),
 (.bin .lss 3 2 1,.bool true),
 (.cV 29 0 2,3),
 (.bQ 70 3 0,4),
 (.bh 9 4,5),
 (.len #[9] 3 5,6),
 (.bin .gtr 3 6 (I 60),.bool false),
 (.bin .add 3 2 (I 1),7)]
theorem ka:eV cl bt (at' 20 eS [] bY (aN cl bt))=some [(0,0),(7,2)]:=ag
def fq:aU:=[(.len #[29] 3 0,1),
 (.bin .lss 3 2 1,.bool false)]
theorem gy:b9 (jf 20 [] [] fJ (at' 20 fq [] bY (aN cl bt)))=some (.bool true):=ag
@[reducible] noncomputable def a6 (l:List dx) (ej:bH) (er:Nat) (i:Nat:=0):List ad:=[aO ej l er,I ((l.length:Nat):Int),I ((i:Nat):Int),fM (aO ej l er) (i*8),fM (aO ej l er) (i*8+0),da (l.getD (i) default).1,I (((l.getD (i) default).1.length:Nat):Int),I ((i+1:Nat):Int)]
theorem any (W:aG) {iZ:ad} {l:List dx} (az:dr (a7 W) 8 js iZ l):Calls Tryd.prog 47 #[iZ] W λe w'=>e= .returned (.bool (decide (o8 l)))/\cO W.heap.size W w':=by
 obtain⟨ej,er,rfl⟩:=az.slice;refine kT (a6 l ej er) body aZ N [al 0] Tryd.func47 λa ae=> ?_
 letI:=bE ae;by_cases bd:300<((l.length:Nat):Int)
 ·refine br bz [] (U (e4 az mQ) (U bf aB)) aC ?_ ae
  exact b2 b4 λw2 bk=>(by first|(rw[dT (Oj aj)];rfl)|(rw[dT (Ok (i:=i) aj aj)];rfl)|(rw[gO (Ol aj (λj h=>aK.2 j aj))];rfl))
 ·refine br cp [] (U (e4 az mQ) (U a' aB)) aC ?_ ae
  refine nP (fW:=(λi=>bc (a7 W) (a6 l ej er i))) (λi=>i<=l.length/\∀j,j<i->(l.getD j default).1.length<=60) (λi=>l.length-i) 0 bs b7 (λ_ _ h=>h) (by exact⟨Nat.zero_le _,λj h=>absurd h (Nat.not_lt_zero _)⟩) ?_;intro i aK ch w ae;letI:=bE ae;refine nK cw dD ?_;by_cases lM:((i:Nat):Int)<((l.length:Nat):Int)
  ·by_cases jc:60<(((l.getD (i) default).1.length:Nat):Int)
   ·refine br dh [] (U (e4 az mQ) (U bf (U (f' az mQ rS) (U (U4 az (show i<l.length by omega) J J J J) (U (im 0 az (f_ i) U3) (U (aW.Aj J J sw J J) (U bf aB))))))) aC ?_ ae
    refine j3 [] [] aB aC ?_;exact b2 hq λw2 bk=>(by first|(rw[dT (Oj aj)];rfl)|(rw[dT (Ok (i:=i) aj aj)];rfl)|(rw[gO (Ol aj (λj h=>aK.2 j aj))];rfl))
   ·refine br eS [] (U (e4 az mQ) (U bf (U (f' az mQ rS) (U (U4 az (show i<l.length by omega) J J J J) (U (im 0 az (f_ i) U3) (U (aW.Aj J J sw J J) (U a' (U gU aB)))))))) aC ?_ ae
    exact e3 (i+1) ka b7 (by exact⟨aj,λj h=>by rcases Nat.lt_or_ge j i with af|af;exact aK.2 j af;rw[show j=i by omega];omega⟩)
  ·refine br fq [] (U (e4 az mQ) (U a' aB)) aC ?_ ae
   refine j3 [] [] aB aC ?_;exact b2 gy λw2 bk=>(by first|(rw[dT (Oj aj)];rfl)|(rw[dT (Ok (i:=i) aj aj)];rfl)|(rw[gO (Ol aj (λj h=>aK.2 j aj))];rfl))
end RI
end a1
namespace a1
section
variable [bp]
theorem RJ {x:ad} {u:ad} {l:List dx} (hp:fH [x]=true) (b5:fl [x]=[u]) (az:dr bp.dz 8 js u l) (h:o8 l):j0 Tryd.prog (47,[x],.bool true):=
 kP (a:= #[u]) hp rfl b5 rfl λw hw=>(RI.any w (az.mono hw)).mono λe w' gE=>by rw[gO h] at gE;exact gE
theorem aiG {x:ad} {u:ad} {l:List dx} (hp:fH [x]=true) (b5:fl [x]=[u]) (az:dr bp.dz 8 js u l) (h:¬o8 l):j0 Tryd.prog (47,[x],.bool false):=
 kP (a:= #[u]) hp rfl b5 rfl λw hw=>(RI.any w (az.mono hw)).mono λe w' gE=>by rw[dT h] at gE;exact gE
end
end a1
namespace a1
namespace RK
noncomputable def body:Code:=(Tryd.f25.body).getD .skip
def N:Nat:=22
noncomputable abbrev b9:=fu Tryd.prog Tryd.f25
def aZ:c6:={sl:=bm [(2,1),(1,0),(0,.agg ⟨[2,3,4,5,6,7,8]⟩)],ms:=[],A:=start}
def bz:aU:=[(.len #[26] 3 8,9),
 (.bin .leq 3 9 (I 1000),.bool true),
 (.len #[30] 3 1,10),
 (.bin .leq 3 10 (I 1200),.bool true)]
def h2:dm:=[(47,[0],.bool true)]
theorem b4:b9 (at' 22 bz h2 body aZ)=some (.bool true):=ag
def cp:aU:=[(.len #[26] 3 8,9),
 (.bin .leq 3 9 (I 1000),.bool true),
 (.len #[30] 3 1,10),
 (.bin .leq 3 10 (I 1200),.bool false)]
def hR:dm:=[(47,[0],.bool true)]
theorem bs:b9 (at' 22 cp hR body aZ)=some (.bool false):=ag
def dh:aU:=[(.len #[26] 3 8,9),
 (.bin .leq 3 9 (I 1000),.bool false)]
def lq:dm:=[(47,[0],.bool true)]
theorem cw:b9 (at' 22 dh lq body aZ)=some (.bool false):=ag
def kb:dm:=[(47,[0],.bool false)]
theorem dD:b9 (at' 22 [] kb body aZ)=some (.bool false):=ag
@[reducible] noncomputable def a6 (cells:List Int) (b_:bH) (b3 ca:Nat) (table:List dx) (cq:bH) (cr:Nat) (known:List Bool) (di:bH) (dj:Nat) (b:cx):List ad:=[aO cq table cr,aO di known dj,I b.1,I b.2.1,I b.2.2.1,I b.2.2.2.1,I b.2.2.2.2.1,I b.2.2.2.2.2,.slice b_ b3 ca,I ((cells.length:Nat):Int),I ((known.length:Nat):Int)]
theorem any (W:aG) {b:cx} {b_:bH} {b3 ca:Nat} {cells:List Int} (hT:dr (a7 W) 1 gq (.slice b_ b3 ca) cells) {ow:ad} {table:List dx} (bw:dr (a7 W) 8 js ow table) {ox:ad} {known:List Bool} (hZ:dr (a7 W) 1 iw ox known) (iv:b3=cells.length):Calls Tryd.prog 25 #[.agg ⟨[I b.1,I b.2.1,I b.2.2.1,I b.2.2.2.1,I b.2.2.2.2.1,I b.2.2.2.2.2,.slice b_ b3 ca]⟩,ow,ox] W λe w'=>e= .returned (.bool (decide (o8 table/\cells.length<=1000/\known.length<=1200)))/\cO W.heap.size W w':=by
 obtain⟨cq,cr,rfl⟩:=bw.slice;obtain⟨di,dj,rfl⟩:=hZ.slice;refine kT (a6 cells b_ b3 ca table cq cr known di dj b) body aZ N [.agg ⟨[al 2,al 3,al 4,al 5,al 6,al 7,al 8]⟩,al 0,al 1] Tryd.func25 λa ae=> ?_
 letI:=bE ae;have a_:=cC.q_ W;by_cases bd:o8 table
 ·by_cases af:((cells.length:Nat):Int)<=1000
  ·by_cases ah:((known.length:Nat):Int)<=1200
   ·refine br bz h2 (U (e4 (hT.mono a_.ext) iD) (U bf (U (e4 (hZ.mono a_.ext) kA) (U bf aB)))) (cv (RJ J J (bw.mono a_.ext) bd) aC) ?_ ae
    exact b2 b4 λw2 bk=>(by first|(rw[gO (show o8 table/\cells.length<=1000/\known.length<=1200 from ⟨aY,aj,aj⟩)];rfl)|(rw[dT (λq:o8 table/\cells.length<=1000/\known.length<=1200=>by first|exact absurd q.1 aY|(have q1:=q.2.1;have aI:=q.2.2;omega))];rfl))
   ·refine br cp hR (U (e4 (hT.mono a_.ext) iD) (U bf (U (e4 (hZ.mono a_.ext) kA) (U a' aB)))) (cv (RJ J J (bw.mono a_.ext) bd) aC) ?_ ae
    exact b2 bs λw2 bk=>(by first|(rw[gO (show o8 table/\cells.length<=1000/\known.length<=1200 from ⟨aY,aj,aj⟩)];rfl)|(rw[dT (λq:o8 table/\cells.length<=1000/\known.length<=1200=>by first|exact absurd q.1 aY|(have q1:=q.2.1;have aI:=q.2.2;omega))];rfl))
  ·refine br dh lq (U (e4 (hT.mono a_.ext) iD) (U a' aB)) (cv (RJ J J (bw.mono a_.ext) bd) aC) ?_ ae
   exact b2 cw λw2 bk=>(by first|(rw[gO (show o8 table/\cells.length<=1000/\known.length<=1200 from ⟨aY,aj,aj⟩)];rfl)|(rw[dT (λq:o8 table/\cells.length<=1000/\known.length<=1200=>by first|exact absurd q.1 aY|(have q1:=q.2.1;have aI:=q.2.2;omega))];rfl))
 ·refine br [] kb aB (cv (aiG J J (bw.mono a_.ext) bd) aC) ?_ ae
  exact b2 dD λw2 bk=>(by first|(rw[gO (show o8 table/\cells.length<=1000/\known.length<=1200 from ⟨aY,aj,aj⟩)];rfl)|(rw[dT (λq:o8 table/\cells.length<=1000/\known.length<=1200=>by first|exact absurd q.1 aY|(have q1:=q.2.1;have aI:=q.2.2;omega))];rfl))
end RK
end a1
end Go.Proofs.YtepcfjbfkedlpaaDoor
