/- Parts of the proof. -/
import Derived.Test.YtepcfjbfkedlpaaDoorWk2
import Derived.Laws.OwnMore
import Derived.Laws.CopyRow
import Derived.Laws.Pointers
set_option maxRecDepth 100000
set_option maxHeartbeats 4000000
noncomputable section
namespace Go.Proofs.YtepcfjbfkedlpaaDoor
open Go Go.Proofs Go.RowKit
namespace a1
abbrev _root_.List.aD {α:Type} [Inhabited α] (l:List α) (i:Nat):α:=l.getD i default
theorem Here.OI [dJ] {s1 s2:bp} {N B:Nat} {st:c6} {w0 w:aG} {a:Act} {sl:ax} {l:List bG} {dQ:gh} (fg:bF st sl l=some dQ) (hm:hD s1 s2 dQ) {φ:cD} {ds:List Deferred}
  (af:ss φ st.ms ds) (ah: @gR s1 N ds φ st.sl a) (aH: @cB s1 φ st.A w) (ck:∀b e,φ b=some e->B<=e.bJ) (gW:wN φ st.A) (dd:cO B w0 w) (dM:B<=w.heap.size)
  (pF:∀i o,s2.dz i=some o->w.heap[i]? =some o/\∀b e,b<l.length->φ b=some e->e.bJ≠i) (aT:dJ.jD<=l.length) (aA:jr st.A l 0): @Here s2 _ N {sl,ms:=[],A:=cS l} B w0 a w:=by
 unfold bF at fg;split at fg
 ·rename_i BX
  cases iB:BU l with
  |false=>rw[iB] at fg;cases fg
  |true=>
   rw[iB,cN] at fg;obtain⟨x,y,aw,hy,rfl⟩:=vv fg;rw[BX] at af;cases af;have hold:∀b k,(cS l).bl.get b=some k->∃x fE o,l[b]? =some x/\k=x.bJ b/\st.A.bl.get b=some fE/\fE.dG=b/\fE.fO=x.fO/\fE.ty=x.ty/\fE.ro=false/\DP l.length fE.obj x.obj=some o/\∀p∈o,p∈y:=λb k ao=>by
    obtain⟨x,q1,aI⟩:=BV ao;obtain⟨fE,o,c9,eF,hx⟩:=DQ l 0 hy b x q1;rw[Nat.zero_add] at c9 eF;exact⟨x,fE,o,q1,aI,c9,eF,hx⟩
   have Ad:∀b e,φ b=some e->w.heap[e.bJ]? =w.heap[e.bJ]? :=λ_ _ _=>rfl
   have hz:∀b,b<l.length->∃k,(cS l).bl.get b=some k:=λb ai=>by
    have:=List.all_eq_true.1 iB b (by simpa using ai);simp only [fy] at this;obtain⟨_,hm⟩:=this;split at hm
    ·rename_i k ao;exact⟨k,ao⟩
    ·cases hm
   refine⟨⟨o1 l.length φ,[],.nil,⟨@gR.size s1 _ _ _ _ _ ah,@gR.defers s1 _ _ _ _ _ ah,λt hB DR=>DO st.sl sl aw hm.left t hB _ DR λv1 x1=> @gR.get s1 _ _ _ _ _ ah t v1 x1⟩,⟨UH iB,?_,?_,?_,λi o ak=> ?_⟩,λb e ai=>ck b e (rP ai).2,aT,λb ai=>by unfold o1;rw[aP (Nat.lt_of_lt_of_le ai aT)];exact gW.2 b ai⟩,dd,dM⟩
   ·intro b e ai
    obtain⟨c_,ja⟩:=rP ai;obtain⟨k,ao⟩:=hz b c_;obtain⟨x,fE,o,q1,rfl,bS,fo,iK,mK,p1,h7,BA⟩:=hold b k ao;obtain⟨gZ,c9,eF,hx⟩:= @cB.fi s1 _ _ _ aH b e ja;rw[bS] at c9;cases c9;refine⟨_,ao,by rw[eF,iK];rfl,?_⟩;unfold gL at hx ⊢;show match x.obj with| .cells c=>_| .map es fA=>_| .hV x=>_
    cases gF:fE.obj with
    |cells c=>
     rw[gF] at h7;simp only [gF] at hx;cases kx:x.obj with
     |cells ew=>
      rw[kx] at h7;obtain⟨c',j5,g1,g2,g3,g4,mb⟩:=hx;have pw:∀i,i<c.length->((List.range c.length).map λj=>c'.getD (e.sh+j) undef).getD i undef=c'.getD (e.sh+i) undef:=λi ak=>by
       rw[eP,List.getElem?_map,List.getElem?_range ak];rfl
      have:=DN (s1:=s1) (s2:=s2) (φ:=φ) c ew h7 (λp hp=>hm.right p (BA p hp)) ((List.range c.length).map λj=>c'.getD (e.sh+j) undef) (by simp) λi ak=>by
       rw[pw i ak];exact g4 i ak
      obtain⟨t1,t2⟩:=this;simp only [List.length_map,List.length_range] at t1;refine⟨c',j5,by rw[Ad b e ja,show (x.bJ b).ty=fE.ty from mK.symm];exact g1,g2,by rw[<-t1,show (x.bJ b).fO=fE.fO from iK.symm];exact g3,λj aq=> ?_,λ_=>mb p1⟩;have:=t2 j aq;rw[pw j aj] at this;exact this
     |map es fA=>rw[kx] at h7;cases h7
     |hV z=>rw[kx] at h7;cases h7
    |map es fA=>
     rw[gF] at h7;cases kx:x.obj<;>rw[kx] at h7<;>cases h7
    |hV z=>
     rw[gF] at h7;simp only [gF] at hx;obtain⟨cJ,o',g1,g2⟩:=hx;cases kx:x.obj with
     |cells ew=>rw[kx] at h7;cases z<;>cases h7
     |map es fA=>rw[kx] at h7;cases z<;>cases h7
     |hV z2=>
      rw[kx] at h7;refine⟨cJ,o',(Ad b e ja).trans g1,?_⟩;cases z with
      |loop a=>
       cases z2 with
       |loop b=>
        unfold DP at h7;simp only at h7;cases ay:F4 l.length a b with
        |false=>rw[ay] at h7;cases h7
        |true=>
         rw[ay,cN] at h7;unfold F4 at ay;simp only [fy,decide_eq_true_eq,Option.isNone_iff_eq_none] at ay;obtain⟨fP,ew,qX,Bk,F5,JQ,JR⟩:=ay;have q5:=N0 aA q1 kx;rw[Nat.zero_add] at q5;unfold JP at q5;rw[bS] at q5;simp only [gF,dL,Prod.mk.injEq] at q5;obtain⟨r,rQ,vs,yN,BK,BL,FT,FU,⟨e',N1,u8⟩,N2⟩:=g2;refine⟨r,rQ,vs.trans (UJ fP),by rw[yN,ew,qX],by rw[BK,ep Bk],by rw[BL,F5],by rw[FT,q5.1],by rw[FU,q5.2],⟨e',?_,u8⟩,λt v aR=> ?_⟩
         ·rw[<-ep JQ]
          exact DM N1 (Nat.blt_eq.mp JR)
         ·exact DO (s1:=s1) a.sl b.sl h7 (λp hp=>hm.right p (BA p hp)) t v _ aR λv1 x1=>N2 t v1 x1
       |_=>cases h7
      |_=>cases z2<;>first|(cases h7;done)|exact g2
   ·intro b e k b' e' k' ai fB ao eG dU
    obtain⟨_,ja⟩:=rP ai;obtain⟨_,uq⟩:=rP fB;obtain⟨x,fE,o,q1,rfl,bS,fo,_⟩:=hold b k ao;obtain⟨x',F6,o',wi,rfl,ub,F7,_⟩:=hold b' k' eG;exact @cB.apart s1 _ _ _ aH b e fE b' e' F6 ja uq bS ub (by rw[fo,F7];exact dU)
   ·intro b e k b' e' k' ai fB ao eG bn _
    obtain⟨_,ja⟩:=rP ai;obtain⟨_,uq⟩:=rP fB;obtain⟨x,fE,o,q1,rfl,bS,fo,_⟩:=hold b k ao;obtain⟨x',F6,o',wi,rfl,ub,F7,_⟩:=hold b' k' eG;have:b=b':=bn;subst this;rw[ja] at uq;cases uq;rfl
   ·obtain⟨g1,g2⟩:=pF i o ak
    exact⟨g1,λb e ai=>g2 b e (rP ai).1 (rP ai).2⟩
 ·cases fg
def OJ {α:Type} (B:Nat) (M:Mem) (e:bq) (enc:α->List ad) (g:Nat) (l:List α):Prop:=
 B<=g/\∃cur fr,M g=some (.cells cur e fr)/\(∀i,i<cur.size->¬(fr.1<=i/\i<fr.2))/\cur.toList=l.flatMap enc
theorem OJ.arr {α:Type} {B:Nat} {M:Mem} {e:bq} {k:Nat} {enc:α->List ad} {g:Nat} {l:List α} (h:OJ B M e enc g l) (ao:∀x,(enc x).length=k):dr M k enc (.slice (some ⟨g,0,none⟩) l.length l.length) l:=by
 obtain⟨_,cur,fr,af,_,aH⟩:=h;refine .mk af (c4 _) λi x aw j u hu=> ?_
 have:=Ai ao l i x aw j u hu;rw[<-aH] at this;simpa using this
theorem Here.freeze [dJ] {α:Type} {M:Mem} {bM:List ad} {bC:Nat->List ad} {N B:Nat} {st:c6} {w0 w:aG} {a:Act} {sl eX:ax} {l:List bG} {dQ:gh} {b t q:Nat} {k:iX} {cs:List ad} {enc:α->List ad} {xs:List α}
  (ae: @Here (bc M bM) _ N st B w0 a w) (ao:st.A.bl.get b=some k) (gF:k.obj= .cells cs) (Gm:k.fO=0) (pt:k.dG=b) (ih:k.ro=false) (hJ:fH cs=true) (rh: @fl (bc M bM) cs=xs.flatMap enc) (ai:l.length<=b)
  (y2:st.sl.get t=some (.pointer (some ⟨b,0,none⟩))) (fg:bF st sl l=some dQ) (hm:∀aS g,hD (bc M bM) (bc aS (bC g)) dQ) (gn:cK.set (al q) depth sl t=some eX) (cy:∀g,o3 (bC g) q= .pointer (some ⟨g,0,none⟩))
  (aT:dJ.jD<=l.length) (aA:jr st.A l 0):
  ∃g aS,OJ B aS k.ty enc g xs/\(∀i o,M i=some o->aS i=some o)/\M g=none/\ @Here (bc aS (bC g)) _ N {sl:=eX,ms:=[],A:=cS l} B w0 a w:=by
 obtain⟨⟨φ,ds,af,ah,aH,ck,gW⟩,dd,dM⟩:=ae;have aR:= @gR.get (bc M bM) _ _ _ _ _ ah t _ y2;generalize hp:a.tmps.getD t undef=Vy at aR;cases aR with
 |ptr he=>
  rename_i e;obtain⟨gZ,c9,eF,hx⟩:= @cB.fi (bc M bM) _ _ _ aH b e he;rw[ao] at c9;cases c9;unfold gL at hx;rw[gF] at hx;obtain⟨c',j5,g1,g2,g3,g4,mb⟩:=hx;obtain⟨g6,g7⟩:=g3.2 Gm;have uv:M e.bJ=none:=by
   cases ak:M e.bJ with
   |none=>rfl
   |some o=>exact absurd rfl ((@cB.dz (bc M bM) _ _ _ aH e.bJ o ak).2 b e he)
  let aS:Mem:=λi=>if i=e.bJ then some (.cells c' k.ty j5) else M i
  have x5:aS e.bJ=some (.cells c' k.ty j5):=aP rfl;have vB:∀i o,M i=some o->aS i=some o:=λi o ak=>by
   show (if i=e.bJ then _ else M i)=some o;rw[aV (λh=>by rw[h,uv] at ak;cases ak)];exact ak
  have ll:c'.toList=xs.flatMap enc:=by
   rw[<-rh];refine @aM.yF (bc M bM) φ cs c'.toList hJ (by simp [g7]) λi ak=> ?_
   have:=g4 i ak;rw[g6,Nat.zero_add] at this;simpa [gd] using this
  have od:=fg;unfold bF at od;have Gn:∀b' x,l[b']? =some x->∃fE,st.A.bl.get b'=some fE/\fE.dG=b':=λb' x aw=>by
   split at od
   ·cases iB:BU l with
    |false=>rw[iB] at od;cases od
    |true=>
     rw[iB,cN] at od;obtain⟨fp,yQ,_,hy,_⟩:=vv od;obtain⟨fE,o,c9,eF,_⟩:=DQ l 0 hy b' x aw;rw[Nat.zero_add] at c9 eF;exact⟨fE,c9,eF⟩
   ·cases od
  have bg:=Here.OI (s2:=bc aS (bC e.bJ)) fg (hm aS e.bJ) af ah aH ck gW dd dM (λi o ak=>by
   by_cases rH:i=e.bJ
   ·subst rH
    have:some (Obj.cells c' k.ty j5)=some o:=x5.symm.trans ak;cases this;refine⟨g1,λb' e' fB p3 heq=> ?_⟩;obtain⟨fE,q1,aI⟩:=Gn b' _ (ig fB);exact @cB.apart (bc M bM) _ _ _ aH b' e' fE b e k p3 he q1 ao (by rw[aI,pt];omega) heq
   ·have qs:M i=some o:=by
     have:(if i=e.bJ then some (Obj.cells c' k.ty j5) else M i)=some o:=ak
     rwa [aV rH] at this
    obtain⟨q1,aI⟩:= @cB.dz (bc M bM) _ _ _ aH i o qs
    exact⟨q1,λb' e' _ p3=>aI b' e' p3⟩) aT aA
  refine⟨e.bJ,aS,⟨ck b e he,c',j5,x5,λi ak=>mb ih i ak,ll⟩,vB,uv,?_⟩;obtain⟨⟨gf,D7,jc,hY,oa,rN,z1⟩,DB,BB⟩:=bg;letI:=bc aS (bC e.bJ);refine⟨⟨gf,D7,jc,⟨hY.size,hY.defers,λfk v' pC=> ?_⟩,oa,rN,z1⟩,DB,BB⟩;rw[cK.pq _ _ _ _ _ _ gn] at pC;split at pC
  ·rename_i bw
   cases pC;subst bw;rw[hp];have:=aM.sym (φ:=gf) q;have qu:bp.σ q=Value.pointer (some ⟨e.bJ,0,none⟩):=cy e.bJ;rw[qu] at this;rw[g6,Nat.zero_add];exact this
  ·exact hY.get fk v' pC
end a1
end Go.Proofs.YtepcfjbfkedlpaaDoor
namespace Go.Proofs.YtepcfjbfkedlpaaDoor
open Go Go.RowKit
namespace a1
def ala:Option dk->Option (bq×ad)
 |some (.oper o _ ops s _)=>match o.op with
  | .buildSlice t 1 ⟨[(0,ha)]⟩=>match uh ops o s.sl with
    |some true=>some (t,eQ .nil s.sl ha)
    |_=>none
  |_=>none
 |_=>none
def OK:Option dk->Option (bq×ad)
 |some (.oper o _ ops s _)=>match o.op with
  | .makeSlice t uD wU=>match uh ops o s.sl with
    |some true=>bif ln (eQ .nil s.sl uD) (eQ .nil s.sl wU) then some (t,eQ .nil s.sl uD) else none
    |_=>none
  |_=>none
 |_=>none
theorem Vz {α:Type} {k:Nat} {enc:α->List ad} (ao:∀x,(enc x).length=k) {z:ad} {zr:α} (de:z.cells.toList=enc zr) (n:Nat):(madeCells z.cells (n*k)).toList=(List.replicate n zr).flatMap enc:=by
 have ay:z.cells.size=k:=by rw[<-Array.length_toList,de,ao]
 apply List.ext_getElem?;intro j;unfold madeCells;rcases Nat.lt_or_ge j (n*k) with aq|aq
 ·have fe:0<k:=by
   rcases Nat.eq_zero_or_pos k with h|h
   ·subst h
    simp at aq
   ·exact h
  have ak:j/k<(List.replicate n zr).length:=by rw[nz];exact Nat.div_lt_of_lt_mul (by rwa [Nat.mul_comm] at aq)
  have ar:j%k<k:=Nat.mod_lt _ fe;have ah:=Ai ao (List.replicate n zr) (j/k) zr (by rw[ig ak];simp) (j%k) ((enc zr)[j%k]'(by rw[ao];exact ar)) (ig _);rw[Nat.div_add_mod'] at ah;rw[ah,Array.getElem?_toList,Array.getElem?_map,ay,Array.getElem?_eq_getElem (by simpa using aq)];simp only [Array.getElem_range,Option.map_some];have sr:j%k<z.cells.size:=by omega
  rw[getElem!_pos z.cells _ sr];have:z.cells.toList[j%k]? =(enc zr)[j%k]? :=by rw[de]
  rw[Array.getElem?_toList,Array.getElem?_eq_getElem sr,ig (by rw[ao];exact ar)] at this;exact this
 ·rw[Array.getElem?_toList,Array.getElem?_map,Array.getElem?_eq_none (by simpa using aq),List.getElem?_eq_none (by rw[uy ao,nz];exact aq)]
  rfl
theorem ad8 [dJ] {α:Type} {P:bB} {N B:Nat} {w0:aG} {Q:Exit->Act->aG->Prop} {M:Mem} {bM:List ad} {o:Option dk} {t e:bq} {k n bytes:Nat} {i:TypeInfo} {z x hk:ad} {enc:α->List ad} {zr:α} {l':List α} {bC:Option Addr->Nat->List ad} {gp e6:ax} {c7:List bG} {dQ:gh}
  (iM:l'=List.replicate n zr) (h:OK o=some (t,x)) (bw:P.underlying t=some (.slice e)) (ak:P.info? e=some i) (de:i.zero=some z) (hH:i.size=k) (nH:i.bytes=bytes) (tk:z.cells.toList=enc zr) (ao:∀x,(enc x).length=k)
  (fg:bF (b0 o) gp c7=some dQ) (iQ:e8 N gp (qa o) hk=some e6) (gH:bL hk=true) (aw:bL x=true) (ex: @bb (bc M bM) x= .int .i64 (n:Nat)) (ad9:n<=1000000) (mN:n*bytes<=140737488355328) (ll:n*k<=16777216)
  (hm:∀aS a c,hD (bc M bM) (bc aS (bC a c)) dQ) (aR:∀aS a c,@bb (bc aS (bC a c)) hk= .slice a l'.length c)
  (rest:∀aS a c,eI B aS e k enc (.slice a l'.length c) l'->jM M aS none->(∀i,some i=fX (.slice a l'.length c)->M i=none)->∀bR w,@Here (bc aS (bC a c)) _ N {sl:=e6,ms:=[],A:=cS c7} B w0 bR w->wpListIn (Fr none) 0 P (nG o) (fF P (gi o) Q) (oc o) bR w)
  (aT:dJ.jD<=c7.length:=by first|exact Nat.zero_le _|exact h3 rfl) (aA:jr (b0 o).A c7 0:=by exact jF rfl): @ia (bc M bM) _ P N B w0 Q o:=by
 subst iM;letI:=bc M bM;unfold OK at h;split at h
 ·rename_i op r ops s ks
  refine⟨_,rfl,λa w ae=> ?_⟩;split at h
  ·rename_i fk uD wU eb
   split at h
   ·rename_i nk
    cases heq:ln (eQ .nil s.sl uD) (eQ .nil s.sl wU) with
    |false=>rw[heq] at h;cases h
    |true=>
     rw[heq,cN] at h;have Gp:=mO _ _ heq;cases h;have jN:=ae;obtain⟨⟨φ,ds,af,ah,aH,ck,_⟩,dd,dM⟩:=ae;unfold wpListIn;rw[sg ah.get nk,aP rfl];have uB:a.eval uD= .int .i64 (n:Nat):=(aM.kr _ aw (h_ (jE φ) ah.get uD)).trans ex;have OL:a.eval wU= .int .i64 (n:Nat):=(aM.kr _ (by rw[<-Gp];exact aw) (h_ (jE φ) ah.get wU)).trans (by rw[<-Gp];exact ex);have hw:∀i o,M i=some o->w.heap[i]? =some o:=jN.qC;subst nH;obtain⟨w',g1,g2,g3⟩:=run_makeSlice_full (P:=P) w B t e i z k bw ak de hH .i64 .i64 n ll (by rw[Nat.mul_comm];omega) (by simp [maxLen];omega) dM;have ho:(execOp a.eval op).run P w= .ok (.value (.slice (some ⟨w.heap.size,0,none⟩) n n)) w':=by
      unfold execOp;rw[eb];simp only [uB,OL];show (do pure (Next.value (<-Instr.makeSlice t (.int .i64 (n:Nat)) (.int .i64 (n:Nat)))):Sem Next).run P w=_;simp only [Sem.run_bind,g1,Result.andThen_ok];rfl
     have hb:∀c',op.op≠.defer c':=λc' h=>by rw[eb] at h;cases h
     refine⟨λ_ _=>trivial,?_⟩;rw[Oper.semAt_eq _ _ _ hb,ho,Oper.uponIn_value];rw[Vz ao tk] at g2;obtain⟨q1,aI⟩:=uz (B:=B) (M:=M) (w:=w) (w':=w') (T:=none) (fQ:=some w.heap.size) hw (λi h=>by cases h) (λi ak=> .inr (by cases ak;exact c4 _)) ⟨g3.os,g3.tape,g3.output⟩ (c4 _) g3.size (λi ak dU=>g3.block i ak dU);have hlen:(List.replicate n zr).length=n:=nz;have dR:eI B (j7 M w' none (some w.heap.size)) e k enc (.slice (some ⟨w.heap.size,0,none⟩) (List.replicate n zr).length n) (List.replicate n zr):=by
      refine(eI.N7 (w:=w') (by rw[hlen];exact g2)).mono (c4 _) λj aq o bW=> ?_
      have bs:=B1 aq;unfold j7;rw[aP (by rw[bs];rfl)];exact bW
     have kc:=Here.turns (vals':=bC (some ⟨w.heap.size,0,none⟩) n) fg (hm _ _ _) q1 aT aA jN;letI:=bc (j7 M w' none (some w.heap.size)) (bC (some ⟨w.heap.size,0,none⟩) n);have pG:=Here.put (d:=op.dst) kc (v:=hk) gH iQ;rw[aR,hlen] at pG;refine rest _ _ _ dR aI (λj aq=> ?_) _ w' pG;have bs:=B1 aq;cases bs;exact D3 hw (c4 _)
   ·cases h
  ·cases h
 ·cases h
def tC (o:Option dk) (b t:Nat):Option (List ad×Nat×Nat):=
 match o with
 |some (.oper _ _ _ s _)=>match s.A.bl.get b with
  |some k=>match k.obj with
   | .cells cs=>bif Nat.beq k.fO 0&&(Nat.beq k.dG b&& !k.ro) then match s.sl.get t with
     |some (.slice (some ⟨b',0,none⟩) n c)=>bif Nat.beq b' b then some (cs,n,c) else none
     |_=>none
     else none
   |_=>none
  |none=>none
 |_=>none
def lE (st:c6):Option dk->Option dk
 |some (.oper op r ops _ ks)=>some (.oper op r ops st ks)
 |o=>o
theorem Here.ad' [dJ] {α:Type} {M:Mem} {bM:List ad} {bC:Nat->List ad} {N B:Nat} {st:c6} {w0 w:aG} {a:Act} {sl eX:ax} {l:List bG} {dQ:gh} {b t q n c fE:Nat} {k:iX} {cs:List ad} {enc:α->List ad} {xs:List α}
  (yI:∀x,(enc x).length=fE) (Ci:xs.length=n) (hh:0<n) (iv:n<=c) (ae: @Here (bc M bM) _ N st B w0 a w) (ao:st.A.bl.get b=some k) (gF:k.obj= .cells cs) (Gm:k.fO=0) (pt:k.dG=b) (hJ:fH cs=true) (rh: @fl (bc M bM) cs=xs.flatMap enc) (ai:l.length<=b)
  (y2:st.sl.get t=some (.slice (some ⟨b,0,none⟩) n c)) (fg:bF st sl l=some dQ) (hm:∀aS g,hD (bc M bM) (bc aS (bC g)) dQ) (gn:cK.set (al q) depth sl t=some eX) (cy:∀g,o3 (bC g) q= .slice (some ⟨g,0,none⟩) n c)
  (aT:dJ.jD<=l.length) (aA:jr st.A l 0):
  ∃g aS,dr aS fE enc (.slice (some ⟨g,0,none⟩) n c) xs/\B<=g/\aS g≠none/\jM M aS none/\M g=none/\ @Here (bc aS (bC g)) _ N {sl:=eX,ms:=[],A:=cS l} B w0 a w:=by
 obtain⟨⟨φ,ds,af,ah,aH,ck,gW⟩,dd,dM⟩:=ae;have aR:= @gR.get (bc M bM) _ _ _ _ _ ah t _ y2;generalize hp:a.tmps.getD t undef=Vy at aR;cases aR with
 |jI _ _=>omega
 |jl _ _ _ he ay _ _=>
  obtain⟨gZ,c9,eF,hx⟩:= @cB.fi (bc M bM) _ _ _ aH b _ he;rw[ao] at c9;cases c9;omega
 |jk _ _ he=>
  rename_i e;obtain⟨gZ,c9,eF,hx⟩:= @cB.fi (bc M bM) _ _ _ aH b e he;rw[ao] at c9;cases c9;unfold gL at hx;rw[gF] at hx;obtain⟨c',j5,g1,g2,g3,g4,mb⟩:=hx;obtain⟨g6,g7⟩:=g3.2 Gm;have uv:M e.bJ=none:=by
   cases ak:M e.bJ with
   |none=>rfl
   |some o=>exact absurd rfl ((@cB.dz (bc M bM) _ _ _ aH e.bJ o ak).2 b e he)
  let aS:Mem:=λi=>if i=e.bJ then some (.cells c' k.ty j5) else M i
  have x5:aS e.bJ=some (.cells c' k.ty j5):=aP rfl;have vB:∀i o,M i=some o->aS i=some o:=λi o ak=>by
   show (if i=e.bJ then _ else M i)=some o;rw[aV (λh=>by rw[h,uv] at ak;cases ak)];exact ak
  have ll:c'.toList=xs.flatMap enc:=by
   rw[<-rh];refine @aM.yF (bc M bM) φ cs c'.toList hJ (by simp [g7]) λi ak=> ?_
   have:=g4 i ak;rw[g6,Nat.zero_add] at this;simpa [gd] using this
  have od:=fg;unfold bF at od;have Gn:∀b' x,l[b']? =some x->∃fE,st.A.bl.get b'=some fE/\fE.dG=b':=λb' x aw=>by
   split at od
   ·cases iB:BU l with
    |false=>rw[iB] at od;cases od
    |true=>
     rw[iB,cN] at od;obtain⟨fp,yQ,_,hy,_⟩:=vv od;obtain⟨fE,o,c9,eF,_⟩:=DQ l 0 hy b' x aw;rw[Nat.zero_add] at c9 eF;exact⟨fE,c9,eF⟩
   ·cases od
  have bg:=Here.OI (s2:=bc aS (bC e.bJ)) fg (hm aS e.bJ) af ah aH ck gW dd dM (λi o ak=>by
   by_cases rH:i=e.bJ
   ·subst rH
    have:some (Obj.cells c' k.ty j5)=some o:=x5.symm.trans ak;cases this;refine⟨g1,λb' e' fB p3 heq=> ?_⟩;obtain⟨fE,q1,aI⟩:=Gn b' _ (ig fB);exact @cB.apart (bc M bM) _ _ _ aH b' e' fE b e k p3 he q1 ao (by rw[aI,pt];omega) heq
   ·have qs:M i=some o:=by
     have:(if i=e.bJ then some (Obj.cells c' k.ty j5) else M i)=some o:=ak
     rwa [aV rH] at this
    obtain⟨q1,aI⟩:= @cB.dz (bc M bM) _ _ _ aH i o qs
    exact⟨q1,λb' e' _ p3=>aI b' e' p3⟩) aT aA
  have oE:dr aS fE enc (.slice (some ⟨e.bJ,0,none⟩) n c) xs:=by
   subst Ci;refine .mk x5 iv λi x aw j u hu=> ?_
   have:=Ai yI xs i x aw j u hu;rw[<-ll] at this;rw[Nat.zero_add];simpa using this
  refine⟨e.bJ,aS,oE,ck b e he,(by rw[x5];simp),λi o ak _=>vB i o ak,uv,?_⟩;obtain⟨⟨gf,D7,jc,hY,oa,rN,z1⟩,DB,BB⟩:=bg;letI:=bc aS (bC e.bJ);refine⟨⟨gf,D7,jc,⟨hY.size,hY.defers,λfk v' pC=> ?_⟩,oa,rN,z1⟩,DB,BB⟩;rw[cK.pq _ _ _ _ _ _ gn] at pC;split at pC
  ·rename_i bw
   cases pC;subst bw;rw[hp];have:=aM.sym (φ:=gf) q;have qu:bp.σ q=Value.slice (some ⟨e.bJ,0,none⟩) n c:=cy e.bJ;rw[qu] at this;rw[g6,Nat.zero_add];exact this
  ·exact hY.get fk v' pC
theorem vC [dJ] {α:Type} {P:bB} {N B:Nat} {w0:aG} {Q:Exit->Act->aG->Prop} {M:Mem} {bM:List ad} {bC:Nat->List ad} {o:Option dk} {sl eX:ax} {l:List bG} {dQ:gh} {b t q n c fE:Nat} {cs:List ad} {enc:α->List ad} {xs:List α}
  (h:tC o b t=some (cs,n,c)) (yI:∀x,(enc x).length=fE) (Ci:xs.length=n) (hh:0<n) (iv:n<=c) (hJ:fH cs=true) (rh: @fl (bc M bM) cs=xs.flatMap enc) (ai:l.length<=b)
  (fg:bF (b0 o) sl l=some dQ) (hm:∀aS g,hD (bc M bM) (bc aS (bC g)) dQ) (gn:cK.set (al q) depth sl t=some eX) (cy:∀g,o3 (bC g) q= .slice (some ⟨g,0,none⟩) n c)
  (rest:∀aS g,dr aS fE enc (.slice (some ⟨g,0,none⟩) n c) xs->B<=g->aS g≠none->jM M aS none->M g=none-> @ia (bc aS (bC g)) _ P N B w0 Q (lE {sl:=eX,ms:=[],A:=cS l} o))
  (aT:dJ.jD<=l.length:=by first|exact Nat.zero_le _|exact h3 rfl) (aA:jr (b0 o).A l 0:=by exact jF rfl): @ia (bc M bM) _ P N B w0 Q o:=by
 unfold tC at h;split at h
 ·rename_i op r ops s ks
  split at h
  ·rename_i k ao
   split at h
   ·rename_i cs' gF
    cases jb:(Nat.beq k.fO 0&&(Nat.beq k.dG b&& !k.ro)) with
    |false=>rw[jb] at h;cases h
    |true=>
     rw[jb,cN] at h;simp only [fy] at jb;split at h
     ·rename_i b' mr c' y2
      cases qy:Nat.beq b' b with
      |false=>rw[qy] at h;cases h
      |true=>
       rw[qy,cN] at h;cases h;have y3:=ep qy;subst y3;refine⟨_,rfl,λa w ae=> ?_⟩;obtain⟨g,aS,q1,aI,bS,fo,iK,mK⟩:=Here.ad' yI Ci hh iv ae ao gF (ep jb.1) (ep jb.2.1) hJ rh ai y2 fg hm gn cy aT aA;obtain⟨ad_,e',ok⟩:=rest aS g q1 aI bS fo iK;unfold lE at e';cases e';exact ok a w mK
     ·cases h
   ·cases h
  ·cases h
 ·cases h
theorem tD {α:Type} {M aS:Mem} {g k n c:Nat} {enc:α->List ad} {xs:List α} (oE:dr aS k enc (.slice (some ⟨g,0,none⟩) n c) xs) (af:aS g≠none) (d_:jM M aS none) (aT:M g=none):dw M [] aS [qd k enc (.slice (some ⟨g,0,none⟩) n c) xs]:=
 ⟨dO.one ⟨oE,λb ai=>by cases ai;exact af⟩,λi o ak _=>d_ i o ak λe=>(by cases e),λb ai=>by
   have ah:some b=(Value.slice (some ⟨g,0,none⟩) n c).ownBlock:=ra.1 ai;cases ah
   exact .inr aT⟩
theorem wV {M aS:Mem} {bM vals':List ad} {a n:Nat} {i:Nat} (af:o3 bM a= .int .i64 ((i:Nat):Int)) (h:i=n): @bb (bc M bM) (al a)= @bb (bc aS vals') (.int .i64 ((n:Nat):Int)):=by
 subst h;exact(@Ji (bc M bM) a).trans af
theorem x6 {M aS:Mem} {bM vals':List ad} {a:Nat} {b b':Bool} (af:o3 bM a= .bool b) (h:b=b'): @bb (bc M bM) (al a)= @bb (bc aS vals') (.bool b'):=by
 subst h;exact(@Ji (bc M bM) a).trans af
theorem je.mk' {B g:Nat} {M:Mem} {ty:bq} {cs:List ad} (af:B<=g) (ah:M g=some (.cells ⟨cs⟩ ty (0,0))):je B M (.pointer (some ⟨g,0,none⟩)) ty cs:=⟨g,rfl,af,ah⟩
section
variable [bp] {P:bB}
theorem aW.quo {t:bq} {x y r:ad} {a b:Int} (bd:0<=a/\a<=9223372036854775807) (af:1<=b) (aw:bL x=true) (hy:bL y=true) (ar:bL r=true) (ex:bb x= .int .i64 a) (iV:bb y= .int .i64 b) (dc:bb r= .int .i64 (a/b)):aW P (.bin .quo t x y,r):=
 wP aw hy ar ex iV λe0 e1 w=>by
  rw[dc];have bs:=IntWalk.i64_quo a b ⟨bd.1,bd.2,af⟩;have cw:¬b=0:=by omega
  unfold hi;simp [eqGuard,binOp,Op.intDiv,cw,bs]
theorem aW.rem {t:bq} {x y r:ad} {a b:Int} (bd:0<=a/\a<=9223372036854775807) (af:1<=b) (aw:bL x=true) (hy:bL y=true) (ar:bL r=true) (ex:bb x= .int .i64 a) (iV:bb y= .int .i64 b) (dc:bb r= .int .i64 (a%b)):aW P (.bin .rem t x y,r):=
 wP aw hy ar ex iV λe0 e1 w=>by
  rw[dc];have bs:=IntWalk.rem_in a b bd.1;have cw:¬b=0:=by omega
  unfold hi;simp [eqGuard,binOp,Op.intDiv,cw,bs]
end
theorem je.up {W:aG} {M:Mem} {g:Nat} {ty:bq} {cs:List ad} (h:je 0 (a7 W) (.pointer (some ⟨g,0,none⟩)) ty cs) (hm:∀i o,a7 W i=some o->M i=some o):je 0 M (.pointer (some ⟨g,0,none⟩)) ty cs:=je.mk' (Nat.zero_le _) (hm _ _ h.known.1)
theorem Cj:∀u∈([]:List ad),u.oneCell'=true:=λu h=>by cases h
theorem kR {u:ad} {l:List ad} (h:u.oneCell'=true) (t:∀x∈l,x.oneCell'=true):∀x∈u::l,x.oneCell'=true:=λx aw=>by
 rcases List.mem_cons.1 aw with rfl|aw
 ·exact h
 ·exact t x aw
theorem getD_some {α:Type} {l:List α} {i:Nat} {z d:α} (h:l[i]? =some z):l.getD i d=z:=by
 rw[eP,h];rfl
theorem OM {a:Option Addr} {n m c j k i:Nat} (h:some i=fX (.slice (lC a c j k) m (c-j))):some i=fX (.slice a n c):=by
 cases a with
 |none=>
  unfold lC at h;split at h
  ·cases h
  ·cases h
 |some h8=>
  by_cases aA:c-j=0
  ·rw[aA,F_] at h
   cases h
  ·unfold lC at h
   rw[aV aj] at h;have af:(h8.add (j*k)).block=h8.block:=by
    unfold Addr.add;split<;>rfl
   rw[Option.map_some,qD _ _ aj,af] at h;rw[qD _ _ aj];exact h
theorem cO.zero {B:Nat} {w w':aG} (h:cO B w w'):cO 0 w w':=h.mono (Nat.zero_le _)
theorem Gq {α:Type} {P:bB} {f:FuncId} {args:Array ad} {w:aG} {e:bq} {k:Nat} {enc:α->List ad} {l:List α} (h:Calls P f args w λe' w'=>(∃a c,e'= .returned (.slice a l.length c)/\eI w.heap.size (a7 w') e k enc (.slice a l.length c) l)/\cO w.heap.size w w'):
  Calls P f args w λe' w'=>(∃y:Option Addr×Nat,e'= .returned (.slice y.1 l.length y.2)/\dw (a7 w) [] (a7 w') [fY e k enc (.slice y.1 l.length y.2) l])/\cO 0 w w':=
 h.mono λe' w' he=>by
   obtain⟨⟨a,c,rfl,dR⟩,az⟩:=he;refine⟨⟨(a,c),rfl,dO.one (Ch dR),λi o ak _=> ?_,λb ai=> ?_⟩,az.zero⟩
   ·rw[show a7 w' i=a7 w i from az.block i (Array.getElem?_eq_some_iff.1 ak).1]
    exact ak
   ·exact .inr (Array.getElem?_eq_none_iff.2 (dR.known b (ra.1 ai)).2)
end a1
end Go.Proofs.YtepcfjbfkedlpaaDoor
namespace Go.Proofs.YtepcfjbfkedlpaaDoor
section
namespace a1
structure pI where
 N:Nat
 tE:Nat->List (Nat×Int)
 top:Nat->Bool
 bw:Nat->Nat
 tF:∀k n d,k<N->(n,d)∈tE k->n<N
 VA:∀k n d,k<N->(n,d)∈tE k->n≠k
 ON:∀k n d,k<N->(n,d)∈tE k->(k,-d)∈tE n
 VB:∀k n d,k<N->(n,d)∈tE k->0<d->bw n<bw k
 VC:∀k,(tE k).length<=6
def given (mR f:Int) (c:Nat) (up:Bool):Int:=if up=true/\c=3/\mR=15/\f=1 then 15 else max 0 (mR-f)
theorem aea (mR f:Int) (c:Nat) (up:Bool):0<=given mR f c up:=by
 unfold given;split<;>omega
theorem OO {a b f:Int} (c:Nat) (up:Bool) (h:a<=b) (bn:1<=f):given a f c up<=given b f c up:=by
 unfold given;split
 ·rename_i af
  obtain⟨ah,aH,ck,dd⟩:=af;split
  ·omega
  ·rename_i dM
   have:¬b=15:=λe=>dM ⟨ah,aH,e,dd⟩
   omega
 ·split
  ·rename_i af dM
   obtain⟨ah,aH,ck,dd⟩:=dM;omega
  ·omega
theorem VD {a f:Int} (c:Nat) (up:Bool) (h:a<=15) (bn:1<=f):given a f c up<=15:=by
 unfold given;split<;>omega
theorem VE {f:Int} (c:Nat) (up:Bool) (bn:1<=f):given 0 f c up=0:=by
 unfold given;rw[aV (λh=>by omega)];omega
theorem aeb {a f:Int} {c:Nat} {up:Bool} (bn:1<=f) (cG:a<=15) (h:0<given a f c up):given a f c up<a\/(given a f c up=a/\a=15/\up=true):=by
 unfold given at*
 split
 ·rename_i af
  exact .inr ⟨aj,af.2.2.1,af.1⟩
 ·rename_i af
  rw[aV af] at h;omega
structure il where
 kY:Nat->Int
 emit:Nat->Nat->Int
 aX:Nat->Bool
abbrev nM:=Nat->Nat->Int
variable {G:pI}
def vD (G:pI) (S:il) (k c:Nat):Int:=if c=3 then (if G.top k=true then given 15 (S.kY k) 3 true else 0) else S.emit k c
def mC (G:pI) (S:il) (k:Nat):List (Nat×Int):=(G.tE k).filter λp=>S.aX p.1
def rule (G:pI) (S:il) (L:nM) (k c:Nat):Int:=
 if S.aX k=true then (mC G S k).foldl (λa p=>max a (given (L p.1 c) (S.kY k) c (decide (0<p.2)))) (vD G S k c) else 0
theorem OP {α:Type} (f:α->Int):∀(l:List α) (a v:Int),l.foldl (λa p=>max a (f p)) a<=v↔a<=v/\∀p∈l,f p<=v
 |[],a,v=>by simp
 |x::l,a,v=>by
  rw[List.foldl_cons,OP f l];simp only [List.mem_cons,forall_eq_or_imp];constructor
  ·rintro ⟨af,ah⟩
   exact⟨aj,aj,ah⟩
  ·rintro ⟨af,ah,aH⟩
   exact⟨aj,aH⟩
theorem VF {α:Type} (f:α->Int):∀(l:List α) (a:Int),l.foldl (λa p=>max a (f p)) a=a\/∃p∈l,l.foldl (λa p=>max a (f p)) a=f p
 |[],a=> .inl rfl
 |x::l,a=>by
  rw[List.foldl_cons];rcases VF f l (max a (f x)) with h|⟨p,hp,h⟩
  ·rw[h]
   rcases Int.le_total a (f x) with af|af
   ·exact .inr ⟨x,by simp,aj⟩
   ·exact .inl aj
  ·exact .inr ⟨p,by simp [hp],h⟩
theorem wW {S:il} {k n:Nat} {d:Int}:(n,d)∈mC G S k↔(n,d)∈G.tE k/\S.aX n=true:=by
 unfold mC;simp [List.mem_filter]
theorem sA {S:il} {L:nM} {k c:Nat} {v:Int} (bd:0<=v):
  rule G S L k c<=v↔(S.aX k=true->vD G S k c<=v/\∀n d,(n,d)∈G.tE k->S.aX n=true->given (L n c) (S.kY k) c (decide (0<d))<=v):=by
 unfold rule;split
 ·rename_i ay
  rw[OP];constructor
  ·rintro ⟨af,ah⟩ _
   exact⟨af,λn d aT bu=>ah (n,d) (wW.2 ⟨aT,bu⟩)⟩
  ·intro h
   obtain⟨af,ah⟩:=h ay;exact⟨af,λp hp=>ah p.1 p.2 (wW.1 hp).1 (wW.1 hp).2⟩
 ·rename_i ay
  exact⟨λ_ h=>absurd h ay,λ_=>bd⟩
structure il.rT (S:il) (N:Nat):Prop where
 kY:∀k,k<N->1<=S.kY k
 emit:∀k c,k<N->c<3->0<=S.emit k c/\S.emit k c<=15
theorem VG {S:il} (a_:S.rT G.N) {k c:Nat} (ao:k<G.N) (aA:c<4):0<=vD G S k c/\vD G S k c<=15:=by
 unfold vD;split
 ·split
  ·exact⟨aea _ _ _ _,VD _ _ aj (a_.kY k ao)⟩
  ·omega
 ·exact a_.emit k c ao aj
theorem Ap {S:il} (a_:S.rT G.N) {L:nM} {k c:Nat} (ao:k<G.N) (aA:c<4):0<=rule G S L k c:=by
 by_cases ay:S.aX k=true
 ·have af:=(sA (G:=G) (S:=S) (L:=L) (k:=k) (c:=c) (v:=max 0 (rule G S L k c)) aj).1 aj ay
  have ah:=(VG a_ ao aA).1;by_cases aH:0<=rule G S L k c
  ·exact aH
  ·unfold rule at*
   rw[aP ay] at*
   have ck:=(OP (λp:Nat×Int=>given (L p.1 c) (S.kY k) c (decide (0<p.2))) (mC G S k) (vD G S k c) _).1 (Int.le_refl _);omega
 ·unfold rule
  rw[aV ay];exact Int.le_refl _
theorem aec {S:il} {L:nM} {k c:Nat} (ay:S.aX k=true):rule G S L k c=vD G S k c\/∃n d,(n,d)∈G.tE k/\S.aX n=true/\rule G S L k c=given (L n c) (S.kY k) c (decide (0<d)):=by
 unfold rule;rw[aP ay];rcases VF (λp:Nat×Int=>given (L p.1 c) (S.kY k) c (decide (0<p.2))) (mC G S k) (vD G S k c) with h|⟨p,hp,h⟩
 ·exact .inl h
 ·exact .inr ⟨p.1,p.2,(wW.1 hp).1,(wW.1 hp).2,h⟩
theorem VH {S:il} (a_:S.rT G.N) {L:nM} {k c:Nat} (ao:k<G.N) (aA:c<4) (jZ:∀n,n<G.N->L n c<=15):rule G S L k c<=15:=
 (sA aj).2 λ_=>⟨(VG a_ ao aA).2,λn _ aT _=>VD _ _ (jZ n (G.tF _ _ _ ao aT)) (a_.kY k ao)⟩
theorem VI {S:il} (a_:S.rT G.N) {L P:nM} {k c:Nat} (ao:k<G.N) (aA:c<4) (h:∀n,n<G.N->L n c<=P n c):rule G S L k c<=rule G S P k c:=by
 refine(sA (Ap a_ ao aA)).2 λay=> ?_
 obtain⟨af,ah⟩:=(sA (G:=G) (S:=S) (L:=P) (k:=k) (c:=c) (Ap a_ ao aA)).1 (Int.le_refl _) ay;exact⟨af,λn d aT bu=>Int.le_trans (OO _ _ (h n (G.tF _ _ _ ao aT)) (a_.kY k ao)) (ah n d aT bu)⟩
def Gr (G:pI) (S:il) (P:nM):Prop:=∀k c,k<G.N->c<4->rule G S P k c<=P k c
structure y4 (G:pI) (S:il) (L:nM):Prop where
 fixed:∀k c,k<G.N->c<4->rule G S L k c=L k c
 least:∀P,Gr G S P->∀k c,k<G.N->c<4->L k c<=P k c
theorem aed {S:il} (a_:S.rT G.N) {L:nM} (af:Gr G S L) (ah:∀P,Gr G S P->∀k c,k<G.N->c<4->L k c<=P k c):y4 G S L:=by
 refine⟨λk c ao aA=>Int.le_antisymm (af k c ao aA) ?_,ah⟩;have hp:Gr G S (rule G S L):=λk c ao aA=>VI a_ ao aA λn aT=>af n c aT aA
 exact ah _ hp k c ao aA
structure qE (G:pI) (S:il) (L:nM) (W:Nat->Prop):Prop where
 low:∀P,Gr G S P->∀k c,k<G.N->c<4->L k c<=P k c
 bound:∀k c,k<G.N->c<4->0<=L k c/\L k c<=15
 done:∀k c,k<G.N->c<4->¬W k->rule G S L k c<=L k c
theorem qE.full {S:il} (a_:S.rT G.N) {L:nM} {W:Nat->Prop} (h:qE G S L W) (nj:∀k,k<G.N->¬W k):y4 G S L:=
 aed a_ (λk c ao aA=>h.done k c ao aA (nj k ao)) h.low
theorem y4.up {S:il} {L:nM} (h:y4 G S L) (ai:∀k c,k<G.N->c<4->0<=L k c/\L k c<=15) (W:Nat->Prop):qE G S L W:=
 ⟨h.least,ai,λk c ao aA _=>Int.le_of_eq (h.fixed k c ao aA)⟩
theorem qE.zero {S:il} (a_:S.rT G.N) {W:Nat->Prop} (nj:∀k,k<G.N->W k):qE G S (λ_ _=>0) W where
 low P iP k c ao aA:=Int.le_trans (Ap a_ ao aA) (iP k c ao aA)
 bound _ _ _ _:=by omega
 done k _ ao _ aT:=absurd (nj k ao) aT
def raised (G:pI) (S:il) (L:nM) (k:Nat):nM:=λm c=>if m=k then max (rule G S L k c) (L k c) else L m c
theorem qE.Kj {S:il} (a_:S.rT G.N) {L:nM} {W W':Nat->Prop} {k:Nat} (ao:k<G.N) (h:qE G S L W)
  (aee:∀m,m≠k->W m->W' m) (aef:(∃c,c<4/\L k c<rule G S L k c)->∀n d,(n,d)∈G.tE k->S.aX n=true->W' n):qE G S (raised G S L k) W' where
 low P iP m c hm aA:=by
  unfold raised;split
  ·rename_i e
   subst e;have:=VI a_ (c:=c) (L:=L) (P:=P) hm aA λn aT=>h.low P iP n c aT aA
   have:=iP m c hm aA;have:=h.low P iP m c hm aA;omega
  ·exact h.low P iP m c hm aA
 bound m c hm aA:=by
  unfold raised;split
  ·rename_i e
   subst e;have af:=h.bound m c hm aA;have ah:=VH a_ (c:=c) (L:=L) hm aA λn aT=>(h.bound n c aT aA).2
   omega
  ·exact h.bound m c hm aA
 done m c hm aA aT:=by
  by_cases vq:m=k
  ·subst vq
   have af:rule G S (raised G S L m) m c=rule G S L m c:=by
    have aw:∀n d,(n,d)∈G.tE m->raised G S L m n c=L n c:=λn d hb=>by
     unfold raised;rw[aV (G.VA m n d hm hb)]
    refine Int.le_antisymm ?_ ?_
    ·refine(sA (Ap a_ hm aA)).2 λay=> ?_
     obtain⟨af,ah⟩:=(sA (G:=G) (S:=S) (L:=L) (k:=m) (c:=c) (Ap a_ hm aA)).1 (Int.le_refl _) ay;exact⟨af,λn d hb bu=>by rw[aw n d hb];exact ah n d hb bu⟩
    ·refine(sA (Ap a_ hm aA)).2 λay=> ?_
     obtain⟨af,ah⟩:=(sA (G:=G) (S:=S) (L:=raised G S L m) (k:=m) (c:=c) (Ap a_ hm aA)).1 (Int.le_refl _) ay;exact⟨af,λn d hb bu=>by rw[<-aw n d hb];exact ah n d hb bu⟩
   rw[af];unfold raised;rw[aP rfl];omega
  ·have OQ:¬W m:=λhw=>aT (aee m vq hw)
   have bd:=h.done m c hm aA OQ;have ar:raised G S L k m c=L m c:=by unfold raised;rw[aV vq]
   rw[ar];refine(sA (h.bound m c hm aA).1).2 λay=> ?_
   obtain⟨af,ah⟩:=(sA (h.bound m c hm aA).1).1 bd ay;refine⟨af,λn d hb bu=> ?_⟩;unfold raised;split
   ·rename_i e
    subst e;by_cases Kk:L n c<rule G S L n c
    ·exfalso
     have aeg:=G.ON m n d hm hb;exact aT (aef ⟨c,aA,Kk⟩ m (-d) aeg ay)
    ·rw[show max (rule G S L n c) (L n c)=L n c by omega]
     exact ah n d hb bu
   ·exact ah n d hb bu
end a1
namespace a1
abbrev cc:=Int×Int×Int×Int
def dP (x:cc):Nat->Int
 |0=>x.1
 |1=>x.2.1
 |2=>x.2.2.1
 |_=>x.2.2.2
def pJ (f:Nat->Int):cc:=(f 0,f 1,f 2,f 3)
theorem ri {f:Nat->Int} {c:Nat} (aA:c<4):dP (pJ f) c=f c:=by
 match c,aA with
 |0,_=>rfl
 |1,_=>rfl
 |2,_=>rfl
 |3,_=>rfl
theorem cc.ext' {x y:cc} (h:∀c,c<4->dP x c=dP y c):x=y:=by
 obtain⟨a,b,c,d⟩:=x;obtain⟨bR,b',c',wu⟩:=y;have bd:a=bR:=h 0 aL;have af:b=b':=h 1 aL;have ah:c=c':=h 2 aL;have aH:d=wu:=h 3 aL;rw[bd,af,ah,aH]
abbrev z4:cc:=(0,0,0,0)
theorem Gs (c:Nat):dP z4 c=0:=by
 match c with
 |0=>rfl
 |1=>rfl
 |2=>rfl
 |_+3=>rfl
def eK (l:List cc):nM:=λk c=>dP (l.getD k z4) c
theorem VJ {l:List cc} {k m c:Nat} {x:cc} (ao:k<l.length):eK (l.set k x) m c=if m=k then dP x c else eK l m c:=by
 unfold eK;rw[eP,eP,List.getElem?_set];by_cases h:k=m
 ·subst h
  rw[aP rfl,aP ao,aP rfl];rfl
 ·rw[aV h,aV (λe=>h e.symm)]
structure gT where
 au:List cc
 aQ:List (Nat×cc)
 gone:List Nat
 aE:List Nat
 waits:List Bool
def tG (old x:cc):cc:=pJ λc=>if 0<dP old c then 0 else dP x c
def j9 (w:gT) (k:Nat) (old:cc):gT:={w with aQ:=w.aQ++[(k,old)],gone:=w.gone++[k],au:=w.au.set k (tG old (w.au.getD k z4))}
def qF (S:il) (old x:cc) (p:Nat×Int):cc:=pJ λc=>if 0<dP old c/\0<dP x c/\dP x c=given (dP old c) (S.kY p.1) c (decide (p.2<0)) then dP x c else 0
def ic (S:il) (old:cc) (w:gT) (p:Nat×Int):gT:=if qF S old (w.au.getD p.1 z4) p=z4 then w else j9 w p.1 (qF S old (w.au.getD p.1 z4) p)
variable {G:pI}
def D8 (G:pI) (S:il) (cL L:nM) (m c:Nat) (rest:List (Nat×Int)):Prop:=∀n d,(n,d)∈G.tE m->S.aX n=true->(n,d)∈rest\/L n c=0\/L n c≠given (cL m c) (S.kY n) c (decide (d<0))
structure rj (G:pI) (ke S:il) (cL:nM) (fe:Nat) (cur:Nat×cc) (rest:List (Nat×Int)) (w:gT):Prop where
 len:w.au.length=G.N
 full:y4 G ke cL
 bound:∀k c,k<G.N->c<4->0<=cL k c/\cL k c<=15
 same:∀n,n≠fe->S.kY n=ke.kY n/\(∀c,S.emit n c=ke.emit n c)/\S.aX n=ke.aX n
 two:∀k c,k<G.N->c<4->eK w.au k c=0\/eK w.au k c=cL k c
 D9:∀c,c<4->eK w.au fe c=0
 Aq:∀m c,m<G.N->c<4->eK w.au m c≠cL m c->(∃x∈w.aQ,x.1=m/\dP x.2 c=cL m c)\/D8 G S cL (eK w.au) m c []\/(m=cur.1/\dP cur.2 c=cL m c/\D8 G S cL (eK w.au) m c rest)
 lost:∀x∈w.aQ,x.1<G.N
 gone:∀m,m<G.N->((∃c,c<4/\eK w.au m c≠cL m c)\/m=fe)->m∈w.gone
 D':∀m∈w.gone,m<G.N
theorem D8.mono {S:il} {cL L L':nM} {m c:Nat} {r iA:List (Nat×Int)} (hm:m<G.N) (h:D8 G S cL L m c r) (ar:∀p∈r,p∈iA) (jZ:∀n,n<G.N->L' n c=0\/L' n c=L n c):D8 G S cL L' m c iA:=λn d aT ay=>by
 rcases h n d aT ay with af|af|af
 ·exact .inl (ar _ af)
 ·rcases jZ n (G.tF _ _ _ hm aT) with ah|ah
  ·exact .inr (.inl ah)
  ·exact .inr (.inl (by rw[ah,af]))
 ·rcases jZ n (G.tF _ _ _ hm aT) with ah|ah
  ·exact .inr (.inl ah)
  ·exact .inr (.inr (by rw[ah];exact af))
theorem OR {w:gT} {k m c:Nat} {old:cc} (ao:k<w.au.length) (aA:c<4):eK (j9 w k old).au m c=if m=k/\0<dP old c then 0 else eK w.au m c:=by
 unfold j9;rw[VJ ao];by_cases h:m=k
 ·subst h
  rw[aP rfl];unfold tG;rw[ri aA];by_cases ah:0<dP old c
  ·rw[aP ah,aP ⟨rfl,ah⟩]
  ·rw[aV ah,aV (λh=>ah h.2)]
   rfl
 ·rw[aV h,aV (λe=>h e.1)]
theorem rj.step {ke S:il} {cL:nM} {fe:Nat} {cur:Nat×cc} {p:Nat×Int} {rest:List (Nat×Int)} {w:gT} (Ck:cur.1<G.N) (hp:p∈mC G S cur.1) (h:rj G ke S cL fe cur (p::rest) w):rj G ke S cL fe cur rest (ic S cur.2 w p):=by
 obtain⟨n,d⟩:=p;obtain⟨Bm,Bo⟩:=wW.1 hp;have aT:n<G.N:=G.tF _ _ _ Ck Bm;have Bj:n<w.au.length:=by rw[h.len];exact aT
 have u_:∀k c,k<G.N->c<4->0<=eK w.au k c:=λk c ao aA=>by
  rcases h.two k c ao aA with e|e
  ·omega
  ·rw[e];exact(h.bound k c ao aA).1
 have rJ:∀m c,c<4->eK (ic S cur.2 w (n,d)).au m c=if m=n/\0<dP cur.2 c/\0<eK w.au n c/\eK w.au n c=given (dP cur.2 c) (S.kY n) c (decide (d<0)) then 0 else eK w.au m c:=λm c aA=>by
  unfold ic;have Ar:dP (qF S cur.2 (w.au.getD n z4) (n,d)) c=if 0<dP cur.2 c/\0<eK w.au n c/\eK w.au n c=given (dP cur.2 c) (S.kY n) c (decide (d<0)) then eK w.au n c else 0:=by
   unfold qF;rw[ri aA];rfl
  split
  ·rename_i de
   have px:dP (qF S cur.2 (w.au.getD n z4) (n,d)) c=0:=by rw[de,Gs]
   rw[Ar] at px;split
   ·rename_i ah
    rw[aP ah.2] at px;rw[ah.1,px]
   ·rfl
  ·rw[OR Bj aA,Ar]
   by_cases ah:0<dP cur.2 c/\0<eK w.au n c/\eK w.au n c=given (dP cur.2 c) (S.kY n) c (decide (d<0))
   ·rw[aP ah]
    by_cases aH:m=n
    ·rw[aP ⟨aH,ah.2.1⟩,aP ⟨aH,ah⟩]
    ·rw[aV (λe=>aH e.1),aV (λe=>aH e.1)]
   ·rw[aV ah,aV (λe=>by omega),aV (λe=>ah e.2)]
 have OS:∀m c,c<4->eK (ic S cur.2 w (n,d)).au m c=0\/eK (ic S cur.2 w (n,d)).au m c=eK w.au m c:=λm c aA=>by
  rw[rJ m c aA];split
  ·exact .inl rfl
  ·exact .inr rfl
 have JE:∀x,x∈w.aQ->x∈(ic S cur.2 w (n,d)).aQ:=λx aw=>by
  unfold ic;split
  ·exact aw
  ·unfold j9
   simp [aw]
 have n5:∀x,x∈w.gone->x∈(ic S cur.2 w (n,d)).gone:=λx aw=>by
  unfold ic;split
  ·exact aw
  ·unfold j9
   simp [aw]
 have hI:∀c,c<4->eK (ic S cur.2 w (n,d)).au n c≠eK w.au n c->n∈(ic S cur.2 w (n,d)).gone/\∃x∈(ic S cur.2 w (n,d)).aQ,x.1=n/\dP x.2 c=eK w.au n c:=λc aA dU=>by
  rw[rJ n c aA] at dU;have aeh:0<dP cur.2 c/\0<eK w.au n c/\eK w.au n c=given (dP cur.2 c) (S.kY n) c (decide (d<0)):=by
   by_cases ah:0<dP cur.2 c/\0<eK w.au n c/\eK w.au n c=given (dP cur.2 c) (S.kY n) c (decide (d<0))
   ·exact ah
   ·rw[aV (λe=>ah e.2)] at dU
    exact absurd rfl dU
  have Ar:dP (qF S cur.2 (w.au.getD n z4) (n,d)) c=eK w.au n c:=by
   unfold qF;rw[ri aA];exact aP aeh
  unfold ic;rw[aV (λde=>by rw[de,Gs] at Ar;omega)];unfold j9;exact⟨by simp,(n,qF S cur.2 (w.au.getD n z4) (n,d)),by simp,rfl,Ar⟩
 refine⟨?_,h.full,h.bound,h.same,λk c ao aA=> ?_,λc aA=> ?_,λm c hm aA dU=> ?_,λx aw=> ?_,λm hm aw=> ?_,λm aw=> ?_⟩
 ·unfold ic
  split
  ·exact h.len
  ·unfold j9
   simp [h.len]
 ·rcases OS k c aA with e|e
  ·exact .inl e
  ·rw[e];exact h.two k c ao aA
 ·rcases OS fe c aA with e|e
  ·exact e
  ·rw[e];exact h.D9 c aA
 ·by_cases hold:eK w.au m c=cL m c
  ·have Kl:m=n:=by
    have:=rJ m c aA;by_cases aw:m=n
    ·exact aw
    ·rw[aV (λe=>aw e.1)] at this
     exact absurd (this.trans hold) dU
   subst Kl;obtain⟨_,x,As,kx,OT⟩:=hI c aA (λe=>dU (e.trans hold));exact .inl ⟨x,As,kx,OT.trans hold⟩
  ·have jZ:∀q,q<G.N->eK (ic S cur.2 w (n,d)).au q c=0\/eK (ic S cur.2 w (n,d)).au q c=eK w.au q c:=λq _=>OS q c aA
   rcases h.Aq m c hm aA hold with ⟨x,As,kx⟩|aw|⟨rfl,kx,OT⟩
   ·exact .inl ⟨x,JE x As,kx⟩
   ·exact .inr (.inl (aw.mono hm (λ_ h=>h) jZ))
   ·refine .inr (.inr ⟨rfl,kx,λq e cy aei=> ?_⟩)
    rcases OT q e cy aei with af|af|af
    ·rcases List.mem_cons.1 af with ah|ah
     ·obtain⟨rfl,rfl⟩:=Prod.mk.inj ah
      rw[rJ q c aA];have ai:=h.two cur.1 c Ck aA;have Km:0<cL cur.1 c:=by
       have:=(h.bound cur.1 c Ck aA).1;rcases ai with bs|bs
       ·rw[bs] at hold;omega
       ·exact absurd bs hold
      have Gt:=u_ q c aT aA;by_cases aH:eK w.au q c=0
      ·right;left
       rw[aH,aV (λe=>by omega)]
      ·by_cases ck:eK w.au q c=given (cL cur.1 c) (S.kY q) c (decide (e<0))
       ·right;left
        rw[aP ⟨rfl,aj,aj,by rw[kx];exact ck⟩]
       ·right;right
        rw[aV (λbs=>ck (by rw[<-kx];exact bs.2.2.2))];exact ck
     ·exact .inl ah
    ·rcases jZ q (G.tF _ _ _ Ck cy) with ah|ah
     ·exact .inr (.inl ah)
     ·exact .inr (.inl (by rw[ah,af]))
    ·rcases jZ q (G.tF _ _ _ Ck cy) with ah|ah
     ·exact .inr (.inl ah)
     ·exact .inr (.inr (by rw[ah];exact af))
 ·unfold ic at aw
  split at aw
  ·exact h.lost x aw
  ·unfold j9 at aw
   rcases List.mem_append.1 aw with af|af
   ·exact h.lost x af
   ·rw[List.mem_singleton.1 af]
    exact aT
 ·by_cases hold:∃c,c<4/\eK w.au m c≠cL m c
  ·exact n5 m (h.gone m hm (.inl hold))
  ·rcases aw with ⟨c,aA,dU⟩|aw
   ·have VK:eK w.au m c=cL m c:=Classical.byContradiction λe=>hold ⟨c,aA,e⟩
    have Kl:m=n:=by
     have:=rJ m c aA;by_cases aw:m=n
     ·exact aw
     ·rw[aV (λe=>aw e.1)] at this
      exact absurd (this.trans VK) dU
    subst Kl;exact(hI c aA (λe=>dU (e.trans VK))).1
   ·exact n5 m (h.gone m hm (.inr aw))
 ·unfold ic at aw
  split at aw
  ·exact h.D' m aw
  ·unfold j9 at aw
   rcases List.mem_append.1 aw with af|af
   ·exact h.D' m af
   ·rw[List.mem_singleton.1 af]
    exact aT
theorem rj.steps {ke S:il} {cL:nM} {fe:Nat} {cur:Nat×cc} (Ck:cur.1<G.N):∀(l:List (Nat×Int)) (w:gT),(∀p∈l,p∈mC G S cur.1)->rj G ke S cL fe cur l w->rj G ke S cL fe cur [] (l.foldl (ic S cur.2) w):=by
 intro l
 induction l with
 |nil=>exact λ_ _ h=>h
 |cons p l eJ=>exact λw az h=>eJ _ (λq cy=>az q (by simp [cy])) (h.step Ck (az _ (by simp)))
theorem rj.take {ke S:il} {cL:nM} {fe:Nat} {cur:Nat×cc} {w:gT} {x:Nat×cc} {r:List (Nat×cc)} (h:rj G ke S cL fe cur [] w) (aw:w.aQ=x::r):rj G ke S cL fe x (mC G S x.1) {w with aQ:=r} where
 len:=h.len
 full:=h.full
 bound:=h.bound
 same:=h.same
 two:=h.two
 D9:=h.D9
 Aq m c hm aA dU:=by
  rcases h.Aq m c hm aA dU with ⟨y,Kn,OU,VL⟩|hy|⟨_,_,hy⟩
  ·rw[aw] at Kn
   rcases List.mem_cons.1 Kn with rfl|Kn
   ·exact .inr (.inr ⟨OU.symm,VL,λn d aT bu=> .inl (wW.2 ⟨OU▸aT,bu⟩)⟩)
   ·exact .inl ⟨y,Kn,OU,VL⟩
  ·exact .inr (.inl hy)
  ·exact .inr (.inl hy)
 lost y hy:=h.lost y (by rw[aw];simp [show y∈r from hy])
 gone:=h.gone
 D':=h.D'
theorem rj.up {ke S:il} (At:ke.rT G.N) (a_:S.rT G.N) {cL:nM} {fe:Nat} {cur:Nat×cc} {w:gT} (h:rj G ke S cL fe cur [] w) (aw:w.aQ=[]) {W:Nat->Prop} (nj:∀m∈w.gone,W m):qE G S (eK w.au) W:=by
 have ai:∀k c,k<G.N->c<4->0<=eK w.au k c/\eK w.au k c<=15:=λk c ao aA=>by
  rcases h.two k c ao aA with e|e
  ·omega
  ·rw[e];exact h.bound k c ao aA
 have aej:∀m c,m<G.N->c<4->eK w.au m c≠cL m c->D8 G S cL (eK w.au) m c []:=λm c hm aA dU=>by
  rcases h.Aq m c hm aA dU with ⟨y,hy,_⟩|hy|⟨_,_,hy⟩
  ·rw[aw] at hy
   cases hy
  ·exact hy
  ·exact hy
 have x3:∀k c,k≠fe->vD G S k c=vD G ke k c:=λk c ao=>by
  unfold vD;rw[(h.same k ao).1,(h.same k ao).2.1]
 refine⟨λP iP=> ?_,ai,λn c aT aA OQ=> ?_⟩
 ·have OV:∀k c,k<G.N->c<4->0<=P k c:=λk c ao aA=>Int.le_trans (Ap a_ ao aA) (iP k c ao aA)
  have main:∀(a b:Nat) (k c:Nat),k<G.N->c<4->(15-cL k c).toNat<=a->G.bw k<=b->eK w.au k c<=P k c:=by
   intro a
   induction a using Nat.strongRecOn with
   |_ a aek=>
    intro b
    induction b using Nat.strongRecOn with
    |_ b ael=>
     intro k c ao aA cG D_;rcases h.two k c ao aA with e|e
     ·rw[e];exact OV k c ao aA
     by_cases de:cL k c=0
     ·rw[e,de];exact OV k c ao aA
     have ji:k≠fe:=λOq=>by
      have:=h.D9 c aA;rw[<-Oq] at this;omega
     have u_:0<cL k c:=by have:=(h.bound k c ao aA).1;omega
     have Ea:=h.full.fixed k c ao aA;have VM:ke.aX k=true:=Classical.byContradiction λaT=>by
      unfold rule at Ea;rw[aV aT] at Ea;omega
     have Bo:S.aX k=true:=by rw[(h.same k ji).2.2];exact VM
     have VN:=(sA (OV k c ao aA)).1 (iP k c ao aA) Bo;rcases aec (G:=G) (S:=ke) (L:=cL) (c:=c) VM with af|⟨m,d,hm,BX,af⟩
     ·rw[e,<-Ea,af,<-x3 k c ji]
      exact VN.1
     ·have Au:=G.tF _ _ _ ao hm
      have xY:cL k c=given (cL m c) (ke.kY k) c (decide (0<d)):=by rw[<-Ea,af]
      have VO:eK w.au m c=cL m c:=Classical.byContradiction λdU=>by
       rcases aej m c Au aA dU k (-d) (G.ON _ _ _ ao hm) Bo with ah|ah|ah
       ·cases ah
       ·omega
       ·apply ah
        rw[e,xY,(h.same k ji).1];congr 1;simp
      have Eb:m≠fe:=λem=>by
       have ah:=h.D9 c aA;rw[<-em,VO] at ah;rw[ah,VE _ _ (At.kY k ao)] at xY;omega
      have aem:S.aX m=true:=by rw[(h.same m Eb).2.2];exact BX
      have Ns:cL m c<=P m c:=by
       rw[<-VO];rcases aeb (c:=c) (up:=decide (0<d)) (At.kY k ao) (h.bound m c Au aA).2 (by rw[<-xY];exact u_) with ah|⟨ah,aH,ck⟩
       ·rw[<-xY] at ah
        have:=(h.bound m c Au aA).2;exact aek ((15-cL m c).toNat) aj (G.bw m) m c Au aA (c4 _) (c4 _)
       ·rw[<-xY] at ah
        exact ael (G.bw m) (Nat.lt_of_lt_of_le (G.VB _ _ _ ao hm (by simpa using ck)) D_) m c Au aA (by rw[<-ah];exact cG) (c4 _)
      have dd:=VN.2 m d hm aem;have dM:=OO c (decide (0<d)) Ns (a_.kY k ao);rw[e,xY,<-(h.same k ji).1];exact Int.le_trans dM dd
  exact λk c ao aA=>main _ _ k c ao aA (c4 _) (c4 _)
 ·have VP:n∉w.gone:=λbg=>OQ (nj n bg)
  have OW:n≠fe:=λe=>VP (h.gone n aT (.inr e))
  have aen:eK w.au n c=cL n c:=Classical.byContradiction λe=>VP (h.gone n aT (.inl ⟨c,aA,e⟩))
  have Ea:=h.full.fixed n c aT aA;rw[aen];have hle:=(sA (h.bound n c aT aA).1).1 (Int.le_of_eq Ea);refine(sA (h.bound n c aT aA).1).2 λay=> ?_
  obtain⟨af,ah⟩:=hle (by rw[<-(h.same n OW).2.2];exact ay);refine⟨by rw[x3 n c OW];exact af,λm d hm BX=> ?_⟩;have Au:=G.tF _ _ _ aT hm;rw[(h.same n OW).1];by_cases Eb:m=fe
  ·rw[Eb,h.D9 c aA,VE _ _ (At.kY n aT)]
   exact(h.bound n c aT aA).1
  ·have:=ah m d hm (by rw[<-(h.same m Eb).2.2];exact BX)
   refine Int.le_trans (OO _ _ ?_ (At.kY n aT)) this;rcases h.two m c Au aA with e|e
   ·rw[e];exact(h.bound m c Au aA).1
   ·rw[e];exact Int.le_refl _
theorem rj.begin {ke S:il} {fe:Nat} {w:gT} {cur:Nat×cc} (ao:fe<G.N) (hlen:w.au.length=G.N) (bn:y4 G ke (eK w.au)) (ai:∀k c,k<G.N->c<4->0<=eK w.au k c/\eK w.au k c<=15) (yy:∀n,n≠fe->S.kY n=ke.kY n/\(∀c,S.emit n c=ke.emit n c)/\S.aX n=ke.aX n) (az:w.aQ=[]) (bg:w.gone=[]):
  rj G ke S (eK w.au) fe cur [] (j9 w fe (w.au.getD fe z4)):=by
 have rU:fe<w.au.length:=by rw[hlen];exact ao
 have rJ:∀m c,c<4->eK (j9 w fe (w.au.getD fe z4)).au m c=if m=fe/\0<eK w.au fe c then 0 else eK w.au m c:=λm c aA=>OR rU aA
 refine⟨?_,bn,ai,yy,λk c ao aA=> ?_,λc aA=> ?_,λm c hm aA dU=> ?_,λx aw=> ?_,λm hm aw=> ?_,λm aw=> ?_⟩
 ·unfold j9
  simp [hlen]
 ·rw[rJ k c aA]
  split
  ·exact .inl rfl
  ·exact .inr rfl
 ·rw[rJ fe c aA]
  have:=(ai fe c ao aA).1;split
  ·rfl
  ·rename_i af
   have:¬0<eK w.au fe c:=λah=>af ⟨rfl,ah⟩
   omega
 ·rw[rJ m c aA] at dU
  have af:m=fe/\0<eK w.au fe c:=Classical.byContradiction λaf=>by
   rw[aV af] at dU;exact dU rfl
  refine .inl ⟨(fe,w.au.getD fe z4),?_,af.1.symm,by rw[af.1];rfl⟩;unfold j9;simp
 ·unfold j9 at aw
  rw[az] at aw;rw[List.mem_singleton.1 aw];exact ao
 ·have:m=fe:=by
   rcases aw with ⟨c,aA,dU⟩|aw
   ·rw[rJ m c aA] at dU
    exact Classical.byContradiction λaf=>by
     rw[aV (λh=>af h.1)] at dU;exact dU rfl
   ·exact aw
  rw[this];unfold j9;simp
 ·unfold j9 at aw
  rw[bg] at aw;rw[List.mem_singleton.1 aw];exact ao
end a1
namespace a1
variable {G:pI}
def jQ (w:gT) (k:Nat):gT:=if w.waits.getD k false=true then w else {w with aE:=w.aE++[k],waits:=w.waits.set k true}
def iR (G:pI) (S:il) (w:gT) (x:Nat×cc) (r:List (Nat×cc)):gT:=(mC G S x.1).foldl (ic S x.2) {w with aQ:=r}
def Gu (w:gT):gT:=if w.aQ=[] then {w.gone.foldl jQ w with gone:=[]} else w
def qG (G:pI) (S:il) (w:gT) (k:Nat):cc:=pJ (rule G S (eK w.au) k)
def uE (x y:cc):cc:=pJ λc=>max (dP x c) (dP y c)
def Av (x y:cc):Bool:=decide (dP y 0<dP x 0)||decide (dP y 1<dP x 1)||decide (dP y 2<dP x 2)||decide (dP y 3<dP x 3)
def Gv (G:pI) (S:il) (w:gT) (k:Nat) (r:List Nat):gT:=
 let w1:gT:={w with aE:=r,waits:=w.waits.set k false,au:=w.au.set k (uE (qG G S w k) (w.au.getD k z4))}
 if Av (qG G S w k) (w.au.getD k z4)=true then (mC G S k).foldl (λw p=>jQ w p.1) w1 else w1
def tH (G:pI) (S:il) (w:gT):Option gT:=
 match w.aQ with
 |x::r=>some (Gu (iR G S w x r))
 |[]=>match w.aE with
  |k::r=>some (Gv G S w k r)
  |[]=>none
def mS (f:cc->Nat) (l:List cc):Nat:=(l.map f).sum
theorem OX {f:cc->Nat}:∀{l:List cc} {k:Nat} {y:cc},k<l.length->mS f (l.set k y)+f (l.getD k z4)=mS f l+f y
 |[],_,_,h=>absurd h (Nat.not_lt_zero _)
 |x::l,0,y,_=>by simp [mS];omega
 |x::l,k+1,y,h=>by
  have:=OX (f:=f) (l:=l) (k:=k) (y:=y) (by simpa using h);simp only [mS,List.set_cons_succ,List.map_cons,List.sum_cons,List.getD_cons_succ] at*
  omega
theorem OY {f:cc->Nat} {b:Nat}:∀{l:List cc},(∀x∈l,f x<=b)->mS f l<=b*l.length
 |[],_=>by simp [mS]
 |x::l,h=>by
  have:=OY (f:=f) (b:=b) (l:=l) (λy hy=>h y (by simp [hy]));have:=h x (by simp);simp only [mS,List.map_cons,List.sum_cons,List.length_cons,Nat.mul_add] at*
  omega
def tI (x:cc):Nat:=(15-x.1).toNat+(15-x.2.1).toNat+(15-x.2.2.1).toNat+(15-x.2.2.2).toNat
def qe (x:cc):Nat:=(if 0<x.1 then 1 else 0)+(if 0<x.2.1 then 1 else 0)+(if 0<x.2.2.1 then 1 else 0)+(if 0<x.2.2.2 then 1 else 0)
theorem aeo (x:cc):qe x<=4:=by
 unfold qe
 (repeat' split)<;>omega
def qH (N:Nat):Nat:=365*N+2
def nN (N:Nat) (w:gT):Nat:=if w.aQ=[] then w.aE.length+6*mS tI w.au else w.aQ.length+mS qe w.au+361*N
structure wX (N:Nat) (w:gT):Prop where
 len:w.waits.length=N
 nodup:w.aE.Nodup
 lt:∀k∈w.aE,k<N
 is:∀k,k<N->(w.waits.getD k false=true↔k∈w.aE)
theorem y5 {α:Type} {l:List α} {k m:Nat} {x d:α} (ao:k<l.length):(l.set k x).getD m d=if m=k then x else l.getD m d:=by
 rw[eP,eP,List.getElem?_set];by_cases h:k=m
 ·subst h
  rw[aP rfl,aP ao,aP rfl];rfl
 ·rw[aV h,aV (λe=>h e.symm)]
theorem wX.Kj {N:Nat} {w:gT} {k:Nat} (ao:k<N) (h:wX N w):wX N (jQ w k):=by
 unfold jQ;split
 ·exact h
 ·rename_i aT
  have hZ:k∉w.aE:=λhm=>aT ((h.is k ao).2 hm)
  refine⟨by simp [h.len],?_,λm hm=> ?_,λm hm=> ?_⟩
  ·show (w.aE++[k]).Nodup
   rw[List.nodup_append];exact⟨h.nodup,by simp,λa cG b ai e=>by
    rw[List.mem_singleton.1 ai] at e
    exact hZ (e▸cG)⟩
  ·rcases List.mem_append.1 hm with af|af
   ·exact h.lt m af
   ·rw[List.mem_singleton.1 af];exact ao
  ·show (w.waits.set k true).getD m false=true↔m∈w.aE++[k]
   rw[y5 (by rw[h.len];exact ao)];by_cases e:m=k
   ·rw[aP e]
    simp [e]
   ·rw[aV e,h.is m hm]
    simp [e]
theorem aep (w:gT) (k:Nat):(jQ w k).au=w.au/\(jQ w k).aQ=w.aQ/\(jQ w k).gone=w.gone:=by
 unfold jQ;split<;>exact⟨rfl,rfl,rfl⟩
theorem aeq (w:gT) (k m:Nat) (h:m∈w.aE):m∈(jQ w k).aE:=by
 unfold jQ;split
 ·exact h
 ·simp [h]
theorem aer {N:Nat} {w:gT} {k:Nat} (h:wX N w) (ao:k<N):k∈(jQ w k).aE:=by
 unfold jQ;split
 ·rename_i af
  exact(h.is k ao).1 af
 ·simp
theorem aes (w:gT) (k:Nat):(jQ w k).aE.length<=w.aE.length+1:=by
 unfold jQ;split
 ·omega
 ·simp
theorem VQ {N:Nat} {α:Type} (f:α->Nat):∀(l:List α) (w:gT),(∀p∈l,f p<N)->wX N w->
  let w':=l.foldl (λw p=>jQ w (f p)) w
  wX N w'/\w'.au=w.au/\w'.aQ=w.aQ/\w'.gone=w.gone/\(∀m∈w.aE,m∈w'.aE)/\(∀p∈l,f p∈w'.aE)/\w'.aE.length<=w.aE.length+l.length:=by
 intro l
 induction l with
 |nil=>exact λw _ h=>⟨h,rfl,rfl,rfl,λ_ h=>h,λ_ h=>(by cases h),c4 _⟩
 |cons p l eJ=>
  intro w az h;have hp:=az p (by simp);obtain⟨af,ah,aH,ck,dd,dM,gW⟩:=eJ (jQ w (f p)) (λq cy=>az q (by simp [cy])) (h.Kj hp);obtain⟨g1,g2,g3⟩:=aep w (f p);refine⟨af,ah.trans g1,aH.trans g2,ck.trans g3,λm hm=>dd m (aeq w (f p) m hm),λq cy=> ?_,?_⟩
  ·rcases List.mem_cons.1 cy with rfl|cy
   ·exact dd _ (aer h hp)
   ·exact dM q cy
  ·have:=aes w (f p)
   simp only [List.length_cons,List.foldl_cons] at*
   omega
theorem aeu {N:Nat}:∀{l:List Nat},l.Nodup->(∀k∈l,k<N)->l.length<=N:=by
 induction N with
 |zero=>
  intro l _ h
  match l with
  |[]=>simp
  |x::_=>exact absurd (h x (by simp)) (Nat.not_lt_zero _)
 |succ N eJ=>
  intro l aT h;have af:(l.erase N).length<=N:=eJ (aT.erase N) λk ao=>by
   have oB:=h k (List.mem_of_mem_erase ao);have Df:k≠N:=λe=>by
    rw[e] at ao;exact(List.Nodup.not_mem_erase aT) ao
   omega
  have ah:l.length<=(l.erase N).length+1:=by
   rw[List.length_erase];split<;>omega
  omega
theorem wX.count {N:Nat} {w:gT} (h:wX N w):w.aE.length<=N:=aeu h.nodup h.lt
structure rV (G:pI) (S:il) (w:gT):Prop where
 len:w.au.length=G.N
 wait:wX G.N w
 up:w.aQ=[]->w.gone=[]/\qE G S (eK w.au) (· ∈w.aE)
 down:w.aQ≠[]->w.aE=[]/\∃ke cL fe cur,ke.rT G.N/\rj G ke S cL fe cur [] w
theorem rV.bound {S:il} {w:gT} (h:rV G S w):∀k c,k<G.N->c<4->0<=eK w.au k c/\eK w.au k c<=15:=λk c ao aA=>by
 by_cases az:w.aQ=[]
 ·exact(h.up az).2.bound k c ao aA
 ·obtain⟨_,ke,cL,fe,cur,_,bu⟩:=h.down az
  rcases bu.two k c ao aA with e|e
  ·omega
  ·rw[e];exact bu.bound k c ao aA
theorem VR {S:il} {w:gT} (h:rV G S w):mS tI w.au<=60*G.N:=by
 have:=OY (f:=tI) (b:=60) (l:=w.au) λx aw=>by
  obtain⟨k,ao,rfl⟩:=List.mem_iff_getElem.1 aw;have kZ:k<G.N:=by rw[<-h.len];exact ao
  have ai:=λc (aA:c<4)=>h.bound k c kZ aA
  have he:w.au.getD k z4=w.au[k]:=by rw[eP,ig ao];rfl
  have bd:=ai 0 aL;have af:=ai 1 aL;have ah:=ai 2 aL;have aH:=ai 3 aL;unfold eK at bd af ah aH;rw[he] at bd af ah aH;simp only [dP] at bd af ah aH;unfold tI;omega
 rw[h.len] at this;exact this
theorem Gw (w:gT):mS qe w.au<=4*w.au.length:=OY λx _=>aeo x
theorem aev {S:il} {old:cc} {w:gT} {p:Nat×Int} (hp:p.1<w.au.length):(ic S old w p).aQ.length+mS qe (ic S old w p).au<=w.aQ.length+mS qe w.au/\(ic S old w p).au.length=w.au.length/\(ic S old w p).aE=w.aE/\(ic S old w p).waits=w.waits:=by
 unfold ic;split
 ·exact⟨c4 _,rfl,rfl,rfl⟩
 ·rename_i dU
  refine⟨?_,by simp [j9],rfl,rfl⟩;unfold j9;have ay:=OX (f:=qe) (y:=tG (qF S old (w.au.getD p.1 z4) p) (w.au.getD p.1 z4)) hp;have c_:qe (tG (qF S old (w.au.getD p.1 z4) p) (w.au.getD p.1 z4))+1<=qe (w.au.getD p.1 z4):=by
   have de:¬∀c,c<4->dP (qF S old (w.au.getD p.1 z4) p) c=0:=λh=>dU (cc.ext' λc aA=>by rw[h c aA,Gs])
   have aw:∀c,c<4->dP (qF S old (w.au.getD p.1 z4) p) c=0\/(0<dP (w.au.getD p.1 z4) c/\dP (qF S old (w.au.getD p.1 z4) p) c=dP (w.au.getD p.1 z4) c):=λc aA=>by
    unfold qF;rw[ri aA];split
    ·rename_i h
     exact .inr ⟨h.2.1,rfl⟩
    ·exact .inl rfl
   generalize qF S old (w.au.getD p.1 z4) p=o at de aw ⊢;generalize w.au.getD p.1 z4=x at aw ⊢;have bd:=aw 0 aL;have af:=aw 1 aL;have ah:=aw 2 aL;have aH:=aw 3 aL;have alb:¬(dP o 0=0/\dP o 1=0/\dP o 2=0/\dP o 3=0):=λ⟨a,b,c,d⟩=>de λk ao=>by
    match k,ao with
    |0,_=>exact a
    |1,_=>exact b
    |2,_=>exact c
    |3,_=>exact d
   unfold tG qe pJ;simp only [dP] at*
   repeat' split
   all_goals omega
  simp only [List.length_append,List.length_cons,List.length_nil];omega
theorem VS {S:il} {old:cc}:∀(l:List (Nat×Int)) (w:gT),(∀p∈l,p.1<w.au.length)->
  let w':=l.foldl (ic S old) w
  w'.aQ.length+mS qe w'.au<=w.aQ.length+mS qe w.au/\w'.au.length=w.au.length/\w'.aE=w.aE/\w'.waits=w.waits:=by
 intro l
 induction l with
 |nil=>exact λw _=>⟨c4 _,rfl,rfl,rfl⟩
 |cons p l eJ=>
  intro w az;obtain⟨g1,g2,g3,g4⟩:=aev (S:=S) (old:=old) (w:=w) (az p (by simp));obtain⟨af,ah,aH,ck⟩:=eJ (ic S old w p) (λq cy=>by rw[g2];exact az q (by simp [cy]));exact⟨Nat.le_trans af g1,ah.trans g2,aH.trans g3,ck.trans g4⟩
theorem aew {x y:cc}:Av x y=true↔∃c,c<4/\dP y c<dP x c:=by
 unfold Av;simp only [Bool.or_eq_true,decide_eq_true_eq];constructor
 ·rintro (((h|h)|h)|h)
  ·exact⟨0,aL,h⟩
  ·exact⟨1,aL,h⟩
  ·exact⟨2,aL,h⟩
  ·exact⟨3,aL,h⟩
 ·rintro ⟨c,aA,h⟩
  match c,aA with
  |0,_=>exact .inl (.inl (.inl h))
  |1,_=>exact .inl (.inl (.inr h))
  |2,_=>exact .inl (.inr h)
  |3,_=>exact .inr h
theorem qE.weaken {S:il} {L L':nM} {W W':Nat->Prop} (h:qE G S L W) (jZ:∀k c,k<G.N->c<4->L' k c=L k c) (nj:∀m,W m->W' m):qE G S L' W' where
 low P iP k c ao aA:=by rw[jZ k c ao aA];exact h.low P iP k c ao aA
 bound k c ao aA:=by rw[jZ k c ao aA];exact h.bound k c ao aA
 done k c ao aA aT:=by
  rw[jZ k c ao aA];have bd:=h.done k c ao aA (λhw=>aT (nj k hw));refine(sA (h.bound k c ao aA).1).2 λay=> ?_
  obtain⟨af,ah⟩:=(sA (h.bound k c ao aA).1).1 bd ay;exact⟨af,λn d hb bu=>by rw[jZ n c (G.tF _ _ _ ao hb) aA];exact ah n d hb bu⟩
theorem rV.unit {S:il} (a_:S.rT G.N) {w w':gT} (h:rV G S w) (hu:tH G S w=some w'):rV G S w'/\nN G.N w'+1<=nN G.N w:=by
 unfold tH at hu;split at hu
 ·rename_i x r aw
  cases hu;have dU:w.aQ≠[]:=by rw[aw];simp
  obtain⟨bg,ke,cL,fe,cur,At,bu⟩:=h.down dU;have As:x.1<G.N:=bu.lost x (by rw[aw];simp);have c_:∀p∈mC G S x.1,p.1<G.N:=λp hp=>G.tF _ p.1 p.2 As (wW.1 hp).1
  have fT:=rj.steps As _ _ (λp hp=>hp) (bu.take aw);obtain⟨eO,fS,jt,kf⟩:=VS (S:=S) (old:=x.2) (mC G S x.1) {w with aQ:=r} (λp hp=>by rw[show ({w with aQ:=r}:gT).au=w.au from rfl,h.len];exact c_ p hp)
  change rj G ke S cL fe x [] (iR G S w x r) at fT
  change (iR G S w x r).aQ.length+mS qe (iR G S w x r).au<=r.length+mS qe w.au at eO
  change (iR G S w x r).aE=w.aE at jt
  change (iR G S w x r).waits=w.waits at kf
  have y6:wX G.N (iR G S w x r):=⟨by rw[kf];exact h.wait.len,by rw[jt];exact h.wait.nodup,by rw[jt];exact h.wait.lt,by rw[jt,kf];exact h.wait.is⟩;have Gx:nN G.N w=r.length+1+mS qe w.au+361*G.N:=by
   unfold nN;rw[aV dU,aw];rfl
  unfold Gu;split
  ·rename_i he
   obtain⟨g1,g2,g3,g4,mb,g6,g7⟩:=VQ (N:=G.N) (λk=>k) (iR G S w x r).gone (iR G S w x r) (λk ao=>fT.D' k ao) y6;have vB:qE G S (eK (iR G S w x r).au) (· ∈((iR G S w x r).gone.foldl jQ (iR G S w x r)).aE):=fT.up At a_ he λm hm=>g6 m hm
   have OZ:rV G S {(iR G S w x r).gone.foldl jQ (iR G S w x r) with gone:=[]}:=by
    refine⟨by show ((iR G S w x r).gone.foldl jQ (iR G S w x r)).au.length=_;rw[g2];exact fT.len,⟨g1.len,g1.nodup,g1.lt,g1.is⟩,λ_=>⟨rfl,?_⟩,λaT=>absurd (g3.trans he) aT⟩;show qE G S (eK ((iR G S w x r).gone.foldl jQ (iR G S w x r)).au) _;rw[g2];exact vB
   refine⟨OZ,?_⟩;rw[Gx];have az:({(iR G S w x r).gone.foldl jQ (iR G S w x r) with gone:=[]}:gT).aQ=[]:=g3.trans he;have af:=OZ.wait.count;have ah:=VR OZ;unfold nN;rw[aP az];omega
  ·rename_i he
   refine⟨⟨fT.len,y6,λe=>absurd e he,λ_=>⟨jt.trans bg,ke,cL,fe,x,At,fT⟩⟩,?_⟩;rw[Gx];unfold nN;rw[aV he];omega
 ·rename_i aw
  split at hu
  ·rename_i k r ao
   cases hu;obtain⟨VT,vB⟩:=h.up aw;have kZ:k<G.N:=h.wait.lt k (by rw[ao];simp);have rU:k<w.au.length:=by rw[h.len];exact kZ
   have hb:k∉r/\r.Nodup:=by
    have:=h.wait.nodup;rw[ao] at this;exact⟨(List.nodup_cons.1 this).1,(List.nodup_cons.1 this).2⟩
   let w1:gT:={w with aE:=r,waits:=w.waits.set k false,au:=w.au.set k (uE (qG G S w k) (w.au.getD k z4))}
   have y6:wX G.N w1:=by
    refine⟨by simp [w1,h.wait.len],hb.2,λm hm=>h.wait.lt m (by rw[ao];simp [show m∈r from hm]),λm hm=> ?_⟩;show (w.waits.set k false).getD m false=true↔m∈r;rw[y5 (by rw[h.wait.len];exact kZ)];by_cases e:m=k
    ·rw[aP e,e]
     simp [hb.1]
    ·rw[aV e,h.wait.is m hm,ao]
     simp [e]
   have rJ:∀m c,m<G.N->c<4->eK w1.au m c=raised G S (eK w.au) k m c:=λm c _ aA=>by
    show eK (w.au.set k _) m c=_;rw[VJ rU];unfold raised;split
    ·unfold uE qG
     rw[ri aA,ri aA];rfl
    ·rfl
   have Kk:Av (qG G S w k) (w.au.getD k z4)=true↔∃c,c<4/\eK w.au k c<rule G S (eK w.au) k c:=by
    rw[aew];constructor
    ·rintro ⟨c,aA,af⟩
     refine⟨c,aA,?_⟩;unfold qG at af;rw[ri aA] at af;exact af
    ·rintro ⟨c,aA,af⟩
     refine⟨c,aA,?_⟩;unfold qG;rw[ri aA];exact af
   have Mn:=OX (f:=tI) (l:=w.au) (k:=k) (y:=uE (qG G S w k) (w.au.getD k z4)) rU;have Gx:nN G.N w=r.length+1+6*mS tI w.au:=by
    unfold nN;rw[aP aw,ao];rfl
   have D_:=λc (aA:c<4)=>vB.bound k c kZ aA
   unfold Gv;simp only;split
   ·rename_i hm
    obtain⟨eN,oI,Ml⟩:=Kk.1 hm;have c_:∀p∈mC G S k,p.1<G.N:=λp hp=>G.tF _ p.1 p.2 kZ (wW.1 hp).1
    obtain⟨g1,g2,g3,g4,mb,g6,g7⟩:=VQ (N:=G.N) (λp:Nat×Int=>p.1) (mC G S k) w1 c_ y6;have dM:(mC G S k).length<=6:=Nat.le_trans (List.length_filter_le _ _) (G.VC k);have aex:qE G S (raised G S (eK w.au) k) (· ∈((mC G S k).foldl (λw p=>jQ w p.1) w1).aE):=vB.Kj a_ kZ (λm vq Gy=>by
     refine mb m ?_;rw[ao] at Gy;rcases List.mem_cons.1 Gy with e|e
     ·exact absurd e vq
     ·exact e) (λ_ n d aT ay=>g6 (n,d) (wW.2 ⟨aT,ay⟩))
    refine⟨⟨?_,g1,λ_=>⟨?_,?_⟩,λaT=>absurd (g3.trans aw) aT⟩,?_⟩
    ·show ((mC G S k).foldl (λw p=>jQ w p.1) w1).au.length=_
     rw[g2];simp [w1,h.len]
    ·exact g4.trans VT
    ·refine aex.weaken (λm c hm aA=> ?_) (λ_ h=>h)
     show eK ((mC G S k).foldl (λw p=>jQ w p.1) w1).au m c=_;rw[g2];exact rJ m c hm aA
    ·rw[Gx]
     unfold nN;rw[aP (g3.trans aw),show ((mC G S k).foldl (λw p=>jQ w p.1) w1).au=w1.au from g2];have alc:tI (uE (qG G S w k) (w.au.getD k z4))+1<=tI (w.au.getD k z4):=by
      have fD:=D_ 0 aL;have nf:=D_ 1 aL;have jb:=D_ 2 aL;have y3:=D_ 3 aL;have ar:∀c,c<4->rule G S (eK w.au) k c<=15:=λc aA=>VH a_ kZ aA λn aT=>(vB.bound n c aT aA).2
      have mg:=ar 0 aL;have la:=ar 1 aL;have sr:=ar 2 aL;have JF:=ar 3 aL;unfold eK at Ml fD nf jb y3;unfold uE qG tI pJ;unfold eK at*
      simp only [dP] at*
      match eN,oI with
      |0,_=>simp only [dP] at *;omega
      |1,_=>simp only [dP] at *;omega
      |2,_=>simp only [dP] at *;omega
      |3,_=>simp only [dP] at *;omega
     have ald:(List.foldl (λ(w:gT) (p:Nat×Int)=>jQ w p.1) w1 (mC G S k)).aE.length<=r.length+(mC G S k).length:=g7;have ale:mS tI w1.au+tI (w.au.getD k z4)=mS tI w.au+tI (uE (qG G S w k) (w.au.getD k z4)):=Mn;show (List.foldl (λ(w:gT) (p:Nat×Int)=>jQ w p.1) w1 (mC G S k)).aE.length+6*mS tI w1.au+1<=_
     clear_value w1
     omega
   ·rename_i hm
    have I6:∀c,c<4->rule G S (eK w.au) k c<=eK w.au k c:=λc aA=>by
     have:¬eK w.au k c<rule G S (eK w.au) k c:=λh=>hm (Kk.2 ⟨c,aA,h⟩)
     omega
    refine⟨⟨by simp [h.len],y6,λ_=>⟨VT,?_⟩,λaT=>absurd aw aT⟩,?_⟩
    ·refine(vB.Kj (W':=(· ∈r)) a_ kZ (λm vq Gy=> ?_) (λ⟨c,aA,af⟩=>absurd (I6 c aA) aj)).weaken (λm c hm aA=>rJ m c hm aA) (λ_ h=>h)
     rw[ao] at Gy;rcases List.mem_cons.1 Gy with e|e
     ·exact absurd e vq
     ·exact e
    ·rw[Gx]
     unfold nN;rw[aP aw];have Fp:uE (qG G S w k) (w.au.getD k z4)=w.au.getD k z4:=cc.ext' λc aA=>by
      unfold uE qG;rw[ri aA,ri aA];have:=I6 c aA;show max (rule G S (eK w.au) k c) (eK w.au k c)=eK w.au k c;omega
     rw[Fp] at Mn;simp only;rw[Fp];omega
  ·cases hu
theorem rV.settled {S:il} (a_:S.rT G.N) {w:gT} (h:rV G S w) (hu:tH G S w=none):w.aQ=[]/\w.aE=[]/\w.gone=[]/\y4 G S (eK w.au):=by
 unfold tH at hu;split at hu
 ·cases hu
 ·rename_i aw
  split at hu
  ·cases hu
  ·rename_i bg
   obtain⟨af,ah⟩:=h.up aw;exact⟨aw,bg,af,ah.full a_ λk _ ao=>by
    rw[bg] at ao
    cases ao⟩
theorem rV.BW {S Ko:il} (a_:S.rT G.N) {w:gT} (h:rV G S w) (hu:tH G S w=none) {k:Nat} (ao:k<G.N) (yy:∀n,n≠k->Ko.kY n=S.kY n/\(∀c,Ko.emit n c=S.emit n c)/\Ko.aX n=S.aX n):
  rV G Ko (j9 w k (w.au.getD k z4))/\nN G.N (j9 w k (w.au.getD k z4))+1<=qH G.N:=by
 obtain⟨af,ah,aH,ck⟩:=h.settled a_ hu;have az:(j9 w k (w.au.getD k z4)).aQ≠[]:=by
  unfold j9;simp
 refine⟨⟨by simp [j9,h.len],⟨h.wait.len,h.wait.nodup,h.wait.lt,h.wait.is⟩,λe=>absurd e az,λ_=>⟨ah,S,eK w.au,k,(0,z4),a_,rj.begin ao h.len ck h.bound yy af aH⟩⟩,?_⟩;unfold nN;rw[aV az];have:=Gw (j9 w k (w.au.getD k z4));have py:(j9 w k (w.au.getD k z4)).au.length=G.N:=by simp [j9,h.len]
 rw[py] at this;have JE:(j9 w k (w.au.getD k z4)).aQ.length=1:=by
  unfold j9;simp [af]
 unfold qH;omega
end a1
namespace a1
def oe (b6 cA x y z:Nat):Nat:=(z*cA+y)*b6+x
def ju (b6 k:Nat):Nat:=k%b6
def jv (b6 cA k:Nat):Nat:=k/b6%cA
def iS (b6 cA k:Nat):Nat:=k/b6/cA
section
variable {b6 cA sz x y z k:Nat}
theorem VU (aw:x<b6):ju b6 (oe b6 cA x y z)=x:=by
 unfold ju oe;rw[Nat.add_comm,Nat.add_mul_mod_self_right,Nat.mod_eq_of_lt aw]
theorem VV (aw:x<b6):oe b6 cA x y z/b6=z*cA+y:=by
 unfold oe;rw[Nat.add_comm,Nat.add_mul_div_right _ _ aj,Nat.div_eq_of_lt aw,Nat.zero_add]
theorem VW (aw:x<b6) (hy:y<cA):jv b6 cA (oe b6 cA x y z)=y:=by
 unfold jv;rw[VV aw,Nat.add_comm,Nat.add_mul_mod_self_right,Nat.mod_eq_of_lt hy]
theorem O0 (aw:x<b6) (hy:y<cA):iS b6 cA (oe b6 cA x y z)=z:=by
 unfold iS;rw[VV aw,Nat.add_comm,Nat.add_mul_div_right _ _ aj,Nat.div_eq_of_lt hy,Nat.zero_add]
theorem aey (b6 cA k:Nat):oe b6 cA (ju b6 k) (jv b6 cA k) (iS b6 cA k)=k:=by
 unfold oe ju jv iS;have af:=Nat.div_add_mod (k/b6) cA;have ah:=Nat.div_add_mod k b6;have aH:k/b6/cA*cA+k/b6%cA=k/b6:=by rw[Nat.mul_comm];exact af
 rw[aH,Nat.mul_comm];exact ah
theorem VX (aw:x<b6) (hy:y<cA) (de:z<sz):oe b6 cA x y z<b6*cA*sz:=by
 unfold oe;have af:z*cA+y+1<=sz*cA:=by
  have:=Nat.mul_le_mul_right cA (show z+1<=sz from de);rw[Nat.add_mul] at this;omega
 have ah:=Nat.mul_le_mul_right b6 af;rw[Nat.add_mul] at ah;have aH:sz*cA*b6=b6*cA*sz:=by rw[Nat.mul_comm sz cA,Nat.mul_assoc,Nat.mul_comm sz b6,<-Nat.mul_assoc,Nat.mul_comm cA b6]
 rw[<-aH];omega
theorem Kp (h:k<b6*cA*sz):ju b6 k<b6/\jv b6 cA k<cA/\iS b6 cA k<sz:=by
 have aez:0<b6:=by
  rcases Nat.eq_zero_or_pos b6 with e|e
  ·subst e;simp at h
  ·exact e
 have aeA:0<cA:=by
  rcases Nat.eq_zero_or_pos cA with e|e
  ·subst e;simp at h
  ·exact e
 refine⟨Nat.mod_lt _ aez,Nat.mod_lt _ aeA,?_⟩;unfold iS;rw[Nat.div_div_eq_div_mul];exact Nat.div_lt_of_lt_mul h
end
def vE (b6 cA sz k:Nat):Nat->List (Nat×Int)
 |0=>if 0<ju b6 k then [(oe b6 cA (ju b6 k-1) (jv b6 cA k) (iS b6 cA k),0)] else []
 |1=>if ju b6 k+1<b6 then [(oe b6 cA (ju b6 k+1) (jv b6 cA k) (iS b6 cA k),0)] else []
 |2=>if 0<jv b6 cA k then [(oe b6 cA (ju b6 k) (jv b6 cA k-1) (iS b6 cA k),0)] else []
 |3=>if jv b6 cA k+1<cA then [(oe b6 cA (ju b6 k) (jv b6 cA k+1) (iS b6 cA k),0)] else []
 |4=>if 0<iS b6 cA k then [(oe b6 cA (ju b6 k) (jv b6 cA k) (iS b6 cA k-1),-1)] else []
 |5=>if iS b6 cA k+1<sz then [(oe b6 cA (ju b6 k) (jv b6 cA k) (iS b6 cA k+1),1)] else []
 |_=>[]
def x7 (b6 cA sz k:Nat):Nat->List (Nat×Int)
 |0=>[]
 |j+1=>x7 b6 cA sz k j++vE b6 cA sz k j
theorem aeB (b6 cA sz k j:Nat):(vE b6 cA sz k j).length<=1:=by
 unfold vE;split
 all_goals first|(split<;>simp)|simp
theorem VY (b6 cA sz k j:Nat):(x7 b6 cA sz k j).length<=j:=by
 induction j with
 |zero=>simp [x7]
 |succ j eJ=>
  have:=aeB b6 cA sz k j;simp only [x7,List.length_append];omega
theorem VZ {b6 cA sz k:Nat} {p:Nat×Int}:p∈x7 b6 cA sz k 6↔p∈vE b6 cA sz k 0\/p∈vE b6 cA sz k 1\/p∈vE b6 cA sz k 2\/p∈vE b6 cA sz k 3\/p∈vE b6 cA sz k 4\/p∈vE b6 cA sz k 5:=by
 simp only [x7,List.mem_append,List.not_mem_nil,false_or,or_assoc]
theorem Kq {b6 cA sz k n:Nat} {d:Int} (h:(n,d)∈x7 b6 cA sz k 6) (ao:k<b6*cA*sz):
  ∃x y z,x<b6/\y<cA/\z<sz/\n=oe b6 cA x y z/\
   ((x+1=ju b6 k/\y=jv b6 cA k/\z=iS b6 cA k/\d=0)\/(x=ju b6 k+1/\y=jv b6 cA k/\z=iS b6 cA k/\d=0)\/
    (x=ju b6 k/\y+1=jv b6 cA k/\z=iS b6 cA k/\d=0)\/(x=ju b6 k/\y=jv b6 cA k+1/\z=iS b6 cA k/\d=0)\/
    (x=ju b6 k/\y=jv b6 cA k/\z+1=iS b6 cA k/\d= -1)\/(x=ju b6 k/\y=jv b6 cA k/\z=iS b6 cA k+1/\d=1)):=by
 obtain⟨af,ah,aH⟩:=Kp ao;rw[VZ] at h;rcases h with h|h|h|h|h|h
 all_goals
  simp only [vE] at h;split at h
  ·rename_i aA
   rw[List.mem_singleton] at h;obtain⟨rfl,rfl⟩:=Prod.mk.inj h;refine⟨_,_,_,?_,?_,?_,rfl,?_⟩
   all_goals omega
  ·cases h
theorem aeC {b6 cA sz k x y z:Nat} {d:Int} (de:z<sz) (aw:x<b6) (hy:y<cA)
  (h:(x+1=ju b6 k/\y=jv b6 cA k/\z=iS b6 cA k/\d=0)\/(x=ju b6 k+1/\y=jv b6 cA k/\z=iS b6 cA k/\d=0)\/
    (x=ju b6 k/\y+1=jv b6 cA k/\z=iS b6 cA k/\d=0)\/(x=ju b6 k/\y=jv b6 cA k+1/\z=iS b6 cA k/\d=0)\/
    (x=ju b6 k/\y=jv b6 cA k/\z+1=iS b6 cA k/\d= -1)\/(x=ju b6 k/\y=jv b6 cA k/\z=iS b6 cA k+1/\d=1)):(oe b6 cA x y z,d)∈x7 b6 cA sz k 6:=by
 rw[VZ];simp only [vE];rcases h with ⟨af,ah,aH,rfl⟩|⟨af,ah,aH,rfl⟩|⟨af,ah,aH,rfl⟩|⟨af,ah,aH,rfl⟩|⟨af,ah,aH,rfl⟩|⟨af,ah,aH,rfl⟩
 ·left
  rw[aP aj,<-af,<-ah,<-aH];simp
 ·right;left
  rw[aP aj,<-af,<-ah,<-aH];simp
 ·right;right;left
  rw[aP aj,<-af,<-ah,<-aH];simp
 ·right;right;right;left
  rw[aP aj,<-af,<-ah,<-aH];simp
 ·right;right;right;right;left
  rw[aP aj,<-af,<-ah,<-aH];simp
 ·right;right;right;right;right
  rw[aP aj,<-af,<-ah,<-aH];simp
def aeD (b6 cA sz:Nat):pI where
 N:=b6*cA*sz
 tE k:=x7 b6 cA sz k 6
 top k:=decide (iS b6 cA k+1=sz)
 bw k:=sz-1-iS b6 cA k
 tF k n d ao h:=by
  obtain⟨x,y,z,aw,hy,de,rfl,_⟩:=Kq h ao;exact VX aw hy de
 VA k n d ao h e:=by
  obtain⟨x,y,z,aw,hy,de,aT,h⟩:=Kq h ao;rw[e] at aT;have af:ju b6 k=x:=by rw[aT];exact VU aw
  have ah:jv b6 cA k=y:=by rw[aT];exact VW aw hy
  have aH:iS b6 cA k=z:=by rw[aT];exact O0 aw hy
  omega
 ON k n d ao h:=by
  obtain⟨x,y,z,aw,hy,de,rfl,cy⟩:=Kq h ao;clear h;obtain⟨gZ,jn,wS⟩:=Kp ao;have ae:=aeC (k:=oe b6 cA x y z) (d:= -d) wS gZ jn (by
   rw[VU aw,VW aw hy,O0 aw hy];rcases cy with ⟨a,b,c,rfl⟩|⟨a,b,c,rfl⟩|⟨a,b,c,rfl⟩|⟨a,b,c,rfl⟩|⟨a,b,c,rfl⟩|⟨a,b,c,rfl⟩
   ·exact .inr (.inl ⟨a.symm,b.symm,c.symm,rfl⟩)
   ·exact .inl ⟨a.symm,b.symm,c.symm,rfl⟩
   ·exact .inr (.inr (.inr (.inl ⟨a.symm,b.symm,c.symm,rfl⟩)))
   ·exact .inr (.inr (.inl ⟨a.symm,b.symm,c.symm,rfl⟩))
   ·exact .inr (.inr (.inr (.inr (.inr ⟨a.symm,b.symm,c.symm,rfl⟩))))
   ·exact .inr (.inr (.inr (.inr (.inl ⟨a.symm,b.symm,c.symm,rfl⟩)))))
  rw[aey] at ae;exact ae
 VB k n d ao h bu:=by
  obtain⟨x,y,z,aw,hy,de,rfl,h⟩:=Kq h ao;obtain⟨gZ,jn,wS⟩:=Kp ao;rw[O0 aw hy];omega
 VC k:=VY _ _ _ _ _
end a1
end
end Go.Proofs.YtepcfjbfkedlpaaDoor
namespace Go.Proofs.YtepcfjbfkedlpaaDoor
open Go Go.Proofs Go.RowKit
namespace a1
abbrev mT:bq:=4
theorem rk:bZ Tryd.prog (sizeOf mT)=some 1:=ag
theorem kA:Tryd.prog.underlying 30=some (.slice mT):=ag
noncomputable def Kr:TypeInfo:=(Tryd.prog.info? mT).getD default
theorem O1:Tryd.prog.info? mT=some Kr:=ag
theorem O2:Kr.zero=some (.bool false):=ag
theorem O3:Kr.size=1:=ag
abbrev Gz:Nat:=1
theorem O4:Kr.bytes=Gz:=ag
theorem aeE:(.bool false:ad).cells.size=1:=rfl
def iw (x:Bool):List ad:=[.bool x]
theorem h9:∀x,(iw x).length=1:=λ_=>rfl
theorem O5:∀x,∀u∈iw x,u.oneCell'=true:=λx u hu=>by
 simp only [iw,List.mem_cons,List.not_mem_nil,or_false] at hu;subst hu;rfl
abbrev nO:bq:=3
theorem O6:bZ Tryd.prog (sizeOf nO)=some 1:=ag
theorem vF:Tryd.prog.underlying 26=some (.slice nO):=ag
noncomputable def Ks:TypeInfo:=(Tryd.prog.info? nO).getD default
theorem V0:Tryd.prog.info? nO=some Ks:=ag
theorem V1:Ks.zero=some (.int .i64 0):=ag
theorem V2:Ks.size=1:=ag
abbrev GC:Nat:=8
theorem V3:Ks.bytes=GC:=ag
theorem V4:(.int .i64 0:ad).cells.size=1:=rfl
def mD (x:Nat):List ad:=[.int .i64 ((x:Nat):Int)]
theorem kZ:∀x,(mD x).length=1:=λ_=>rfl
theorem V5:∀x,∀u∈mD x,u.oneCell'=true:=λx u hu=>by
 simp only [mD,List.mem_cons,List.not_mem_nil,or_false] at hu;subst hu;rfl
abbrev oK:bq:=85
theorem kS:bZ Tryd.prog (sizeOf oK)=some 4:=ag
theorem GD:bZ Tryd.prog (isAgg oK)=some true:=ag
theorem kg:Tryd.prog.underlying 45=some (.slice oK):=ag
noncomputable def Kt:TypeInfo:=(Tryd.prog.info? oK).getD default
theorem V6:Tryd.prog.info? oK=some Kt:=ag
theorem V7:Kt.zero=some (.agg ⟨[.int .i64 0,.int .i64 0,.int .i64 0,.int .i64 0]⟩):=ag
theorem V8:Kt.size=4:=ag
abbrev Ku:Nat:=32
theorem V9:Kt.bytes=Ku:=ag
theorem aeF:(.agg ⟨[.int .i64 0,.int .i64 0,.int .i64 0,.int .i64 0]⟩:ad).cells.size=4:=rfl
def kh (x:cc):List ad:=[.int .i64 x.1,.int .i64 x.2.1,.int .i64 x.2.2.1,.int .i64 x.2.2.2]
theorem eH:∀x,(kh x).length=4:=λ_=>rfl
theorem aeG:∀x,∀u∈kh x,u.oneCell'=true:=λx u hu=>by
 simp only [kh,List.mem_cons,List.not_mem_nil,or_false] at hu;rcases hu with rfl|rfl|rfl|rfl<;>rfl
abbrev L.val (x:cc):ad:= .agg ⟨kh x⟩
abbrev qI:bq:=89
theorem O7:bZ Tryd.prog (sizeOf qI)=some 3:=ag
theorem aeH:bZ Tryd.prog (isAgg qI)=some true:=ag
theorem wY:Tryd.prog.underlying 71=some (.slice qI):=ag
noncomputable def Kv:TypeInfo:=(Tryd.prog.info? qI).getD default
theorem aeI:Tryd.prog.info? qI=some Kv:=ag
theorem aeJ:Kv.zero=some (.agg ⟨[.int .i64 0,.int .i64 0,.bool false]⟩):=ag
theorem aeK:Kv.size=3:=ag
abbrev O8:Nat:=24
theorem aeL:Kv.bytes=O8:=ag
theorem aeM:(.agg ⟨[.int .i64 0,.int .i64 0,.bool false]⟩:ad).cells.size=3:=rfl
def oL (x:Nat×Int×Bool):List ad:=[.int .i64 ((x.1:Nat):Int),.int .i64 x.2.1,.bool x.2.2]
theorem rW:∀x,(oL x).length=3:=λ_=>rfl
theorem aeN:∀x,∀u∈oL x,u.oneCell'=true:=λx u hu=>by
 simp only [oL,List.mem_cons,List.not_mem_nil,or_false] at hu;rcases hu with rfl|rfl|rfl<;>rfl
abbrev Q.val (x:Nat×Int×Bool):ad:= .agg ⟨oL x⟩
abbrev rl:bq:=87
theorem O9:bZ Tryd.prog (sizeOf rl)=some 5:=ag
theorem aeO:bZ Tryd.prog (isAgg rl)=some true:=ag
theorem uF:Tryd.prog.underlying 74=some (.slice rl):=ag
noncomputable def Kw:TypeInfo:=(Tryd.prog.info? rl).getD default
theorem aeP:Tryd.prog.info? rl=some Kw:=ag
theorem aeQ:Kw.zero=some (.agg ⟨[.int .i64 0,.int .i64 0,.int .i64 0,.int .i64 0,.int .i64 0]⟩):=ag
theorem aeR:Kw.size=5:=ag
abbrev O':Nat:=40
theorem aeS:Kw.bytes=O':=ag
theorem aeT:(.agg ⟨[.int .i64 0,.int .i64 0,.int .i64 0,.int .i64 0,.int .i64 0]⟩:ad).cells.size=5:=rfl
def pK (x:Nat×cc):List ad:=[.int .i64 ((x.1:Nat):Int),.int .i64 x.2.1,.int .i64 x.2.2.1,.int .i64 x.2.2.2.1,.int .i64 x.2.2.2.2]
theorem rm:∀x,(pK x).length=5:=λ_=>rfl
theorem aeU:∀x,∀u∈pK x,u.oneCell'=true:=λx u hu=>by
 simp only [pK,List.mem_cons,List.not_mem_nil,or_false] at hu;rcases hu with rfl|rfl|rfl|rfl|rfl<;>rfl
abbrev jR.val (x:Nat×cc):ad:= .agg ⟨pK x⟩
abbrev wZ:Bool:=false
abbrev Aw:cc:=z4
end a1
namespace a1
abbrev gJ:=Nat×Int×Bool
abbrev e2:=Nat×cc
abbrev lF:bq:=80
abbrev x8:bq:=34
abbrev h0 (l:List ad) (n:Nat):Nat->ad:=λi=>l.getD (n+i) (.bool false)
def mE (g:List Nat) (w:List Bool) (k:Nat):List Nat:=if w.getD k default=true then g else g++[k]
def og (w:List Bool) (k:Nat):List Bool:=if w.getD k default=true then w else w.set k true
section
variable {g:List Nat} {w:List Bool} {k:Nat}
theorem aeV (h:w.getD k default=true):mE g w k=g:=aP h
theorem aeW (h:¬w.getD k default=true):mE g w k=g++[k]:=aV h
theorem aeX (h:w.getD k default=true):og w k=w:=aP h
theorem aeY (h:¬w.getD k default=true):og w k=w.set k true:=aV h
theorem Kx (w:List Bool) (k:Nat):(og w k).length=w.length:=by
 unfold og;split
 ·rfl
 ·exact List.length_set
theorem V' (g:List Nat) (w:List Bool) (k:Nat):(mE g w k).length<=g.length+1:=by
 unfold mE;split
 ·omega
 ·simp
end
def jw (i:Nat) (old x:cc):cc:=pJ λc=>if c<i/\0<dP old c then 0 else dP x c
section
variable {old x:cc} {k:Nat} {l:List cc}
theorem aeZ:jw 0 old x=x:=by
 refine cc.ext' λc aA=> ?_
 unfold jw;rw[ri aA,aV aj]
theorem ae0:jw 4 old x=tG old x:=by
 refine cc.ext' λc aA=> ?_
 unfold jw tG;rw[ri aA,ri aA];simp [aA]
theorem V_ {α:Type} [Inhabited α] {l:List α} {k:Nat} (ao:k<l.length):l.set k (l.getD k default)=l:=by
 rw[eP,ig ao];simp
theorem Ax (h:¬0<old.1):jw 1 old x=jw 0 old x:=by
 simp [jw,pJ,dP,h]
theorem Ay (h:¬0<old.2.1):jw 2 old x=jw 1 old x:=by
 simp [jw,pJ,dP,h]
theorem Az (h:¬0<old.2.2.1):jw 3 old x=jw 2 old x:=by
 simp [jw,pJ,dP,h]
theorem AA (h:¬0<old.2.2.2):jw 4 old x=jw 3 old x:=by
 simp [jw,pJ,dP,h]
theorem AB (ao:k<l.length) (h:0<old.1):(l.set k (jw 0 old x)).set k (0,((l.set k (jw 0 old x)).getD k default).2.1,((l.set k (jw 0 old x)).getD k default).2.2.1,((l.set k (jw 0 old x)).getD k default).2.2.2)=l.set k (jw 1 old x):=by
 rw[List.set_set,y5 ao,aP rfl];simp [jw,pJ,dP,h]
theorem AD (ao:k<l.length) (h:0<old.2.1):(l.set k (jw 1 old x)).set k (((l.set k (jw 1 old x)).getD k default).1,0,((l.set k (jw 1 old x)).getD k default).2.2.1,((l.set k (jw 1 old x)).getD k default).2.2.2)=l.set k (jw 2 old x):=by
 rw[List.set_set,y5 ao,aP rfl];simp [jw,pJ,dP,h]
theorem AE (ao:k<l.length) (h:0<old.2.2.1):(l.set k (jw 2 old x)).set k (((l.set k (jw 2 old x)).getD k default).1,((l.set k (jw 2 old x)).getD k default).2.1,0,((l.set k (jw 2 old x)).getD k default).2.2.2)=l.set k (jw 3 old x):=by
 rw[List.set_set,y5 ao,aP rfl];simp [jw,pJ,dP,h]
theorem AF (ao:k<l.length) (h:0<old.2.2.2):(l.set k (jw 3 old x)).set k (((l.set k (jw 3 old x)).getD k default).1,((l.set k (jw 3 old x)).getD k default).2.1,((l.set k (jw 3 old x)).getD k default).2.2.1,0)=l.set k (jw 4 old x):=by
 rw[List.set_set,y5 ao,aP rfl];simp [jw,pJ,dP,h]
end
end a1
namespace a1
abbrev gK:=Int×Int×Int
abbrev cx:=Int×Int×Int×Int×Int×Int
def ae1 (x:gK):List ad:=[.int .i64 x.1,.int .i64 x.2.1,.int .i64 x.2.2]
abbrev P.val (x:gK):ad:= .agg ⟨ae1 x⟩
def ae2 (x:cx):List ad:=[.int .i64 x.1,.int .i64 x.2.1,.int .i64 x.2.2.1,.int .i64 x.2.2.2.1,.int .i64 x.2.2.2.2.1,.int .i64 x.2.2.2.2.2]
abbrev X.val (x:cx):ad:= .agg ⟨ae2 x⟩
theorem ae3 {a b c bR b' c':Int} (af:a=bR) (ah:b=b') (aH:c=c'):Ending.returned (.agg ⟨[.int .i64 a,.int .i64 b,.int .i64 c]⟩)=Ending.returned (P.val (bR,b',c')):=by rw[af,ah,aH];rfl
theorem ae4 {a b c bR b' c':Int} {x:Bool} (af:a=bR) (ah:b=b') (aH:c=c'):Ending.returned (.tuple #[.agg ⟨[.int .i64 a,.int .i64 b,.int .i64 c]⟩,.bool x])=Ending.returned (.tuple #[P.val (bR,b',c'),.bool x]):=by rw[af,ah,aH];rfl
theorem ae5 {v f:Int} {c:Nat} {up:Bool} (bd:up=true) (af:c=3) (ah:v=15) (aH:f=1):given v f c up=15:=aP ⟨bd,af,ah,aH⟩
theorem Ky {v f:Int} {c:Nat} {up:Bool} (h:¬(up=true/\c=3/\v=15/\f=1)):given v f c up=max 0 (v-f):=aV h
def fz (p:gK) (b:cx):Prop:=b.1<=p.1/\p.1<b.2.2.2.1/\b.2.1<=p.2.1/\p.2.1<b.2.2.2.2.1/\b.2.2.1<=p.2.2/\p.2.2<b.2.2.2.2.2
instance (p:gK) (b:cx):Decidable (fz p b):=by unfold fz;infer_instance
def okB (b:cx):Prop:= -1048575<=b.1/\b.1<=1048575/\ -1048575<=b.2.1/\b.2.1<=1048575/\ -1048575<=b.2.2.1/\b.2.2.1<=1048575/\ -1048575<=b.2.2.2.1/\b.2.2.2.1<=1048575/\ -1048575<=b.2.2.2.2.1/\b.2.2.2.2.1<=1048575/\ -1048575<=b.2.2.2.2.2/\b.2.2.2.2.2<=1048575
instance (b:cx):Decidable (okB b):=by unfold okB;infer_instance
def ki (b:cx):Prop:=b.1<b.2.2.2.1/\b.2.1<b.2.2.2.2.1/\b.2.2.1<b.2.2.2.2.2
instance (b:cx):Decidable (ki b):=by unfold ki;infer_instance
def cI (b:cx):gK:=if ki b then (b.2.2.2.1-b.1,b.2.2.2.2.1-b.2.1,b.2.2.2.2.2-b.2.2.1) else (0,0,0)
def gj (b:cx):Int:=(cI b).1*(cI b).2.1*(cI b).2.2
def GF (b:cx) (p:gK):Int:=if fz p b then (((p.2.2+((-1)*b.2.2.1))*(cI b).2.1)+(p.2.1+((-1)*b.2.1)))*(cI b).1+(p.1+((-1)*b.1)) else -1
def e_ (b:cx) (i:Int):gK:=if 0<=i/\i<gj b then (b.1+i%(cI b).1,b.2.1+i/(cI b).1%(cI b).2.1,b.2.2.1+i/(cI b).1/(cI b).2.1) else (0,0,0)
theorem Kz {a b:Int} {A B:Nat} (af:0<=a) (ah:a<=A) (aH:0<=b) (ck:b<=B):0<=a*b/\a*b<=((A*B:Nat):Int):=by
 refine⟨Int.mul_nonneg af aH,?_⟩;rw[Int.natCast_mul];exact Int.mul_le_mul ah ck aH aj
theorem AG {b:cx} (h:ki b):cI b=(b.2.2.2.1-b.1,b.2.2.2.2.1-b.2.1,b.2.2.2.2.2-b.2.2.1):=aP h
theorem Ec {b:cx} (h:¬ki b):cI b=(0,0,0):=aV h
theorem ae6 {p:gK} {b:cx} (h:fz p b):ki b:=by
 unfold fz at h;unfold ki;omega
theorem qJ {p:gK} {b:cx} (h:fz p b):b.1<=p.1/\p.1<b.2.2.2.1/\b.2.1<=p.2.1/\p.2.1<b.2.2.2.2.1/\b.2.2.1<=p.2.2/\p.2.2<b.2.2.2.2.2:=h
theorem O_ {p:gK} {b:cx} (h:fz p b):GF b p=(((p.2.2+((-1)*b.2.2.1))*(cI b).2.1)+(p.2.1+((-1)*b.2.1)))*(cI b).1+(p.1+((-1)*b.1)):=aP h
theorem Pa {p:gK} {b:cx} (h:¬fz p b):GF b p= -1:=aV h
theorem Cl {b:cx} (ai:okB b):0<=(cI b).1/\(cI b).1<=2097150/\0<=(cI b).2.1/\(cI b).2.1<=2097150/\0<=(cI b).2.2/\(cI b).2.2<=2097150:=by
 unfold okB at ai;unfold cI;split
 ·rename_i h
  unfold ki at h;dsimp only;omega
 ·dsimp only
  omega
theorem Pb {b:cx} (ai:okB b):0<=(cI b).1*(cI b).2.1/\(cI b).1*(cI b).2.1<=4398038122500/\0<=(cI b).1*(cI b).2.1*(cI b).2.2/\(cI b).1*(cI b).2.1*(cI b).2.2<=9223345648600875000:=by
 obtain⟨af,ah,aH,ck,dd,dM⟩:=Cl ai;obtain⟨xJ,Pc⟩:=Kz (A:=2097150) (B:=2097150) af aj aH aj;obtain⟨Pd,ae7⟩:=Kz (A:=4398038122500) (B:=2097150) xJ aj dd aj;exact⟨xJ,aj,Pd,aj⟩
theorem rX {p:gK} {b:cx} (ai:okB b) (h:fz p b):0<=((p.2.2+((-1)*b.2.2.1))*(cI b).2.1)/\((p.2.2+((-1)*b.2.2.1))*(cI b).2.1)<=4398038122500/\0<=(((p.2.2+((-1)*b.2.2.1))*(cI b).2.1)+(p.2.1+((-1)*b.2.1)))*(cI b).1/\(((p.2.2+((-1)*b.2.2.1))*(cI b).2.1)+(p.2.1+((-1)*b.2.1)))*(cI b).1<=9223345648600875000:=by
 obtain⟨af,ah,aH,ck,dd,dM⟩:=Cl ai;have bn:=ae6 h;unfold okB at ai;unfold fz at h;obtain⟨xJ,Pc⟩:=Kz (a:=p.2.2+((-1)*b.2.2.1)) (b:=(cI b).2.1) (A:=2097149) (B:=2097150) aj aj aH aj;have gW:p.2.1+((-1)*b.2.1)+1<=(cI b).2.1:=by
  rw[AG bn];dsimp only;omega
 obtain⟨Pd,ae7⟩:=Kz (a:=(((p.2.2+((-1)*b.2.2.1))*(cI b).2.1)+(p.2.1+((-1)*b.2.1)))) (b:=(cI b).1) (A:=4398038122500) (B:=2097150) aj aj af aj;exact⟨xJ,aj,Pd,aj⟩
theorem Wa {b:cx} {i:Int} (bd:0<=i) (af:¬((cI b).1*(cI b).2.1)*(cI b).2.2<=i):ki b:=by
 by_cases h:ki b
 ·exact h
 ·rw[Ec h] at af
  simp at af;omega
theorem sB {b:cx} {i:Int} (ai:okB b) (bd:0<=i) (af:¬((cI b).1*(cI b).2.1)*(cI b).2.2<=i):
  1<=(cI b).1/\1<=(cI b).2.1/\0<=i/(cI b).1/\i/(cI b).1<=i/\0<=i%(cI b).1/\i%(cI b).1<(cI b).1/\0<=i/(cI b).1%(cI b).2.1/\i/(cI b).1%(cI b).2.1<(cI b).2.1/\0<=i/(cI b).1/(cI b).2.1/\i/(cI b).1/(cI b).2.1<(cI b).2.2/\i<=9223345648600875000:=by
 have bn:=Wa bd af;have aR:=Pb ai;have ay:=Cl ai;have aw:1<=(cI b).1:=by
  rw[AG bn];unfold ki at bn;dsimp only;omega
 have hy:1<=(cI b).2.1:=by
  rw[AG bn];unfold ki at bn;dsimp only;omega
 have ah:0<=i/(cI b).1:=Int.ediv_nonneg bd aj;refine⟨aw,hy,ah,Int.ediv_le_self _ bd,Int.emod_nonneg _ aj,Int.emod_lt_of_pos _ aj,Int.emod_nonneg _ aj,Int.emod_lt_of_pos _ aj,Int.ediv_nonneg ah aj,?_,aj⟩;refine Int.ediv_lt_of_lt_mul aj (Int.ediv_lt_of_lt_mul aj ?_);rw[show (cI b).2.2*(cI b).2.1*(cI b).1=(cI b).1*(cI b).2.1*(cI b).2.2 by rw[Int.mul_comm (cI b).2.2,Int.mul_assoc,Int.mul_comm (cI b).2.2,<-Int.mul_assoc,Int.mul_comm (cI b).2.1]];omega
theorem Wb {b:cx} {i:Int} (bd:0<=i) (af:¬((cI b).1*(cI b).2.1)*(cI b).2.2<=i):e_ b i=(b.1+i%(cI b).1,b.2.1+i/(cI b).1%(cI b).2.1,b.2.2.1+i/(cI b).1/(cI b).2.1):=aP ⟨bd,by unfold gj;omega⟩
theorem Pe {b:cx} {i:Int} (h:¬(0<=i/\i<gj b)):e_ b i=(0,0,0):=aV h
end a1
namespace a1
def Cm (t t2:bq):Option dk->Option (ad×ad)
 |some (.oper o _ ops s _)=>match o.op with
  | .call c=>match c.callee,c.args with
    | .builtin .copy,⟨[oG,ha]⟩=>bif decide (c.argTypes= #[t,t2]) then match uh ops o s.sl with
      |some true=>some (eQ .nil s.sl oG,eQ .nil s.sl ha)
      |_=>none
      else none
    |_,_=>none
  |_=>none
 |_=>none
theorem ae8 [dJ] {P:bB} {N B:Nat} {w0:aG} {Q:Exit->Act->aG->Prop} {M:Mem} {bM bC:List ad} {o:Option dk} {t t2 e ty:bq} {g j m n Fs:Nat} {a8 my:ad} {us cs cs':List ad} {gp e6:ax} {c7:List bG} {dQ:gh}
  (iM:cs'=cs.take j++us++cs.drop (j+n)) (h:Cm t t2 o=some (a8,my)) (bw:P.underlying t=some (.slice e)) (ay:(P.info? e).map (·.size)=some 1)
  (fg:bF (b0 o) gp c7=some dQ) (iQ:e8 N gp (qa o) (.int .i64 n)=some e6) (hp:bL a8=true) (nn: @bb (bc M bM) a8= .slice (some ⟨g,j,none⟩) m Fs)
  (mP:∀φ w x,@cB (bc M bM) φ (b0 o).A w-> @aM (bc M bM) φ my x->tA w 1 (λu:ad=>[u]) x us) (hu:us.length=n) (hh:0<n) (Jv:n<=m) (lB:∀u∈us,u.oneCell'=true)
  (dR:je B M (.pointer (some ⟨g,0,none⟩)) ty cs) (aq:j+n<=cs.length) (hm:∀aS,hD (bc M bM) (bc aS bC) dQ)
  (rest:∀aS,je B aS (.pointer (some ⟨g,0,none⟩)) ty cs'->jM M aS (some g)->∀bR w,@Here (bc aS bC) _ N {sl:=e6,ms:=[],A:=cS c7} B w0 bR w->wpListIn (Fr none) 0 P (nG o) (fF P (gi o) Q) (oc o) bR w)
  (aT:dJ.jD<=c7.length:=by first|exact Nat.zero_le _|exact h3 rfl) (aA:jr (b0 o).A c7 0:=by exact jF rfl): @ia (bc M bM) _ P N B w0 Q o:=by
 subst iM;subst hu;letI:=bc M bM;unfold Cm at h;split at h
 ·rename_i op r ops s ks
  refine⟨_,rfl,λa w ae=> ?_⟩;split at h
  ·rename_i c eb
   split at h
   ·rename_i oG ha q2 hW
    cases hty:decide (c.argTypes= #[t,t2]) with
    |false=>rw[hty] at h;cases h
    |true=>
     rw[hty,cN] at h;have yW:c.argTypes= #[t,t2]:=of_decide_eq_true hty;split at h
     ·rename_i nk
      cases h;have jN:=ae;obtain⟨⟨φ,ds,af,ah,aH,ck,_⟩,dd,dM⟩:=ae;unfold wpListIn;rw[sg ah.get nk,aP rfl];have es:a.eval oG= .slice (some ⟨g,j,none⟩) m Fs:=(aM.kr _ hp (h_ (jE φ) ah.get oG)).trans nn;obtain⟨bO,ew,ex,yV,ll⟩:=mP φ w _ aH (h_ (jE φ) ah.get ha);have hw:∀i o,M i=some o->w.heap[i]? =some o:=jN.qC;obtain⟨gk,cM⟩:=dR.known;have bg:=hw _ _ gk;cases bO with
      |none=>
       rw[yV rfl] at hh;exact absurd hh (Nat.lt_irrefl _)
      |some h8=>
       have Cn:us.flatMap (λu:ad=>[u])=us:=by simp
       let hL:Array ad:=(cs.take j++us++cs.drop (j+us.length)).toArray
       have GG:=run_copy_row (P:=P) w t t2 op.type e g j m Fs h8 us.length ew ⟨cs⟩ ty us bw ay bg (Nat.min_eq_left aj).symm (λi v ak=>ll h8 rfl i v (by rw[Cn];exact ak)) (by simp only [List.size_toArray];omega) lB;have ho:(execOp a.eval op).run P w= .ok (.value (.int .i64 us.length)) (w.setRow g hL):=by
        unfold execOp resolve;rw[eb];simp only [q2,hW,yW,List.map_toArray,List.map_cons,List.map_nil];show (do pure (Next.value (<-Builtin.copy_ #[t,t2] op.type #[a.eval oG,a.eval ha])):Sem Next).run P w=_;rw[es,ex];simp only [Sem.run_bind,GG,Result.andThen_ok];rfl
       have hb:∀c',op.op≠.defer c':=λc' h=>by rw[eb] at h;cases h
       refine⟨λ_ _=>trivial,?_⟩;rw[Oper.semAt_eq _ _ _ hb,ho,Oper.uponIn_value];obtain⟨q1,aI⟩:=uz (B:=B) (M:=M) (w':=w.setRow g hL) (T:=some g) (fQ:=some g) hw (λi ak=>by cases ak;exact⟨by rw[gk];simp,cM⟩) (λi ak=> .inl ak) ⟨rfl,rfl,rfl⟩ (c4 _) (by simp [World.setRow]) (λj _ aq=>setRow_other w g j hL (λh=>aq (by rw[h])));have sx:je B (j7 M (w.setRow g hL) (some g) (some g)) (.pointer (some ⟨g,0,none⟩)) ty (cs.take j++us++cs.drop (j+us.length)):=by
        refine⟨g,rfl,cM,?_⟩;unfold j7;rw[aP rfl];exact setRow_heap w g ⟨cs⟩ hL ty (0,0) bg
       have kc:=Here.turns (vals':=bC) fg (hm _) q1 aT aA jN;letI:=bc (j7 M (w.setRow g hL) (some g) (some g)) bC;exact rest _ sx aI _ _ (Here.put (d:=op.dst) kc (v:= .int .i64 us.length) rfl iQ)
     ·cases h
   ·cases h
  ·cases h
 ·cases h
def endCell (fn:Func):Option dk->Option (bq×ad)
 |some (.done x s)=>bif DT x then match fn.results.toList,yL s.A s.ms with
  |[.cell a t],some _=>some (t,slot s.sl a)
  |_,_=>none
  else none
 |_=>none
theorem GH [dJ] {P:bB} {fn:Func} {N B:Nat} {w0:aG} {M:Mem} {bM:List ad} {R:Ending->aG->Prop} {o:Option dk} {t ty:bq} {g:Nat} {x v:ad} {cs:List ad} (h:endCell fn o=some (t,x)) (hp:bL x=true) (nn: @bb (bc M bM) x= .pointer (some ⟨g,0,none⟩))
  (dR:je B M (.pointer (some ⟨g,0,none⟩)) ty cs) (cG:bZ P (isAgg t)=some true) (ay:bZ P (sizeOf t)=some cs.length) (aR:bL v=true) (b5: @bb (bc M bM) v= .agg ⟨cs⟩)
  (me:∀w2,cO B w0 w2-> @n9 (bc M bM) w2->R (.returned (.agg ⟨cs⟩)) w2): @ia (bc M bM) _ P N B w0 (tw P fn N B w0 R) o:=by
 letI:=bc M bM;unfold endCell at h;split at h
 ·rename_i x s
  cases aw:DT x with
  |false=>rw[aw] at h;cases h
  |true=>
   rw[aw,cN] at h;split at h
   ·rename_i a fk gP mx az
    cases h;refine⟨_,rfl,λeL w ae=> ?_⟩;have main:FZ P fn N B w0 R eL w:=by
     refine⟨inferInstance,s,gP,v,ae,az,λφ w1 tmps ar mf=>⟨.agg ⟨cs⟩,?_,?_⟩,λv' w2 kc=> ?_⟩
     ·have bs:tmps.getD a undef= .pointer (some ⟨g,0,none⟩):=(aM.kr _ hp (Jo (mf a))).trans nn
      have bg:w1.heap[g]? =some (.cells ⟨cs⟩ ty (0,0)):=(ar.dz g _ dR.known.1).1;have ae9:(loadVar t (⟨g,0,none⟩:Addr)).run P w1= .ok (.agg ⟨cs⟩) w1:=by
       unfold loadVar;refine ei cG ?_;simp only [if_true];refine ei ay (ev (run_loadCells_list (P:=P) w1 ⟨g,0,none⟩ cs λj u aq=> ?_) rfl);rw[Addr.ly,cell_of_row w1 _ _ _ _ _ bg,Nat.zero_add];simpa using aq
      have e:results fn tmps=(fn.results.mapM (NJ tmps)) >>= λa8=>pure (if h:a8.size=1 then a8[0] else .tuple a8):=by
       unfold results;congr 1
      rw[e,Array.mapM_eq_mapM_toList,mx];refine ev (a:=(⟨[.agg ⟨cs⟩]⟩:Array ad)) (ev (a:=[.agg ⟨cs⟩]) ?_ rfl) rfl;rw[List.mapM_cons];refine ev (a:=Value.agg ⟨cs⟩) ?_ rfl;show (do loadVar t (<-asAddr (tmps.getD a undef)):Sem ad).run P w1=_;rw[bs];exact ei (a:=(⟨g,0,none⟩:Addr)) rfl ae9
     ·rw[<-b5]
      exact aM.wD φ v aR
     ·have ak:=kc.qC
      obtain⟨⟨φ,ds,q1,aI,bS,fo,_⟩,iK,mK⟩:=kc;have:=aI.get 0 v rfl;rw[show v'=bb v from aM.kr v aR this,b5];exact me w2 iK ak
    cases x with
    |normal=>exact main
    |ret=>exact main
    |exit id=>cases aw
    |goto l=>cases aw
   ·cases h
 ·cases h
end a1
namespace a1
def Pf [dJ] {X:Type} (fW:X->bp) (ku:X->Prop) (nE:X->Nat) (m N:Nat) (head:ax) (c7:List bG) (B:Nat) (w0:aG):Act->aG->Prop:=λa w=>∃x',ku x'/\nE x'<m/\ @Here (fW x') _ N (aN head c7) B w0 a w
theorem nP [dJ] {P:bB} {N B:Nat} {w0:aG} {s1:bp} {X:Type} {fW:X->bp} (ku:X->Prop) (nE:X->Nat) {head:ax} {c7:List bG} {o:Option dk} {dQ:gh} {Q:Exit->Act->aG->Prop} (x:X) (ai:mi head c7 o=some dQ) (hm:hD s1 (fW x) dQ)
  (pF:∀i o,(fW x).dz i=some o->s1.dz i=some o) (aw:ku x)
  (round:∀x,ku x->∀a w,@Here (fW x) _ N (aN head c7) B w0 a w->(lP o).wpIn (Fr none) 0 P (Exit.then (Pf fW ku nE (nE x) N head c7 B w0) (fF P (gi o) Q)) a w)
  (aT:dJ.jD<=c7.length:=by first|exact Nat.zero_le _|exact h3 rfl) (aA:jr (b0 o).A c7 0:=by exact jF rfl): @ia s1 _ P N B w0 Q o:=
 acU ku nE x ai hm pF aw round aT aA
theorem ae' {s1:bp} [dJ] {P:bB} {N B:Nat} {w0:aG} {X:Type} {fW:X->bp} {ku:X->Prop} {nE:X->Nat} {m:Nat} {head:ax} {c7:List bG} {o:Option dk} (x':X) {dQ:gh} {Q:Exit->Act->aG->Prop} (ai:eV head c7 o=some dQ) (hm:hD s1 (fW x') dQ)
  (pF:∀i o,(fW x').dz i=some o->s1.dz i=some o) (aK:ku x') (Pg:nE x'<m) (aT:dJ.jD<=c7.length:=by first|exact Nat.zero_le _|exact h3 rfl) (aA:jr (b0 o).A c7 0:=by exact jF rfl):
  @ia s1 _ P N B w0 (Exit.then (Pf fW ku nE m N head c7 B w0) Q) o:=by
 cases o with
 |none=>cases ai
 |some st=>
  refine⟨st,rfl,?_⟩;unfold eV at ai;split at ai
  ·rename_i s eA
   cases eA;intro a w ae;exact⟨x',aK,Pg,Here.move ai hm pF aT aA ae⟩
  ·cases ai
theorem w3 {M aS:Nat->Option Obj} {bM vals':List ad} {a b:Nat} {v:ad} (af:bM[a]? =some v) (ah:vals'[b]? =some v) (cG:Nat.blt a v8=true) (ai:Nat.blt b v8=true): @bb (bc M bM) (al a)= @bb (bc aS vals') (al b):=by
 have bs:o3 bM a=B0 v:=by unfold o3;rw[cG,cN,eP,af];rfl
 have cw:o3 vals' b=B0 v:=by unfold o3;rw[ai,cN,eP,ah];rfl
 exact UN (B0 v) bs cw
theorem ae_ [dJ] {P:bB} [Lib P] {N B:Nat} {w0:aG} {Q:Exit->Act->aG->Prop} {M:Mem} {bM:List ad} {o:Option dk} {f:FuncId} {args:List ad} {hk:ad} {Y:Type} {bC:Y->List ad} {gp e6:ax} {c7:List bG} {dQ:gh} {e9:Mem} {e2 o_:List df} {r:Y->ad} {y7:Y->List df}
  (a_:cC B e9 e2 M o_) (is:List Nat) (sC Ed:Y->List df)
  (h:(yU P o).isSome=true) (bn:(vA P o).1=f) (cG:(vA P o).2.1=args) (fg:bF (hQ P o) gp c7=some dQ) (iQ:e8 N gp (qa o) hk=some e6)
  (kX:mB o_.length is=true) (ar:∀aS y,@bb (bc aS (bC y)) hk=r y) (jZ:∀y,y7 y=sC y++Ed y)
  (ez:∀w,(∀i o,M i=some o->w.heap[i]? =some o)->B<=w.heap.size->dO (a7 w) (a1.pick o_ is)->Calls P f ⟨@fl (bc M bM) args⟩ w λe w'=>(∃y,e= .returned (r y)/\dw (a7 w) (a1.pick o_ is) (a7 w') (y7 y))/\cO 0 w w')
  (hm:∀y aS,hD (bc M bM) (bc aS (bC y)) dQ)
  (rest:∀aS y,cC B e9 e2 aS (oJ o_ is (sC y)++Ed y)->∀bR w,@Here (bc aS (bC y)) _ N {sl:=e6,ms:=[],A:=cS c7} B w0 bR w->wpListIn (Fr none) 0 P (nG o) (fF P (gi o) Q) (oc o) bR w)
  (hlen:∀y,(sC y).length=is.length:=by exact λ_=>rfl)
  (hp:fH args=true:=by rfl) (gH:bL hk=true:=by rfl)
  (aT:dJ.jD<=c7.length:=by first|exact Nat.zero_le _|exact h3 rfl) (aA:jr (hQ P o).A c7 0:=by exact jF rfl): @ia (bc M bM) _ P N B w0 Q o:=
 adT (S:=jP (a1.pick o_ is)) (R:=λy aS=>dw M (a1.pick o_ is) aS (y7 y)) h bn cG hp fg iQ gH (λw hw cM=>ad2 a_ is kX rfl hw cM ar (ez w hw cM (a_.at is kX rfl hw))) (λaS y _=>hm y aS)
  (λaS y kW=>rest aS y (a_.put is kX (hlen y) (by rw[<-jZ y];exact kW))) aT aA
end a1
namespace a1
def Ph (P:bB) (A:bx) (t:bq):ad->Option ad
 | .pointer (some ⟨b,off,none⟩)=>match bZ P (isAgg t) with
   |some false=>A.load b off
   |_=>none
 |_=>none
def Ee (P:bB) (b5:Operand->ad) (A:bx) (o:Oper):Option ad:=
 match o.guard with
 |some _=>none
 |none=>match o.op with
  | .load t x=>Ph P A t (b5 x)
  |_=>bif yH o then @zY P ⟨[]⟩ b5 o else none
section
variable [bp] {P:bB} {φ:cD} {A:bx} {w w2:aG}
omit [bp] in
theorem Wc {e:iJ} {i:Nat} (h:w2.heap[e.bJ]? =w.heap[e.bJ]?):w2.cell? ⟨e.bJ,i,none⟩=w.cell? ⟨e.bJ,i,none⟩:=by
 unfold World.cell?;simp only [h]
theorem afa (ar:cB φ A w) (ao:∀b e,φ b=some e->w2.heap[e.bJ]? =w.heap[e.bJ]?) {t:bq} {p p' v:ad} (hp:aM φ p p') (h:Ph P A t p=some v):∃v',(Instr.loadAt t p').run P w2= .ok v' w2/\aM φ v v':=by
 unfold Ph at h;split at h
 ·rename_i b off
  cases hp with
  |ptr he=>
   split at h
   ·rename_i rI
    obtain⟨v',af,ah⟩:=wg ar h he;rw[<-Wc (ao _ _ he)] at af;refine⟨v',?_,ah⟩;unfold Instr.loadAt;refine ei (a:=(⟨_,_,none⟩:Addr)) rfl ?_;unfold loadVar;refine ei rI ?_;simp [Go.load,Sem.run,af]
   ·cases h
 ·cases h
theorem KA (ar:cB φ A w) (ao:∀b e,φ b=some e->w2.heap[e.bJ]? =w.heap[e.bJ]?) {ρ ρ':Operand->ad} {o:Oper} {v:ad} (eh:∀x,aM φ (ρ x) (ρ' x)) (h:Ee P ρ A o=some v):
  ∃v',(execOp ρ' o).run P w2= .ok (.value v') w2/\aM φ v v'/\o.guard=none/\∀c,o.op≠.defer c:=by
 unfold Ee at h;split at h
 ·cases h
 ·rename_i bg
  split at h
  ·rename_i t x eb
   obtain⟨v',af,ah⟩:=afa ar ao (eh x) h;refine⟨v',?_,ah,bg,λc aA=>by rw[eb] at aA;cases aA⟩;unfold execOp;rw[eb];simp only [Sem.run_bind,af,Result.andThen_ok];rfl
  ·cases o0:yH o with
   |false=>rw[o0] at h;cases h
   |true=>
    rw[o0,cN] at h;obtain⟨v',af,ah⟩:= @Jq _ P ⟨[]⟩ (λ_ h=>by cases h) φ ρ ρ' o v eh h;refine⟨v',af w2,ah,bg,λc aA=> ?_⟩;unfold yH at o0;rw[aA] at o0;simp at o0
end
def Co (P:bB) [Lib P] [ft P] (C:jd) (N E m:Nat) (ops:Array Oper) (ms:List Nat) (dH:ax) (A:bx):List Oper->Nat->List ad->Option (List ad)
 |[],_,a8=>some a8
 |o::r,i,a8=>bif Nat.beq i E then Co P C N E m ops ms dH A r (i+1) (a8++[c3]) else
  match iu N ops (λj=>a8.getD j c3) (needs ops m o) dH with
  |some sl=>bif wI ms E i then
    match vm P C .nil ops o sl A with
    |some (v,cg)=>bif FP (.nil,cg) (.nil,A) then Co P C N E m ops ms dH A r (i+1) (a8++[v]) else none
    |none=>none
   else match Ee P (eQ .nil sl) A o with
    |some v=>Co P C N E m ops ms dH A r (i+1) (a8++[v])
    |none=>none
  |none=>none
def Wd (ops:Array Oper) (E:Nat):Option (bq×Operand×Operand):=
 match ops[E]? with
 |some o=>match o.guard,o.dst,o.op with
  |none,none,.store t p x=>some (t,p,x)
  |_,_,_=>none
 |none=>none
def Pj (P:bB) [Lib P] [ft P] (C:jd) (N E m:Nat):Option dk->Option (bq×ad×ad×ax)
 |some (.draw _ ops s _)=>
  bif uk ops [] m N&&(Nat.blt E m&&(List.range m).all λi=> !direct ops i E) then
   match iu N ops (λ_=>c3) (List.range m) s.sl,Wd ops E with
   |some dH,some (t,ky,ha)=>match Co P C N E m ops (wH ops) dH s.A (ops.toList.take m) 0 [] with
    |some a8=>match iu N ops (λj=>a8.getD j c3) (List.range m) dH,ops[E]? with
     |some gX,some o=>match iu N ops (λj=>a8.getD j c3) (needs ops m o) dH with
      |some qK=>bif bL (eQ .nil qK ky)&&bL (eQ .nil qK ha) then some (t,eQ .nil qK ky,eQ .nil qK ha,gX) else none
      |none=>none
     |_,_=>none
    |none=>none
   |_,_=>none
  else none
 |_=>none
def We (P:bB) [Lib P] (F:List (jJ×ad)) (T:List (FuncId×List ad×ad)) (N bN d E m:Nat) (o:Option dk):Option (bq×ad×ad×ax):=
 @Pj P _ ⟨F⟩ (@x0 P _ ⟨F⟩ ⟨T⟩ .nil bN d) N E m o
def Ef (E m:Nat):Option dk->List Oper
 |some (.draw _ ops _ _)=>(match ops[E]? with|some o=>[o]|none=>[])++ops.toList.drop m
 |_=>[]
section
variable {P:bB} [Lib P] [ft P] {C:jd} {N E m:Nat} {ops:Array Oper} {ms:List Nat} {dH:ax} {A:bx}
def KB (P:bB) [Lib P] [ft P] (C:jd) (N E m:Nat) (ops:Array Oper) (ms:List Nat) (dH:ax) (A:bx) (i:Nat) (o:Oper) (Dy:List ad) (v:ad):Prop:=
 i≠E->∃sl,iu N ops (λj=>Dy.getD j c3) (needs ops m o) dH=some sl/\((wI ms E i=true/\vm P C .nil ops o sl A=some (v,A))\/(wI ms E i=false/\Ee P (eQ .nil sl) A o=some v))
theorem Wf:∀(l:List Oper) (i0:Nat) (a8 dC:List ad),a8.length=i0->Co P C N E m ops ms dH A l i0 a8=some dC->
  dC.length=a8.length+l.length/\dC.take a8.length=a8/\∀i o,l[i]? =some o->KB P C N E m ops ms dH A (i0+i) o (dC.take (a8.length+i)) (dC.getD (a8.length+i) c3)
 |[],i0,a8,dC,_,h=>by
  cases h;exact⟨by simp,by simp,λi o ak=>by simp at ak⟩
 |o::r,i0,a8,dC,rM,h=>by
  unfold Co at h;have go:∀v,KB P C N E m ops ms dH A i0 o a8 v->Co P C N E m ops ms dH A r (i0+1) (a8++[v])=some dC->
    dC.length=a8.length+(o::r).length/\dC.take a8.length=a8/\∀i o',(o::r)[i]? =some o'->KB P C N E m ops ms dH A (i0+i) o' (dC.take (a8.length+i)) (dC.getD (a8.length+i) c3):=by
   intro v aR h;obtain⟨ah,aH,ck⟩:=Wf r (i0+1) (a8++[v]) dC (by simp [rM]) h;have hlen:(a8++[v]).length=a8.length+1:=by simp
   rw[hlen] at ah aH;have vn:dC.take a8.length=a8:=by
    have:=congrArg (List.take a8.length) aH;rw[List.take_take,Nat.min_eq_left aj] at this;simpa using this
   refine⟨by simp;omega,vn,?_⟩;intro i o' ak
   match i with
   |0=>
    simp only [List.getElem?_cons_zero,dL] at ak;subst ak;simp only [Nat.add_zero];rw[vn];have hz:dC.getD a8.length c3=v:=by
     have:=congrArg (λl=>l[a8.length]?) aH;simp at this;rw[eP,this];rfl
    rw[hz];exact aR
   |i+1=>
    have:=ck i o' (by simpa using ak);rw[hlen] at this;rw[show a8.length+(i+1)=a8.length+1+i by omega,show i0+(i+1)=i0+1+i by omega];exact this
  cases fV:Nat.beq i0 E with
  |true=>
   rw[fV,cN] at h;exact go c3 (λdU=>absurd (ep fV) dU) h
  |false=>
   rw[fV,fI] at h;split at h
   ·rename_i sl hg
    cases cG:wI ms E i0 with
    |true=>
     rw[cG,cN] at h;split at h
     ·rename_i v cg aR
      cases cy:FP (.nil,cg) (.nil,A) with
      |false=>rw[cy] at h;cases h
      |true=>
       rw[cy,cN] at h;have:=Uc cy;simp only [Prod.mk.injEq,true_and] at this;subst this;exact go v (λ_=>⟨sl,hg,.inl ⟨cG,aR⟩⟩) h
     ·cases h
    |false=>
     rw[cG,fI] at h;split at h
     ·rename_i v aR
      exact go v (λ_=>⟨sl,hg,.inr ⟨cG,aR⟩⟩) h
     ·cases h
   ·cases h
end
structure tJ [bp] [dJ] (N:Nat) (Cp:List Nat) (ds:List Deferred) (ops:Array Oper) (m:Nat) (a8:List ad) (dH:ax) (A:bx) (B:Nat) (w0:aG) (φ:cD) (listed:Array Bool) (a:Act) (w:aG):Prop where
 Pk:ss φ Cp ds
 size:listed.size=ops.size
 down:∀i j,listed.getD i false=true->direct ops i j=true->listed.getD j false=true
 si:∀i,m<=i->listed.getD i false=false
 rel:cB φ A w
 own:∀b e,φ b=some e->B<=e.bJ
 outs:wN φ A
 below:cO B w0 w
 KC:B<=w.heap.size
 defers:a.defers=ds
 nh:a.tmps.size=N
 slot:∀t v,dH.get t=some v->aM φ v (a.tmps.getD t undef)
 val:∀j t,j<m->listed.getD j false=true->gv ops j=some t->aM φ (a8.getD j c3) (a.tmps.getD t undef)
section
variable [bp] [dJ] {N:Nat} {Cp:List Nat} {ds:List Deferred} {ops:Array Oper} {m B:Nat} {a8:List ad} {dH:ax} {A:bx} {w0 w:aG} {φ:cD} {listed:Array Bool} {a:Act}
theorem tJ.y8 (h:tJ N Cp ds ops m a8 dH A B w0 φ listed a w) {lb:Nat->ad} {c2:List Nat} {sl:ax} (wm:∀j∈c2,j<m/\listed.getD j false=true/\lb j=a8.getD j c3) (hp:iu N ops lb c2 dH=some sl):gR N ds φ sl a:=
 ⟨h.nh,h.defers,λt v aR=>by
   rcases pB _ _ _ hp t v aR with ⟨j,aq,bu,rfl⟩|⟨_,bg⟩
   ·obtain⟨af,ah,aH⟩:=wm j aq
    rw[aH];exact h.val j t af ah bu
   ·exact h.slot t v bg⟩
omit [bp] [dJ] in
theorem GI {listed:Array Bool} {i:Nat} (ak:i<listed.size) (j:Nat):(listed.setIfInBounds i true).getD j false=true↔j=i\/listed.getD j false=true:=by
 by_cases aq:j=i
 ·subst aq
  simp [gd,ak]
 ·rw[getD_set_ne false (Ne.symm aq)]
  simp [aq]
theorem tJ.world {dI:cD} {w':aG} (h:tJ N Cp ds ops m a8 dH A B w0 φ listed a w) (ay:db φ A w dI A w'):tJ N Cp ds ops m a8 dH A B w0 dI listed a w':=by
 obtain⟨gZ,jn⟩:=BP h.own ay h.KC;exact⟨h.Pk.mono (ay.ext h.rel),h.size,h.down,h.si,ay.rel,gZ,h.outs.step ay,h.below.trans jn,Nat.le_trans h.KC ay.hH,h.defers,h.nh,λt v aR=>(h.slot t v aR).mono (ay.ext h.rel),λj t aq az bu=>(h.val j t aq az bu).mono (ay.ext h.rel)⟩
theorem tJ.put (h:tJ N Cp ds ops m a8 dH A B w0 φ listed a w) {i:Nat} {o:Oper} {nC:ax} (iP:iu N ops (λ_=>c3) (List.range m) nC=some dH) (ak:i<m) (hm:m<=ops.size) (bW:ops[i]? =some o)
  (vp:∀k,direct ops i k=true->listed.getD k false=true) (lN:∀i j,i<m->j<m->i≠j->∀t,gv ops i=some t->gv ops j≠some t) (c_:∀i t,i<m->gv ops i=some t->t<N)
  {v':ad} (aR:o.dst≠none->aM φ (a8.getD i c3) v'):tJ N Cp ds ops m a8 dH A B w0 φ (listed.setIfInBounds i true) (a.put o.dst v') w:=by
 have mh:gv ops i=o.dst:=by simp [gv,bW]
 have gn:=GI (listed:=listed) (i:=i) (by have:=h.size;omega);have dU:∀t,o.dst≠some t->(a.put o.dst v').tmps.getD t undef=a.tmps.getD t undef:=λt bw=>by
  rcases Nat.lt_or_ge t a.tmps.size with lO|lO
  ·rw[Act.ui _ _ _ _ lO,aV bw]
  ·simp [gd,Array.getElem?_eq_none lO,Array.getElem?_eq_none (show (a.put o.dst v').tmps.size<=t by rw[Act.size_put];exact lO)]
 refine⟨h.Pk,by simpa using h.size,?_,?_,h.rel,h.own,h.outs,h.below,h.KC,by rw[Act.Dv];exact h.defers,by rw[Act.size_put];exact h.nh,?_,?_⟩
 ·intro j k aq bu
  rw[gn] at aq ⊢;rcases aq with rfl|aq
  ·exact .inr (vp k bu)
  ·exact .inr (h.down j k aq bu)
 ·intro j aq
  rw[getD_set_ne false aj];exact h.si j aq
 ·intro t v q3
  by_cases sn:o.dst=some t
  ·rcases pB _ _ _ iP t v q3 with ⟨j,aq,bu,rfl⟩|⟨yJ,_⟩
   ·exact .c3 _
   ·exact absurd (mh.trans sn) (yJ i (List.mem_range.2 ak))
  ·rw[dU t sn]
   exact h.slot t v q3
 ·intro j t aq az bu
  by_cases eR:j=i
  ·subst eR
   have lO:t<N:=c_ j t aq bu;have:(a.put o.dst v').tmps.getD t undef=v':=by
    rw[Act.ui _ _ _ _ (by rw[h.nh];exact lO),aP (mh.symm.trans bu)]
   rw[this];exact aR (by rw[<-mh,bu];simp)
  ·have n8:=((gn j).1 az).resolve_left eR
   rw[dU t λae=>lN i j ak aq (Ne.symm eR) t (mh.trans ae) bu];exact h.val j t aq n8 bu
end
section
variable [bp] [dJ] {P:bB} [Lib P] [ft P] {C:jd} {N E m B:Nat} {w0:aG} {Q:Exit->Act->aG->Prop}
theorem afb (et:P.follows .mixedOrders=true) (dN:mw P .nil C) {o:Option dk} {t:bq} {p x:ad} {gX:ax} (h:Pj P C N E m o=some (t,p,x,gX))
  (fV:∃g,bp.dz g≠none/\∀w,n9 w->∃cs,(Instr.storeAt t (bb p) (bb x)).run P w= .ok () (w.setRow g cs))
  (rest:∀a w,Here N {b0 o with sl:=gX} B w0 a w->wpListIn (Fr none) 0 P (hl o) (fF P (gi o) Q) (Ef E m o) a w):ia P N B w0 Q o:=by
 unfold Pj at h;split at h
 ·rename_i id ops s ks
  cases ai:(uk ops [] m N&&(Nat.blt E m&&(List.range m).all λi=> !direct ops i E)) with
  |false=>rw[ai] at h;cases h
  |true=>
   rw[ai,cN] at h;simp only [fy] at ai;obtain⟨iB,KD,alf⟩:=ai;have KD:=Nat.blt_eq.mp KD;split at h
   ·rename_i dH fk ky ha iP eA
    split at h
    ·rename_i a8 n5
     split at h
     ·rename_i afc w4 af GJ
      split at h
      ·rename_i qK afd
       cases gH:(bL (eQ .nil qK ky)&&bL (eQ .nil qK ha)) with
       |false=>rw[gH] at h;cases h
       |true=>
        rw[gH,cN] at h;simp only [dL,Prod.mk.injEq] at h;obtain⟨rfl,rfl,rfl,rfl⟩:=h;simp only [fy] at gH;obtain⟨afe,w5⟩:=gH;obtain⟨hm,xV,lN,c_,qW,ni,tu⟩:=Bz iB;obtain⟨g,aff,Wg⟩:=fV;have afg:w4.guard=none/\w4.dst=none/\w4.op= .store fk ky ha:=by
         unfold Wd at eA;rw[GJ] at eA;simp only at eA;split at eA
         ·rename_i q1 aI bS
          cases eA;exact⟨q1,aI,bS⟩
         ·cases eA
        obtain⟨Wh,Wi,KE⟩:=afg;have Eg:∀i o,i<m->ops[i]? =some o->KB P C N E m ops (wH ops) dH s.A i o (a8.take i) (a8.getD i c3):=by
         intro i o ak bW;have:=(Wf _ 0 [] _ rfl n5).2.2 i o (by rw[List.getElem?_take,aP ak];simpa using bW);simpa using this
        refine⟨_,rfl,λa w ae=> ?_⟩;have cy:Here N s B w0 a {w with drawn:=w.drawn+1}:=ae.quiet ⟨⟨rfl,rfl,rfl,c4 _,λ_ _=>rfl⟩,c4 _⟩;refine wpIn_region_any et ?_;obtain⟨⟨φ,ds,q1,aI,bS,fo,iK⟩,mK,p1⟩:=cy;have Wj:∀{listed:Array Bool} {a:Act} {w:aG} {φ:cD},tJ N s.ms ds ops m a8 dH s.A B w0 φ listed a w->∀i o,i<m->ops[i]? =some o->i∈Region.ready .any ops listed->∀sl,iu N ops (λj=>(a8.take i).getD j c3) (needs ops m o) dH=some sl->gR N ds φ sl a:=by
         intro listed a w φ aK i o j6 bW ak sl hg;refine aK.y8 (λj aq=> ?_) hg;have pE:=qW i o j6 bW j aq;have eR:=ni i j aj pE;exact⟨aj,n_ ak j pE,by simp only [eP,List.getElem?_take,aP eR]⟩
        have wL:∀{o:Oper} {a:Act},o.guard=none->Region.wanted o (yielded ops a.tmps)=true:=λ{o a} bg=>by unfold Region.wanted;rw[bg]
        have ho:∀{w:aG} {φ:cD} {ρ:Operand->ad},cB φ s.A w->ρ ky=bb (eQ .nil qK ky)->ρ ha=bb (eQ .nil qK ha)->∃cs,(execOp ρ w4).run P w= .ok .skip (w.setRow g cs):=by
         intro w φ ρ ar hp aw;obtain⟨cs,hJ⟩:=Wg w (λi o ak=>(ar.dz i o ak).1);refine⟨cs,?_⟩;unfold execOp;rw[KE];simp only [hp,aw,Sem.run_bind,hJ,Result.andThen_ok];rfl
        have Wk:∀{listed:Array Bool} {a:Act} {w:aG} {φ:cD},tJ N s.ms ds ops m a8 dH s.A B w0 φ listed a w->(∀k,direct ops E k=true->listed.getD k false=true)->a.eval ky=bb (eQ .nil qK ky)/\a.eval ha=bb (eQ .nil qK ha):=by
         intro listed a w φ aK bu;have p8:gR N ds φ qK a:=by
          refine aK.y8 (λj aq=> ?_) afd;have pE:=qW E w4 KD GJ j aq;have eR:=ni E j aj pE;exact⟨aj,bu j pE,rfl⟩
         exact⟨aM.kr _ afe (h_ (jE φ) p8.get ky),aM.kr _ w5 (h_ (jE φ) p8.get ha)⟩
        have sq:∀{listed:Array Bool} {a:Act} {w:aG} {φ:cD},tJ N s.ms ds ops m a8 dH s.A B w0 φ listed a w->¬(∀i,i<m->listed.getD i false=true)->Region.ready .any ops listed≠[]/\∀i∈Region.ready .any ops listed,i<m/\listed.getD i false=false/\i<ops.size:=by
         intro listed a w φ aK kt;obtain⟨i0,rM⟩:=Classical.not_forall.1 kt;obtain⟨z7,pD⟩:=Classical.not_imp.1 rM;have pD:listed.getD i0 false=false:=by simpa using pD
         refine⟨?_,λi ak=> ?_⟩
         ·have key:∀n i,i<n->i<m->listed.getD i false=false->∃k,k∈Region.ready .any ops listed:=by
           intro n
           induction n with
           |zero=>intro i ak;omega
           |succ n BC=>
            intro i ak j6 BD;by_cases hp:∀k,direct ops i k=true->listed.getD k false=true
            ·refine⟨i,mem_ready.2 ⟨by rw[pA (by have:=aK.size;omega)];exact BD,ops[i]'(by omega),Array.getElem?_eq_getElem _,λe he ai=>hp _ ?_⟩⟩
             have bW:ops[i]? =some (ops[i]'(by omega)):=Array.getElem?_eq_getElem _;simp only [direct,bW];exact Array.any_eq_true'.2 ⟨e,he,by simp [ai]⟩
            ·obtain⟨k,ao⟩:=Classical.not_forall.1 hp
             obtain⟨bu,wJ⟩:=Classical.not_imp.1 ao;have:=ni i k aj bu;exact BC k aj aj (by simpa using wJ)
          obtain⟨k,ao⟩:=key (i0+1) i0 aj z7 pD;intro h;rw[h] at ao;cases ao
         ·obtain⟨sm,o,bW,_⟩:=mem_ready.1 ak
          have ko:i<ops.size:=(Array.getElem?_eq_some_iff.1 bW).1;have p6:listed.getD i false=false:=by rw[<-pA (by have:=aK.size;omega)];exact sm
          refine⟨?_,p6,ko⟩;rcases Nat.lt_or_ge i m with h|h
          ·exact h
          ·exfalso
           rcases tu i i0 ko h aj with ⟨wK,_⟩|cG
           ·cases wK
           ·have:=cG listed aK.down (n_ ak)
            rw[pD] at this;cases this
        have post:∀(bN:Nat) (listed:Array Bool) (a:Act) (w w2:aG) (φ:cD),tJ N s.ms ds ops m a8 dH s.A B w0 φ listed a w->listed.getD E false=true->(∃cs,w2=w.setRow g cs/\∀ρ:Operand->ad,ρ ky=bb (eQ .nil qK ky)->ρ ha=bb (eQ .nil qK ha)->(execOp ρ w4).run P w= .ok .skip w2)->
          p5 listed<=bN->wpAnyIn (Fr none) 0 P .any ops (fF P ks Q) bN listed a w2:=by
         have tail:∀(bN:Nat) (listed:Array Bool) (a:Act) (w w2:aG) (φ:cD),tJ N s.ms ds ops m a8 dH s.A B w0 φ listed a w->(∃cs,w2=w.setRow g cs/\∀ρ:Operand->ad,ρ ky=bb (eQ .nil qK ky)->ρ ha=bb (eQ .nil qK ha)->(execOp ρ w4).run P w= .ok .skip w2)->
           p5 listed<=bN->(∀i,i<m->listed.getD i false=true)->wpAnyIn (Fr none) 0 P .any ops (fF P ks Q) bN listed a w2:=by
          intro bN listed a w w2 φ aK xG bn kt;refine Ju ni (λi j ak aq eR=>(tu i j ak aj eR).resolve_left aj) bN m listed a w2 (c4 _) aK.size (λi=> ?_) bn ?_
          ·by_cases ak:i<m
           ·rw[kt i ak];simp;omega
           ·rw[aK.si i aj];simp;omega
          ·have p8:gR N ds φ afc a:=aK.y8 (λj aq=>⟨List.mem_range.1 aq,kt j (List.mem_range.1 aq),rfl⟩) af
           have:=rest a w ⟨⟨φ,ds,aK.Pk,p8,aK.rel,aK.own,aK.outs⟩,aK.below,aK.KC⟩;have afh:Ef E m (some (.draw id ops s ks))=w4::ops.toList.drop m:=by
            unfold Ef;simp only [GJ];rfl
           rw[afh] at this;obtain⟨cs,_,sr⟩:=xG;obtain⟨bs,cw⟩:=Wk aK (λk ao=>kt k (by have:=ni E k aj ao;omega));have aw:=sr a.eval bs cw;unfold wpListIn at this
           change if Region.wanted w4 (yielded ops a.tmps)=true then _ else _ at this
           rw[aP (wL Wh)] at this;have:=this.2;rw[Oper.semAt_eq _ _ _ (λc aA=>by rw[KE] at aA;cases aA),aw,Oper.uponIn_skip,Wi] at this;exact this
         intro bN
         induction bN with
         |zero=>
          intro listed a w w2 φ aK x9 xG bn;refine tail 0 listed a w w2 φ aK xG bn λi ak=> ?_
          cases h:listed.getD i false with
          |true=>rfl
          |false=>
           exfalso;have:=uj (i:=i) (listed:=listed) (by have:=aK.size;omega) (by rw[pA (by have:=aK.size;omega)];exact h);omega
         |succ bN eJ=>
          intro listed a w w2 φ aK x9 xG bn;by_cases kt:∀i,i<m->listed.getD i false=true
          ·exact tail (bN+1) listed a w w2 φ aK xG bn kt
          ·obtain⟨la,sr⟩:=sq aK kt
           refine⟨λbd=>absurd bd la,λi ak=> ?_⟩;obtain⟨j6,p6,ko⟩:=sr i ak;have bW:ops[i]? =some ops[i]:=Array.getElem?_eq_getElem ko;have Eh:i≠E:=λh=>by rw[h,x9] at p6;cases p6
           have afi:wI (wH ops) E i=false:=by
            cases Ei:wI (wH ops) E i with
            |false=>rfl
            |true=>
             have:=Nb E aj i Ei listed aK.down (λk ao=>aK.down E k x9 ao);rw[p6] at this;cases this
           obtain⟨sl,hg,aR⟩:=Eg i _ j6 bW Eh;rcases aR with ⟨Ei,_⟩|⟨_,aR⟩
           ·rw[afi] at Ei;cases Ei
           ·have p8:=Wj aK i _ j6 bW ak sl hg
            obtain⟨cs,rfl,JF⟩:=xG;obtain⟨v',g1,g2,g3,g4⟩:=KA (w2:=w.setRow g cs) aK.rel (λb e ai=>setRow_other w g e.bJ cs λae=>by
             cases Wl:bp.dz g with
             |none=>exact aff Wl
             |some o=>exact(aK.rel.dz g o Wl).2 b e ai ae) (h_ (jE φ) p8.get) aR
            unfold wpOpIn;simp only [bW];rw[aP (wL g3)];refine⟨λ_ _=>trivial,?_⟩;rw[Oper.semAt_eq _ _ _ g4,g1,Oper.uponIn_value];refine eJ _ _ w _ φ (aK.put iP j6 hm bW (n_ ak) lN c_ λ_=>g2) ?_ ⟨cs,rfl,JF⟩ ?_
            ·rw[getD_set_ne false Eh];exact x9
            ·have:=uj (i:=i) (listed:=listed) (by have:=aK.size;omega) (mem_ready.1 ak).1
             omega
        have pre:∀(bN:Nat) (listed:Array Bool) (a:Act) (w:aG) (φ:cD),tJ N s.ms ds ops m a8 dH s.A B w0 φ listed a w->listed.getD E false=false->p5 listed<=bN->wpAnyIn (Fr none) 0 P .any ops (fF P ks Q) bN listed a w:=by
         intro bN
         induction bN with
         |zero=>
          intro listed a w φ aK x9 bn;exfalso;have:=uj (i:=E) (listed:=listed) (by have:=aK.size;omega) (by rw[pA (by have:=aK.size;omega)];exact x9);omega
         |succ bN eJ=>
          intro listed a w φ aK x9 bn;obtain⟨la,sr⟩:=sq aK (λlK=>by rw[lK E KD] at x9;cases x9);refine⟨λbd=>absurd bd la,λi ak=> ?_⟩;obtain⟨j6,p6,ko⟩:=sr i ak;have bW:ops[i]? =some ops[i]:=Array.getElem?_eq_getElem ko;have Np:=uj (i:=i) (listed:=listed) (by have:=aK.size;omega) (mem_ready.1 ak).1;unfold wpOpIn;simp only [bW];by_cases Eh:i=E
          ·subst Eh
           have:w4=ops[i]:=by rw[GJ] at bW;exact Option.some.inj bW
           rw[<-this];obtain⟨bs,cw⟩:=Wk aK (n_ ak);obtain⟨cs,hJ⟩:=ho aK.rel bs cw;rw[aP (wL Wh)];refine⟨λ_ _=>trivial,?_⟩;rw[Oper.semAt_eq _ _ _ (λc aA=>by rw[KE] at aA;cases aA),hJ,Oper.uponIn_skip];refine post bN _ _ w _ φ (aK.put iP j6 hm GJ (n_ ak) lN c_ λae=>absurd Wi ae) ((GI (by have:=aK.size;omega) i).2 (.inl rfl)) ⟨cs,rfl,λρ c9 eF=> ?_⟩ aj;obtain⟨afj,afk⟩:=Wg w (λi o ak=>(aK.rel.dz i o ak).1);have:∀ρ:Operand->ad,ρ ky=bb (eQ .nil qK ky)->ρ ha=bb (eQ .nil qK ha)->(execOp ρ w4).run P w= .ok .skip (w.setRow g afj):=λρ c9 eF=>by
            unfold execOp;rw[KE];simp only [c9,eF,Sem.run_bind,afk,Result.andThen_ok];rfl
           have dD:=this a.eval bs cw;rw[hJ] at dD;rw[this ρ c9 eF];exact dD.symm
          ·obtain⟨sl,hg,aR⟩:=Eg i _ j6 bW Eh
           have p8:=Wj aK i _ j6 bW ak sl hg;have Wm:(listed.setIfInBounds i true).getD E false=false:=by rw[getD_set_ne false Eh];exact x9
           rcases aR with ⟨_,aR⟩|⟨_,aR⟩
           ·refine FG dN aK.rel (jE φ) p8.get aR λdI v' w' wB p2=> ?_
            exact eJ _ _ w' dI ((aK.world p2).put iP j6 hm bW (n_ ak) lN c_ λ_=>wB) Wm aj
           ·obtain⟨v',g1,g2,g3,g4⟩:=KA (w2:=w) aK.rel (λ_ _ _=>rfl) (h_ (jE φ) p8.get) aR
            rw[aP (wL g3)];refine⟨λ_ _=>trivial,?_⟩;rw[Oper.semAt_eq _ _ _ g4,g1,Oper.uponIn_value];exact eJ _ _ w φ (aK.put iP j6 hm bW (n_ ak) lN c_ λ_=>g2) Wm aj
        have bn:∀i,(Array.replicate ops.size false).getD i false=false:=λi=>by
         rw[gd,Array.getElem?_replicate];split<;>rfl
        refine pre ops.size _ a _ φ ⟨q1,by simp,λi j ak=>absurd ak (by rw[bn];simp),λi _=>bn i,bS,fo,iK,mK,p1,aI.defers,aI.size,λt v aR=> ?_,λj t _ az=>absurd az (by rw[bn];simp)⟩ (bn E) ?_
        ·rcases pB _ _ _ iP t v aR with ⟨j,aq,bu,rfl⟩|⟨_,bg⟩
         ·exact .c3 _
         ·exact aI.get t v bg
        ·unfold p5
         exact Nat.le_trans List.count_le_length (by simp)
      ·cases h
     ·cases h
    ·cases h
   ·cases h
 ·cases h
end
def Pl (P:bB) [Lib P] (F:List (jJ×ad)) (T:List (FuncId×List ad×ad)) (N bN d E m:Nat) (o:Option dk):Option (bq×ad×ad):=
 (We P F T N bN d E m o).map λr=>(r.1,r.2.1,r.2.2.1)
def KF (P:bB) [Lib P] (F:List (jJ×ad)) (T:List (FuncId×List ad×ad)) (N bN d E m:Nat) (o:Option dk):c6:=
 {b0 o with sl:=match We P F T N bN d E m o with|some r=>r.2.2.2|none=> .nil}
theorem afl [bp] [dJ] {P:bB} [Lib P] {F:List (jJ×ad)} {T:List (FuncId×List ad×ad)} {N B bN d E m:Nat} {w0:aG} {Q:Exit->Act->aG->Prop} {o:Option dk} {t:bq} {p x:ad}
  (et:P.follows .mixedOrders=true) (gg:uw P F) (kW:sv P T) (h:Pl P F T N bN d E m o=some (t,p,x))
  (fV:∃g,bp.dz g≠none/\∀w,n9 w->∃cs,(Instr.storeAt t (bb p) (bb x)).run P w= .ok () (w.setRow g cs))
  (rest:∀a w,Here N (KF P F T N bN d E m o) B w0 a w->wpListIn (Fr none) 0 P (hl o) (fF P (gi o) Q) (Ef E m o) a w):ia P N B w0 Q o:=by
 letI:ft P:=⟨F⟩;letI:vu P:=⟨T⟩;unfold Pl at h;obtain⟨⟨fk,p',x',gX⟩,af,ah⟩:=Option.map_eq_some_iff.1 h;simp only [Prod.mk.injEq] at ah;obtain⟨rfl,rfl,rfl⟩:=ah;refine afb et (BO (bN:=bN) et gg kW d) af fV λa w ae=>rest a w ?_
 unfold KF;rw[af];exact ae
theorem afm {α:Type} {P:bB} {B:Nat} {M:Mem} {bM:List ad} {t e:bq} {k:Nat} {p x u ld:ad} {enc:α->List ad} {l:List α} {i j:Nat} (dV:bZ P (sizeOf t)=some 1) (ao:∀x,(enc x).length=k) (aq:j<k)
  (nn: @bb (bc M bM) p=fM u (i*k+j)) (ex: @bb (bc M bM) x=ld) (hu:ld.cells= #[ld]) (lB:ld.oneCell'=true) (dR:eI B M e k enc u l) (ak:i<l.length):
  ∃g,(bc M bM).dz g≠none/\∀w,@n9 (bc M bM) w->∃cs,(Instr.storeAt t (@bb (bc M bM) p) (@bb (bc M bM) x)).run P w= .ok () (w.setRow g cs):=by
 rw[nn,ex];rcases dR with ⟨h8,rfl,rfl⟩|⟨g,cap,cur,rfl,mM,cM,gk,hle,xM,hJ,x4⟩
 ·simp at ak
 ·refine⟨g,by show M g≠none;rw[gk];simp,λw hw=> ?_⟩
  have bg:=hw g _ gk;have Gi:i*k+j<cur.size:=by
   rw[hJ];have:=Nat.mul_le_mul_right k (show i+1<=cap by omega);rw[Nat.add_mul] at this;omega
  refine⟨(cur.toList.take (i*k+j)++[ld]++cur.toList.drop (i*k+j+1)).toArray,?_⟩;have wq:(storeCells ⟨g,i*k+j,none⟩ [ld]).run P w= .ok () (w.setRow g (cur.toList.take (i*k+j)++[ld]++cur.toList.drop (i*k+j+1)).toArray):=by
   have:=run_storeCells_at P g (i*k+j) e [ld] 0 cur w bg (by simp only [List.length_cons,List.length_nil];omega) (λv aR=>by rw[List.mem_singleton.1 aR];exact lB);simpa only [Nat.add_zero,List.length_cons,List.length_nil] using this
  unfold Instr.storeAt;refine ei (a:=(⟨g,0+(i*k+j),none⟩:Addr)) rfl ?_;unfold storeVar;refine ei dV ?_;rw[aV (by rw[hu];simp),hu,Nat.zero_add];exact wq
end a1
namespace a1
theorem afn {P:bB} (w:aG) (mU afo ty elem:bq) (d:Option Addr) (afp:Nat) (a:Addr) (pv tm:Nat) (hu:P.underlying mU=some (.slice elem)) (ay:(P.info? elem).map (·.size)=some 1):
  (Builtin.copy_ #[mU,afo] ty #[.slice d 0 afp,.slice (some a) pv tm]).run P w= .ok (.int .i64 0) w:=by
 cases cy:P.info? elem with
 |none=>simp [cy] at ay
 |some i=>
  have ak:i.size=1:=by simpa [cy] using ay
  cases d<;>simp [Builtin.copy_,run_underlying hu,Builtin.lenOf,Builtin.firstCells,sizeOf,typeInfo,cy,ak,storeCells,loadCells,loadCellsFrom,Sem.run,pure,goInt]
theorem Pm {α:Type} {enc:α->List ad} (ao:∀x,(enc x).length=1) (l:List α) (i:Nat):(l.take i).flatMap enc=(l.flatMap enc).take i/\(l.drop i).flatMap enc=(l.flatMap enc).drop i:=by
 have h:∀(l:List α) (i:Nat),(l.take i).flatMap enc=(l.flatMap enc).take i/\(l.drop i).flatMap enc=(l.flatMap enc).drop i:=by
  intro l
  induction l with
  |nil=>intro i;simp
  |cons x r eJ=>
   intro i;cases i with
   |zero=>simp
   |succ i=>
    have aw:=ao x;obtain⟨v,aR⟩:=List.length_eq_one_iff.1 aw;obtain⟨af,ah⟩:=eJ i;simp [aR,af,ah]
 exact h l i
theorem Wn [dJ] {α:Type} {P:bB} {N B:Nat} {w0:aG} {Q:Exit->Act->aG->Prop} {M:Mem} {bM bC:List ad} {o:Option dk} {t t2 e:bq} {a8 my u rv lb:ad} {a:Option Addr} {c i m:Nat} {enc:α->List ad} {l ys l':List α} {gp e6:ax} {c7:List bG} {dQ:gh}
  (iM:l'=l.take i++ys.take m++l.drop (i+m)) (wh:m=min ys.length (l.length-i)) (h:Cm t t2 o=some (a8,my)) (bw:P.underlying t=some (.slice e)) (ay:(P.info? e).map (·.size)=some 1) (ao:∀x,(enc x).length=1) (lB:∀x,∀v∈enc x,v.oneCell'=true)
  (fg:bF (b0 o) gp c7=some dQ) (iQ:e8 N gp (qa o) rv=some e6) (hp:bL a8=true) (Wo:bL rv=true) (hu:u= .slice a l.length c) (nn: @bb (bc M bM) a8=lb) (wF:lb= .slice (lC a c i 1) (l.length-i) (c-i))
  (mP:∀φ w x,(∀i o,M i=some o->w.heap[i]? =some o)-> @cB (bc M bM) φ (b0 o).A w-> @aM (bc M bM) φ my x->tA w 1 enc x ys) (Cq:ys≠[]) (ak:i<=l.length)
  (dR:eI B M e 1 enc u l) (dc:∀aS,@bb (bc aS bC) rv= .int .i64 ((m:Nat):Int)) (hm:∀aS,hD (bc M bM) (bc aS bC) dQ)
  (rest:∀aS,eI B aS e 1 enc u l'->jM M aS (fX u)->∀bR w,@Here (bc aS bC) _ N {sl:=e6,ms:=[],A:=cS c7} B w0 bR w->wpListIn (Fr none) 0 P (nG o) (fF P (gi o) Q) (oc o) bR w)
  (aT:dJ.jD<=c7.length:=by first|exact Nat.zero_le _|exact h3 rfl) (aA:jr (b0 o).A c7 0:=by exact jF rfl): @ia (bc M bM) _ P N B w0 Q o:=by
 subst wF;letI:=bc M bM;unfold Cm at h;split at h
 ·rename_i op r ops s ks
  refine⟨_,rfl,λeL w ae=> ?_⟩;split at h
  ·rename_i fA eb
   split at h
   ·rename_i oG ha q2 hW
    cases hty:decide (fA.argTypes= #[t,t2]) with
    |false=>rw[hty] at h;cases h
    |true=>
     rw[hty,cN] at h;have yW:fA.argTypes= #[t,t2]:=of_decide_eq_true hty;split at h
     ·rename_i nk
      cases h;have jN:=ae;obtain⟨⟨φ,ds,af,ah,aH,ck,_⟩,dd,dM⟩:=ae;unfold wpListIn;rw[sg ah.get nk,aP rfl];have es:eL.eval oG= .slice (lC a c i 1) (l.length-i) (c-i):=(aM.kr _ hp (h_ (jE φ) ah.get oG)).trans nn;have hw:∀i o,M i=some o->w.heap[i]? =some o:=jN.qC;obtain⟨bO,ew,ex,yV,ll⟩:=mP φ w _ hw aH (h_ (jE φ) ah.get ha);have hb:∀c',op.op≠.defer c':=λc' h=>by rw[eb] at h;cases h
      cases bO with
      |none=>exact absurd (yV rfl) Cq
      |some h8=>
       have n5:∀(w2:aG),(Builtin.copy_ #[t,t2] op.type #[eL.eval oG,eL.eval ha]).run P w= .ok (.int .i64 ((m:Nat):Int)) w2->(execOp eL.eval op).run P w= .ok (.value (.int .i64 ((m:Nat):Int))) w2:=by
        intro w2 GG;unfold execOp resolve;rw[eb];simp only [q2,hW,yW,List.map_toArray,List.map_cons,List.map_nil];show (do pure (Next.value (<-Builtin.copy_ #[t,t2] op.type #[eL.eval oG,eL.eval ha])):Sem Next).run P w=_;simp only [Sem.run_bind,GG,Result.andThen_ok];rfl
       rcases Nat.eq_or_lt_of_le ak with q'|q'
       ·
        have Eb:m=0:=by omega
        subst Eb;have py:l'=l:=by rw[iM,q'];simp
        rw[py] at rest;have ho:=n5 w (by rw[es,ex,show l.length-i=0 by omega];exact afn w t t2 op.type e _ _ h8 _ ew bw ay);refine⟨λ_ _=>trivial,?_⟩;rw[Oper.semAt_eq _ _ _ hb,ho,Oper.uponIn_value];have kc:=Here.move (s2:=bc M bC) fg (hm M) (λ_ _ h=>h) aT aA jN;have:=rest M dR (λ_ _ h _=>h) _ _ (@Here.put (bc M bC) _ _ _ _ _ _ _ op.dst rv e6 kc Wo iQ);rw[dc M] at this;exact this
       ·rcases dR with ⟨alg,rfl,rfl⟩|⟨g,cap,cur,he,mM,cM,gk,hle,xM,hJ,x4⟩
        ·simp at q'
        ·rw[he] at hu
         simp only [Value.slice.injEq] at hu;obtain⟨rfl,_,rfl⟩:=hu;have bg:=hw _ _ gk;have bu:lC (some (⟨g,0,none⟩:Addr)) cap i 1=some ⟨g,i,none⟩:=by
          unfold lC;rw[aV aj];show some ((⟨g,0,none⟩:Addr).add (i*1))=_;have:(⟨g,0,none⟩:Addr).add (i*1)=⟨g,0+i*1,none⟩:=by unfold Addr.add;split<;>simp_all
          rw[this,Nat.zero_add,Nat.mul_one]
         have alh:cur.size=cap:=by omega
         have Cn:((ys.take m).flatMap enc).length=m:=by
          rw[uy ao,List.length_take];omega
         have GG:=run_copy_row (P:=P) w t t2 op.type e g i (l.length-i) (cap-i) h8 ys.length ew cur e ((ys.take m).flatMap enc) bw ay bg (by rw[Cn];exact wh) (λj v aq=>ll h8 rfl j v (by
          rw[(Pm ao ys m).1] at aq;rw[List.getElem?_take] at aq;split at aq
          ·exact aq
          ·cases aq)) (by rw[Cn];omega) (λv aR=>by
          obtain⟨x,_,aw⟩:=List.mem_flatMap.1 aR
          exact lB x v aw)
         let hL:Array ad:=(cur.toList.take i++(ys.take m).flatMap enc++cur.toList.drop (i+m)).toArray
         have ho:=n5 (w.setRow g hL) (by rw[es,ex,bu,GG,Cn];rfl);refine⟨λ_ _=>trivial,?_⟩;rw[Oper.semAt_eq _ _ _ hb,ho,Oper.uponIn_value];have ud:fX u=some g:=by rw[he];exact qD ⟨g,0,none⟩ _ mM
         obtain⟨q1,aI⟩:=uz (B:=B) (M:=M) (w':=w.setRow g hL) (T:=some g) (fQ:=some g) hw (λi ak=>by cases ak;exact⟨by rw[gk];simp,cM⟩) (λi ak=> .inl ak) ⟨rfl,rfl,rfl⟩ (c4 _) (by simp [World.setRow]) (λj _ aq=>setRow_other w g j hL (λh=>aq (by rw[h])));have py:l'.length=l.length:=by rw[iM];simp;omega
         have sx:eI B (j7 M (w.setRow g hL) (some g) (some g)) e 1 enc u l':=by
          refine .inr ⟨g,cap,hL,by rw[he,py],mM,cM,?_,by rw[py];exact hle,xM,?_,?_⟩
          ·unfold j7
           rw[aP rfl];exact setRow_heap w g cur hL e (0,0) bg
          ·show (List.toArray _).size=_
           simp only [List.size_toArray,List.length_append,List.length_take,List.length_drop,Cn,Array.length_toList];omega
          ·show (cur.toList.take i++(ys.take m).flatMap enc++cur.toList.drop (i+m)).take (l'.length*1)=_
           rw[iM,List.flatMap_append,List.flatMap_append,(Pm ao l i).1,(Pm ao l (i+m)).2,<-x4,Nat.mul_one,Nat.mul_one,<-iM,py];have af:(cur.toList.take i++(ys.take m).flatMap enc).length=i+m:=by
            rw[List.length_append,Cn,List.length_take,Array.length_toList];omega
           rw[List.take_append,af,List.take_of_length_le aj,List.take_drop,List.take_take,Nat.min_eq_left aj,List.drop_take];congr 1;have:i+m+(l.length-(i+m))=l.length:=by omega
           rw[this,List.drop_take]
         have kc:=Here.turns (vals':=bC) fg (hm _) q1 aT aA jN;have:=rest _ sx (by rw[ud];exact aI) _ _ (@Here.put (bc (j7 M (w.setRow g hL) (some g) (some g)) bC) _ _ _ _ _ _ _ op.dst rv e6 kc Wo iQ);rw[dc _] at this;exact this
     ·cases h
   ·cases h
  ·cases h
 ·cases h
theorem afq (a:Option Addr) (n c:Nat):Value.slice a n c= .slice (lC a c 0 1) (n-0) (c-0):=by
 unfold lC;split
 ·rfl
 ·cases a with
  |none=>rfl
  |some a=>
   obtain⟨b,o,s⟩:=a;rw[Nat.sub_zero,Nat.sub_zero,Nat.zero_mul];cases s<;>rfl
theorem Wp {α:Type} {M:Mem} {bM:List ad} {my lb:ad} {A:bx} {k:Nat} {enc:α->List ad} {l:List α} (hp:bL my=true) (b5: @bb (bc M bM) my=lb) (oE:dr M k enc lb l) (ao:∀x,(enc x).length=k):
  ∀φ w x,(∀i o,M i=some o->w.heap[i]? =some o)-> @cB (bc M bM) φ A w-> @aM (bc M bM) φ my x->tA w k enc x l:=λφ w x hw _ aR=>by
 have:x=lb:=(@aM.kr (bc M bM) φ my x hp aR).trans b5;rw[this];exact oE.reads ao hw
theorem KG {n:Int} (af:0<=n) (ah:n<=18446744073709551615):IntKind.u64.wrap n=n:=by rw[IntKind.wrap_u64];omega
end a1
namespace a1
abbrev fa:=Option Addr×Nat
def Pn (P:bB) (A:bx) (t:bq):ad->Option ad
 | .pointer (some ⟨b,off,none⟩)=>match bZ P (isAgg t) with
   |some true=>match bZ P (sizeOf t) with
    |some n=>(A.tj b off n).map λl=> .agg ⟨l⟩
    |none=>none
   |_=>none
 |_=>none
theorem afr [bp] {φ:cD} {A:bx} {w w2:aG} {e:iJ} (ar:cB φ A w) (ao:w2.heap[e.bJ]? =w.heap[e.bJ]?) (P:bB) {b off n:Nat} {a8:List ad} (h:A.tj b off n=some a8) (he:φ b=some e):
  ∃dC:Array ad,(loadCells ⟨e.bJ,e.sh+off,none⟩ n).run P w2= .ok dC w2/\dC.size=a8.length/\∀j,j<a8.length->aM φ (a8.getD j undef) (dC.getD j undef):=by
 obtain⟨az,aq⟩:=Bg h;have Bh:∀j,j<n->∃v',w2.cell? ⟨e.bJ,e.sh+off+j,none⟩=some v'/\aM φ (a8.getD j undef) v':=λj wj=>by
  obtain⟨v',af,ah⟩:=wg ar (aq j wj) he;exact⟨v',by rw[show e.sh+off+j=e.sh+(off+j) by omega,Wc ao];exact af,ah⟩
 let f:Nat->ad:=λj=>(w2.cell? ⟨e.bJ,e.sh+off+j,none⟩).getD undef
 have bn:∀j,j<n->w2.cell? ((⟨e.bJ,e.sh+off,none⟩:Addr).add j)=some (f j):=λj wj=>by
  obtain⟨v',af,_⟩:=Bh j wj;rw[Addr.ly,af];simp [f,af]
 refine⟨_,run_loadCells _ _ n f bn,by simp [az],λj wj=> ?_⟩;obtain⟨v',af,ah⟩:=Bh j aj;have:f j=v':=by simp [f,af]
 have afs:j<n:=by omega
 simpa [afs,this] using ah
theorem aft [bp] {P:bB} {φ:cD} {A:bx} {w w2:aG} (ar:cB φ A w) (ao:∀b e,φ b=some e->w2.heap[e.bJ]? =w.heap[e.bJ]?) {t:bq} {p p' v:ad} (hp:aM φ p p') (h:Pn P A t p=some v):∃v',(Instr.loadAt t p').run P w2= .ok v' w2/\aM φ v v':=by
 unfold Pn at h;split at h
 ·rename_i b off
  cases hp with
  |ptr he=>
   split at h
   ·rename_i rI
    split at h
    ·rename_i n aT
     obtain⟨l,az,rfl⟩:=Option.map_eq_some_iff.1 h;obtain⟨dC,af,ah,aH⟩:=afr ar (ao _ _ aY) P az aY;refine⟨.agg dC,?_,.agg _ _ (by simp [ah]) λi ak=>by simpa using aH i (by simpa using ak)⟩;unfold Instr.loadAt;refine ei (a:=(⟨_,_,none⟩:Addr)) rfl ?_;unfold loadVar;refine ei rI ?_;simp only [if_true];refine ei aT ?_;simp only [Sem.run_bind,af,Result.andThen_ok];rfl
    ·cases h
   ·cases h
 ·cases h
def y9 (P:bB) (b5:Operand->ad) (A:bx) (o:Oper):Option ad:=
 match o.op with
 | .build t ⟨[]⟩=>match o.guard with
   |none=>match bZ P (Instr.build t #[]) with
    |some v=>bif plain v then some v else none
    |none=>none
   |some _=>none
 | .load t x=>match o.guard with
   |none=>match Pn P A t (b5 x) with
    |some v=>some v
    |none=>Ee P b5 A o
   |some _=>none
 |_=>Ee P b5 A o
theorem Wq [bp] {P:bB} {φ:cD} {A:bx} {w w2:aG} (ar:cB φ A w) (ao:∀b e,φ b=some e->w2.heap[e.bJ]? =w.heap[e.bJ]?) {ρ ρ':Operand->ad} {o:Oper} {v:ad} (eh:∀x,aM φ (ρ x) (ρ' x)) (h:y9 P ρ A o=some v):
  ∃v',(execOp ρ' o).run P w2= .ok (.value v') w2/\aM φ v v'/\o.guard=none/\∀c,o.op≠.defer c:=by
 unfold y9 at h;split at h
 ·rename_i t eb
  split at h
  ·rename_i bg
   split at h
   ·rename_i u hu
    cases hp:plain u with
    |false=>rw[hp] at h;cases h
    |true=>
     rw[hp,cN] at h;cases h;refine⟨v,?_,aM.lv φ v hp,bg,λc aA=>by rw[eb] at aA;cases aA⟩;unfold execOp;rw[eb];simp only [List.map_toArray,List.map_nil,Sem.run_bind,kM hu w2,Result.andThen_ok];rfl
   ·cases h
  ·cases h
 ·rename_i t x eb
  split at h
  ·rename_i bg
   split at h
   ·rename_i u hu
    cases h;obtain⟨v',af,ah⟩:=aft (w2:=w2) ar ao (eh x) hu;refine⟨v',?_,ah,bg,λc aA=>by rw[eb] at aA;cases aA⟩;unfold execOp;rw[eb];simp only [Sem.run_bind,af,Result.andThen_ok];rfl
   ·exact KA ar ao eh h
  ·cases h
 ·exact KA ar ao eh h
def Ej (P:bB) (N m:Nat) (c2:List Nat) (ops:Array Oper) (dH:ax) (A:bx):List Oper->Nat->List ad->Option (List ad)
 |[],_,a8=>some a8
 |o::r,i,a8=>bif c2.contains i then Ej P N m c2 ops dH A r (i+1) (a8++[c3]) else
  match iu N ops (λj=>a8.getD j c3) (needs ops m o) dH with
  |some sl=>match y9 P (eQ .nil sl) A o with
   |some v=>Ej P N m c2 ops dH A r (i+1) (a8++[v])
   |none=>none
  |none=>none
def GK (P:bB) (N m:Nat) (c2:List Nat):Option dk->Option (ax×List ad×ax)
 |some (.draw _ ops s _)=>
  bif uk ops [] m N&&((List.range m).all λi=>match ops[i]? with|some o=>(needs ops m o).all λj=> !c2.contains j|none=>false)&&c2.all (λj=>Nat.blt j m) then
   match iu N ops (λ_=>c3) (List.range m) s.sl with
   |some dH=>match Ej P N m c2 ops dH s.A (ops.toList.take m) 0 [] with
    |some a8=>match iu N ops (λj=>a8.getD j c3) ((List.range m).filter λi=> !c2.contains i) dH with
     |some GL=>some (dH,a8,GL)
     |none=>none
    |none=>none
   |none=>none
  else none
 |_=>none
def sD (P:bB) (N m:Nat) (c2:List Nat) (o:Option dk) (i:Nat):ax:=
 match GK P N m c2 o,(hl o)[i]? with
 |some (dH,a8,_),some op=>match iu N (hl o) (λj=>a8.getD j c3) (needs (hl o) m op) dH with
  |some sl=>sl
  |none=> .nil
 |_,_=> .nil
def GM (P:bB) (N m:Nat) (c2:List Nat) (o:Option dk):c6:={b0 o with sl:=match GK P N m c2 o with|some (_,_,sl)=>sl|none=> .nil}
def y' (m:Nat) (o:Option dk):List Oper:=(hl o).toList.drop m
def vG (N:Nat) (ops:Array Oper):List (Nat×ad)->ax->Option ax
 |[],sl=>some sl
 |p::r,sl=>match e8 N sl (gv ops p.1) p.2 with
  |some s=>vG N ops r s
  |none=>none
def x_ [bp] (P:bB) (M:Mem) (B:Nat) (o:Oper) (sl:ax) (R:fa->df) (rv:fa->ad):Prop:=
 o.guard=none/\∀(a:Act) (w:aG) (rL:Act->aG->Prop) (Q:Exit->Act->aG->Prop),(∀x:Operand,bL (eQ .nil sl x)=true->a.eval x=bb (eQ .nil sl x))->(∀b o,M b=some o->w.heap[b]? =some o)->B<=w.heap.size->
   (∀y w',(R y).ok (a7 w')->(∀b,(R y).pH b->w.heap.size<=b)->cO w.heap.size w w'->rL (a.put o.dst (rv y)) w')->Oper.wpIn (Fr none) 0 P o a w rL Q
theorem Wr {P:bB} {N m:Nat} {c2:List Nat} {ops:Array Oper} {dH:ax} {A:bx}:∀(l:List Oper) (i0:Nat) (a8 dC:List ad),a8.length=i0->Ej P N m c2 ops dH A l i0 a8=some dC->
  dC.length=a8.length+l.length/\dC.take a8.length=a8/\∀i o,l[i]? =some o->c2.contains (i0+i)=false->∃sl,iu N ops (λj=>(dC.take (a8.length+i)).getD j c3) (needs ops m o) dH=some sl/\y9 P (eQ .nil sl) A o=some (dC.getD (a8.length+i) c3)
 |[],i0,a8,dC,_,h=>by
  cases h;exact⟨by simp,by simp,λi o ak=>by simp at ak⟩
 |o::r,i0,a8,dC,rM,h=>by
  unfold Ej at h;have go:∀v,(c2.contains i0=false->∃sl,iu N ops (λj=>a8.getD j c3) (needs ops m o) dH=some sl/\y9 P (eQ .nil sl) A o=some v)->Ej P N m c2 ops dH A r (i0+1) (a8++[v])=some dC->
    dC.length=a8.length+(o::r).length/\dC.take a8.length=a8/\∀i o',(o::r)[i]? =some o'->c2.contains (i0+i)=false->∃sl,iu N ops (λj=>(dC.take (a8.length+i)).getD j c3) (needs ops m o') dH=some sl/\y9 P (eQ .nil sl) A o'=some (dC.getD (a8.length+i) c3):=by
   intro v aR h;obtain⟨ah,aH,ck⟩:=Wr r (i0+1) (a8++[v]) dC (by simp [rM]) h;have hlen:(a8++[v]).length=a8.length+1:=by simp
   rw[hlen] at ah aH;have vn:dC.take a8.length=a8:=by
    have:=congrArg (List.take a8.length) aH;rw[List.take_take,Nat.min_eq_left aj] at this;simpa using this
   refine⟨by simp;omega,vn,?_⟩;intro i o' ak
   match i with
   |0=>
    simp only [List.getElem?_cons_zero,dL] at ak;subst ak;simp only [Nat.add_zero];rw[vn];have hz:dC.getD a8.length c3=v:=by
     have:=congrArg (λl=>l[a8.length]?) aH;simp at this;rw[eP,this];rfl
    rw[hz];exact aR
   |i+1=>
    have:=ck i o' (by simpa using ak);rw[hlen] at this;rw[show a8.length+(i+1)=a8.length+1+i by omega,show i0+(i+1)=i0+1+i by omega];exact this
  cases aA:c2.contains i0 with
  |true=>
   rw[aA,cN] at h;exact go c3 (λae=>by rw[aA] at ae;cases ae) h
  |false=>
   rw[aA,fI] at h;split at h
   ·rename_i sl hg
    split at h
    ·rename_i v aR
     exact go v (λ_=>⟨sl,hg,aR⟩) h
    ·cases h
   ·cases h
structure w6 [bp] (N:Nat) (ds:List Deferred) (ops:Array Oper) (m:Nat) (c2:List Nat) (a8:List ad) (dH:ax) (j':aG) (φ:cD) (R:Nat->fa->df) (rv:Nat->fa->ad) (ys:Nat->fa) (listed:Array Bool) (a:Act) (w:aG):Prop where
 size:listed.size=ops.size
 down:∀i j,listed.getD i false=true->direct ops i j=true->listed.getD j false=true
 si:∀i,m<=i->listed.getD i false=false
 low:cO j'.heap.size j' w
 defers:a.defers=ds
 nh:a.tmps.size=N
 slot:∀t v,dH.get t=some v->aM φ v (a.tmps.getD t undef)
 Po:∀j t,j<m->listed.getD j false=true->c2.contains j=false->gv ops j=some t->aM φ (a8.getD j c3) (a.tmps.getD t undef)
 AH:∀j t,j<m->listed.getD j false=true->c2.contains j=true->gv ops j=some t->a.tmps.getD t undef=rv j (ys j)
 ok:∀j,j<m->listed.getD j false=true->c2.contains j=true->(R j (ys j)).ok (a7 w)/\∀b,(R j (ys j)).pH b->j'.heap.size<=b
 two:∀i j,i<m->j<m->i≠j->listed.getD i false=true->listed.getD j false=true->c2.contains i=true->c2.contains j=true->∀b,(R i (ys i)).pH b->¬(R j (ys j)).pH b
section
variable [bp] {N:Nat} {ds:List Deferred} {ops:Array Oper} {m:Nat} {c2:List Nat} {a8:List ad} {dH:ax} {j' w:aG} {φ:cD} {R:Nat->fa->df} {rv:Nat->fa->ad} {ys:Nat->fa} {listed:Array Bool} {a:Act}
omit [bp] in
theorem y_ {a:Act} {d:Option Tmp} {v':ad} (t:Tmp) (bw:d≠some t):(a.put d v').tmps.getD t undef=a.tmps.getD t undef:=by
 rcases Nat.lt_or_ge t a.tmps.size with lO|lO
 ·rw[Act.ui _ _ _ _ lO,aV bw]
 ·simp [gd,Array.getElem?_eq_none lO,Array.getElem?_eq_none (show (a.put d v').tmps.size<=t by rw[Act.size_put];exact lO)]
theorem w6.y8 (h:w6 N ds ops m c2 a8 dH j' φ R rv ys listed a w) {lb:Nat->ad} {ks:List Nat} {sl:ax} (Fo:∀j∈ks,j<m/\listed.getD j false=true/\c2.contains j=false/\lb j=a8.getD j c3) (hp:iu N ops lb ks dH=some sl):gR N ds φ sl a:=
 ⟨h.nh,h.defers,λt v aR=>by
   rcases pB _ _ _ hp t v aR with ⟨j,aq,bu,rfl⟩|⟨_,bg⟩
   ·obtain⟨af,ah,aH,ck⟩:=Fo j aq
    rw[ck];exact h.Po j t af ah aH bu
   ·exact h.slot t v bg⟩
theorem w6.afu (h:w6 N ds ops m c2 a8 dH j' φ R rv ys listed a w) {i:Nat} {o:Oper} {nC:ax} (iP:iu N ops (λ_=>c3) (List.range m) nC=some dH) (ak:i<m) (hm:m<=ops.size) (bW:ops[i]? =some o) (mP:c2.contains i=false)
  (vp:∀k,direct ops i k=true->listed.getD k false=true) (lN:∀i j,i<m->j<m->i≠j->∀t,gv ops i=some t->gv ops j≠some t) (c_:∀i t,i<m->gv ops i=some t->t<N)
  {v':ad} (aR:aM φ (a8.getD i c3) v'):w6 N ds ops m c2 a8 dH j' φ R rv ys (listed.setIfInBounds i true) (a.put o.dst v') w:=by
 have mh:gv ops i=o.dst:=by simp [gv,bW]
 have gn:=GI (listed:=listed) (i:=i) (by have:=h.size;omega);have KH:∀{j},c2.contains j=true->j≠i:=λ{j} aq e=>by rw[e,mP] at aq;cases aq
 refine⟨by simpa using h.size,?_,?_,h.low,by rw[Act.Dv];exact h.defers,by rw[Act.size_put];exact h.nh,?_,?_,?_,?_,?_⟩
 ·intro j k aq bu
  rw[gn] at aq ⊢;rcases aq with rfl|aq
  ·exact .inr (vp k bu)
  ·exact .inr (h.down j k aq bu)
 ·intro j aq
  rw[getD_set_ne false aj];exact h.si j aq
 ·intro t v q3
  by_cases sn:o.dst=some t
  ·rcases pB _ _ _ iP t v q3 with ⟨j,aq,bu,rfl⟩|⟨yJ,_⟩
   ·exact .c3 _
   ·exact absurd (mh.trans sn) (yJ i (List.mem_range.2 ak))
  ·rw[y_ t sn]
   exact h.slot t v q3
 ·intro j t aq az aw bu
  by_cases eR:j=i
  ·subst eR
   rw[Act.ui _ _ _ _ (by rw[h.nh];exact c_ j t aq bu),aP (mh.symm.trans bu)];exact aR
  ·rw[y_ t λae=>lN i j ak aq (Ne.symm eR) t (mh.trans ae) bu]
   exact h.Po j t aq (((gn j).1 az).resolve_left eR) aw bu
 ·intro j t aq az aw bu
  have eR:=KH aw;rw[y_ t λae=>lN i j ak aq (Ne.symm eR) t (mh.trans ae) bu];exact h.AH j t aq (((gn j).1 az).resolve_left eR) aw bu
 ·intro j aq az aw
  exact h.ok j aq (((gn j).1 az).resolve_left (KH aw)) aw
 ·intro j k aq ao dU az AI aw kx
  exact h.two j k aq ao dU (((gn j).1 az).resolve_left (KH aw)) (((gn k).1 AI).resolve_left (KH kx)) aw kx
theorem w6.afv (h:w6 N ds ops m c2 a8 dH j' φ R rv ys listed a w) {i:Nat} {o:Oper} {nC:ax} (iP:iu N ops (λ_=>c3) (List.range m) nC=some dH) (ak:i<m) (hm:m<=ops.size) (bW:ops[i]? =some o) (mP:c2.contains i=true) (sm:listed.getD i false=false)
  (vp:∀k,direct ops i k=true->listed.getD k false=true) (lN:∀i j,i<m->j<m->i≠j->∀t,gv ops i=some t->gv ops j≠some t) (c_:∀i t,i<m->gv ops i=some t->t<N)
  {y:fa} {w':aG} (me:(R i y).ok (a7 w')) (bn:∀b,(R i y).pH b->w.heap.size<=b) (n3:cO w.heap.size w w'):
  w6 N ds ops m c2 a8 dH j' φ R rv (λj=>if j=i then y else ys j) (listed.setIfInBounds i true) (a.put o.dst (rv i y)) w':=by
 have mh:gv ops i=o.dst:=by simp [gv,bW]
 have gn:=GI (listed:=listed) (i:=i) (by have:=h.size;omega);have Cq:∀{j},j≠i->(if j=i then y else ys j)=ys j:=λ{j} aq=>aV aq
 refine⟨by simpa using h.size,?_,?_,h.low.trans (n3.mono h.low.size),by rw[Act.Dv];exact h.defers,by rw[Act.size_put];exact h.nh,?_,?_,?_,?_,?_⟩
 ·intro j k aq bu
  rw[gn] at aq ⊢;rcases aq with rfl|aq
  ·exact .inr (vp k bu)
  ·exact .inr (h.down j k aq bu)
 ·intro j aq
  rw[getD_set_ne false aj];exact h.si j aq
 ·intro t v q3
  by_cases sn:o.dst=some t
  ·rcases pB _ _ _ iP t v q3 with ⟨j,aq,bu,rfl⟩|⟨yJ,_⟩
   ·exact .c3 _
   ·exact absurd (mh.trans sn) (yJ i (List.mem_range.2 ak))
  ·rw[y_ t sn]
   exact h.slot t v q3
 ·intro j t aq az aw bu
  have eR:j≠i:=λe=>by rw[e,mP] at aw;cases aw
  rw[y_ t λae=>lN i j ak aq (Ne.symm eR) t (mh.trans ae) bu];exact h.Po j t aq (((gn j).1 az).resolve_left eR) aw bu
 ·intro j t aq az aw bu
  by_cases eR:j=i
  ·subst eR
   rw[Act.ui _ _ _ _ (by rw[h.nh];exact c_ j t aq bu),aP (mh.symm.trans bu),aP rfl]
  ·rw[y_ t λae=>lN i j ak aq (Ne.symm eR) t (mh.trans ae) bu,Cq eR]
   exact h.AH j t aq (((gn j).1 az).resolve_left eR) aw bu
 ·intro j aq az aw
  by_cases eR:j=i
  ·subst eR
   rw[aP rfl];exact⟨me,λb ai=>Nat.le_trans h.low.size (bn b ai)⟩
  ·rw[Cq eR]
   obtain⟨q1,aI⟩:=h.ok j aq (((gn j).1 az).resolve_left eR) aw;refine⟨(R j (ys j)).loc _ _ (λb o _ ai=> ?_) q1,aI⟩;rw[show a7 w' b=a7 w b from n3.block b (Array.getElem?_eq_some_iff.1 ai).1];exact ai
 ·intro j k aq ao dU az AI aw kx b ai jb
  have old:∀j,j<m->j≠i->(listed.setIfInBounds i true).getD j false=true->c2.contains j=true->(R j (ys j)).pH b->¬w.heap.size<=b:=λj aq eR az aw ai ay=>by
   have:=(R j (ys j)).hM _ (h.ok j aq (((gn j).1 az).resolve_left eR) aw).1 b ai;exact this (Array.getElem?_eq_none_iff.2 ay)
  by_cases eR:j=i
  ·have ur:k≠i:=λe=>dU (eR.trans e.symm)
   rw[Cq ur] at jb;rw[aP eR] at ai;rw[eR] at ai;exact old k ao ur AI kx jb (bn b ai)
  ·rw[Cq eR] at ai
   by_cases ur:k=i
   ·rw[aP ur,ur] at jb
    exact old j aq eR az aw ai (bn b jb)
   ·rw[Cq ur] at jb
    exact h.two j k aq ao dU (((gn j).1 az).resolve_left eR) (((gn k).1 AI).resolve_left ur) aw kx b ai jb
end
theorem Here.know [bp] [dJ] {N B:Nat} {s:c6} {w0 w:aG} {a:Act} {eX:ax} {d:Option Tmp} {v:ad} (ae:Here N s B w0 a w) (hp:bL v=true) (bw:∀t,d=some t->a.tmps.getD t undef=bb v) (gn:e8 N s.sl d v=some eX):Here N {s with sl:=eX} B w0 a w:=by
 obtain⟨⟨φ,ds,af,ah,aH⟩,dd,dM⟩:=ae;refine⟨⟨φ,ds,af,⟨ah.size,ah.defers,λt u hu=> ?_⟩,aH⟩,dd,dM⟩;cases d with
 |none=>cases gn;exact ah.get t u hu
 |some d=>
  have:=pB (N:=N) (ops:= #[{(default:Oper) with dst:=some d}]) (lb:=λ_=>v) [0] s.sl eX (by
   unfold iu;rw[show gv #[{(default:Oper) with dst:=some d}] 0=some d from rfl,gn]
   rfl) t u hu
  rcases this with ⟨j,aq,bu,rfl⟩|⟨_,bg⟩
  ·rw[List.mem_singleton.1 aq] at bu
   rw[bw t bu];exact aM.wD φ u hp
  ·exact ah.get t u bg
theorem Here.Pp [bp] [dJ] {N B:Nat} {w0 w:aG} {a:Act} {ops:Array Oper} {ms:List Nat} {A:bx}:∀(eB:List (Nat×ad)) (sl eX:ax),Here N {sl,ms,A} B w0 a w->(∀p∈eB,bL p.2=true/\∀t,gv ops p.1=some t->a.tmps.getD t undef=bb p.2)->vG N ops eB sl=some eX->Here N {sl:=eX,ms,A} B w0 a w
 |[],sl,eX,ae,_,h=>by cases h;exact ae
 |p::r,sl,eX,ae,hp,h=>by
  unfold vG at h;split at h
  ·rename_i s1 ay
   obtain⟨af,ah⟩:=hp p (by simp);exact Here.Pp r s1 eX (Here.know ae af ah ay) (λq cy=>hp q (by simp [cy])) h
  ·cases h
theorem afw [dJ] {P:bB} {N B:Nat} {w0:aG} {Q:Exit->Act->aG->Prop} {M:Mem} {bM:List ad} {Y:Type} {bC:Y->List ad} {o:Option dk} {m:Nat} {eB:List (Nat×ad)} {R:Nat->fa->df} {rv:Nat->fa->ad} {pr:Nat->Y->fa} {mk:(Nat->fa)->Y} {gp e6:ax} {c7:List bG} {dQ:gh}
  (et:P.follows .mixedOrders=true) (h:(GK P N m (eB.map (·.1)) o).isSome=true) (hb:(eB.map (·.1)).Nodup)
  (mP:∀i∈eB.map (·.1),∃op,(hl o)[i]? =some op/\ @x_ (bc M bM) P M B op (sD P N m (eB.map (·.1)) o i) (R i) (rv i))
  (vq:∀ys j,j∈eB.map (·.1)->pr j (mk ys)=ys j) (fg:bF (GM P N m (eB.map (·.1)) o) gp c7=some dQ) (iQ:vG N (hl o) eB gp=some e6) (gH:eB.all (λp=>bL p.2)=true)
  (dc:∀y aS p,p∈eB-> @bb (bc aS (bC y)) p.2=rv p.1 (pr p.1 y)) (hm:∀y aS,hD (bc M bM) (bc aS (bC y)) dQ)
  (rest:∀y aS,dw M [] aS (eB.map λp=>R p.1 (pr p.1 y))->∀bR w,@Here (bc aS (bC y)) _ N {sl:=e6,ms:=[],A:=cS c7} B w0 bR w->wpListIn (Fr none) 0 P (hl o) (fF P (gi o) Q) (y' m o) bR w)
  (aT:dJ.jD<=c7.length:=by first|exact Nat.zero_le _|exact h3 rfl) (aA:jr (b0 o).A c7 0:=by exact jF rfl): @ia (bc M bM) _ P N B w0 Q o:=by
 letI:=bc M bM;obtain⟨⟨dH,a8,GL⟩,bu⟩:=Option.isSome_iff_exists.1 h;have c8:=bu;unfold GK at bu;split at bu
 ·rename_i id ops s ks
  cases ai:(uk ops [] m N&&((List.range m).all λi=>match ops[i]? with|some o=>(needs ops m o).all λj=> !(eB.map (·.1)).contains j|none=>false)&&(eB.map (·.1)).all (λj=>Nat.blt j m)) with
  |false=>rw[ai] at bu;cases bu
  |true=>
   rw[ai,cN] at bu;simp only [fy] at ai;obtain⟨⟨iB,Pq⟩,fZ⟩:=ai;have fZ:∀j∈eB.map (·.1),j<m:=λj aq=>Nat.blt_eq.mp (List.all_eq_true.1 fZ j aq)
   obtain⟨zZ,xV,lN,c_,qW,ni,tu⟩:=Bz iB;have Pq:∀i o,i<m->ops[i]? =some o->∀j∈needs ops m o,(eB.map (·.1)).contains j=false:=λi o ak bW j aq=>by
    have:=List.all_eq_true.1 Pq i (List.mem_range.2 ak);rw[bW] at this;simpa using List.all_eq_true.1 this j aq
   split at bu
   ·rename_i qf iP
    split at bu
    ·rename_i dC n5
     split at bu
     ·rename_i GN qb
      simp only [dL,Prod.mk.injEq] at bu;obtain⟨rfl,rfl,rfl⟩:=bu;have Eg:∀i o,i<m->ops[i]? =some o->(eB.map (·.1)).contains i=false->∃sl,iu N ops (λj=>(dC.take i).getD j c3) (needs ops m o) qf=some sl/\y9 P (eQ .nil sl) s.A o=some (dC.getD i c3):=by
       intro i o ak bW aw;have:=(Wr _ 0 [] _ rfl n5).2.2 i o (by rw[List.getElem?_take,aP ak];simpa using bW) (by rw[Nat.zero_add];exact aw);simpa using this
      refine⟨_,rfl,λa w ae=> ?_⟩;have cy:Here N s B w0 a {w with drawn:=w.drawn+1}:=ae.quiet ⟨⟨rfl,rfl,rfl,c4 _,λ_ _=>rfl⟩,c4 _⟩;refine wpIn_region_any et ?_;have za:∀i o,M i=some o->({w with drawn:=w.drawn+1}:aG).heap[i]? =some o:=cy.qC;generalize ({w with drawn:=w.drawn+1}:aG)=j' at cy za;obtain⟨⟨φ,ds,q1,aI,bS,fo,iK⟩,mK,p1⟩:=cy;have wL:∀{o:Oper} {a:Act},o.guard=none->Region.wanted o (yielded ops a.tmps)=true:=λ{o a} bg=>by unfold Region.wanted;rw[bg]
      have x3:∀{w:aG},cO j'.heap.size j' w->∀b e,φ b=some e->w.heap[e.bJ]? =j'.heap[e.bJ]? :=λ{w} az b e ai=>by
       obtain⟨k,_,_,q⟩:=bS.fi b e ai;exact az.block e.bJ (gL.lt q)
      have sq:∀{ys:Nat->fa} {listed:Array Bool} {a:Act} {w:aG},w6 N ds ops m (eB.map (·.1)) dC qf j' φ R rv ys listed a w->¬(∀i,i<m->listed.getD i false=true)->Region.ready .any ops listed≠[]/\∀i∈Region.ready .any ops listed,i<m/\listed.getD i false=false/\i<ops.size:=by
       intro ys listed a w aK kt;obtain⟨i0,rM⟩:=Classical.not_forall.1 kt;obtain⟨z7,pD⟩:=Classical.not_imp.1 rM;have pD:listed.getD i0 false=false:=by simpa using pD
       refine⟨?_,λi ak=> ?_⟩
       ·have key:∀n i,i<n->i<m->listed.getD i false=false->∃k,k∈Region.ready .any ops listed:=by
         intro n
         induction n with
         |zero=>intro i ak;omega
         |succ n BC=>
          intro i ak j6 BD;by_cases hp:∀k,direct ops i k=true->listed.getD k false=true
          ·refine⟨i,mem_ready.2 ⟨by rw[pA (by have:=aK.size;omega)];exact BD,ops[i]'(by omega),Array.getElem?_eq_getElem _,λe he ai=>hp _ ?_⟩⟩
           have bW:ops[i]? =some (ops[i]'(by omega)):=Array.getElem?_eq_getElem _;simp only [direct,bW];exact Array.any_eq_true'.2 ⟨e,he,by simp [ai]⟩
          ·obtain⟨k,ao⟩:=Classical.not_forall.1 hp
           obtain⟨bu,wJ⟩:=Classical.not_imp.1 ao;have:=ni i k aj bu;exact BC k aj aj (by simpa using wJ)
        obtain⟨k,ao⟩:=key (i0+1) i0 aj z7 pD;intro h;rw[h] at ao;cases ao
       ·obtain⟨sm,o,bW,_⟩:=mem_ready.1 ak
        have ko:i<ops.size:=(Array.getElem?_eq_some_iff.1 bW).1;have p6:listed.getD i false=false:=by rw[<-pA (by have:=aK.size;omega)];exact sm
        refine⟨?_,p6,ko⟩;rcases Nat.lt_or_ge i m with h|h
        ·exact h
        ·exfalso
         rcases tu i i0 ko h aj with ⟨wK,_⟩|cG
         ·cases wK
         ·have:=cG listed aK.down (n_ ak)
          rw[pD] at this;cases this
      have tail:∀(bN:Nat) (listed:Array Bool) (a:Act) (w:aG) (ys:Nat->fa),w6 N ds ops m (eB.map (·.1)) dC qf j' φ R rv ys listed a w->p5 listed<=bN->(∀i,i<m->listed.getD i false=true)->wpAnyIn (Fr none) 0 P .any ops (fF P ks Q) bN listed a w:=by
       intro bN listed a w ys aK bn kt;refine Ju ni (λi j ak aq eR=>(tu i j ak aj eR).resolve_left aj) bN m listed a w (c4 _) aK.size (λi=> ?_) bn ?_
       ·by_cases ak:i<m
        ·rw[kt i ak];simp;omega
        ·rw[aK.si i aj];simp;omega
       ·obtain⟨t1,t2⟩:=Vl (B:=B) (M:=M) (S:=λ_=>False) (w:=j') (w':=w) za (λ_ h=>h.elim) ⟨aK.low.1.os,aK.low.1.tape,aK.low.1.output⟩ aK.low.size (λi ak _=>aK.low.block i ak)
        have p8:gR N ds φ GN a:=aK.y8 (λj aq=>by
         obtain⟨af,ah⟩:=List.mem_filter.1 aq
         exact⟨List.mem_range.1 af,kt j (List.mem_range.1 af),by simpa using ah,rfl⟩) qb
        have eA:GM P N m (eB.map (·.1)) (some (.draw id ops s ks))={s with sl:=GN}:=by
         unfold GM;rw[c8];rfl
        have oF:Here N (GM P N m (eB.map (·.1)) (some (.draw id ops s ks))) B w0 a j':=by
         rw[eA];exact⟨⟨φ,ds,q1,p8,bS,fo,iK⟩,mK,p1⟩
        have kc:=Here.Ot (vals':=bC (mk ys)) fg (hm (mk ys) _) t1 aT (by rw[eA];exact aA) oF;have kQ:dw M [] (y1 B M j' w) (eB.map λp=>R p.1 (pr p.1 (mk ys))):=by
         have n4:∀(i:Nat) (S:df),(eB.map λp=>R p.1 (pr p.1 (mk ys)))[i]? =some S->∃p,eB[i]? =some p/\S=R p.1 (ys p.1):=λi S ak=>by
          rw[List.getElem?_map] at ak;obtain⟨p,hp,rfl⟩:=Option.map_eq_some_iff.1 ak;exact⟨p,hp,by rw[vq ys p.1 (List.mem_map.2 ⟨p,List.mem_of_getElem? hp,rfl⟩)]⟩
         have oX:∀{i:Nat} {p:Nat×ad},eB[i]? =some p->p.1∈eB.map (·.1):=λ{i p} hp=>List.mem_map.2 ⟨p,List.mem_of_getElem? hp,rfl⟩
         have Ws:∀{i:Nat} {p:Nat×ad},eB[i]? =some p->(R p.1 (ys p.1)).ok (a7 w)/\∀b,(R p.1 (ys p.1)).pH b->j'.heap.size<=b:=λ{i p} hp=>aK.ok p.1 (fZ _ (oX hp)) (kt _ (fZ _ (oX hp))) (by simpa using List.mem_of_getElem? hp |> λh=>(⟨p.2,h⟩:∃x,(p.1,x)∈eB))
         refine⟨⟨λi S ak=> ?_,λi j S T dU ak aq b ai jb=> ?_⟩,λi o ak _=>t2 i o ak (λh=>h),λb ai=> ?_⟩
         ·obtain⟨p,hp,rfl⟩:=n4 i S ak
          obtain⟨c9,eF⟩:=Ws hp;refine(R p.1 (ys p.1)).loc _ _ (λb o ai bW=> ?_) c9;rw[Ou (.inr (.inl (eF b ai)))];exact bW
         ·obtain⟨p,hp,rfl⟩:=n4 i S ak
          obtain⟨hY,fS,rfl⟩:=n4 j T aq;have afx:p.1≠hY.1:=λe=>dU (by
           have bs:(eB.map (·.1))[i]? =some p.1:=by rw[List.getElem?_map,hp];rfl
           have cw:(eB.map (·.1))[j]? =some p.1:=by rw[List.getElem?_map,fS,e];rfl
           exact(List.getElem?_inj (List.getElem?_eq_some_iff.1 bs).1 hb).1 (bs.trans cw.symm))
          have fP:(eB.map (·.1)).contains p.1=true:=by simpa using (⟨p.2,List.mem_of_getElem? hp⟩:∃x,(p.1,x)∈eB)
          have ew:(eB.map (·.1)).contains hY.1=true:=by simpa using (⟨hY.2,List.mem_of_getElem? fS⟩:∃x,(hY.1,x)∈eB)
          exact aK.two p.1 hY.1 (fZ _ (oX hp)) (fZ _ (oX fS)) afx (kt _ (fZ _ (oX hp))) (kt _ (fZ _ (oX fS))) fP ew b ai jb
         ·obtain⟨i,S,ak,ai⟩:=ai
          obtain⟨p,hp,rfl⟩:=n4 i S ak
          right
          cases KI:M b with
          |none=>rfl
          |some o=>
           have af:=(Array.getElem?_eq_some_iff.1 (za b o KI)).1;have ah:=(Ws hp).2 b ai;omega
        have ao:∀p∈eB,bL p.2=true/\∀t,gv ops p.1=some t->a.tmps.getD t undef= @bb (bc (y1 B M j' w) (bC (mk ys))) p.2:=λp hp=>⟨List.all_eq_true.1 gH p hp,λt bw=>by
         have oX:p.1∈eB.map (·.1):=List.mem_map.2 ⟨p,hp,rfl⟩;rw[dc (mk ys) _ p hp,vq ys p.1 oX]
         exact aK.AH p.1 t (fZ _ oX) (kt _ (fZ _ oX)) (by simpa using (⟨p.2,hp⟩:∃x,(p.1,x)∈eB)) bw⟩
        exact rest (mk ys) _ kQ a w (@Here.Pp (bc (y1 B M j' w) (bC (mk ys))) _ N B w0 w a ops [] (cS c7) eB gp e6 kc ao iQ)
      have main:∀(bN:Nat) (listed:Array Bool) (a:Act) (w:aG) (ys:Nat->fa),w6 N ds ops m (eB.map (·.1)) dC qf j' φ R rv ys listed a w->p5 listed<=bN->wpAnyIn (Fr none) 0 P .any ops (fF P ks Q) bN listed a w:=by
       intro bN
       induction bN with
       |zero=>
        intro listed a w ys aK bn;refine tail 0 listed a w ys aK bn λi ak=> ?_
        cases h:listed.getD i false with
        |true=>rfl
        |false=>
         exfalso;have:=uj (i:=i) (listed:=listed) (by have:=aK.size;omega) (by rw[pA (by have:=aK.size;omega)];exact h);omega
       |succ bN eJ=>
        intro listed a w ys aK bn;by_cases kt:∀i,i<m->listed.getD i false=true
        ·exact tail (bN+1) listed a w ys aK bn kt
        ·obtain⟨la,sr⟩:=sq aK kt
         refine⟨λbd=>absurd bd la,λi ak=> ?_⟩;obtain⟨j6,p6,ko⟩:=sr i ak;have bW:ops[i]? =some ops[i]:=Array.getElem?_eq_getElem ko;have Np:=uj (i:=i) (listed:=listed) (by have:=aK.size;omega) (mem_ready.1 ak).1;have GO:∀{lb:Nat->ad} {sl:ax},(∀j,j<i->lb j=dC.getD j c3)->iu N ops lb (needs ops m ops[i]) qf=some sl->gR N ds φ sl a:=λ{lb sl} wF hg=>aK.y8 (λj aq=>by
          have pE:=qW i _ j6 bW j aq;have eR:=ni i j ko pE
          exact⟨aj,n_ ak j pE,Pq i _ j6 bW j aq,wF j eR⟩) hg
         unfold wpOpIn;simp only [bW];cases aw:(eB.map (·.1)).contains i with
         |false=>
          obtain⟨sl,hg,aR⟩:=Eg i _ j6 bW aw;have p8:=GO (λj eR=>by simp only [eP,List.getElem?_take,aP eR]) hg;obtain⟨v',g1,g2,g3,g4⟩:=Wq (w2:=w) bS (x3 aK.low) (h_ (jE φ) p8.get) aR;rw[aP (wL g3)];refine⟨λ_ _=>trivial,?_⟩;rw[Oper.semAt_eq _ _ _ g4,g1,Oper.uponIn_value];exact eJ _ _ w ys (aK.afu iP j6 zZ bW aw (n_ ak) lN c_ g2) aj
         |true=>
          have n4:i∈eB.map (·.1):=by simpa using aw
          obtain⟨op,eb,bg,GQ⟩:=mP i n4;have GR:op=ops[i]:=by
           have e:(hl (some (.draw id ops s ks)))[i]? =ops[i]? :=rfl;rw[e,bW] at eb;exact(Option.some.inj eb).symm
          subst GR;rw[aP (wL bg)];refine GQ a w _ _ (λx w5=> ?_) (λb o ai=> ?_) (Nat.le_trans p1 aK.low.size) λy w' c9 eF hx=> ?_
          ·cases rh:iu N ops (λj=>dC.getD j c3) (needs ops m ops[i]) qf with
           |some sl=>
            have e:sD P N m (eB.map (·.1)) (some (.draw id ops s ks)) i=sl:=by
             unfold sD;rw[c8,show (hl (some (.draw id ops s ks)))[i]? =some ops[i] from bW];show (match iu N ops (λj=>dC.getD j c3) (needs ops m ops[i]) qf with|some sl=>sl|none=> .nil)=sl;rw[rh]
            rw[e] at w5 ⊢;exact aM.kr _ w5 (h_ (jE φ) (GO (λ_ _=>rfl) rh).get x)
           |none=>
            have e:sD P N m (eB.map (·.1)) (some (.draw id ops s ks)) i= .nil:=by
             unfold sD;rw[c8,show (hl (some (.draw id ops s ks)))[i]? =some ops[i] from bW];show (match iu N ops (λj=>dC.getD j c3) (needs ops m ops[i]) qf with|some sl=>sl|none=> .nil)= .nil;rw[rh]
            rw[e] at w5 ⊢;exact aM.kr (φ:=φ) _ w5 (h_ (jE φ) (λt v h=>by cases h) x)
          ·have af:=za b o ai
           rw[aK.low.block b (Array.getElem?_eq_some_iff.1 af).1];exact af
          ·exact eJ _ _ w' _ (aK.afv iP j6 zZ bW aw p6 (n_ ak) lN c_ c9 eF hx) aj
      have bn:∀i,(Array.replicate ops.size false).getD i false=false:=λi=>by
       rw[gd,Array.getElem?_replicate];split<;>rfl
      refine main ops.size _ a j' (λ_=>(none,0)) ⟨by simp,λi j ak=>absurd ak (by rw[bn];simp),λi _=>bn i,⟨⟨rfl,rfl,rfl,c4 _,λ_ _=>rfl⟩,c4 _⟩,aI.defers,aI.size,λt v aR=> ?_,λj t _ az=>absurd az (by rw[bn];simp),λj t _ az=>absurd az (by rw[bn];simp),λj _ az=>absurd az (by rw[bn];simp),λi j _ _ _ az=>absurd az (by rw[bn];simp)⟩ ?_
      ·rcases pB _ _ _ iP t v aR with ⟨j,aq,bu,rfl⟩|⟨_,bg⟩
       ·exact .c3 _
       ·exact aI.get t v bg
      ·unfold p5
       exact Nat.le_trans List.count_le_length (by simp)
     ·cases bu
    ·cases bu
   ·cases bu
 ·cases bu
end a1
namespace a1
def GU (P:bB) (N m:Nat) (c2:List Nat) (o:Option dk) (i:Nat):Option (FuncId×List ad):=
 match (hl o)[i]? with
 |some op=>match op.guard,op.op with
  |none,.call c=>match c.callee with
   | .value (.func f)=>bif enters P f then some (f,c.args.toList.map (eQ .nil (sD P N m c2 o i))) else none
   |_=>none
  |_,_=>none
 |none=>none
def KJ (P:bB) (N m:Nat) (c2:List Nat) (o:Option dk) (i:Nat):Option (bq×ad):=
 match (hl o)[i]? with
 |some op=>match op.guard,op.op with
  |none,.makeSlice t uD wU=>bif ln (eQ .nil (sD P N m c2 o i) uD) (eQ .nil (sD P N m c2 o i) wU) then some (t,eQ .nil (sD P N m c2 o i) uD) else none
  |_,_=>none
 |none=>none
theorem Pr [bp] {sl:ax} {a:Act} (p7:∀x:Operand,bL (eQ .nil sl x)=true->a.eval x=bb (eQ .nil sl x)):∀(l:List Operand),fH (l.map (eQ .nil sl))=true->l.map a.eval=fl (l.map (eQ .nil sl))
 |[],_=>rfl
 |x::l,h=>by
  simp only [List.map_cons,fH,fy] at h;simp only [List.map_cons,fl];rw[p7 x h.1,Pr p7 l h.2]
theorem x_.arr [bp] {α:Type} {P:bB} {M:Mem} {B N m:Nat} {c2:List Nat} {o:Option dk} {i:Nat} {f:FuncId} {args:List ad} {e:bq} {k:Nat} {enc:α->List ad} {l:List α} {F:ad->ad} (h:GU P N m c2 o i=some (f,args)) (hp:fH args=true)
  (ez:∀w,(∀i o,M i=some o->w.heap[i]? =some o)->B<=w.heap.size->Calls P f ⟨fl args⟩ w λe' w'=>(∃a c,e'= .returned (F (.slice a l.length c))/\eI w.heap.size (a7 w') e k enc (.slice a l.length c) l)/\cO w.heap.size w w'):
  ∃op,(hl o)[i]? =some op/\x_ P M B op (sD P N m c2 o i) (λy=>fY e k enc (.slice y.1 l.length y.2) l) (λy=>F (.slice y.1 l.length y.2)):=by
 unfold GU at h;split at h
 ·rename_i op eb
  split at h
  ·rename_i c bg w7
   split at h
   ·rename_i nB q2
    cases he:enters P nB with
    |false=>rw[he] at h;cases h
    |true=>
     rw[he,cN] at h;simp only [dL,Prod.mk.injEq] at h;obtain⟨rfl,rfl⟩:=h;refine⟨op,eb,bg,λa w rL Q p7 gk cM d_=> ?_⟩;have hW:c.args.map a.eval=⟨fl (c.args.toList.map (eQ .nil (sD P N m c2 o i)))⟩:=by
      have:=Pr p7 c.args.toList hp;rw[<-this];apply Array.ext';simp
     have ho:(execOp a.eval op).run P w= .ok (.enter nB ⟨fl (c.args.toList.map (eQ .nil (sD P N m c2 o i)))⟩) w:=by
      unfold execOp;rw[w7];simp only;refine ei (a:={target:= .fn (.func nB) #[],args:= #[]++c.args.map a.eval}) (by unfold resolve;rw[q2];rfl) ?_;simp only [Array.empty_append,hW];show (callFunc nB (_++ #[])).run P w=_;rw[Array.append_empty];exact kM (FA he _) w
     have hb:∀c',op.op≠.defer c':=λc' h=>by rw[w7] at h;cases h
     refine⟨λ_ _=>trivial,?_⟩;rw[Oper.semAt_eq _ _ _ hb,ho,Oper.uponIn_enter];refine⟨λh=>absurd h (by simp [Fr,Fence.wide]),?_⟩;refine CallsIn.mono (Du (ez w gk cM)) λe' w2 he=> ?_
     obtain⟨⟨h8,Vv,rfl,dR⟩,az⟩:=he;exact d_ (h8,Vv) w2 (Ch dR) (λb ai=>(dR.known b ai).2) az
   ·cases h
  ·cases h
 ·cases h
theorem x_.Wt [bp] {α:Type} {P:bB} {M:Mem} {B N m:Nat} {c2:List Nat} {o:Option dk} {i:Nat} {t e:bq} {k n bytes:Nat} {GV:TypeInfo} {z x:ad} {enc:α->List ad} {zr:α} {l':List α} (iM:l'=List.replicate n zr) (h:KJ P N m c2 o i=some (t,x))
  (bw:P.underlying t=some (.slice e)) (ak:P.info? e=some GV) (de:GV.zero=some z) (hH:GV.size=k) (nH:GV.bytes=bytes) (tk:z.cells.toList=enc zr) (ao:∀x,(enc x).length=k) (aw:bL x=true) (ex:bb x= .int .i64 (n:Nat)) (ad9:n<=1000000) (mN:n*bytes<=140737488355328) (ll:n*k<=16777216):
  ∃op,(hl o)[i]? =some op/\x_ P M B op (sD P N m c2 o i) (λy=>fY e k enc (.slice y.1 l'.length y.2) l') (λy=> .slice y.1 l'.length y.2):=by
 subst iM;unfold KJ at h;split at h
 ·rename_i op eb
  split at h
  ·rename_i fk uD wU bg w7
   cases heq:ln (eQ .nil (sD P N m c2 o i) uD) (eQ .nil (sD P N m c2 o i) wU) with
   |false=>rw[heq] at h;cases h
   |true=>
    rw[heq,cN] at h;have Gp:=mO _ _ heq;cases h;refine⟨op,eb,bg,λa w rL Q p7 gk cM d_=> ?_⟩;have uB:a.eval uD= .int .i64 (n:Nat):=(p7 uD aw).trans ex;have OL:a.eval wU= .int .i64 (n:Nat):=(p7 wU (by rw[<-Gp];exact aw)).trans (by rw[<-Gp];exact ex);subst nH;obtain⟨w',g1,g2,g3⟩:=run_makeSlice_full (P:=P) w w.heap.size t e GV z k bw ak de hH .i64 .i64 n ll (by rw[Nat.mul_comm];omega) (by simp [maxLen];omega) (c4 _);have ho:(execOp a.eval op).run P w= .ok (.value (.slice (some ⟨w.heap.size,0,none⟩) n n)) w':=by
     unfold execOp;rw[w7];simp only [uB,OL];show (do pure (Next.value (<-Instr.makeSlice t (.int .i64 (n:Nat)) (.int .i64 (n:Nat)))):Sem Next).run P w=_;simp only [Sem.run_bind,g1,Result.andThen_ok];rfl
    have hb:∀c',op.op≠.defer c':=λc' h=>by rw[w7] at h;cases h
    refine⟨λ_ _=>trivial,?_⟩;rw[Oper.semAt_eq _ _ _ hb,ho,Oper.uponIn_value];rw[Vz ao tk] at g2;have hlen:(List.replicate n zr).length=n:=nz;have dR:eI w.heap.size (a7 w') e k enc (.slice (some ⟨w.heap.size,0,none⟩) (List.replicate n zr).length n) (List.replicate n zr):=eI.N7 (w:=w') (by rw[hlen];exact g2);have:=d_ (some ⟨w.heap.size,0,none⟩,n) w' (Ch dR) (λb ai=>(dR.known b ai).2) ⟨⟨g3.os,g3.tape,g3.output,g3.size,λi ak=>g3.block i ak (by simp)⟩,c4 _⟩;rw[hlen] at this;exact this
  ·cases h
 ·cases h
theorem Ps {α:Type} {p:α->Prop}:∀x,x∈([]:List α)->p x:=λ_ h=>by cases h
theorem sE {α:Type} {p:α->Prop} {y:α} {l:List α} (h:p y) (az:∀x,x∈l->p x):∀x,x∈y::l->p x:=λx aw=>by
 rcases List.mem_cons.1 aw with rfl|aw
 ·exact h
 ·exact az x aw
end a1
namespace a1
theorem cC.GX {M aS:Mem} {B:Nat} {L L':List df} (h:cC B M L aS L'):dw M L aS L':=⟨h.sp,h.keeps,h.fresh⟩
theorem dO.own {M:Mem} {L:List df} (h:dO M L):cC 0 M L M L:=⟨h,λ_ _ h _=>h,λ_ h=> .inl h,λ_ _=>Nat.zero_le _⟩
theorem dw.lift {M aS:Mem} {L o9 L' N:List df} (ay:dO M L) (is:List Nat) (kX:mB L.length is=true) (hp:a1.pick L is=o9) (az:L'.length=is.length) (t:dw M o9 aS (L'++N)):dw M L aS (oJ L is L'++N):=by
 subst hp;exact(ay.own.put is kX az t).GX
theorem dw.trans {M hr fU:Mem} {L Wu sC:List df} (h:dw M L hr Wu) (t:dw hr Wu fU sC):dw M L fU sC where
 sp:=t.sp
 keeps i o ak aT:=t.keeps i o (h.keeps i o ak aT) λah=>by
  rcases h.fresh i ah with aH|aH
  ·exact aT aH
  ·rw[ak] at aH;cases aH
 fresh b ai:=by
  rcases t.fresh b ai with af|af
  ·exact h.fresh b af
  ·by_cases ah:jP L b
   ·exact .inl ah
   ·right
    cases aH:M b with
    |none=>rfl
    |some o=>
     have:=h.keeps b o aH ah;rw[af] at this;cases this
theorem dw.refl {M:Mem} {L:List df} (h:dO M L):dw M L M L:=h.own.GX
def w8 (L:List df):df:=⟨jP L,λM=>dO M L,λ_ h b ai=>h.known b ai,λ_ _ hm h=>h.mono hm⟩
theorem Ek {L:List df} {b:Nat}:jP [w8 L] b↔jP L b:=ra
theorem dO.packed {M:Mem} {L:List df} (h:dO M L):dO M [w8 L]:=dO.one h
theorem dO.afy {M:Mem} {L:List df} (h:dO M [w8 L]):dO M L:=h.ok 0 _ rfl
theorem dw.packed {M aS:Mem} {L L':List df} (h:dw M L aS L'):dw M [w8 L] aS [w8 L']:=
 ⟨h.sp.packed,λi o ak aT=>h.keeps i o ak λah=>aT (Ek.2 ah),λb ai=>(h.fresh b (Ek.1 ai)).imp Ek.2 id⟩
theorem afz {L N:List df} {b:Nat}:jP (w8 L::N) b↔jP (L++N) b:=by
 constructor
 ·rintro ⟨i,R,ak,ai⟩
  cases i with
  |zero=>
   cases ak;obtain⟨j,S,aq,ai⟩:=ai;exact⟨j,S,by rw[List.getElem?_append_left (List.getElem?_eq_some_iff.1 aq).1];exact aq,ai⟩
  |succ i=>exact⟨L.length+i,R,by rw[List.getElem?_append_right aj,Nat.add_sub_cancel_left];exact ak,ai⟩
 ·rintro ⟨i,R,ak,ai⟩
  rcases Nat.lt_or_ge i L.length with h|h
  ·rw[List.getElem?_append_left h] at ak
   exact⟨0,w8 L,rfl,⟨i,R,ak,ai⟩⟩
  ·rw[List.getElem?_append_right h] at ak
   exact⟨i-L.length+1,R,ak,ai⟩
theorem dw.Pt {M aS:Mem} {L L' N:List df} (h:dw M L aS (L'++N)):dw M [w8 L] aS (w8 L'::N) where
 sp:=by
  refine⟨λi R ak=> ?_,λi j R S dU ak aq b ai jb=> ?_⟩
  ·cases i with
   |zero=>
    cases ak;exact⟨λi R ak=>h.sp.ok i R (by rw[List.getElem?_append_left (List.getElem?_eq_some_iff.1 ak).1];exact ak),λi j R S dU ak aq=>h.sp.two i j R S dU (by rw[List.getElem?_append_left (List.getElem?_eq_some_iff.1 ak).1];exact ak) (by rw[List.getElem?_append_left (List.getElem?_eq_some_iff.1 aq).1];exact aq)⟩
   |succ i=>exact h.sp.ok (L'.length+i) R (by rw[List.getElem?_append_right aj,Nat.add_sub_cancel_left];exact ak)
  ·have key:∀(j:Nat) (S:df),N[j]? =some S->∀b,jP L' b->¬S.pH b:=λj S aq b ⟨i,R,ak,ai⟩=>h.sp.two i (L'.length+j) R S (by have:=(List.getElem?_eq_some_iff.1 ak).1;omega) (by rw[List.getElem?_append_left (List.getElem?_eq_some_iff.1 ak).1];exact ak) (by rw[List.getElem?_append_right aj,Nat.add_sub_cancel_left];exact aq) b ai
   cases i with
   |zero=>
    cases ak;cases j with
    |zero=>exact dU rfl
    |succ j=>exact key j S aq b ai jb
   |succ i=>
    cases j with
    |zero=>
     cases aq;exact key i R ak b jb ai
    |succ j=>exact h.sp.two (L'.length+i) (L'.length+j) R S aj (by rw[List.getElem?_append_right aj,Nat.add_sub_cancel_left];exact ak) (by rw[List.getElem?_append_right aj,Nat.add_sub_cancel_left];exact aq) b ai jb
 keeps i o ak aT:=h.keeps i o ak λah=>aT (Ek.2 ah)
 fresh b ai:=(h.fresh b (afz.1 ai)).imp Ek.2 id
theorem KK {α:Type} {P:bB} {f:FuncId} {args:Array ad} {w:aG} {e:bq} {k:Nat} {enc:α->List ad} {l:List α} {L:List df} (ay:dO (a7 w) L)
  (h:Calls P f args w λe' w'=>(∃a c,e'= .returned (.slice a l.length c)/\eI w.heap.size (a7 w') e k enc (.slice a l.length c) l)/\cO w.heap.size w w'):
  Calls P f args w λe' w'=>(∃y:Option Addr×Nat,e'= .returned (.slice y.1 l.length y.2)/\dw (a7 w) L (a7 w') (L++[fY e k enc (.slice y.1 l.length y.2) l]))/\cO 0 w w':=
 (Gq h).mono λe' w' he=>by
   obtain⟨⟨y,af,ah⟩,aH⟩:=he;exact⟨⟨y,af,(ay.own.new ah).GX⟩,aH⟩
end a1
namespace a1
def rn:List (Nat×ad)->Nat->Option ad
 |[],_=>none
 |p::r,i=>bif Nat.beq p.1 i then some p.2 else rn r i
def Wv (o:Oper):Oper:={o with guard:=none}
def GY (lb:Nat->ad) (afA:List Nat) (ops:Array Oper) (N:Nat) (o:Oper):Bool:=
 match o.guard with
 |none=>true
 |some (j,b)=>afA.contains j&&(match lb j with| .bool b'=>b==b'|_=>false)&&(match gv ops j with|some t=>Nat.blt t N|none=>false)
def Cr (P:bB) (N m:Nat) (c2:List Nat) (cs kv:List (Nat×ad)) (ops:Array Oper) (dH:ax) (A:bx):List Oper->Nat->List ad->Option (List ad)
 |[],_,a8=>some a8
 |o::r,i,a8=>bif GY (λj=>a8.getD j c3) (needs ops m o) ops N o then
   (bif c2.contains i then Cr P N m c2 cs kv ops dH A r (i+1) (a8++[(rn cs i).getD c3]) else
     match rn kv i with
     |some v=>Cr P N m c2 cs kv ops dH A r (i+1) (a8++[v])
     |none=>match iu N ops (λj=>a8.getD j c3) (needs ops m o) dH with
      |some sl=>match y9 P (eQ .nil sl) A (Wv o) with
       |some v=>Cr P N m c2 cs kv ops dH A r (i+1) (a8++[v])
       |none=>none
      |none=>none)
  else none
def Pu (ops:Array Oper) (c2:List Nat):Bool:=(List.range c2.length).all λb=>(List.range b).all λa=>wI (wH ops) (c2.getD b 0) (c2.getD a 0)
def Ct (P:bB) (N m:Nat) (c2:List Nat) (cs kv:List (Nat×ad)):Option dk->Option (ax×List ad×ax)
 |some (.draw _ ops s _)=>
  bif uk ops [] m N&&Pu ops c2&&c2.all (λj=>Nat.blt j m) then
   match iu N ops (λ_=>c3) (List.range m) s.sl with
   |some dH=>match Cr P N m c2 cs kv ops dH s.A (ops.toList.take m) 0 [] with
    |some a8=>match iu N ops (λj=>a8.getD j c3) (List.range m) dH with
     |some GL=>some (dH,a8,GL)
     |none=>none
    |none=>none
   |none=>none
  else none
 |_=>none
def qg (P:bB) (N m:Nat) (c2:List Nat) (cs kv:List (Nat×ad)) (o:Option dk) (i:Nat):ax:=
 match Ct P N m c2 cs kv o,(hl o)[i]? with
 |some (dH,a8,_),some op=>match iu N (hl o) (λj=>a8.getD j c3) (needs (hl o) m op) dH with
  |some sl=>sl
  |none=> .nil
 |_,_=> .nil
def Cu (P:bB) (N m:Nat) (c2:List Nat) (cs kv:List (Nat×ad)) (o:Option dk):c6:={b0 o with sl:=match Ct P N m c2 cs kv o with|some (_,_,sl)=>sl|none=> .nil}
def Ww [bp] (P:bB) (M:Mem) (cL:List df) (op:Oper) (sl:ax) (v:ad):Prop:=
 ∀(a:Act) (w:aG),(∀x:Operand,bL (eQ .nil sl x)=true->a.eval x=bb (eQ .nil sl x))->(∀i o,M i=some o->¬jP cL i->w.heap[i]? =some o)->(execOp a.eval op).run P w= .ok (.value (bb v)) w/\∀c,op.op≠.defer c
def ya [bp] {Y:Type} (P:bB) (B:Nat) (M:Mem) (cL:List df) (ops:Array Oper) (c2:List Nat) (rv:Nat->Y->ad) (k:Nat) (op:Oper) (sl:ax) (yb tK:Y->List df):Prop:=
 ∀(a:Act) (w:aG) (rL:Act->aG->Prop) (Q:Exit->Act->aG->Prop) (y:Y),(∀x:Operand,bL (eQ .nil sl x)=true->a.eval x=bb (eQ .nil sl x))->
  (∀(idx i:Nat) (t:Tmp),idx<k->c2[idx]? =some i->gv ops i=some t->a.tmps.getD t undef=rv idx y)->(∀i o,M i=some o->¬jP cL i->w.heap[i]? =some o)->B<=w.heap.size->dO (a7 w) (yb y)->
  (∀gQ w',dw (a7 w) (yb y) (a7 w') (tK gQ)->cO 0 w w'->(∀idx,idx<k->rv idx gQ=rv idx y)->rL (a.put op.dst (rv k gQ)) w')->Oper.wpIn (Fr none) 0 P op a w rL Q
def KL (P:bB) (N m:Nat) (c2:List Nat) (cs kv:List (Nat×ad)) (ops:Array Oper) (dH:ax) (A:bx) (i:Nat) (o:Oper) (Dy:List ad) (v:ad):Prop:=
 GY (λj=>Dy.getD j c3) (needs ops m o) ops N o=true/\(c2.contains i=true->v=(rn cs i).getD c3)/\(c2.contains i=false->∀u,rn kv i=some u->v=u)/\
  (c2.contains i=false->rn kv i=none->∃sl,iu N ops (λj=>Dy.getD j c3) (needs ops m o) dH=some sl/\y9 P (eQ .nil sl) A (Wv o)=some v)
theorem Wx {P:bB} {N m:Nat} {c2:List Nat} {cs kv:List (Nat×ad)} {ops:Array Oper} {dH:ax} {A:bx}:∀(l:List Oper) (i0:Nat) (a8 dC:List ad),a8.length=i0->Cr P N m c2 cs kv ops dH A l i0 a8=some dC->
  dC.length=a8.length+l.length/\dC.take a8.length=a8/\∀i o,l[i]? =some o->KL P N m c2 cs kv ops dH A (i0+i) o (dC.take (a8.length+i)) (dC.getD (a8.length+i) c3)
 |[],i0,a8,dC,_,h=>by
  cases h;exact⟨by simp,by simp,λi o ak=>by simp at ak⟩
 |o::r,i0,a8,dC,rM,h=>by
  unfold Cr at h;have go:∀v,KL P N m c2 cs kv ops dH A i0 o a8 v->Cr P N m c2 cs kv ops dH A r (i0+1) (a8++[v])=some dC->
    dC.length=a8.length+(o::r).length/\dC.take a8.length=a8/\∀i o',(o::r)[i]? =some o'->KL P N m c2 cs kv ops dH A (i0+i) o' (dC.take (a8.length+i)) (dC.getD (a8.length+i) c3):=by
   intro v aR h;obtain⟨ah,aH,ck⟩:=Wx r (i0+1) (a8++[v]) dC (by simp [rM]) h;have hlen:(a8++[v]).length=a8.length+1:=by simp
   rw[hlen] at ah aH;have vn:dC.take a8.length=a8:=by
    have:=congrArg (List.take a8.length) aH;rw[List.take_take,Nat.min_eq_left aj] at this;simpa using this
   refine⟨by simp;omega,vn,?_⟩;intro i o' ak
   match i with
   |0=>
    simp only [List.getElem?_cons_zero,dL] at ak;subst ak;simp only [Nat.add_zero];rw[vn];have hz:dC.getD a8.length c3=v:=by
     have:=congrArg (λl=>l[a8.length]?) aH;simp at this;rw[eP,this];rfl
    rw[hz];exact aR
   |i+1=>
    have:=ck i o' (by simpa using ak);rw[hlen] at this;rw[show a8.length+(i+1)=a8.length+1+i by omega,show i0+(i+1)=i0+1+i by omega];exact this
  cases bg:GY (λj=>a8.getD j c3) (needs ops m o) ops N o with
  |false=>rw[bg] at h;cases h
  |true=>
   rw[bg,cN] at h;cases aA:c2.contains i0 with
   |true=>
    rw[aA,cN] at h;exact go _ ⟨bg,λ_=>rfl,λae=>(by rw[aA] at ae;cases ae),λae=>(by rw[aA] at ae;cases ae)⟩ h
   |false=>
    rw[aA,fI] at h;split at h
    ·rename_i v aR
     exact go v ⟨bg,λae=>(by rw[aA] at ae;cases ae),λ_ u hu=>(by rw[aR] at hu;cases hu;rfl),λ_ ae=>(by rw[aR] at ae;cases ae)⟩ h
    ·rename_i hZ
     split at h
     ·rename_i sl hg
      split at h
      ·rename_i v aR
       exact go v ⟨bg,λae=>(by rw[aA] at ae;cases ae),λ_ u hu=>(by rw[hZ] at hu;cases hu),λ_ _=>⟨sl,hg,aR⟩⟩ h
      ·cases h
     ·cases h
structure w9 [bp] {Y:Type} (N:Nat) (ds:List Deferred) (ops:Array Oper) (m:Nat) (c2:List Nat) (a8:List ad) (dH:ax) (φ:cD) (rv:Nat->Y->ad) (k:Nat) (y:Y) (listed:Array Bool) (a:Act):Prop where
 size:listed.size=ops.size
 down:∀i j,listed.getD i false=true->direct ops i j=true->listed.getD j false=true
 si:∀i,m<=i->listed.getD i false=false
 defers:a.defers=ds
 nh:a.tmps.size=N
 slot:∀t v,dH.get t=some v->aM φ v (a.tmps.getD t undef)
 val:∀j t,j<m->listed.getD j false=true->gv ops j=some t->aM φ (a8.getD j c3) (a.tmps.getD t undef)
 AH:∀(idx j:Nat) (t:Tmp),idx<k->c2[idx]? =some j->gv ops j=some t->a.tmps.getD t undef=rv idx y
 ord:∀(idx j:Nat),c2[idx]? =some j->(listed.getD j false=true↔idx<k)
section
variable [bp] {Y:Type} {N:Nat} {ds:List Deferred} {ops:Array Oper} {m:Nat} {c2:List Nat} {a8:List ad} {dH:ax} {φ:cD} {rv:Nat->Y->ad} {k:Nat} {y:Y} {listed:Array Bool} {a:Act}
theorem w9.y8 (h:w9 N ds ops m c2 a8 dH φ rv k y listed a) {lb:Nat->ad} {ks:List Nat} {sl:ax} (Fo:∀j∈ks,j<m/\listed.getD j false=true/\lb j=a8.getD j c3) (hp:iu N ops lb ks dH=some sl):gR N ds φ sl a:=
 ⟨h.nh,h.defers,λt v aR=>by
   rcases pB _ _ _ hp t v aR with ⟨j,aq,bu,rfl⟩|⟨_,bg⟩
   ·obtain⟨af,ah,ck⟩:=Fo j aq
    rw[ck];exact h.val j t af ah bu
   ·exact h.slot t v bg⟩
theorem w9.put (h:w9 N ds ops m c2 a8 dH φ rv k y listed a) {i:Nat} {o:Oper} {nC:ax} (iP:iu N ops (λ_=>c3) (List.range m) nC=some dH) (ak:i<m) (hm:m<=ops.size) (bW:ops[i]? =some o)
  (vp:∀k,direct ops i k=true->listed.getD k false=true) (lN:∀i j,i<m->j<m->i≠j->∀t,gv ops i=some t->gv ops j≠some t) (c_:∀i t,i<m->gv ops i=some t->t<N)
  {v':ad} (aR:aM φ (a8.getD i c3) v') {k':Nat} {gQ:Y} (fZ:∀(idx j:Nat),c2[idx]? =some j->j<m)
  (mP:∀(idx j:Nat) (t:Tmp),idx<k'->c2[idx]? =some j->gv ops j=some t->(if j=i then v' else a.tmps.getD t undef)=rv idx gQ)
  (dR:∀(idx j:Nat),c2[idx]? =some j->((j=i\/listed.getD j false=true)↔idx<k')):w9 N ds ops m c2 a8 dH φ rv k' gQ (listed.setIfInBounds i true) (a.put o.dst v'):=by
 have mh:gv ops i=o.dst:=by simp [gv,bW]
 have gn:=GI (listed:=listed) (i:=i) (by have:=h.size;omega);refine⟨by simpa using h.size,?_,?_,by rw[Act.Dv];exact h.defers,by rw[Act.size_put];exact h.nh,?_,?_,?_,?_⟩
 ·intro j k aq bu
  rw[gn] at aq ⊢;rcases aq with rfl|aq
  ·exact .inr (vp k bu)
  ·exact .inr (h.down j k aq bu)
 ·intro j aq
  rw[getD_set_ne false aj];exact h.si j aq
 ·intro t v q3
  by_cases sn:o.dst=some t
  ·rcases pB _ _ _ iP t v q3 with ⟨j,aq,bu,rfl⟩|⟨yJ,_⟩
   ·exact .c3 _
   ·exact absurd (mh.trans sn) (yJ i (List.mem_range.2 ak))
  ·rw[y_ t sn]
   exact h.slot t v q3
 ·intro j t aq az bu
  by_cases eR:j=i
  ·subst eR
   rw[Act.ui _ _ _ _ (by rw[h.nh];exact c_ j t aq bu),aP (mh.symm.trans bu)];exact aR
  ·rw[y_ t λae=>lN i j ak aq (Ne.symm eR) t (mh.trans ae) bu]
   exact h.val j t aq (((gn j).1 az).resolve_left eR) bu
 ·intro idx j t AJ aq bu
  have:=mP idx j t AJ aq bu;by_cases eR:j=i
  ·rw[aP eR] at this
   rw[<-this];rw[eR] at bu;rw[Act.ui _ _ _ _ (by rw[h.nh];exact c_ i t ak bu),aP (mh.symm.trans bu)]
  ·rw[aV eR] at this
   rw[y_ t λae=>lN i j ak (fZ idx j aq) (Ne.symm eR) t (mh.trans ae) bu];exact this
 ·intro idx j aq
  rw[gn j];exact dR idx j aq
end
theorem afB [bp] {Y:Type} {N:Nat} {ds:List Deferred} {ops:Array Oper} {m:Nat} {c2:List Nat} {a8:List ad} {dH:ax} {φ:cD} {rv:Nat->Y->ad} {k:Nat} {y:Y} {listed:Array Bool} {a:Act} (h:w9 N ds ops m c2 a8 dH φ rv k y listed a) {i:Nat} {o:Oper} (aT:∀j∈needs ops m o,j<m/\listed.getD j false=true/\(a8.take i).getD j c3=a8.getD j c3)
  (bg:GY (λj=>(a8.take i).getD j c3) (needs ops m o) ops N o=true):Region.wanted o (yielded ops a.tmps)=true:=by
 unfold GY at bg;unfold Region.wanted;split at bg
 ·rename_i afC
  rw[afC]
 ·rename_i j b afD
  rw[afD];simp only [fy] at bg;obtain⟨⟨af,ah⟩,aH⟩:=bg;obtain⟨q1,aI,bS⟩:=aT j (by simpa using af);split at ah
  ·rename_i b' wF
   split at aH
   ·rename_i t bw
    have aR:=h.val j t q1 aI bw;rw[<-bS,wF] at aR;have ai:a.tmps.getD t undef= .bool b':=by
     generalize a.tmps.getD t undef=u at aR;cases aR;rfl
    have c_:t<a.tmps.size:=by rw[h.nh];exact Nat.blt_eq.mp aH
    have jb:b=b':=by simpa using ah
    have hy:yielded ops a.tmps j=some b':=by
     unfold yielded;have bu:((ops[j]?).bind (·.dst)).bind (a.tmps[·]?)=some (.bool b'):=by
      have:(ops[j]?).bind (·.dst)=some t:=bw;rw[this];simp only [Option.bind_some];rw[gd,Array.getElem?_eq_getElem c_] at ai;rw[Array.getElem?_eq_getElem c_];exact congrArg some ai
     rw[bu]
    dsimp only;rw[hy,jb];exact beq_self_eq_true _
   ·cases aH
  ·cases ah
theorem afE [dJ] {P:bB} {N B:Nat} {w0:aG} {Q:Exit->Act->aG->Prop} {M:Mem} {bM:List ad} {Y:Type} {bC:Y->List ad} {o:Option dk} {m:Nat} {eB cs kv:List (Nat×ad)} {L:Nat->Y->List df} {rv:Nat->Y->ad} {gp e6:ax} {c7:List bG} {dQ:gh} {e9:Mem} {e2 o_ cL:List df}
  (a_:cC B e9 e2 M o_) (is:List Nat) (kX:mB o_.length is=true) (hp:a1.pick o_ is=cL)
  (et:P.follows .mixedOrders=true) (h:(Ct P N m (eB.map (·.1)) cs kv o).isSome=true) (hb:(eB.map (·.1)).Nodup) (vi:Y) (Km:L 0 vi=cL)
  (hJ:∀k i v,(eB.map (·.1))[k]? =some i->rn cs i=some v->plain v=true/\∀y,rv k y=v)
  (w_:∀i v,rn kv i=some v->bL v=true/\∃op,(hl o)[i]? =some op/\ @Ww (bc M bM) P M cL op (qg P N m (eB.map (·.1)) cs kv o i) v)
  (mP:∀k i,(eB.map (·.1))[k]? =some i->∃op,(hl o)[i]? =some op/\ @ya (bc M bM) Y P B M cL (hl o) (eB.map (·.1)) rv k op (qg P N m (eB.map (·.1)) cs kv o i) (L k) (L (k+1)))
  (fg:bF (Cu P N m (eB.map (·.1)) cs kv o) gp c7=some dQ) (iQ:vG N (hl o) eB gp=some e6) (gH:eB.all (λp=>bL p.2)=true)
  (dc:∀y aS k p,eB[k]? =some p-> @bb (bc aS (bC y)) p.2=rv k y) (hm:∀y aS,hD (bc M bM) (bc aS (bC y)) dQ)
  (rest:∀y aS,dw M cL aS (L eB.length y)->∀bR w,@Here (bc aS (bC y)) _ N {sl:=e6,ms:=[],A:=cS c7} B w0 bR w->wpListIn (Fr none) 0 P (hl o) (fF P (gi o) Q) (y' m o) bR w)
  (aT:dJ.jD<=c7.length:=by first|exact Nat.zero_le _|exact h3 rfl) (aA:jr (b0 o).A c7 0:=by exact jF rfl): @ia (bc M bM) _ P N B w0 Q o:=by
 letI:=bc M bM;obtain⟨⟨dH,a8,GL⟩,bu⟩:=Option.isSome_iff_exists.1 h;have c8:=bu;unfold Ct at bu;split at bu
 ·rename_i id ops s ks
  cases ai:(uk ops [] m N&&Pu ops (eB.map (·.1))&&(eB.map (·.1)).all (λj=>Nat.blt j m)) with
  |false=>rw[ai] at bu;cases bu
  |true=>
   rw[ai,cN] at bu;simp only [fy] at ai;obtain⟨⟨iB,Ar⟩,fZ⟩:=ai;have fZ:∀j∈eB.map (·.1),j<m:=λj aq=>Nat.blt_eq.mp (List.all_eq_true.1 fZ j aq)
   obtain⟨zZ,xV,lN,c_,qW,ni,tu⟩:=Bz iB;have Pv:∀(idx j:Nat),(eB.map (·.1))[idx]? =some j->j<m:=λidx j aq=>fZ j (List.mem_of_getElem? aq)
   have afF:∀b a Pw Px,a<b->(eB.map (·.1))[b]? =some Pw->(eB.map (·.1))[a]? =some Px->wI (wH ops) Pw Px=true:=λb a Pw Px Ei ai cG=>by
    unfold Pu at Ar;have af:=List.all_eq_true.1 Ar b (List.mem_range.2 (List.getElem?_eq_some_iff.1 ai).1);have ah:=List.all_eq_true.1 af a (List.mem_range.2 Ei);rw[eP,eP,ai,cG] at ah;exact ah
   split at bu
   ·rename_i qf iP
    split at bu
    ·rename_i dC n5
     split at bu
     ·rename_i GN qb
      simp only [dL,Prod.mk.injEq] at bu;obtain⟨rfl,rfl,rfl⟩:=bu;have Eg:∀i o,i<m->ops[i]? =some o->KL P N m (eB.map (·.1)) cs kv ops qf s.A i o (dC.take i) (dC.getD i c3):=by
       intro i o ak bW;have:=(Wx _ 0 [] _ rfl n5).2.2 i o (by rw[List.getElem?_take,aP ak];simpa using bW);simpa using this
      refine⟨_,rfl,λa w ae=> ?_⟩;have cy:Here N s B w0 a {w with drawn:=w.drawn+1}:=ae.quiet ⟨⟨rfl,rfl,rfl,c4 _,λ_ _=>rfl⟩,c4 _⟩;refine wpIn_region_any et ?_;have za:∀i o,M i=some o->({w with drawn:=w.drawn+1}:aG).heap[i]? =some o:=cy.qC;generalize ({w with drawn:=w.drawn+1}:aG)=j' at cy za;obtain⟨⟨φ,ds,q1,aI,bS,fo,iK⟩,mK,p1⟩:=cy;have afG:∀i,jP cL i->M i≠none:=λi ak=>by
       subst hp;exact(a_.sp.pick is kX).known i ak
      have x3:∀{w:aG} {L':List df},dw (a7 j') cL (a7 w) L'->∀b e,φ b=some e->w.heap[e.bJ]? =j'.heap[e.bJ]? :=λ{w L'} az b e ai=>by
       obtain⟨fE,_,_,q⟩:=bS.fi b e ai;have c_:=gL.lt q;have aH:a7 j' e.bJ=some (j'.heap[e.bJ]):=Array.getElem?_eq_getElem c_;have ck:=az.keeps e.bJ _ aH λbn=>by
        cases KI:M e.bJ with
        |none=>exact afG _ bn KI
        |some u7=>
         obtain⟨_,eF⟩:=bS.dz e.bJ u7 KI;exact eF b e ai rfl
       rw[Array.getElem?_eq_getElem c_];exact ck
      have Wy:∀{w:aG} {L':List df},dw (a7 j') cL (a7 w) L'->∀i o,M i=some o->¬jP cL i->w.heap[i]? =some o:=λ{w L'} az i o ak bn=>az.keeps i o (za i o ak) bn
      have sq:∀{k:Nat} {y:Y} {listed:Array Bool} {a:Act},w9 N ds ops m (eB.map (·.1)) dC qf φ rv k y listed a->¬(∀i,i<m->listed.getD i false=true)->Region.ready .any ops listed≠[]/\∀i∈Region.ready .any ops listed,i<m/\listed.getD i false=false/\i<ops.size:=by
       intro k y listed a aK kt;obtain⟨i0,rM⟩:=Classical.not_forall.1 kt;obtain⟨z7,pD⟩:=Classical.not_imp.1 rM;have pD:listed.getD i0 false=false:=by simpa using pD
       refine⟨?_,λi ak=> ?_⟩
       ·have key:∀n i,i<n->i<m->listed.getD i false=false->∃k,k∈Region.ready .any ops listed:=by
         intro n
         induction n with
         |zero=>intro i ak;omega
         |succ n BC=>
          intro i ak j6 BD;by_cases hp:∀k,direct ops i k=true->listed.getD k false=true
          ·refine⟨i,mem_ready.2 ⟨by rw[pA (by have:=aK.size;omega)];exact BD,ops[i]'(by omega),Array.getElem?_eq_getElem _,λe he ai=>hp _ ?_⟩⟩
           have bW:ops[i]? =some (ops[i]'(by omega)):=Array.getElem?_eq_getElem _;simp only [direct,bW];exact Array.any_eq_true'.2 ⟨e,he,by simp [ai]⟩
          ·obtain⟨k,ao⟩:=Classical.not_forall.1 hp
           obtain⟨bu,wJ⟩:=Classical.not_imp.1 ao;have:=ni i k aj bu;exact BC k aj aj (by simpa using wJ)
        obtain⟨k,ao⟩:=key (i0+1) i0 aj z7 pD;intro h;rw[h] at ao;cases ao
       ·obtain⟨sm,o,bW,_⟩:=mem_ready.1 ak
        have ko:i<ops.size:=(Array.getElem?_eq_some_iff.1 bW).1;have p6:listed.getD i false=false:=by rw[<-pA (by have:=aK.size;omega)];exact sm
        refine⟨?_,p6,ko⟩;rcases Nat.lt_or_ge i m with h|h
        ·exact h
        ·exfalso
         rcases tu i i0 ko h aj with ⟨wK,_⟩|cG
         ·cases wK
         ·have:=cG listed aK.down (n_ ak)
          rw[pD] at this;cases this
      have tail:∀(bN:Nat) (listed:Array Bool) (a:Act) (w:aG) (k:Nat) (y:Y),w9 N ds ops m (eB.map (·.1)) dC qf φ rv k y listed a->k<=eB.length->dw (a7 j') cL (a7 w) (L k y)->cO 0 j' w->p5 listed<=bN->(∀i,i<m->listed.getD i false=true)->wpAnyIn (Fr none) 0 P .any ops (fF P ks Q) bN listed a w:=by
       intro bN listed a w k y aK hZ kQ n3 bn kt;have ao:k=eB.length:=by
        rcases Nat.lt_or_ge k eB.length with c_|lJ
        ·exfalso
         have GZ:k<(eB.map (·.1)).length:=by rw[List.length_map];exact c_
         have e:=ig GZ;have:=(aK.ord k _ e).1 (kt _ (Pv k _ e));omega
        ·omega
       subst ao;refine Ju ni (λi j ak aq eR=>(tu i j ak aj eR).resolve_left aj) bN m listed a w (c4 _) aK.size (λi=> ?_) bn ?_
       ·by_cases ak:i<m
        ·rw[kt i ak];simp;omega
        ·rw[aK.si i aj];simp;omega
       ·obtain⟨aS,t1,t2⟩:=Vt a_ is kX hp za p1 kQ n3
        have p8:gR N ds φ GN a:=aK.y8 (λj aq=>⟨List.mem_range.1 aq,kt j (List.mem_range.1 aq),rfl⟩) qb;have eA:Cu P N m (eB.map (·.1)) cs kv (some (.draw id ops s ks))={s with sl:=GN}:=by
         unfold Cu;rw[c8];rfl
        have oF:Here N (Cu P N m (eB.map (·.1)) cs kv (some (.draw id ops s ks))) B w0 a j':=by
         rw[eA];exact⟨⟨φ,ds,q1,p8,bS,fo,iK⟩,mK,p1⟩
        have kc:=Here.Ot (vals':=bC y) fg (hm y _) t2 aT (by rw[eA];exact aA) oF;have ao:∀p∈eB,bL p.2=true/\∀t,gv ops p.1=some t->a.tmps.getD t undef= @bb (bc aS (bC y)) p.2:=λp hp=>⟨List.all_eq_true.1 gH p hp,λt bw=>by
         obtain⟨idx,AJ,e⟩:=List.mem_iff_getElem.1 hp;have cw:eB[idx]? =some p:=by rw[ig AJ,e]
         rw[dc y _ idx p cw]
         exact aK.AH idx p.1 t AJ (by rw[List.getElem?_map,cw];rfl) bw⟩
        exact rest y aS t1 a w (@Here.Pp (bc aS (bC y)) _ N B w0 w a ops [] (cS c7) eB gp e6 kc ao iQ)
      have main:∀(bN:Nat) (listed:Array Bool) (a:Act) (w:aG) (k:Nat) (y:Y),w9 N ds ops m (eB.map (·.1)) dC qf φ rv k y listed a->k<=eB.length->dw (a7 j') cL (a7 w) (L k y)->cO 0 j' w->p5 listed<=bN->wpAnyIn (Fr none) 0 P .any ops (fF P ks Q) bN listed a w:=by
       intro bN
       induction bN with
       |zero=>
        intro listed a w k y aK hZ kQ n3 bn;refine tail 0 listed a w k y aK hZ kQ n3 bn λi ak=> ?_
        cases h:listed.getD i false with
        |true=>rfl
        |false=>
         exfalso;have:=uj (i:=i) (listed:=listed) (by have:=aK.size;omega) (by rw[pA (by have:=aK.size;omega)];exact h);omega
       |succ bN eJ=>
        intro listed a w k y aK hZ kQ n3 bn;by_cases kt:∀i,i<m->listed.getD i false=true
        ·exact tail (bN+1) listed a w k y aK hZ kQ n3 bn kt
        ·obtain⟨la,sr⟩:=sq aK kt
         refine⟨λbd=>absurd bd la,λi ak=> ?_⟩;obtain⟨j6,p6,ko⟩:=sr i ak;have bW:ops[i]? =some ops[i]:=Array.getElem?_eq_getElem ko;have Np:=uj (i:=i) (listed:=listed) (by have:=aK.size;omega) (mem_ready.1 ak).1;have afH:∀j∈needs ops m ops[i],j<m/\listed.getD j false=true/\(dC.take i).getD j c3=dC.getD j c3:=λj aq=>by
          have pE:=qW i _ j6 bW j aq;have eR:=ni i j ko pE;exact⟨aj,n_ ak j pE,by simp only [eP,List.getElem?_take,aP eR]⟩
         have GO:∀{lb:Nat->ad} {sl:ax},(∀j,j<i->lb j=dC.getD j c3)->iu N ops lb (needs ops m ops[i]) qf=some sl->gR N ds φ sl a:=λ{lb sl} wF hg=>aK.y8 (λj aq=>by
          have pE:=qW i _ j6 bW j aq;have eR:=ni i j ko pE
          exact⟨aj,n_ ak j pE,wF j eR⟩) hg
         obtain⟨bg,x1,DR,afI⟩:=Eg i _ j6 bW;have hw:=afB aK afH bg;have p7:∀x:Operand,bL (eQ .nil (qg P N m (eB.map (·.1)) cs kv (some (.draw id ops s ks)) i) x)=true->a.eval x=bb (eQ .nil (qg P N m (eB.map (·.1)) cs kv (some (.draw id ops s ks)) i) x):=λx w5=>by
          cases rh:iu N ops (λj=>dC.getD j c3) (needs ops m ops[i]) qf with
          |some sl=>
           have e:qg P N m (eB.map (·.1)) cs kv (some (.draw id ops s ks)) i=sl:=by
            unfold qg;rw[c8,show (hl (some (.draw id ops s ks)))[i]? =some ops[i] from bW];show (match iu N ops (λj=>dC.getD j c3) (needs ops m ops[i]) qf with|some sl=>sl|none=> .nil)=sl;rw[rh]
           rw[e] at w5 ⊢;exact aM.kr _ w5 (h_ (jE φ) (GO (λ_ _=>rfl) rh).get x)
          |none=>
           have e:qg P N m (eB.map (·.1)) cs kv (some (.draw id ops s ks)) i= .nil:=by
            unfold qg;rw[c8,show (hl (some (.draw id ops s ks)))[i]? =some ops[i] from bW];show (match iu N ops (λj=>dC.getD j c3) (needs ops m ops[i]) qf with|some sl=>sl|none=> .nil)= .nil;rw[rh]
           rw[e] at w5 ⊢;exact aM.kr (φ:=φ) _ w5 (h_ (jE φ) (λt v h=>by cases h) x)
         unfold wpOpIn;simp only [bW];rw[aP hw];cases aw:(eB.map (·.1)).contains i with
         |false=>
          have Wz:∀(idx j:Nat),(eB.map (·.1))[idx]? =some j->j≠i:=λidx j aq e=>by
           have:(eB.map (·.1)).contains i=true:=by
            rw[List.contains_iff_mem,<-e];exact List.mem_of_getElem? aq
           rw[aw] at this;cases this
          have g_:∀v',aM φ (dC.getD i c3) v'->w9 N ds ops m (eB.map (·.1)) dC qf φ rv k y (listed.setIfInBounds i true) (a.put ops[i].dst v'):=λv' aR=>aK.put iP j6 zZ bW (n_ ak) lN c_ aR Pv
           (λidx j t af ah aH=>by rw[aV (Wz idx j ah)];exact aK.AH idx j t af ah aH) (λidx j ah=>⟨λae=>(aK.ord idx j ah).1 (ae.resolve_left (Wz idx j ah)),λae=> .inr ((aK.ord idx j ah).2 ae)⟩)
          cases Py:rn kv i with
          |some v=>
           obtain⟨tr,op,eb,GQ⟩:=w_ i v Py;have GR:op=ops[i]:=by
            have e:(hl (some (.draw id ops s ks)))[i]? =ops[i]? :=rfl;rw[e,bW] at eb;exact(Option.some.inj eb).symm
           subst GR;obtain⟨g1,g4⟩:=GQ a w p7 (Wy kQ);refine⟨λ_ _=>trivial,?_⟩;rw[Oper.semAt_eq _ _ _ g4,g1,Oper.uponIn_value];exact eJ _ _ w k y (g_ _ (by rw[DR aw v Py];exact aM.wD φ v tr)) hZ kQ n3 aj
          |none=>
           obtain⟨sl,hg,aR⟩:=afI aw Py;have p8:=GO (λj eR=>by simp only [eP,List.getElem?_take,aP eR]) hg;obtain⟨v',g1,g2,g3,g4⟩:=Wq (w2:=w) bS (x3 kQ) (h_ (jE φ) p8.get) aR;have g1:(execOp a.eval ops[i]).run P w= .ok (.value v') w:=g1;have g4:∀c,ops[i].op≠.defer c:=g4;refine⟨λ_ _=>trivial,?_⟩;rw[Oper.semAt_eq _ _ _ g4,g1,Oper.uponIn_value];exact eJ _ _ w k y (g_ _ g2) hZ kQ n3 aj
         |true=>
          have n4:i∈eB.map (·.1):=List.contains_iff_mem.1 aw;obtain⟨idx,AJ,b4⟩:=List.mem_iff_getElem.1 n4;have bs:(eB.map (·.1))[idx]? =some i:=by rw[ig AJ,b4]
          have ur:k=idx:=by
           rcases Nat.lt_trichotomy k idx with c_|heq|Dz
           ·exfalso
            have rU:k<(eB.map (·.1)).length:=by omega
            have cw:=ig rU;have cG:=afF idx k i _ c_ bs cw;have:=Nb i ko _ cG listed aK.down (n_ ak);have:=(aK.ord k _ cw).1 this;omega
           ·exact heq
           ·exfalso
            have:=(aK.ord idx i bs).2 Dz;rw[p6] at this;cases this
          subst ur;obtain⟨op,eb,GQ⟩:=mP k i bs;have GR:op=ops[i]:=by
           have e:(hl (some (.draw id ops s ks)))[i]? =ops[i]? :=rfl;rw[e,bW] at eb;exact(Option.some.inj eb).symm
          subst GR;have rU:k<eB.length:=by rw[List.length_map] at AJ;exact AJ
          refine GQ a w _ _ y p7 (λidx j t af ah aH=>aK.AH idx j t af ah aH) (Wy kQ) (Nat.le_trans p1 n3.size) kQ.sp λgQ w' c9 eF hx=> ?_
          have WA:∀(rY:Nat),(eB.map (·.1))[rY]? =some i->rY=k:=λrY ah=>(List.getElem?_inj (List.getElem?_eq_some_iff.1 ah).1 hb).1 (ah.trans bs.symm)
          have afJ:w9 N ds ops m (eB.map (·.1)) dC qf φ rv (k+1) gQ (listed.setIfInBounds i true) (a.put ops[i].dst (rv k gQ)):=by
           refine aK.put iP j6 zZ bW (n_ ak) lN c_ ?_ Pv (λrY j t af ah aH=> ?_) (λrY j ah=> ?_)
           ·rw[x1 aw]
            cases FV:rn cs i with
            |none=>exact .c3 _
            |some v=>
             obtain⟨jc,hY⟩:=hJ k i v bs FV;rw[hY gQ];exact aM.lv φ v jc
           ·by_cases eR:j=i
            ·rw[aP eR]
             rw[eR] at ah;rw[WA rY ah]
            ·rw[aV eR]
             have GZ:rY<k:=by
              rcases Nat.lt_or_ge rY k with cy|cy
              ·exact cy
              ·exfalso
               have:rY=k:=by omega
               subst this;rw[bs] at ah;cases ah;exact eR rfl
             rw[hx rY GZ];exact aK.AH rY j t GZ ah aH
           ·constructor
            ·rintro (eR|az)
             ·rw[eR] at ah
              rw[WA rY ah];omega
             ·have:=(aK.ord rY j ah).1 az
              omega
            ·intro GZ
             rcases Nat.lt_or_ge rY k with cy|cy
             ·exact .inr ((aK.ord rY j ah).2 cy)
             ·have:rY=k:=by omega
              subst this;rw[bs] at ah;cases ah;exact .inl rfl
          exact eJ _ _ w' (k+1) gQ afJ aj (kQ.trans c9) (n3.trans eF) aj
      have bn:∀i,(Array.replicate ops.size false).getD i false=false:=λi=>by
       rw[gd,Array.getElem?_replicate];split<;>rfl
      have zb:dw (a7 j') cL (a7 j') (L 0 vi):=by
       rw[Km];exact dw.refl (a_.at is kX hp za)
      refine main ops.size _ a j' 0 vi ⟨by simp,λi j ak=>absurd ak (by rw[bn];simp),λi _=>bn i,aI.defers,aI.size,λt v aR=> ?_,λj t _ az=>absurd az (by rw[bn];simp),λidx j t c_=>absurd c_ (Nat.not_lt_zero _),λidx j _=>⟨λaz=>absurd az (by rw[bn];simp),λc_=>absurd c_ (Nat.not_lt_zero _)⟩⟩ (Nat.zero_le _) zb (cO.refl _ _) ?_
      ·rcases pB _ _ _ iP t v aR with ⟨j,aq,bu,rfl⟩|⟨_,bg⟩
       ·exact .c3 _
       ·exact aI.get t v bg
      ·unfold p5
       exact Nat.le_trans List.count_le_length (by simp)
     ·cases bu
    ·cases bu
   ·cases bu
 ·cases bu
end a1
namespace a1
theorem WB {l:List ad} {i:Nat} {d:ad}:(⟨l⟩:Array ad).getD i d=l.getD i d:=by
 simp [gd,eP]
def G0:List ad->Nat->Nat->Bool
 |[],_,_=>true
 |v::r,mV,i=>(Nat.beq i mV||plain v)&&G0 r mV (i+1)
theorem WC:∀(l:List ad) (mV i0:Nat),G0 l mV i0=true->∀i v,l[i]? =some v->i0+i≠mV->plain v=true
 |[],_,_,_,i,v,ak,_=>by simp at ak
 |x::r,mV,i0,h,i,v,ak,dU=>by
  unfold G0 at h;simp only [fy,Bool.or_eq_true] at h
  match i with
  |0=>
   simp only [List.getElem?_cons_zero,dL] at ak;subst ak;exact h.1.resolve_left λe=>dU (by have:=ep e;omega)
  |i+1=>exact WC r mV (i0+1) h.2 i v (by simpa using ak) aj
def KM (o:Option dk) (b t mV:Nat):Option (List ad×Nat×Nat×List ad):=
 match o with
 |some (.oper _ _ _ s _)=>match s.A.bl.get b with
  |some k=>match k.obj with
   | .cells cs=>bif Nat.beq k.fO 0&&(Nat.beq k.dG b&& !k.ro) then match s.sl.get t with
     |some (.agg ⟨mR⟩)=>match mR[mV]? with
      |some (.slice (some ⟨b',0,none⟩) n c)=>bif Nat.beq b' b&&G0 mR mV 0 then some (cs,n,c,mR) else none
      |_=>none
     |_=>none
     else none
   |_=>none
  |none=>none
 |_=>none
theorem Here.afK [dJ] {α:Type} {M:Mem} {bM:List ad} {bC:Nat->List ad} {N B:Nat} {st:c6} {w0 w:aG} {a:Act} {sl eX:ax} {l:List bG} {dQ:gh} {b t q n c fE:Nat} {k:iX} {cs:List ad} {enc:α->List ad} {xs:List α} {mR:List ad} {mV:Nat}
  (yI:∀x,(enc x).length=fE) (Ci:xs.length=n) (hh:0<n) (iv:n<=c) (ae: @Here (bc M bM) _ N st B w0 a w) (ao:st.A.bl.get b=some k) (gF:k.obj= .cells cs) (Gm:k.fO=0) (pt:k.dG=b) (hJ:fH cs=true) (rh: @fl (bc M bM) cs=xs.flatMap enc) (ai:l.length<=b)
  (y2:st.sl.get t=some (.agg ⟨mR⟩)) (n8:mR[mV]? =some (.slice (some ⟨b,0,none⟩) n c)) (gH:∀i v,mR[i]? =some v->i≠mV->plain v=true) (fg:bF st sl l=some dQ) (hm:∀aS g,hD (bc M bM) (bc aS (bC g)) dQ) (gn:cK.set (.agg ⟨mR.set mV (al q)⟩) depth sl t=some eX) (cy:∀g,o3 (bC g) q= .slice (some ⟨g,0,none⟩) n c)
  (aT:dJ.jD<=l.length) (aA:jr st.A l 0):
  ∃g aS,dr aS fE enc (.slice (some ⟨g,0,none⟩) n c) xs/\B<=g/\aS g≠none/\jM M aS none/\M g=none/\ @Here (bc aS (bC g)) _ N {sl:=eX,ms:=[],A:=cS l} B w0 a w:=by
 obtain⟨⟨φ,ds,af,ah,aH,ck,gW⟩,dd,dM⟩:=ae;have Da:= @gR.get (bc M bM) _ _ _ _ _ ah t _ y2;generalize c0:a.tmps.getD t undef=afL at Da;obtain⟨G1,rfl,dV,WD⟩:∃G1,afL= .agg G1/\mR.length=G1.size/\∀i,i<mR.length-> @aM (bc M bM) φ (mR.getD i undef) (G1.getD i undef):=by
  cases Da with
  |agg _ cs' g1 g2=>exact⟨cs',rfl,by simpa using g1,λi ak=>by simpa using g2 i (by simpa using ak)⟩
 have lL:mV<mR.length:=(List.getElem?_eq_some_iff.1 n8).1;have aR:=WD mV lL;rw[getD_some n8] at aR;generalize hp:G1.getD mV undef=Vy at aR;cases aR with
 |jI _ _=>omega
 |jl _ _ _ he ay _ _=>
  obtain⟨gZ,c9,eF,hx⟩:= @cB.fi (bc M bM) _ _ _ aH b _ he;rw[ao] at c9;cases c9;omega
 |jk _ _ he=>
  rename_i e;obtain⟨gZ,c9,eF,hx⟩:= @cB.fi (bc M bM) _ _ _ aH b e he;rw[ao] at c9;cases c9;unfold gL at hx;rw[gF] at hx;obtain⟨c',j5,g1,g2,g3,g4,mb⟩:=hx;obtain⟨g6,g7⟩:=g3.2 Gm;have uv:M e.bJ=none:=by
   cases ak:M e.bJ with
   |none=>rfl
   |some o=>exact absurd rfl ((@cB.dz (bc M bM) _ _ _ aH e.bJ o ak).2 b e he)
  let aS:Mem:=λi=>if i=e.bJ then some (.cells c' k.ty j5) else M i
  have x5:aS e.bJ=some (.cells c' k.ty j5):=aP rfl;have vB:∀i o,M i=some o->aS i=some o:=λi o ak=>by
   show (if i=e.bJ then _ else M i)=some o;rw[aV (λh=>by rw[h,uv] at ak;cases ak)];exact ak
  have ll:c'.toList=xs.flatMap enc:=by
   rw[<-rh];refine @aM.yF (bc M bM) φ cs c'.toList hJ (by simp [g7]) λi ak=> ?_
   have:=g4 i ak;rw[g6,Nat.zero_add] at this;simpa [gd] using this
  have od:=fg;unfold bF at od;have Gn:∀b' x,l[b']? =some x->∃fE,st.A.bl.get b'=some fE/\fE.dG=b':=λb' x aw=>by
   split at od
   ·cases iB:BU l with
    |false=>rw[iB] at od;cases od
    |true=>
     rw[iB,cN] at od;obtain⟨fp,yQ,_,hy,_⟩:=vv od;obtain⟨fE,o,c9,eF,_⟩:=DQ l 0 hy b' x aw;rw[Nat.zero_add] at c9 eF;exact⟨fE,c9,eF⟩
   ·cases od
  have bg:=Here.OI (s2:=bc aS (bC e.bJ)) fg (hm aS e.bJ) af ah aH ck gW dd dM (λi o ak=>by
   by_cases rH:i=e.bJ
   ·subst rH
    have:some (Obj.cells c' k.ty j5)=some o:=x5.symm.trans ak;cases this;refine⟨g1,λb' e' fB p3 heq=> ?_⟩;obtain⟨fE,q1,aI⟩:=Gn b' _ (ig fB);exact @cB.apart (bc M bM) _ _ _ aH b' e' fE b e k p3 he q1 ao (by rw[aI,pt];omega) heq
   ·have qs:M i=some o:=by
     have:(if i=e.bJ then some (Obj.cells c' k.ty j5) else M i)=some o:=ak
     rwa [aV rH] at this
    obtain⟨q1,aI⟩:= @cB.dz (bc M bM) _ _ _ aH i o qs
    exact⟨q1,λb' e' _ p3=>aI b' e' p3⟩) aT aA
  have oE:dr aS fE enc (.slice (some ⟨e.bJ,0,none⟩) n c) xs:=by
   subst Ci;refine .mk x5 iv λi x aw j u hu=> ?_
   have:=Ai yI xs i x aw j u hu;rw[<-ll] at this;rw[Nat.zero_add];simpa using this
  refine⟨e.bJ,aS,oE,ck b e he,(by rw[x5];simp),λi o ak _=>vB i o ak,uv,?_⟩;obtain⟨⟨gf,D7,jc,hY,oa,rN,z1⟩,DB,BB⟩:=bg;letI:=bc aS (bC e.bJ);refine⟨⟨gf,D7,jc,⟨hY.size,hY.defers,λfk v' pC=> ?_⟩,oa,rN,z1⟩,DB,BB⟩;rw[cK.pq _ _ _ _ _ _ gn] at pC;split at pC
  ·rename_i bw
   cases pC;subst bw;rw[c0];refine .agg _ _ (by simpa using dV) λi ak=> ?_
   have KN:i<mR.length:=by simpa using ak
   by_cases pz:i=mV
   ·subst pz
    have np:(⟨mR.set i (al q)⟩:Array ad).getD i undef=al q:=by
     rw[WB,eP,List.getElem?_set_self KN];rfl
    rw[np,hp];have:=aM.sym (φ:=gf) q;have qu:bp.σ q=Value.slice (some ⟨e.bJ,0,none⟩) n c:=cy e.bJ;rw[qu] at this;rw[g6,Nat.zero_add];exact this
   ·have e:(⟨mR.set mV (al q)⟩:Array ad).getD i undef=mR.getD i undef:=by
     rw[WB,eP,eP,List.getElem?_set_ne (Ne.symm pz)]
    rw[e];have El:mR[i]? =some (mR.getD i undef):=by
     rw[ig KN,eP,ig KN];rfl
    have tr:=gH i _ El pz;have jm:=WD i KN;have WE:= @aM.mc (bc M bM) _ _ _ tr jm;rw[WE];exact aM.lv gf _ tr
  ·exact hY.get fk v' pC
theorem WG [dJ] {α:Type} {P:bB} {N B:Nat} {w0:aG} {Q:Exit->Act->aG->Prop} {M:Mem} {bM:List ad} {bC:Nat->List ad} {o:Option dk} {sl eX:ax} {l:List bG} {dQ:gh} {b t q n c fE:Nat} {cs:List ad} {enc:α->List ad} {xs:List α} {mR:List ad} {mV:Nat}
  (h:KM o b t mV=some (cs,n,c,mR)) (yI:∀x,(enc x).length=fE) (Ci:xs.length=n) (hh:0<n) (iv:n<=c) (hJ:fH cs=true) (rh: @fl (bc M bM) cs=xs.flatMap enc) (ai:l.length<=b)
  (fg:bF (b0 o) sl l=some dQ) (hm:∀aS g,hD (bc M bM) (bc aS (bC g)) dQ) (gn:cK.set (.agg ⟨mR.set mV (al q)⟩) depth sl t=some eX) (cy:∀g,o3 (bC g) q= .slice (some ⟨g,0,none⟩) n c)
  (rest:∀aS g,dr aS fE enc (.slice (some ⟨g,0,none⟩) n c) xs->B<=g->aS g≠none->jM M aS none->M g=none-> @ia (bc aS (bC g)) _ P N B w0 Q (lE {sl:=eX,ms:=[],A:=cS l} o))
  (aT:dJ.jD<=l.length:=by first|exact Nat.zero_le _|exact h3 rfl) (aA:jr (b0 o).A l 0:=by exact jF rfl): @ia (bc M bM) _ P N B w0 Q o:=by
 unfold KM at h;split at h
 ·rename_i op r ops s ks
  split at h
  ·rename_i k ao
   split at h
   ·rename_i cs' gF
    cases jb:(Nat.beq k.fO 0&&(Nat.beq k.dG b&& !k.ro)) with
    |false=>rw[jb] at h;cases h
    |true=>
     rw[jb,cN] at h;simp only [fy] at jb;split at h
     ·rename_i afM y2
      split at h
      ·rename_i b' mr c' n8
       cases qy:(Nat.beq b' b&&G0 afM mV 0) with
       |false=>rw[qy] at h;cases h
       |true=>
        rw[qy,cN] at h;simp only [fy] at qy;cases h;have y3:=ep qy.1;subst y3;refine⟨_,rfl,λa w ae=> ?_⟩;obtain⟨g,aS,q1,aI,bS,fo,iK,mK⟩:=Here.afK yI Ci hh iv ae ao gF (ep jb.1) (ep jb.2.1) hJ rh ai y2 n8 (λi v ak dU=>WC _ mV 0 qy.2 i v ak aj) fg hm gn cy aT aA;obtain⟨ad_,e',ok⟩:=rest aS g q1 aI bS fo iK;unfold lE at e';cases e';exact ok a w mK
      ·cases h
     ·cases h
   ·cases h
  ·cases h
 ·cases h
def WH (P:bB) (N m:Nat) (c2:List Nat) (cs kv:List (Nat×ad)) (o:Option dk) (i:Nat):Option (FuncId×List ad):=
 match (hl o)[i]? with
 |some op=>match op.op with
  | .call c=>match c.callee with
    | .value (.func f)=>bif enters P f then some (f,c.args.toList.map (eQ .nil (qg P N m c2 cs kv o i))) else none
    |_=>none
  |_=>none
 |none=>none
theorem ya.call [bp] {Y:Type} {P:bB} {M:Mem} {B N m k i:Nat} {c2:List Nat} {cs kv:List (Nat×ad)} {o:Option dk} {f:FuncId} {args:List ad} {cL:List df} {rv:Nat->Y->ad} {yb tK:Y->List df} (h:WH P N m c2 cs kv o i=some (f,args)) (hp:fH args=true)
  (ez:∀(w:aG) (y:Y),(∀i o,M i=some o->¬jP cL i->w.heap[i]? =some o)->B<=w.heap.size->dO (a7 w) (yb y)->Calls P f ⟨fl args⟩ w λe' w'=>(∃gQ,e'= .returned (rv k gQ)/\dw (a7 w) (yb y) (a7 w') (tK gQ)/\∀idx,idx<k->rv idx gQ=rv idx y)/\cO 0 w w'):
  ∃op,(hl o)[i]? =some op/\ya P B M cL (hl o) c2 rv k op (qg P N m c2 cs kv o i) yb tK:=by
 unfold WH at h;split at h
 ·rename_i op eb
  split at h
  ·rename_i c w7
   split at h
   ·rename_i nB q2
    cases he:enters P nB with
    |false=>rw[he] at h;cases h
    |true=>
     rw[he,cN] at h;simp only [dL,Prod.mk.injEq] at h;obtain⟨rfl,rfl⟩:=h;refine⟨op,eb,λa w rL Q y p7 mx gk cM kQ d_=> ?_⟩;have hW:c.args.map a.eval=⟨fl (c.args.toList.map (eQ .nil (qg P N m c2 cs kv o i)))⟩:=by
      have:=Pr p7 c.args.toList hp;rw[<-this];apply Array.ext';simp
     have ho:(execOp a.eval op).run P w= .ok (.enter nB ⟨fl (c.args.toList.map (eQ .nil (qg P N m c2 cs kv o i)))⟩) w:=by
      unfold execOp;rw[w7];simp only;refine ei (a:={target:= .fn (.func nB) #[],args:= #[]++c.args.map a.eval}) (by unfold resolve;rw[q2];rfl) ?_;simp only [Array.empty_append,hW];show (callFunc nB (_++ #[])).run P w=_;rw[Array.append_empty];exact kM (FA he _) w
     have hb:∀c',op.op≠.defer c':=λc' h=>by rw[w7] at h;cases h
     refine⟨λ_ _=>trivial,?_⟩;rw[Oper.semAt_eq _ _ _ hb,ho,Oper.uponIn_enter];refine⟨λh=>absurd h (by simp [Fr,Fence.wide]),?_⟩;refine CallsIn.mono (Du (ez w y gk cM kQ)) λe' w2 he=> ?_
     obtain⟨⟨gQ,rfl,c9,eF⟩,az⟩:=he;exact d_ gQ w2 c9 az eF
   ·cases h
  ·cases h
 ·cases h
end a1
namespace a1
mutual
theorem WI (s1 s2:bp) (h:s1.σ=s2.σ):∀v:ad,@bb s1 v= @bb s2 v:=λv=>by
 unfold bb;split
 ·rw[h]
 ·rw[WI s1 s2 h]
 ·rw[G2 s1 s2 h]
 ·rw[G2 s1 s2 h]
 ·rw[G2 s1 s2 h,G2 s1 s2 h]
 ·rfl
theorem G2 (s1 s2:bp) (h:s1.σ=s2.σ):∀l:List ad,@fl s1 l= @fl s2 l
 |[]=>rfl
 |v::r=>by
  unfold fl;rw[WI s1 s2 h v,G2 s1 s2 h r]
end
def ali (P:bB) (N m:Nat) (c2:List Nat) (cs kv:List (Nat×ad)) (o:Option dk) (i:Nat):Option jJ:=
 match (hl o)[i]? with
 |some op=>ug (eQ .nil (qg P N m c2 cs kv o i)) op
 |none=>none
def Pz (ops:Array Oper) (c2:List Nat) (k:Nat) (x:Operand):ad ⊕ Nat:=match x with
 | .tmp t=>match (List.range k).find? (λq=>match c2[q]? with|some j=>(match gv ops j with|some fk=>Nat.beq fk t|none=>false)|none=>false) with
   |some q=> .inr q
   |none=> .inl c3
 |_=> .inl c3
def zc (ops:Array Oper) (c2:List Nat) (k:Nat) (sl:ax) (x:Operand):ad ⊕ Nat:=
 bif bL (eQ .nil sl x) then .inl (eQ .nil sl x) else Pz ops c2 k x
def Em:List (ad ⊕ Nat)->Bool
 |[]=>true
 | .inl v::r=>bL v&&Em r
 | .inr _::r=>Em r
def AK [bp] {Y:Type} (rv:Nat->Y->ad) (y:Y):List (ad ⊕ Nat)->List ad
 |[]=>[]
 | .inl v::r=>bb v::AK rv y r
 | .inr q::r=>rv q y::AK rv y r
theorem WJ [bp] {Y:Type} {ops:Array Oper} {c2:List Nat} {k:Nat} {sl:ax} {a:Act} {rv:Nat->Y->ad} {y:Y} (p7:∀x:Operand,bL (eQ .nil sl x)=true->a.eval x=bb (eQ .nil sl x))
  (mx:∀(idx i:Nat) (t:Tmp),idx<k->c2[idx]? =some i->gv ops i=some t->a.tmps.getD t undef=rv idx y):∀(l:List Operand),Em (l.map (zc ops c2 k sl))=true->l.map a.eval=AK rv y (l.map (zc ops c2 k sl))
 |[],_=>rfl
 |x::l,h=>by
  have eJ:=WJ (ops:=ops) (c2:=c2) (k:=k) (sl:=sl) p7 mx l;rw[List.map_cons,List.map_cons];rw[List.map_cons] at h;cases ai:bL (eQ .nil sl x) with
  |true=>
   have e:zc ops c2 k sl x= .inl (eQ .nil sl x):=by unfold zc;rw[ai];rfl
   rw[e] at h ⊢;unfold Em at h;simp only [fy] at h;unfold AK;rw[p7 x ai,eJ h.2]
  |false=>
   have b4:zc ops c2 k sl x=Pz ops c2 k x:=by unfold zc;rw[ai];rfl
   unfold Pz at b4;cases x with
   |tmp t=>
    simp only at b4;split at b4
    ·rename_i q cy
     rw[b4] at h ⊢;unfold Em at h;unfold AK;have af:=List.find?_some cy;have ah:=List.mem_range.1 (List.mem_of_find?_eq_some cy);split at af
     ·rename_i j aq
      split at af
      ·rename_i fk bw
       have:=ep af;subst this;rw[eJ h,<-mx q j fk ah aq bw];rfl
      ·cases af
     ·cases af
    ·rw[b4] at h;cases h
   |_=>rw[b4] at h;cases h
def En (P:bB) (N m:Nat) (c2:List Nat) (cs kv:List (Nat×ad)) (o:Option dk) (k i:Nat):Option (FuncId×List (ad ⊕ Nat)):=
 match (hl o)[i]? with
 |some op=>match op.op with
  | .call c=>match c.callee with
    | .value (.func f)=>bif enters P f then some (f,c.args.toList.map (zc (hl o) c2 k (qg P N m c2 cs kv o i))) else none
    |_=>none
  |_=>none
 |none=>none
theorem ya.KO [bp] {Y:Type} {P:bB} {M:Mem} {B N m k i:Nat} {c2:List Nat} {cs kv:List (Nat×ad)} {o:Option dk} {f:FuncId} {args:List (ad ⊕ Nat)} {cL:List df} {rv:Nat->Y->ad} {yb tK:Y->List df} (h:En P N m c2 cs kv o k i=some (f,args)) (hp:Em args=true)
  (ez:∀(w:aG) (y:Y),(∀i o,M i=some o->¬jP cL i->w.heap[i]? =some o)->B<=w.heap.size->dO (a7 w) (yb y)->Calls P f ⟨AK rv y args⟩ w λe' w'=>(∃gQ,e'= .returned (rv k gQ)/\dw (a7 w) (yb y) (a7 w') (tK gQ)/\∀idx,idx<k->rv idx gQ=rv idx y)/\cO 0 w w'):
  ∃op,(hl o)[i]? =some op/\ya P B M cL (hl o) c2 rv k op (qg P N m c2 cs kv o i) yb tK:=by
 unfold En at h;split at h
 ·rename_i op eb
  split at h
  ·rename_i c w7
   split at h
   ·rename_i nB q2
    cases he:enters P nB with
    |false=>rw[he] at h;cases h
    |true=>
     rw[he,cN] at h;simp only [dL,Prod.mk.injEq] at h;obtain⟨rfl,rfl⟩:=h;refine⟨op,eb,λa w rL Q y p7 mx gk cM kQ d_=> ?_⟩;have hW:c.args.map a.eval=⟨AK rv y (c.args.toList.map (zc (hl o) c2 k (qg P N m c2 cs kv o i)))⟩:=by
      have:=WJ p7 mx c.args.toList hp;rw[<-this];apply Array.ext';simp
     have ho:(execOp a.eval op).run P w= .ok (.enter nB ⟨AK rv y (c.args.toList.map (zc (hl o) c2 k (qg P N m c2 cs kv o i)))⟩) w:=by
      unfold execOp;rw[w7];simp only;refine ei (a:={target:= .fn (.func nB) #[],args:= #[]++c.args.map a.eval}) (by unfold resolve;rw[q2];rfl) ?_;simp only [Array.empty_append,hW];show (callFunc nB (_++ #[])).run P w=_;rw[Array.append_empty];exact kM (FA he _) w
     have hb:∀c',op.op≠.defer c':=λc' h=>by rw[w7] at h;cases h
     refine⟨λ_ _=>trivial,?_⟩;rw[Oper.semAt_eq _ _ _ hb,ho,Oper.uponIn_enter];refine⟨λh=>absurd h (by simp [Fr,Fence.wide]),?_⟩;refine CallsIn.mono (Du (ez w y gk cM kQ)) λe' w2 he=> ?_
     obtain⟨⟨gQ,rfl,c9,eF⟩,az⟩:=he;exact d_ gQ w2 c9 az eF
   ·cases h
  ·cases h
 ·cases h
theorem KP {Y Z:Type} {P:bB} {f:FuncId} {args:Array ad} {w:aG} {rv:Nat->Y->ad} {k:Nat} {y:Y} {L o9:List df} {tK:Y->List df} {r:Z->ad} (ay:dO (a7 w) L) (is:List Nat) (kX:mB L.length is=true) (hp:a1.pick L is=o9) (sC N y7:Z->List df) (az:∀z,(sC z).length=is.length) (ck:∀z,y7 z=sC z++N z)
  (up:Z->Y) (af:∀z,rv k (up z)=r z) (ah:∀z,tK (up z)=oJ L is (sC z)++N z) (aH:∀z idx,idx<k->rv idx (up z)=rv idx y)
  (h:Calls P f args w λe' w'=>(∃z,e'= .returned (r z)/\dw (a7 w) o9 (a7 w') (y7 z))/\cO 0 w w'):
  Calls P f args w λe' w'=>(∃gQ,e'= .returned (rv k gQ)/\dw (a7 w) L (a7 w') (tK gQ)/\∀idx,idx<k->rv idx gQ=rv idx y)/\cO 0 w w':=by
 refine h.mono λe w' he=> ?_
 obtain⟨⟨z,rfl,t⟩,AI⟩:=he;refine⟨⟨up z,by rw[af],?_,aH z⟩,AI⟩;rw[ah];rw[ck] at t;exact dw.lift ay is kX hp (az z) t
theorem KQ {p:Nat->Prop} (idx:Nat) (h:idx<0):p idx:=absurd h (Nat.not_lt_zero _)
theorem WK {p:Nat->Prop} {k:Nat} (af:∀idx,idx<k->p idx) (ah:p k) (idx:Nat) (h:idx<k+1):p idx:=by
 rcases Nat.lt_or_ge idx k with aH|aH
 ·exact af idx aH
 ·have:idx=k:=by omega
  subst this;exact ah
theorem afN {p:Nat->ad->Prop} {j:Nat} {u:ad} {l:List (Nat×ad)} (h:p j u) (az:∀i v,rn l i=some v->p i v):∀i v,rn ((j,u)::l) i=some v->p i v:=λi v ak=>by
 unfold rn at ak;cases ai:Nat.beq j i with
 |true=>
  rw[ai,cN] at ak;cases ak;rw[<-ep ai];exact h
 |false=>
  rw[ai,fI] at ak;exact az i v ak
theorem KR {Y:Type} {rv:Nat->Y->ad} {cs:List (Nat×ad)} {k i:Nat} {u:ad} (h:rn cs i=some u) (hp:plain u=true) (ar:∀y,rv k y=u):∀v,rn cs i=some v->plain v=true/\∀y,rv k y=v:=λv aR=>by
 rw[h] at aR;cases aR;exact⟨hp,ar⟩
section
variable [bp] {P:bB}
theorem aW.WL {t:bq} {x:ad} {a:Addr} (aw:bL x=true) (bw:P.underlying t=some (.pointer (P.pointee t))) (ex:bb x= .pointer (some a)):aW P (.bin .eql t x (.pointer none),.bool false):=
 wP (b:= .pointer none) aw J J ex rfl λe0 e1 w=>by unfold hi;simp [eqGuard,run_eql_pointer_nil w t (some a) bw];rfl
end
theorem Eo {P:bB} {f:FuncId} {args:Array ad} {w:aG} {v:ad} {L:List df} (ay:dO (a7 w) L) (h:Calls P f args w λe w'=>e= .returned v/\cO w.heap.size w w'):
  Calls P f args w λe w'=>(∃_:Unit,e= .returned v/\dw (a7 w) L (a7 w') L)/\cO 0 w w':=
 h.mono λe w' he=>by
   obtain⟨rfl,az⟩:=he;have ao:∀i o,a7 w i=some o->a7 w' i=some o:=λi o ak=>by
    rw[show a7 w' i=a7 w i from az.block i (Array.getElem?_eq_some_iff.1 ak).1];exact ak
   exact⟨⟨(),rfl,ay.mono λb o _ h=>ao b o h,λi o ak _=>ao i o ak,λb ai=> .inl ai⟩,az.zero⟩
def lG {α:Type} (p:Nat->α->Prop):Nat->List α->Prop
 |_,[]=>True
 |q,x::l=>p q x/\lG p (q+1) l
theorem lG.nil {α:Type} {p:Nat->α->Prop} {q:Nat}:lG p q []:=trivial
theorem lG.cons {α:Type} {p:Nat->α->Prop} {q:Nat} {x:α} {l:List α} (h:p q x) (t:lG p (q+1) l):lG p q (x::l):=⟨h,t⟩
theorem lG.get {α:Type} {p:Nat->α->Prop}:∀{q:Nat} {l:List α},lG p q l->∀k i,l[k]? =some i->p (q+k) i
 |q,[],_,k,i,ak=>by simp at ak
 |q,x::l,h,k,i,ak=>by
  match k with
  |0=>simp only [List.getElem?_cons_zero,dL] at ak;subst ak;exact h.1
  |k+1=>
   have:=lG.get h.2 k i (by simpa using ak);rw[show q+(k+1)=q+1+k by omega];exact this
def vH (p:Nat->ad->Prop):List (Nat×ad)->Prop
 |[]=>True
 |x::l=>p x.1 x.2/\vH p l
theorem vH.nil {p:Nat->ad->Prop}:vH p []:=trivial
theorem vH.cons {p:Nat->ad->Prop} {j:Nat} {u:ad} {l:List (Nat×ad)} (h:p j u) (t:vH p l):vH p ((j,u)::l):=⟨h,t⟩
theorem vH.get {p:Nat->ad->Prop}:∀{l:List (Nat×ad)},vH p l->∀i v,rn l i=some v->p i v
 |[],_,i,v,h=>by cases h
 |(j,u)::l,h,i,v,ak=>afN (p:=p) h.1 (vH.get h.2) i v ak
theorem WM [dJ] {P:bB} {N B:Nat} {w0:aG} {Q:Exit->Act->aG->Prop} {M:Mem} {bM:List ad} {Y:Type} {bC:Y->List ad} {o:Option dk} {m:Nat} {eB cs kv:List (Nat×ad)} {c2:List Nat} {L:Nat->Y->List df} {rv:Nat->Y->ad} {gp e6:ax} {c7:List bG} {dQ:gh} {e9:Mem} {e2 o_ cL:List df}
  (a_:cC B e9 e2 M o_) (is:List Nat) (wm:eB.map (·.1)=c2) (kX:mB o_.length is=true) (hp:a1.pick o_ is=cL)
  (et:P.follows .mixedOrders=true) (h:(Ct P N m c2 cs kv o).isSome=true) (hb:c2.Nodup) (vi:Y) (Km:L 0 vi=cL)
  (hJ:lG (λk i=>∀v,rn cs i=some v->plain v=true/\∀y,rv k y=v) 0 c2)
  (w_:vH (λi v=>bL v=true/\∃op,(hl o)[i]? =some op/\ @Ww (bc M bM) P M cL op (qg P N m c2 cs kv o i) v) kv)
  (mP:lG (λk i=>∃op,(hl o)[i]? =some op/\ @ya (bc M bM) Y P B M cL (hl o) c2 rv k op (qg P N m c2 cs kv o i) (L k) (L (k+1))) 0 c2)
  (fg:bF (Cu P N m c2 cs kv o) gp c7=some dQ) (iQ:vG N (hl o) eB gp=some e6) (gH:eB.all (λp=>bL p.2)=true)
  (dc:∀y aS,lG (λk (p:Nat×ad)=> @bb (bc aS (bC y)) p.2=rv k y) 0 eB) (hm:∀y aS,hD (bc M bM) (bc aS (bC y)) dQ)
  (rest:∀y aS,dw M cL aS (L eB.length y)->∀bR w,@Here (bc aS (bC y)) _ N {sl:=e6,ms:=[],A:=cS c7} B w0 bR w->wpListIn (Fr none) 0 P (hl o) (fF P (gi o) Q) (y' m o) bR w)
  (aT:dJ.jD<=c7.length:=by first|exact Nat.zero_le _|exact h3 rfl) (aA:jr (b0 o).A c7 0:=by exact jF rfl): @ia (bc M bM) _ P N B w0 Q o:=by
 subst wm;exact afE a_ is kX hp et h hb vi Km (λk i v ao aR=>by have:=hJ.get k i ao;rw[Nat.zero_add] at this;exact this v aR) w_.get
  (λk i ao=>by have:=mP.get k i ao;rw[Nat.zero_add] at this;exact this) fg iQ gH (λy aS k p ao=>by have:=(dc y aS).get k p ao;rw[Nat.zero_add] at this;exact this) hm rest aT aA
end a1
section
noncomputable section
namespace a1
abbrev aU:=List (jJ×ad)
abbrev dm:=List (FuncId×List ad×ad)
abbrev at' (N:Nat) (F:aU) (C:dm) (c:Code) (s:c6):Option dk:=UL Tryd.prog F C N 1000 10 c s
abbrev jf (N:Nat) (F:aU) (C:dm) (ks:List hj) (o:Option dk):Option dk:=UM Tryd.prog F C N 1000 10 ks o
abbrev uG (N:Nat) (F:aU) (C:dm) (m:Nat) (o:Option dk):Option dk:=N6 Tryd.prog F C N 1000 10 m o
abbrev AL (N:Nat) (F:aU) (C:dm) (r:List Oper) (ops:Array Oper) (ks:List hj) (s:c6):Option dk:=F' Tryd.prog F C N 1000 10 r ops ks s
abbrev ct:=Code×List Nat×Nat
def ky (p:ct):Array Oper:=adX p.1 p.2.1
def Ep (p:ct):List hj:=lp p.1 p.2.1 []
def Er (p:ct):List Oper:=(ky p).toList.drop p.2.2
def PA (o:Option dk):List Oper×Array Oper×List hj:=(oc o,nG o,gi o)
def oM (p:ct):List Oper×Array Oper×List hj:=(Er p,ky p,Ep p)
abbrev bD (N:Nat) (F:aU) (C:dm) (p:ct) (s:c6):Option dk:=F' Tryd.prog F C N 1000 10 (Er p) (ky p) (Ep p) s
def dS (N:Nat) (sl:ax) (dst:Nat) (v:ad):ax:=match e8 N sl (some dst) v with|some s=>s|none=> .nil
section
variable [bp] [dJ] {N B:Nat} {w0 w:aG} {a:Act} {Q:Exit->Act->aG->Prop} [o4 Q]
theorem br (F:aU) (T:dm) {c:Code} {s:c6} (gg:uw Tryd.prog F) (kW:sv Tryd.prog T) (h:ia Tryd.prog N B w0 Q (at' N F T c s)) (ae:Here N s B w0 a w):c.wpIn (Fr none) 0 Tryd.prog Q a w:=acV mixed gg kW h ae
theorem cm {o:Option dk} {p:ct} {s:c6} (e:PA o=oM p) (F:aU) (T:dm) (gg:uw Tryd.prog F) (kW:sv Tryd.prog T) (h:ia Tryd.prog N B w0 Q (bD N F T p s)) (ae:Here N s B w0 a w):wpListIn (Fr none) 0 Tryd.prog (nG o) (fF Tryd.prog (gi o) Q) (oc o) a w:=
 adY (congrArg Prod.fst e) (congrArg (λx=>x.2.1) e) (congrArg (λx=>x.2.2) e) mixed gg kW h ae
theorem j3 {ks:List hj} {o:Option dk} {R:Act->aG->Prop} (F:aU) (T:dm) (gg:uw Tryd.prog F) (kW:sv Tryd.prog T) (h:ia Tryd.prog N B w0 Q (jf N F T ks o)):ia Tryd.prog N B w0 (Exit.then R (fF Tryd.prog ks Q)) o:=acW mixed gg kW h
end
theorem b7 {s1 s2:bp} {l:gh} (h:hD s1 s2 l:=by repeat (first|exact yT|refine lo (by first|exact w3 J J J J|rfl|exact acZ J J aj|exact acY aj|exact wV rfl aY) ?_)):hD s1 s2 l:=h
theorem Here.nQ [dJ] {s1:bp} (s2:bp) {N B:Nat} {st:c6} {w0 w:aG} {a:Act} {sl:ax} {l:List bG} {dQ:gh} (fg:bF st sl l=some dQ) (hm:hD s1 s2 dQ) (ae: @Here s1 _ N st B w0 a w)
 (pF:∀i o,s2.dz i=some o->s1.dz i=some o:=by exact λ_ _ h=>h) (aT:dJ.jD<=l.length:=by first|exact Nat.zero_le _|exact h3 rfl) (aA:jr st.A l 0:=by exact jF rfl): @Here s2 _ N {sl,ms:=[],A:=cS l} B w0 a w:=Here.move fg hm pF aT aA ae
theorem e3 {s1:bp} [dJ] {P:bB} {N B:Nat} {w0:aG} {X:Type} {fW:X->bp} {ku:X->Prop} {nE:X->Nat} {m:Nat} {head:ax} {c7:List bG} {o:Option dk} (x':X) {dQ:gh} {Q:Exit->Act->aG->Prop} (ai:eV head c7 o=some dQ) (hm:hD s1 (fW x') dQ)
 (aK:ku x') (Pg:nE x'<m:=by (try dsimp only);omega) (pF:∀i o,(fW x').dz i=some o->s1.dz i=some o:=by exact λ_ _ h=>h) (aT:dJ.jD<=c7.length:=by first|exact Nat.zero_le _|exact h3 rfl) (aA:jr (b0 o).A c7 0:=by exact jF rfl):
 @ia s1 _ P N B w0 (Exit.then (Pf fW ku nE m N head c7 B w0) Q) o:=ae' x' ai hm pF aK Pg aT aA
section
variable [bp] {P:bB}
theorem bf {op:BinOp} {t:bq} {x y r:ad} {k:IntKind} {a b:Int} (ex:bb x= .int k a:=by exact rfl) (iV:bb y= .int k b:=by exact rfl)
 (aw:bL x=true:=by exact rfl) (hy:bL y=true:=by exact rfl) (ar:bL r=true:=by exact rfl) (eb:BY op=true:=by exact rfl) (dc:bb r=Ah op k a b:=by exact ada aj):aW P (.bin op t x y,r):=aW.bi aw hy ar eb ex iV dc
theorem a' {op:BinOp} {t:bq} {x y r:ad} {k:IntKind} {a b:Int} (ex:bb x= .int k a:=by exact rfl) (iV:bb y= .int k b:=by exact rfl)
 (aw:bL x=true:=by exact rfl) (hy:bL y=true:=by exact rfl) (ar:bL r=true:=by exact rfl) (eb:BY op=true:=by exact rfl) (dc:bb r=Ah op k a b:=by exact adb aj):aW P (.bin op t x y,r):=aW.bi aw hy ar eb ex iV dc
theorem vI {op:BinOp} {t:bq} {x y r:ad} {k:IntKind} {a b:Int} (ex:bb x= .int k a:=by exact rfl) (iV:bb y= .int k b:=by exact rfl)
 (aw:bL x=true:=by exact rfl) (hy:bL y=true:=by exact rfl) (ar:bL r=true:=by exact rfl) (eb:BY op=true:=by exact rfl) (dc:bb r=Ah op k a b:=by exact ade aj):aW P (.bin op t x y,r):=aW.bi aw hy ar eb ex iV dc
theorem uH {op:BinOp} {t:bq} {x y r:ad} {k:IntKind} {a b:Int} (ex:bb x= .int k a:=by exact rfl) (iV:bb y= .int k b:=by exact rfl)
 (aw:bL x=true:=by exact rfl) (hy:bL y=true:=by exact rfl) (ar:bL r=true:=by exact rfl) (eb:BY op=true:=by exact rfl) (dc:bb r=Ah op k a b:=by exact adf aj):aW P (.bin op t x y,r):=aW.bi aw hy ar eb ex iV dc
theorem gU {op:BinOp} {t:bq} {x y r:ad} {k:IntKind} {a b:Int} (ex:bb x= .int k a:=by exact rfl) (iV:bb y= .int k b:=by exact rfl)
 (aw:bL x=true:=by exact rfl) (hy:bL y=true:=by exact rfl) (ar:bL r=true:=by exact rfl) (eb:BY op=true:=by exact rfl) (dc:bb r=Ah op k a b:=by exact j1 aj aj aj):aW P (.bin op t x y,r):=aW.bi aw hy ar eb ex iV dc
theorem dB {x r:ad} {a:Addr} (ex:bb x= .pointer (some a):=by exact rfl) (dc:bb r= .pointer (some a):=by exact rfl) (aw:bL x=true:=by exact rfl) (ar:bL r=true:=by exact rfl):aW P (.dt x,r):=aW.adU aw ar ex dc
theorem b1 {s:bq} {x r:ad} {f g o:Nat} (ty off m:Nat) (ex:bb x= .pointer (some ⟨g,o,none⟩):=by exact rfl) (dc:bb r= .pointer (some ⟨g,o+off,none⟩):=by exact rfl) (aw:bL x=true:=by exact rfl) (ar:bL r=true:=by exact rfl)
 (bn:((P.fieldsOf s)[f]?).map (λf=>(f.type,f.offset))=some (ty,off):=by kernel_rfl) (ay:bZ P (underlying s)=some (.struct (P.fieldsOf s)):=by kernel_rfl) (hm:bZ P (sizeOf ty)=some m:=by kernel_rfl) (bd:m≠0:=by decide):aW P (.bQ s x f,r):=aW.adV bn ay hm bd aw ar ex dc
section
variable {B g:Nat} {e9:Mem} {cL L:List df}
theorem cu {ty t:bq} {cs:List ad} {p r u:ad} (j i:Nat) (dZ:cC B e9 cL bp.dz L) (ak:L[i]? =some (cb g ty cs):=by exact rfl) (nn:bb p= .pointer (some ⟨g,j,none⟩):=by exact rfl) (aq:cs[j]? =some u:=by exact rfl) (dc:bb r=u:=by exact rfl)
 (hp:bL p=true:=by exact rfl) (ar:bL r=true:=by exact rfl) (cG:bZ P (isAgg t)=some false:=by kernel_rfl):aW P (.bh t p,r):=aW.Ow (dZ.box i ak) aq hp ar cG nn dc
theorem j_ {ty t:bq} {cs us:List ad} {p r:ad} (o n i:Nat) (dZ:cC B e9 cL bp.dz L) (ak:L[i]? =some (cb g ty cs):=by exact rfl) (nn:bb p= .pointer (some ⟨g,o,none⟩):=by exact rfl) (hu:us=(cs.drop o).take n:=by exact rfl) (dc:bb r= .agg ⟨us⟩:=by exact rfl)
 (hp:bL p=true:=by exact rfl) (ar:bL r=true:=by exact rfl) (cG:bZ P (isAgg t)=some true:=by kernel_rfl) (aT:bZ P (sizeOf t)=some n:=by kernel_rfl) (az:us.length=n:=by exact rfl):aW P (.bh t p,r):=aW.OD (dZ.box i ak) hu hp ar cG aT az nn dc
end
section
variable {α:Type} {k:Nat} {enc:α->List ad} {v:ad} {l:List α}
theorem Cv {t e:bq} {x i r:ad} {j:Nat} {BZ:IntKind} (h:dr bp.dz k enc v l) (aq:j<l.length) (bw:P.underlying t=some (.slice e)) (dV:bZ P (sizeOf e)=some k) (ex:bb x=v:=by exact rfl) (o2:bb i= .int BZ j:=by exact rfl) (dc:bb r=fM v (j*k):=by exact rfl)
 (aw:bL x=true:=by exact rfl) (ak:bL i=true:=by exact rfl) (ar:bL r=true:=by exact rfl):aW P (.cV t x i,r):=aW.JT h aq aw ak ar bw dV ex o2 dc
theorem f' {t e:bq} {x i r:ad} {j:Nat} {BZ:IntKind} (h:dr bp.dz k enc v l) (bw:P.underlying t=some (.slice e)) (dV:bZ P (sizeOf e)=some k) (ex:bb x=v:=by exact rfl) (o2:bb i= .int BZ j:=by exact rfl) (dc:bb r=fM v (j*k):=by exact rfl) (aq:j<l.length:=by omega)
 (aw:bL x=true:=by exact rfl) (ak:bL i=true:=by exact rfl) (ar:bL r=true:=by exact rfl):aW P (.cV t x i,r):=aW.JT h aq aw ak ar bw dV ex o2 dc
theorem im {t:bq} {p r:ad} {i o:Nat} {x:α} {u:ad} (j:Nat) (h:dr bp.dz k enc v l) (ak:l[i]? =some x) (cG:bZ P (isAgg t)=some false) (hu:(enc x)[j]? =some u:=by exact rfl) (bW:o=i*k+j:=by exact rfl) (ex:bb p=fM v o:=by exact rfl) (dc:bb r=u:=by exact rfl)
 (hp:bL p=true:=by exact rfl) (ar:bL r=true:=by exact rfl):aW P (.bh t p,r):=aW.acJ h ak hp ar cG bW hu ex dc
theorem e4 {t ty e:bq} {x r:ad} (h:dr bp.dz k enc v l) (bw:P.underlying t=some (.slice e)) (ex:bb x=v:=by exact rfl) (dc:bb r= .int .i64 l.length:=by exact rfl) (aw:bL x=true:=by exact rfl) (ar:bL r=true:=by exact rfl):aW P (.len #[t] ty x,r):=aW.acH h aw ar bw ex dc
end
end
abbrev aO {α:Type} (a:Option Addr) (l:List α) (c:Nat):ad:= .slice a l.length c
abbrev bj (g o:Nat):ad:= .pointer (some ⟨g,o,none⟩)
abbrev zd {α:Type} (e:bq) (k:Nat) (enc:α->List ad) (a:Option Addr) (l:List α) (c:Nat):df:=fY e k enc (.slice a l.length c) l
abbrev oN {α:Type} (e:bq) (k:Nat) (enc:α->List ad) (a:Option Addr) (l:List α) (c:Nat):df:=kd e k enc (.slice a l.length c) l
abbrev qL {α:Type} (e:bq) (k:Nat) (enc:α->List ad) (a:Option Addr) (n c:Nat) (l:List α):df:=fY e k enc (.slice a n c) l
abbrev uI (a:Option Addr) (l:List Nat) (c:Nat):df:=zd nO 1 mD a l c
abbrev AM (a:Option Addr) (l:List cc) (c:Nat):df:=zd oK 4 kh a l c
abbrev mj (a:Option Addr) (n c:Nat) (l:List cc):df:=qL oK 4 kh a n c l
abbrev uJ (a:Option Addr) (l:List Bool) (c:Nat):df:=zd mT 1 iw a l c
abbrev h1 (a:Option Addr) (n c:Nat) (l:List Bool):df:=qL mT 1 iw a n c l
abbrev rp (a:Option Addr) (l:List Int) (c:Nat):df:=zd lD 1 gq a l c
abbrev j4 (a:Option Addr) (n c:Nat) (l:List Int):df:=qL lD 1 gq a n c l
abbrev KS (a:Option Addr) (l:List dx) (c:Nat):df:=zd qc 8 js a l c
abbrev rq (a:Option Addr) (n c:Nat) (l:List dx):df:=qL qc 8 js a n c l
abbrev pa (a:Option Addr) (l:List Nat) (c:Nat):df:=oN nO 1 mD a l c
abbrev pL (a:Option Addr) (l:List e2) (c:Nat):df:=oN rl 5 pK a l c
abbrev qh (a:Option Addr) (l:List gJ) (c:Nat):df:=oN qI 3 oL a l c
instance instSymN (n:Nat):OfNat ad n:=⟨al n⟩
abbrev I (x:Int):ad:= .int .i64 x
theorem ey {α:Type} (a:α):∃x,x=a:=⟨a,rfl⟩
abbrev cC.mL {B:Nat} {e9:Mem} {cL:List df} {M:Mem} {L:List df} (_:cC B e9 cL M L):List df:=cL
def eW (o:Option dk):Option (FuncId×List ad):=match yU Tryd.prog o with|some x=>some (x.1,x.2.1)|none=>none
theorem PB {o:Option dk} {f:FuncId} {args:List ad} (h:eW o=some (f,args)):(yU Tryd.prog o).isSome=true/\(vA Tryd.prog o).1=f/\(vA Tryd.prog o).2.1=args:=by
 unfold eW at h;unfold vA;cases e:yU Tryd.prog o with
 |none=>rw[e] at h;cases h
 |some x=>rw[e] at h;cases h;exact⟨rfl,rfl,rfl⟩
theorem e5 [dJ] {N B:Nat} {w0:aG} {Q:Exit->Act->aG->Prop} {M:Mem} {bM:List ad} {o:Option dk} {f:FuncId} {args:List ad} {hk:ad} {Y:Type} {bC:Y->List ad} {gp e6:ax} {c7:List bG} {dQ:gh} {e9:Mem} {e2 o_:List df} {y7:Y->List df}
  (a_:cC B e9 e2 M o_) (is:List Nat) (sC Ed:Y->List df) (he:eW o=some (f,args)) (fg:bF (hQ Tryd.prog o) gp c7=some dQ) (iQ:e8 N gp (qa o) hk=some e6)
  (kX:mB o_.length is=true:=by exact rfl) (jZ:∀y,y7 y=sC y++Ed y:=by exact λ_=>rfl)
  (ez:∀w,(∀i o,M i=some o->w.heap[i]? =some o)->B<=w.heap.size->dO (a7 w) (a1.pick o_ is)->Calls Tryd.prog f ⟨@fl (bc M bM) args⟩ w λe w'=>(∃y,e= .returned (@bb (bc M (bC y)) hk)/\dw (a7 w) (a1.pick o_ is) (a7 w') (y7 y))/\cO 0 w w')
  (rest:∀aS y,cC B e9 e2 aS (oJ o_ is (sC y)++Ed y)->∀bR w,@Here (bc aS (bC y)) _ N {sl:=e6,ms:=[],A:=cS c7} B w0 bR w->wpListIn (Fr none) 0 Tryd.prog (nG o) (fF Tryd.prog (gi o) Q) (oc o) bR w)
  (ar:∀aS y,@bb (bc aS (bC y)) hk= @bb (bc M (bC y)) hk:=by exact λ_ _=>rfl)
  (hm:∀y aS,hD (bc M bM) (bc aS (bC y)) dQ:=by exact λ_ _=>b7)
  (hlen:∀y,(sC y).length=is.length:=by exact λ_=>rfl) (hp:fH args=true:=by rfl) (gH:bL hk=true:=by rfl)
  (aT:dJ.jD<=c7.length:=by first|exact Nat.zero_le _|exact h3 rfl) (aA:jr (hQ Tryd.prog o).A c7 0:=by exact jF rfl): @ia (bc M bM) _ Tryd.prog N B w0 Q o:=
 ae_ a_ is sC Ed (PB he).1 (PB he).2.1 (PB he).2.2 fg iQ kX ar jZ ez hm rest hlen hp gH aT aA
section
variable [bp] {f:FuncId} {fn:Func} {args:List ad} {W:aG} {R:Ending->aG->Prop}
theorem WN (c:Code) (aZ:c6) (N:Nat) (args:List ad) (nj:n9 W) (p9:Tryd.prog.funcs[f]? =some fn) (su:∀a,@Here _ rO N aZ W.heap.size W a W->c.wpIn (Fr none) 0 Tryd.prog (@tw rO Tryd.prog fn N W.heap.size W R) a W)
  (aA:fn.body=some c:=by kernel_rfl) (hg:(match setArgs 0 args .nil with|some sl=>some ({sl,ms:=[],A:=start}:c6)|none=>none)=some aZ:=by kernel_rfl) (hp:fH args=true:=by kernel_rfl) (kN:args.length+(fn.ntmps-args.length)=N:=by kernel_rfl):Calls Tryd.prog f ⟨fl args⟩ W R:=by
 cases e:setArgs 0 args .nil with
 |none=>rw[e] at hg;cases hg
 |some sl=>rw[e] at hg;cases hg;exact acX p9 aA e hp kN nj su
theorem afO (c:Code) (aZ:c6) (N:Nat) (args:List ad) (nj:n9 W) (p9:Tryd.prog.funcs[f]? =some fn) (su:∀a,@Here _ rO N aZ 0 W a W->c.wpIn (Fr none) 0 Tryd.prog (@tw rO Tryd.prog fn N 0 W R) a W)
  (aA:fn.body=some c:=by kernel_rfl) (hg:(match setArgs 0 args .nil with|some sl=>some ({sl,ms:=[],A:=start}:c6)|none=>none)=some aZ:=by kernel_rfl) (hp:fH args=true:=by kernel_rfl) (kN:args.length+(fn.ntmps-args.length)=N:=by kernel_rfl):Calls Tryd.prog f ⟨fl args⟩ W R:=by
 cases e:setArgs 0 args .nil with
 |none=>rw[e] at hg;cases hg
 |some sl=>rw[e] at hg;cases hg;exact ac7 p9 aA e hp kN nj su
end
def WO:Option dk->List Oper
 |some (.oper o r _ _ _)=>o::r
 |_=>[]
def qi (o:Option dk):List Oper×Array Oper×List hj:=(WO o,nG o,gi o)
section
variable [dJ] {N B:Nat} {w0:aG} {X:Type}
def WQ (N B:Nat) (w0:aG) (fW:X->bp) (ku:X->Prop) (bu:ax) (ze:List bG) (tL:ct) (Q:Exit->Act->aG->Prop):Prop:=∀x,ku x->∀a w,@Here (fW x) _ N (aN bu ze) B w0 a w->wpListIn (Fr none) 0 Tryd.prog (ky tL) (fF Tryd.prog (Ep tL) Q) (Er tL) a w
theorem PC {c:Code} {Q:Exit->Act->aG->Prop} {a:Act} {w:aG} (fW:X->bp) (ku:X->Prop) (bu:ax) (ze:List bG) (tL:ct)
 (tail:∀x,ku x->∀a w,@Here (fW x) _ N (aN bu ze) B w0 a w->wpListIn (Fr none) 0 Tryd.prog (ky tL) (fF Tryd.prog (Ep tL) Q) (Er tL) a w)
 (k:WQ N B w0 fW ku bu ze tL Q->c.wpIn (Fr none) 0 Tryd.prog Q a w):c.wpIn (Fr none) 0 Tryd.prog Q a w:=k tail
theorem qM {s1:bp} {fW:X->bp} {ku:X->Prop} {Q:Exit->Act->aG->Prop} {bu:ax} {ze:List bG} {tL:ct} {o:Option dk} {dQ:gh}
  (afP:WQ N B w0 fW ku bu ze tL Q) (x:X) (e:qi o=oM tL) (fg:bF (b0 o) bu ze=some dQ) (hm:hD s1 (fW x) dQ) (aK:ku x)
  (bW:(WO o).isEmpty=false:=by kernel_rfl) (pF:∀i o,(fW x).dz i=some o->s1.dz i=some o:=by exact λ_ _ h=>h) (aT:dJ.jD<=ze.length:=by first|exact Nat.zero_le _|exact h3 rfl) (aA:jr (b0 o).A ze 0:=by exact jF rfl):
  @ia s1 _ Tryd.prog N B w0 Q o:=by
 match o,bW with
 |some (.oper o' r ops s ks),_=>
  refine⟨_,rfl,λa w ae=> ?_⟩;have ah:=afP x aK a w (Here.move fg hm pF aT aA ae);have bs:o'::r=Er tL:=congrArg Prod.fst e;have cw:ops=ky tL:=congrArg (λx=>x.2.1) e;have dD:ks=Ep tL:=congrArg (λx=>x.2.2) e;rw[bs,cw,dD];exact ah
end
section
variable [bp] [dJ] {N B:Nat} {w0 w:aG} {a:Act} {Q:Exit->Act->aG->Prop} [o4 Q]
theorem zf (F:aU) (T:dm) {p:ct} {s:c6} (gg:uw Tryd.prog F) (kW:sv Tryd.prog T) (h:ia Tryd.prog N B w0 Q (bD N F T p s)) (ae:Here N s B w0 a w):wpListIn (Fr none) 0 Tryd.prog (ky p) (fF Tryd.prog (Ep p) Q) (Er p) a w:=DU mixed gg kW h ae
end
abbrev bE {s:bp} {o:dJ} {N:Nat} {st:c6} {B:Nat} {w0:aG} {a:Act} {w:aG} (_: @Here s o N st B w0 a w):bp:=s
section
variable {B:Nat} {e9:Mem} {cL:List df} {M:Mem}
theorem cC.nR {gI:df} (h:cC B e9 cL M [gI]):cC B e9 cL M [gI]:=h
theorem cC.AN {gI fp:df} (h:cC B e9 cL M [gI,fp]):cC B e9 cL M [gI,fp]:=h
theorem cC.uK {gI fp hP:df} (h:cC B e9 cL M [gI,fp,hP]):cC B e9 cL M [gI,fp,hP]:=h
theorem cC.vJ {gI fp hP ib:df} (h:cC B e9 cL M [gI,fp,hP,ib]):cC B e9 cL M [gI,fp,hP,ib]:=h
theorem cC.qj {gI fp hP ib iT:df} (h:cC B e9 cL M [gI,fp,hP,ib,iT]):cC B e9 cL M [gI,fp,hP,ib,iT]:=h
theorem cC.yc {gI fp hP ib iT jg:df} (h:cC B e9 cL M [gI,fp,hP,ib,iT,jg]):cC B e9 cL M [gI,fp,hP,ib,iT,jg]:=h
theorem cC.KT {gI fp hP ib iT jg jG:df} (h:cC B e9 cL M [gI,fp,hP,ib,iT,jg,jG]):cC B e9 cL M [gI,fp,hP,ib,iT,jg,jG]:=h
theorem cC.G3 {gI fp hP ib iT jg jG kB:df} (h:cC B e9 cL M [gI,fp,hP,ib,iT,jg,jG,kB]):cC B e9 cL M [gI,fp,hP,ib,iT,jg,jG,kB]:=h
theorem cC.zg {gI fp hP ib iT jg jG kB lf:df} (h:cC B e9 cL M [gI,fp,hP,ib,iT,jg,jG,kB,lf]):cC B e9 cL M [gI,fp,hP,ib,iT,jg,jG,kB,lf]:=h
theorem cC.WR {gI fp hP ib iT jg jG kB lf lS:df} (h:cC B e9 cL M [gI,fp,hP,ib,iT,jg,jG,kB,lf,lS]):cC B e9 cL M [gI,fp,hP,ib,iT,jg,jG,kB,lf,lS]:=h
theorem cC.nq {gI fp hP ib iT jg jG kB lf lS mW:df} (h:cC B e9 cL M [gI,fp,hP,ib,iT,jg,jG,kB,lf,lS,mW]):cC B e9 cL M [gI,fp,hP,ib,iT,jg,jG,kB,lf,lS,mW]:=h
theorem cC.vK {gI fp hP ib iT jg jG kB lf lS mW oh:df} (h:cC B e9 cL M [gI,fp,hP,ib,iT,jg,jG,kB,lf,lS,mW,oh]):cC B e9 cL M [gI,fp,hP,ib,iT,jg,jG,kB,lf,lS,mW,oh]:=h
theorem cC.Es {gI fp hP ib iT jg jG kB lf lS mW oh pM:df} (h:cC B e9 cL M [gI,fp,hP,ib,iT,jg,jG,kB,lf,lS,mW,oh,pM]):cC B e9 cL M [gI,fp,hP,ib,iT,jg,jG,kB,lf,lS,mW,oh,pM]:=h
theorem cC.PD {gI fp hP ib iT jg jG kB lf lS mW oh pM rr:df} (h:cC B e9 cL M [gI,fp,hP,ib,iT,jg,jG,kB,lf,lS,mW,oh,pM,rr]):cC B e9 cL M [gI,fp,hP,ib,iT,jg,jG,kB,lf,lS,mW,oh,pM,rr]:=h
theorem cC.afQ {gI fp hP ib iT jg jG kB lf lS mW oh pM rr tM:df} (h:cC B e9 cL M [gI,fp,hP,ib,iT,jg,jG,kB,lf,lS,mW,oh,pM,rr,tM]):cC B e9 cL M [gI,fp,hP,ib,iT,jg,jG,kB,lf,lS,mW,oh,pM,rr,tM]:=h
theorem cC.afR {gI fp hP ib iT jg jG kB lf lS mW oh pM rr tM xb:df} (h:cC B e9 cL M [gI,fp,hP,ib,iT,jg,jG,kB,lf,lS,mW,oh,pM,rr,tM,xb]):cC B e9 cL M [gI,fp,hP,ib,iT,jg,jG,kB,lf,lS,mW,oh,pM,rr,tM,xb]:=h
theorem cC.Et {gI fp hP ib iT jg jG kB lf lS mW oh pM rr tM xb AO:df} (h:cC B e9 cL M [gI,fp,hP,ib,iT,jg,jG,kB,lf,lS,mW,oh,pM,rr,tM,xb,AO]):cC B e9 cL M [gI,fp,hP,ib,iT,jg,jG,kB,lf,lS,mW,oh,pM,rr,tM,xb,AO]:=h
theorem cC.afS {gI fp hP ib iT jg jG kB lf lS mW oh pM rr tM xb AO G4:df} (h:cC B e9 cL M [gI,fp,hP,ib,iT,jg,jG,kB,lf,lS,mW,oh,pM,rr,tM,xb,AO,G4]):cC B e9 cL M [gI,fp,hP,ib,iT,jg,jG,kB,lf,lS,mW,oh,pM,rr,tM,xb,AO,G4]:=h
theorem cC.afT {gI fp hP ib iT jg jG kB lf lS mW oh pM rr tM xb AO G4 WS:df} (h:cC B e9 cL M [gI,fp,hP,ib,iT,jg,jG,kB,lf,lS,mW,oh,pM,rr,tM,xb,AO,G4,WS]):cC B e9 cL M [gI,fp,hP,ib,iT,jg,jG,kB,lf,lS,mW,oh,pM,rr,tM,xb,AO,G4,WS]:=h
end
section
variable {f:FuncId} {fn:Func} {W:aG} {R:Ending->aG->Prop}
theorem kT (bM:List ad) (c:Code) (aZ:c6) (N:Nat) (args:List ad) (p9:Tryd.prog.funcs[f]? =some fn) (su:∀a,@Here (bc (a7 W) bM) rO N aZ W.heap.size W a W->c.wpIn (Fr none) 0 Tryd.prog (@tw rO Tryd.prog fn N W.heap.size W R) a W)
  (aA:fn.body=some c:=by kernel_rfl) (hg:(match setArgs 0 args .nil with|some sl=>some ({sl,ms:=[],A:=start}:c6)|none=>none)=some aZ:=by kernel_rfl) (hp:fH args=true:=by kernel_rfl) (kN:args.length+(fn.ntmps-args.length)=N:=by kernel_rfl):Calls Tryd.prog f ⟨@fl (bc (a7 W) bM) args⟩ W R:=
 @WN (bc (a7 W) bM) _ _ _ _ c aZ N args (N4 W _) p9 su aA hg hp kN
theorem lg (bM:List ad) (c:Code) (aZ:c6) (N:Nat) (args:List ad) (p9:Tryd.prog.funcs[f]? =some fn) (su:∀a,@Here (bc (a7 W) bM) rO N aZ 0 W a W->c.wpIn (Fr none) 0 Tryd.prog (@tw rO Tryd.prog fn N 0 W R) a W)
  (aA:fn.body=some c:=by kernel_rfl) (hg:(match setArgs 0 args .nil with|some sl=>some ({sl,ms:=[],A:=start}:c6)|none=>none)=some aZ:=by kernel_rfl) (hp:fH args=true:=by kernel_rfl) (kN:args.length+(fn.ntmps-args.length)=N:=by kernel_rfl):Calls Tryd.prog f ⟨@fl (bc (a7 W) bM) args⟩ W R:=
 @afO (bc (a7 W) bM) _ _ _ _ c aZ N args (N4 W _) p9 su aA hg hp kN
end
theorem cF {N:Nat} {sl:ax} {d:Option Tmp} (h:ax) (v:ad) (p:e8 N sl d v=some h:=by kernel_rfl):e8 N sl d v=some h:=p
theorem cn {o:Option dk} (p:ct) (h:PA o=oM p:=by kernel_rfl):PA o=oM p:=h
theorem f_ {α:Type} [Inhabited α] {l:List α} (i:Nat) (h:i<l.length:=by omega):l[i]? =some (l.getD i default):=adg h
abbrev bH:=Option Addr
theorem b2 [bp] [dJ] {P:bB} {fn:Func} {N B:Nat} {w0:aG} {A:Ending->aG->Prop} {o:Option dk} {v:ad} (h:fu P fn o=some v) (me:∀w2,n9 w2->A (.returned (bb v)) w2):ia P N B w0 (tw P fn N B w0 λe w=>A e w/\cO B w0 w) o:=acS h λw2 az ak=>⟨me w2 ak,az⟩
theorem rZ {α:Type} [Inhabited α] {l:List α} {i:Nat} {z:α} (h:l[i]? =some z):l.aD i=z:=getD_some h
theorem oO [dJ] {α:Type} {P:bB} {N B:Nat} {w0:aG} {Q:Exit->Act->aG->Prop} {M:Mem} {bM:List ad} {o:Option dk} {t e:bq} {k:Nat} {p x u ld:ad} {enc:α->List ad} {l l':List α} {i:Nat} {y:α} {gp e6:ax} {c7:List bG} {dQ:gh} (j:Nat) (bC:List ad)
  (iM:l'=l.set i y) (h:hc o=some (t,p,x)) (ao:∀x,(enc x).length=k) (fg:bF (b0 o) gp c7=some dQ) (iQ:e8 N gp (qa o) undef=some e6) (dR:eI B M e k enc u l) (ak:i<l.length)
  (rest:∀aS,eI B aS e k enc u l'->jM M aS (fX u)->∀bR w,@Here (bc aS bC) _ N {sl:=e6,ms:=[],A:=cS c7} B w0 bR w->wpListIn (Fr none) 0 P (nG o) (fF P (gi o) Q) (oc o) bR w)
  (dV:bZ P (sizeOf t)=some 1:=by kernel_rfl) (aq:j<k:=by decide) (nn: @bb (bc M bM) p=fM u (i*k+j):=by exact rfl) (ex: @bb (bc M bM) x=ld:=by exact rfl) (hu:ld.cells= #[ld]:=by exact rfl) (lB:ld.oneCell'=true:=by exact rfl)
  (hp:bL p=true:=by exact rfl) (aw:bL x=true:=by exact rfl) (hy:∀z,l[i]? =some z->enc y=(enc z).set j ld:=by intro z de;first|rfl|(rw[getD_some de];rfl)|(rw[rZ de];rfl)) (hm:∀aS,hD (bc M bM) (bc aS bC) dQ:=by exact λ_=>b7)
  (aT:dJ.jD<=c7.length:=by first|exact Nat.zero_le _|exact h3 rfl) (aA:jr (b0 o).A c7 0:=by exact jF rfl): @ia (bc M bM) _ P N B w0 Q o:=
 ad3 iM h dV ao aq hy fg iQ hp aw nn ex hu lB dR ak hm rest aT aA
theorem oP [dJ] {P:bB} {N B:Nat} {w0:aG} {Q:Exit->Act->aG->Prop} {M:Mem} {bM:List ad} {o:Option dk} {t ty:bq} {g:Nat} {p x u:ad} {cs:List ad} {gp e6:ax} {c7:List bG} {dQ:gh} (j:Nat) (cs' bC:List ad)
  (h:hc o=some (t,p,x)) (fg:bF (b0 o) gp c7=some dQ) (iQ:e8 N gp (qa o) undef=some e6) (dR:je B M (.pointer (some ⟨g,0,none⟩)) ty cs)
  (rest:∀aS,je B aS (.pointer (some ⟨g,0,none⟩)) ty cs'->jM M aS (some g)->∀bR w,@Here (bc aS bC) _ N {sl:=e6,ms:=[],A:=cS c7} B w0 bR w->wpListIn (Fr none) 0 P (nG o) (fF P (gi o) Q) (oc o) bR w)
  (dV:bZ P (sizeOf t)=some 1:=by kernel_rfl) (nn: @bb (bc M bM) p= .pointer (some ⟨g,j,none⟩):=by exact rfl) (ex: @bb (bc M bM) x=u:=by exact rfl) (iM:cs'=cs.set j u:=by exact rfl) (hu:u.cells= #[u]:=by exact rfl) (lB:u.oneCell'=true:=by exact rfl)
  (hp:bL p=true:=by exact rfl) (aw:bL x=true:=by exact rfl) (aq:j<cs.length:=by exact h3 rfl) (hm:∀aS,hD (bc M bM) (bc aS bC) dQ:=by exact λ_=>b7)
  (aT:dJ.jD<=c7.length:=by first|exact Nat.zero_le _|exact h3 rfl) (aA:jr (b0 o).A c7 0:=by exact jF rfl): @ia (bc M bM) _ P N B w0 Q o:=
 adW iM h dV fg iQ hp aw nn ex hu lB dR aq hm rest aT aA
end a1
end
end
namespace a1
namespace WT
noncomputable def body:Code:=(Tryd.f62.body).getD .skip
def N:Nat:=26
noncomputable abbrev b9:=fu Tryd.prog Tryd.f62
def aZ:c6:={sl:=bm [(3,3),(2,2),(1,1),(0,0)],ms:=[],A:=start}
def bz:aU:=[(.cz 3,.bool true),
 (.bin .eql 3 2 (I 3),.bool true),
 (.bin .eql 3 0 (I 15),.bool true),
 (.bin .eql 3 1 (I 1),.bool true)]
theorem b4:b9 (at' 26 bz [] body aZ)=some (I 15):=ag
def cp:aU:=[(.cz 3,.bool true),
 (.bin .eql 3 2 (I 3),.bool true),
 (.bin .eql 3 0 (I 15),.bool true),
 (.bin .eql 3 1 (I 1),.bool false),
 (.bin .sub 3 0 1,4),
 (.eZ #[3,3] 3 (I 0) 4,5)]
theorem bs:b9 (at' 26 cp [] body aZ)=some 5:=ag
def dh:aU:=[(.cz 3,.bool true),
 (.bin .eql 3 2 (I 3),.bool true),
 (.bin .eql 3 0 (I 15),.bool false),
 (.bin .sub 3 0 1,4),
 (.eZ #[3,3] 3 (I 0) 4,5)]
theorem cw:b9 (at' 26 dh [] body aZ)=some 5:=ag
def d':aU:=[(.cz 3,.bool true),
 (.bin .eql 3 2 (I 3),.bool false),
 (.bin .sub 3 0 1,4),
 (.eZ #[3,3] 3 (I 0) 4,5)]
theorem dD:b9 (at' 26 d' [] body aZ)=some 5:=ag
def eS:aU:=[(.cz 3,.bool false),
 (.bin .sub 3 0 1,4),
 (.eZ #[3,3] 3 (I 0) 4,5)]
theorem hq:b9 (at' 26 eS [] body aZ)=some 5:=ag
@[reducible] noncomputable def a6 (v f:Int) (c:Nat) (up:Bool):List ad:=[I v,I f,I ((c:Nat):Int),.bool up,I (v-f),I (max 0 (v-f))]
theorem any (W:aG) (v f:Int) (c:Nat) (up:Bool) (x1: -1000<=v) (DR:v<=1000) (afU: -1000<=f) (Nt:f<=1000):Calls Tryd.prog 62 #[I v,I f,I ((c:Nat):Int),.bool up] W λe w'=>e= .returned (I (given v f c up))/\cO W.heap.size W w':=by
 refine kT (a6 v f c up) body aZ N [al 0,al 1,al 2,al 3] Tryd.func62 λa ae=> ?_
 letI:=bE ae;have a_:=cC.q_ W;by_cases bd:up=true
 ·by_cases af:((c:Nat):Int)=3
  ·by_cases ah:v=15
   ·by_cases aH:f=1
    ·refine br bz [] (U (yY J J bd) (U bf (U bf (U bf aB)))) aC ?_ ae
     exact b2 b4 λw2 bk=>(by (rw[ae5 aY aj aY aY];rfl))
    ·refine br cp [] (U (yY J J bd) (U bf (U bf (U a' (U gU (U (aW.jL J J J J J J) aB)))))) aC ?_ ae
     exact b2 bs λw2 bk=>(by (rw[Ky (λq=>by omega)];rfl))
   ·refine br dh [] (U (yY J J bd) (U bf (U a' (U gU (U (aW.jL J J J J J J) aB))))) aC ?_ ae
    exact b2 cw λw2 bk=>(by (rw[Ky (λq=>by omega)];rfl))
  ·refine br d' [] (U (yY J J bd) (U a' (U gU (U (aW.jL J J J J J J) aB)))) aC ?_ ae
   exact b2 dD λw2 bk=>(by (rw[Ky (λq=>by omega)];rfl))
 ·refine br eS [] (U (DZ J J bd) (U gU (U (aW.jL J J J J J J) aB))) aC ?_ ae
  exact b2 hq λw2 bk=>(by (rw[Ky (λq=>by exact absurd q.1 aY)];rfl))
end WT
namespace PE
noncomputable def body:Code:=(Tryd.f79.body).getD .skip
def N:Nat:=51
noncomputable abbrev b9:=fu Tryd.prog Tryd.f79
def aZ:c6:={sl:=bm [(1,.agg ⟨[3,4,5,6,7,8]⟩),(0,.agg ⟨[0,1,2]⟩)],ms:=[],A:=start}
def bz:aU:=[(.bin .geq 3 0 3,.bool true),
 (.bin .lss 3 0 6,.bool true),
 (.bin .geq 3 1 4,.bool true),
 (.bin .lss 3 1 7,.bool true),
 (.bin .geq 3 2 5,.bool true),
 (.bin .lss 3 2 8,.bool true)]
theorem b4:b9 (at' 51 bz [] body aZ)=some (.bool true):=ag
def cp:aU:=[(.bin .geq 3 0 3,.bool true),
 (.bin .lss 3 0 6,.bool true),
 (.bin .geq 3 1 4,.bool true),
 (.bin .lss 3 1 7,.bool true),
 (.bin .geq 3 2 5,.bool true),
 (.bin .lss 3 2 8,.bool false)]
theorem bs:b9 (at' 51 cp [] body aZ)=some (.bool false):=ag
def dh:aU:=[(.bin .geq 3 0 3,.bool true),
 (.bin .lss 3 0 6,.bool true),
 (.bin .geq 3 1 4,.bool true),
 (.bin .lss 3 1 7,.bool true),
 (.bin .geq 3 2 5,.bool false)]
theorem cw:b9 (at' 51 dh [] body aZ)=some (.bool false):=ag
def d':aU:=[(.bin .geq 3 0 3,.bool true),
 (.bin .lss 3 0 6,.bool true),
 (.bin .geq 3 1 4,.bool true),
 (.bin .lss 3 1 7,.bool false)]
theorem dD:b9 (at' 51 d' [] body aZ)=some (.bool false):=ag
def eS:aU:=[(.bin .geq 3 0 3,.bool true),
 (.bin .lss 3 0 6,.bool true),
 (.bin .geq 3 1 4,.bool false)]
theorem hq:b9 (at' 51 eS [] body aZ)=some (.bool false):=ag
def fq:aU:=[(.bin .geq 3 0 3,.bool true),
 (.bin .lss 3 0 6,.bool false)]
theorem ka:b9 (at' 51 fq [] body aZ)=some (.bool false):=ag
def hs:aU:=[(.bin .geq 3 0 3,.bool false)]
theorem gy:b9 (at' 51 hs [] body aZ)=some (.bool false):=ag
@[reducible] noncomputable def a6 (p:gK) (b:cx):List ad:=[I p.1,I p.2.1,I p.2.2,I b.1,I b.2.1,I b.2.2.1,I b.2.2.2.1,I b.2.2.2.2.1,I b.2.2.2.2.2]
theorem any (W:aG) (p:gK) (b:cx):Calls Tryd.prog 79 #[P.val p,X.val b] W λe w'=>e= .returned (.bool (decide (fz p b)))/\cO W.heap.size W w':=by
 refine kT (a6 p b) body aZ N [.agg ⟨[al 0,al 1,al 2]⟩,.agg ⟨[al 3,al 4,al 5,al 6,al 7,al 8]⟩] Tryd.func79 λa ae=> ?_
 letI:=bE ae;have a_:=cC.q_ W;by_cases bd:b.1<=p.1
 ·by_cases af:p.1<b.2.2.2.1
  ·by_cases ah:b.2.1<=p.2.1
   ·by_cases aH:p.2.1<b.2.2.2.2.1
    ·by_cases ck:b.2.2.1<=p.2.2
     ·by_cases dd:p.2.2<b.2.2.2.2.2
      ·refine br bz [] (U bf (U bf (U bf (U bf (U bf (U bf aB)))))) aC ?_ ae
       exact b2 b4 λw2 bk=>(by (rw[gO (show fz p b from ⟨aj,aj,aj,aj,aj,aj⟩)];rfl))
      ·refine br cp [] (U bf (U bf (U bf (U bf (U bf (U a' aB)))))) aC ?_ ae
       exact b2 bs λw2 bk=>(by (rw[dT (λq:fz p b=>by unfold fz at q;omega)];rfl))
     ·refine br dh [] (U bf (U bf (U bf (U bf (U a' aB))))) aC ?_ ae
      exact b2 cw λw2 bk=>(by (rw[dT (λq:fz p b=>by unfold fz at q;omega)];rfl))
    ·refine br d' [] (U bf (U bf (U bf (U a' aB)))) aC ?_ ae
     exact b2 dD λw2 bk=>(by (rw[dT (λq:fz p b=>by unfold fz at q;omega)];rfl))
   ·refine br eS [] (U bf (U bf (U a' aB))) aC ?_ ae
    exact b2 hq λw2 bk=>(by (rw[dT (λq:fz p b=>by unfold fz at q;omega)];rfl))
  ·refine br fq [] (U bf (U a' aB)) aC ?_ ae
   exact b2 ka λw2 bk=>(by (rw[dT (λq:fz p b=>by unfold fz at q;omega)];rfl))
 ·refine br hs [] (U a' aB) aC ?_ ae
  exact b2 gy λw2 bk=>(by (rw[dT (λq:fz p b=>by unfold fz at q;omega)];rfl))
end PE
namespace WU
noncomputable def body:Code:=(Tryd.f80.body).getD .skip
def N:Nat:=11
noncomputable abbrev b9:=fu Tryd.prog Tryd.f80
def aZ:c6:={sl:=bm [(0,.agg ⟨[0,1,2,3,4,5]⟩)],ms:=[],A:=start}
def bz:aU:=[(.bin .geq 3 0 0,.bool true),
 (.bin .lss 3 0 3,.bool true),
 (.bin .geq 3 1 1,.bool true),
 (.bin .lss 3 1 4,.bool true),
 (.bin .geq 3 2 2,.bool true),
 (.bin .lss 3 2 5,.bool true),
 (.bin .mul 3 (I (-1)) 0,6),
 (.bin .mul 3 (I (-1)) 1,7),
 (.bin .mul 3 (I (-1)) 2,8),
 (.bin .add 3 3 6,9),
 (.bin .add 3 4 7,10),
 (.bin .add 3 5 8,11)]
theorem b4:b9 (at' 11 bz [] body aZ)=some (.agg ⟨[9,10,11]⟩):=ag
def cp:aU:=[(.bin .geq 3 0 0,.bool true),
 (.bin .lss 3 0 3,.bool true),
 (.bin .geq 3 1 1,.bool true),
 (.bin .lss 3 1 4,.bool true),
 (.bin .geq 3 2 2,.bool true),
 (.bin .lss 3 2 5,.bool false)]
theorem bs:b9 (at' 11 cp [] body aZ)=some (.agg ⟨[I 0,I 0,I 0]⟩):=ag
def dh:aU:=[(.bin .geq 3 0 0,.bool true),
 (.bin .lss 3 0 3,.bool true),
 (.bin .geq 3 1 1,.bool true),
 (.bin .lss 3 1 4,.bool false)]
theorem cw:b9 (at' 11 dh [] body aZ)=some (.agg ⟨[I 0,I 0,I 0]⟩):=ag
def d':aU:=[(.bin .geq 3 0 0,.bool true),
 (.bin .lss 3 0 3,.bool false)]
theorem dD:b9 (at' 11 d' [] body aZ)=some (.agg ⟨[I 0,I 0,I 0]⟩):=ag
@[reducible] noncomputable def a6 (b:cx):List ad:=[I b.1,I b.2.1,I b.2.2.1,I b.2.2.2.1,I b.2.2.2.2.1,I b.2.2.2.2.2,I ((-1)*b.1),I ((-1)*b.2.1),I ((-1)*b.2.2.1),I (b.2.2.2.1+((-1)*b.1)),I (b.2.2.2.2.1+((-1)*b.2.1)),I (b.2.2.2.2.2+((-1)*b.2.2.1))]
theorem any (W:aG) (b:cx) (ai:okB b):Calls Tryd.prog 80 #[X.val b] W λe w'=>e= .returned (P.val (cI b))/\cO W.heap.size W w':=by
 refine kT (a6 b) body aZ N [.agg ⟨[al 0,al 1,al 2,al 3,al 4,al 5]⟩] Tryd.func80 λa ae=> ?_
 letI:=bE ae;have a_:=cC.q_ W;have qy:=ai;have fD: -1048575<=b.1/\b.1<=1048575/\ -1048575<=b.2.1/\b.2.1<=1048575/\ -1048575<=b.2.2.1/\b.2.2.1<=1048575/\ -1048575<=b.2.2.2.1/\b.2.2.2.1<=1048575/\ -1048575<=b.2.2.2.2.1/\b.2.2.2.2.1<=1048575/\ -1048575<=b.2.2.2.2.2/\b.2.2.2.2.2<=1048575:=ai;by_cases bd:b.1<b.2.2.2.1
 ·by_cases af:b.2.1<b.2.2.2.2.1
  ·by_cases ah:b.2.2.1<b.2.2.2.2.2
   ·refine br bz [] (U bf (U bf (U bf (U bf (U bf (U bf (U gU (U gU (U gU (U gU (U gU (U gU aB)))))))))))) aC ?_ ae
    exact b2 b4 λw2 bk=>(by (rw[AG ⟨aj,aj,aj⟩];exact ae3 aj aj aj))
   ·refine br cp [] (U bf (U bf (U bf (U bf (U bf (U a' aB)))))) aC ?_ ae
    exact b2 bs λw2 bk=>(by (rw[Ec (λq=>by unfold ki at q;omega)];rfl))
  ·refine br dh [] (U bf (U bf (U bf (U a' aB)))) aC ?_ ae
   exact b2 cw λw2 bk=>(by (rw[Ec (λq=>by unfold ki at q;omega)];rfl))
 ·refine br d' [] (U bf (U a' aB)) aC ?_ ae
  exact b2 dD λw2 bk=>(by (rw[Ec (λq=>by unfold ki at q;omega)];rfl))
end WU
end a1
namespace a1
section
variable [bp]
theorem nr {x y z u r:ad} {v f:Int} {c:Nat} {up:Bool} (hp:fH [x,y,z,u]=true) (ar:bL r=true) (b5:fl [x,y,z,u]=[.int .i64 v,.int .i64 f,.int .i64 ((c:Nat):Int),.bool up]) (dc:bb r= .int .i64 (given v f c up)) (h: -1000<=v/\v<=1000/\ -1000<=f/\f<=1000):j0 Tryd.prog (62,[x,y,z,u],r):=
 kP (a:= #[.int .i64 v,.int .i64 f,.int .i64 ((c:Nat):Int),.bool up]) hp ar b5 dc λw _=>WT.any w v f c up h.1 h.2.1 h.2.2.1 h.2.2.2
theorem afV {x y:ad} {p:gK} {b:cx} (hp:fH [x,y]=true) (b5:fl [x,y]=[P.val p,X.val b]) (h:fz p b):j0 Tryd.prog (79,[x,y],.bool true):=
 kP (a:= #[P.val p,X.val b]) hp rfl b5 rfl λw _=>(PE.any w p b).mono λe w' he=>by rw[gO h] at he;exact he
theorem afW {x y:ad} {p:gK} {b:cx} (hp:fH [x,y]=true) (b5:fl [x,y]=[P.val p,X.val b]) (h:¬fz p b):j0 Tryd.prog (79,[x,y],.bool false):=
 kP (a:= #[P.val p,X.val b]) hp rfl b5 rfl λw _=>(PE.any w p b).mono λe w' he=>by rw[dT h] at he;exact he
theorem KU {x r:ad} {b:cx} (hp:fH [x]=true) (ar:bL r=true) (b5:fl [x]=[X.val b]) (dc:bb r=P.val (cI b)) (ai:okB b):j0 Tryd.prog (80,[x],r):=
 kP (a:= #[X.val b]) hp ar b5 dc λw _=>WU.any w b ai
end
end a1
namespace a1
namespace PF
noncomputable def body:Code:=(Tryd.f55.body).getD .skip
def N:Nat:=31
def aZ:c6:={sl:=bm [(1,.agg ⟨[6,7,8]⟩),(0,.agg ⟨[0,1,2,3,4,5]⟩)],ms:=[],A:=start}
def bz:aU:=[(.bin .mul 3 (I (-1)) 0,12),
 (.bin .mul 3 (I (-1)) 1,13),
 (.bin .mul 3 (I (-1)) 2,14),
 (.bin .add 3 6 12,15),
 (.bin .add 3 7 13,16),
 (.bin .add 3 8 14,17),
 (.bin .mul 3 17 10,18),
 (.bin .add 3 18 16,19),
 (.bin .mul 3 19 9,20),
 (.bin .add 3 20 15,21)]
def h2:dm:=[(79,[.agg ⟨[6,7,8]⟩,.agg ⟨[0,1,2,3,4,5]⟩],.bool true),
 (80,[.agg ⟨[al 0,al 1,al 2,al 3,al 4,al 5]⟩],.agg ⟨[al 9,al 10,al 11]⟩)]
theorem b4:fu Tryd.prog Tryd.f55 (at' 31 bz h2 body aZ)=some 21:=ag
def hR:dm:=[(79,[.agg ⟨[6,7,8]⟩,.agg ⟨[0,1,2,3,4,5]⟩],.bool false)]
theorem bs:fu Tryd.prog Tryd.f55 (at' 31 [] hR body aZ)=some (I (-1)):=ag
@[reducible] noncomputable def a6 (b:cx) (p:gK):List ad:=[I b.1,I b.2.1,I b.2.2.1,I b.2.2.2.1,I b.2.2.2.2.1,I b.2.2.2.2.2,I p.1,I p.2.1,I p.2.2,I (cI b).1,I (cI b).2.1,I (cI b).2.2,I ((-1)*b.1),I ((-1)*b.2.1),I ((-1)*b.2.2.1),I (p.1+((-1)*b.1)),I (p.2.1+((-1)*b.2.1)),I (p.2.2+((-1)*b.2.2.1)),I ((p.2.2+((-1)*b.2.2.1))*(cI b).2.1),I (((p.2.2+((-1)*b.2.2.1))*(cI b).2.1)+(p.2.1+((-1)*b.2.1))),I ((((p.2.2+((-1)*b.2.2.1))*(cI b).2.1)+(p.2.1+((-1)*b.2.1)))*(cI b).1),I (((((p.2.2+((-1)*b.2.2.1))*(cI b).2.1)+(p.2.1+((-1)*b.2.1)))*(cI b).1)+(p.1+((-1)*b.1)))]
theorem any (W:aG) (b:cx) (p:gK) (ai:okB b):Calls Tryd.prog 55 #[X.val b,P.val p] W λe w'=>e= .returned (I (GF b p))/\cO W.heap.size W w':=by
 refine kT (a6 b p) body aZ N [.agg ⟨[al 0,al 1,al 2,al 3,al 4,al 5]⟩,.agg ⟨[al 6,al 7,al 8]⟩] Tryd.func55 λa ae=> ?_
 letI:=bE ae;have a_:=cC.q_ W;have fD: -1048575<=b.1/\b.1<=1048575/\ -1048575<=b.2.1/\b.2.1<=1048575/\ -1048575<=b.2.2.1/\b.2.2.1<=1048575/\ -1048575<=b.2.2.2.1/\b.2.2.2.1<=1048575/\ -1048575<=b.2.2.2.2.1/\b.2.2.2.2.1<=1048575/\ -1048575<=b.2.2.2.2.2/\b.2.2.2.2.2<=1048575:=ai;by_cases bd:fz p b
 ·refine br bz h2 (U (aW.bi J J J J J J (j1 rfl aj aj)) (U (aW.bi J J J J J J (j1 rfl aj aj)) (U (aW.bi J J J J J J (j1 rfl aj aj)) (U (aW.bi J J J J J J (j1 rfl (by (have kq:=rX ai aY;have px:=qJ (show fz p b by assumption);omega)) (by (have kq:=rX ai aY;have px:=qJ (show fz p b by assumption);omega)))) (U (aW.bi J J J J J J (j1 rfl (by (have kq:=rX ai aY;have px:=qJ (show fz p b by assumption);omega)) (by (have kq:=rX ai aY;have px:=qJ (show fz p b by assumption);omega)))) (U (aW.bi J J J J J J (j1 rfl (by (have kq:=rX ai aY;have px:=qJ (show fz p b by assumption);omega)) (by (have kq:=rX ai aY;have px:=qJ (show fz p b by assumption);omega)))) (U (aW.bi J J J J J J (j1 rfl (by (have kq:=rX ai aY;have px:=qJ (show fz p b by assumption);omega)) (by (have kq:=rX ai aY;have px:=qJ (show fz p b by assumption);omega)))) (U (aW.bi J J J J J J (j1 rfl (by (have kq:=rX ai aY;have px:=qJ (show fz p b by assumption);omega)) (by (have kq:=rX ai aY;have px:=qJ (show fz p b by assumption);omega)))) (U (aW.bi J J J J J J (j1 rfl (by (have kq:=rX ai aY;have px:=qJ (show fz p b by assumption);omega)) (by (have kq:=rX ai aY;have px:=qJ (show fz p b by assumption);omega)))) (U (aW.bi J J J J J J (j1 rfl (by (have kq:=rX ai aY;have px:=qJ (show fz p b by assumption);omega)) (by (have kq:=rX ai aY;have px:=qJ (show fz p b by assumption);omega)))) aB)))))))))) (cv (afV J J bd) (cv (KU J J J J ai) aC)) ?_ ae
  exact b2 b4 λw2 bk=>(by (rw[O_ aY];rfl))
 ·refine br [] hR aB (cv (afW J J bd) aC) ?_ ae
  exact b2 bs λw2 bk=>(by (rw[Pa aY];rfl))
end PF
end a1
namespace a1
namespace WV
noncomputable def body:Code:=(Tryd.f84.body).getD .skip
def N:Nat:=39
noncomputable abbrev b9:=fu Tryd.prog Tryd.f84
def aZ:c6:={sl:=bm [(1,6),(0,.agg ⟨[0,1,2,3,4,5]⟩)],ms:=[],A:=start}
def bz:aU:=[(.bin .lss 3 6 (I 0),.bool true)]
theorem b4:b9 (at' 39 bz [] body aZ)=some (.tuple ⟨[.agg ⟨[I 0,I 0,I 0]⟩,.bool false]⟩):=ag
def cp:aU:=[(.bin .lss 3 6 (I 0),.bool false),
 (.bin .mul 3 7 8,10),
 (.bin .mul 3 10 9,11),
 (.bin .geq 3 6 11,.bool true)]
def hR:dm:=[(80,[.agg ⟨[0,1,2,3,4,5]⟩],.agg ⟨[7,8,9]⟩)]
theorem bs:b9 (at' 39 cp hR body aZ)=some (.tuple ⟨[.agg ⟨[I 0,I 0,I 0]⟩,.bool false]⟩):=ag
def dh:aU:=[(.bin .lss 3 6 (I 0),.bool false),
 (.bin .mul 3 7 8,10),
 (.bin .mul 3 10 9,11),
 (.bin .geq 3 6 11,.bool false),
 (.bin .quo 3 6 7,12),
 (.bin .rem 3 6 7,13),
 (.bin .rem 3 12 8,14),
 (.bin .quo 3 12 8,15),
 (.bin .add 3 0 13,16),
 (.bin .add 3 1 14,17),
 (.bin .add 3 2 15,18)]
def lq:dm:=[(80,[.agg ⟨[0,1,2,3,4,5]⟩],.agg ⟨[7,8,9]⟩)]
theorem cw:b9 (at' 39 dh lq body aZ)=some (.tuple ⟨[.agg ⟨[16,17,18]⟩,.bool true]⟩):=ag
@[reducible] noncomputable def a6 (b:cx) (i:Int):List ad:=[I b.1,I b.2.1,I b.2.2.1,I b.2.2.2.1,I b.2.2.2.2.1,I b.2.2.2.2.2,I i,I (cI b).1,I (cI b).2.1,I (cI b).2.2,I ((cI b).1*(cI b).2.1),I (((cI b).1*(cI b).2.1)*(cI b).2.2),I (i/(cI b).1),I (i%(cI b).1),I ((i/(cI b).1)%(cI b).2.1),I ((i/(cI b).1)/(cI b).2.1),I (b.1+(i%(cI b).1)),I (b.2.1+((i/(cI b).1)%(cI b).2.1)),I (b.2.2.1+((i/(cI b).1)/(cI b).2.1))]
theorem any (W:aG) (b:cx) (i:Int) (ai:okB b):Calls Tryd.prog 84 #[X.val b,I i] W λe w'=>e= .returned (.tuple #[P.val (e_ b i),.bool (decide (0<=i/\i<gj b))])/\cO W.heap.size W w':=by
 refine kT (a6 b i) body aZ N [.agg ⟨[al 0,al 1,al 2,al 3,al 4,al 5]⟩,al 6] Tryd.func84 λa ae=> ?_
 letI:=bE ae;have a_:=cC.q_ W;have fD: -1048575<=b.1/\b.1<=1048575/\ -1048575<=b.2.1/\b.2.1<=1048575/\ -1048575<=b.2.2.1/\b.2.2.1<=1048575/\ -1048575<=b.2.2.2.1/\b.2.2.2.1<=1048575/\ -1048575<=b.2.2.2.2.1/\b.2.2.2.2.1<=1048575/\ -1048575<=b.2.2.2.2.2/\b.2.2.2.2.2<=1048575:=ai;have de:=Cl ai;have aR:=Pb ai;by_cases bd:i<0
 ·refine br bz [] (U bf aB) aC ?_ ae
  exact b2 b4 λw2 bk=>(by (rw[Pe (λq=>by have aI:=q.2;unfold gj at aI;omega),dT (λq:0<=i/\i<gj b=>by have aI:=q.2;unfold gj at aI;omega)];rfl))
 ·by_cases af:(((cI b).1*(cI b).2.1)*(cI b).2.2)<=i
  ·refine br cp hR (U a' (U (aW.bi J J J J J J (j1 rfl aj aj)) (U (aW.bi J J J J J J (j1 rfl aj aj)) (U bf aB)))) (cv (KU J J J J ai) aC) ?_ ae
   exact b2 bs λw2 bk=>(by (rw[Pe (λq=>by have aI:=q.2;unfold gj at aI;omega),dT (λq:0<=i/\i<gj b=>by have aI:=q.2;unfold gj at aI;omega)];rfl))
  ·refine br dh lq (U a' (U (aW.bi J J J J J J (j1 rfl aj aj)) (U (aW.bi J J J J J J (j1 rfl aj aj)) (U a' (U (aW.quo (a:=i) (b:=(cI b).1) ⟨aj,aj⟩ (by (have kq:=sB (i:=i) ai aj aY;omega)) J J J J J J) (U (aW.rem (a:=i) (b:=(cI b).1) ⟨aj,aj⟩ (by (have kq:=sB (i:=i) ai aj aY;omega)) J J J J J J) (U (aW.rem (a:=(i/(cI b).1)) (b:=(cI b).2.1) ⟨by (have kq:=sB (i:=i) ai aj aY;omega),by (have kq:=sB (i:=i) ai aj aY;omega)⟩ (by (have kq:=sB (i:=i) ai aj aY;omega)) J J J J J J) (U (aW.quo (a:=(i/(cI b).1)) (b:=(cI b).2.1) ⟨by (have kq:=sB (i:=i) ai aj aY;omega),by (have kq:=sB (i:=i) ai aj aY;omega)⟩ (by (have kq:=sB (i:=i) ai aj aY;omega)) J J J J J J) (U (aW.bi J J J J J J (j1 rfl (by (have kq:=sB (i:=i) ai aj aY;omega)) (by (have kq:=sB (i:=i) ai aj aY;omega)))) (U (aW.bi J J J J J J (j1 rfl (by (have kq:=sB (i:=i) ai aj aY;omega)) (by (have kq:=sB (i:=i) ai aj aY;omega)))) (U (aW.bi J J J J J J (j1 rfl (by (have kq:=sB (i:=i) ai aj aY;omega)) (by (have kq:=sB (i:=i) ai aj aY;omega)))) aB))))))))))) (cv (KU J J J J ai) aC) ?_ ae
   exact b2 cw λw2 bk=>(by (rw[Wb aj aY,gO (show 0<=i/\i<gj b from ⟨aj,by unfold gj;omega⟩)];exact ae4 J J J))
end WV
end a1
namespace a1
namespace WW
noncomputable def body:Code:=(Tryd.f85.body).getD .skip
def N:Nat:=9
noncomputable abbrev b9:=fu Tryd.prog Tryd.f85
def aZ:c6:={sl:=bm [(1,1),(0,0)],ms:=[],A:=start}
def bz:aU:=[(.bin .lss 3 1 (I 0),.bool true)]
theorem b4:b9 (at' 9 bz [] body aZ)=some (I 16):=ag
def cp:aU:=[(.bin .lss 3 1 (I 0),.bool false),
 (.len #[29] 3 0,2),
 (.bin .geq 3 1 2,.bool true)]
theorem bs:b9 (at' 9 cp [] body aZ)=some (I 16):=ag
def dh:aU:=[(.bin .lss 3 1 (I 0),.bool false),
 (.len #[29] 3 0,2),
 (.bin .geq 3 1 2,.bool false),
 (.cV 29 0 1,3),
 (.bh 70 3,.agg ⟨[4,5,6,7,8,9,10,11]⟩)]
theorem cw:b9 (at' 9 dh [] body aZ)=some 8:=ag
@[reducible] noncomputable def a6 (l:List dx) (ej:bH) (er:Nat) (cell:Int):List ad:=[aO ej l er,I cell,I ((l.length:Nat):Int),fM (aO ej l er) ((cell).toNat*8),da (l.aD ((cell).toNat)).1,.bool (l.aD ((cell).toNat)).2.1,.bool (l.aD ((cell).toNat)).2.2.1,.bool (l.aD ((cell).toNat)).2.2.2.1,I (l.aD ((cell).toNat)).2.2.2.2.1,I (l.aD ((cell).toNat)).2.2.2.2.2.1,I (l.aD ((cell).toNat)).2.2.2.2.2.2.1,I (l.aD ((cell).toNat)).2.2.2.2.2.2.2]
theorem any (W:aG) {iZ:ad} {l:List dx} (az:dr (a7 W) 8 js iZ l) (cell:Int):Calls Tryd.prog 85 #[iZ,I cell] W λe w'=>e= .returned (I (bA l cell).2.2.2.2.1)/\cO W.heap.size W w':=by
 obtain⟨ej,er,rfl⟩:=az.slice;refine kT (a6 l ej er cell) body aZ N [al 0,al 1] Tryd.func85 λa ae=> ?_
 letI:=bE ae;have a_:=cC.q_ W;by_cases bd:cell<0
 ·refine br bz [] (U bf aB) aC ?_ ae
  exact b2 b4 λw2 bk=>(by (rw[Kg aj];rfl))
 ·by_cases af:((l.length:Nat):Int)<=cell
  ·refine br cp [] (U a' (U (e4 (az.mono a_.ext) mQ) (U bf aB))) aC ?_ ae
   exact b2 bs λw2 bk=>(by (rw[Kg aj];rfl))
  ·refine br dh [] (U a' (U (e4 (az.mono a_.ext) mQ) (U a' (U (aW.JT (az.mono a_.ext) (show (cell).toNat<l.length by omega) J J J mQ rS rfl (Gd aj) rfl) (U (aW.p_ (az.mono a_.ext) (f_ ((cell).toNat)) J J B9 rS J J J) aB))))) aC ?_ ae
   exact b2 cw λw2 bk=>(by (rw[Vd aj aj];rfl))
end WW
namespace WX
noncomputable def body:Code:=(Tryd.f87.body).getD .skip
def N:Nat:=9
noncomputable abbrev b9:=fu Tryd.prog Tryd.f87
def aZ:c6:={sl:=bm [(1,1),(0,0)],ms:=[],A:=start}
def bz:aU:=[(.bin .lss 3 1 (I 0),.bool true)]
theorem b4:b9 (at' 9 bz [] body aZ)=some (.agg ⟨[I 0,I 0,I 0]⟩):=ag
def cp:aU:=[(.bin .lss 3 1 (I 0),.bool false),
 (.len #[29] 3 0,2),
 (.bin .geq 3 1 2,.bool true)]
theorem bs:b9 (at' 9 cp [] body aZ)=some (.agg ⟨[I 0,I 0,I 0]⟩):=ag
def dh:aU:=[(.bin .lss 3 1 (I 0),.bool false),
 (.len #[29] 3 0,2),
 (.bin .geq 3 1 2,.bool false),
 (.cV 29 0 1,3),
 (.bh 70 3,.agg ⟨[4,5,6,7,8,9,10,11]⟩)]
theorem cw:b9 (at' 9 dh [] body aZ)=some (.agg ⟨[9,10,11]⟩):=ag
@[reducible] noncomputable def a6 (l:List dx) (ej:bH) (er:Nat) (cell:Int):List ad:=[aO ej l er,I cell,I ((l.length:Nat):Int),fM (aO ej l er) ((cell).toNat*8),da (l.aD ((cell).toNat)).1,.bool (l.aD ((cell).toNat)).2.1,.bool (l.aD ((cell).toNat)).2.2.1,.bool (l.aD ((cell).toNat)).2.2.2.1,I (l.aD ((cell).toNat)).2.2.2.2.1,I (l.aD ((cell).toNat)).2.2.2.2.2.1,I (l.aD ((cell).toNat)).2.2.2.2.2.2.1,I (l.aD ((cell).toNat)).2.2.2.2.2.2.2]
theorem any (W:aG) {iZ:ad} {l:List dx} (az:dr (a7 W) 8 js iZ l) (cell:Int):Calls Tryd.prog 87 #[iZ,I cell] W λe w'=>e= .returned (.agg ⟨[I (bA l cell).2.2.2.2.2.1,I (bA l cell).2.2.2.2.2.2.1,I (bA l cell).2.2.2.2.2.2.2]⟩)/\cO W.heap.size W w':=by
 obtain⟨ej,er,rfl⟩:=az.slice;refine kT (a6 l ej er cell) body aZ N [al 0,al 1] Tryd.func87 λa ae=> ?_
 letI:=bE ae;have a_:=cC.q_ W;by_cases bd:cell<0
 ·refine br bz [] (U bf aB) aC ?_ ae
  exact b2 b4 λw2 bk=>(by (rw[Kg aj];rfl))
 ·by_cases af:((l.length:Nat):Int)<=cell
  ·refine br cp [] (U a' (U (e4 (az.mono a_.ext) mQ) (U bf aB))) aC ?_ ae
   exact b2 bs λw2 bk=>(by (rw[Kg aj];rfl))
  ·refine br dh [] (U a' (U (e4 (az.mono a_.ext) mQ) (U a' (U (aW.JT (az.mono a_.ext) (show (cell).toNat<l.length by omega) J J J mQ rS rfl (Gd aj) rfl) (U (aW.p_ (az.mono a_.ext) (f_ ((cell).toNat)) J J B9 rS J J J) aB))))) aC ?_ ae
   exact b2 cw λw2 bk=>(by (rw[Vd aj aj];rfl))
end WX
end a1
section
namespace a1
section
variable [bp]
theorem afX {x y r v:ad} {l:List dx} {c:Int} (hp:fH [x,y]=true) (ar:bL r=true) (b5:fl [x,y]=[v,.int .i64 c]) (dc:bb r= .int .i64 (bA l c).2.2.2.2.1) (h:dr bp.dz 8 js v l):j0 Tryd.prog (85,[x,y],r):=
 kP (a:= #[v,.int .i64 c]) hp ar b5 dc λw hw=>WW.any w (h.mono hw) c
theorem afY {x y r v:ad} {l:List dx} {c:Int} (hp:fH [x,y]=true) (ar:bL r=true) (b5:fl [x,y]=[v,.int .i64 c]) (dc:bb r= .agg ⟨[.int .i64 (bA l c).2.2.2.2.2.1,.int .i64 (bA l c).2.2.2.2.2.2.1,.int .i64 (bA l c).2.2.2.2.2.2.2]⟩) (h:dr bp.dz 8 js v l):j0 Tryd.prog (87,[x,y],r):=
 kP (a:= #[v,.int .i64 c]) hp ar b5 dc λw hw=>WX.any w (h.mono hw) c
end
end a1
namespace a1
theorem afZ (p q:cc):uA Tryd.prog 10000 oK (L.val p) (L.val q)=some (p.1==q.1&&(p.2.1==q.2.1&&(p.2.2.1==q.2.2.1&&(p.2.2.2==q.2.2.2&&true)))):=ag
theorem af0:Tryd.prog.eqGuardType Tryd.prog.depth oK=false:=ag
theorem af1 (p q:cc):(p.1==q.1&&(p.2.1==q.2.1&&(p.2.2.1==q.2.2.1&&(p.2.2.2==q.2.2.2&&true))))=decide (p=q):=by
 obtain⟨a,b,c,d⟩:=p;obtain⟨bR,b',c',wu⟩:=q;rw[Bool.eq_iff_iff];simp
section
variable [bp]
theorem WY {x y:ad} {p q:cc} (aw:bL x=true) (hy:bL y=true) (ex:bb x=L.val p) (iV:bb y=L.val q) {d:Bool} (bu:d= !decide (p=q)):aW Tryd.prog (.bin .neq oK x y,.bool d):=by
 subst bu;exact aW.Oc af0 aw hy ex iV ((afZ p q).trans (by rw[af1]))
end
def qk (F:Int) (old x:cc) (dW:Int) (c:Nat):Int:=if 0<dP old c/\0<dP x c/\dP x c=given (dP old c) F c (decide (dW<0)) then dP x c else 0
def pN (F:Int) (old x:cc) (dW:Int):cc:=pJ (qk F old x dW)
def xd (l:List e2) (n:Nat) (jR:cc):List e2:=if jR=z4 then l else l++[(n,jR)]
def uL (l:List Nat) (n:Nat) (jR:cc):List Nat:=if jR=z4 then l else l++[n]
def yd (l:List cc) (n:Nat) (jR:cc):List cc:=if jR=z4 then l else l.set n (tG jR (l.getD n default))
theorem af2 {l:List e2} {g:List Nat} {li:List cc} {n:Nat} {jR:cc} (h:jR=z4):xd l n jR=l/\uL g n jR=g/\yd li n jR=li:=⟨aP h,aP h,aP h⟩
theorem af3 {l:List e2} {g:List Nat} {li:List cc} {n:Nat} {jR:cc} (h:¬jR=z4):xd l n jR=l++[(n,jR)]/\uL g n jR=g++[n]/\yd li n jR=li.set n (tG jR (li.getD n default)):=⟨aV h,aV h,aV h⟩
theorem KV {F dW:Int} {old x:cc} {c:Nat} (af:0<dP old c) (ah:0<dP x c) (aH:dP x c=given (dP old c) F c (decide (dW<0))):qk F old x dW c=dP x c:=aP ⟨af,ah,aH⟩
theorem KW {F dW:Int} {old x:cc} {c:Nat} (h:¬(0<dP old c/\0<dP x c/\dP x c=given (dP old c) F c (decide (dW<0)))):qk F old x dW c=0:=aV h
theorem WZ {F dW:Int} {old x:cc} {up:Bool} (hu:decide (dW<0)=up) (af:0<old.1) (ah:0<x.1) (aH:x.1=given old.1 F 0 up):x.1=qk F old x dW 0:=by
 subst hu;exact(KV (c:=0) af ah aH).symm
theorem KX {F dW:Int} {old x:cc} (h:0<old.1->0<x.1->x.1=given old.1 F 0 (decide (dW<0))->False):0=qk F old x dW 0:=(KW (c:=0) λq=>h q.1 q.2.1 q.2.2).symm
theorem W0 {F dW:Int} {old x:cc} {up:Bool} (hu:decide (dW<0)=up) (af:0<old.2.1) (ah:0<x.2.1) (aH:x.2.1=given old.2.1 F 1 up):x.2.1=qk F old x dW 1:=by
 subst hu;exact(KV (c:=1) af ah aH).symm
theorem KY {F dW:Int} {old x:cc} (h:0<old.2.1->0<x.2.1->x.2.1=given old.2.1 F 1 (decide (dW<0))->False):0=qk F old x dW 1:=(KW (c:=1) λq=>h q.1 q.2.1 q.2.2).symm
theorem W1 {F dW:Int} {old x:cc} {up:Bool} (hu:decide (dW<0)=up) (af:0<old.2.2.1) (ah:0<x.2.2.1) (aH:x.2.2.1=given old.2.2.1 F 2 up):x.2.2.1=qk F old x dW 2:=by
 subst hu;exact(KV (c:=2) af ah aH).symm
theorem KZ {F dW:Int} {old x:cc} (h:0<old.2.2.1->0<x.2.2.1->x.2.2.1=given old.2.2.1 F 2 (decide (dW<0))->False):0=qk F old x dW 2:=(KW (c:=2) λq=>h q.1 q.2.1 q.2.2).symm
theorem W2 {F dW:Int} {old x:cc} {up:Bool} (hu:decide (dW<0)=up) (af:0<old.2.2.2) (ah:0<x.2.2.2) (aH:x.2.2.2=given old.2.2.2 F 3 up):x.2.2.2=qk F old x dW 3:=by
 subst hu;exact(KV (c:=3) af ah aH).symm
theorem K0 {F dW:Int} {old x:cc} (h:0<old.2.2.2->0<x.2.2.2->x.2.2.2=given old.2.2.2 F 3 (decide (dW<0))->False):0=qk F old x dW 3:=(KW (c:=3) λq=>h q.1 q.2.1 q.2.2).symm
theorem W3 {F dW:Int} {old x:cc} {hE eU fj gu:Int} (bd:hE=qk F old x dW 0) (af:eU=qk F old x dW 1) (ah:fj=qk F old x dW 2) (aH:gu=qk F old x dW 3):((hE,eU,fj,gu):cc)=pN F old x dW:=by
 rw[bd,af,ah,aH];rfl
def zh (F:Int) (out x:cc) (dW:Int) (c:Nat):Int:=max (dP out c) (given (dP x c) F c (decide (0<dW)))
def pO (F:Int) (out x:cc) (dW:Int):cc:=pJ (zh F out x dW)
theorem W4 {F dW:Int} {out x:cc} {up:Bool} (hu:decide (0<dW)=up):max out.1 (given x.1 F 0 up)=zh F out x dW 0:=by
 subst hu;rfl
theorem W5 {F dW:Int} {out x:cc} {up:Bool} (hu:decide (0<dW)=up):max out.2.1 (given x.2.1 F 1 up)=zh F out x dW 1:=by
 subst hu;rfl
theorem W6 {F dW:Int} {out x:cc} {up:Bool} (hu:decide (0<dW)=up):max out.2.2.1 (given x.2.2.1 F 2 up)=zh F out x dW 2:=by
 subst hu;rfl
theorem W7 {F dW:Int} {out x:cc} {up:Bool} (hu:decide (0<dW)=up):max out.2.2.2 (given x.2.2.2 F 3 up)=zh F out x dW 3:=by
 subst hu;rfl
end a1
end
namespace a1
namespace W8
noncomputable def body:Code:=(Tryd.f61.body).getD .skip
def N:Nat:=18
def aZ:c6:={sl:=bm [(1,1),(0,0)],ms:=[],A:=start}
def bz:aU:=[(.dt 0,0),
 (.bQ 80 0 4,26),
 (.bh 29 26,2),
 (.bQ 80 0 1,27),
 (.bQ 28 27 1,28),
 (.bh 26 28,3),
 (.cV 26 3 1,29),
 (.bh 3 29,30)]
def h2:dm:=[(85,[2,30],31)]
theorem b4:fu Tryd.prog Tryd.f61 (at' 18 bz h2 body aZ)=some 31:=ag
@[reducible] noncomputable def a6 (table:List dx) (cq:bH) (du cr:Nat) (lit:List Int) (dn:bH) (dp dq aJ:Nat) (xa:Nat->ad) (av:Nat->ad) (xc:Nat->ad) (k:Nat):List ad:=[bj aJ 0,I ((k:Nat):Int),.slice cq du cr,.slice dn dp dq,xa 0,xa 1,xa 2,xa 3,xa 4,xa 5,xa 6,xa 7,xa 8,xa 9,xa 10,xa 11,xa 12,av 0,av 1,xc 0,xc 1,xc 2,xc 3,xc 4,xc 5,xc 6,bj aJ 16,bj aJ 7,bj aJ 13,fM (.slice dn dp dq) (k*1),I (lit.aD (k)),I (bA table (lit.aD (k))).2.2.2.2.1]
theorem any (W:aG) {cq:bH} {du cr:Nat} {table:List dx} (af4:dr (a7 W) 8 js (.slice cq du cr) table) {dn:bH} {dp dq:Nat} {lit:List Int} (W9:dr (a7 W) 1 gq (.slice dn dp dq) lit) {aJ:Nat} {xa:Nat->ad} {av:Nat->ad} {xc:Nat->ad} (W_:je 0 (a7 W) (bj aJ 0) 80 [xa 0,xa 1,xa 2,xa 3,xa 4,xa 5,xa 6,xa 7,xa 8,xa 9,xa 10,xa 11,xa 12,.slice dn dp dq,av 0,av 1,.slice cq du cr,xc 0,xc 1,xc 2,xc 3,xc 4,xc 5,xc 6]) (k:Nat) (ao:k<lit.length):Calls Tryd.prog 61 #[bj aJ 0,I ((k:Nat):Int)] W λe w'=>e= .returned (I (bA table (lit.aD k)).2.2.2.2.1)/\cO W.heap.size W w':=by
 refine kT (a6 table cq du cr lit dn dp dq aJ xa av xc k) body aZ N [al 0,al 1] Tryd.func61 λa ae=> ?_
 letI:=bE ae;have a_:=cC.q_ W;refine br bz h2 (U dB (U (b1 29 16 1) (U (aW.Ow (g:=aJ) (j:=16) (W_.up a_.ext) J J J ag J J) (U (b1 28 7 7) (U (b1 26 6 1) (U (aW.Ow (g:=aJ) (j:=13) (W_.up a_.ext) J J J ag J J) (U (f' (W9.mono a_.ext) iD jO) (U (im 0 (W9.mono a_.ext) (f_ k) kz) aB)))))))) (cv (afX J J J J (af4.mono a_.ext)) aC) ?_ ae;exact b2 b4 λw2 bk=>(by rfl)
end W8
end a1
namespace a1
namespace Xa
noncomputable def body:Code:=(Tryd.f57.body).getD .skip
def N:Nat:=13
def aZ:c6:={sl:=bm [(1,1),(0,0)],ms:=[],A:=start}
def bz:aU:=[(.dt 0,0),
 (.bQ 78 0 0,0),
 (.bh 26 0,2)]
theorem b4:q9 26 (at' 13 bz [] body aZ)=some (2,1):=ag
abbrev eT:=at' 13 bz [] body aZ
def cY:List bG:=[]
def c8:ax:=bm [(4,0)]
def c0:ax:=dS 13 c8 10 26
theorem bs:bF (b0 eT) c8 cY=some [(0,0)]:=ag
def c5:ct:=(body,[],7)
def cp:aU:=[(.dt 0,0),
 (.bQ 78 0 0,0)]
theorem gy:hc (bD 13 cp [] c5 (aN c0 cY))=some (26,0,26):=ag
abbrev h':=bD 13 cp [] c5 {sl:=c0,ms:=[],A:=cS cY}
def fm:List bG:=[]
def fT:ax:=bm []
def eO:ax:=match e8 13 fT none (.tuple ⟨[]⟩) with|some s=>s|none=> .nil
theorem iC:bF (b0 h') fT fm=some []:=ag
def ga:ct:=(body,[],10)
theorem jS:fu Tryd.prog Tryd.f57 (bD 13 [] [] ga (aN eO fm))=some (.tuple ⟨[]⟩):=ag
@[reducible] noncomputable def a6 (aE:List Nat) (dy:bH) (dv:Nat) (x:List Nat) (iE:bH) (iF aJ:Nat) (xa:Nat->ad) (av:ad) (cj:List Nat:=[]) (a0:bH:=none) (eN:Nat:=0):List ad:=[bj aJ 22,aO iE x iF,aO dy aE dv,xa 0,xa 1,xa 2,xa 3,xa 4,xa 5,xa 6,xa 7,xa 8,xa 9,xa 10,xa 11,xa 12,xa 13,xa 14,xa 15,xa 16,xa 17,xa 18,xa 19,xa 20,xa 21,av,aO a0 cj eN]
theorem any (W:aG) {aE:List Nat} {dy:bH} {dv:Nat} {x:List Nat} {iE:bH} {iF aJ:Nat} {xa:Nat->ad} {av:ad} (gm:dO (a7 W) [pa dy aE dv,qd 1 mD (aO iE x iF) x,cb aJ 80 [xa 0,xa 1,xa 2,xa 3,xa 4,xa 5,xa 6,xa 7,xa 8,xa 9,xa 10,xa 11,xa 12,xa 13,xa 14,xa 15,xa 16,xa 17,xa 18,xa 19,xa 20,xa 21,aO dy aE dv,av]]) (hlen:aE.length+x.length<=500000):Calls Tryd.prog 57 #[bj aJ 22,aO iE x iF] W λe w'=>(∃y:bH×Nat,e= .returned (.tuple #[])/\dw (a7 W) [pa dy aE dv,qd 1 mD (aO iE x iF) x,cb aJ 80 [xa 0,xa 1,xa 2,xa 3,xa 4,xa 5,xa 6,xa 7,xa 8,xa 9,xa 10,xa 11,xa 12,xa 13,xa 14,xa 15,xa 16,xa 17,xa 18,xa 19,xa 20,xa 21,aO dy aE dv,av]] (a7 w') [kd nO 1 mD (.slice y.1 (aE++x).length y.2) (aE++x),qd 1 mD (aO iE x iF) x,cb aJ lF (List.set [xa 0,xa 1,xa 2,xa 3,xa 4,xa 5,xa 6,xa 7,xa 8,xa 9,xa 10,xa 11,xa 12,xa 13,xa 14,xa 15,xa 16,xa 17,xa 18,xa 19,xa 20,xa 21,aO dy aE dv,av] 22 (.slice y.1 (aE++x).length y.2))])/\cO 0 W w':=by
 refine lg (a6 aE dy dv x iE iF aJ xa av) body aZ N [al 0,al 1] Tryd.func57 λa ae=> ?_
 letI:=bE ae;have a_:=cC.start W _ gm;refine br bz [] (U dB (U (b1 26 0 1) (U (cu 22 2 a_) aB))) aC ?_ ae;obtain⟨cj,fD⟩:=ey (aE++x);have hh:cj.length=aE.length+x.length:=by rw[fD];simp
 refine OF (l:=aE) (lx:=x) (l':=cj) (bC:=λoi oj=>(a6 aE dy dv x iE iF aJ xa av cj oi oj)) (T:=(fX (aO dy aE dv))) fD b4 vF V0 V1 V2 V3 V4 aL kZ V5 bs (cF c0 26) rfl (OH J J (a_.j8 0 rfl)) (B3 J J λw hw=>((a_.red 1 rfl).arr kZ).reads kZ hw) (wQ (show aE.length+x.length<=1000000 by omega)) (show (aE.length+x.length)*GC<=140737488355328 by unfold GC;omega) (λ_ _ _=>b7) (λ_ _ _=>rfl) ?_;intro fN a0 eN lT gb Cw ch w ae;have bP:=a_.gM 0 rfl (D5 lT gb Cw);replace bP:=bP.uK;letI:=bE ae;refine cm (cn c5) cp [] (U dB (U (b1 26 0 1) aB)) aC ?_ ae;refine oP 22 [xa 0,xa 1,xa 2,xa 3,xa 4,xa 5,xa 6,xa 7,xa 8,xa 9,xa 10,xa 11,xa 12,xa 13,xa 14,xa 15,xa 16,xa 17,xa 18,xa 19,xa 20,xa 21,aO a0 cj eN,av] (a6 aE dy dv x iE iF aJ xa av cj a0 eN) gy iC (cF eO (.tuple ⟨[]⟩)) (bP.box 2 rfl) ?_;intro hr rf lU ch w ae;have dK:=bP.gM 2 rfl (lR rf lU);replace dK:=dK.uK;letI:=bE ae;refine cm (cn ga) [] [] aB aC ?_ ae;exact b2 jS λw2 bk=>(by subst_vars;exact⟨(_,_),rfl,(dK.done bk)⟩)
end Xa
namespace PG
noncomputable def body:Code:=(Tryd.f69.body).getD .skip
def N:Nat:=13
def aZ:c6:={sl:=bm [(1,1),(0,0)],ms:=[],A:=start}
def bz:aU:=[(.dt 0,0),
 (.bQ 73 0 0,0),
 (.bh 71 0,2)]
theorem b4:q9 71 (at' 13 bz [] body aZ)=some (2,1):=ag
abbrev eT:=at' 13 bz [] body aZ
def cY:List bG:=[]
def c8:ax:=bm [(4,0)]
def c0:ax:=dS 13 c8 10 26
theorem bs:bF (b0 eT) c8 cY=some [(0,0)]:=ag
def c5:ct:=(body,[],7)
def cp:aU:=[(.dt 0,0),
 (.bQ 73 0 0,0)]
theorem gy:hc (bD 13 cp [] c5 (aN c0 cY))=some (71,0,26):=ag
abbrev h':=bD 13 cp [] c5 {sl:=c0,ms:=[],A:=cS cY}
def fm:List bG:=[]
def fT:ax:=bm []
def eO:ax:=match e8 13 fT none (.tuple ⟨[]⟩) with|some s=>s|none=> .nil
theorem iC:bF (b0 h') fT fm=some []:=ag
def ga:ct:=(body,[],10)
theorem jS:fu Tryd.prog Tryd.f69 (bD 13 [] [] ga (aN eO fm))=some (.tuple ⟨[]⟩):=ag
@[reducible] noncomputable def a6 (bI:List gJ) (c1:bH) (cW:Nat) (x:List gJ) (iE:bH) (iF aJ:Nat) (xa:Nat->ad) (av:Nat->ad) (cj:List gJ:=[]) (a0:bH:=none) (eN:Nat:=0):List ad:=[bj aJ 19,aO iE x iF,aO c1 bI cW,xa 0,xa 1,xa 2,xa 3,xa 4,xa 5,xa 6,xa 7,xa 8,xa 9,xa 10,xa 11,xa 12,xa 13,xa 14,xa 15,xa 16,xa 17,xa 18,av 0,av 1,av 2,av 3,aO a0 cj eN]
theorem any (W:aG) {bI:List gJ} {c1:bH} {cW:Nat} {x:List gJ} {iE:bH} {iF aJ:Nat} {xa:Nat->ad} {av:Nat->ad} (gm:dO (a7 W) [qh c1 bI cW,qd 3 oL (aO iE x iF) x,cb aJ 80 [xa 0,xa 1,xa 2,xa 3,xa 4,xa 5,xa 6,xa 7,xa 8,xa 9,xa 10,xa 11,xa 12,xa 13,xa 14,xa 15,xa 16,xa 17,xa 18,aO c1 bI cW,av 0,av 1,av 2,av 3]]) (hlen:bI.length+x.length<=500000):Calls Tryd.prog 69 #[bj aJ 19,aO iE x iF] W λe w'=>(∃y:bH×Nat,e= .returned (.tuple #[])/\dw (a7 W) [qh c1 bI cW,qd 3 oL (aO iE x iF) x,cb aJ 80 [xa 0,xa 1,xa 2,xa 3,xa 4,xa 5,xa 6,xa 7,xa 8,xa 9,xa 10,xa 11,xa 12,xa 13,xa 14,xa 15,xa 16,xa 17,xa 18,aO c1 bI cW,av 0,av 1,av 2,av 3]] (a7 w') [kd qI 3 oL (.slice y.1 (bI++x).length y.2) (bI++x),qd 3 oL (aO iE x iF) x,cb aJ lF (List.set [xa 0,xa 1,xa 2,xa 3,xa 4,xa 5,xa 6,xa 7,xa 8,xa 9,xa 10,xa 11,xa 12,xa 13,xa 14,xa 15,xa 16,xa 17,xa 18,aO c1 bI cW,av 0,av 1,av 2,av 3] 19 (.slice y.1 (bI++x).length y.2))])/\cO 0 W w':=by
 refine lg (a6 bI c1 cW x iE iF aJ xa av) body aZ N [al 0,al 1] Tryd.func69 λa ae=> ?_
 letI:=bE ae;have a_:=cC.start W _ gm;refine br bz [] (U dB (U (b1 71 0 1) (U (cu 19 2 a_) aB))) aC ?_ ae;obtain⟨cj,fD⟩:=ey (bI++x);have hh:cj.length=bI.length+x.length:=by rw[fD];simp
 refine OF (l:=bI) (lx:=x) (l':=cj) (bC:=λoi oj=>(a6 bI c1 cW x iE iF aJ xa av cj oi oj)) (T:=(fX (aO c1 bI cW))) fD b4 wY aeI aeJ aeK aeL aeM aL rW aeN bs (cF c0 26) rfl (OH J J (a_.j8 0 rfl)) (B3 J J λw hw=>((a_.red 1 rfl).arr rW).reads rW hw) (wQ (show bI.length+x.length<=1000000 by omega)) (show (bI.length+x.length)*O8<=140737488355328 by unfold O8;omega) (λ_ _ _=>b7) (λ_ _ _=>rfl) ?_;intro fN a0 eN lT gb Cw ch w ae;have bP:=a_.gM 0 rfl (D5 lT gb Cw);replace bP:=bP.uK;letI:=bE ae;refine cm (cn c5) cp [] (U dB (U (b1 71 0 1) aB)) aC ?_ ae;refine oP 19 [xa 0,xa 1,xa 2,xa 3,xa 4,xa 5,xa 6,xa 7,xa 8,xa 9,xa 10,xa 11,xa 12,xa 13,xa 14,xa 15,xa 16,xa 17,xa 18,aO a0 cj eN,av 0,av 1,av 2,av 3] (a6 bI c1 cW x iE iF aJ xa av cj a0 eN) gy iC (cF eO (.tuple ⟨[]⟩)) (bP.box 2 rfl) ?_;intro hr rf lU ch w ae;have dK:=bP.gM 2 rfl (lR rf lU);replace dK:=dK.uK;letI:=bE ae;refine cm (cn ga) [] [] aB aC ?_ ae;exact b2 jS λw2 bk=>(by subst_vars;exact⟨(_,_),rfl,(dK.done bk)⟩)
end PG
namespace Xb
noncomputable def body:Code:=(Tryd.f86.body).getD .skip
def N:Nat:=13
def aZ:c6:={sl:=bm [(1,1),(0,0)],ms:=[],A:=start}
def bz:aU:=[(.dt 0,0),
 (.bQ 76 0 0,0),
 (.bh 74 0,2)]
theorem b4:q9 74 (at' 13 bz [] body aZ)=some (2,1):=ag
abbrev eT:=at' 13 bz [] body aZ
def cY:List bG:=[]
def c8:ax:=bm [(4,0)]
def c0:ax:=dS 13 c8 10 26
theorem bs:bF (b0 eT) c8 cY=some [(0,0)]:=ag
def c5:ct:=(body,[],7)
def cp:aU:=[(.dt 0,0),
 (.bQ 76 0 0,0)]
theorem gy:hc (bD 13 cp [] c5 (aN c0 cY))=some (74,0,26):=ag
abbrev h':=bD 13 cp [] c5 {sl:=c0,ms:=[],A:=cS cY}
def fm:List bG:=[]
def fT:ax:=bm []
def eO:ax:=match e8 13 fT none (.tuple ⟨[]⟩) with|some s=>s|none=> .nil
theorem iC:bF (b0 h') fT fm=some []:=ag
def ga:ct:=(body,[],10)
theorem jS:fu Tryd.prog Tryd.f86 (bD 13 [] [] ga (aN eO fm))=some (.tuple ⟨[]⟩):=ag
@[reducible] noncomputable def a6 (aQ:List e2) (cZ:bH) (cT:Nat) (x:List e2) (iE:bH) (iF aJ:Nat) (xa:Nat->ad) (av:Nat->ad) (cj:List e2:=[]) (a0:bH:=none) (eN:Nat:=0):List ad:=[bj aJ 20,aO iE x iF,aO cZ aQ cT,xa 0,xa 1,xa 2,xa 3,xa 4,xa 5,xa 6,xa 7,xa 8,xa 9,xa 10,xa 11,xa 12,xa 13,xa 14,xa 15,xa 16,xa 17,xa 18,xa 19,av 0,av 1,av 2,aO a0 cj eN]
theorem any (W:aG) {aQ:List e2} {cZ:bH} {cT:Nat} {x:List e2} {iE:bH} {iF aJ:Nat} {xa:Nat->ad} {av:Nat->ad} (gm:dO (a7 W) [pL cZ aQ cT,qd 5 pK (aO iE x iF) x,cb aJ 80 [xa 0,xa 1,xa 2,xa 3,xa 4,xa 5,xa 6,xa 7,xa 8,xa 9,xa 10,xa 11,xa 12,xa 13,xa 14,xa 15,xa 16,xa 17,xa 18,xa 19,aO cZ aQ cT,av 0,av 1,av 2]]) (hlen:aQ.length+x.length<=500000):Calls Tryd.prog 86 #[bj aJ 20,aO iE x iF] W λe w'=>(∃y:bH×Nat,e= .returned (.tuple #[])/\dw (a7 W) [pL cZ aQ cT,qd 5 pK (aO iE x iF) x,cb aJ 80 [xa 0,xa 1,xa 2,xa 3,xa 4,xa 5,xa 6,xa 7,xa 8,xa 9,xa 10,xa 11,xa 12,xa 13,xa 14,xa 15,xa 16,xa 17,xa 18,xa 19,aO cZ aQ cT,av 0,av 1,av 2]] (a7 w') [kd rl 5 pK (.slice y.1 (aQ++x).length y.2) (aQ++x),qd 5 pK (aO iE x iF) x,cb aJ lF (List.set [xa 0,xa 1,xa 2,xa 3,xa 4,xa 5,xa 6,xa 7,xa 8,xa 9,xa 10,xa 11,xa 12,xa 13,xa 14,xa 15,xa 16,xa 17,xa 18,xa 19,aO cZ aQ cT,av 0,av 1,av 2] 20 (.slice y.1 (aQ++x).length y.2))])/\cO 0 W w':=by
 refine lg (a6 aQ cZ cT x iE iF aJ xa av) body aZ N [al 0,al 1] Tryd.func86 λa ae=> ?_
 letI:=bE ae;have a_:=cC.start W _ gm;refine br bz [] (U dB (U (b1 74 0 1) (U (cu 20 2 a_) aB))) aC ?_ ae;obtain⟨cj,fD⟩:=ey (aQ++x);have hh:cj.length=aQ.length+x.length:=by rw[fD];simp
 refine OF (l:=aQ) (lx:=x) (l':=cj) (bC:=λoi oj=>(a6 aQ cZ cT x iE iF aJ xa av cj oi oj)) (T:=(fX (aO cZ aQ cT))) fD b4 uF aeP aeQ aeR aeS aeT aL rm aeU bs (cF c0 26) rfl (OH J J (a_.j8 0 rfl)) (B3 J J λw hw=>((a_.red 1 rfl).arr rm).reads rm hw) (wQ (show aQ.length+x.length<=1000000 by omega)) (show (aQ.length+x.length)*O'<=140737488355328 by unfold O';omega) (λ_ _ _=>b7) (λ_ _ _=>rfl) ?_;intro fN a0 eN lT gb Cw ch w ae;have bP:=a_.gM 0 rfl (D5 lT gb Cw);replace bP:=bP.uK;letI:=bE ae;refine cm (cn c5) cp [] (U dB (U (b1 74 0 1) aB)) aC ?_ ae;refine oP 20 [xa 0,xa 1,xa 2,xa 3,xa 4,xa 5,xa 6,xa 7,xa 8,xa 9,xa 10,xa 11,xa 12,xa 13,xa 14,xa 15,xa 16,xa 17,xa 18,xa 19,aO a0 cj eN,av 0,av 1,av 2] (a6 aQ cZ cT x iE iF aJ xa av cj a0 eN) gy iC (cF eO (.tuple ⟨[]⟩)) (bP.box 2 rfl) ?_;intro hr rf lU ch w ae;have dK:=bP.gM 2 rfl (lR rf lU);replace dK:=dK.uK;letI:=bE ae;refine cm (cn ga) [] [] aB aC ?_ ae;exact b2 jS λw2 bk=>(by subst_vars;exact⟨(_,_),rfl,(dK.done bk)⟩)
end Xb
end a1
end Go.Proofs.YtepcfjbfkedlpaaDoor
