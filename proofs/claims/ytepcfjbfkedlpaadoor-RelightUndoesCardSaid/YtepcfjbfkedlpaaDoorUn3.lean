/- Parts of the proof. -/
import Derived.Test.YtepcfjbfkedlpaaDoorUn2
import Derived.Laws.OwnMore
import Derived.Laws.CopyRow
import Derived.Laws.Pointers
set_option maxRecDepth 100000
set_option maxHeartbeats 4000000
namespace Go.Proofs.YtepcfjbfkedlpaaDoor
open Go Go.RowKit
namespace AE
theorem Ws {α:Type} {k:Nat} {enc:α->List J} (al:∀x,(enc x).length=k) {j:Nat} (hj:j<k) {nJ:J} {y:α}:∀(l:List α) (i:Nat),i<l.length->(∀x,l[i]? =some x->enc y=(enc x).set j nJ)->(l.set i y).flatMap enc=(l.flatMap enc).set (i*k+j) nJ
 |[],i,h,_=>by simp at h
 |x::r,0,_,bE=>by
  rw[List.set_cons_zero,List.flatMap_cons,List.flatMap_cons,bE x rfl,List.set_append_left _ _ (by rw[al];omega),Nat.zero_mul,Nat.zero_add]
 |x::r,i+1,h,bE=>by
  rw[List.set_cons_succ,List.flatMap_cons,List.flatMap_cons,Ws al hj r i (by simpa using h) (λz bU=>bE z (by simpa using bU)),List.set_append_right _ _ (by rw[al,Nat.add_mul];omega),al];congr 2;rw[Nat.add_mul];omega
theorem Wt [cS] {α:Type} {P:aR} {N B:Nat} {w0:ax} {Q:Exit->Act->ax->Prop} {M:Mem} {bq bj:List J} {o:Option bY} {t e:aK} {k:Nat} {p x u nJ:J} {enc:α->List J} {l l':List α} {i j:Nat} {y:α} {eb dI:aF} {aZ:List bu} {bL:eE}
  (fL:l'=l.set i y) (h:nG o=some (t,p,x)) (cr:bg P (sizeOf t)=some 1) (al:∀x,(enc x).length=k) (hj:j<k) (bE:∀z,l[i]? =some z->enc y=(enc z).set j nJ)
  (dd:cp (b7 o) eb aZ=some bL) (eL:gZ N eb (ka o) undef=some dI) (hp:aM p=true) (aq:aM x=true) (mg: @aJ (aW M bq) p=hb u (i*k+j)) (ex: @aJ (aW M bq) x=nJ) (hu:nJ.cells= #[nJ]) (kb:nJ.oneCell'=true)
  (cM:dw B M e k enc u l) (ai:i<l.length) (hm:∀M',fP (aW M bq) (aW M' bj) bL)
  (rest:∀M',dw B M' e k enc u l'->h7 M M' (eP u)->∀a7 w,@Here (aW M' bj) _ N {sl:=dI,ms:=[],A:=c6 aZ} B w0 a7 w->wpListIn (Fr none) 0 P (kI o) (dY P (gA o) Q) (kH o) a7 w)
  (av:cS.eu<=aZ.length:=by first|exact Nat.zero_le _|exact gG rfl) (ar:iy (b7 o).A aZ 0:=by exact gX rfl): @fy (aW M bq) _ P N B w0 Q o:=by
 subst fL;letI:=aW M bq;unfold nG at h;split at h
 ·rename_i op r ops s ks
  refine⟨_,rfl,λa w ah=> ?_⟩;split at h
  ·rename_i dt ow hd cy
   split at h
   ·rename_i jK
    cases h;have hE:=ah;obtain⟨⟨φ,ds,ad,ag,ay,bG,_⟩,cE,cR⟩:=ah;unfold wpListIn;rw[pv ag.get jK,aY rfl];have es:a.eval ow=hb u (i*k+j):=(aD.ji _ hp (gV (iG φ) ag.get ow)).trans mg;have o0:a.eval hd=nJ:=(aD.ji _ aq (gV (iG φ) ag.get hd)).trans ex;have hw:∀i o,M i=some o->w.heap[i]? =some o:=hE.nW;rcases cM with ⟨hc,rfl,rfl⟩|⟨g,cap,cur,rfl,ku,cT,bt,hle,xN,fV,yo⟩
    ·simp at ai
    ·have aA:=hw _ _ bt
     have JU:i*k+j<cur.size:=by
      rw[fV];have:=Nat.mul_le_mul_right k (show i+1<=cap by omega);rw[Nat.add_mul] at this;omega
     let fQ:Array J:=(cur.toList.take (i*k+j)++[nJ]++cur.toList.drop (i*k+j+1)).toArray
     have fg:fQ=(cur.toList.set (i*k+j) nJ).toArray:=by
      show (cur.toList.take (i*k+j)++[nJ]++cur.toList.drop (i*k+j+1)).toArray=_;rw[List.set_eq_take_append_cons_drop,aY (by rw[Array.length_toList];exact JU)];simp
     have xK:(storeCells ⟨g,i*k+j,none⟩ [nJ]).run P w= .ok () (w.setRow g fQ):=by
      have:=run_storeCells_at P g (i*k+j) e [nJ] 0 cur w aA (by simp only [List.length_cons,List.length_nil];omega) (λv aC=>by rw[List.mem_singleton.1 aC];exact kb);simpa only [Nat.add_zero,List.length_cons,List.length_nil] using this
     have fw:(execOp a.eval op).run P w= .ok .skip (w.setRow g fQ):=by
      unfold execOp;rw[cy];simp only [es,o0];show (do Instr.storeAt t (hb (.slice (some ⟨g,0,none⟩) l.length cap) (i*k+j)) nJ;pure Next.skip:Sem Next).run P w=_;have c1:(Instr.storeAt t (hb (.slice (some ⟨g,0,none⟩) l.length cap) (i*k+j)) nJ).run P w= .ok () (w.setRow g fQ):=by
       unfold Instr.storeAt;refine c4 (a:=(⟨g,0+(i*k+j),none⟩:Addr)) rfl ?_;unfold storeVar;refine c4 cr ?_;rw[a' (by rw[hu];simp),hu,Nat.zero_add];exact xK
      simp only [Sem.run_bind,c1,Result.andThen_ok];rfl
     have fz:∀c',op.op≠.defer c':=λc' h=>by rw[cy] at h;cases h
     refine⟨λ_ _=>trivial,?_⟩;rw[Oper.semAt_eq _ _ _ fz,fw,Oper.uponIn_skip];have ig:eP (.slice (some ⟨g,0,none⟩) l.length cap)=some g:=nX ⟨g,0,none⟩ _ ku;obtain⟨q1,aH⟩:=qF (B:=B) (M:=M) (w':=w.setRow g fQ) (T:=some g) (da:=some g) hw (λi ai=>by cases ai;exact⟨by rw[bt];simp,cT⟩) (λi ai=> .inl ai) ⟨rfl,rfl,rfl⟩ (cj _) (by simp [World.setRow]) (λj _ hj=>setRow_other w g j fQ (λh=>hj (by rw[h])));have vB:dw B (h8 M (w.setRow g fQ) (some g) (some g)) e k enc (.slice (some ⟨g,0,none⟩) l.length cap) (l.set i y):=by
      refine .inr ⟨g,cap,fQ,by rw[List.length_set],ku,cT,?_,by rw[List.length_set];exact hle,xN,by rw[fg];simpa using fV,?_⟩
      ·unfold h8
       rw[aY rfl];exact setRow_heap w g cur fQ e (0,0) aA
      ·rw[fg,List.length_set,Ws al hj l i ai bE,<-yo]
       exact List.take_set ..
     have hS:=Here.turns (vals':=bj) dd (hm _) q1 av ar hE;letI:=aW (h8 M (w.setRow g fQ) (some g) (some g)) bj;exact rest _ vB (by rw[ig];exact aH) _ _ (Here.put (d:=op.dst) hS (v:=undef) rfl eL)
   ·cases h
  ·cases h
 ·cases h
theorem Oy [cS] {P:aR} {N B:Nat} {w0:ax} {Q:Exit->Act->ax->Prop} {M:Mem} {bq bj:List J} {o:Option bY} {t ty:aK} {g j n:Nat} {p x:J} {us cs cs':List J} {eb dI:aF} {aZ:List bu} {bL:eE}
  (fL:cs'=cs.take j++us++cs.drop (j+n)) (h:nG o=some (t,p,x)) (cr:bg P (sizeOf t)=some n)
  (dd:cp (b7 o) eb aZ=some bL) (eL:gZ N eb (ka o) undef=some dI) (hp:aM p=true) (aq:aM x=true) (mg: @aJ (aW M bq) p= .pointer (some ⟨g,j,none⟩)) (ex: @aJ (aW M bq) x= .agg ⟨us⟩) (hu:us.length=n) (kb:∀u∈us,u.oneCell'=true)
  (cM:jo B M (.pointer (some ⟨g,0,none⟩)) ty cs) (hj:j+n<=cs.length) (hm:∀M',fP (aW M bq) (aW M' bj) bL)
  (rest:∀M',jo B M' (.pointer (some ⟨g,0,none⟩)) ty cs'->h7 M M' (some g)->∀a7 w,@Here (aW M' bj) _ N {sl:=dI,ms:=[],A:=c6 aZ} B w0 a7 w->wpListIn (Fr none) 0 P (kI o) (dY P (gA o) Q) (kH o) a7 w)
  (av:cS.eu<=aZ.length:=by first|exact Nat.zero_le _|exact gG rfl) (ar:iy (b7 o).A aZ 0:=by exact gX rfl): @fy (aW M bq) _ P N B w0 Q o:=by
 subst fL;letI:=aW M bq;unfold nG at h;split at h
 ·rename_i op r ops s ks
  refine⟨_,rfl,λa w ah=> ?_⟩;split at h
  ·rename_i dt ow hd cy
   split at h
   ·rename_i jK
    cases h;have hE:=ah;obtain⟨⟨φ,ds,ad,ag,ay,bG,_⟩,cE,cR⟩:=ah;unfold wpListIn;rw[pv ag.get jK,aY rfl];have es:a.eval ow= .pointer (some ⟨g,j,none⟩):=(aD.ji _ hp (gV (iG φ) ag.get ow)).trans mg;have o0:a.eval hd= .agg ⟨us⟩:=(aD.ji _ aq (gV (iG φ) ag.get hd)).trans ex;have hw:∀i o,M i=some o->w.heap[i]? =some o:=hE.nW;obtain⟨bt,cT⟩:=cM.known;have aA:=hw _ _ bt
    let fQ:Array J:=(cs.take j++us++cs.drop (j+n)).toArray
    have xK:(storeCells ⟨g,j,none⟩ us).run P w= .ok () (w.setRow g fQ):=by
     have:=run_storeCells_at P g j ty us 0 ⟨cs⟩ w aA (by simp only [List.size_toArray];omega) kb;simp only [Nat.add_zero,hu] at this;exact this
    have fw:(execOp a.eval op).run P w= .ok .skip (w.setRow g fQ):=by
     unfold execOp;rw[cy];simp only [es,o0];show (do Instr.storeAt t (.pointer (some ⟨g,j,none⟩)) (.agg ⟨us⟩);pure Next.skip:Sem Next).run P w=_;have c1:(Instr.storeAt t (.pointer (some ⟨g,j,none⟩)) (.agg ⟨us⟩)).run P w= .ok () (w.setRow g fQ):=by
      unfold Instr.storeAt;refine c4 (a:=(⟨g,j,none⟩:Addr)) rfl ?_;unfold storeVar;refine c4 cr ?_;rw[a' (by simp [Value.cells,hu])];exact xK
     simp only [Sem.run_bind,c1,Result.andThen_ok];rfl
    have fz:∀c',op.op≠.defer c':=λc' h=>by rw[cy] at h;cases h
    refine⟨λ_ _=>trivial,?_⟩;rw[Oper.semAt_eq _ _ _ fz,fw,Oper.uponIn_skip];obtain⟨q1,aH⟩:=qF (B:=B) (M:=M) (w':=w.setRow g fQ) (T:=some g) (da:=some g) hw (λi ai=>by cases ai;exact⟨by rw[bt];simp,cT⟩) (λi ai=> .inl ai) ⟨rfl,rfl,rfl⟩ (cj _) (by simp [World.setRow]) (λj _ hj=>setRow_other w g j fQ (λh=>hj (by rw[h])));have vB:jo B (h8 M (w.setRow g fQ) (some g) (some g)) (.pointer (some ⟨g,0,none⟩)) ty (cs.take j++us++cs.drop (j+n)):=by
     refine⟨g,rfl,cT,?_⟩;unfold h8;rw[aY rfl];exact setRow_heap w g ⟨cs⟩ fQ ty (0,0) aA
    have hS:=Here.turns (vals':=bj) dd (hm _) q1 av ar hE;letI:=aW (h8 M (w.setRow g fQ) (some g) (some g)) bj;exact rest _ vB aH _ _ (Here.put (d:=op.dst) hS (v:=undef) rfl eL)
   ·cases h
  ·cases h
 ·cases h
section
variable [a1] {P:aR}
theorem aT.JV {B g o n:Nat} {ty t:aK} {cs us:List J} {p r:J} (cM:jo B a1.dq (.pointer (some ⟨g,0,none⟩)) ty cs) (hu:us=(cs.drop o).take n) (hp:aM p=true) (ao:aM r=true) (ha:bg P (isAgg t)=some true) (av:bg P (sizeOf t)=some n) (hl:us.length=n) (mg:aJ p= .pointer (some ⟨g,o,none⟩)) (b9:aJ r= .agg ⟨us⟩):aT P (.bA t p,r):=
 aT.bA hp ao ha av mg hl (λw hw j u hj=>by
  rw[cell_of_row w g _ ⟨cs⟩ ty (0,0) (hw _ _ cM.known.1)];rw[hu,List.getElem?_take] at hj;split at hj
  ·rw[List.getElem?_drop] at hj
   simpa using hj
  ·cases hj) b9
end
theorem kM.drop {α:Type} {B:Nat} {M:Mem} {e:aK} {k:Nat} {enc:α->List J} (al:∀x,(enc x).length=k) {a:Option Addr} {n c:Nat} {l:List α} (h:kM B M e k enc (.slice a n c) l) {j:Nat} (hj:j<=n):kM B M e k enc (.slice (la a c j k) (n-j) (c-j)) (l.drop j):=by
 rcases h with ⟨a7,h,rfl⟩|⟨g,off,sd,cur,h,ar,cT,bt,hle,xN,fV,yo⟩
 ·cases h
  obtain rfl:j=0:=by omega
  exact .inl ⟨_,rfl,rfl⟩
 ·cases h
  by_cases JU:c=j
  ·subst JU
   have h0:l.drop c=[]:=List.drop_eq_nil_of_le hle;rw[h0];refine .inl ⟨la (some ⟨g,off,none⟩) c c k,?_,rfl⟩;rw[show l.length-c=0 by omega,Nat.sub_self]
  ·have af8:la (some ⟨g,off,none⟩) c j k=some ⟨g,off+j*k,none⟩:=by
    unfold la;rw[a' JU];simp [Addr.kr]
   refine .inr ⟨g,off+j*k,c-j,cur,by rw[af8,List.length_drop],aj,cT,bt,by rw[List.length_drop];omega,aj,?_,?_⟩
   ·rw[fV,Nat.sub_mul]
    have:=Nat.mul_le_mul_right k (show j<=c by omega);omega
   ·rw[List.length_drop,Nat.sub_mul,<-List.drop_drop]
    have ad:=congrArg (List.drop (j*k)) yo;rw[List.drop_take] at ad;rw[ad,N8 al l j]
theorem af9 {α:Type} {P:aR} {w:ax} {B:Nat} {M:Mem} {t ty e:aK} {i:TypeInfo} {z:J} {k bytes:Nat} (aL:P.underlying t=some (.slice e)) (ai:P.info? e=some i) (bU:i.zero=some z) (gL:i.size=k) (jU:i.bytes=bytes) (mf:z.cells.size=k) (hY:0<k)
  {enc:α->List J} (al:∀x,(enc x).length=k) (kb:∀x,∀u∈enc x,u.oneCell'=true) {v x:J} {l lx:List α} (cM:kM B M e k enc v l) (aq:r9 w k enc x lx) (hw:∀i o,M i=some o->w.heap[i]? =some o) (cT:B<=w.heap.size)
  (iS:l.length+lx.length<=maxLen) (lN:(l.length+lx.length)*bytes<=140737488355328):
  ∃aB w' M',(Builtin.append_ #[t,t] ty #[v,x]).run P w= .ok aB w'/\kM B M' e k enc aB (l++lx)/\A' B M M' (eP v) w w'/\h7 M M' (eP v)/\∀j,some j=eP aB->some j=eP v\/M j=none:=by
 have Wu:∀{a:Option Addr},v= .slice a 0 0->l=[]->∃aB w' M',(Builtin.append_ #[t,t] ty #[v,x]).run P w= .ok aB w'/\kM B M' e k enc aB (l++lx)/\A' B M M' (eP v) w w'/\h7 M M' (eP v)/\∀j,some j=eP aB->some j=eP v\/M j=none:=by
  intro a ha hl;subst hl;subst ha;have lb:dw B M e k enc (.slice a 0 0) []:= .inl ⟨a,rfl,rfl⟩;obtain⟨aB,w',M',q1,aH,bW,et⟩:=N6 (ty:=ty) aL ai bU gL jU mf hY al kb lb aq hw cT iS lN;refine⟨aB,w',M',q1,aH.queue,bW,et,λj hj=> ?_⟩;rcases VW aL ai bU gL jU mf hY al kb lb aq hw iS lN q1 j hj with h|h
  ·exact .inl h
  ·exact .inr (zH hw h)
 rcases cM with ⟨a,rfl,rfl⟩|⟨g,off,cap,cur,rfl,ku,yi,bt,hle,xN,fV,yo⟩
 ·exact Wu U U
 clear Wu;obtain⟨w5,c,rfl,yf,ki⟩:=aq;have ig:eP (.slice (some ⟨g,off,none⟩) l.length cap)=some g:=nX ⟨g,off,none⟩ _ ku;have cM:kM B M e k enc (.slice (some ⟨g,off,none⟩) l.length cap) l:= .inr ⟨g,off,cap,cur,rfl,ku,yi,bt,hle,xN,fV,yo⟩;by_cases hm:lx=[]
 ·subst hm
  refine⟨_,w,M,N3 aL ai hle,by rw[List.append_nil];exact cM,⟨λi ai=>cM.known i ai,rfl,rfl,rfl,cj _,cj _,λ_ _ _=>rfl,λi o h=>⟨hw i o h,.inl (by rw[h];simp)⟩⟩,λi o h _=>h,λj h=> .inl h⟩
 ·cases w5 with
  |none=>exact absurd (yf rfl) hm
  |some hc=>
   have hlen:=rj al lx;have tU:0<lx.length:=List.length_pos_iff.2 hm;have ad:∀u∈lx.flatMap enc,u.oneCell'=true:=λu hu=>by
    obtain⟨y,_,bE⟩:=List.mem_flatMap.1 hu;exact kb y u bE
   have aA:=hw _ _ bt;subst gL;subst jU;have hM:∀i,some i=some g->M i≠none/\B<=i:=λi ai=>by
    cases ai;exact⟨by rw[bt];simp,yi⟩
   rw[ig];by_cases Du:l.length+lx.length<=cap
   ·have Ud:=Nat.mul_le_mul_right i.size Du
    rw[Nat.add_mul] at Ud;have qv:off+l.length*i.size+(lx.flatMap enc).length<=cur.size:=by rw[hlen,fV];omega
    let fQ:Array J:=(cur.toList.take (off+l.length*i.size)++lx.flatMap enc++cur.toList.drop (off+l.length*i.size+(lx.flatMap enc).length)).toArray
    have fw:(Builtin.append_ #[t,t] ty #[.slice (some ⟨g,off,none⟩) l.length cap,.slice (some hc) lx.length c]).run P w= .ok (.slice (some ⟨g,off,none⟩) (l.length+lx.length) cap) (w.setRow g fQ):=by
     have aQ:=run_firstCells_some (P:=P) w i.size lx.length hc lx.length c _ hlen (ki hc rfl);have c1:=run_storeCells_at P g (off+l.length*i.size) e (lx.flatMap enc) 0 cur w aA (by simpa using qv) ad;simp only [Nat.add_zero] at c1;simp [Builtin.append_,run_underlying aL,sizeOf,typeInfo,ai,Builtin.lenOf,Du,aQ,Addr.kr,c1,fQ]
    have NS:fQ.size=cur.size:=by
     simp only [fQ,List.size_toArray,List.length_append,List.length_take,List.length_drop,Array.length_toList];omega
    obtain⟨q1,aH⟩:=qF (B:=B) (M:=M) (w':=w.setRow g fQ) (T:=some g) (da:=some g) hw hM (λi ai=> .inl ai) ⟨rfl,rfl,rfl⟩ (cj _) (by simp [World.setRow]) (λj _ hj=>setRow_other w g j fQ (λh=>hj (by rw[h])));refine⟨_,_,_,fw,.inr ⟨g,off,cap,fQ,by rw[List.length_append],ku,yi,?_,by rw[List.length_append];exact Du,xN,by rw[NS,fV],?_⟩,q1,aH,λj hj=> ?_⟩
    ·unfold h8
     rw[aY rfl];exact setRow_heap w g cur fQ e (0,0) aA
    ·have JW:(cur.toList.drop off).length=cap*i.size:=by
      rw[List.length_drop,Array.length_toList (xs:=cur),fV];omega
     have af':((cur.toList.drop off).take (l.length*i.size)).length=l.length*i.size:=by
      rw[List.length_take,JW];omega
     have aoP:(cur.toList.take (off+l.length*i.size)).length=off+l.length*i.size:=by
      rw[List.length_take,Array.length_toList (xs:=cur),fV];omega
     have e2:fQ.toList.drop off=(cur.toList.drop off).take (l.length*i.size)++(lx.flatMap enc++cur.toList.drop (off+l.length*i.size+(lx.flatMap enc).length)):=by
      show ((cur.toList.take (off+l.length*i.size)++lx.flatMap enc++_)).drop off=_;rw[List.append_assoc,List.drop_append_of_le_length aj,List.drop_take,show off+l.length*i.size-off=l.length*i.size by omega]
     rw[e2,List.length_append,List.flatMap_append,<-yo,<-List.append_assoc];exact List.take_left' (by rw[List.length_append,af',hlen,Nat.add_mul])
    ·exact .inl (by rw[nX ⟨g,off,none⟩ _ ku] at hj;exact hj)
   ·have holds:∀j u,(l.flatMap enc)[j]? =some u->w.cell? ((⟨g,off,none⟩:Addr).add j)=some u:=λj u hj=>by
     rw[Addr.kr,cell_of_row w _ _ _ _ _ aA];rw[<-yo,List.getElem?_take] at hj;split at hj
     ·rw[List.getElem?_drop] at hj
      simpa using hj
     ·cases hj
    have N5:l.length+lx.length<=9223372036854775807:=by simp only [maxLen] at iS;omega
    have fw:=run_append_grow (P:=P) w t ty e i z aL ai bU ⟨g,off,none⟩ l.length cap _ (rj al l) holds hc lx.length c _ hlen (ki hc rfl) aj aj (growslice_fits aj lN);have kD:=grownCap_ge w (l.length+lx.length) cap e;have Js:=grownCap_le_maxLen w (l.length+lx.length) cap e iS;obtain⟨q1,aH⟩:=qF (B:=B) (M:=M) (w:=w) (w':=w.drew.alloc (.cells ((l.flatMap enc).toArray++(lx.flatMap enc).toArray++Builtin.zeroCells z.cells (grownCap w (l.length+lx.length) cap e-(l.length+lx.length))) e)) (T:=some g) (da:=some w.heap.size) hw hM (λi ai=>by cases ai;exact .inr (cj _)) ⟨rfl,rfl,rfl⟩ (cj _) (by simp) (λj hj _=>heap_alloc_old w.drew _ hj);refine⟨_,_,_,fw,.inr ⟨w.heap.size,0,grownCap w (l.length+lx.length) cap e,(l.flatMap enc).toArray++(lx.flatMap enc).toArray++Builtin.zeroCells z.cells (grownCap w (l.length+lx.length) cap e-(l.length+lx.length)),by rw[List.length_append],aj,cT,?_,by rw[List.length_append];exact kD,Js,?_,?_⟩,q1,aH,λj hj=> ?_⟩
    ·unfold h8
     rw[aY rfl];exact heap_alloc_new w.drew _
    ·simp only [Array.size_append,List.size_toArray,size_zeroCells,mf,rj al,<-Nat.add_mul]
     rw[Nat.zero_add];congr 1;omega
    ·simp only [Array.toList_append,List.append_assoc,List.drop_zero]
     rw[List.length_append,List.flatMap_append,<-List.append_assoc];exact List.take_left' (by rw[List.length_append,rj al,rj al,Nat.add_mul])
    ·right
     have:j=w.heap.size:=by
      rw[nX _ _ (show 0<grownCap w (l.length+lx.length) cap e by omega)] at hj;exact Option.some.inj hj
     exact zH hw aj
theorem JX [cS] {α:Type} {P:aR} {N B:Nat} {w0:ax} {Q:Exit->Act->ax->Prop} {M:Mem} {bq:List J} {o:Option bY} {t e:aK} {k bytes:Nat} {i:TypeInfo} {z vs lC eO:J} {enc:α->List J} {l lx l':List α} {bj:Option Addr->Nat->List J} {eb dI:aF} {aZ:List bu} {bL:eE}
  (fL:l'=l++lx) (h:p0 t o=some (vs,lC)) (aL:P.underlying t=some (.slice e)) (ai:P.info? e=some i) (bU:i.zero=some z) (gL:i.size=k) (jU:i.bytes=bytes) (mf:z.cells.size=k) (hY:0<k) (al:∀x,(enc x).length=k) (kb:∀x,∀u∈enc x,u.oneCell'=true)
  (dd:cp (b7 o) eb aZ=some bL) (eL:gZ N eb (ka o) eO=some dI) (fB:aM eO=true) (T:Option Nat)
  (cM:∀φ w v,@b0 (aW M bq) φ (b7 o).A w-> @aD (aW M bq) φ vs v->kM B M e k enc v l/\eP v=T)
  (jV:∀φ w x,@b0 (aW M bq) φ (b7 o).A w-> @aD (aW M bq) φ lC x->r9 w k enc x lx)
  (iS:l.length+lx.length<=maxLen) (lN:(l.length+lx.length)*bytes<=140737488355328)
  (hm:∀M' a c,fP (aW M bq) (aW M' (bj a c)) bL) (aC:∀M' a c,@aJ (aW M' (bj a c)) eO= .slice a l'.length c)
  (rest:∀M' a c,kM B M' e k enc (.slice a l'.length c) l'->h7 M M' T->(∀i,some i=eP (.slice a l'.length c)->some i=T\/M i=none)->∀a7 w,@Here (aW M' (bj a c)) _ N {sl:=dI,ms:=[],A:=c6 aZ} B w0 a7 w->wpListIn (Fr none) 0 P (kI o) (dY P (gA o) Q) (kH o) a7 w)
  (av:cS.eu<=aZ.length:=by first|exact Nat.zero_le _|exact gG rfl) (ar:iy (b7 o).A aZ 0:=by exact gX rfl): @fy (aW M bq) _ P N B w0 Q o:=by
 subst fL;letI:=aW M bq;unfold p0 at h;split at h
 ·rename_i op r ops s ks
  refine⟨_,rfl,λa w ah=> ?_⟩;split at h
  ·rename_i dC cy
   split at h
   ·rename_i nF hd pS gK
    cases Oz:decide (dC.argTypes= #[t,t]) with
    |false=>rw[Oz] at h;cases h
    |true=>
     rw[Oz,bD] at h;have yg:=of_decide_eq_true Oz;split at h
     ·rename_i jK
      cases h;have hE:=ah;obtain⟨⟨φ,ds,ad,ag,ay,bG,_⟩,cE,cR⟩:=ah;unfold wpListIn;rw[pv ag.get jK,aY rfl];have hw:∀i o,M i=some o->w.heap[i]? =some o:=hE.nW;obtain⟨FJ,eA⟩:=cM φ w (a.eval nF) ay (gV (iG φ) ag.get nF);have rl:=jV φ w (a.eval hd) ay (gV (iG φ) ag.get hd);obtain⟨aB,w',M',g1,g2,g3,g4,k5⟩:=af9 (ty:=op.type) aL ai bU gL jU mf hY al kb FJ rl hw cR iS lN;obtain⟨FK,te,rfl⟩:=g2.slice;rw[eA] at g3 g4 k5;have fw:(execOp a.eval op).run P w= .ok (.value (.slice FK (l++lx).length te)) w':=by
       unfold execOp resolve;rw[cy];simp only [pS,gK,yg,List.map_toArray,List.map_cons,List.map_nil];show (do pure (Next.value (<-Builtin.append_ #[t,t] op.type #[a.eval nF,a.eval hd])):Sem Next).run P w=_;simp only [Sem.run_bind,g1,Result.andThen_ok];rfl
      have fz:∀c',op.op≠.defer c':=λc' h=>by rw[cy] at h;cases h
      refine⟨λ_ _=>trivial,?_⟩;rw[Oper.semAt_eq _ _ _ fz,fw,Oper.uponIn_value];have hS:=Here.turns (vals':=bj FK te) dd (hm M' FK te) g3 av ar hE;letI:=aW M' (bj FK te);have lT:=Here.put (d:=op.dst) hS (v:=eO) fB eL;rw[aC] at lT;exact rest M' FK te g2 g4 k5 _ w' lT
     ·cases h
   ·cases h
  ·cases h
 ·cases h
theorem JY {α:Type} {B:Nat} {M:Mem} {bq:List J} {vs:J} {A:a6} {e:aK} {k:Nat} {enc:α->List J} {v:J} {l:List α} (hp:aM vs=true) (bp: @aJ (aW M bq) vs=v) (cM:kM B M e k enc v l):
  ∀φ w x,@b0 (aW M bq) φ A w-> @aD (aW M bq) φ vs x->kM B M e k enc x l/\eP x=eP v:=λφ w x _ aq=>by
 letI:=aW M bq;have e1:=(aD.ji vs hp aq).trans bp;subst e1;exact⟨cM,rfl⟩
end AE
end Go.Proofs.YtepcfjbfkedlpaaDoor
namespace Go.Proofs.YtepcfjbfkedlpaaDoor
open Go Go.Proofs Go.RowKit
namespace AE
theorem Here.OA [cS] {s1 s2:a1} {N B:Nat} {st:b6} {w0 w:ax} {a:Act} {sl:aF} {l:List bu} {bL:eE} (dd:cp st sl l=some bL) (hm:fP s1 s2 bL) {φ:b2} {ds:List Deferred}
  (ad:rb φ st.ms ds) (ag: @fD s1 N ds φ st.sl a) (ay: @b0 s1 φ st.A w) (bG:∀b e,φ b=some e->B<=e.bk) (fS:vr φ st.A) (cE:cg B w0 w) (cR:B<=w.heap.size)
  (qD:∀i o,s2.dq i=some o->w.heap[i]? =some o/\∀b e,b<l.length->φ b=some e->e.bk≠i) (av:cS.eu<=l.length) (ar:iy st.A l 0): @Here s2 _ N {sl,ms:=[],A:=c6 l} B w0 a w:=by
 unfold cp at dd;split at dd
 ·rename_i vu
  cases hI:zx l with
  |false=>rw[hI] at dd;cases dd
  |true=>
   rw[hI,bD] at dd;obtain⟨x,y,aq,bE,rfl⟩:=uw dd;rw[vu] at ad;cases ad;have hold:∀b k,(c6 l).bl.get b=some k->∃x dj o,l[b]? =some x/\k=x.bk b/\st.A.bl.get b=some dj/\dj.cP=b/\dj.eN=x.eN/\dj.ty=x.ty/\dj.ro=false/\A6 l.length dj.obj x.obj=some o/\∀p∈o,p∈y:=λb k al=>by
    obtain⟨x,q1,aH⟩:=zy al;obtain⟨dj,o,cO,dx,gh⟩:=Dn l 0 bE b x q1;rw[Nat.zero_add] at cO dx;exact⟨x,dj,o,q1,aH,cO,dx,gh⟩
   have zA:∀b e,φ b=some e->w.heap[e.bk]? =w.heap[e.bk]? :=λ_ _ _=>rfl
   have gO:∀b,b<l.length->∃k,(c6 l).bl.get b=some k:=λb af=>by
    have:=List.all_eq_true.1 hI b (by simpa using af);simp only [c7] at this;obtain⟨_,hm⟩:=this;split at hm
    ·rename_i k al;exact⟨k,al⟩
    ·cases hm
   refine⟨⟨nV l.length φ,[],.nil,⟨@fD.size s1 _ _ _ _ _ ag,@fD.defers s1 _ _ _ _ _ ag,λt gJ yc=>Dl st.sl sl aq hm.left t gJ _ yc λv1 wZ=> @fD.get s1 _ _ _ _ _ ag t v1 wZ⟩,⟨VD hI,?_,?_,?_,λi o ai=> ?_⟩,λb e af=>bG b e (qC af).2,av,λb af=>by unfold nV;rw[aY (Nat.lt_of_lt_of_le af av)];exact fS.2 b af⟩,cE,cR⟩
   ·intro b e af
    obtain⟨ck,ie⟩:=qC af;obtain⟨k,al⟩:=gO b ck;obtain⟨x,dj,o,q1,rfl,bW,et,gN,j_,nB,g',AR⟩:=hold b k al;obtain⟨dg,cO,dx,gh⟩:= @b0.eC s1 _ _ _ ay b e ie;rw[bW] at cO;cases cO;refine⟨_,al,by rw[dx,gN];rfl,?_⟩;unfold fT at gh ⊢;show match x.obj with| .cells c=>_| .map es e4=>_| .gu x=>_
    cases fK:dj.obj with
    |cells c=>
     rw[fK] at g';simp only [fK] at gh;cases iH:x.obj with
     |cells c2=>
      rw[iH] at g';obtain⟨c',jk,g1,g2,g3,g4,k5⟩:=gh;have oh:∀i,i<c.length->((List.range c.length).map λj=>c'.getD (e.sh+j) undef).getD i undef=c'.getD (e.sh+i) undef:=λi ai=>by
       rw[dp,List.getElem?_map,List.getElem?_range ai];rfl
      have:=Dk (s1:=s1) (s2:=s2) (φ:=φ) c c2 g' (λp hp=>hm.right p (AR p hp)) ((List.range c.length).map λj=>c'.getD (e.sh+j) undef) (by simp) λi ai=>by
       rw[oh i ai];exact g4 i ai
      obtain⟨t1,t2⟩:=this;simp only [List.length_map,List.length_range] at t1;refine⟨c',jk,by rw[zA b e ie,show (x.bk b).ty=dj.ty from j_.symm];exact g1,g2,by rw[<-t1,show (x.bk b).eN=dj.eN from gN.symm];exact g3,λj hj=> ?_,λ_=>k5 nB⟩;have:=t2 j hj;rw[oh j aj] at this;exact this
     |map es e4=>rw[iH] at g';cases g'
     |gu z=>rw[iH] at g';cases g'
    |map es e4=>
     rw[fK] at g';cases iH:x.obj<;>rw[iH] at g'<;>cases g'
    |gu z=>
     rw[fK] at g';simp only [fK] at gh;obtain⟨eF,o',g1,g2⟩:=gh;cases iH:x.obj with
     |cells c2=>rw[iH] at g';cases z<;>cases g'
     |map es e4=>rw[iH] at g';cases z<;>cases g'
     |gu z2=>
      rw[iH] at g';refine⟨eF,o',(zA b e ie).trans g1,?_⟩;cases z with
      |loop a=>
       cases z2 with
       |loop b=>
        unfold A6 at g';simp only at g';cases aw:Fm l.length a b with
        |false=>rw[aw] at g';cases g'
        |true=>
         rw[aw,bD] at g';unfold Fm at aw;simp only [c7,decide_eq_true_eq,Option.isNone_iff_eq_none] at aw;obtain⟨hq,c2,c3,rW,Jl,Jm,Jn⟩:=aw;have pV:=NV ar q1 iH;rw[Nat.zero_add] at pV;unfold Jk at pV;rw[bW] at pV;simp only [fK,cN,Prod.mk.injEq] at pV;obtain⟨r,mc,uu,x7,A0,A1,Ff,Fg,⟨e',NW,u8⟩,NY⟩:=g2;refine⟨r,mc,uu.trans (VF hq),by rw[x7,c2,c3],by rw[A0,cH rW],by rw[A1,Jl],by rw[Ff,pV.1],by rw[Fg,pV.2],⟨e',?_,u8⟩,λt v aC=> ?_⟩
         ·rw[<-cH Jm]
          exact Dj NW (Nat.blt_eq.mp Jn)
         ·exact Dl (s1:=s1) a.sl b.sl g' (λp hp=>hm.right p (AR p hp)) t v _ aC λv1 wZ=>NY t v1 wZ
       |_=>cases g'
      |_=>cases z2<;>first|(cases g';done)|exact g2
   ·intro b e k b' e' k' af ef al dB cW
    obtain⟨_,ie⟩:=qC af;obtain⟨_,sX⟩:=qC ef;obtain⟨x,dj,o,q1,rfl,bW,et,_⟩:=hold b k al;obtain⟨x',Fo,o',u9,rfl,sO,Fp,_⟩:=hold b' k' dB;exact @b0.apart s1 _ _ _ ay b e dj b' e' Fo ie sX bW sO (by rw[et,Fp];exact cW)
   ·intro b e k b' e' k' af ef al dB aQ _
    obtain⟨_,ie⟩:=qC af;obtain⟨_,sX⟩:=qC ef;obtain⟨x,dj,o,q1,rfl,bW,et,_⟩:=hold b k al;obtain⟨x',Fo,o',u9,rfl,sO,Fp,_⟩:=hold b' k' dB;have:b=b':=aQ;subst this;rw[ie] at sX;cases sX;rfl
   ·obtain⟨g1,g2⟩:=qD i o ai
    exact⟨g1,λb e af=>g2 b e (qC af).1 (qC af).2⟩
 ·cases dd
def OB {α:Type} (B:Nat) (M:Mem) (e:aK) (enc:α->List J) (g:Nat) (l:List α):Prop:=
 B<=g/\∃cur fr,M g=some (.cells cur e fr)/\(∀i,i<cur.size->¬(fr.1<=i/\i<fr.2))/\cur.toList=l.flatMap enc
theorem OB.arr {α:Type} {B:Nat} {M:Mem} {e:aK} {k:Nat} {enc:α->List J} {g:Nat} {l:List α} (h:OB B M e enc g l) (al:∀x,(enc x).length=k):cF M k enc (.slice (some ⟨g,0,none⟩) l.length l.length) l:=by
 obtain⟨_,cur,fr,ad,_,ay⟩:=h;refine .mk ad (cj _) λi x aq j u hu=> ?_
 have:=zD al l i x aq j u hu;rw[<-ay] at this;simpa using this
theorem Here.freeze [cS] {α:Type} {M:Mem} {bq:List J} {bj:Nat->List J} {N B:Nat} {st:b6} {w0 w:ax} {a:Act} {sl dN:aF} {l:List bu} {bL:eE} {b t q:Nat} {k:h4} {cs:List J} {enc:α->List J} {xs:List α}
  (ah: @Here (aW M bq) _ N st B w0 a w) (al:st.A.bl.get b=some k) (fK:k.obj= .cells cs) (FL:k.eN=0) (oc:k.cP=b) (dK:k.ro=false) (fV:dL cs=true) (p5: @eo (aW M bq) cs=xs.flatMap enc) (af:l.length<=b)
  (yp:st.sl.get t=some (.pointer (some ⟨b,0,none⟩))) (dd:cp st sl l=some bL) (hm:∀M' g,fP (aW M bq) (aW M' (bj g)) bL) (fg:bV.set (ak q) depth sl t=some dN) (bb:∀g,me (bj g) q= .pointer (some ⟨g,0,none⟩))
  (av:cS.eu<=l.length) (ar:iy st.A l 0):
  ∃g M',OB B M' k.ty enc g xs/\(∀i o,M i=some o->M' i=some o)/\M g=none/\ @Here (aW M' (bj g)) _ N {sl:=dN,ms:=[],A:=c6 l} B w0 a w:=by
 obtain⟨⟨φ,ds,ad,ag,ay,bG,fS⟩,cE,cR⟩:=ah;have aC:= @fD.get (aW M bq) _ _ _ _ _ ag t _ yp;generalize hp:a.tmps.getD t undef=Wv at aC;cases aC with
 |ptr he=>
  rename_i e;obtain⟨dg,cO,dx,gh⟩:= @b0.eC (aW M bq) _ _ _ ay b e he;rw[al] at cO;cases cO;unfold fT at gh;rw[fK] at gh;obtain⟨c',jk,g1,g2,g3,g4,k5⟩:=gh;obtain⟨g6,g7⟩:=g3.2 FL;have s6:M e.bk=none:=by
   cases ai:M e.bk with
   |none=>rfl
   |some o=>exact absurd rfl ((@b0.dq (aW M bq) _ _ _ ay e.bk o ai).2 b e he)
  let M':Mem:=λi=>if i=e.bk then some (.cells c' k.ty jk) else M i
  have qH:M' e.bk=some (.cells c' k.ty jk):=aY rfl;have uC:∀i o,M i=some o->M' i=some o:=λi o ai=>by
   show (if i=e.bk then _ else M i)=some o;rw[a' (λh=>by rw[h,s6] at ai;cases ai)];exact ai
  have ki:c'.toList=xs.flatMap enc:=by
   rw[<-p5];refine @aD.xU (aW M bq) φ cs c'.toList fV (by simp [g7]) λi ai=> ?_
   have:=g4 i ai;rw[g6,Nat.zero_add] at this;simpa [fh] using this
  have mY:=dd;unfold cp at mY;have FM:∀b' x,l[b']? =some x->∃dj,st.A.bl.get b'=some dj/\dj.cP=b':=λb' x aq=>by
   split at mY
   ·cases hI:zx l with
    |false=>rw[hI] at mY;cases mY
    |true=>
     rw[hI,bD] at mY;obtain⟨eI,zw,_,bE,_⟩:=uw mY;obtain⟨dj,o,cO,dx,_⟩:=Dn l 0 bE b' x aq;rw[Nat.zero_add] at cO dx;exact⟨dj,cO,dx⟩
   ·cases mY
  have aA:=Here.OA (s2:=aW M' (bj e.bk)) dd (hm M' e.bk) ad ag ay bG fS cE cR (λi o ai=>by
   by_cases qs:i=e.bk
   ·subst qs
    have:some (Obj.cells c' k.ty jk)=some o:=qH.symm.trans ai;cases this;refine⟨g1,λb' e' ef oV heq=> ?_⟩;obtain⟨dj,q1,aH⟩:=FM b' _ (f_ ef);exact @b0.apart (aW M bq) _ _ _ ay b' e' dj b e k oV he q1 al (by rw[aH,oc];omega) heq
   ·have lL:M i=some o:=by
     have:(if i=e.bk then some (Obj.cells c' k.ty jk) else M i)=some o:=ai
     rwa [a' qs] at this
    obtain⟨q1,aH⟩:= @b0.dq (aW M bq) _ _ _ ay i o lL
    exact⟨q1,λb' e' _ oV=>aH b' e' oV⟩) av ar
  refine⟨e.bk,M',⟨bG b e he,c',jk,qH,λi ai=>k5 dK i ai,ki⟩,uC,s6,?_⟩;obtain⟨⟨fm,DE,ih,hz,uj,sW,vo⟩,C7,AS⟩:=aA;letI:=aW M' (bj e.bk);refine⟨⟨fm,DE,ih,⟨hz.size,hz.defers,λdt aB mA=> ?_⟩,uj,sW,vo⟩,C7,AS⟩;rw[bV.ob _ _ _ _ _ _ fg] at mA;split at mA
  ·rename_i aL
   cases mA;subst aL;rw[hp];have:=aD.sym (φ:=fm) q;have po:a1.σ q=Value.pointer (some ⟨e.bk,0,none⟩):=bb e.bk;rw[po] at this;rw[g6,Nat.zero_add];exact this
  ·exact hz.get dt aB mA
end AE
end Go.Proofs.YtepcfjbfkedlpaaDoor
namespace Go.Proofs.YtepcfjbfkedlpaaDoor
open Go Go.RowKit
namespace AE
theorem Ww:∀(l:List J) (k:Nat) (cs:Array J),k+l.length<=cs.size->((l.zipIdx k).foldl (λ(cs:Array J) (p:J×Nat)=>cs.setIfInBounds p.2 p.1) cs).toList=cs.toList.take k++l++cs.toList.drop (k+l.length)
 |[],k,cs,h=>by simp
 |u::l,k,cs,h=>by
  simp only [List.zipIdx_cons,List.foldl_cons];simp only [List.length_cons] at h;rw[Ww l (k+1) _ (by simp only [Array.size_setIfInBounds];omega)];have al:k<cs.toList.length:=by rw[Array.length_toList];omega
  rw[Array.toList_setIfInBounds,List.take_set,List.drop_set,aY aj];rw[List.take_add_one,f_ al];rw[List.set_append_right _ _ (by rw[List.length_take];omega)];simp only [List.length_take,Option.toList_some];rw[show k-min k cs.toList.length=0 by omega];simp only [List.set_cons_zero,List.length_cons];rw[show k+1+l.length=k+(l.length+1) by omega];simp
theorem af_ {P:Nat->Option (Nat×Nat)} {v:J} {cs:Array J} {n:Nat} (hp:P 0=some (0,n)) (av:v.cells.size=n) (ar:cs.size=n):Instr.fill P cs [(0,v)]=some v.cells:=by
 unfold Instr.fill;rw[hp];simp only;rw[a' (by simp only [Nat.zero_add,av,ar];simp)];unfold Instr.fill;congr 1;apply Array.ext';rw[<-Array.foldl_toList];have:=Ww v.cells.toList 0 cs (by rw[Array.length_toList];omega);simp only [Array.toList_zipIdx,Nat.zero_add];rw[this];simp [av,ar]
def OC:Option bY->Option (aK×J)
 |some (.oper o _ ops s _)=>match o.op with
  | .buildSlice t 1 ⟨[(0,hd)]⟩=>match q8 ops o s.sl with
    |some true=>some (t,dH .nil s.sl hd)
    |_=>none
  |_=>none
 |_=>none
theorem aga [cS] {α:Type} {P:aR} {N B:Nat} {w0:ax} {Q:Exit->Act->ax->Prop} {M:Mem} {bq:List J} {o:Option bY} {t e:aK} {k:Nat} {z x u eO:J} {enc:α->List J} {y:α} {l':List α} {bj:Option Addr->Nat->List J} {eb dI:aF} {aZ:List bu} {bL:eE}
  (fL:l'=[y]) (h:OC o=some (t,x)) (aL:P.underlying t=some (.slice e)) (pT:bg P (sizeOf e)=some k) (JZ:bg P (zeroValue e)=some z) (hY:0<k) (og:k<=1000) (al:∀x,(enc x).length=k)
  (dd:cp (b7 o) eb aZ=some bL) (eL:gZ N eb (ka o) eO=some dI) (fB:aM eO=true) (aq:aM x=true) (ex: @aJ (aW M bq) x=u) (hu:u.cells=⟨enc y⟩)
  (hm:∀M' a c,fP (aW M bq) (aW M' (bj a c)) bL) (aC:∀M' a c,@aJ (aW M' (bj a c)) eO= .slice a l'.length c)
  (rest:∀M' a c,dw B M' e k enc (.slice a l'.length c) l'->h7 M M' none->(∀i,some i=eP (.slice a l'.length c)->M i=none)->∀a7 w,@Here (aW M' (bj a c)) _ N {sl:=dI,ms:=[],A:=c6 aZ} B w0 a7 w->wpListIn (Fr none) 0 P (kI o) (dY P (gA o) Q) (kH o) a7 w)
  (av:cS.eu<=aZ.length:=by first|exact Nat.zero_le _|exact gG rfl) (ar:iy (b7 o).A aZ 0:=by exact gX rfl): @fy (aW M bq) _ P N B w0 Q o:=by
 subst fL;letI:=aW M bq;unfold OC at h;split at h
 ·rename_i op r ops s ks
  refine⟨_,rfl,λa w ah=> ?_⟩;split at h
  ·rename_i dt hd cy
   split at h
   ·rename_i jK
    cases h;have hE:=ah;obtain⟨⟨φ,ds,ad,ag,ay,bG,_⟩,cE,cR⟩:=ah;unfold wpListIn;rw[pv ag.get jK,aY rfl];have o0:a.eval hd=u:=(aD.ji _ aq (gV (iG φ) ag.get hd)).trans ex;have hw:∀i o,M i=some o->w.heap[i]? =some o:=hE.nW
    let w':ax:={w with heap:=w.heap.push (.cells ⟨enc y⟩ e)}
    have J0:u.cells.size=k:=by rw[hu];simpa using al y
    have fw:(execOp a.eval op).run P w= .ok (.value (.slice (some ⟨w.heap.size,0,none⟩) 1 1)) w':=by
     unfold execOp;rw[cy];simp only [List.map_toArray,List.map_cons,List.map_nil,o0];show (do pure (Next.value (<-Instr.buildSlice t 1 #[(0,u)])):Sem Next).run P w=_;have af:(Instr.buildSlice t 1 #[(0,u)]).run P w= .ok (.slice (some ⟨w.heap.size,0,none⟩) 1 1) w':=by
      unfold Instr.buildSlice;refine dm (run_underlying aL w) ?_;simp only;refine c4 pT ?_;rw[Nat.one_mul];rw[a' aj];rw[a' aj];refine c4 JZ ?_;refine c4 (a:=z.cells) rfl ?_;have aQ:=af_ (P:=λi=>some (i*k,k)) (v:=u) (cs:=(Array.range k).map (z.cells[· %z.cells.size]!)) (n:=k) (by simp) J0 (by simp);simp only [aQ];simp [newRow,newObj,Sem.run,w',hu]
     simp only [Sem.run_bind,af,Result.andThen_ok];rfl
    have fz:∀c',op.op≠.defer c':=λc' h=>by rw[cy] at h;cases h
    refine⟨λ_ _=>trivial,?_⟩;rw[Oper.semAt_eq _ _ _ fz,fw,Oper.uponIn_value];obtain⟨q1,aH⟩:=qF (B:=B) (M:=M) (w:=w) (w':=w') (T:=none) (da:=some w.heap.size) hw (λi h=>by cases h) (λi ai=> .inr (by cases ai;exact cj _)) ⟨rfl,rfl,rfl⟩ (cj _) (by simp [w']) (λi ai _=>by
     show (w.heap.push _)[i]? =_
     rw[Array.getElem?_push,a' aj])
    have cM:dw B (h8 M w' none (some w.heap.size)) e k enc (.slice (some ⟨w.heap.size,0,none⟩) [y].length 1) [y]:=by
     refine .inr ⟨w.heap.size,1,⟨enc y⟩,rfl,Nat.one_pos,cR,?_,cj _,by simp [maxLen],by simpa using al y,by simp only [List.length_cons,List.length_nil,Nat.zero_add,Nat.one_mul,List.flatMap_cons,List.flatMap_nil,List.append_nil];exact List.take_of_length_le (by rw[al];exact cj _)⟩;unfold h8;rw[aY rfl];show (w.heap.push _)[w.heap.size]? =_;rw[Array.getElem?_push,aY rfl]
    have hS:=Here.turns (vals':=bj (some ⟨w.heap.size,0,none⟩) 1) dd (hm _ _ _) q1 av ar hE;letI:=aW (h8 M w' none (some w.heap.size)) (bj (some ⟨w.heap.size,0,none⟩) 1);have lT:=Here.put (d:=op.dst) hS (v:=eO) fB eL;rw[aC] at lT;exact rest _ _ _ cM aH (λj hj=>by
     rw[nX _ _ Nat.one_pos] at hj;cases hj
     exact zH hw (cj _)) _ w' lT
   ·cases h
  ·cases h
 ·cases h
def J1:Option bY->Option (aK×J)
 |some (.oper o _ ops s _)=>match o.op with
  | .makeSlice t tf vD=>match q8 ops o s.sl with
    |some true=>bif gj (dH .nil s.sl tf) (dH .nil s.sl vD) then some (t,dH .nil s.sl tf) else none
    |_=>none
  |_=>none
 |_=>none
theorem Wx {α:Type} {k:Nat} {enc:α->List J} (al:∀x,(enc x).length=k) {z:J} {zr:α} (bU:z.cells.toList=enc zr) (n:Nat):(madeCells z.cells (n*k)).toList=(List.replicate n zr).flatMap enc:=by
 have aw:z.cells.size=k:=by rw[<-Array.length_toList,bU,al]
 apply List.ext_getElem?;intro j;unfold madeCells;rcases Nat.lt_or_ge j (n*k) with hj|hj
 ·have ey:0<k:=by
   rcases Nat.eq_zero_or_pos k with h|h
   ·subst h
    simp at hj
   ·exact h
  have ai:j/k<(List.replicate n zr).length:=by rw[mw];exact Nat.div_lt_of_lt_mul (by rwa [Nat.mul_comm] at hj)
  have ao:j%k<k:=Nat.mod_lt _ ey;have ag:=zD al (List.replicate n zr) (j/k) zr (by rw[f_ ai];simp) (j%k) ((enc zr)[j%k]'(by rw[al];exact ao)) (f_ _);rw[Nat.div_add_mod'] at ag;rw[ag,Array.getElem?_toList,Array.getElem?_map,aw,Array.getElem?_eq_getElem (by simpa using hj)];simp only [Array.getElem_range,Option.map_some];have x4:j%k<z.cells.size:=by omega
  rw[getElem!_pos z.cells _ x4];have:z.cells.toList[j%k]? =(enc zr)[j%k]? :=by rw[bU]
  rw[Array.getElem?_toList,Array.getElem?_eq_getElem x4,f_ (by rw[al];exact ao)] at this;exact this
 ·rw[Array.getElem?_toList,Array.getElem?_map,Array.getElem?_eq_none (by simpa using hj),List.getElem?_eq_none (by rw[rj al,mw];exact hj)]
  rfl
theorem Wy [cS] {α:Type} {P:aR} {N B:Nat} {w0:ax} {Q:Exit->Act->ax->Prop} {M:Mem} {bq:List J} {o:Option bY} {t e:aK} {k n bytes:Nat} {i:TypeInfo} {z x eO:J} {enc:α->List J} {zr:α} {l':List α} {bj:Option Addr->Nat->List J} {eb dI:aF} {aZ:List bu} {bL:eE}
  (fL:l'=List.replicate n zr) (h:J1 o=some (t,x)) (aL:P.underlying t=some (.slice e)) (ai:P.info? e=some i) (bU:i.zero=some z) (gL:i.size=k) (jU:i.bytes=bytes) (qu:z.cells.toList=enc zr) (al:∀x,(enc x).length=k)
  (dd:cp (b7 o) eb aZ=some bL) (eL:gZ N eb (ka o) eO=some dI) (fB:aM eO=true) (aq:aM x=true) (ex: @aJ (aW M bq) x= .int .i64 (n:Nat)) (agb:n<=1000000) (lN:n*bytes<=140737488355328) (ki:n*k<=16777216)
  (hm:∀M' a c,fP (aW M bq) (aW M' (bj a c)) bL) (aC:∀M' a c,@aJ (aW M' (bj a c)) eO= .slice a l'.length c)
  (rest:∀M' a c,dw B M' e k enc (.slice a l'.length c) l'->h7 M M' none->(∀i,some i=eP (.slice a l'.length c)->M i=none)->∀a7 w,@Here (aW M' (bj a c)) _ N {sl:=dI,ms:=[],A:=c6 aZ} B w0 a7 w->wpListIn (Fr none) 0 P (kI o) (dY P (gA o) Q) (kH o) a7 w)
  (av:cS.eu<=aZ.length:=by first|exact Nat.zero_le _|exact gG rfl) (ar:iy (b7 o).A aZ 0:=by exact gX rfl): @fy (aW M bq) _ P N B w0 Q o:=by
 subst fL;letI:=aW M bq;unfold J1 at h;split at h
 ·rename_i op r ops s ks
  refine⟨_,rfl,λa w ah=> ?_⟩;split at h
  ·rename_i dt tf vD cy
   split at h
   ·rename_i jK
    cases heq:gj (dH .nil s.sl tf) (dH .nil s.sl vD) with
    |false=>rw[heq] at h;cases h
    |true=>
     rw[heq,bD] at h;have w6:=hJ _ _ heq;cases h;have hE:=ah;obtain⟨⟨φ,ds,ad,ag,ay,bG,_⟩,cE,cR⟩:=ah;unfold wpListIn;rw[pv ag.get jK,aY rfl];have o0:a.eval tf= .int .i64 (n:Nat):=(aD.ji _ aq (gV (iG φ) ag.get tf)).trans ex;have OD:a.eval vD= .int .i64 (n:Nat):=(aD.ji _ (by rw[<-w6];exact aq) (gV (iG φ) ag.get vD)).trans (by rw[<-w6];exact ex);have hw:∀i o,M i=some o->w.heap[i]? =some o:=hE.nW;subst jU;obtain⟨w',g1,g2,g3⟩:=run_makeSlice_full (P:=P) w B t e i z k aL ai bU gL .i64 .i64 n ki (by rw[Nat.mul_comm];omega) (by simp [maxLen];omega) cR;have fw:(execOp a.eval op).run P w= .ok (.value (.slice (some ⟨w.heap.size,0,none⟩) n n)) w':=by
      unfold execOp;rw[cy];simp only [o0,OD];show (do pure (Next.value (<-Instr.makeSlice t (.int .i64 (n:Nat)) (.int .i64 (n:Nat)))):Sem Next).run P w=_;simp only [Sem.run_bind,g1,Result.andThen_ok];rfl
     have fz:∀c',op.op≠.defer c':=λc' h=>by rw[cy] at h;cases h
     refine⟨λ_ _=>trivial,?_⟩;rw[Oper.semAt_eq _ _ _ fz,fw,Oper.uponIn_value];rw[Wx al qu] at g2;obtain⟨q1,aH⟩:=qF (B:=B) (M:=M) (w:=w) (w':=w') (T:=none) (da:=some w.heap.size) hw (λi h=>by cases h) (λi ai=> .inr (by cases ai;exact cj _)) ⟨g3.os,g3.tape,g3.output⟩ (cj _) g3.size (λi ai cW=>g3.block i ai cW);have hlen:(List.replicate n zr).length=n:=mw;have cM:dw B (h8 M w' none (some w.heap.size)) e k enc (.slice (some ⟨w.heap.size,0,none⟩) (List.replicate n zr).length n) (List.replicate n zr):=by
      refine(dw.N2 (w:=w') (by rw[hlen];exact g2)).mono (cj _) λj hj o ho=> ?_
      have e1:=A9 hj;unfold h8;rw[aY (by rw[e1];rfl)];exact ho
     have hS:=Here.turns (vals':=bj (some ⟨w.heap.size,0,none⟩) n) dd (hm _ _ _) q1 av ar hE;letI:=aW (h8 M w' none (some w.heap.size)) (bj (some ⟨w.heap.size,0,none⟩) n);have lT:=Here.put (d:=op.dst) hS (v:=eO) fB eL;rw[aC,hlen] at lT;refine rest _ _ _ cM aH (λj hj=> ?_) _ w' lT;have e1:=A9 hj;cases e1;exact zH hw (cj _)
   ·cases h
  ·cases h
 ·cases h
def se (o:Option bY) (b t:Nat):Option (List J×Nat×Nat):=
 match o with
 |some (.oper _ _ _ s _)=>match s.A.bl.get b with
  |some k=>match k.obj with
   | .cells cs=>bif Nat.beq k.eN 0&&(Nat.beq k.cP b&& !k.ro) then match s.sl.get t with
     |some (.slice (some ⟨b',0,none⟩) n c)=>bif Nat.beq b' b then some (cs,n,c) else none
     |_=>none
     else none
   |_=>none
  |none=>none
 |_=>none
def ld (st:b6):Option bY->Option bY
 |some (.oper op r ops _ ks)=>some (.oper op r ops st ks)
 |o=>o
theorem Here.agc [cS] {α:Type} {M:Mem} {bq:List J} {bj:Nat->List J} {N B:Nat} {st:b6} {w0 w:ax} {a:Act} {sl dN:aF} {l:List bu} {bL:eE} {b t q n c dj:Nat} {k:h4} {cs:List J} {enc:α->List J} {xs:List α}
  (xZ:∀x,(enc x).length=dj) (Bp:xs.length=n) (e_:0<n) (iz:n<=c) (ah: @Here (aW M bq) _ N st B w0 a w) (al:st.A.bl.get b=some k) (fK:k.obj= .cells cs) (FL:k.eN=0) (oc:k.cP=b) (fV:dL cs=true) (p5: @eo (aW M bq) cs=xs.flatMap enc) (af:l.length<=b)
  (yp:st.sl.get t=some (.slice (some ⟨b,0,none⟩) n c)) (dd:cp st sl l=some bL) (hm:∀M' g,fP (aW M bq) (aW M' (bj g)) bL) (fg:bV.set (ak q) depth sl t=some dN) (bb:∀g,me (bj g) q= .slice (some ⟨g,0,none⟩) n c)
  (av:cS.eu<=l.length) (ar:iy st.A l 0):
  ∃g M',cF M' dj enc (.slice (some ⟨g,0,none⟩) n c) xs/\B<=g/\M' g≠none/\h7 M M' none/\M g=none/\ @Here (aW M' (bj g)) _ N {sl:=dN,ms:=[],A:=c6 l} B w0 a w:=by
 obtain⟨⟨φ,ds,ad,ag,ay,bG,fS⟩,cE,cR⟩:=ah;have aC:= @fD.get (aW M bq) _ _ _ _ _ ag t _ yp;generalize hp:a.tmps.getD t undef=Wv at aC;cases aC with
 |iZ _ _=>omega
 |iE _ _ _ he aw _ _=>
  obtain⟨dg,cO,dx,gh⟩:= @b0.eC (aW M bq) _ _ _ ay b _ he;rw[al] at cO;cases cO;omega
 |iD _ _ he=>
  rename_i e;obtain⟨dg,cO,dx,gh⟩:= @b0.eC (aW M bq) _ _ _ ay b e he;rw[al] at cO;cases cO;unfold fT at gh;rw[fK] at gh;obtain⟨c',jk,g1,g2,g3,g4,k5⟩:=gh;obtain⟨g6,g7⟩:=g3.2 FL;have s6:M e.bk=none:=by
   cases ai:M e.bk with
   |none=>rfl
   |some o=>exact absurd rfl ((@b0.dq (aW M bq) _ _ _ ay e.bk o ai).2 b e he)
  let M':Mem:=λi=>if i=e.bk then some (.cells c' k.ty jk) else M i
  have qH:M' e.bk=some (.cells c' k.ty jk):=aY rfl;have uC:∀i o,M i=some o->M' i=some o:=λi o ai=>by
   show (if i=e.bk then _ else M i)=some o;rw[a' (λh=>by rw[h,s6] at ai;cases ai)];exact ai
  have ki:c'.toList=xs.flatMap enc:=by
   rw[<-p5];refine @aD.xU (aW M bq) φ cs c'.toList fV (by simp [g7]) λi ai=> ?_
   have:=g4 i ai;rw[g6,Nat.zero_add] at this;simpa [fh] using this
  have mY:=dd;unfold cp at mY;have FM:∀b' x,l[b']? =some x->∃dj,st.A.bl.get b'=some dj/\dj.cP=b':=λb' x aq=>by
   split at mY
   ·cases hI:zx l with
    |false=>rw[hI] at mY;cases mY
    |true=>
     rw[hI,bD] at mY;obtain⟨eI,zw,_,bE,_⟩:=uw mY;obtain⟨dj,o,cO,dx,_⟩:=Dn l 0 bE b' x aq;rw[Nat.zero_add] at cO dx;exact⟨dj,cO,dx⟩
   ·cases mY
  have aA:=Here.OA (s2:=aW M' (bj e.bk)) dd (hm M' e.bk) ad ag ay bG fS cE cR (λi o ai=>by
   by_cases qs:i=e.bk
   ·subst qs
    have:some (Obj.cells c' k.ty jk)=some o:=qH.symm.trans ai;cases this;refine⟨g1,λb' e' ef oV heq=> ?_⟩;obtain⟨dj,q1,aH⟩:=FM b' _ (f_ ef);exact @b0.apart (aW M bq) _ _ _ ay b' e' dj b e k oV he q1 al (by rw[aH,oc];omega) heq
   ·have lL:M i=some o:=by
     have:(if i=e.bk then some (Obj.cells c' k.ty jk) else M i)=some o:=ai
     rwa [a' qs] at this
    obtain⟨q1,aH⟩:= @b0.dq (aW M bq) _ _ _ ay i o lL
    exact⟨q1,λb' e' _ oV=>aH b' e' oV⟩) av ar
  have lR:cF M' dj enc (.slice (some ⟨e.bk,0,none⟩) n c) xs:=by
   subst Bp;refine .mk qH iz λi x aq j u hu=> ?_
   have:=zD xZ xs i x aq j u hu;rw[<-ki] at this;rw[Nat.zero_add];simpa using this
  refine⟨e.bk,M',lR,bG b e he,(by rw[qH];simp),λi o ai _=>uC i o ai,s6,?_⟩;obtain⟨⟨fm,DE,ih,hz,uj,sW,vo⟩,C7,AS⟩:=aA;letI:=aW M' (bj e.bk);refine⟨⟨fm,DE,ih,⟨hz.size,hz.defers,λdt aB mA=> ?_⟩,uj,sW,vo⟩,C7,AS⟩;rw[bV.ob _ _ _ _ _ _ fg] at mA;split at mA
  ·rename_i aL
   cases mA;subst aL;rw[hp];have:=aD.sym (φ:=fm) q;have po:a1.σ q=Value.slice (some ⟨e.bk,0,none⟩) n c:=bb e.bk;rw[po] at this;rw[g6,Nat.zero_add];exact this
  ·exact hz.get dt aB mA
theorem uD [cS] {α:Type} {P:aR} {N B:Nat} {w0:ax} {Q:Exit->Act->ax->Prop} {M:Mem} {bq:List J} {bj:Nat->List J} {o:Option bY} {sl dN:aF} {l:List bu} {bL:eE} {b t q n c dj:Nat} {cs:List J} {enc:α->List J} {xs:List α}
  (h:se o b t=some (cs,n,c)) (xZ:∀x,(enc x).length=dj) (Bp:xs.length=n) (e_:0<n) (iz:n<=c) (fV:dL cs=true) (p5: @eo (aW M bq) cs=xs.flatMap enc) (af:l.length<=b)
  (dd:cp (b7 o) sl l=some bL) (hm:∀M' g,fP (aW M bq) (aW M' (bj g)) bL) (fg:bV.set (ak q) depth sl t=some dN) (bb:∀g,me (bj g) q= .slice (some ⟨g,0,none⟩) n c)
  (rest:∀M' g,cF M' dj enc (.slice (some ⟨g,0,none⟩) n c) xs->B<=g->M' g≠none->h7 M M' none->M g=none-> @fy (aW M' (bj g)) _ P N B w0 Q (ld {sl:=dN,ms:=[],A:=c6 l} o))
  (av:cS.eu<=l.length:=by first|exact Nat.zero_le _|exact gG rfl) (ar:iy (b7 o).A l 0:=by exact gX rfl): @fy (aW M bq) _ P N B w0 Q o:=by
 unfold se at h;split at h
 ·rename_i op r ops s ks
  split at h
  ·rename_i k al
   split at h
   ·rename_i cs' fK
    cases jH:(Nat.beq k.eN 0&&(Nat.beq k.cP b&& !k.ro)) with
    |false=>rw[jH] at h;cases h
    |true=>
     rw[jH,bD] at h;simp only [c7] at jH;split at h
     ·rename_i b' ga c' yp
      cases oU:Nat.beq b' b with
      |false=>rw[oU] at h;cases h
      |true=>
       rw[oU,bD] at h;cases h;have FN:=cH oU;subst FN;refine⟨_,rfl,λa w ah=> ?_⟩;obtain⟨g,M',q1,aH,bW,et,gN,j_⟩:=Here.agc xZ Bp e_ iz ah al fK (cH jH.1) (cH jH.2.1) fV p5 af yp dd hm fg bb av ar;obtain⟨agd,e',ok⟩:=rest M' g q1 aH bW et gN;unfold ld at e';cases e';exact ok a w j_
     ·cases h
   ·cases h
  ·cases h
 ·cases h
theorem sf {α:Type} {M M':Mem} {g k n c:Nat} {enc:α->List J} {xs:List α} (lR:cF M' k enc (.slice (some ⟨g,0,none⟩) n c) xs) (ad:M' g≠none) (cv:h7 M M' none) (av:M g=none):cV M [] M' [p3 k enc (.slice (some ⟨g,0,none⟩) n c) xs]:=
 ⟨cG.one ⟨lR,λb af=>by cases af;exact ad⟩,λi o ai _=>cv i o ai λe=>(by cases e),λb af=>by
   have ag:some b=(Value.slice (some ⟨g,0,none⟩) n c).ownBlock:=p4.1 af;cases ag
   exact .inr av⟩
theorem age {M M':Mem} {bq vals':List J} {a n:Nat} {i:Nat} (ad:me bq a= .int .i64 ((i:Nat):Int)) (h:i=n): @aJ (aW M bq) (ak a)= @aJ (aW M' vals') (.int .i64 ((n:Nat):Int)):=by
 subst h;exact(@IQ (aW M bq) a).trans ad
theorem jo.mk' {B g:Nat} {M:Mem} {ty:aK} {cs:List J} (ad:B<=g) (ag:M g=some (.cells ⟨cs⟩ ty (0,0))):jo B M (.pointer (some ⟨g,0,none⟩)) ty cs:=⟨g,rfl,ad,ag⟩
section
variable [a1] {P:aR}
theorem aT.quo {t:aK} {x y r:J} {a b:Int} (h0:0<=a/\a<=9223372036854775807) (ad:1<=b) (aq:aM x=true) (bE:aM y=true) (ao:aM r=true) (ex:aJ x= .int .i64 a) (hK:aJ y= .int .i64 b) (b9:aJ r= .int .i64 (a/b)):aT P (.bin .quo t x y,r):=
 uy aq bE ao ex hK λd_ ea w=>by
  rw[b9];have e1:=IntWalk.i64_quo a b ⟨h0.1,h0.2,ad⟩;have e2:¬b=0:=by omega
  unfold gk;simp [eqGuard,binOp,Op.intDiv,e2,e1]
theorem aT.rem {t:aK} {x y r:J} {a b:Int} (h0:0<=a/\a<=9223372036854775807) (ad:1<=b) (aq:aM x=true) (bE:aM y=true) (ao:aM r=true) (ex:aJ x= .int .i64 a) (hK:aJ y= .int .i64 b) (b9:aJ r= .int .i64 (a%b)):aT P (.bin .rem t x y,r):=
 uy aq bE ao ex hK λd_ ea w=>by
  rw[b9];have e1:=IntWalk.rem_in a b h0.1;have e2:¬b=0:=by omega
  unfold gk;simp [eqGuard,binOp,Op.intDiv,e2,e1]
end
theorem jo.up {W:ax} {M:Mem} {g:Nat} {ty:aK} {cs:List J} (h:jo 0 (aG W) (.pointer (some ⟨g,0,none⟩)) ty cs) (hm:∀i o,aG W i=some o->M i=some o):jo 0 M (.pointer (some ⟨g,0,none⟩)) ty cs:=jo.mk' (Nat.zero_le _) (hm _ _ h.known.1)
theorem FO:∀u∈([]:List J),u.oneCell'=true:=λu h=>by cases h
theorem p6 {u:J} {l:List J} (h:u.oneCell'=true) (t:∀x∈l,x.oneCell'=true):∀x∈u::l,x.oneCell'=true:=λx aq=>by
 rcases List.mem_cons.1 aq with rfl|aq
 ·exact h
 ·exact t x aq
theorem getD_some {α:Type} {l:List α} {i:Nat} {z d:α} (h:l[i]? =some z):l.getD i d=z:=by
 rw[dp,h];rfl
theorem agf {a:Option Addr} {n m c j k i:Nat} (h:some i=eP (.slice (la a c j k) m (c-j))):some i=eP (.slice a n c):=by
 cases a with
 |none=>
  unfold la at h;split at h
  ·cases h
  ·cases h
 |some hc=>
  by_cases ar:c-j=0
  ·rw[ar,Fv] at h
   cases h
  ·unfold la at h
   rw[a' aj] at h;have ad:(hc.add (j*k)).block=hc.block:=by
    unfold Addr.add;split<;>rfl
   rw[Option.map_some,nX _ _ aj,ad] at h;rw[nX _ _ aj];exact h
theorem cg.zero {B:Nat} {w w':ax} (h:cg B w w'):cg 0 w w':=h.mono (Nat.zero_le _)
theorem FP {α:Type} {P:aR} {f:FuncId} {args:Array J} {w:ax} {e:aK} {k:Nat} {enc:α->List J} {l:List α} (h:Calls P f args w λe' w'=>(∃a c,e'= .returned (.slice a l.length c)/\dw w.heap.size (aG w') e k enc (.slice a l.length c) l)/\cg w.heap.size w w'):
  Calls P f args w λe' w'=>(∃y:Option Addr×Nat,e'= .returned (.slice y.1 l.length y.2)/\cV (aG w) [] (aG w') [ht e k enc (.slice y.1 l.length y.2) l])/\cg 0 w w':=
 h.mono λe' w' he=>by
   obtain⟨⟨a,c,rfl,cM⟩,hl⟩:=he;refine⟨⟨(a,c),rfl,cG.one (sc cM),λi o ai _=> ?_,λb af=> ?_⟩,hl.zero⟩
   ·rw[show aG w' i=aG w i from hl.block i (Array.getElem?_eq_some_iff.1 ai).1]
    exact ai
   ·exact .inr (Array.getElem?_eq_none_iff.2 (cM.known b (p4.1 af)).2)
end AE
end Go.Proofs.YtepcfjbfkedlpaaDoor
namespace Go.Proofs.YtepcfjbfkedlpaaDoor
open Go Go.Proofs Go.RowKit
namespace AE
def Bq (t t2:aK):Option bY->Option (J×J)
 |some (.oper o _ ops s _)=>match o.op with
  | .call c=>match c.callee,c.args with
    | .builtin .copy,⟨[nF,hd]⟩=>bif decide (c.argTypes= #[t,t2]) then match q8 ops o s.sl with
      |some true=>some (dH .nil s.sl nF,dH .nil s.sl hd)
      |_=>none
      else none
    |_,_=>none
  |_=>none
 |_=>none
theorem agh [cS] {P:aR} {N B:Nat} {w0:ax} {Q:Exit->Act->ax->Prop} {M:Mem} {bq bj:List J} {o:Option bY} {t t2 e ty:aK} {g j m n wM:Nat} {vs lC:J} {us cs cs':List J} {eb dI:aF} {aZ:List bu} {bL:eE}
  (fL:cs'=cs.take j++us++cs.drop (j+n)) (h:Bq t t2 o=some (vs,lC)) (aL:P.underlying t=some (.slice e)) (aw:(P.info? e).map (·.size)=some 1)
  (dd:cp (b7 o) eb aZ=some bL) (eL:gZ N eb (ka o) (.int .i64 n)=some dI) (hp:aM vs=true) (mg: @aJ (aW M bq) vs= .slice (some ⟨g,j,none⟩) m wM)
  (jV:∀φ w x,@b0 (aW M bq) φ (b7 o).A w-> @aD (aW M bq) φ lC x->r9 w 1 (λu:J=>[u]) x us) (hu:us.length=n) (e_:0<n) (I2:n<=m) (kb:∀u∈us,u.oneCell'=true)
  (cM:jo B M (.pointer (some ⟨g,0,none⟩)) ty cs) (hj:j+n<=cs.length) (hm:∀M',fP (aW M bq) (aW M' bj) bL)
  (rest:∀M',jo B M' (.pointer (some ⟨g,0,none⟩)) ty cs'->h7 M M' (some g)->∀a7 w,@Here (aW M' bj) _ N {sl:=dI,ms:=[],A:=c6 aZ} B w0 a7 w->wpListIn (Fr none) 0 P (kI o) (dY P (gA o) Q) (kH o) a7 w)
  (av:cS.eu<=aZ.length:=by first|exact Nat.zero_le _|exact gG rfl) (ar:iy (b7 o).A aZ 0:=by exact gX rfl): @fy (aW M bq) _ P N B w0 Q o:=by
 subst fL;subst hu;letI:=aW M bq;unfold Bq at h;split at h
 ·rename_i op r ops s ks
  refine⟨_,rfl,λa w ah=> ?_⟩;split at h
  ·rename_i c cy
   split at h
   ·rename_i nF hd pS gK
    cases hty:decide (c.argTypes= #[t,t2]) with
    |false=>rw[hty] at h;cases h
    |true=>
     rw[hty,bD] at h;have yg:c.argTypes= #[t,t2]:=of_decide_eq_true hty;split at h
     ·rename_i jK
      cases h;have hE:=ah;obtain⟨⟨φ,ds,ad,ag,ay,bG,_⟩,cE,cR⟩:=ah;unfold wpListIn;rw[pv ag.get jK,aY rfl];have es:a.eval nF= .slice (some ⟨g,j,none⟩) m wM:=(aD.ji _ hp (gV (iG φ) ag.get nF)).trans mg;obtain⟨w5,c2,ex,yf,ki⟩:=jV φ w _ ay (gV (iG φ) ag.get hd);have hw:∀i o,M i=some o->w.heap[i]? =some o:=hE.nW;obtain⟨bt,cT⟩:=cM.known;have aA:=hw _ _ bt;cases w5 with
      |none=>
       rw[yf rfl] at e_;exact absurd e_ (Nat.lt_irrefl _)
      |some hc=>
       have Br:us.flatMap (λu:J=>[u])=us:=by simp
       let fQ:Array J:=(cs.take j++us++cs.drop (j+us.length)).toArray
       have FQ:=run_copy_row (P:=P) w t t2 op.type e g j m wM hc us.length c2 ⟨cs⟩ ty us aL aw aA (Nat.min_eq_left aj).symm (λi v ai=>ki hc rfl i v (by rw[Br];exact ai)) (by simp only [List.size_toArray];omega) kb;have fw:(execOp a.eval op).run P w= .ok (.value (.int .i64 us.length)) (w.setRow g fQ):=by
        unfold execOp resolve;rw[cy];simp only [pS,gK,yg,List.map_toArray,List.map_cons,List.map_nil];show (do pure (Next.value (<-Builtin.copy_ #[t,t2] op.type #[a.eval nF,a.eval hd])):Sem Next).run P w=_;rw[es,ex];simp only [Sem.run_bind,FQ,Result.andThen_ok];rfl
       have fz:∀c',op.op≠.defer c':=λc' h=>by rw[cy] at h;cases h
       refine⟨λ_ _=>trivial,?_⟩;rw[Oper.semAt_eq _ _ _ fz,fw,Oper.uponIn_value];obtain⟨q1,aH⟩:=qF (B:=B) (M:=M) (w':=w.setRow g fQ) (T:=some g) (da:=some g) hw (λi ai=>by cases ai;exact⟨by rw[bt];simp,cT⟩) (λi ai=> .inl ai) ⟨rfl,rfl,rfl⟩ (cj _) (by simp [World.setRow]) (λj _ hj=>setRow_other w g j fQ (λh=>hj (by rw[h])));have vB:jo B (h8 M (w.setRow g fQ) (some g) (some g)) (.pointer (some ⟨g,0,none⟩)) ty (cs.take j++us++cs.drop (j+us.length)):=by
        refine⟨g,rfl,cT,?_⟩;unfold h8;rw[aY rfl];exact setRow_heap w g ⟨cs⟩ fQ ty (0,0) aA
       have hS:=Here.turns (vals':=bj) dd (hm _) q1 av ar hE;letI:=aW (h8 M (w.setRow g fQ) (some g) (some g)) bj;exact rest _ vB aH _ _ (Here.put (d:=op.dst) hS (v:= .int .i64 us.length) rfl eL)
     ·cases h
   ·cases h
  ·cases h
 ·cases h
def endCell (fn:Func):Option bY->Option (aK×J)
 |some (.done x s)=>bif Dq x then match fn.results.toList,x5 s.A s.ms with
  |[.cell a t],some _=>some (t,slot s.sl a)
  |_,_=>none
  else none
 |_=>none
theorem OE [cS] {P:aR} {fn:Func} {N B:Nat} {w0:ax} {M:Mem} {bq:List J} {R:Ending->ax->Prop} {o:Option bY} {t ty:aK} {g:Nat} {x v:J} {cs:List J} (h:endCell fn o=some (t,x)) (hp:aM x=true) (mg: @aJ (aW M bq) x= .pointer (some ⟨g,0,none⟩))
  (cM:jo B M (.pointer (some ⟨g,0,none⟩)) ty cs) (ha:bg P (isAgg t)=some true) (aw:bg P (sizeOf t)=some cs.length) (aC:aM v=true) (bp: @aJ (aW M bq) v= .agg ⟨cs⟩)
  (jA:∀w2,cg B w0 w2-> @ot (aW M bq) w2->R (.returned (.agg ⟨cs⟩)) w2): @fy (aW M bq) _ P N B w0 (rh P fn N B w0 R) o:=by
 letI:=aW M bq;unfold endCell at h;split at h
 ·rename_i x s
  cases aq:Dq x with
  |false=>rw[aq] at h;cases h
  |true=>
   rw[aq,bD] at h;split at h
   ·rename_i a dt fU kF hl
    cases h;refine⟨_,rfl,λdZ w ah=> ?_⟩;have main:Fj P fn N B w0 R dZ w:=by
     refine⟨inferInstance,s,fU,v,ah,hl,λφ w1 tmps ao xJ=>⟨.agg ⟨cs⟩,?_,?_⟩,λaB w2 hS=> ?_⟩
     ·have e1:tmps.getD a undef= .pointer (some ⟨g,0,none⟩):=(aD.ji _ hp (IV (xJ a))).trans mg
      have aA:w1.heap[g]? =some (.cells ⟨cs⟩ ty (0,0)):=(ao.dq g _ cM.known.1).1;have agi:(loadVar t (⟨g,0,none⟩:Addr)).run P w1= .ok (.agg ⟨cs⟩) w1:=by
       unfold loadVar;refine c4 ha ?_;simp only [if_true];refine c4 aw (dm (run_loadCells_list (P:=P) w1 ⟨g,0,none⟩ cs λj u hj=> ?_) rfl);rw[Addr.kr,cell_of_row w1 _ _ _ _ _ aA,Nat.zero_add];simpa using hj
      have e:results fn tmps=(fn.results.mapM (NG tmps)) >>= λvs=>pure (if h:vs.size=1 then vs[0] else .tuple vs):=by
       unfold results;congr 1
      rw[e,Array.mapM_eq_mapM_toList,kF];refine dm (a:=(⟨[.agg ⟨cs⟩]⟩:Array J)) (dm (a:=[.agg ⟨cs⟩]) ?_ rfl) rfl;rw[List.mapM_cons];refine dm (a:=Value.agg ⟨cs⟩) ?_ rfl;show (do loadVar t (<-asAddr (tmps.getD a undef)):Sem J).run P w1=_;rw[e1];exact c4 (a:=(⟨g,0,none⟩:Addr)) rfl agi
     ·rw[<-bp]
      exact aD.vh φ v aC
     ·have ai:=hS.nW
      obtain⟨⟨φ,ds,q1,aH,bW,et,_⟩,gN,j_⟩:=hS;have:=aH.get 0 v rfl;rw[show aB=aJ v from aD.ji v aC this,bp];exact jA w2 gN ai
    cases x with
    |normal=>exact main
    |ret=>exact main
    |exit id=>cases aq
    |goto l=>cases aq
   ·cases h
 ·cases h
end AE
namespace AE
def OF [cS] {X:Type} (gn:X->a1) (gw:X->Prop) (iR:X->Nat) (m N:Nat) (head:aF) (aZ:List bu) (B:Nat) (w0:ax):Act->ax->Prop:=λa w=>∃x',gw x'/\iR x'<m/\ @Here (gn x') _ N (b3 head aZ) B w0 a w
theorem tg [cS] {P:aR} {N B:Nat} {w0:ax} {s1:a1} {X:Type} {gn:X->a1} (gw:X->Prop) (iR:X->Nat) {head:aF} {aZ:List bu} {o:Option bY} {bL:eE} {Q:Exit->Act->ax->Prop} (x:X) (af:pZ head aZ o=some bL) (hm:fP s1 (gn x) bL)
  (qD:∀i o,(gn x).dq i=some o->s1.dq i=some o) (aq:gw x)
  (round:∀x,gw x->∀a w,@Here (gn x) _ N (b3 head aZ) B w0 a w->(pz o).wpIn (Fr none) 0 P (Exit.then (OF gn gw iR (iR x) N head aZ B w0) (dY P (gA o) Q)) a w)
  (av:cS.eu<=aZ.length:=by first|exact Nat.zero_le _|exact gG rfl) (ar:iy (b7 o).A aZ 0:=by exact gX rfl): @fy s1 _ P N B w0 Q o:=
 ae6 gw iR x af hm qD aq round av ar
theorem agj {s1:a1} [cS] {P:aR} {N B:Nat} {w0:ax} {X:Type} {gn:X->a1} {gw:X->Prop} {iR:X->Nat} {m:Nat} {head:aF} {aZ:List bu} {o:Option bY} (x':X) {bL:eE} {Q:Exit->Act->ax->Prop} (af:qE head aZ o=some bL) (hm:fP s1 (gn x') bL)
  (qD:∀i o,(gn x').dq i=some o->s1.dq i=some o) (bf:gw x') (Bs:iR x'<m) (av:cS.eu<=aZ.length:=by first|exact Nat.zero_le _|exact gG rfl) (ar:iy (b7 o).A aZ 0:=by exact gX rfl):
  @fy s1 _ P N B w0 (Exit.then (OF gn gw iR m N head aZ B w0) Q) o:=by
 cases o with
 |none=>cases af
 |some st=>
  refine⟨st,rfl,?_⟩;unfold qE at af;split at af
  ·rename_i s c1
   cases c1;intro a w ah;exact⟨x',bf,Bs,Here.move af hm qD av ar ah⟩
  ·cases af
theorem agk {M M':Nat->Option Obj} {bq vals':List J} {a b:Nat} {v:J} (ad:bq[a]? =some v) (ag:vals'[b]? =some v) (ha:Nat.blt a eZ=true) (af:Nat.blt b eZ=true): @aJ (aW M bq) (ak a)= @aJ (aW M' vals') (ak b):=by
 have e1:me bq a=oZ v:=by unfold me;rw[ha,bD,dp,ad];rfl
 have e2:me vals' b=oZ v:=by unfold me;rw[af,bD,dp,ag];rfl
 exact VN (oZ v) e1 e2
theorem Wz [cS] {P:aR} [Lib P] {N B:Nat} {w0:ax} {Q:Exit->Act->ax->Prop} {M:Mem} {bq:List J} {o:Option bY} {f:FuncId} {args:List J} {eO:J} {Y:Type} {bj:Y->List J} {eb dI:aF} {aZ:List bu} {bL:eE} {dE:Mem} {az n0:List cc} {r:Y->J} {w8:Y->List cc}
  (aI:bI B dE az M n0) (is:List Nat) (km DF:Y->List cc)
  (h:(vx P o).isSome=true) (aQ:(sb P o).1=f) (ha:(sb P o).2.1=args) (dd:cp (kL P o) eb aZ=some bL) (eL:gZ N eb (ka o) eO=some dI)
  (ik:kl n0.length is=true) (ao:∀M' y,@aJ (aW M' (bj y)) eO=r y) (hL:∀y,w8 y=km y++DF y)
  (fA:∀w,(∀i o,M i=some o->w.heap[i]? =some o)->B<=w.heap.size->cG (aG w) (AE.pick n0 is)->Calls P f ⟨@eo (aW M bq) args⟩ w λe w'=>(∃y,e= .returned (r y)/\cV (aG w) (AE.pick n0 is) (aG w') (w8 y))/\cg 0 w w')
  (hm:∀y M',fP (aW M bq) (aW M' (bj y)) bL)
  (rest:∀M' y,bI B dE az M' (lD n0 is (km y)++DF y)->∀a7 w,@Here (aW M' (bj y)) _ N {sl:=dI,ms:=[],A:=c6 aZ} B w0 a7 w->wpListIn (Fr none) 0 P (kI o) (dY P (gA o) Q) (kH o) a7 w)
  (hlen:∀y,(km y).length=is.length:=by exact λ_=>rfl)
  (hp:dL args=true:=by rfl) (fB:aM eO=true:=by rfl)
  (av:cS.eu<=aZ.length:=by first|exact Nat.zero_le _|exact gG rfl) (ar:iy (kL P o).A aZ 0:=by exact gX rfl): @fy (aW M bq) _ P N B w0 Q o:=
 af2 (S:=iI (AE.pick n0 is)) (R:=λy M'=>cV M (AE.pick n0 is) M' (w8 y)) h aQ ha hp dd eL fB (λw hw cT=>af7 aI is ik rfl hw cT ao (fA w hw cT (aI.at is ik rfl hw))) (λM' y _=>hm y M')
  (λM' y eA=>rest M' y (aI.put is ik (hlen y) (by rw[<-hL y];exact eA))) av ar
end AE
namespace AE
def OG (P:aR) (A:a6) (t:aK):J->Option J
 | .pointer (some ⟨b,off,none⟩)=>match bg P (isAgg t) with
   |some false=>A.load b off
   |_=>none
 |_=>none
def FR (P:aR) (bp:Operand->J) (A:a6) (o:Oper):Option J:=
 match o.guard with
 |some _=>none
 |none=>match o.op with
  | .load t x=>OG P A t (bp x)
  |_=>bif xX o then @xY P ⟨[]⟩ bp o else none
section
variable [a1] {P:aR} {φ:b2} {A:a6} {w w2:ax}
omit [a1] in
theorem WA {e:hP} {i:Nat} (h:w2.heap[e.bk]? =w.heap[e.bk]?):w2.cell? ⟨e.bk,i,none⟩=w.cell? ⟨e.bk,i,none⟩:=by
 unfold World.cell?;simp only [h]
theorem agl (ao:b0 φ A w) (al:∀b e,φ b=some e->w2.heap[e.bk]? =w.heap[e.bk]?) {t:aK} {p p' v:J} (hp:aD φ p p') (h:OG P A t p=some v):∃aB,(Instr.loadAt t p').run P w2= .ok aB w2/\aD φ v aB:=by
 unfold OG at h;split at h
 ·rename_i b off
  cases hp with
  |ptr he=>
   split at h
   ·rename_i qt
    obtain⟨aB,ad,ag⟩:=u6 ao h he;rw[<-WA (al _ _ he)] at ad;refine⟨aB,?_,ag⟩;unfold Instr.loadAt;refine c4 (a:=(⟨_,_,none⟩:Addr)) rfl ?_;unfold loadVar;refine c4 qt ?_;simp [Go.load,Sem.run,ad]
   ·cases h
 ·cases h
theorem WB (ao:b0 φ A w) (al:∀b e,φ b=some e->w2.heap[e.bk]? =w.heap[e.bk]?) {ρ ρ':Operand->J} {o:Oper} {v:J} (cZ:∀x,aD φ (ρ x) (ρ' x)) (h:FR P ρ A o=some v):
  ∃aB,(execOp ρ' o).run P w2= .ok (.value aB) w2/\aD φ v aB/\o.guard=none/\∀c,o.op≠.defer c:=by
 unfold FR at h;split at h
 ·cases h
 ·rename_i aA
  split at h
  ·rename_i t x cy
   obtain⟨aB,ad,ag⟩:=agl ao al (cZ x) h;refine⟨aB,?_,ag,aA,λc ar=>by rw[cy] at ar;cases ar⟩;unfold execOp;rw[cy];simp only [Sem.run_bind,ad,Result.andThen_ok];rfl
  ·cases nU:xX o with
   |false=>rw[nU] at h;cases h
   |true=>
    rw[nU,bD] at h;obtain⟨aB,ad,ag⟩:= @E4 _ P ⟨[]⟩ (λ_ h=>by cases h) φ ρ ρ' o v cZ h;refine⟨aB,ad w2,ag,aA,λc ar=> ?_⟩;unfold xX at nU;rw[ar] at nU;simp at nU
end
def J2 (P:aR) [Lib P] [eh P] (C:ix) (N E m:Nat) (ops:Array Oper) (ms:List Nat) (dv:aF) (A:a6):List Oper->Nat->List J->Option (List J)
 |[],_,vs=>some vs
 |o::r,i,vs=>bif Nat.beq i E then J2 P C N E m ops ms dv A r (i+1) (vs++[cu]) else
  match hR N ops (λj=>vs.getD j cu) (needs ops m o) dv with
  |some sl=>bif C0 ms E i then
    match vi P C .nil ops o sl A with
    |some (v,bC)=>bif I5 (.nil,bC) (.nil,A) then J2 P C N E m ops ms dv A r (i+1) (vs++[v]) else none
    |none=>none
   else match FR P (dH .nil sl) A o with
    |some v=>J2 P C N E m ops ms dv A r (i+1) (vs++[v])
    |none=>none
  |none=>none
def agm (ops:Array Oper) (E:Nat):Option (aK×Operand×Operand):=
 match ops[E]? with
 |some o=>match o.guard,o.dst,o.op with
  |none,none,.store t p x=>some (t,p,x)
  |_,_,_=>none
 |none=>none
def mZ (P:aR) [Lib P] [eh P] (C:ix) (N E m:Nat):Option bY->Option (aK×J×J×aF)
 |some (.draw _ ops s _)=>
  bif ui ops [] m N&&(Nat.blt E m&&(List.range m).all λi=> !direct ops i E) then
   match hR N ops (λ_=>cu) (List.range m) s.sl,agm ops E with
   |some dv,some (t,ow,hd)=>match J2 P C N E m ops (zk ops) dv s.A (ops.toList.take m) 0 [] with
    |some vs=>match hR N ops (λj=>vs.getD j cu) (List.range m) dv,ops[E]? with
     |some eK,some o=>match hR N ops (λj=>vs.getD j cu) (needs ops m o) dv with
      |some J3=>bif aM (dH .nil J3 ow)&&aM (dH .nil J3 hd) then some (t,dH .nil J3 ow,dH .nil J3 hd,eK) else none
      |none=>none
     |_,_=>none
    |none=>none
   |_,_=>none
  else none
 |_=>none
section
variable {P:aR} [Lib P] [eh P] {C:ix} {N E m:Nat} {ops:Array Oper} {ms:List Nat} {dv:aF} {A:a6}
end
structure FT [a1] [cS] (N:Nat) (FU:List Nat) (ds:List Deferred) (ops:Array Oper) (m:Nat) (vs:List J) (dv:aF) (A:a6) (B:Nat) (w0:ax) (φ:b2) (listed:Array Bool) (a:Act) (w:ax):Prop where
 agn:rb φ FU ds
 size:listed.size=ops.size
 down:∀i j,listed.getD i false=true->direct ops i j=true->listed.getD j false=true
 sT:∀i,m<=i->listed.getD i false=false
 rel:b0 φ A w
 own:∀b e,φ b=some e->B<=e.bk
 outs:vr φ A
 below:cg B w0 w
 ago:B<=w.heap.size
 defers:a.defers=ds
 my:a.tmps.size=N
 slot:∀t v,dv.get t=some v->aD φ v (a.tmps.getD t undef)
 val:∀j t,j<m->listed.getD j false=true->fx ops j=some t->aD φ (vs.getD j cu) (a.tmps.getD t undef)
section
variable [a1] [cS] {N:Nat} {FU:List Nat} {ds:List Deferred} {ops:Array Oper} {m B:Nat} {vs:List J} {dv:aF} {A:a6} {w0 w:ax} {φ:b2} {listed:Array Bool} {a:Act}
theorem FT.DG (h:FT N FU ds ops m vs dv A B w0 φ listed a w) {V:Nat->J} {cq:List Nat} {sl:aF} (va:∀j∈cq,j<m/\listed.getD j false=true/\V j=vs.getD j cu) (hp:hR N ops V cq dv=some sl):fD N ds φ sl a:=
 ⟨h.my,h.defers,λt v aC=>by
   rcases oW _ _ _ hp t v aC with ⟨j,hj,bc,rfl⟩|⟨_,aA⟩
   ·obtain⟨ad,ag,ay⟩:=va j hj
    rw[ay];exact h.val j t ad ag bc
   ·exact h.slot t v aA⟩
omit [a1] [cS] in
theorem J4 {listed:Array Bool} {i:Nat} (ai:i<listed.size) (j:Nat):(listed.setIfInBounds i true).getD j false=true↔j=i\/listed.getD j false=true:=by
 by_cases hj:j=i
 ·subst hj
  simp [ai]
 ·rw[getD_set_ne false (Ne.symm hj)]
  simp [hj]
theorem FT.put (h:FT N FU ds ops m vs dv A B w0 φ listed a w) {i:Nat} {o:Oper} {mz:aF} (fo:hR N ops (λ_=>cu) (List.range m) mz=some dv) (ai:i<m) (hm:m<=ops.size) (ho:ops[i]? =some o)
  (um:∀k,direct ops i k=true->listed.getD k false=true) (mC:∀i j,i<m->j<m->i≠j->∀t,fx ops i=some t->fx ops j≠some t) (ck:∀i t,i<m->fx ops i=some t->t<N)
  {aB:J} (aC:o.dst≠none->aD φ (vs.getD i cu) aB):FT N FU ds ops m vs dv A B w0 φ (listed.setIfInBounds i true) (a.put o.dst aB) w:=by
 have k9:fx ops i=o.dst:=by simp [fx,ho]
 have fg:=J4 (listed:=listed) (i:=i) (by have:=h.size;omega);have cW:∀t,o.dst≠some t->(a.put o.dst aB).tmps.getD t undef=a.tmps.getD t undef:=λt aL=>by
  rcases Nat.lt_or_ge t a.tmps.size with kG|kG
  ·rw[Act.sS _ _ _ _ kG,a' aL]
  ·simp [Array.getElem?_eq_none kG,Array.getElem?_eq_none (show (a.put o.dst aB).tmps.size<=t by rw[Act.size_put];exact kG)]
 refine⟨h.agn,by simpa using h.size,?_,?_,h.rel,h.own,h.outs,h.below,h.ago,by rw[Act.CZ];exact h.defers,by rw[Act.size_put];exact h.my,?_,?_⟩
 ·intro j k hj bc
  rw[fg] at hj ⊢;rcases hj with rfl|hj
  ·exact .inr (um k bc)
  ·exact .inr (h.down j k hj bc)
 ·intro j hj
  rw[getD_set_ne false aj];exact h.sT j hj
 ·intro t v pU
  by_cases q_:o.dst=some t
  ·rcases oW _ _ _ fo t v pU with ⟨j,hj,bc,rfl⟩|⟨x2,_⟩
   ·exact .cu _
   ·exact absurd (k9.trans q_) (x2 i (List.mem_range.2 ai))
  ·rw[cW t q_]
   exact h.slot t v pU
 ·intro j t hj hl bc
  by_cases ei:j=i
  ·subst ei
   have kG:t<N:=ck j t hj bc;have:(a.put o.dst aB).tmps.getD t undef=aB:=by
    rw[Act.sS _ _ _ _ (by rw[h.my];exact kG),aY (k9.symm.trans bc)]
   rw[this];exact aC (by rw[<-k9,bc];simp)
  ·have mS:=((fg j).1 hl).resolve_left ei
   rw[cW t λah=>mC i j ai hj (Ne.symm ei) t (k9.trans ah) bc];exact h.val j t hj mS bc
end
section
variable [a1] [cS] {P:aR} [Lib P] [eh P] {C:ix} {N E m B:Nat} {w0:ax} {Q:Exit->Act->ax->Prop}
end
end AE
namespace AE
theorem agp {P:aR} (w:ax) (p7 agq ty elem:aK) (d:Option Addr) (agr:Nat) (a:Addr) (oe rU:Nat) (hu:P.underlying p7=some (.slice elem)) (aw:(P.info? elem).map (·.size)=some 1):
  (Builtin.copy_ #[p7,agq] ty #[.slice d 0 agr,.slice (some a) oe rU]).run P w= .ok (.int .i64 0) w:=by
 cases bb:P.info? elem with
 |none=>simp [bb] at aw
 |some i=>
  have ai:i.size=1:=by simpa [bb] using aw
  cases d<;>simp [Builtin.copy_,run_underlying hu,Builtin.lenOf,Builtin.firstCells,sizeOf,typeInfo,bb,storeCells,loadCells,loadCellsFrom,Sem.run,pure,goInt]
theorem OH {α:Type} {enc:α->List J} (al:∀x,(enc x).length=1) (l:List α) (i:Nat):(l.take i).flatMap enc=(l.flatMap enc).take i/\(l.drop i).flatMap enc=(l.flatMap enc).drop i:=by
 have h:∀(l:List α) (i:Nat),(l.take i).flatMap enc=(l.flatMap enc).take i/\(l.drop i).flatMap enc=(l.flatMap enc).drop i:=by
  intro l
  induction l with
  |nil=>intro i;simp
  |cons x r cz=>
   intro i;cases i with
   |zero=>simp
   |succ i=>
    have aq:=al x;obtain⟨v,aC⟩:=List.length_eq_one_iff.1 aq;obtain⟨ad,ag⟩:=cz i;simp [aC,ad,ag]
 exact h l i
theorem WC [cS] {α:Type} {P:aR} {N B:Nat} {w0:ax} {Q:Exit->Act->ax->Prop} {M:Mem} {bq bj:List J} {o:Option bY} {t t2 e:aK} {vs lC u rv V:J} {a:Option Addr} {c i m:Nat} {enc:α->List J} {l ys l':List α} {eb dI:aF} {aZ:List bu} {bL:eE}
  (fL:l'=l.take i++ys.take m++l.drop (i+m)) (sN:m=min ys.length (l.length-i)) (h:Bq t t2 o=some (vs,lC)) (aL:P.underlying t=some (.slice e)) (aw:(P.info? e).map (·.size)=some 1) (al:∀x,(enc x).length=1) (kb:∀x,∀v∈enc x,v.oneCell'=true)
  (dd:cp (b7 o) eb aZ=some bL) (eL:gZ N eb (ka o) rv=some dI) (hp:aM vs=true) (WD:aM rv=true) (hu:u= .slice a l.length c) (mg: @aJ (aW M bq) vs=V) (uh:V= .slice (la a c i 1) (l.length-i) (c-i))
  (jV:∀φ w x,(∀i o,M i=some o->w.heap[i]? =some o)-> @b0 (aW M bq) φ (b7 o).A w-> @aD (aW M bq) φ lC x->r9 w 1 enc x ys) (Bt:ys≠[]) (ai:i<=l.length)
  (cM:dw B M e 1 enc u l) (b9:∀M',@aJ (aW M' bj) rv= .int .i64 ((m:Nat):Int)) (hm:∀M',fP (aW M bq) (aW M' bj) bL)
  (rest:∀M',dw B M' e 1 enc u l'->h7 M M' (eP u)->∀a7 w,@Here (aW M' bj) _ N {sl:=dI,ms:=[],A:=c6 aZ} B w0 a7 w->wpListIn (Fr none) 0 P (kI o) (dY P (gA o) Q) (kH o) a7 w)
  (av:cS.eu<=aZ.length:=by first|exact Nat.zero_le _|exact gG rfl) (ar:iy (b7 o).A aZ 0:=by exact gX rfl): @fy (aW M bq) _ P N B w0 Q o:=by
 subst uh;letI:=aW M bq;unfold Bq at h;split at h
 ·rename_i op r ops s ks
  refine⟨_,rfl,λdZ w ah=> ?_⟩;split at h
  ·rename_i e4 cy
   split at h
   ·rename_i nF hd pS gK
    cases hty:decide (e4.argTypes= #[t,t2]) with
    |false=>rw[hty] at h;cases h
    |true=>
     rw[hty,bD] at h;have yg:e4.argTypes= #[t,t2]:=of_decide_eq_true hty;split at h
     ·rename_i jK
      cases h;have hE:=ah;obtain⟨⟨φ,ds,ad,ag,ay,bG,_⟩,cE,cR⟩:=ah;unfold wpListIn;rw[pv ag.get jK,aY rfl];have es:dZ.eval nF= .slice (la a c i 1) (l.length-i) (c-i):=(aD.ji _ hp (gV (iG φ) ag.get nF)).trans mg;have hw:∀i o,M i=some o->w.heap[i]? =some o:=hE.nW;obtain⟨w5,c2,ex,yf,ki⟩:=jV φ w _ hw ay (gV (iG φ) ag.get hd);have fz:∀c',op.op≠.defer c':=λc' h=>by rw[cy] at h;cases h
      cases w5 with
      |none=>exact absurd (yf rfl) Bt
      |some hc=>
       have od:∀(w2:ax),(Builtin.copy_ #[t,t2] op.type #[dZ.eval nF,dZ.eval hd]).run P w= .ok (.int .i64 ((m:Nat):Int)) w2->(execOp dZ.eval op).run P w= .ok (.value (.int .i64 ((m:Nat):Int))) w2:=by
        intro w2 FQ;unfold execOp resolve;rw[cy];simp only [pS,gK,yg,List.map_toArray,List.map_cons,List.map_nil];show (do pure (Next.value (<-Builtin.copy_ #[t,t2] op.type #[dZ.eval nF,dZ.eval hd])):Sem Next).run P w=_;simp only [Sem.run_bind,FQ,Result.andThen_ok];rfl
       rcases Nat.eq_or_lt_of_le ai with p2|p2
       ·
        have DH:m=0:=by omega
        subst DH;have lz:l'=l:=by rw[fL,p2];simp
        rw[lz] at rest;have fw:=od w (by rw[es,ex,show l.length-i=0 by omega];exact agp w t t2 op.type e _ _ hc _ c2 aL aw);refine⟨λ_ _=>trivial,?_⟩;rw[Oper.semAt_eq _ _ _ fz,fw,Oper.uponIn_value];have hS:=Here.move (s2:=aW M bj) dd (hm M) (λ_ _ h=>h) av ar hE;have:=rest M cM (λ_ _ h _=>h) _ _ (@Here.put (aW M bj) _ _ _ _ _ _ _ op.dst rv dI hS WD eL);rw[b9 M] at this;exact this
       ·rcases cM with ⟨aoQ,rfl,rfl⟩|⟨g,cap,cur,he,ku,cT,bt,hle,xN,fV,yo⟩
        ·simp at p2
        ·rw[he] at hu
         simp only [Value.slice.injEq] at hu;obtain⟨rfl,_,rfl⟩:=hu;have aA:=hw _ _ bt;have bc:la (some (⟨g,0,none⟩:Addr)) cap i 1=some ⟨g,i,none⟩:=by
          unfold la;rw[a' aj];show some ((⟨g,0,none⟩:Addr).add (i*1))=_;have:(⟨g,0,none⟩:Addr).add (i*1)=⟨g,0+i*1,none⟩:=by unfold Addr.add;split<;>simp_all
          rw[this,Nat.zero_add,Nat.mul_one]
         have aoR:cur.size=cap:=by omega
         have Br:((ys.take m).flatMap enc).length=m:=by
          rw[rj al,List.length_take];omega
         have FQ:=run_copy_row (P:=P) w t t2 op.type e g i (l.length-i) (cap-i) hc ys.length c2 cur e ((ys.take m).flatMap enc) aL aw aA (by rw[Br];exact sN) (λj v hj=>ki hc rfl j v (by
          rw[(OH al ys m).1] at hj;rw[List.getElem?_take] at hj;split at hj
          ·exact hj
          ·cases hj)) (by rw[Br];omega) (λv aC=>by
          obtain⟨x,_,aq⟩:=List.mem_flatMap.1 aC
          exact kb x v aq)
         let fQ:Array J:=(cur.toList.take i++(ys.take m).flatMap enc++cur.toList.drop (i+m)).toArray
         have fw:=od (w.setRow g fQ) (by rw[es,ex,bc,FQ,Br];rfl);refine⟨λ_ _=>trivial,?_⟩;rw[Oper.semAt_eq _ _ _ fz,fw,Oper.uponIn_value];have ig:eP u=some g:=by rw[he];exact nX ⟨g,0,none⟩ _ ku
         obtain⟨q1,aH⟩:=qF (B:=B) (M:=M) (w':=w.setRow g fQ) (T:=some g) (da:=some g) hw (λi ai=>by cases ai;exact⟨by rw[bt];simp,cT⟩) (λi ai=> .inl ai) ⟨rfl,rfl,rfl⟩ (cj _) (by simp [World.setRow]) (λj _ hj=>setRow_other w g j fQ (λh=>hj (by rw[h])));have lz:l'.length=l.length:=by rw[fL];simp;omega
         have vB:dw B (h8 M (w.setRow g fQ) (some g) (some g)) e 1 enc u l':=by
          refine .inr ⟨g,cap,fQ,by rw[he,lz],ku,cT,?_,by rw[lz];exact hle,xN,?_,?_⟩
          ·unfold h8
           rw[aY rfl];exact setRow_heap w g cur fQ e (0,0) aA
          ·show (List.toArray _).size=_
           simp only [List.size_toArray,List.length_append,List.length_take,List.length_drop,Br,Array.length_toList];omega
          ·show (cur.toList.take i++(ys.take m).flatMap enc++cur.toList.drop (i+m)).take (l'.length*1)=_
           rw[fL,List.flatMap_append,List.flatMap_append,(OH al l i).1,(OH al l (i+m)).2,<-yo,Nat.mul_one,Nat.mul_one,<-fL,lz];have ad:(cur.toList.take i++(ys.take m).flatMap enc).length=i+m:=by
            rw[List.length_append,Br,List.length_take,Array.length_toList];omega
           rw[List.take_append,ad,List.take_of_length_le aj,List.take_drop,List.take_take,Nat.min_eq_left aj,List.drop_take];congr 1;have:i+m+(l.length-(i+m))=l.length:=by omega
           rw[this,List.drop_take]
         have hS:=Here.turns (vals':=bj) dd (hm _) q1 av ar hE;have:=rest _ vB (by rw[ig];exact aH) _ _ (@Here.put (aW (h8 M (w.setRow g fQ) (some g) (some g)) bj) _ _ _ _ _ _ _ op.dst rv dI hS WD eL);rw[b9 _] at this;exact this
     ·cases h
   ·cases h
  ·cases h
 ·cases h
theorem ags (a:Option Addr) (n c:Nat):Value.slice a n c= .slice (la a c 0 1) (n-0) (c-0):=by
 unfold la;split
 ·rfl
 ·cases a with
  |none=>rfl
  |some a=>
   obtain⟨b,o,s⟩:=a;rw[Nat.sub_zero,Nat.sub_zero,Nat.zero_mul];cases s<;>rfl
theorem WE {α:Type} {M:Mem} {bq:List J} {lC V:J} {A:a6} {k:Nat} {enc:α->List J} {l:List α} (hp:aM lC=true) (bp: @aJ (aW M bq) lC=V) (lR:cF M k enc V l) (al:∀x,(enc x).length=k):
  ∀φ w x,(∀i o,M i=some o->w.heap[i]? =some o)-> @b0 (aW M bq) φ A w-> @aD (aW M bq) φ lC x->r9 w k enc x l:=λφ w x hw _ aC=>by
 have:x=V:=(@aD.ji (aW M bq) φ lC x hp aC).trans bp;rw[this];exact lR.reads al hw
theorem J5 {n:Int} (ad:0<=n) (ag:n<=18446744073709551615):IntKind.u64.wrap n=n:=by rw[IntKind.wrap_u64];omega
end AE
namespace AE
abbrev eD:=Option Addr×Nat
def OI (P:aR) (A:a6) (t:aK):J->Option J
 | .pointer (some ⟨b,off,none⟩)=>match bg P (isAgg t) with
   |some true=>match bg P (sizeOf t) with
    |some n=>(A.rR b off n).map λl=> .agg ⟨l⟩
    |none=>none
   |_=>none
 |_=>none
theorem agt [a1] {φ:b2} {A:a6} {w w2:ax} {e:hP} (ao:b0 φ A w) (al:w2.heap[e.bk]? =w.heap[e.bk]?) (P:aR) {b off n:Nat} {vs:List J} (h:A.rR b off n=some vs) (he:φ b=some e):
  ∃cL:Array J,(loadCells ⟨e.bk,e.sh+off,none⟩ n).run P w2= .ok cL w2/\cL.size=vs.length/\∀j,j<vs.length->aD φ (vs.getD j undef) (cL.getD j undef):=by
 obtain⟨hl,hj⟩:=Ay h;have Az:∀j,j<n->∃aB,w2.cell? ⟨e.bk,e.sh+off+j,none⟩=some aB/\aD φ (vs.getD j undef) aB:=λj u_=>by
  obtain⟨aB,ad,ag⟩:=u6 ao (hj j u_) he;exact⟨aB,by rw[show e.sh+off+j=e.sh+(off+j) by omega,WA al];exact ad,ag⟩
 let f:Nat->J:=λj=>(w2.cell? ⟨e.bk,e.sh+off+j,none⟩).getD undef
 have aQ:∀j,j<n->w2.cell? ((⟨e.bk,e.sh+off,none⟩:Addr).add j)=some (f j):=λj u_=>by
  obtain⟨aB,ad,_⟩:=Az j u_;rw[Addr.kr,ad];simp [f,ad]
 refine⟨_,run_loadCells _ _ n f aQ,by simp [hl],λj u_=> ?_⟩;obtain⟨aB,ad,ag⟩:=Az j aj;have:f j=aB:=by simp [f,ad]
 have agu:j<n:=by omega
 simpa [agu,this] using ag
theorem agv [a1] {P:aR} {φ:b2} {A:a6} {w w2:ax} (ao:b0 φ A w) (al:∀b e,φ b=some e->w2.heap[e.bk]? =w.heap[e.bk]?) {t:aK} {p p' v:J} (hp:aD φ p p') (h:OI P A t p=some v):∃aB,(Instr.loadAt t p').run P w2= .ok aB w2/\aD φ v aB:=by
 unfold OI at h;split at h
 ·rename_i b off
  cases hp with
  |ptr he=>
   split at h
   ·rename_i qt
    split at h
    ·rename_i n av
     obtain⟨l,hl,rfl⟩:=Option.map_eq_some_iff.1 h;obtain⟨cL,ad,ag,ay⟩:=agt ao (al _ _ bK) P hl bK;refine⟨.agg cL,?_,.agg _ _ (by simp [ag]) λi ai=>by simpa using ay i (by simpa using ai)⟩;unfold Instr.loadAt;refine c4 (a:=(⟨_,_,none⟩:Addr)) rfl ?_;unfold loadVar;refine c4 qt ?_;simp only [if_true];refine c4 av ?_;simp only [Sem.run_bind,ad,Result.andThen_ok];rfl
    ·cases h
   ·cases h
 ·cases h
def yq (P:aR) (bp:Operand->J) (A:a6) (o:Oper):Option J:=
 match o.op with
 | .build t ⟨[]⟩=>match o.guard with
   |none=>match bg P (Instr.build t #[]) with
    |some v=>bif plain v then some v else none
    |none=>none
   |some _=>none
 | .load t x=>match o.guard with
   |none=>match OI P A t (bp x) with
    |some v=>some v
    |none=>FR P bp A o
   |some _=>none
 |_=>FR P bp A o
theorem WG [a1] {P:aR} {φ:b2} {A:a6} {w w2:ax} (ao:b0 φ A w) (al:∀b e,φ b=some e->w2.heap[e.bk]? =w.heap[e.bk]?) {ρ ρ':Operand->J} {o:Oper} {v:J} (cZ:∀x,aD φ (ρ x) (ρ' x)) (h:yq P ρ A o=some v):
  ∃aB,(execOp ρ' o).run P w2= .ok (.value aB) w2/\aD φ v aB/\o.guard=none/\∀c,o.op≠.defer c:=by
 unfold yq at h;split at h
 ·rename_i t cy
  split at h
  ·rename_i aA
   split at h
   ·rename_i u hu
    cases hp:plain u with
    |false=>rw[hp] at h;cases h
    |true=>
     rw[hp,bD] at h;cases h;refine⟨v,?_,aD.kq φ v hp,aA,λc ar=>by rw[cy] at ar;cases ar⟩;unfold execOp;rw[cy];simp only [List.map_toArray,List.map_nil,Sem.run_bind,jz hu w2,Result.andThen_ok];rfl
   ·cases h
  ·cases h
 ·rename_i t x cy
  split at h
  ·rename_i aA
   split at h
   ·rename_i u hu
    cases h;obtain⟨aB,ad,ag⟩:=agv (w2:=w2) ao al (cZ x) hu;refine⟨aB,?_,ag,aA,λc ar=>by rw[cy] at ar;cases ar⟩;unfold execOp;rw[cy];simp only [Sem.run_bind,ad,Result.andThen_ok];rfl
   ·exact WB ao al cZ h
  ·cases h
 ·exact WB ao al cZ h
def DI (P:aR) (N m:Nat) (cq:List Nat) (ops:Array Oper) (dv:aF) (A:a6):List Oper->Nat->List J->Option (List J)
 |[],_,vs=>some vs
 |o::r,i,vs=>bif cq.contains i then DI P N m cq ops dv A r (i+1) (vs++[cu]) else
  match hR N ops (λj=>vs.getD j cu) (needs ops m o) dv with
  |some sl=>match yq P (dH .nil sl) A o with
   |some v=>DI P N m cq ops dv A r (i+1) (vs++[v])
   |none=>none
  |none=>none
def FV (P:aR) (N m:Nat) (cq:List Nat):Option bY->Option (aF×List J×aF)
 |some (.draw _ ops s _)=>
  bif ui ops [] m N&&((List.range m).all λi=>match ops[i]? with|some o=>(needs ops m o).all λj=> !cq.contains j|none=>false)&&cq.all (λj=>Nat.blt j m) then
   match hR N ops (λ_=>cu) (List.range m) s.sl with
   |some dv=>match DI P N m cq ops dv s.A (ops.toList.take m) 0 [] with
    |some vs=>match hR N ops (λj=>vs.getD j cu) ((List.range m).filter λi=> !cq.contains i) dv with
     |some FW=>some (dv,vs,FW)
     |none=>none
    |none=>none
   |none=>none
  else none
 |_=>none
def rm (P:aR) (N m:Nat) (cq:List Nat) (o:Option bY) (i:Nat):aF:=
 match FV P N m cq o,(gP o)[i]? with
 |some (dv,vs,_),some op=>match hR N (gP o) (λj=>vs.getD j cu) (needs (gP o) m op) dv with
  |some sl=>sl
  |none=> .nil
 |_,_=> .nil
def FX (P:aR) (N m:Nat) (cq:List Nat) (o:Option bY):b6:={b7 o with sl:=match FV P N m cq o with|some (_,_,sl)=>sl|none=> .nil}
def yr (m:Nat) (o:Option bY):List Oper:=(gP o).toList.drop m
def uE (N:Nat) (ops:Array Oper):List (Nat×J)->aF->Option aF
 |[],sl=>some sl
 |p::r,sl=>match gZ N sl (fx ops p.1) p.2 with
  |some s=>uE N ops r s
  |none=>none
def w9 [a1] (P:aR) (M:Mem) (B:Nat) (o:Oper) (sl:aF) (R:eD->cc) (rv:eD->J):Prop:=
 o.guard=none/\∀(a:Act) (w:ax) (K:Act->ax->Prop) (Q:Exit->Act->ax->Prop),(∀x:Operand,aM (dH .nil sl x)=true->a.eval x=aJ (dH .nil sl x))->(∀b o,M b=some o->w.heap[b]? =some o)->B<=w.heap.size->
   (∀y w',(R y).ok (aG w')->(∀b,(R y).oB b->w.heap.size<=b)->cg w.heap.size w w'->K (a.put o.dst (rv y)) w')->Oper.wpIn (Fr none) 0 P o a w K Q
theorem WH {P:aR} {N m:Nat} {cq:List Nat} {ops:Array Oper} {dv:aF} {A:a6}:∀(l:List Oper) (i0:Nat) (vs cL:List J),vs.length=i0->DI P N m cq ops dv A l i0 vs=some cL->
  cL.length=vs.length+l.length/\cL.take vs.length=vs/\∀i o,l[i]? =some o->cq.contains (i0+i)=false->∃sl,hR N ops (λj=>(cL.take (vs.length+i)).getD j cu) (needs ops m o) dv=some sl/\yq P (dH .nil sl) A o=some (cL.getD (vs.length+i) cu)
 |[],i0,vs,cL,_,h=>by
  cases h;exact⟨by simp,by simp,λi o ai=>by simp at ai⟩
 |o::r,i0,vs,cL,vl,h=>by
  unfold DI at h;have go:∀v,(cq.contains i0=false->∃sl,hR N ops (λj=>vs.getD j cu) (needs ops m o) dv=some sl/\yq P (dH .nil sl) A o=some v)->DI P N m cq ops dv A r (i0+1) (vs++[v])=some cL->
    cL.length=vs.length+(o::r).length/\cL.take vs.length=vs/\∀i o',(o::r)[i]? =some o'->cq.contains (i0+i)=false->∃sl,hR N ops (λj=>(cL.take (vs.length+i)).getD j cu) (needs ops m o') dv=some sl/\yq P (dH .nil sl) A o'=some (cL.getD (vs.length+i) cu):=by
   intro v aC h;obtain⟨ag,ay,bG⟩:=WH r (i0+1) (vs++[v]) cL (by simp [vl]) h;have hlen:(vs++[v]).length=vs.length+1:=by simp
   rw[hlen] at ag ay;have vm:cL.take vs.length=vs:=by
    have:=congrArg (List.take vs.length) ay;rw[List.take_take,Nat.min_eq_left aj] at this;simpa using this
   refine⟨by simp;omega,vm,?_⟩;intro i o' ai
   match i with
   |0=>
    simp only [List.getElem?_cons_zero,cN] at ai;subst ai;simp only [Nat.add_zero];rw[vm];have gO:cL.getD vs.length cu=v:=by
     have:=congrArg (λl=>l[vs.length]?) ay;simp at this;rw[dp,this];rfl
    rw[gO];exact aC
   |i+1=>
    have:=bG i o' (by simpa using ai);rw[hlen] at this;rw[show vs.length+(i+1)=vs.length+1+i by omega,show i0+(i+1)=i0+1+i by omega];exact this
  cases ar:cq.contains i0 with
  |true=>
   rw[ar,bD] at h;exact go cu (λah=>by rw[ar] at ah;cases ah) h
  |false=>
   rw[ar,eB] at h;split at h
   ·rename_i sl gI
    split at h
    ·rename_i v aC
     exact go v (λ_=>⟨sl,gI,aC⟩) h
    ·cases h
   ·cases h
structure vE [a1] (N:Nat) (ds:List Deferred) (ops:Array Oper) (m:Nat) (cq:List Nat) (vs:List J) (dv:aF) (ja:ax) (φ:b2) (R:Nat->eD->cc) (rv:Nat->eD->J) (ys:Nat->eD) (listed:Array Bool) (a:Act) (w:ax):Prop where
 size:listed.size=ops.size
 down:∀i j,listed.getD i false=true->direct ops i j=true->listed.getD j false=true
 sT:∀i,m<=i->listed.getD i false=false
 low:cg ja.heap.size ja w
 defers:a.defers=ds
 my:a.tmps.size=N
 slot:∀t v,dv.get t=some v->aD φ v (a.tmps.getD t undef)
 OJ:∀j t,j<m->listed.getD j false=true->cq.contains j=false->fx ops j=some t->aD φ (vs.getD j cu) (a.tmps.getD t undef)
 zJ:∀j t,j<m->listed.getD j false=true->cq.contains j=true->fx ops j=some t->a.tmps.getD t undef=rv j (ys j)
 ok:∀j,j<m->listed.getD j false=true->cq.contains j=true->(R j (ys j)).ok (aG w)/\∀b,(R j (ys j)).oB b->ja.heap.size<=b
 two:∀i j,i<m->j<m->i≠j->listed.getD i false=true->listed.getD j false=true->cq.contains i=true->cq.contains j=true->∀b,(R i (ys i)).oB b->¬(R j (ys j)).oB b
section
variable [a1] {N:Nat} {ds:List Deferred} {ops:Array Oper} {m:Nat} {cq:List Nat} {vs:List J} {dv:aF} {ja w:ax} {φ:b2} {R:Nat->eD->cc} {rv:Nat->eD->J} {ys:Nat->eD} {listed:Array Bool} {a:Act}
omit [a1] in
theorem yt {a:Act} {d:Option Tmp} {aB:J} (t:Tmp) (aL:d≠some t):(a.put d aB).tmps.getD t undef=a.tmps.getD t undef:=by
 rcases Nat.lt_or_ge t a.tmps.size with kG|kG
 ·rw[Act.sS _ _ _ _ kG,a' aL]
 ·simp [Array.getElem?_eq_none kG,Array.getElem?_eq_none (show (a.put d aB).tmps.size<=t by rw[Act.size_put];exact kG)]
theorem vE.DG (h:vE N ds ops m cq vs dv ja φ R rv ys listed a w) {V:Nat->J} {ks:List Nat} {sl:aF} (zf:∀j∈ks,j<m/\listed.getD j false=true/\cq.contains j=false/\V j=vs.getD j cu) (hp:hR N ops V ks dv=some sl):fD N ds φ sl a:=
 ⟨h.my,h.defers,λt v aC=>by
   rcases oW _ _ _ hp t v aC with ⟨j,hj,bc,rfl⟩|⟨_,aA⟩
   ·obtain⟨ad,ag,ay,bG⟩:=zf j hj
    rw[bG];exact h.OJ j t ad ag ay bc
   ·exact h.slot t v aA⟩
theorem vE.agw (h:vE N ds ops m cq vs dv ja φ R rv ys listed a w) {i:Nat} {o:Oper} {mz:aF} (fo:hR N ops (λ_=>cu) (List.range m) mz=some dv) (ai:i<m) (hm:m<=ops.size) (ho:ops[i]? =some o) (jV:cq.contains i=false)
  (um:∀k,direct ops i k=true->listed.getD k false=true) (mC:∀i j,i<m->j<m->i≠j->∀t,fx ops i=some t->fx ops j≠some t) (ck:∀i t,i<m->fx ops i=some t->t<N)
  {aB:J} (aC:aD φ (vs.getD i cu) aB):vE N ds ops m cq vs dv ja φ R rv ys (listed.setIfInBounds i true) (a.put o.dst aB) w:=by
 have k9:fx ops i=o.dst:=by simp [fx,ho]
 have fg:=J4 (listed:=listed) (i:=i) (by have:=h.size;omega);have J6:∀{j},cq.contains j=true->j≠i:=λ{j} hj e=>by rw[e,jV] at hj;cases hj
 refine⟨by simpa using h.size,?_,?_,h.low,by rw[Act.CZ];exact h.defers,by rw[Act.size_put];exact h.my,?_,?_,?_,?_,?_⟩
 ·intro j k hj bc
  rw[fg] at hj ⊢;rcases hj with rfl|hj
  ·exact .inr (um k bc)
  ·exact .inr (h.down j k hj bc)
 ·intro j hj
  rw[getD_set_ne false aj];exact h.sT j hj
 ·intro t v pU
  by_cases q_:o.dst=some t
  ·rcases oW _ _ _ fo t v pU with ⟨j,hj,bc,rfl⟩|⟨x2,_⟩
   ·exact .cu _
   ·exact absurd (k9.trans q_) (x2 i (List.mem_range.2 ai))
  ·rw[yt t q_]
   exact h.slot t v pU
 ·intro j t hj hl aq bc
  by_cases ei:j=i
  ·subst ei
   rw[Act.sS _ _ _ _ (by rw[h.my];exact ck j t hj bc),aY (k9.symm.trans bc)];exact aC
  ·rw[yt t λah=>mC i j ai hj (Ne.symm ei) t (k9.trans ah) bc]
   exact h.OJ j t hj (((fg j).1 hl).resolve_left ei) aq bc
 ·intro j t hj hl aq bc
  have ei:=J6 aq;rw[yt t λah=>mC i j ai hj (Ne.symm ei) t (k9.trans ah) bc];exact h.zJ j t hj (((fg j).1 hl).resolve_left ei) aq bc
 ·intro j hj hl aq
  exact h.ok j hj (((fg j).1 hl).resolve_left (J6 aq)) aq
 ·intro j k hj al cW hl vF aq iH
  exact h.two j k hj al cW (((fg j).1 hl).resolve_left (J6 aq)) (((fg k).1 vF).resolve_left (J6 iH)) aq iH
theorem vE.agx (h:vE N ds ops m cq vs dv ja φ R rv ys listed a w) {i:Nat} {o:Oper} {mz:aF} (fo:hR N ops (λ_=>cu) (List.range m) mz=some dv) (ai:i<m) (hm:m<=ops.size) (ho:ops[i]? =some o) (jV:cq.contains i=true) (sY:listed.getD i false=false)
  (um:∀k,direct ops i k=true->listed.getD k false=true) (mC:∀i j,i<m->j<m->i≠j->∀t,fx ops i=some t->fx ops j≠some t) (ck:∀i t,i<m->fx ops i=some t->t<N)
  {y:eD} {w':ax} (jA:(R i y).ok (aG w')) (aQ:∀b,(R i y).oB b->w.heap.size<=b) (mP:cg w.heap.size w w'):
  vE N ds ops m cq vs dv ja φ R rv (λj=>if j=i then y else ys j) (listed.setIfInBounds i true) (a.put o.dst (rv i y)) w':=by
 have k9:fx ops i=o.dst:=by simp [fx,ho]
 have fg:=J4 (listed:=listed) (i:=i) (by have:=h.size;omega);have Bt:∀{j},j≠i->(if j=i then y else ys j)=ys j:=λ{j} hj=>a' hj
 refine⟨by simpa using h.size,?_,?_,h.low.trans (mP.mono h.low.size),by rw[Act.CZ];exact h.defers,by rw[Act.size_put];exact h.my,?_,?_,?_,?_,?_⟩
 ·intro j k hj bc
  rw[fg] at hj ⊢;rcases hj with rfl|hj
  ·exact .inr (um k bc)
  ·exact .inr (h.down j k hj bc)
 ·intro j hj
  rw[getD_set_ne false aj];exact h.sT j hj
 ·intro t v pU
  by_cases q_:o.dst=some t
  ·rcases oW _ _ _ fo t v pU with ⟨j,hj,bc,rfl⟩|⟨x2,_⟩
   ·exact .cu _
   ·exact absurd (k9.trans q_) (x2 i (List.mem_range.2 ai))
  ·rw[yt t q_]
   exact h.slot t v pU
 ·intro j t hj hl aq bc
  have ei:j≠i:=λe=>by rw[e,jV] at aq;cases aq
  rw[yt t λah=>mC i j ai hj (Ne.symm ei) t (k9.trans ah) bc];exact h.OJ j t hj (((fg j).1 hl).resolve_left ei) aq bc
 ·intro j t hj hl aq bc
  by_cases ei:j=i
  ·subst ei
   rw[Act.sS _ _ _ _ (by rw[h.my];exact ck j t hj bc),aY (k9.symm.trans bc),aY rfl]
  ·rw[yt t λah=>mC i j ai hj (Ne.symm ei) t (k9.trans ah) bc,Bt ei]
   exact h.zJ j t hj (((fg j).1 hl).resolve_left ei) aq bc
 ·intro j hj hl aq
  by_cases ei:j=i
  ·subst ei
   rw[aY rfl];exact⟨jA,λb af=>Nat.le_trans h.low.size (aQ b af)⟩
  ·rw[Bt ei]
   obtain⟨q1,aH⟩:=h.ok j hj (((fg j).1 hl).resolve_left ei) aq;refine⟨(R j (ys j)).loc _ _ (λb o _ af=> ?_) q1,aH⟩;rw[show aG w' b=aG w b from mP.block b (Array.getElem?_eq_some_iff.1 af).1];exact af
 ·intro j k hj al cW hl vF aq iH b af jH
  have old:∀j,j<m->j≠i->(listed.setIfInBounds i true).getD j false=true->cq.contains j=true->(R j (ys j)).oB b->¬w.heap.size<=b:=λj hj ei hl aq af aw=>by
   have:=(R j (ys j)).gC _ (h.ok j hj (((fg j).1 hl).resolve_left ei) aq).1 b af;exact this (Array.getElem?_eq_none_iff.2 aw)
  by_cases ei:j=i
  ·have r3:k≠i:=λe=>cW (ei.trans e.symm)
   rw[Bt r3] at jH;rw[aY ei] at af;rw[ei] at af;exact old k al r3 vF iH jH (aQ b af)
  ·rw[Bt ei] at af
   by_cases r3:k=i
   ·rw[aY r3,r3] at jH
    exact old j hj ei hl aq af (aQ b jH)
   ·rw[Bt r3] at jH
    exact h.two j k hj al cW (((fg j).1 hl).resolve_left ei) (((fg k).1 vF).resolve_left r3) aq iH b af jH
end
theorem Here.know [a1] [cS] {N B:Nat} {s:b6} {w0 w:ax} {a:Act} {dN:aF} {d:Option Tmp} {v:J} (ah:Here N s B w0 a w) (hp:aM v=true) (aL:∀t,d=some t->a.tmps.getD t undef=aJ v) (fg:gZ N s.sl d v=some dN):Here N {s with sl:=dN} B w0 a w:=by
 obtain⟨⟨φ,ds,ad,ag,ay⟩,cE,cR⟩:=ah;refine⟨⟨φ,ds,ad,⟨ag.size,ag.defers,λt u hu=> ?_⟩,ay⟩,cE,cR⟩;cases d with
 |none=>cases fg;exact ag.get t u hu
 |some d=>
  have:=oW (N:=N) (ops:= #[{(default:Oper) with dst:=some d}]) (V:=λ_=>v) [0] s.sl dN (by
   unfold hR;rw[show fx #[{(default:Oper) with dst:=some d}] 0=some d from rfl,fg]
   rfl) t u hu
  rcases this with ⟨j,hj,bc,rfl⟩|⟨_,aA⟩
  ·rw[List.mem_singleton.1 hj] at bc
   rw[aL t bc];exact aD.vh φ u hp
  ·exact ag.get t u aA
theorem Here.OK [a1] [cS] {N B:Nat} {w0 w:ax} {a:Act} {ops:Array Oper} {ms:List Nat} {A:a6}:∀(dy:List (Nat×J)) (sl dN:aF),Here N {sl,ms,A} B w0 a w->(∀p∈dy,aM p.2=true/\∀t,fx ops p.1=some t->a.tmps.getD t undef=aJ p.2)->uE N ops dy sl=some dN->Here N {sl:=dN,ms,A} B w0 a w
 |[],sl,dN,ah,_,h=>by cases h;exact ah
 |p::r,sl,dN,ah,hp,h=>by
  unfold uE at h;split at h
  ·rename_i s1 aw
   obtain⟨ad,ag⟩:=hp p (by simp);exact Here.OK r s1 dN (Here.know ah ad ag aw) (λq bb=>hp q (by simp [bb])) h
  ·cases h
theorem agy [cS] {P:aR} {N B:Nat} {w0:ax} {Q:Exit->Act->ax->Prop} {M:Mem} {bq:List J} {Y:Type} {bj:Y->List J} {o:Option bY} {m:Nat} {dy:List (Nat×J)} {R:Nat->eD->cc} {rv:Nat->eD->J} {pr:Nat->Y->eD} {mk:(Nat->eD)->Y} {eb dI:aF} {aZ:List bu} {bL:eE}
  (cQ:P.follows .mixedOrders=true) (h:(FV P N m (dy.map (·.1)) o).isSome=true) (fz:(dy.map (·.1)).Nodup)
  (jV:∀i∈dy.map (·.1),∃op,(gP o)[i]? =some op/\ @w9 (aW M bq) P M B op (rm P N m (dy.map (·.1)) o i) (R i) (rv i))
  (sZ:∀ys j,j∈dy.map (·.1)->pr j (mk ys)=ys j) (dd:cp (FX P N m (dy.map (·.1)) o) eb aZ=some bL) (eL:uE N (gP o) dy eb=some dI) (fB:dy.all (λp=>aM p.2)=true)
  (b9:∀y M' p,p∈dy-> @aJ (aW M' (bj y)) p.2=rv p.1 (pr p.1 y)) (hm:∀y M',fP (aW M bq) (aW M' (bj y)) bL)
  (rest:∀y M',cV M [] M' (dy.map λp=>R p.1 (pr p.1 y))->∀a7 w,@Here (aW M' (bj y)) _ N {sl:=dI,ms:=[],A:=c6 aZ} B w0 a7 w->wpListIn (Fr none) 0 P (gP o) (dY P (gA o) Q) (yr m o) a7 w)
  (av:cS.eu<=aZ.length:=by first|exact Nat.zero_le _|exact gG rfl) (ar:iy (b7 o).A aZ 0:=by exact gX rfl): @fy (aW M bq) _ P N B w0 Q o:=by
 letI:=aW M bq;obtain⟨⟨dv,vs,FW⟩,bc⟩:=Option.isSome_iff_exists.1 h;have hd0:=bc;unfold FV at bc;split at bc
 ·rename_i id ops s ks
  cases af:(ui ops [] m N&&((List.range m).all λi=>match ops[i]? with|some o=>(needs ops m o).all λj=> !(dy.map (·.1)).contains j|none=>false)&&(dy.map (·.1)).all (λj=>Nat.blt j m)) with
  |false=>rw[af] at bc;cases bc
  |true=>
   rw[af,bD] at bc;simp only [c7] at af;obtain⟨⟨hI,OL⟩,ff⟩:=af;have ff:∀j∈dy.map (·.1),j<m:=λj hj=>Nat.blt_eq.mp (List.all_eq_true.1 ff j hj)
   obtain⟨zl,ou,mC,ck,rV,oX,vp⟩:=C1 hI;have OL:∀i o,i<m->ops[i]? =some o->∀j∈needs ops m o,(dy.map (·.1)).contains j=false:=λi o ai ho j hj=>by
    have:=List.all_eq_true.1 OL i (List.mem_range.2 ai);rw[ho] at this;simpa using List.all_eq_true.1 this j hj
   split at bc
   ·rename_i o2 fo
    split at bc
    ·rename_i cL od
     split at bc
     ·rename_i FY Dt
      simp only [cN,Prod.mk.injEq] at bc;obtain⟨rfl,rfl,rfl⟩:=bc;have OM:∀i o,i<m->ops[i]? =some o->(dy.map (·.1)).contains i=false->∃sl,hR N ops (λj=>(cL.take i).getD j cu) (needs ops m o) o2=some sl/\yq P (dH .nil sl) s.A o=some (cL.getD i cu):=by
       intro i o ai ho aq;have:=(WH _ 0 [] _ rfl od).2.2 i o (by rw[List.getElem?_take,aY ai];simpa using ho) (by rw[Nat.zero_add];exact aq);simpa using this
      refine⟨_,rfl,λa w ah=> ?_⟩;have bb:Here N s B w0 a {w with drawn:=w.drawn+1}:=ah.quiet ⟨⟨rfl,rfl,rfl,cj _,λ_ _=>rfl⟩,cj _⟩;refine wpIn_region_any cQ ?_;have yu:∀i o,M i=some o->({w with drawn:=w.drawn+1}:ax).heap[i]? =some o:=bb.nW;generalize ({w with drawn:=w.drawn+1}:ax)=ja at bb yu;obtain⟨⟨φ,ds,q1,aH,bW,et,gN⟩,j_,nB⟩:=bb;have wV:∀{o:Oper} {a:Act},o.guard=none->Region.wanted o (yielded ops a.tmps)=true:=λ{o a} aA=>by unfold Region.wanted;rw[aA]
      have w4:∀{w:ax},cg ja.heap.size ja w->∀b e,φ b=some e->w.heap[e.bk]? =ja.heap[e.bk]? :=λ{w} hl b e af=>by
       obtain⟨k,_,_,q⟩:=bW.eC b e af;exact hl.block e.bk (fT.lt q)
      have uo:∀{ys:Nat->eD} {listed:Array Bool} {a:Act} {w:ax},vE N ds ops m (dy.map (·.1)) cL o2 ja φ R rv ys listed a w->¬(∀i,i<m->listed.getD i false=true)->Region.ready .any ops listed≠[]/\∀i∈Region.ready .any ops listed,i<m/\listed.getD i false=false/\i<ops.size:=by
       intro ys listed a w bf lQ;obtain⟨i0,vl⟩:=Classical.not_forall.1 lQ;obtain⟨C',ra⟩:=Classical.not_imp.1 vl;have ra:listed.getD i0 false=false:=by simpa using ra
       refine⟨?_,λi ai=> ?_⟩
       ·have key:∀n i,i<n->i<m->listed.getD i false=false->∃k,k∈Region.ready .any ops listed:=by
         intro n
         induction n with
         |zero=>intro i ai;omega
         |succ n E8=>
          intro i ai mD E9;by_cases hp:∀k,direct ops i k=true->listed.getD k false=true
          ·refine⟨i,mem_ready.2 ⟨by rw[qA (by have:=bf.size;omega)];exact E9,ops[i]'(by omega),Array.getElem?_eq_getElem _,λe he af=>hp _ ?_⟩⟩
           have ho:ops[i]? =some (ops[i]'(by omega)):=Array.getElem?_eq_getElem _;simp only [direct,ho];exact Array.any_eq_true'.2 ⟨e,he,by simp [af]⟩
          ·obtain⟨k,al⟩:=Classical.not_forall.1 hp
           obtain⟨bc,x0⟩:=Classical.not_imp.1 al;have:=oX i k aj bc;exact E8 k aj aj (by simpa using x0)
        obtain⟨k,al⟩:=key (i0+1) i0 aj C' ra;intro h;rw[h] at al;cases al
       ·obtain⟨sY,o,ho,_⟩:=mem_ready.1 ai
        have k4:i<ops.size:=(Array.getElem?_eq_some_iff.1 ho).1;have uq:listed.getD i false=false:=by rw[<-qA (by have:=bf.size;omega)];exact sY
        refine⟨?_,uq,k4⟩;rcases Nat.lt_or_ge i m with h|h
        ·exact h
        ·exfalso
         rcases vp i i0 k4 h aj with ⟨x1,_⟩|ha
         ·cases x1
         ·have:=ha listed bf.down (qz ai)
          rw[ra] at this;cases this
      have tail:∀(bn:Nat) (listed:Array Bool) (a:Act) (w:ax) (ys:Nat->eD),vE N ds ops m (dy.map (·.1)) cL o2 ja φ R rv ys listed a w->q9 listed<=bn->(∀i,i<m->listed.getD i false=true)->wpAnyIn (Fr none) 0 P .any ops (dY P ks Q) bn listed a w:=by
       intro bn listed a w ys bf aQ lQ;refine Ni oX (λi j ai hj ei=>(vp i j ai aj ei).resolve_left aj) bn m listed a w (cj _) bf.size (λi=> ?_) aQ ?_
       ·by_cases ai:i<m
        ·rw[lQ i ai];simp;omega
        ·rw[bf.sT i aj];simp;omega
       ·obtain⟨t1,t2⟩:=Wg (B:=B) (M:=M) (S:=λ_=>False) (w:=ja) (w':=w) yu (λ_ h=>h.elim) ⟨bf.low.1.os,bf.low.1.tape,bf.low.1.output⟩ bf.low.size (λi ai _=>bf.low.block i ai)
        have x8:fD N ds φ FY a:=bf.DG (λj hj=>by
         obtain⟨ad,ag⟩:=List.mem_filter.1 hj
         exact⟨List.mem_range.1 ad,lQ j (List.mem_range.1 ad),by simpa using ag,rfl⟩) Dt
        have c1:FX P N m (dy.map (·.1)) (some (.draw id ops s ks))={s with sl:=FY}:=by
         unfold FX;rw[hd0];rfl
        have lS:Here N (FX P N m (dy.map (·.1)) (some (.draw id ops s ks))) B w0 a ja:=by
         rw[c1];exact⟨⟨φ,ds,q1,x8,bW,et,gN⟩,j_,nB⟩
        have hS:=Here.Om (vals':=bj (mk ys)) dd (hm (mk ys) _) t1 av (by rw[c1];exact ar) lS;have jW:cV M [] (yn B M ja w) (dy.map λp=>R p.1 (pr p.1 (mk ys))):=by
         have mQ:∀(i:Nat) (S:cc),(dy.map λp=>R p.1 (pr p.1 (mk ys)))[i]? =some S->∃p,dy[i]? =some p/\S=R p.1 (ys p.1):=λi S ai=>by
          rw[List.getElem?_map] at ai;obtain⟨p,hp,rfl⟩:=Option.map_eq_some_iff.1 ai;exact⟨p,hp,by rw[sZ ys p.1 (List.mem_map.2 ⟨p,List.mem_of_getElem? hp,rfl⟩)]⟩
         have lv:∀{i:Nat} {p:Nat×J},dy[i]? =some p->p.1∈dy.map (·.1):=λ{i p} hp=>List.mem_map.2 ⟨p,List.mem_of_getElem? hp,rfl⟩
         have WI:∀{i:Nat} {p:Nat×J},dy[i]? =some p->(R p.1 (ys p.1)).ok (aG w)/\∀b,(R p.1 (ys p.1)).oB b->ja.heap.size<=b:=λ{i p} hp=>bf.ok p.1 (ff _ (lv hp)) (lQ _ (ff _ (lv hp))) (by simpa using List.mem_of_getElem? hp |> λh=>(⟨p.2,h⟩:∃x,(p.1,x)∈dy))
         refine⟨⟨λi S ai=> ?_,λi j S T cW ai hj b af jH=> ?_⟩,λi o ai _=>t2 i o ai (λh=>h),λb af=> ?_⟩
         ·obtain⟨p,hp,rfl⟩:=mQ i S ai
          obtain⟨cO,dx⟩:=WI hp;refine(R p.1 (ys p.1)).loc _ _ (λb o af ho=> ?_) cO;rw[On (.inr (.inl (dx b af)))];exact ho
         ·obtain⟨p,hp,rfl⟩:=mQ i S ai
          obtain⟨hz,hp2,rfl⟩:=mQ j T hj;have agz:p.1≠hz.1:=λe=>cW (by
           have e1:(dy.map (·.1))[i]? =some p.1:=by rw[List.getElem?_map,hp];rfl
           have e2:(dy.map (·.1))[j]? =some p.1:=by rw[List.getElem?_map,hp2,e];rfl
           exact(List.getElem?_inj (List.getElem?_eq_some_iff.1 e1).1 fz).1 (e1.trans e2.symm))
          have hq:(dy.map (·.1)).contains p.1=true:=by simpa using (⟨p.2,List.mem_of_getElem? hp⟩:∃x,(p.1,x)∈dy)
          have c2:(dy.map (·.1)).contains hz.1=true:=by simpa using (⟨hz.2,List.mem_of_getElem? hp2⟩:∃x,(hz.1,x)∈dy)
          exact bf.two p.1 hz.1 (ff _ (lv hp)) (ff _ (lv hp2)) agz (lQ _ (ff _ (lv hp))) (lQ _ (ff _ (lv hp2))) hq c2 b af jH
         ·obtain⟨i,S,ai,af⟩:=af
          obtain⟨p,hp,rfl⟩:=mQ i S ai
          right
          cases J7:M b with
          |none=>rfl
          |some o=>
           have ad:=(Array.getElem?_eq_some_iff.1 (yu b o J7)).1;have ag:=(WI hp).2 b af;omega
        have al:∀p∈dy,aM p.2=true/\∀t,fx ops p.1=some t->a.tmps.getD t undef= @aJ (aW (yn B M ja w) (bj (mk ys))) p.2:=λp hp=>⟨List.all_eq_true.1 fB p hp,λt aL=>by
         have lv:p.1∈dy.map (·.1):=List.mem_map.2 ⟨p,hp,rfl⟩;rw[b9 (mk ys) _ p hp,sZ ys p.1 lv]
         exact bf.zJ p.1 t (ff _ lv) (lQ _ (ff _ lv)) (by simpa using (⟨p.2,hp⟩:∃x,(p.1,x)∈dy)) aL⟩
        exact rest (mk ys) _ jW a w (@Here.OK (aW (yn B M ja w) (bj (mk ys))) _ N B w0 w a ops [] (c6 aZ) dy eb dI hS al eL)
      have main:∀(bn:Nat) (listed:Array Bool) (a:Act) (w:ax) (ys:Nat->eD),vE N ds ops m (dy.map (·.1)) cL o2 ja φ R rv ys listed a w->q9 listed<=bn->wpAnyIn (Fr none) 0 P .any ops (dY P ks Q) bn listed a w:=by
       intro bn
       induction bn with
       |zero=>
        intro listed a w ys bf aQ;refine tail 0 listed a w ys bf aQ λi ai=> ?_
        cases h:listed.getD i false with
        |true=>rfl
        |false=>
         exfalso;have:=xW (i:=i) (listed:=listed) (by have:=bf.size;omega) (by rw[qA (by have:=bf.size;omega)];exact h);omega
       |succ bn cz=>
        intro listed a w ys bf aQ;by_cases lQ:∀i,i<m->listed.getD i false=true
        ·exact tail (bn+1) listed a w ys bf aQ lQ
        ·obtain⟨k7,x4⟩:=uo bf lQ
         refine⟨λh0=>absurd h0 k7,λi ai=> ?_⟩;obtain⟨mD,uq,k4⟩:=x4 i ai;have ho:ops[i]? =some ops[i]:=Array.getElem?_eq_getElem k4;have U4:=xW (i:=i) (listed:=listed) (by have:=bf.size;omega) (mem_ready.1 ai).1;have FZ:∀{V:Nat->J} {sl:aF},(∀j,j<i->V j=cL.getD j cu)->hR N ops V (needs ops m ops[i]) o2=some sl->fD N ds φ sl a:=λ{V sl} uh gI=>bf.DG (λj hj=>by
          have r4:=rV i _ mD ho j hj;have ei:=oX i j k4 r4
          exact⟨aj,qz ai j r4,OL i _ mD ho j hj,uh j ei⟩) gI
         unfold wpOpIn;simp only [ho];cases aq:(dy.map (·.1)).contains i with
         |false=>
          obtain⟨sl,gI,aC⟩:=OM i _ mD ho aq;have x8:=FZ (λj ei=>by simp only [dp,List.getElem?_take,aY ei]) gI;obtain⟨aB,g1,g2,g3,g4⟩:=WG (w2:=w) bW (w4 bf.low) (gV (iG φ) x8.get) aC;rw[aY (wV g3)];refine⟨λ_ _=>trivial,?_⟩;rw[Oper.semAt_eq _ _ _ g4,g1,Oper.uponIn_value];exact cz _ _ w ys (bf.agw fo mD zl ho aq (qz ai) mC ck g2) aj
         |true=>
          have mQ:i∈dy.map (·.1):=by simpa using aq
          obtain⟨op,cy,aA,F1⟩:=jV i mQ;have F6:op=ops[i]:=by
           have e:(gP (some (.draw id ops s ks)))[i]? =ops[i]? :=rfl;rw[e,ho] at cy;exact(Option.some.inj cy).symm
          subst F6;rw[aY (wV aA)];refine F1 a w _ _ (λx lf=> ?_) (λb o af=> ?_) (Nat.le_trans nB bf.low.size) λy w' cO dx gh=> ?_
          ·cases p5:hR N ops (λj=>cL.getD j cu) (needs ops m ops[i]) o2 with
           |some sl=>
            have e:rm P N m (dy.map (·.1)) (some (.draw id ops s ks)) i=sl:=by
             unfold rm;rw[hd0,show (gP (some (.draw id ops s ks)))[i]? =some ops[i] from ho];show (match hR N ops (λj=>cL.getD j cu) (needs ops m ops[i]) o2 with|some sl=>sl|none=> .nil)=sl;rw[p5]
            rw[e] at lf ⊢;exact aD.ji _ lf (gV (iG φ) (FZ (λ_ _=>rfl) p5).get x)
           |none=>
            have e:rm P N m (dy.map (·.1)) (some (.draw id ops s ks)) i= .nil:=by
             unfold rm;rw[hd0,show (gP (some (.draw id ops s ks)))[i]? =some ops[i] from ho];show (match hR N ops (λj=>cL.getD j cu) (needs ops m ops[i]) o2 with|some sl=>sl|none=> .nil)= .nil;rw[p5]
            rw[e] at lf ⊢;exact aD.ji (φ:=φ) _ lf (gV (iG φ) (λt v h=>by cases h) x)
          ·have ad:=yu b o af
           rw[bf.low.block b (Array.getElem?_eq_some_iff.1 ad).1];exact ad
          ·exact cz _ _ w' _ (bf.agx fo mD zl ho aq uq (qz ai) mC ck cO dx gh) aj
      have aQ:∀i,(Array.replicate ops.size false).getD i false=false:=λi=>by
       rw[fh,Array.getElem?_replicate];split<;>rfl
      refine main ops.size _ a ja (λ_=>(none,0)) ⟨by simp,λi j ai=>absurd ai (by rw[aQ];simp),λi _=>aQ i,⟨⟨rfl,rfl,rfl,cj _,λ_ _=>rfl⟩,cj _⟩,aH.defers,aH.size,λt v aC=> ?_,λj t _ hl=>absurd hl (by rw[aQ];simp),λj t _ hl=>absurd hl (by rw[aQ];simp),λj _ hl=>absurd hl (by rw[aQ];simp),λi j _ _ _ hl=>absurd hl (by rw[aQ];simp)⟩ ?_
      ·rcases oW _ _ _ fo t v aC with ⟨j,hj,bc,rfl⟩|⟨_,aA⟩
       ·exact .cu _
       ·exact aH.get t v aA
      ·unfold q9
       exact Nat.le_trans List.count_le_length (by simp)
     ·cases bc
    ·cases bc
   ·cases bc
 ·cases bc
end AE
namespace AE
def F7 (P:aR) (N m:Nat) (cq:List Nat) (o:Option bY) (i:Nat):Option (FuncId×List J):=
 match (gP o)[i]? with
 |some op=>match op.guard,op.op with
  |none,.call c=>match c.callee with
   | .value (.func f)=>bif enters P f then some (f,c.args.toList.map (dH .nil (rm P N m cq o i))) else none
   |_=>none
  |_,_=>none
 |none=>none
def J8 (P:aR) (N m:Nat) (cq:List Nat) (o:Option bY) (i:Nat):Option (aK×J):=
 match (gP o)[i]? with
 |some op=>match op.guard,op.op with
  |none,.makeSlice t tf vD=>bif gj (dH .nil (rm P N m cq o i) tf) (dH .nil (rm P N m cq o i) vD) then some (t,dH .nil (rm P N m cq o i) tf) else none
  |_,_=>none
 |none=>none
theorem ON [a1] {sl:aF} {a:Act} (oY:∀x:Operand,aM (dH .nil sl x)=true->a.eval x=aJ (dH .nil sl x)):∀(l:List Operand),dL (l.map (dH .nil sl))=true->l.map a.eval=eo (l.map (dH .nil sl))
 |[],_=>rfl
 |x::l,h=>by
  simp only [List.map_cons,dL,c7] at h;simp only [List.map_cons,eo];rw[oY x h.1,ON oY l h.2]
theorem w9.arr [a1] {α:Type} {P:aR} {M:Mem} {B N m:Nat} {cq:List Nat} {o:Option bY} {i:Nat} {f:FuncId} {args:List J} {e:aK} {k:Nat} {enc:α->List J} {l:List α} {F:J->J} (h:F7 P N m cq o i=some (f,args)) (hp:dL args=true)
  (fA:∀w,(∀i o,M i=some o->w.heap[i]? =some o)->B<=w.heap.size->Calls P f ⟨eo args⟩ w λe' w'=>(∃a c,e'= .returned (F (.slice a l.length c))/\dw w.heap.size (aG w') e k enc (.slice a l.length c) l)/\cg w.heap.size w w'):
  ∃op,(gP o)[i]? =some op/\w9 P M B op (rm P N m cq o i) (λy=>ht e k enc (.slice y.1 l.length y.2) l) (λy=>F (.slice y.1 l.length y.2)):=by
 unfold F7 at h;split at h
 ·rename_i op cy
  split at h
  ·rename_i c aA vG
   split at h
   ·rename_i ij pS
    cases he:enters P ij with
    |false=>rw[he] at h;cases h
    |true=>
     rw[he,bD] at h;simp only [cN,Prod.mk.injEq] at h;obtain⟨rfl,rfl⟩:=h;refine⟨op,cy,aA,λa w K Q oY bt cT cv=> ?_⟩;have gK:c.args.map a.eval=⟨eo (c.args.toList.map (dH .nil (rm P N m cq o i)))⟩:=by
      have:=ON oY c.args.toList hp;rw[<-this];apply Array.ext';simp
     have fw:(execOp a.eval op).run P w= .ok (.enter ij ⟨eo (c.args.toList.map (dH .nil (rm P N m cq o i)))⟩) w:=by
      unfold execOp;rw[vG];simp only;refine c4 (a:={target:= .fn (.func ij) #[],args:= #[]++c.args.map a.eval}) (by unfold resolve;rw[pS];rfl) ?_;simp only [Array.empty_append,gK];show (callFunc ij (_++ #[])).run P w=_;rw[Array.append_empty];exact jz (EY he _) w
     have fz:∀c',op.op≠.defer c':=λc' h=>by rw[vG] at h;cases h
     refine⟨λ_ _=>trivial,?_⟩;rw[Oper.semAt_eq _ _ _ fz,fw,Oper.uponIn_enter];refine⟨λh=>absurd h (by simp [Fr,Fence.wide]),?_⟩;refine CallsIn.mono (CY (fA w bt cT)) λe' w2 he=> ?_
     obtain⟨⟨hc,sd,rfl,cM⟩,hl⟩:=he;exact cv (hc,sd) w2 (sc cM) (λb af=>(cM.known b af).2) hl
   ·cases h
  ·cases h
 ·cases h
theorem w9.WJ [a1] {α:Type} {P:aR} {M:Mem} {B N m:Nat} {cq:List Nat} {o:Option bY} {i:Nat} {t e:aK} {k n bytes:Nat} {F8:TypeInfo} {z x:J} {enc:α->List J} {zr:α} {l':List α} (fL:l'=List.replicate n zr) (h:J8 P N m cq o i=some (t,x))
  (aL:P.underlying t=some (.slice e)) (ai:P.info? e=some F8) (bU:F8.zero=some z) (gL:F8.size=k) (jU:F8.bytes=bytes) (qu:z.cells.toList=enc zr) (al:∀x,(enc x).length=k) (aq:aM x=true) (ex:aJ x= .int .i64 (n:Nat)) (agb:n<=1000000) (lN:n*bytes<=140737488355328) (ki:n*k<=16777216):
  ∃op,(gP o)[i]? =some op/\w9 P M B op (rm P N m cq o i) (λy=>ht e k enc (.slice y.1 l'.length y.2) l') (λy=> .slice y.1 l'.length y.2):=by
 subst fL;unfold J8 at h;split at h
 ·rename_i op cy
  split at h
  ·rename_i dt tf vD aA vG
   cases heq:gj (dH .nil (rm P N m cq o i) tf) (dH .nil (rm P N m cq o i) vD) with
   |false=>rw[heq] at h;cases h
   |true=>
    rw[heq,bD] at h;have w6:=hJ _ _ heq;cases h;refine⟨op,cy,aA,λa w K Q oY bt cT cv=> ?_⟩;have o0:a.eval tf= .int .i64 (n:Nat):=(oY tf aq).trans ex;have OD:a.eval vD= .int .i64 (n:Nat):=(oY vD (by rw[<-w6];exact aq)).trans (by rw[<-w6];exact ex);subst jU;obtain⟨w',g1,g2,g3⟩:=run_makeSlice_full (P:=P) w w.heap.size t e F8 z k aL ai bU gL .i64 .i64 n ki (by rw[Nat.mul_comm];omega) (by simp [maxLen];omega) (cj _);have fw:(execOp a.eval op).run P w= .ok (.value (.slice (some ⟨w.heap.size,0,none⟩) n n)) w':=by
     unfold execOp;rw[vG];simp only [o0,OD];show (do pure (Next.value (<-Instr.makeSlice t (.int .i64 (n:Nat)) (.int .i64 (n:Nat)))):Sem Next).run P w=_;simp only [Sem.run_bind,g1,Result.andThen_ok];rfl
    have fz:∀c',op.op≠.defer c':=λc' h=>by rw[vG] at h;cases h
    refine⟨λ_ _=>trivial,?_⟩;rw[Oper.semAt_eq _ _ _ fz,fw,Oper.uponIn_value];rw[Wx al qu] at g2;have hlen:(List.replicate n zr).length=n:=mw;have cM:dw w.heap.size (aG w') e k enc (.slice (some ⟨w.heap.size,0,none⟩) (List.replicate n zr).length n) (List.replicate n zr):=dw.N2 (w:=w') (by rw[hlen];exact g2);have:=cv (some ⟨w.heap.size,0,none⟩,n) w' (sc cM) (λb af=>(cM.known b af).2) ⟨⟨g3.os,g3.tape,g3.output,g3.size,λi ai=>g3.block i ai (by simp)⟩,cj _⟩;rw[hlen] at this;exact this
  ·cases h
 ·cases h
theorem OO {α:Type} {p:α->Prop}:∀x,x∈([]:List α)->p x:=λ_ h=>by cases h
theorem rn {α:Type} {p:α->Prop} {y:α} {l:List α} (h:p y) (hl:∀x,x∈l->p x):∀x,x∈y::l->p x:=λx aq=>by
 rcases List.mem_cons.1 aq with rfl|aq
 ·exact h
 ·exact hl x aq
end AE
namespace AE
def eG (l:List cU) (cell:Int):cU:=if 0<=cell/\cell<l.length then l.getD cell.toNat default else ([],false,false,false,16,0,0,0)
theorem WK {l:List cU} {cell:Int} (h0:0<=cell) (ad:cell<l.length):eG l cell=l.getD cell.toNat default:=by unfold eG;rw[aY ⟨h0,ad⟩]
theorem J9 {l:List cU} {cell:Int} (h:¬(0<=cell/\cell<l.length)):eG l cell=([],false,false,false,16,0,0,0):=by unfold eG;rw[a' h]
def n1 (l:List cU):Prop:=l.length<=300/\∀x∈l,x.1.length<=60
instance (l:List cU):Decidable (n1 l):=by unfold n1;infer_instance
theorem agA {l:List cU} {i:Nat} (h:i<l.length):l.getD i default∈l:=by
 rw[dp,f_ h];exact List.getElem_mem h
theorem agB {l:List cU} {x:cU} (h:x∈l):∃i,i<l.length/\l.getD i default=x:=by
 obtain⟨i,ai,rfl⟩:=List.mem_iff_getElem.1 h;exact⟨i,ai,by rw[dp,f_ ai];rfl⟩
theorem OP {l:List cU} (h:300<l.length):¬n1 l:=λaQ=>by have:=aQ.1;omega
theorem OQ {l:List cU} {i:Nat} (ai:i<l.length) (h:60<(l.getD i default).1.length):¬n1 l:=λaQ=>by have:=aQ.2 _ (agA ai);omega
theorem OR {l:List cU} (h:l.length<=300) (ag:∀j,j<l.length->(l.getD j default).1.length<=60):n1 l:=⟨h,λx aq=>by
 obtain⟨i,ai,rfl⟩:=agB aq
 exact ag i ai⟩
end AE
end Go.Proofs.YtepcfjbfkedlpaaDoor
namespace Go.Proofs.YtepcfjbfkedlpaaDoor
section
namespace AE
structure oC where
 N:Nat
 sg:Nat->List (Nat×Int)
 top:Nat->Bool
 aL:Nat->Nat
 si:∀k n d,k<N->(n,d)∈sg k->n<N
 WL:∀k n d,k<N->(n,d)∈sg k->n≠k
 OS:∀k n d,k<N->(n,d)∈sg k->(k,-d)∈sg n
 WM:∀k n d,k<N->(n,d)∈sg k->0<d->aL n<aL k
 WN:∀k,(sg k).length<=6
def given (gD f:Int) (c:Nat) (up:Bool):Int:=if up=true/\c=3/\gD=15/\f=1 then 15 else max 0 (gD-f)
theorem agC (gD f:Int) (c:Nat) (up:Bool):0<=given gD f c up:=by
 unfold given;split<;>omega
theorem OT {a b f:Int} (c:Nat) (up:Bool) (h:a<=b) (_:1<=f):given a f c up<=given b f c up:=by
 unfold given;split
 ·rename_i ad
  obtain⟨ag,ay,bG,cE⟩:=ad;split
  ·omega
  ·rename_i cR
   have:¬b=15:=λe=>cR ⟨ag,ay,e,cE⟩
   omega
 ·split
  ·rename_i ad cR
   obtain⟨ag,ay,bG,cE⟩:=cR;omega
  ·omega
theorem WO {a f:Int} (c:Nat) (up:Bool) (h:a<=15) (aQ:1<=f):given a f c up<=15:=by
 unfold given;split<;>omega
theorem WQ {f:Int} (c:Nat) (up:Bool) (aQ:1<=f):given 0 f c up=0:=by
 unfold given;rw[a' (λh=>by omega)];omega
theorem agD {a f:Int} {c:Nat} {up:Bool} (aQ:1<=f) (ha:a<=15) (h:0<given a f c up):given a f c up<a\/(given a f c up=a/\a=15/\up=true):=by
 unfold given at*
 split
 ·rename_i ad
  exact .inr ⟨aj,ad.2.2.1,ad.1⟩
 ·rename_i ad
  rw[a' ad] at h;omega
structure hg where
 j3:Nat->Int
 emit:Nat->Nat->Int
 b8:Nat->Bool
abbrev mi:=Nat->Nat->Int
variable {G:oC}
def uF (G:oC) (S:hg) (k c:Nat):Int:=if c=3 then (if G.top k=true then given 15 (S.j3 k) 3 true else 0) else S.emit k c
def lE (G:oC) (S:hg) (k:Nat):List (Nat×Int):=(G.sg k).filter λp=>S.b8 p.1
def rule (G:oC) (S:hg) (L:mi) (k c:Nat):Int:=
 if S.b8 k=true then (lE G S k).foldl (λa p=>max a (given (L p.1 c) (S.j3 k) c (decide (0<p.2)))) (uF G S k c) else 0
theorem OU {α:Type} (f:α->Int):∀(l:List α) (a v:Int),l.foldl (λa p=>max a (f p)) a<=v↔a<=v/\∀p∈l,f p<=v
 |[],a,v=>by simp
 |x::l,a,v=>by
  rw[List.foldl_cons,OU f l];simp only [List.mem_cons,forall_eq_or_imp];constructor
  ·rintro ⟨ad,ag⟩
   exact⟨aj,aj,ag⟩
  ·rintro ⟨ad,ag,ay⟩
   exact⟨aj,ay⟩
theorem WR {α:Type} (f:α->Int):∀(l:List α) (a:Int),l.foldl (λa p=>max a (f p)) a=a\/∃p∈l,l.foldl (λa p=>max a (f p)) a=f p
 |[],a=> .inl rfl
 |x::l,a=>by
  rw[List.foldl_cons];rcases WR f l (max a (f x)) with h|⟨p,hp,h⟩
  ·rw[h]
   rcases Int.le_total a (f x) with ad|ad
   ·exact .inr ⟨x,by simp,aj⟩
   ·exact .inl aj
  ·exact .inr ⟨p,by simp [hp],h⟩
theorem vH {S:hg} {k n:Nat} {d:Int}:(n,d)∈lE G S k↔(n,d)∈G.sg k/\S.b8 n=true:=by
 unfold lE;simp [List.mem_filter]
theorem rp {S:hg} {L:mi} {k c:Nat} {v:Int} (h0:0<=v):
  rule G S L k c<=v↔(S.b8 k=true->uF G S k c<=v/\∀n d,(n,d)∈G.sg k->S.b8 n=true->given (L n c) (S.j3 k) c (decide (0<d))<=v):=by
 unfold rule;split
 ·rename_i aw
  rw[OU];constructor
  ·rintro ⟨ad,ag⟩ _
   exact⟨ad,λn d av bc=>ag (n,d) (vH.2 ⟨av,bc⟩)⟩
  ·intro h
   obtain⟨ad,ag⟩:=h aw;exact⟨ad,λp hp=>ag p.1 p.2 (vH.1 hp).1 (vH.1 hp).2⟩
 ·rename_i aw
  exact⟨λ_ h=>absurd h aw,λ_=>h0⟩
structure hg.lg (S:hg) (N:Nat):Prop where
 j3:∀k,k<N->1<=S.j3 k
 emit:∀k c,k<N->c<3->0<=S.emit k c/\S.emit k c<=15
theorem WS {S:hg} (aI:S.lg G.N) {k c:Nat} (al:k<G.N) (ar:c<4):0<=uF G S k c/\uF G S k c<=15:=by
 unfold uF;split
 ·split
  ·exact⟨agC _ _ _ _,WO _ _ aj (aI.j3 k al)⟩
  ·omega
 ·exact aI.emit k c al aj
theorem zK {S:hg} (aI:S.lg G.N) {L:mi} {k c:Nat} (al:k<G.N) (ar:c<4):0<=rule G S L k c:=by
 by_cases aw:S.b8 k=true
 ·have ad:=(rp (G:=G) (S:=S) (L:=L) (k:=k) (c:=c) (v:=max 0 (rule G S L k c)) aj).1 aj aw
  have ag:=(WS aI al ar).1;by_cases ay:0<=rule G S L k c
  ·exact ay
  ·unfold rule at*
   rw[aY aw] at*
   have bG:=(OU (λp:Nat×Int=>given (L p.1 c) (S.j3 k) c (decide (0<p.2))) (lE G S k) (uF G S k c) _).1 (Int.le_refl _);omega
 ·unfold rule
  rw[a' aw];exact Int.le_refl _
theorem agE {S:hg} {L:mi} {k c:Nat} (aw:S.b8 k=true):rule G S L k c=uF G S k c\/∃n d,(n,d)∈G.sg k/\S.b8 n=true/\rule G S L k c=given (L n c) (S.j3 k) c (decide (0<d)):=by
 unfold rule;rw[aY aw];rcases WR (λp:Nat×Int=>given (L p.1 c) (S.j3 k) c (decide (0<p.2))) (lE G S k) (uF G S k c) with h|⟨p,hp,h⟩
 ·exact .inl h
 ·exact .inr ⟨p.1,p.2,(vH.1 hp).1,(vH.1 hp).2,h⟩
theorem WT {S:hg} (aI:S.lg G.N) {L:mi} {k c:Nat} (al:k<G.N) (ar:c<4) (hL:∀n,n<G.N->L n c<=15):rule G S L k c<=15:=
 (rp aj).2 λ_=>⟨(WS aI al ar).2,λn _ av _=>WO _ _ (hL n (G.si _ _ _ al av)) (aI.j3 k al)⟩
theorem WU {S:hg} (aI:S.lg G.N) {L P:mi} {k c:Nat} (al:k<G.N) (ar:c<4) (h:∀n,n<G.N->L n c<=P n c):rule G S L k c<=rule G S P k c:=by
 refine(rp (zK aI al ar)).2 λaw=> ?_
 obtain⟨ad,ag⟩:=(rp (G:=G) (S:=S) (L:=P) (k:=k) (c:=c) (zK aI al ar)).1 (Int.le_refl _) aw;exact⟨ad,λn d av bc=>Int.le_trans (OT _ _ (h n (G.si _ _ _ al av)) (aI.j3 k al)) (ag n d av bc)⟩
def F9 (G:oC) (S:hg) (P:mi):Prop:=∀k c,k<G.N->c<4->rule G S P k c<=P k c
structure uG (G:oC) (S:hg) (L:mi):Prop where
 fixed:∀k c,k<G.N->c<4->rule G S L k c=L k c
 least:∀P,F9 G S P->∀k c,k<G.N->c<4->L k c<=P k c
theorem uG.unique {S:hg} {L M:mi} (h:uG G S L) (g:uG G S M):∀k c,k<G.N->c<4->L k c=M k c:=λk c al ar=>
 Int.le_antisymm (h.least M (λk c al ar=>Int.le_of_eq (g.fixed k c al ar)) k c al ar) (g.least L (λk c al ar=>Int.le_of_eq (h.fixed k c al ar)) k c al ar)
theorem agF {S:hg} (aI:S.lg G.N) {L:mi} (ad:F9 G S L) (ag:∀P,F9 G S P->∀k c,k<G.N->c<4->L k c<=P k c):uG G S L:=by
 refine⟨λk c al ar=>Int.le_antisymm (ad k c al ar) ?_,ag⟩;have hp:F9 G S (rule G S L):=λk c al ar=>WU aI al ar λn av=>ad n c av ar
 exact ag _ hp k c al ar
structure pB (G:oC) (S:hg) (L:mi) (W:Nat->Prop):Prop where
 low:∀P,F9 G S P->∀k c,k<G.N->c<4->L k c<=P k c
 bound:∀k c,k<G.N->c<4->0<=L k c/\L k c<=15
 done:∀k c,k<G.N->c<4->¬W k->rule G S L k c<=L k c
theorem pB.full {S:hg} (aI:S.lg G.N) {L:mi} {W:Nat->Prop} (h:pB G S L W) (pA:∀k,k<G.N->¬W k):uG G S L:=
 agF aI (λk c al ar=>h.done k c al ar (pA k al)) h.low
theorem uG.up {S:hg} {L:mi} (h:uG G S L) (af:∀k c,k<G.N->c<4->0<=L k c/\L k c<=15) (W:Nat->Prop):pB G S L W:=
 ⟨h.least,af,λk c al ar _=>Int.le_of_eq (h.fixed k c al ar)⟩
theorem pB.zero {S:hg} (aI:S.lg G.N) {W:Nat->Prop} (pA:∀k,k<G.N->W k):pB G S (λ_ _=>0) W where
 low P fo k c al ar:=Int.le_trans (zK aI al ar) (fo k c al ar)
 bound _ _ _ _:=by omega
 done k _ al _ av:=absurd (pA k al) av
def raised (G:oC) (S:hg) (L:mi) (k:Nat):mi:=λm c=>if m=k then max (rule G S L k c) (L k c) else L m c
theorem pB.J' {S:hg} (aI:S.lg G.N) {L:mi} {W W':Nat->Prop} {k:Nat} (al:k<G.N) (h:pB G S L W)
  (agG:∀m,m≠k->W m->W' m) (agH:(∃c,c<4/\L k c<rule G S L k c)->∀n d,(n,d)∈G.sg k->S.b8 n=true->W' n):pB G S (raised G S L k) W' where
 low P fo m c hm ar:=by
  unfold raised;split
  ·rename_i e
   subst e;have:=WU aI (c:=c) (L:=L) (P:=P) hm ar λn av=>h.low P fo n c av ar
   have:=fo m c hm ar;have:=h.low P fo m c hm ar;omega
  ·exact h.low P fo m c hm ar
 bound m c hm ar:=by
  unfold raised;split
  ·rename_i e
   subst e;have ad:=h.bound m c hm ar;have ag:=WT aI (c:=c) (L:=L) hm ar λn av=>(h.bound n c av ar).2
   omega
  ·exact h.bound m c hm ar
 done m c hm ar av:=by
  by_cases sZ:m=k
  ·subst sZ
   have ad:rule G S (raised G S L m) m c=rule G S L m c:=by
    have aq:∀n d,(n,d)∈G.sg m->raised G S L m n c=L n c:=λn d fz=>by
     unfold raised;rw[a' (G.WL m n d hm fz)]
    refine Int.le_antisymm ?_ ?_
    ·refine(rp (zK aI hm ar)).2 λaw=> ?_
     obtain⟨ad,ag⟩:=(rp (G:=G) (S:=S) (L:=L) (k:=m) (c:=c) (zK aI hm ar)).1 (Int.le_refl _) aw;exact⟨ad,λn d fz bc=>by rw[aq n d fz];exact ag n d fz bc⟩
    ·refine(rp (zK aI hm ar)).2 λaw=> ?_
     obtain⟨ad,ag⟩:=(rp (G:=G) (S:=S) (L:=raised G S L m) (k:=m) (c:=c) (zK aI hm ar)).1 (Int.le_refl _) aw;exact⟨ad,λn d fz bc=>by rw[<-aq n d fz];exact ag n d fz bc⟩
   rw[ad];unfold raised;rw[aY rfl];omega
  ·have OV:¬W m:=λhw=>av (agG m sZ hw)
   have h0:=h.done m c hm ar OV;have ao:raised G S L k m c=L m c:=by unfold raised;rw[a' sZ]
   rw[ao];refine(rp (h.bound m c hm ar).1).2 λaw=> ?_
   obtain⟨ad,ag⟩:=(rp (h.bound m c hm ar).1).1 h0 aw;refine⟨ad,λn d fz bc=> ?_⟩;unfold raised;split
   ·rename_i e
    subst e;by_cases J_:L n c<rule G S L n c
    ·exfalso
     have agI:=G.OS m n d hm fz;exact av (agH ⟨c,ar,J_⟩ m (-d) agI aw)
    ·rw[show max (rule G S L n c) (L n c)=L n c by omega]
     exact ag n d fz bc
   ·exact ag n d fz bc
end AE
namespace AE
abbrev bO:=Int×Int×Int×Int
def cl (x:bO):Nat->Int
 |0=>x.1
 |1=>x.2.1
 |2=>x.2.2.1
 |_=>x.2.2.2
def rq (f:Nat->Int):bO:=(f 0,f 1,f 2,f 3)
theorem iU {f:Nat->Int} {c:Nat} (ar:c<4):cl (rq f) c=f c:=by
 match c,ar with
 |0,_=>rfl
 |1,_=>rfl
 |2,_=>rfl
 |3,_=>rfl
theorem bO.ext' {x y:bO} (h:∀c,c<4->cl x c=cl y c):x=y:=by
 obtain⟨a,b,c,d⟩:=x;obtain⟨a7,b',c',oi⟩:=y;have h0:a=a7:=h 0 cB;have ad:b=b':=h 1 cB;have ag:c=c':=h 2 cB;have ay:d=oi:=h 3 cB;rw[h0,ad,ag,ay]
abbrev z4:bO:=(0,0,0,0)
theorem F' (c:Nat):cl z4 c=0:=by
 match c with
 |0=>rfl
 |1=>rfl
 |2=>rfl
 |_+3=>rfl
def dF (l:List bO):mi:=λk c=>cl (l.getD k z4) c
theorem WV {l:List bO} {k m c:Nat} {x:bO} (al:k<l.length):dF (l.set k x) m c=if m=k then cl x c else dF l m c:=by
 unfold dF;rw[dp,dp,List.getElem?_set];by_cases h:k=m
 ·subst h
  rw[aY rfl,aY al,aY rfl];rfl
 ·rw[a' h,a' (λe=>h e.symm)]
structure gb where
 aE:List bO
 bH:List (Nat×bO)
 gone:List Nat
 bw:List Nat
 waits:List Bool
def vI (old x:bO):bO:=rq λc=>if 0<cl old c then 0 else cl x c
def jr (w:gb) (k:Nat) (old:bO):gb:={w with bH:=w.bH++[(k,old)],gone:=w.gone++[k],aE:=w.aE.set k (vI old (w.aE.getD k z4))}
def pC (S:hg) (old x:bO) (p:Nat×Int):bO:=rq λc=>if 0<cl old c/\0<cl x c/\cl x c=given (cl old c) (S.j3 p.1) c (decide (p.2<0)) then cl x c else 0
def hh (S:hg) (old:bO) (w:gb) (p:Nat×Int):gb:=if pC S old (w.aE.getD p.1 z4) p=z4 then w else jr w p.1 (pC S old (w.aE.getD p.1 z4) p)
variable {G:oC}
def DJ (G:oC) (S:hg) (ca L:mi) (m c:Nat) (rest:List (Nat×Int)):Prop:=∀n d,(n,d)∈G.sg m->S.b8 n=true->(n,d)∈rest\/L n c=0\/L n c≠given (ca m c) (S.j3 n) c (decide (d<0))
structure p8 (G:oC) (jC S:hg) (ca:mi) (ey:Nat) (cur:Nat×bO) (rest:List (Nat×Int)) (w:gb):Prop where
 len:w.aE.length=G.N
 full:uG G jC ca
 bound:∀k c,k<G.N->c<4->0<=ca k c/\ca k c<=15
 same:∀n,n≠ey->S.j3 n=jC.j3 n/\(∀c,S.emit n c=jC.emit n c)/\S.b8 n=jC.b8 n
 two:∀k c,k<G.N->c<4->dF w.aE k c=0\/dF w.aE k c=ca k c
 DK:∀c,c<4->dF w.aE ey c=0
 zL:∀m c,m<G.N->c<4->dF w.aE m c≠ca m c->(∃x∈w.bH,x.1=m/\cl x.2 c=ca m c)\/DJ G S ca (dF w.aE) m c []\/(m=cur.1/\cl cur.2 c=ca m c/\DJ G S ca (dF w.aE) m c rest)
 lost:∀x∈w.bH,x.1<G.N
 gone:∀m,m<G.N->((∃c,c<4/\dF w.aE m c≠ca m c)\/m=ey)->m∈w.gone
 DL:∀m∈w.gone,m<G.N
theorem DJ.mono {S:hg} {ca L L':mi} {m c:Nat} {r ek:List (Nat×Int)} (hm:m<G.N) (h:DJ G S ca L m c r) (ao:∀p∈r,p∈ek) (hL:∀n,n<G.N->L' n c=0\/L' n c=L n c):DJ G S ca L' m c ek:=λn d av aw=>by
 rcases h n d av aw with ad|ad|ad
 ·exact .inl (ao _ ad)
 ·rcases hL n (G.si _ _ _ hm av) with ag|ag
  ·exact .inr (.inl ag)
  ·exact .inr (.inl (by rw[ag,ad]))
 ·rcases hL n (G.si _ _ _ hm av) with ag|ag
  ·exact .inr (.inl ag)
  ·exact .inr (.inr (by rw[ag];exact ad))
theorem OW {w:gb} {k m c:Nat} {old:bO} (al:k<w.aE.length) (ar:c<4):dF (jr w k old).aE m c=if m=k/\0<cl old c then 0 else dF w.aE m c:=by
 unfold jr;rw[WV al];by_cases h:m=k
 ·subst h
  rw[aY rfl];unfold vI;rw[iU ar];by_cases ag:0<cl old c
  ·rw[aY ag,aY ⟨rfl,ag⟩]
  ·rw[a' ag,a' (λh=>ag h.2)]
   rfl
 ·rw[a' h,a' (λe=>h e.1)]
theorem p8.step {jC S:hg} {ca:mi} {ey:Nat} {cur:Nat×bO} {p:Nat×Int} {rest:List (Nat×Int)} {w:gb} (Bu:cur.1<G.N) (hp:p∈lE G S cur.1) (h:p8 G jC S ca ey cur (p::rest) w):p8 G jC S ca ey cur rest (hh S cur.2 w p):=by
 obtain⟨n,d⟩:=p;obtain⟨AD,AH⟩:=vH.1 hp;have av:n<G.N:=G.si _ _ _ Bu AD;have jl:n<w.aE.length:=by rw[h.len];exact av
 have tU:∀k c,k<G.N->c<4->0<=dF w.aE k c:=λk c al ar=>by
  rcases h.two k c al ar with e|e
  ·omega
  ·rw[e];exact(h.bound k c al ar).1
 have nT:∀m c,c<4->dF (hh S cur.2 w (n,d)).aE m c=if m=n/\0<cl cur.2 c/\0<dF w.aE n c/\dF w.aE n c=given (cl cur.2 c) (S.j3 n) c (decide (d<0)) then 0 else dF w.aE m c:=λm c ar=>by
  unfold hh;have zM:cl (pC S cur.2 (w.aE.getD n z4) (n,d)) c=if 0<cl cur.2 c/\0<dF w.aE n c/\dF w.aE n c=given (cl cur.2 c) (S.j3 n) c (decide (d<0)) then dF w.aE n c else 0:=by
   unfold pC;rw[iU ar];rfl
  split
  ·rename_i bU
   have jT:cl (pC S cur.2 (w.aE.getD n z4) (n,d)) c=0:=by rw[bU,F']
   rw[zM] at jT;split
   ·rename_i ag
    rw[aY ag.2] at jT;rw[ag.1,jT]
   ·rfl
  ·rw[OW jl ar,zM]
   by_cases ag:0<cl cur.2 c/\0<dF w.aE n c/\dF w.aE n c=given (cl cur.2 c) (S.j3 n) c (decide (d<0))
   ·rw[aY ag]
    by_cases ay:m=n
    ·rw[aY ⟨ay,ag.2.1⟩,aY ⟨ay,ag⟩]
    ·rw[a' (λe=>ay e.1),a' (λe=>ay e.1)]
   ·rw[a' ag,a' (λe=>by omega),a' (λe=>ag e.2)]
 have OX:∀m c,c<4->dF (hh S cur.2 w (n,d)).aE m c=0\/dF (hh S cur.2 w (n,d)).aE m c=dF w.aE m c:=λm c ar=>by
  rw[nT m c ar];split
  ·exact .inl rfl
  ·exact .inr rfl
 have Jb:∀x,x∈w.bH->x∈(hh S cur.2 w (n,d)).bH:=λx aq=>by
  unfold hh;split
  ·exact aq
  ·unfold jr
   simp [aq]
 have od:∀x,x∈w.gone->x∈(hh S cur.2 w (n,d)).gone:=λx aq=>by
  unfold hh;split
  ·exact aq
  ·unfold jr
   simp [aq]
 have gH:∀c,c<4->dF (hh S cur.2 w (n,d)).aE n c≠dF w.aE n c->n∈(hh S cur.2 w (n,d)).gone/\∃x∈(hh S cur.2 w (n,d)).bH,x.1=n/\cl x.2 c=dF w.aE n c:=λc ar cW=>by
  rw[nT n c ar] at cW;have agJ:0<cl cur.2 c/\0<dF w.aE n c/\dF w.aE n c=given (cl cur.2 c) (S.j3 n) c (decide (d<0)):=by
   by_cases ag:0<cl cur.2 c/\0<dF w.aE n c/\dF w.aE n c=given (cl cur.2 c) (S.j3 n) c (decide (d<0))
   ·exact ag
   ·rw[a' (λe=>ag e.2)] at cW
    exact absurd rfl cW
  have zM:cl (pC S cur.2 (w.aE.getD n z4) (n,d)) c=dF w.aE n c:=by
   unfold pC;rw[iU ar];exact aY agJ
  unfold hh;rw[a' (λbU=>by rw[bU,F'] at zM;omega)];unfold jr;exact⟨by simp,(n,pC S cur.2 (w.aE.getD n z4) (n,d)),by simp,rfl,zM⟩
 refine⟨?_,h.full,h.bound,h.same,λk c al ar=> ?_,λc ar=> ?_,λm c hm ar cW=> ?_,λx aq=> ?_,λm hm aq=> ?_,λm aq=> ?_⟩
 ·unfold hh
  split
  ·exact h.len
  ·unfold jr
   simp [h.len]
 ·rcases OX k c ar with e|e
  ·exact .inl e
  ·rw[e];exact h.two k c al ar
 ·rcases OX ey c ar with e|e
  ·exact e
  ·rw[e];exact h.DK c ar
 ·by_cases hold:dF w.aE m c=ca m c
  ·have Ka:m=n:=by
    have:=nT m c ar;by_cases aq:m=n
    ·exact aq
    ·rw[a' (λe=>aq e.1)] at this
     exact absurd (this.trans hold) cW
   subst Ka;obtain⟨_,x,sj,iH,OY⟩:=gH c ar (λe=>cW (e.trans hold));exact .inl ⟨x,sj,iH,OY.trans hold⟩
  ·have hL:∀q,q<G.N->dF (hh S cur.2 w (n,d)).aE q c=0\/dF (hh S cur.2 w (n,d)).aE q c=dF w.aE q c:=λq _=>OX q c ar
   rcases h.zL m c hm ar hold with ⟨x,sj,iH⟩|aq|⟨rfl,iH,OY⟩
   ·exact .inl ⟨x,Jb x sj,iH⟩
   ·exact .inr (.inl (aq.mono hm (λ_ h=>h) hL))
   ·refine .inr (.inr ⟨rfl,iH,λq e bb agK=> ?_⟩)
    rcases OY q e bb agK with ad|ad|ad
    ·rcases List.mem_cons.1 ad with ag|ag
     ·obtain⟨rfl,rfl⟩:=Prod.mk.inj ag
      rw[nT q c ar];have af:=h.two cur.1 c Bu ar;have Kb:0<ca cur.1 c:=by
       have:=(h.bound cur.1 c Bu ar).1;rcases af with e1|e1
       ·rw[e1] at hold;omega
       ·exact absurd e1 hold
      have Kc:=tU q c av ar;by_cases ay:dF w.aE q c=0
      ·right;left
       rw[ay,a' (λe=>by omega)]
      ·by_cases bG:dF w.aE q c=given (ca cur.1 c) (S.j3 q) c (decide (e<0))
       ·right;left
        rw[aY ⟨rfl,aj,aj,by rw[iH];exact bG⟩]
       ·right;right
        rw[a' (λe1=>bG (by rw[<-iH];exact e1.2.2.2))];exact bG
     ·exact .inl ag
    ·rcases hL q (G.si _ _ _ Bu bb) with ag|ag
     ·exact .inr (.inl ag)
     ·exact .inr (.inl (by rw[ag,ad]))
    ·rcases hL q (G.si _ _ _ Bu bb) with ag|ag
     ·exact .inr (.inl ag)
     ·exact .inr (.inr (by rw[ag];exact ad))
 ·unfold hh at aq
  split at aq
  ·exact h.lost x aq
  ·unfold jr at aq
   rcases List.mem_append.1 aq with ad|ad
   ·exact h.lost x ad
   ·rw[List.mem_singleton.1 ad]
    exact av
 ·by_cases hold:∃c,c<4/\dF w.aE m c≠ca m c
  ·exact od m (h.gone m hm (.inl hold))
  ·rcases aq with ⟨c,ar,cW⟩|aq
   ·have WW:dF w.aE m c=ca m c:=Classical.byContradiction λe=>hold ⟨c,ar,e⟩
    have Ka:m=n:=by
     have:=nT m c ar;by_cases aq:m=n
     ·exact aq
     ·rw[a' (λe=>aq e.1)] at this
      exact absurd (this.trans WW) cW
    subst Ka;exact(gH c ar (λe=>cW (e.trans WW))).1
   ·exact od m (h.gone m hm (.inr aq))
 ·unfold hh at aq
  split at aq
  ·exact h.DL m aq
  ·unfold jr at aq
   rcases List.mem_append.1 aq with ad|ad
   ·exact h.DL m ad
   ·rw[List.mem_singleton.1 ad]
    exact av
theorem p8.steps {jC S:hg} {ca:mi} {ey:Nat} {cur:Nat×bO} (Bu:cur.1<G.N):∀(l:List (Nat×Int)) (w:gb),(∀p∈l,p∈lE G S cur.1)->p8 G jC S ca ey cur l w->p8 G jC S ca ey cur [] (l.foldl (hh S cur.2) w):=by
 intro l
 induction l with
 |nil=>exact λ_ _ h=>h
 |cons p l cz=>exact λw hl h=>cz _ (λq bb=>hl q (by simp [bb])) (h.step Bu (hl _ (by simp)))
theorem p8.take {jC S:hg} {ca:mi} {ey:Nat} {cur:Nat×bO} {w:gb} {x:Nat×bO} {r:List (Nat×bO)} (h:p8 G jC S ca ey cur [] w) (aq:w.bH=x::r):p8 G jC S ca ey x (lE G S x.1) {w with bH:=r} where
 len:=h.len
 full:=h.full
 bound:=h.bound
 same:=h.same
 two:=h.two
 DK:=h.DK
 zL m c hm ar cW:=by
  rcases h.zL m c hm ar cW with ⟨y,Kd,OZ,WX⟩|bE|⟨_,_,bE⟩
  ·rw[aq] at Kd
   rcases List.mem_cons.1 Kd with rfl|Kd
   ·exact .inr (.inr ⟨OZ.symm,WX,λn d av bc=> .inl (vH.2 ⟨OZ▸av,bc⟩)⟩)
   ·exact .inl ⟨y,Kd,OZ,WX⟩
  ·exact .inr (.inl bE)
  ·exact .inr (.inl bE)
 lost y bE:=h.lost y (by rw[aq];simp [show y∈r from bE])
 gone:=h.gone
 DL:=h.DL
theorem p8.up {jC S:hg} (zN:jC.lg G.N) (aI:S.lg G.N) {ca:mi} {ey:Nat} {cur:Nat×bO} {w:gb} (h:p8 G jC S ca ey cur [] w) (aq:w.bH=[]) {W:Nat->Prop} (pA:∀m∈w.gone,W m):pB G S (dF w.aE) W:=by
 have af:∀k c,k<G.N->c<4->0<=dF w.aE k c/\dF w.aE k c<=15:=λk c al ar=>by
  rcases h.two k c al ar with e|e
  ·omega
  ·rw[e];exact h.bound k c al ar
 have agL:∀m c,m<G.N->c<4->dF w.aE m c≠ca m c->DJ G S ca (dF w.aE) m c []:=λm c hm ar cW=>by
  rcases h.zL m c hm ar cW with ⟨y,bE,_⟩|bE|⟨_,_,bE⟩
  ·rw[aq] at bE
   cases bE
  ·exact bE
  ·exact bE
 have w4:∀k c,k≠ey->uF G S k c=uF G jC k c:=λk c al=>by
  unfold uF;rw[(h.same k al).1,(h.same k al).2.1]
 refine⟨λP fo=> ?_,af,λn c av ar OV=> ?_⟩
 ·have O0:∀k c,k<G.N->c<4->0<=P k c:=λk c al ar=>Int.le_trans (zK aI al ar) (fo k c al ar)
  have main:∀(a b:Nat) (k c:Nat),k<G.N->c<4->(15-ca k c).toNat<=a->G.aL k<=b->dF w.aE k c<=P k c:=by
   intro a
   induction a using Nat.strongRecOn with
   |_ a agM=>
    intro b
    induction b using Nat.strongRecOn with
    |_ b agN=>
     intro k c al ar ha DM;rcases h.two k c al ar with e|e
     ·rw[e];exact O0 k c al ar
     by_cases bU:ca k c=0
     ·rw[e,bU];exact O0 k c al ar
     have hY:k≠ey:=λOl=>by
      have:=h.DK c ar;rw[<-Ol] at this;omega
     have tU:0<ca k c:=by have:=(h.bound k c al ar).1;omega
     have DN:=h.full.fixed k c al ar;have WY:jC.b8 k=true:=Classical.byContradiction λav=>by
      unfold rule at DN;rw[a' av] at DN;omega
     have AH:S.b8 k=true:=by rw[(h.same k hY).2.2];exact WY
     have WZ:=(rp (O0 k c al ar)).1 (fo k c al ar) AH;rcases agE (G:=G) (S:=jC) (L:=ca) (c:=c) WY with ad|⟨m,d,hm,vu,ad⟩
     ·rw[e,<-DN,ad,<-w4 k c hY]
      exact WZ.1
     ·have zO:=G.si _ _ _ al hm
      have wX:ca k c=given (ca m c) (jC.j3 k) c (decide (0<d)):=by rw[<-DN,ad]
      have W0:dF w.aE m c=ca m c:=Classical.byContradiction λcW=>by
       rcases agL m c zO ar cW k (-d) (G.OS _ _ _ al hm) AH with ag|ag|ag
       ·cases ag
       ·omega
       ·apply ag
        rw[e,wX,(h.same k hY).1];congr 1;simp
      have DH:m≠ey:=λem=>by
       have ag:=h.DK c ar;rw[<-em,W0] at ag;rw[ag,WQ _ _ (zN.j3 k al)] at wX;omega
      have agO:S.b8 m=true:=by rw[(h.same m DH).2.2];exact vu
      have Nq:ca m c<=P m c:=by
       rw[<-W0];rcases agD (c:=c) (up:=decide (0<d)) (zN.j3 k al) (h.bound m c zO ar).2 (by rw[<-wX];exact tU) with ag|⟨ag,ay,bG⟩
       ·rw[<-wX] at ag
        have:=(h.bound m c zO ar).2;exact agM ((15-ca m c).toNat) aj (G.aL m) m c zO ar (cj _) (cj _)
       ·rw[<-wX] at ag
        exact agN (G.aL m) (Nat.lt_of_lt_of_le (G.WM _ _ _ al hm (by simpa using bG)) DM) m c zO ar (by rw[<-ag];exact ha) (cj _)
      have cE:=WZ.2 m d hm agO;have cR:=OT c (decide (0<d)) Nq (aI.j3 k al);rw[e,wX,<-(h.same k hY).1];exact Int.le_trans cR cE
  exact λk c al ar=>main _ _ k c al ar (cj _) (cj _)
 ·have W1:n∉w.gone:=λaA=>OV (pA n aA)
  have Ke:n≠ey:=λe=>W1 (h.gone n av (.inr e))
  have agP:dF w.aE n c=ca n c:=Classical.byContradiction λe=>W1 (h.gone n av (.inl ⟨c,ar,e⟩))
  have DN:=h.full.fixed n c av ar;rw[agP];have hle:=(rp (h.bound n c av ar).1).1 (Int.le_of_eq DN);refine(rp (h.bound n c av ar).1).2 λaw=> ?_
  obtain⟨ad,ag⟩:=hle (by rw[<-(h.same n Ke).2.2];exact aw);refine⟨by rw[w4 n c Ke];exact ad,λm d hm vu=> ?_⟩;have zO:=G.si _ _ _ av hm;rw[(h.same n Ke).1];by_cases DH:m=ey
  ·rw[DH,h.DK c ar,WQ _ _ (zN.j3 n av)]
   exact(h.bound n c av ar).1
  ·have:=ag m d hm (by rw[<-(h.same m DH).2.2];exact vu)
   refine Int.le_trans (OT _ _ ?_ (zN.j3 n av)) this;rcases h.two m c zO ar with e|e
   ·rw[e];exact(h.bound m c zO ar).1
   ·rw[e];exact Int.le_refl _
theorem p8.begin {jC S:hg} {ey:Nat} {w:gb} {cur:Nat×bO} (al:ey<G.N) (hlen:w.aE.length=G.N) (aQ:uG G jC (dF w.aE)) (af:∀k c,k<G.N->c<4->0<=dF w.aE k c/\dF w.aE k c<=15) (xI:∀n,n≠ey->S.j3 n=jC.j3 n/\(∀c,S.emit n c=jC.emit n c)/\S.b8 n=jC.b8 n) (hl:w.bH=[]) (aA:w.gone=[]):
  p8 G jC S (dF w.aE) ey cur [] (jr w ey (w.aE.getD ey z4)):=by
 have na:ey<w.aE.length:=by rw[hlen];exact al
 have nT:∀m c,c<4->dF (jr w ey (w.aE.getD ey z4)).aE m c=if m=ey/\0<dF w.aE ey c then 0 else dF w.aE m c:=λm c ar=>OW na ar
 refine⟨?_,aQ,af,xI,λk c al ar=> ?_,λc ar=> ?_,λm c hm ar cW=> ?_,λx aq=> ?_,λm hm aq=> ?_,λm aq=> ?_⟩
 ·unfold jr
  simp [hlen]
 ·rw[nT k c ar]
  split
  ·exact .inl rfl
  ·exact .inr rfl
 ·rw[nT ey c ar]
  have:=(af ey c al ar).1;split
  ·rfl
  ·rename_i ad
   have:¬0<dF w.aE ey c:=λag=>ad ⟨rfl,ag⟩
   omega
 ·rw[nT m c ar] at cW
  have ad:m=ey/\0<dF w.aE ey c:=Classical.byContradiction λad=>by
   rw[a' ad] at cW;exact cW rfl
  refine .inl ⟨(ey,w.aE.getD ey z4),?_,ad.1.symm,by rw[ad.1];rfl⟩;unfold jr;simp
 ·unfold jr at aq
  rw[hl] at aq;rw[List.mem_singleton.1 aq];exact al
 ·have:m=ey:=by
   rcases aq with ⟨c,ar,cW⟩|aq
   ·rw[nT m c ar] at cW
    exact Classical.byContradiction λad=>by
     rw[a' (λh=>ad h.1)] at cW;exact cW rfl
   ·exact aq
  rw[this];unfold jr;simp
 ·unfold jr at aq
  rw[aA] at aq;rw[List.mem_singleton.1 aq];exact al
end AE
namespace AE
variable {G:oC}
def jb (w:gb) (k:Nat):gb:=if w.waits.getD k false=true then w else {w with bw:=w.bw++[k],waits:=w.waits.set k true}
def hT (G:oC) (S:hg) (w:gb) (x:Nat×bO) (r:List (Nat×bO)):gb:=(lE G S x.1).foldl (hh S x.2) {w with bH:=r}
def F_ (w:gb):gb:=if w.bH=[] then {w.gone.foldl jb w with gone:=[]} else w
def pD (G:oC) (S:hg) (w:gb) (k:Nat):bO:=rq (rule G S (dF w.aE) k)
def ti (x y:bO):bO:=rq λc=>max (cl x c) (cl y c)
def zP (x y:bO):Bool:=decide (cl y 0<cl x 0)||decide (cl y 1<cl x 1)||decide (cl y 2<cl x 2)||decide (cl y 3<cl x 3)
def Ga (G:oC) (S:hg) (w:gb) (k:Nat) (r:List Nat):gb:=
 let w1:gb:={w with bw:=r,waits:=w.waits.set k false,aE:=w.aE.set k (ti (pD G S w k) (w.aE.getD k z4))}
 if zP (pD G S w k) (w.aE.getD k z4)=true then (lE G S k).foldl (λw p=>jb w p.1) w1 else w1
def sk (G:oC) (S:hg) (w:gb):Option gb:=
 match w.bH with
 |x::r=>some (F_ (hT G S w x r))
 |[]=>match w.bw with
  |k::r=>some (Ga G S w k r)
  |[]=>none
def lW (f:bO->Nat) (l:List bO):Nat:=(l.map f).sum
theorem O1 {f:bO->Nat}:∀{l:List bO} {k:Nat} {y:bO},k<l.length->lW f (l.set k y)+f (l.getD k z4)=lW f l+f y
 |[],_,_,h=>absurd h (Nat.not_lt_zero _)
 |x::l,0,y,_=>by simp [lW];omega
 |x::l,k+1,y,h=>by
  have:=O1 (f:=f) (l:=l) (k:=k) (y:=y) (by simpa using h);simp only [lW,List.set_cons_succ,List.map_cons,List.sum_cons,List.getD_cons_succ] at*
  omega
theorem O2 {f:bO->Nat} {b:Nat}:∀{l:List bO},(∀x∈l,f x<=b)->lW f l<=b*l.length
 |[],_=>by simp [lW]
 |x::l,h=>by
  have:=O2 (f:=f) (b:=b) (l:=l) (λy bE=>h y (by simp [bE]));have:=h x (by simp);simp only [lW,List.map_cons,List.sum_cons,List.length_cons,Nat.mul_add] at*
  omega
def sm (x:bO):Nat:=(15-x.1).toNat+(15-x.2.1).toNat+(15-x.2.2.1).toNat+(15-x.2.2.2).toNat
def o3 (x:bO):Nat:=(if 0<x.1 then 1 else 0)+(if 0<x.2.1 then 1 else 0)+(if 0<x.2.2.1 then 1 else 0)+(if 0<x.2.2.2 then 1 else 0)
theorem agQ (x:bO):o3 x<=4:=by
 unfold o3
 (repeat' split)<;>omega
def qI (N:Nat):Nat:=365*N+2
def mG (N:Nat) (w:gb):Nat:=if w.bH=[] then w.bw.length+6*lW sm w.aE else w.bH.length+lW o3 w.aE+361*N
structure vJ (N:Nat) (w:gb):Prop where
 len:w.waits.length=N
 nodup:w.bw.Nodup
 lt:∀k∈w.bw,k<N
 is:∀k,k<N->(w.waits.getD k false=true↔k∈w.bw)
theorem Gb {α:Type} {l:List α} {k m:Nat} {x d:α} (al:k<l.length):(l.set k x).getD m d=if m=k then x else l.getD m d:=by
 rw[dp,dp,List.getElem?_set];by_cases h:k=m
 ·subst h
  rw[aY rfl,aY al,aY rfl];rfl
 ·rw[a' h,a' (λe=>h e.symm)]
theorem vJ.J' {N:Nat} {w:gb} {k:Nat} (al:k<N) (h:vJ N w):vJ N (jb w k):=by
 unfold jb;split
 ·exact h
 ·rename_i av
  have hM:k∉w.bw:=λhm=>av ((h.is k al).2 hm)
  refine⟨by simp [h.len],?_,λm hm=> ?_,λm hm=> ?_⟩
  ·show (w.bw++[k]).Nodup
   rw[List.nodup_append];exact⟨h.nodup,by simp,λa ha b af e=>by
    rw[List.mem_singleton.1 af] at e
    exact hM (e▸ha)⟩
  ·rcases List.mem_append.1 hm with ad|ad
   ·exact h.lt m ad
   ·rw[List.mem_singleton.1 ad];exact al
  ·show (w.waits.set k true).getD m false=true↔m∈w.bw++[k]
   rw[Gb (by rw[h.len];exact al)];by_cases e:m=k
   ·rw[aY e]
    simp [e]
   ·rw[a' e,h.is m hm]
    simp [e]
theorem agR (w:gb) (k:Nat):(jb w k).aE=w.aE/\(jb w k).bH=w.bH/\(jb w k).gone=w.gone:=by
 unfold jb;split<;>exact⟨rfl,rfl,rfl⟩
theorem agS (w:gb) (k m:Nat) (h:m∈w.bw):m∈(jb w k).bw:=by
 unfold jb;split
 ·exact h
 ·simp [h]
theorem agT {N:Nat} {w:gb} {k:Nat} (h:vJ N w) (al:k<N):k∈(jb w k).bw:=by
 unfold jb;split
 ·rename_i ad
  exact(h.is k al).1 ad
 ·simp
theorem agU (w:gb) (k:Nat):(jb w k).bw.length<=w.bw.length+1:=by
 unfold jb;split
 ·omega
 ·simp
theorem W2 {N:Nat} {α:Type} (f:α->Nat):∀(l:List α) (w:gb),(∀p∈l,f p<N)->vJ N w->
  let w':=l.foldl (λw p=>jb w (f p)) w
  vJ N w'/\w'.aE=w.aE/\w'.bH=w.bH/\w'.gone=w.gone/\(∀m∈w.bw,m∈w'.bw)/\(∀p∈l,f p∈w'.bw)/\w'.bw.length<=w.bw.length+l.length:=by
 intro l
 induction l with
 |nil=>exact λw _ h=>⟨h,rfl,rfl,rfl,λ_ h=>h,λ_ h=>(by cases h),cj _⟩
 |cons p l cz=>
  intro w hl h;have hp:=hl p (by simp);obtain⟨ad,ag,ay,bG,cE,cR,fS⟩:=cz (jb w (f p)) (λq bb=>hl q (by simp [bb])) (h.J' hp);obtain⟨g1,g2,g3⟩:=agR w (f p);refine⟨ad,ag.trans g1,ay.trans g2,bG.trans g3,λm hm=>cE m (agS w (f p) m hm),λq bb=> ?_,?_⟩
  ·rcases List.mem_cons.1 bb with rfl|bb
   ·exact cE _ (agT h hp)
   ·exact cR q bb
  ·have:=agU w (f p)
   simp only [List.length_cons,List.foldl_cons] at*
   omega
theorem agV {N:Nat}:∀{l:List Nat},l.Nodup->(∀k∈l,k<N)->l.length<=N:=by
 induction N with
 |zero=>
  intro l _ h
  match l with
  |[]=>simp
  |x::_=>exact absurd (h x (by simp)) (Nat.not_lt_zero _)
 |succ N cz=>
  intro l av h;have ad:(l.erase N).length<=N:=cz (av.erase N) λk al=>by
   have nA:=h k (List.mem_of_mem_erase al);have og:k≠N:=λe=>by
    rw[e] at al;exact(List.Nodup.not_mem_erase av) al
   omega
  have ag:l.length<=(l.erase N).length+1:=by
   rw[List.length_erase];split<;>omega
  omega
theorem vJ.count {N:Nat} {w:gb} (h:vJ N w):w.bw.length<=N:=agV h.nodup h.lt
structure qJ (G:oC) (S:hg) (w:gb):Prop where
 len:w.aE.length=G.N
 wait:vJ G.N w
 up:w.bH=[]->w.gone=[]/\pB G S (dF w.aE) (· ∈w.bw)
 down:w.bH≠[]->w.bw=[]/\∃jC ca ey cur,jC.lg G.N/\p8 G jC S ca ey cur [] w
theorem qJ.bound {S:hg} {w:gb} (h:qJ G S w):∀k c,k<G.N->c<4->0<=dF w.aE k c/\dF w.aE k c<=15:=λk c al ar=>by
 by_cases hl:w.bH=[]
 ·exact(h.up hl).2.bound k c al ar
 ·obtain⟨_,jC,ca,ey,cur,_,bc⟩:=h.down hl
  rcases bc.two k c al ar with e|e
  ·omega
  ·rw[e];exact bc.bound k c al ar
theorem W3 {S:hg} {w:gb} (h:qJ G S w):lW sm w.aE<=60*G.N:=by
 have:=O2 (f:=sm) (b:=60) (l:=w.aE) λx aq=>by
  obtain⟨k,al,rfl⟩:=List.mem_iff_getElem.1 aq;have nK:k<G.N:=by rw[<-h.len];exact al
  have af:=λc (ar:c<4)=>h.bound k c nK ar
  have he:w.aE.getD k z4=w.aE[k]:=by rw[dp,f_ al];rfl
  have h0:=af 0 cB;have ad:=af 1 cB;have ag:=af 2 cB;have ay:=af 3 cB;unfold dF at h0 ad ag ay;rw[he] at h0 ad ag ay;simp only [cl] at h0 ad ag ay;unfold sm;omega
 rw[h.len] at this;exact this
theorem Gc (w:gb):lW o3 w.aE<=4*w.aE.length:=O2 λx _=>agQ x
theorem agW {S:hg} {old:bO} {w:gb} {p:Nat×Int} (hp:p.1<w.aE.length):(hh S old w p).bH.length+lW o3 (hh S old w p).aE<=w.bH.length+lW o3 w.aE/\(hh S old w p).aE.length=w.aE.length/\(hh S old w p).bw=w.bw/\(hh S old w p).waits=w.waits:=by
 unfold hh;split
 ·exact⟨cj _,rfl,rfl,rfl⟩
 ·rename_i cW
  refine⟨?_,by simp [jr],rfl,rfl⟩;unfold jr;have aw:=O1 (f:=o3) (y:=vI (pC S old (w.aE.getD p.1 z4) p) (w.aE.getD p.1 z4)) hp;have ck:o3 (vI (pC S old (w.aE.getD p.1 z4) p) (w.aE.getD p.1 z4))+1<=o3 (w.aE.getD p.1 z4):=by
   have bU:¬∀c,c<4->cl (pC S old (w.aE.getD p.1 z4) p) c=0:=λh=>cW (bO.ext' λc ar=>by rw[h c ar,F'])
   have aq:∀c,c<4->cl (pC S old (w.aE.getD p.1 z4) p) c=0\/(0<cl (w.aE.getD p.1 z4) c/\cl (pC S old (w.aE.getD p.1 z4) p) c=cl (w.aE.getD p.1 z4) c):=λc ar=>by
    unfold pC;rw[iU ar];split
    ·rename_i h
     exact .inr ⟨h.2.1,rfl⟩
    ·exact .inl rfl
   generalize pC S old (w.aE.getD p.1 z4) p=o at bU aq ⊢;generalize w.aE.getD p.1 z4=x at aq ⊢;have h0:=aq 0 cB;have ad:=aq 1 cB;have ag:=aq 2 cB;have ay:=aq 3 cB;have JZ:¬(cl o 0=0/\cl o 1=0/\cl o 2=0/\cl o 3=0):=λ⟨a,b,c,d⟩=>bU λk al=>by
    match k,al with
    |0,_=>exact a
    |1,_=>exact b
    |2,_=>exact c
    |3,_=>exact d
   unfold vI o3 rq;simp only [cl] at*
   repeat' split
   all_goals omega
  simp only [List.length_append,List.length_cons,List.length_nil];omega
theorem W4 {S:hg} {old:bO}:∀(l:List (Nat×Int)) (w:gb),(∀p∈l,p.1<w.aE.length)->
  let w':=l.foldl (hh S old) w
  w'.bH.length+lW o3 w'.aE<=w.bH.length+lW o3 w.aE/\w'.aE.length=w.aE.length/\w'.bw=w.bw/\w'.waits=w.waits:=by
 intro l
 induction l with
 |nil=>exact λw _=>⟨cj _,rfl,rfl,rfl⟩
 |cons p l cz=>
  intro w hl;obtain⟨g1,g2,g3,g4⟩:=agW (S:=S) (old:=old) (w:=w) (hl p (by simp));obtain⟨ad,ag,ay,bG⟩:=cz (hh S old w p) (λq bb=>by rw[g2];exact hl q (by simp [bb]));exact⟨Nat.le_trans ad g1,ag.trans g2,ay.trans g3,bG.trans g4⟩
theorem agX {x y:bO}:zP x y=true↔∃c,c<4/\cl y c<cl x c:=by
 unfold zP;simp only [Bool.or_eq_true,decide_eq_true_eq];constructor
 ·rintro (((h|h)|h)|h)
  ·exact⟨0,cB,h⟩
  ·exact⟨1,cB,h⟩
  ·exact⟨2,cB,h⟩
  ·exact⟨3,cB,h⟩
 ·rintro ⟨c,ar,h⟩
  match c,ar with
  |0,_=>exact .inl (.inl (.inl h))
  |1,_=>exact .inl (.inl (.inr h))
  |2,_=>exact .inl (.inr h)
  |3,_=>exact .inr h
theorem pB.weaken {S:hg} {L L':mi} {W W':Nat->Prop} (h:pB G S L W) (hL:∀k c,k<G.N->c<4->L' k c=L k c) (pA:∀m,W m->W' m):pB G S L' W' where
 low P fo k c al ar:=by rw[hL k c al ar];exact h.low P fo k c al ar
 bound k c al ar:=by rw[hL k c al ar];exact h.bound k c al ar
 done k c al ar av:=by
  rw[hL k c al ar];have h0:=h.done k c al ar (λhw=>av (pA k hw));refine(rp (h.bound k c al ar).1).2 λaw=> ?_
  obtain⟨ad,ag⟩:=(rp (h.bound k c al ar).1).1 h0 aw;exact⟨ad,λn d fz bc=>by rw[hL n c (G.si _ _ _ al fz) ar];exact ag n d fz bc⟩
theorem qJ.unit {S:hg} (aI:S.lg G.N) {w w':gb} (h:qJ G S w) (hu:sk G S w=some w'):qJ G S w'/\mG G.N w'+1<=mG G.N w:=by
 unfold sk at hu;split at hu
 ·rename_i x r aq
  cases hu;have cW:w.bH≠[]:=by rw[aq];simp
  obtain⟨aA,jC,ca,ey,cur,zN,bc⟩:=h.down cW;have sj:x.1<G.N:=bc.lost x (by rw[aq];simp);have ck:∀p∈lE G S x.1,p.1<G.N:=λp hp=>G.si _ p.1 p.2 sj (vH.1 hp).1
  have hv:=p8.steps sj _ _ (λp hp=>hp) (bc.take aq);obtain⟨hp1,hp2,hp3,p9⟩:=W4 (S:=S) (old:=x.2) (lE G S x.1) {w with bH:=r} (λp hp=>by rw[show ({w with bH:=r}:gb).aE=w.aE from rfl,h.len];exact ck p hp)
  change p8 G jC S ca ey x [] (hT G S w x r) at hv
  change (hT G S w x r).bH.length+lW o3 (hT G S w x r).aE<=r.length+lW o3 w.aE at hp1
  change (hT G S w x r).bw=w.bw at hp3
  change (hT G S w x r).waits=w.waits at p9
  have Gd:vJ G.N (hT G S w x r):=⟨by rw[p9];exact h.wait.len,by rw[hp3];exact h.wait.nodup,by rw[hp3];exact h.wait.lt,by rw[hp3,p9];exact h.wait.is⟩;have Ge:mG G.N w=r.length+1+lW o3 w.aE+361*G.N:=by
   unfold mG;rw[a' cW,aq];rfl
  unfold F_;split
  ·rename_i he
   obtain⟨g1,g2,g3,g4,k5,g6,g7⟩:=W2 (N:=G.N) (λk=>k) (hT G S w x r).gone (hT G S w x r) (λk al=>hv.DL k al) Gd;have uC:pB G S (dF (hT G S w x r).aE) (· ∈((hT G S w x r).gone.foldl jb (hT G S w x r)).bw):=hv.up zN aI he λm hm=>g6 m hm
   have O3:qJ G S {(hT G S w x r).gone.foldl jb (hT G S w x r) with gone:=[]}:=by
    refine⟨by show ((hT G S w x r).gone.foldl jb (hT G S w x r)).aE.length=_;rw[g2];exact hv.len,⟨g1.len,g1.nodup,g1.lt,g1.is⟩,λ_=>⟨rfl,?_⟩,λav=>absurd (g3.trans he) av⟩;show pB G S (dF ((hT G S w x r).gone.foldl jb (hT G S w x r)).aE) _;rw[g2];exact uC
   refine⟨O3,?_⟩;rw[Ge];have hl:({(hT G S w x r).gone.foldl jb (hT G S w x r) with gone:=[]}:gb).bH=[]:=g3.trans he;have ad:=O3.wait.count;have ag:=W3 O3;unfold mG;rw[aY hl];omega
  ·rename_i he
   refine⟨⟨hv.len,Gd,λe=>absurd e he,λ_=>⟨hp3.trans aA,jC,ca,ey,x,zN,hv⟩⟩,?_⟩;rw[Ge];unfold mG;rw[a' he];omega
 ·rename_i aq
  split at hu
  ·rename_i k r al
   cases hu;obtain⟨W5,uC⟩:=h.up aq;have nK:k<G.N:=h.wait.lt k (by rw[al];simp);have na:k<w.aE.length:=by rw[h.len];exact nK
   have fz:k∉r/\r.Nodup:=by
    have:=h.wait.nodup;rw[al] at this;exact⟨(List.nodup_cons.1 this).1,(List.nodup_cons.1 this).2⟩
   let w1:gb:={w with bw:=r,waits:=w.waits.set k false,aE:=w.aE.set k (ti (pD G S w k) (w.aE.getD k z4))}
   have Gd:vJ G.N w1:=by
    refine⟨by simp [w1,h.wait.len],fz.2,λm hm=>h.wait.lt m (by rw[al];simp [show m∈r from hm]),λm hm=> ?_⟩;show (w.waits.set k false).getD m false=true↔m∈r;rw[Gb (by rw[h.wait.len];exact nK)];by_cases e:m=k
    ·rw[aY e,e]
     simp [fz.1]
    ·rw[a' e,h.wait.is m hm,al]
     simp [e]
   have nT:∀m c,m<G.N->c<4->dF w1.aE m c=raised G S (dF w.aE) k m c:=λm c _ ar=>by
    show dF (w.aE.set k _) m c=_;rw[WV na];unfold raised;split
    ·unfold ti pD
     rw[iU ar,iU ar];rfl
    ·rfl
   have J_:zP (pD G S w k) (w.aE.getD k z4)=true↔∃c,c<4/\dF w.aE k c<rule G S (dF w.aE) k c:=by
    rw[agX];constructor
    ·rintro ⟨c,ar,ad⟩
     refine⟨c,ar,?_⟩;unfold pD at ad;rw[iU ar] at ad;exact ad
    ·rintro ⟨c,ar,ad⟩
     refine⟨c,ar,?_⟩;unfold pD;rw[iU ar];exact ad
   have Mk:=O1 (f:=sm) (l:=w.aE) (k:=k) (y:=ti (pD G S w k) (w.aE.getD k z4)) na;have Ge:mG G.N w=r.length+1+6*lW sm w.aE:=by
    unfold mG;rw[aY aq,al];rfl
   have DM:=λc (ar:c<4)=>uC.bound k c nK ar
   unfold Ga;simp only;split
   ·rename_i hm
    obtain⟨dC,nH,Mi⟩:=J_.1 hm;have ck:∀p∈lE G S k,p.1<G.N:=λp hp=>G.si _ p.1 p.2 nK (vH.1 hp).1
    obtain⟨g1,g2,g3,g4,k5,g6,g7⟩:=W2 (N:=G.N) (λp:Nat×Int=>p.1) (lE G S k) w1 ck Gd;have cR:(lE G S k).length<=6:=Nat.le_trans (List.length_filter_le _ _) (G.WN k);have agY:pB G S (raised G S (dF w.aE) k) (· ∈((lE G S k).foldl (λw p=>jb w p.1) w1).bw):=uC.J' aI nK (λm sZ Gf=>by
     refine k5 m ?_;rw[al] at Gf;rcases List.mem_cons.1 Gf with e|e
     ·exact absurd e sZ
     ·exact e) (λ_ n d av aw=>g6 (n,d) (vH.2 ⟨av,aw⟩))
    refine⟨⟨?_,g1,λ_=>⟨?_,?_⟩,λav=>absurd (g3.trans aq) av⟩,?_⟩
    ·show ((lE G S k).foldl (λw p=>jb w p.1) w1).aE.length=_
     rw[g2];simp [w1,h.len]
    ·exact g4.trans W5
    ·refine agY.weaken (λm c hm ar=> ?_) (λ_ h=>h)
     show dF ((lE G S k).foldl (λw p=>jb w p.1) w1).aE m c=_;rw[g2];exact nT m c hm ar
    ·rw[Ge]
     unfold mG;rw[aY (g3.trans aq),show ((lE G S k).foldl (λw p=>jb w p.1) w1).aE=w1.aE from g2];have aoS:sm (ti (pD G S w k) (w.aE.getD k z4))+1<=sm (w.aE.getD k z4):=by
      have eX:=DM 0 cB;have l_:=DM 1 cB;have jH:=DM 2 cB;have FN:=DM 3 cB;have ao:∀c,c<4->rule G S (dF w.aE) k c<=15:=λc ar=>WT aI nK ar λn av=>(uC.bound n c av ar).2
      have k8:=ao 0 cB;have k7:=ao 1 cB;have x4:=ao 2 cB;have Vp:=ao 3 cB;unfold dF at Mi eX l_ jH FN;unfold ti pD sm rq;unfold dF at*
      simp only [cl] at*
      match dC,nH with
      |0,_=>simp only at *;omega
      |1,_=>simp only at *;omega
      |2,_=>simp only at *;omega
      |3,_=>simp only at *;omega
     have aoT:(List.foldl (λ(w:gb) (p:Nat×Int)=>jb w p.1) w1 (lE G S k)).bw.length<=r.length+(lE G S k).length:=g7;have aoU:lW sm w1.aE+sm (w.aE.getD k z4)=lW sm w.aE+sm (ti (pD G S w k) (w.aE.getD k z4)):=Mk;show (List.foldl (λ(w:gb) (p:Nat×Int)=>jb w p.1) w1 (lE G S k)).bw.length+6*lW sm w1.aE+1<=_
     clear_value w1
     omega
   ·rename_i hm
    have Iz:∀c,c<4->rule G S (dF w.aE) k c<=dF w.aE k c:=λc ar=>by
     have:¬dF w.aE k c<rule G S (dF w.aE) k c:=λh=>hm (J_.2 ⟨c,ar,h⟩)
     omega
    refine⟨⟨by simp [h.len],Gd,λ_=>⟨W5,?_⟩,λav=>absurd aq av⟩,?_⟩
    ·refine(uC.J' (W':=(· ∈r)) aI nK (λm sZ Gf=> ?_) (λ⟨c,ar,ad⟩=>absurd (Iz c ar) aj)).weaken (λm c hm ar=>nT m c hm ar) (λ_ h=>h)
     rw[al] at Gf;rcases List.mem_cons.1 Gf with e|e
     ·exact absurd e sZ
     ·exact e
    ·rw[Ge]
     unfold mG;rw[aY aq];have ER:ti (pD G S w k) (w.aE.getD k z4)=w.aE.getD k z4:=bO.ext' λc ar=>by
      unfold ti pD;rw[iU ar,iU ar];have:=Iz c ar;show max (rule G S (dF w.aE) k c) (dF w.aE k c)=dF w.aE k c;omega
     rw[ER] at Mk;simp only;rw[ER];omega
  ·cases hu
theorem qJ.settled {S:hg} (aI:S.lg G.N) {w:gb} (h:qJ G S w) (hu:sk G S w=none):w.bH=[]/\w.bw=[]/\w.gone=[]/\uG G S (dF w.aE):=by
 unfold sk at hu;split at hu
 ·cases hu
 ·rename_i aq
  split at hu
  ·cases hu
  ·rename_i aA
   obtain⟨ad,ag⟩:=h.up aq;exact⟨aq,aA,ad,ag.full aI λk _ al=>by
    rw[aA] at al
    cases al⟩
theorem qJ.A7 {S Kf:hg} (aI:S.lg G.N) {w:gb} (h:qJ G S w) (hu:sk G S w=none) {k:Nat} (al:k<G.N) (xI:∀n,n≠k->Kf.j3 n=S.j3 n/\(∀c,Kf.emit n c=S.emit n c)/\Kf.b8 n=S.b8 n):
  qJ G Kf (jr w k (w.aE.getD k z4))/\mG G.N (jr w k (w.aE.getD k z4))+1<=qI G.N:=by
 obtain⟨ad,ag,ay,bG⟩:=h.settled aI hu;have hl:(jr w k (w.aE.getD k z4)).bH≠[]:=by
  unfold jr;simp
 refine⟨⟨by simp [jr,h.len],⟨h.wait.len,h.wait.nodup,h.wait.lt,h.wait.is⟩,λe=>absurd e hl,λ_=>⟨ag,S,dF w.aE,k,(0,z4),aI,p8.begin al h.len bG h.bound xI ad ay⟩⟩,?_⟩;unfold mG;rw[a' hl];have:=Gc (jr w k (w.aE.getD k z4));have lz:(jr w k (w.aE.getD k z4)).aE.length=G.N:=by simp [jr,h.len]
 rw[lz] at this;have Jb:(jr w k (w.aE.getD k z4)).bH.length=1:=by
  unfold jr;simp [ad]
 unfold qI;omega
end AE
namespace AE
def nb (bF bX x y z:Nat):Nat:=(z*bX+y)*bF+x
def iJ (bF k:Nat):Nat:=k%bF
def iK (bF bX k:Nat):Nat:=k/bF%bX
def hU (bF bX k:Nat):Nat:=k/bF/bX
section
variable {bF bX a_ x y z k:Nat}
theorem W6 (aq:x<bF):iJ bF (nb bF bX x y z)=x:=by
 unfold iJ nb;rw[Nat.add_comm,Nat.add_mul_mod_self_right,Nat.mod_eq_of_lt aq]
theorem W7 (aq:x<bF):nb bF bX x y z/bF=z*bX+y:=by
 unfold nb;rw[Nat.add_comm,Nat.add_mul_div_right _ _ aj,Nat.div_eq_of_lt aq,Nat.zero_add]
theorem W8 (aq:x<bF) (bE:y<bX):iK bF bX (nb bF bX x y z)=y:=by
 unfold iK;rw[W7 aq,Nat.add_comm,Nat.add_mul_mod_self_right,Nat.mod_eq_of_lt bE]
theorem O4 (aq:x<bF) (bE:y<bX):hU bF bX (nb bF bX x y z)=z:=by
 unfold hU;rw[W7 aq,Nat.add_comm,Nat.add_mul_div_right _ _ aj,Nat.div_eq_of_lt bE,Nat.zero_add]
theorem agZ (bF bX k:Nat):nb bF bX (iJ bF k) (iK bF bX k) (hU bF bX k)=k:=by
 unfold nb iJ iK hU;have ad:=Nat.div_add_mod (k/bF) bX;have ag:=Nat.div_add_mod k bF;have ay:k/bF/bX*bX+k/bF%bX=k/bF:=by rw[Nat.mul_comm];exact ad
 rw[ay,Nat.mul_comm];exact ag
theorem W9 (aq:x<bF) (bE:y<bX) (bU:z<a_):nb bF bX x y z<bF*bX*a_:=by
 unfold nb;have ad:z*bX+y+1<=a_*bX:=by
  have:=Nat.mul_le_mul_right bX (show z+1<=a_ from bU);rw[Nat.add_mul] at this;omega
 have ag:=Nat.mul_le_mul_right bF ad;rw[Nat.add_mul] at ag;have ay:a_*bX*bF=bF*bX*a_:=by rw[Nat.mul_comm a_ bX,Nat.mul_assoc,Nat.mul_comm a_ bF,<-Nat.mul_assoc,Nat.mul_comm bX bF]
 rw[<-ay];omega
theorem Kg (h:k<bF*bX*a_):iJ bF k<bF/\iK bF bX k<bX/\hU bF bX k<a_:=by
 have ag0:0<bF:=by
  rcases Nat.eq_zero_or_pos bF with e|e
  ·subst e;simp at h
  ·exact e
 have ag1:0<bX:=by
  rcases Nat.eq_zero_or_pos bX with e|e
  ·subst e;simp at h
  ·exact e
 refine⟨Nat.mod_lt _ ag0,Nat.mod_lt _ ag1,?_⟩;unfold hU;rw[Nat.div_div_eq_div_mul];exact Nat.div_lt_of_lt_mul h
end
def uH (bF bX a_ k:Nat):Nat->List (Nat×Int)
 |0=>if 0<iJ bF k then [(nb bF bX (iJ bF k-1) (iK bF bX k) (hU bF bX k),0)] else []
 |1=>if iJ bF k+1<bF then [(nb bF bX (iJ bF k+1) (iK bF bX k) (hU bF bX k),0)] else []
 |2=>if 0<iK bF bX k then [(nb bF bX (iJ bF k) (iK bF bX k-1) (hU bF bX k),0)] else []
 |3=>if iK bF bX k+1<bX then [(nb bF bX (iJ bF k) (iK bF bX k+1) (hU bF bX k),0)] else []
 |4=>if 0<hU bF bX k then [(nb bF bX (iJ bF k) (iK bF bX k) (hU bF bX k-1),-1)] else []
 |5=>if hU bF bX k+1<a_ then [(nb bF bX (iJ bF k) (iK bF bX k) (hU bF bX k+1),1)] else []
 |_=>[]
def w_ (bF bX a_ k:Nat):Nat->List (Nat×Int)
 |0=>[]
 |j+1=>w_ bF bX a_ k j++uH bF bX a_ k j
theorem ag2 (bF bX a_ k j:Nat):(uH bF bX a_ k j).length<=1:=by
 unfold uH;split
 all_goals first|(split<;>simp)|simp
theorem O5 (bF bX a_ k j:Nat):(w_ bF bX a_ k j).length<=j:=by
 induction j with
 |zero=>simp [w_]
 |succ j cz=>
  have:=ag2 bF bX a_ k j;simp only [w_,List.length_append];omega
theorem W_ {bF bX a_ k:Nat} {p:Nat×Int}:p∈w_ bF bX a_ k 6↔p∈uH bF bX a_ k 0\/p∈uH bF bX a_ k 1\/p∈uH bF bX a_ k 2\/p∈uH bF bX a_ k 3\/p∈uH bF bX a_ k 4\/p∈uH bF bX a_ k 5:=by
 simp only [w_,List.mem_append,List.not_mem_nil,false_or,or_assoc]
theorem Kh {bF bX a_ k n:Nat} {d:Int} (h:(n,d)∈w_ bF bX a_ k 6) (al:k<bF*bX*a_):
  ∃x y z,x<bF/\y<bX/\z<a_/\n=nb bF bX x y z/\
   ((x+1=iJ bF k/\y=iK bF bX k/\z=hU bF bX k/\d=0)\/(x=iJ bF k+1/\y=iK bF bX k/\z=hU bF bX k/\d=0)\/
    (x=iJ bF k/\y+1=iK bF bX k/\z=hU bF bX k/\d=0)\/(x=iJ bF k/\y=iK bF bX k+1/\z=hU bF bX k/\d=0)\/
    (x=iJ bF k/\y=iK bF bX k/\z+1=hU bF bX k/\d= -1)\/(x=iJ bF k/\y=iK bF bX k/\z=hU bF bX k+1/\d=1)):=by
 obtain⟨ad,ag,ay⟩:=Kg al;rw[W_] at h;rcases h with h|h|h|h|h|h
 all_goals
  simp only [uH] at h;split at h
  ·rename_i ar
   rw[List.mem_singleton] at h;obtain⟨rfl,rfl⟩:=Prod.mk.inj h;refine⟨_,_,_,?_,?_,?_,rfl,?_⟩
   all_goals omega
  ·cases h
theorem ag3 {bF bX a_ k x y z:Nat} {d:Int} (bU:z<a_) (aq:x<bF) (bE:y<bX)
  (h:(x+1=iJ bF k/\y=iK bF bX k/\z=hU bF bX k/\d=0)\/(x=iJ bF k+1/\y=iK bF bX k/\z=hU bF bX k/\d=0)\/
    (x=iJ bF k/\y+1=iK bF bX k/\z=hU bF bX k/\d=0)\/(x=iJ bF k/\y=iK bF bX k+1/\z=hU bF bX k/\d=0)\/
    (x=iJ bF k/\y=iK bF bX k/\z+1=hU bF bX k/\d= -1)\/(x=iJ bF k/\y=iK bF bX k/\z=hU bF bX k+1/\d=1)):(nb bF bX x y z,d)∈w_ bF bX a_ k 6:=by
 rw[W_];simp only [uH];rcases h with ⟨ad,ag,ay,rfl⟩|⟨ad,ag,ay,rfl⟩|⟨ad,ag,ay,rfl⟩|⟨ad,ag,ay,rfl⟩|⟨ad,ag,ay,rfl⟩|⟨ad,ag,ay,rfl⟩
 ·left
  rw[aY aj,<-ad,<-ag,<-ay];simp
 ·right;left
  rw[aY aj,<-ad,<-ag,<-ay];simp
 ·right;right;left
  rw[aY aj,<-ad,<-ag,<-ay];simp
 ·right;right;right;left
  rw[aY aj,<-ad,<-ag,<-ay];simp
 ·right;right;right;right;left
  rw[aY aj,<-ad,<-ag,<-ay];simp
 ·right;right;right;right;right
  rw[aY aj,<-ad,<-ag,<-ay];simp
def ag4 (bF bX a_:Nat):oC where
 N:=bF*bX*a_
 sg k:=w_ bF bX a_ k 6
 top k:=decide (hU bF bX k+1=a_)
 aL k:=a_-1-hU bF bX k
 si k n d al h:=by
  obtain⟨x,y,z,aq,bE,bU,rfl,_⟩:=Kh h al;exact W9 aq bE bU
 WL k n d al h e:=by
  obtain⟨x,y,z,aq,bE,bU,av,h⟩:=Kh h al;rw[e] at av;have ad:iJ bF k=x:=by rw[av];exact W6 aq
  have ag:iK bF bX k=y:=by rw[av];exact W8 aq bE
  have ay:hU bF bX k=z:=by rw[av];exact O4 aq bE
  omega
 OS k n d al h:=by
  obtain⟨x,y,z,aq,bE,bU,rfl,bb⟩:=Kh h al;clear h;obtain⟨dg,k2,vA⟩:=Kg al;have ah:=ag3 (k:=nb bF bX x y z) (d:= -d) vA dg k2 (by
   rw[W6 aq,W8 aq bE,O4 aq bE];rcases bb with ⟨a,b,c,rfl⟩|⟨a,b,c,rfl⟩|⟨a,b,c,rfl⟩|⟨a,b,c,rfl⟩|⟨a,b,c,rfl⟩|⟨a,b,c,rfl⟩
   ·exact .inr (.inl ⟨a.symm,b.symm,c.symm,rfl⟩)
   ·exact .inl ⟨a.symm,b.symm,c.symm,rfl⟩
   ·exact .inr (.inr (.inr (.inl ⟨a.symm,b.symm,c.symm,rfl⟩)))
   ·exact .inr (.inr (.inl ⟨a.symm,b.symm,c.symm,rfl⟩))
   ·exact .inr (.inr (.inr (.inr (.inr ⟨a.symm,b.symm,c.symm,rfl⟩))))
   ·exact .inr (.inr (.inr (.inr (.inl ⟨a.symm,b.symm,c.symm,rfl⟩)))))
  rw[agZ] at ah;exact ah
 WM k n d al h bc:=by
  obtain⟨x,y,z,aq,bE,bU,rfl,h⟩:=Kh h al;obtain⟨dg,k2,vA⟩:=Kg al;rw[O4 aq bE];omega
 WN k:=O5 _ _ _ _ _
end AE
end
end Go.Proofs.YtepcfjbfkedlpaaDoor
namespace Go.Proofs.YtepcfjbfkedlpaaDoor
open Go Go.Proofs Go.RowKit
namespace AE
abbrev n3:aK:=4
theorem Bv:bg Tryd.prog (sizeOf n3)=some 1:=au
theorem mj:Tryd.prog.underlying 30=some (.slice n3):=au
noncomputable def Ki:TypeInfo:=(Tryd.prog.info? n3).getD default
theorem O6:Tryd.prog.info? n3=some Ki:=au
theorem O7:Ki.zero=some (.bool false):=au
theorem O8:Ki.size=1:=au
abbrev Gg:Nat:=1
theorem O9:Ki.bytes=Gg:=au
theorem ag5:(.bool false:J).cells.size=1:=rfl
def iL (x:Bool):List J:=[.bool x]
theorem kn:∀x,(iL x).length=1:=λ_=>rfl
theorem O':∀x,∀u∈iL x,u.oneCell'=true:=λx u hu=>by
 simp only [iL,List.mem_cons,List.not_mem_nil,or_false] at hu;subst hu;rfl
abbrev tj:aK:=3
theorem Kj:Tryd.prog.underlying 26=some (.slice tj):=au
noncomputable def Kk:TypeInfo:=(Tryd.prog.info? tj).getD default
theorem ag6:Tryd.prog.info? tj=some Kk:=au
theorem ag7:Kk.zero=some (.int .i64 0):=au
theorem ag8:Kk.size=1:=au
abbrev O_:Nat:=8
theorem ag9:Kk.bytes=O_:=au
theorem ag':(.int .i64 0:J).cells.size=1:=rfl
def p_ (x:Nat):List J:=[.int .i64 ((x:Nat):Int)]
theorem nK:∀x,(p_ x).length=1:=λ_=>rfl
theorem ag_:∀x,∀u∈p_ x,u.oneCell'=true:=λx u hu=>by
 simp only [p_,List.mem_cons,List.not_mem_nil,or_false] at hu;subst hu;rfl
abbrev qa:aK:=85
theorem sn:bg Tryd.prog (sizeOf qa)=some 4:=au
theorem Bw:bg Tryd.prog (isAgg qa)=some true:=au
theorem n4:Tryd.prog.underlying 45=some (.slice qa):=au
noncomputable def Kl:TypeInfo:=(Tryd.prog.info? qa).getD default
theorem Xa:Tryd.prog.info? qa=some Kl:=au
theorem Xb:Kl.zero=some (.agg ⟨[.int .i64 0,.int .i64 0,.int .i64 0,.int .i64 0]⟩):=au
theorem Xc:Kl.size=4:=au
abbrev Km:Nat:=32
theorem Xd:Kl.bytes=Km:=au
theorem aha:(.agg ⟨[.int .i64 0,.int .i64 0,.int .i64 0,.int .i64 0]⟩:J).cells.size=4:=rfl
def dJ (x:bO):List J:=[.int .i64 x.1,.int .i64 x.2.1,.int .i64 x.2.2.1,.int .i64 x.2.2.2]
theorem yv:∀x,(dJ x).length=4:=λ_=>rfl
theorem ahb:∀x,∀u∈dJ x,u.oneCell'=true:=λx u hu=>by
 simp only [dJ,List.mem_cons,List.not_mem_nil,or_false] at hu;rcases hu with rfl|rfl|rfl|rfl<;>rfl
abbrev L.val (x:bO):J:= .agg ⟨dJ x⟩
abbrev rr:aK:=89
theorem Bx:Tryd.prog.underlying 71=some (.slice rr):=au
noncomputable def Kn:TypeInfo:=(Tryd.prog.info? rr).getD default
theorem ahc:Tryd.prog.info? rr=some Kn:=au
theorem ahd:Kn.zero=some (.agg ⟨[.int .i64 0,.int .i64 0,.bool false]⟩):=au
theorem ahe:Kn.size=3:=au
abbrev Pa:Nat:=24
theorem ahf:Kn.bytes=Pa:=au
theorem ahg:(.agg ⟨[.int .i64 0,.int .i64 0,.bool false]⟩:J).cells.size=3:=rfl
def nc (x:Nat×Int×Bool):List J:=[.int .i64 ((x.1:Nat):Int),.int .i64 x.2.1,.bool x.2.2]
theorem vK:∀x,(nc x).length=3:=λ_=>rfl
theorem ahh:∀x,∀u∈nc x,u.oneCell'=true:=λx u hu=>by
 simp only [nc,List.mem_cons,List.not_mem_nil,or_false] at hu;rcases hu with rfl|rfl|rfl<;>rfl
abbrev Q.val (x:Nat×Int×Bool):J:= .agg ⟨nc x⟩
abbrev zQ:aK:=87
theorem Ko:Tryd.prog.underlying 74=some (.slice zQ):=au
def j4 (x:Nat×bO):List J:=[.int .i64 ((x.1:Nat):Int),.int .i64 x.2.1,.int .i64 x.2.2.1,.int .i64 x.2.2.2.1,.int .i64 x.2.2.2.2]
theorem Kp:∀x,(j4 x).length=5:=λ_=>rfl
abbrev eJ.val (x:Nat×bO):J:= .agg ⟨j4 x⟩
abbrev vM:Bool:=false
abbrev zR:bO:=z4
end AE
namespace AE
abbrev gx:=Nat×Int×Bool
abbrev az:=Nat×bO
abbrev qK:aK:=80
abbrev gR:aK:=34
abbrev mH (l:List J) (n:Nat):Nat->J:=λi=>l.getD (n+i) (.bool false)
def mI (g:List Nat) (w:List Bool) (k:Nat):List Nat:=if w.getD k default=true then g else g++[k]
def nL (w:List Bool) (k:Nat):List Bool:=if w.getD k default=true then w else w.set k true
section
variable {g:List Nat} {w:List Bool} {k:Nat}
theorem Xe (h:w.getD k default=true):mI g w k=g:=aY h
theorem Xf (h:¬w.getD k default=true):mI g w k=g++[k]:=a' h
theorem Xg (h:w.getD k default=true):nL w k=w:=aY h
theorem Xh (h:¬w.getD k default=true):nL w k=w.set k true:=a' h
theorem Kq (w:List Bool) (k:Nat):(nL w k).length=w.length:=by
 unfold nL;split
 ·rfl
 ·exact List.length_set
theorem Xi (g:List Nat) (w:List Bool) (k:Nat):(mI g w k).length<=g.length+1:=by
 unfold mI;split
 ·omega
 ·simp
end
def ru (i:Nat) (old x:bO):bO:=rq λc=>if c<i/\0<cl old c then 0 else cl x c
section
variable {old x:bO} {k:Nat} {l:List bO}
theorem ahi:ru 0 old x=x:=by
 refine bO.ext' λc ar=> ?_
 unfold ru;rw[iU ar,a' aj]
theorem ahj:ru 4 old x=vI old x:=by
 refine bO.ext' λc ar=> ?_
 unfold ru vI;rw[iU ar,iU ar];simp [ar]
theorem Xj {α:Type} [Inhabited α] {l:List α} {k:Nat} (al:k<l.length):l.set k (l.getD k default)=l:=by
 rw[dp,f_ al];simp
end
end AE
namespace AE
theorem bI.Gh {M M':Mem} {B:Nat} {L L':List cc} (h:bI B M L M' L'):cV M L M' L':=⟨h.sp,h.keeps,h.fresh⟩
theorem cG.own {M:Mem} {L:List cc} (h:cG M L):bI 0 M L M L:=⟨h,λ_ _ h _=>h,λ_ h=> .inl h,λ_ _=>Nat.zero_le _⟩
theorem cV.lift {M M':Mem} {L nZ L' N:List cc} (aw:cG M L) (is:List Nat) (ik:kl L.length is=true) (hp:AE.pick L is=nZ) (hl:L'.length=is.length) (t:cV M nZ M' (L'++N)):cV M L M' (lD L is L'++N):=by
 subst hp;exact(aw.own.put is ik hl t).Gh
theorem cV.trans {M nf ng:Mem} {L lF km:List cc} (h:cV M L nf lF) (t:cV nf lF ng km):cV M L ng km where
 sp:=t.sp
 keeps i o ai av:=t.keeps i o (h.keeps i o ai av) λag=>by
  rcases h.fresh i ag with ay|ay
  ·exact av ay
  ·rw[ai] at ay;cases ay
 fresh b af:=by
  rcases t.fresh b af with ad|ad
  ·exact h.fresh b ad
  ·by_cases ag:iI L b
   ·exact .inl ag
   ·right
    cases ay:M b with
    |none=>rfl
    |some o=>
     have:=h.keeps b o ay ag;rw[ad] at this;cases this
theorem cV.refl {M:Mem} {L:List cc} (h:cG M L):cV M L M L:=h.own.Gh
def vN (L:List cc):cc:=⟨iI L,λM=>cG M L,λ_ h b af=>h.known b af,λ_ _ hm h=>h.mono hm⟩
theorem DO {L:List cc} {b:Nat}:iI [vN L] b↔iI L b:=p4
theorem cG.packed {M:Mem} {L:List cc} (h:cG M L):cG M [vN L]:=cG.one h
theorem cG.ahk {M:Mem} {L:List cc} (h:cG M [vN L]):cG M L:=h.ok 0 _ rfl
theorem cV.packed {M M':Mem} {L L':List cc} (h:cV M L M' L'):cV M [vN L] M' [vN L']:=
 ⟨h.sp.packed,λi o ai av=>h.keeps i o ai λag=>av (DO.2 ag),λb af=>(h.fresh b (DO.1 af)).imp DO.2 id⟩
theorem ahl {L N:List cc} {b:Nat}:iI (vN L::N) b↔iI (L++N) b:=by
 constructor
 ·rintro ⟨i,R,ai,af⟩
  cases i with
  |zero=>
   cases ai;obtain⟨j,S,hj,af⟩:=af;exact⟨j,S,by rw[List.getElem?_append_left (List.getElem?_eq_some_iff.1 hj).1];exact hj,af⟩
  |succ i=>exact⟨L.length+i,R,by rw[List.getElem?_append_right aj,Nat.add_sub_cancel_left];exact ai,af⟩
 ·rintro ⟨i,R,ai,af⟩
  rcases Nat.lt_or_ge i L.length with h|h
  ·rw[List.getElem?_append_left h] at ai
   exact⟨0,vN L,rfl,⟨i,R,ai,af⟩⟩
  ·rw[List.getElem?_append_right h] at ai
   exact⟨i-L.length+1,R,ai,af⟩
theorem cV.Pb {M M':Mem} {L L' N:List cc} (h:cV M L M' (L'++N)):cV M [vN L] M' (vN L'::N) where
 sp:=by
  refine⟨λi R ai=> ?_,λi j R S cW ai hj b af jH=> ?_⟩
  ·cases i with
   |zero=>
    cases ai;exact⟨λi R ai=>h.sp.ok i R (by rw[List.getElem?_append_left (List.getElem?_eq_some_iff.1 ai).1];exact ai),λi j R S cW ai hj=>h.sp.two i j R S cW (by rw[List.getElem?_append_left (List.getElem?_eq_some_iff.1 ai).1];exact ai) (by rw[List.getElem?_append_left (List.getElem?_eq_some_iff.1 hj).1];exact hj)⟩
   |succ i=>exact h.sp.ok (L'.length+i) R (by rw[List.getElem?_append_right aj,Nat.add_sub_cancel_left];exact ai)
  ·have key:∀(j:Nat) (S:cc),N[j]? =some S->∀b,iI L' b->¬S.oB b:=λj S hj b ⟨i,R,ai,af⟩=>h.sp.two i (L'.length+j) R S (by have:=(List.getElem?_eq_some_iff.1 ai).1;omega) (by rw[List.getElem?_append_left (List.getElem?_eq_some_iff.1 ai).1];exact ai) (by rw[List.getElem?_append_right aj,Nat.add_sub_cancel_left];exact hj) b af
   cases i with
   |zero=>
    cases ai;cases j with
    |zero=>exact cW rfl
    |succ j=>exact key j S hj b af jH
   |succ i=>
    cases j with
    |zero=>
     cases hj;exact key i R ai b jH af
    |succ j=>exact h.sp.two (L'.length+i) (L'.length+j) R S aj (by rw[List.getElem?_append_right aj,Nat.add_sub_cancel_left];exact ai) (by rw[List.getElem?_append_right aj,Nat.add_sub_cancel_left];exact hj) b af jH
 keeps i o ai av:=h.keeps i o ai λag=>av (DO.2 ag)
 fresh b af:=(h.fresh b (ahl.1 af)).imp DO.2 id
theorem Kr {α:Type} {P:aR} {f:FuncId} {args:Array J} {w:ax} {e:aK} {k:Nat} {enc:α->List J} {l:List α} {L:List cc} (aw:cG (aG w) L)
  (h:Calls P f args w λe' w'=>(∃a c,e'= .returned (.slice a l.length c)/\dw w.heap.size (aG w') e k enc (.slice a l.length c) l)/\cg w.heap.size w w'):
  Calls P f args w λe' w'=>(∃y:Option Addr×Nat,e'= .returned (.slice y.1 l.length y.2)/\cV (aG w) L (aG w') (L++[ht e k enc (.slice y.1 l.length y.2) l]))/\cg 0 w w':=
 (FP h).mono λe' w' he=>by
   obtain⟨⟨y,ad,ag⟩,ay⟩:=he;exact⟨⟨y,ad,(aw.own.new ag).Gh⟩,ay⟩
end AE
namespace AE
def qb:List (Nat×J)->Nat->Option J
 |[],_=>none
 |p::r,i=>bif Nat.beq p.1 i then some p.2 else qb r i
def Xk (o:Oper):Oper:={o with guard:=none}
def Gi (V:Nat->J) (ahm:List Nat) (ops:Array Oper) (N:Nat) (o:Oper):Bool:=
 match o.guard with
 |none=>true
 |some (j,b)=>ahm.contains j&&(match V j with| .bool b'=>b==b'|_=>false)&&(match fx ops j with|some t=>Nat.blt t N|none=>false)
def By (P:aR) (N m:Nat) (cq:List Nat) (cs kv:List (Nat×J)) (ops:Array Oper) (dv:aF) (A:a6):List Oper->Nat->List J->Option (List J)
 |[],_,vs=>some vs
 |o::r,i,vs=>bif Gi (λj=>vs.getD j cu) (needs ops m o) ops N o then
   (bif cq.contains i then By P N m cq cs kv ops dv A r (i+1) (vs++[(qb cs i).getD cu]) else
     match qb kv i with
     |some v=>By P N m cq cs kv ops dv A r (i+1) (vs++[v])
     |none=>match hR N ops (λj=>vs.getD j cu) (needs ops m o) dv with
      |some sl=>match yq P (dH .nil sl) A (Xk o) with
       |some v=>By P N m cq cs kv ops dv A r (i+1) (vs++[v])
       |none=>none
      |none=>none)
  else none
def Pc (ops:Array Oper) (cq:List Nat):Bool:=(List.range cq.length).all λb=>(List.range b).all λa=>C0 (zk ops) (cq.getD b 0) (cq.getD a 0)
def Bz (P:aR) (N m:Nat) (cq:List Nat) (cs kv:List (Nat×J)):Option bY->Option (aF×List J×aF)
 |some (.draw _ ops s _)=>
  bif ui ops [] m N&&Pc ops cq&&cq.all (λj=>Nat.blt j m) then
   match hR N ops (λ_=>cu) (List.range m) s.sl with
   |some dv=>match By P N m cq cs kv ops dv s.A (ops.toList.take m) 0 [] with
    |some vs=>match hR N ops (λj=>vs.getD j cu) (List.range m) dv with
     |some FW=>some (dv,vs,FW)
     |none=>none
    |none=>none
   |none=>none
  else none
 |_=>none
def o4 (P:aR) (N m:Nat) (cq:List Nat) (cs kv:List (Nat×J)) (o:Option bY) (i:Nat):aF:=
 match Bz P N m cq cs kv o,(gP o)[i]? with
 |some (dv,vs,_),some op=>match hR N (gP o) (λj=>vs.getD j cu) (needs (gP o) m op) dv with
  |some sl=>sl
  |none=> .nil
 |_,_=> .nil
def BA (P:aR) (N m:Nat) (cq:List Nat) (cs kv:List (Nat×J)) (o:Option bY):b6:={b7 o with sl:=match Bz P N m cq cs kv o with|some (_,_,sl)=>sl|none=> .nil}
def Xl [a1] (P:aR) (M:Mem) (ca:List cc) (op:Oper) (sl:aF) (v:J):Prop:=
 ∀(a:Act) (w:ax),(∀x:Operand,aM (dH .nil sl x)=true->a.eval x=aJ (dH .nil sl x))->(∀i o,M i=some o->¬iI ca i->w.heap[i]? =some o)->(execOp a.eval op).run P w= .ok (.value (aJ v)) w/\∀c,op.op≠.defer c
def xb [a1] {Y:Type} (P:aR) (B:Nat) (M:Mem) (ca:List cc) (ops:Array Oper) (cq:List Nat) (rv:Nat->Y->J) (k:Nat) (op:Oper) (sl:aF) (xd sq:Y->List cc):Prop:=
 ∀(a:Act) (w:ax) (K:Act->ax->Prop) (Q:Exit->Act->ax->Prop) (y:Y),(∀x:Operand,aM (dH .nil sl x)=true->a.eval x=aJ (dH .nil sl x))->
  (∀(idx i:Nat) (t:Tmp),idx<k->cq[idx]? =some i->fx ops i=some t->a.tmps.getD t undef=rv idx y)->(∀i o,M i=some o->¬iI ca i->w.heap[i]? =some o)->B<=w.heap.size->cG (aG w) (xd y)->
  (∀fN w',cV (aG w) (xd y) (aG w') (sq fN)->cg 0 w w'->(∀idx,idx<k->rv idx fN=rv idx y)->K (a.put op.dst (rv k fN)) w')->Oper.wpIn (Fr none) 0 P op a w K Q
def Ks (P:aR) (N m:Nat) (cq:List Nat) (cs kv:List (Nat×J)) (ops:Array Oper) (dv:aF) (A:a6) (i:Nat) (o:Oper) (IZ:List J) (v:J):Prop:=
 Gi (λj=>IZ.getD j cu) (needs ops m o) ops N o=true/\(cq.contains i=true->v=(qb cs i).getD cu)/\(cq.contains i=false->∀u,qb kv i=some u->v=u)/\
  (cq.contains i=false->qb kv i=none->∃sl,hR N ops (λj=>IZ.getD j cu) (needs ops m o) dv=some sl/\yq P (dH .nil sl) A (Xk o)=some v)
theorem Xm {P:aR} {N m:Nat} {cq:List Nat} {cs kv:List (Nat×J)} {ops:Array Oper} {dv:aF} {A:a6}:∀(l:List Oper) (i0:Nat) (vs cL:List J),vs.length=i0->By P N m cq cs kv ops dv A l i0 vs=some cL->
  cL.length=vs.length+l.length/\cL.take vs.length=vs/\∀i o,l[i]? =some o->Ks P N m cq cs kv ops dv A (i0+i) o (cL.take (vs.length+i)) (cL.getD (vs.length+i) cu)
 |[],i0,vs,cL,_,h=>by
  cases h;exact⟨by simp,by simp,λi o ai=>by simp at ai⟩
 |o::r,i0,vs,cL,vl,h=>by
  unfold By at h;have go:∀v,Ks P N m cq cs kv ops dv A i0 o vs v->By P N m cq cs kv ops dv A r (i0+1) (vs++[v])=some cL->
    cL.length=vs.length+(o::r).length/\cL.take vs.length=vs/\∀i o',(o::r)[i]? =some o'->Ks P N m cq cs kv ops dv A (i0+i) o' (cL.take (vs.length+i)) (cL.getD (vs.length+i) cu):=by
   intro v aC h;obtain⟨ag,ay,bG⟩:=Xm r (i0+1) (vs++[v]) cL (by simp [vl]) h;have hlen:(vs++[v]).length=vs.length+1:=by simp
   rw[hlen] at ag ay;have vm:cL.take vs.length=vs:=by
    have:=congrArg (List.take vs.length) ay;rw[List.take_take,Nat.min_eq_left aj] at this;simpa using this
   refine⟨by simp;omega,vm,?_⟩;intro i o' ai
   match i with
   |0=>
    simp only [List.getElem?_cons_zero,cN] at ai;subst ai;simp only [Nat.add_zero];rw[vm];have gO:cL.getD vs.length cu=v:=by
     have:=congrArg (λl=>l[vs.length]?) ay;simp at this;rw[dp,this];rfl
    rw[gO];exact aC
   |i+1=>
    have:=bG i o' (by simpa using ai);rw[hlen] at this;rw[show vs.length+(i+1)=vs.length+1+i by omega,show i0+(i+1)=i0+1+i by omega];exact this
  cases aA:Gi (λj=>vs.getD j cu) (needs ops m o) ops N o with
  |false=>rw[aA] at h;cases h
  |true=>
   rw[aA,bD] at h;cases ar:cq.contains i0 with
   |true=>
    rw[ar,bD] at h;exact go _ ⟨aA,λ_=>rfl,λah=>(by rw[ar] at ah;cases ah),λah=>(by rw[ar] at ah;cases ah)⟩ h
   |false=>
    rw[ar,eB] at h;split at h
    ·rename_i v aC
     exact go v ⟨aA,λah=>(by rw[ar] at ah;cases ah),λ_ u hu=>(by rw[aC] at hu;cases hu;rfl),λ_ ah=>(by rw[aC] at ah;cases ah)⟩ h
    ·rename_i hM
     split at h
     ·rename_i sl gI
      split at h
      ·rename_i v aC
       exact go v ⟨aA,λah=>(by rw[ar] at ah;cases ah),λ_ u hu=>(by rw[hM] at hu;cases hu),λ_ _=>⟨sl,gI,aC⟩⟩ h
      ·cases h
     ·cases h
structure vO [a1] {Y:Type} (N:Nat) (ds:List Deferred) (ops:Array Oper) (m:Nat) (cq:List Nat) (vs:List J) (dv:aF) (φ:b2) (rv:Nat->Y->J) (k:Nat) (y:Y) (listed:Array Bool) (a:Act):Prop where
 size:listed.size=ops.size
 down:∀i j,listed.getD i false=true->direct ops i j=true->listed.getD j false=true
 sT:∀i,m<=i->listed.getD i false=false
 defers:a.defers=ds
 my:a.tmps.size=N
 slot:∀t v,dv.get t=some v->aD φ v (a.tmps.getD t undef)
 val:∀j t,j<m->listed.getD j false=true->fx ops j=some t->aD φ (vs.getD j cu) (a.tmps.getD t undef)
 zJ:∀(idx j:Nat) (t:Tmp),idx<k->cq[idx]? =some j->fx ops j=some t->a.tmps.getD t undef=rv idx y
 ord:∀(idx j:Nat),cq[idx]? =some j->(listed.getD j false=true↔idx<k)
section
variable [a1] {Y:Type} {N:Nat} {ds:List Deferred} {ops:Array Oper} {m:Nat} {cq:List Nat} {vs:List J} {dv:aF} {φ:b2} {rv:Nat->Y->J} {k:Nat} {y:Y} {listed:Array Bool} {a:Act}
theorem vO.DG (h:vO N ds ops m cq vs dv φ rv k y listed a) {V:Nat->J} {ks:List Nat} {sl:aF} (zf:∀j∈ks,j<m/\listed.getD j false=true/\V j=vs.getD j cu) (hp:hR N ops V ks dv=some sl):fD N ds φ sl a:=
 ⟨h.my,h.defers,λt v aC=>by
   rcases oW _ _ _ hp t v aC with ⟨j,hj,bc,rfl⟩|⟨_,aA⟩
   ·obtain⟨ad,ag,bG⟩:=zf j hj
    rw[bG];exact h.val j t ad ag bc
   ·exact h.slot t v aA⟩
theorem vO.put (h:vO N ds ops m cq vs dv φ rv k y listed a) {i:Nat} {o:Oper} {mz:aF} (fo:hR N ops (λ_=>cu) (List.range m) mz=some dv) (ai:i<m) (hm:m<=ops.size) (ho:ops[i]? =some o)
  (um:∀k,direct ops i k=true->listed.getD k false=true) (mC:∀i j,i<m->j<m->i≠j->∀t,fx ops i=some t->fx ops j≠some t) (ck:∀i t,i<m->fx ops i=some t->t<N)
  {aB:J} (aC:aD φ (vs.getD i cu) aB) {k':Nat} {fN:Y} (ff:∀(idx j:Nat),cq[idx]? =some j->j<m)
  (jV:∀(idx j:Nat) (t:Tmp),idx<k'->cq[idx]? =some j->fx ops j=some t->(if j=i then aB else a.tmps.getD t undef)=rv idx fN)
  (cM:∀(idx j:Nat),cq[idx]? =some j->((j=i\/listed.getD j false=true)↔idx<k')):vO N ds ops m cq vs dv φ rv k' fN (listed.setIfInBounds i true) (a.put o.dst aB):=by
 have k9:fx ops i=o.dst:=by simp [fx,ho]
 have fg:=J4 (listed:=listed) (i:=i) (by have:=h.size;omega);refine⟨by simpa using h.size,?_,?_,by rw[Act.CZ];exact h.defers,by rw[Act.size_put];exact h.my,?_,?_,?_,?_⟩
 ·intro j k hj bc
  rw[fg] at hj ⊢;rcases hj with rfl|hj
  ·exact .inr (um k bc)
  ·exact .inr (h.down j k hj bc)
 ·intro j hj
  rw[getD_set_ne false aj];exact h.sT j hj
 ·intro t v pU
  by_cases q_:o.dst=some t
  ·rcases oW _ _ _ fo t v pU with ⟨j,hj,bc,rfl⟩|⟨x2,_⟩
   ·exact .cu _
   ·exact absurd (k9.trans q_) (x2 i (List.mem_range.2 ai))
  ·rw[yt t q_]
   exact h.slot t v pU
 ·intro j t hj hl bc
  by_cases ei:j=i
  ·subst ei
   rw[Act.sS _ _ _ _ (by rw[h.my];exact ck j t hj bc),aY (k9.symm.trans bc)];exact aC
  ·rw[yt t λah=>mC i j ai hj (Ne.symm ei) t (k9.trans ah) bc]
   exact h.val j t hj (((fg j).1 hl).resolve_left ei) bc
 ·intro idx j t yw hj bc
  have:=jV idx j t yw hj bc;by_cases ei:j=i
  ·rw[aY ei] at this
   rw[<-this];rw[ei] at bc;rw[Act.sS _ _ _ _ (by rw[h.my];exact ck i t ai bc),aY (k9.symm.trans bc)]
  ·rw[a' ei] at this
   rw[yt t λah=>mC i j ai (ff idx j hj) (Ne.symm ei) t (k9.trans ah) bc];exact this
 ·intro idx j hj
  rw[fg j];exact cM idx j hj
end
theorem ahn [a1] {Y:Type} {N:Nat} {ds:List Deferred} {ops:Array Oper} {m:Nat} {cq:List Nat} {vs:List J} {dv:aF} {φ:b2} {rv:Nat->Y->J} {k:Nat} {y:Y} {listed:Array Bool} {a:Act} (h:vO N ds ops m cq vs dv φ rv k y listed a) {i:Nat} {o:Oper} (av:∀j∈needs ops m o,j<m/\listed.getD j false=true/\(vs.take i).getD j cu=vs.getD j cu)
  (aA:Gi (λj=>(vs.take i).getD j cu) (needs ops m o) ops N o=true):Region.wanted o (yielded ops a.tmps)=true:=by
 unfold Gi at aA;unfold Region.wanted;split at aA
 ·rename_i aho
  rw[aho]
 ·rename_i j b ahp
  rw[ahp];simp only [c7] at aA;obtain⟨⟨ad,ag⟩,ay⟩:=aA;obtain⟨q1,aH,bW⟩:=av j (by simpa using ad);split at ag
  ·rename_i b' uh
   split at ay
   ·rename_i t aL
    have aC:=h.val j t q1 aH aL;rw[<-bW,uh] at aC;have af:a.tmps.getD t undef= .bool b':=by
     generalize a.tmps.getD t undef=u at aC;cases aC;rfl
    have ck:t<a.tmps.size:=by rw[h.my];exact Nat.blt_eq.mp ay
    have jH:b=b':=by simpa using ag
    have bE:yielded ops a.tmps j=some b':=by
     unfold yielded;have bc:((ops[j]?).bind (·.dst)).bind (a.tmps[·]?)=some (.bool b'):=by
      have:(ops[j]?).bind (·.dst)=some t:=aL;rw[this];simp only [Option.bind_some];rw[fh,Array.getElem?_eq_getElem ck] at af;rw[Array.getElem?_eq_getElem ck];exact congrArg some af
     rw[bc]
    dsimp only;rw[bE,jH];exact beq_self_eq_true _
   ·cases ay
  ·cases ag
theorem ahq [cS] {P:aR} {N B:Nat} {w0:ax} {Q:Exit->Act->ax->Prop} {M:Mem} {bq:List J} {Y:Type} {bj:Y->List J} {o:Option bY} {m:Nat} {dy cs kv:List (Nat×J)} {L:Nat->Y->List cc} {rv:Nat->Y->J} {eb dI:aF} {aZ:List bu} {bL:eE} {dE:Mem} {az n0 ca:List cc}
  (aI:bI B dE az M n0) (is:List Nat) (ik:kl n0.length is=true) (hp:AE.pick n0 is=ca)
  (cQ:P.follows .mixedOrders=true) (h:(Bz P N m (dy.map (·.1)) cs kv o).isSome=true) (fz:(dy.map (·.1)).Nodup) (vf:Y) (Kb:L 0 vf=ca)
  (fV:∀k i v,(dy.map (·.1))[k]? =some i->qb cs i=some v->plain v=true/\∀y,rv k y=v)
  (BB:∀i v,qb kv i=some v->aM v=true/\∃op,(gP o)[i]? =some op/\ @Xl (aW M bq) P M ca op (o4 P N m (dy.map (·.1)) cs kv o i) v)
  (jV:∀k i,(dy.map (·.1))[k]? =some i->∃op,(gP o)[i]? =some op/\ @xb (aW M bq) Y P B M ca (gP o) (dy.map (·.1)) rv k op (o4 P N m (dy.map (·.1)) cs kv o i) (L k) (L (k+1)))
  (dd:cp (BA P N m (dy.map (·.1)) cs kv o) eb aZ=some bL) (eL:uE N (gP o) dy eb=some dI) (fB:dy.all (λp=>aM p.2)=true)
  (b9:∀y M' k p,dy[k]? =some p-> @aJ (aW M' (bj y)) p.2=rv k y) (hm:∀y M',fP (aW M bq) (aW M' (bj y)) bL)
  (rest:∀y M',cV M ca M' (L dy.length y)->∀a7 w,@Here (aW M' (bj y)) _ N {sl:=dI,ms:=[],A:=c6 aZ} B w0 a7 w->wpListIn (Fr none) 0 P (gP o) (dY P (gA o) Q) (yr m o) a7 w)
  (av:cS.eu<=aZ.length:=by first|exact Nat.zero_le _|exact gG rfl) (ar:iy (b7 o).A aZ 0:=by exact gX rfl): @fy (aW M bq) _ P N B w0 Q o:=by
 letI:=aW M bq;obtain⟨⟨dv,vs,FW⟩,bc⟩:=Option.isSome_iff_exists.1 h;have hd0:=bc;unfold Bz at bc;split at bc
 ·rename_i id ops s ks
  cases af:(ui ops [] m N&&Pc ops (dy.map (·.1))&&(dy.map (·.1)).all (λj=>Nat.blt j m)) with
  |false=>rw[af] at bc;cases bc
  |true=>
   rw[af,bD] at bc;simp only [c7] at af;obtain⟨⟨hI,zM⟩,ff⟩:=af;have ff:∀j∈dy.map (·.1),j<m:=λj hj=>Nat.blt_eq.mp (List.all_eq_true.1 ff j hj)
   obtain⟨zl,ou,mC,ck,rV,oX,vp⟩:=C1 hI;have Pd:∀(idx j:Nat),(dy.map (·.1))[idx]? =some j->j<m:=λidx j hj=>ff j (List.mem_of_getElem? hj)
   have ahr:∀b a Pe Pf,a<b->(dy.map (·.1))[b]? =some Pe->(dy.map (·.1))[a]? =some Pf->C0 (zk ops) Pe Pf=true:=λb a Pe Pf Pg af ha=>by
    unfold Pc at zM;have ad:=List.all_eq_true.1 zM b (List.mem_range.2 (List.getElem?_eq_some_iff.1 af).1);have ag:=List.all_eq_true.1 ad a (List.mem_range.2 Pg);rw[dp,dp,af,ha] at ag;exact ag
   split at bc
   ·rename_i o2 fo
    split at bc
    ·rename_i cL od
     split at bc
     ·rename_i FY Dt
      simp only [cN,Prod.mk.injEq] at bc;obtain⟨rfl,rfl,rfl⟩:=bc;have OM:∀i o,i<m->ops[i]? =some o->Ks P N m (dy.map (·.1)) cs kv ops o2 s.A i o (cL.take i) (cL.getD i cu):=by
       intro i o ai ho;have:=(Xm _ 0 [] _ rfl od).2.2 i o (by rw[List.getElem?_take,aY ai];simpa using ho);simpa using this
      refine⟨_,rfl,λa w ah=> ?_⟩;have bb:Here N s B w0 a {w with drawn:=w.drawn+1}:=ah.quiet ⟨⟨rfl,rfl,rfl,cj _,λ_ _=>rfl⟩,cj _⟩;refine wpIn_region_any cQ ?_;have yu:∀i o,M i=some o->({w with drawn:=w.drawn+1}:ax).heap[i]? =some o:=bb.nW;generalize ({w with drawn:=w.drawn+1}:ax)=ja at bb yu;obtain⟨⟨φ,ds,q1,aH,bW,et,gN⟩,j_,nB⟩:=bb;have ahs:∀i,iI ca i->M i≠none:=λi ai=>by
       subst hp;exact(aI.sp.pick is ik).known i ai
      have w4:∀{w:ax} {L':List cc},cV (aG ja) ca (aG w) L'->∀b e,φ b=some e->w.heap[e.bk]? =ja.heap[e.bk]? :=λ{w L'} hl b e af=>by
       obtain⟨dj,_,_,q⟩:=bW.eC b e af;have ck:=fT.lt q;have ay:aG ja e.bk=some (ja.heap[e.bk]):=Array.getElem?_eq_getElem ck;have bG:=hl.keeps e.bk _ ay λaQ=>by
        cases J7:M e.bk with
        |none=>exact ahs _ aQ J7
        |some tS=>
         obtain⟨_,dx⟩:=bW.dq e.bk tS J7;exact dx b e af rfl
       rw[Array.getElem?_eq_getElem ck];exact bG
      have Xn:∀{w:ax} {L':List cc},cV (aG ja) ca (aG w) L'->∀i o,M i=some o->¬iI ca i->w.heap[i]? =some o:=λ{w L'} hl i o ai aQ=>hl.keeps i o (yu i o ai) aQ
      have uo:∀{k:Nat} {y:Y} {listed:Array Bool} {a:Act},vO N ds ops m (dy.map (·.1)) cL o2 φ rv k y listed a->¬(∀i,i<m->listed.getD i false=true)->Region.ready .any ops listed≠[]/\∀i∈Region.ready .any ops listed,i<m/\listed.getD i false=false/\i<ops.size:=by
       intro k y listed a bf lQ;obtain⟨i0,vl⟩:=Classical.not_forall.1 lQ;obtain⟨C',ra⟩:=Classical.not_imp.1 vl;have ra:listed.getD i0 false=false:=by simpa using ra
       refine⟨?_,λi ai=> ?_⟩
       ·have key:∀n i,i<n->i<m->listed.getD i false=false->∃k,k∈Region.ready .any ops listed:=by
         intro n
         induction n with
         |zero=>intro i ai;omega
         |succ n E8=>
          intro i ai mD E9;by_cases hp:∀k,direct ops i k=true->listed.getD k false=true
          ·refine⟨i,mem_ready.2 ⟨by rw[qA (by have:=bf.size;omega)];exact E9,ops[i]'(by omega),Array.getElem?_eq_getElem _,λe he af=>hp _ ?_⟩⟩
           have ho:ops[i]? =some (ops[i]'(by omega)):=Array.getElem?_eq_getElem _;simp only [direct,ho];exact Array.any_eq_true'.2 ⟨e,he,by simp [af]⟩
          ·obtain⟨k,al⟩:=Classical.not_forall.1 hp
           obtain⟨bc,x0⟩:=Classical.not_imp.1 al;have:=oX i k aj bc;exact E8 k aj aj (by simpa using x0)
        obtain⟨k,al⟩:=key (i0+1) i0 aj C' ra;intro h;rw[h] at al;cases al
       ·obtain⟨sY,o,ho,_⟩:=mem_ready.1 ai
        have k4:i<ops.size:=(Array.getElem?_eq_some_iff.1 ho).1;have uq:listed.getD i false=false:=by rw[<-qA (by have:=bf.size;omega)];exact sY
        refine⟨?_,uq,k4⟩;rcases Nat.lt_or_ge i m with h|h
        ·exact h
        ·exfalso
         rcases vp i i0 k4 h aj with ⟨x1,_⟩|ha
         ·cases x1
         ·have:=ha listed bf.down (qz ai)
          rw[ra] at this;cases this
      have tail:∀(bn:Nat) (listed:Array Bool) (a:Act) (w:ax) (k:Nat) (y:Y),vO N ds ops m (dy.map (·.1)) cL o2 φ rv k y listed a->k<=dy.length->cV (aG ja) ca (aG w) (L k y)->cg 0 ja w->q9 listed<=bn->(∀i,i<m->listed.getD i false=true)->wpAnyIn (Fr none) 0 P .any ops (dY P ks Q) bn listed a w:=by
       intro bn listed a w k y bf hM jW mP aQ lQ;have al:k=dy.length:=by
        rcases Nat.lt_or_ge k dy.length with ck|kD
        ·exfalso
         have zS:k<(dy.map (·.1)).length:=by rw[List.length_map];exact ck
         have e:=f_ zS;have:=(bf.ord k _ e).1 (lQ _ (Pd k _ e));omega
        ·omega
       subst al;refine Ni oX (λi j ai hj ei=>(vp i j ai aj ei).resolve_left aj) bn m listed a w (cj _) bf.size (λi=> ?_) aQ ?_
       ·by_cases ai:i<m
        ·rw[lQ i ai];simp;omega
        ·rw[bf.sT i aj];simp;omega
       ·obtain⟨M',t1,t2⟩:=Wr aI is ik hp yu nB jW mP
        have x8:fD N ds φ FY a:=bf.DG (λj hj=>⟨List.mem_range.1 hj,lQ j (List.mem_range.1 hj),rfl⟩) Dt;have c1:BA P N m (dy.map (·.1)) cs kv (some (.draw id ops s ks))={s with sl:=FY}:=by
         unfold BA;rw[hd0];rfl
        have lS:Here N (BA P N m (dy.map (·.1)) cs kv (some (.draw id ops s ks))) B w0 a ja:=by
         rw[c1];exact⟨⟨φ,ds,q1,x8,bW,et,gN⟩,j_,nB⟩
        have hS:=Here.Om (vals':=bj y) dd (hm y _) t2 av (by rw[c1];exact ar) lS;have al:∀p∈dy,aM p.2=true/\∀t,fx ops p.1=some t->a.tmps.getD t undef= @aJ (aW M' (bj y)) p.2:=λp hp=>⟨List.all_eq_true.1 fB p hp,λt aL=>by
         obtain⟨idx,yw,e⟩:=List.mem_iff_getElem.1 hp;have e2:dy[idx]? =some p:=by rw[f_ yw,e]
         rw[b9 y _ idx p e2]
         exact bf.zJ idx p.1 t yw (by rw[List.getElem?_map,e2];rfl) aL⟩
        exact rest y M' t1 a w (@Here.OK (aW M' (bj y)) _ N B w0 w a ops [] (c6 aZ) dy eb dI hS al eL)
      have main:∀(bn:Nat) (listed:Array Bool) (a:Act) (w:ax) (k:Nat) (y:Y),vO N ds ops m (dy.map (·.1)) cL o2 φ rv k y listed a->k<=dy.length->cV (aG ja) ca (aG w) (L k y)->cg 0 ja w->q9 listed<=bn->wpAnyIn (Fr none) 0 P .any ops (dY P ks Q) bn listed a w:=by
       intro bn
       induction bn with
       |zero=>
        intro listed a w k y bf hM jW mP aQ;refine tail 0 listed a w k y bf hM jW mP aQ λi ai=> ?_
        cases h:listed.getD i false with
        |true=>rfl
        |false=>
         exfalso;have:=xW (i:=i) (listed:=listed) (by have:=bf.size;omega) (by rw[qA (by have:=bf.size;omega)];exact h);omega
       |succ bn cz=>
        intro listed a w k y bf hM jW mP aQ;by_cases lQ:∀i,i<m->listed.getD i false=true
        ·exact tail (bn+1) listed a w k y bf hM jW mP aQ lQ
        ·obtain⟨k7,x4⟩:=uo bf lQ
         refine⟨λh0=>absurd h0 k7,λi ai=> ?_⟩;obtain⟨mD,uq,k4⟩:=x4 i ai;have ho:ops[i]? =some ops[i]:=Array.getElem?_eq_getElem k4;have U4:=xW (i:=i) (listed:=listed) (by have:=bf.size;omega) (mem_ready.1 ai).1;have aht:∀j∈needs ops m ops[i],j<m/\listed.getD j false=true/\(cL.take i).getD j cu=cL.getD j cu:=λj hj=>by
          have r4:=rV i _ mD ho j hj;have ei:=oX i j k4 r4;exact⟨aj,qz ai j r4,by simp only [dp,List.getElem?_take,aY ei]⟩
         have FZ:∀{V:Nat->J} {sl:aF},(∀j,j<i->V j=cL.getD j cu)->hR N ops V (needs ops m ops[i]) o2=some sl->fD N ds φ sl a:=λ{V sl} uh gI=>bf.DG (λj hj=>by
          have r4:=rV i _ mD ho j hj;have ei:=oX i j k4 r4
          exact⟨aj,qz ai j r4,uh j ei⟩) gI
         obtain⟨aA,wZ,yc,ahu⟩:=OM i _ mD ho;have hw:=ahn bf aht aA;have oY:∀x:Operand,aM (dH .nil (o4 P N m (dy.map (·.1)) cs kv (some (.draw id ops s ks)) i) x)=true->a.eval x=aJ (dH .nil (o4 P N m (dy.map (·.1)) cs kv (some (.draw id ops s ks)) i) x):=λx lf=>by
          cases p5:hR N ops (λj=>cL.getD j cu) (needs ops m ops[i]) o2 with
          |some sl=>
           have e:o4 P N m (dy.map (·.1)) cs kv (some (.draw id ops s ks)) i=sl:=by
            unfold o4;rw[hd0,show (gP (some (.draw id ops s ks)))[i]? =some ops[i] from ho];show (match hR N ops (λj=>cL.getD j cu) (needs ops m ops[i]) o2 with|some sl=>sl|none=> .nil)=sl;rw[p5]
           rw[e] at lf ⊢;exact aD.ji _ lf (gV (iG φ) (FZ (λ_ _=>rfl) p5).get x)
          |none=>
           have e:o4 P N m (dy.map (·.1)) cs kv (some (.draw id ops s ks)) i= .nil:=by
            unfold o4;rw[hd0,show (gP (some (.draw id ops s ks)))[i]? =some ops[i] from ho];show (match hR N ops (λj=>cL.getD j cu) (needs ops m ops[i]) o2 with|some sl=>sl|none=> .nil)= .nil;rw[p5]
           rw[e] at lf ⊢;exact aD.ji (φ:=φ) _ lf (gV (iG φ) (λt v h=>by cases h) x)
         unfold wpOpIn;simp only [ho];rw[aY hw];cases aq:(dy.map (·.1)).contains i with
         |false=>
          have Xo:∀(idx j:Nat),(dy.map (·.1))[idx]? =some j->j≠i:=λidx j hj e=>by
           have:(dy.map (·.1)).contains i=true:=by
            rw[List.contains_iff_mem,<-e];exact List.mem_of_getElem? hj
           rw[aq] at this;cases this
          have fW:∀aB,aD φ (cL.getD i cu) aB->vO N ds ops m (dy.map (·.1)) cL o2 φ rv k y (listed.setIfInBounds i true) (a.put ops[i].dst aB):=λaB aC=>bf.put fo mD zl ho (qz ai) mC ck aC Pd
           (λidx j t ad ag ay=>by rw[a' (Xo idx j ag)];exact bf.zJ idx j t ad ag ay) (λidx j ag=>⟨λah=>(bf.ord idx j ag).1 (ah.resolve_left (Xo idx j ag)),λah=> .inr ((bf.ord idx j ag).2 ah)⟩)
          cases Ph:qb kv i with
          |some v=>
           obtain⟨qx,op,cy,F1⟩:=BB i v Ph;have F6:op=ops[i]:=by
            have e:(gP (some (.draw id ops s ks)))[i]? =ops[i]? :=rfl;rw[e,ho] at cy;exact(Option.some.inj cy).symm
           subst F6;obtain⟨g1,g4⟩:=F1 a w oY (Xn jW);refine⟨λ_ _=>trivial,?_⟩;rw[Oper.semAt_eq _ _ _ g4,g1,Oper.uponIn_value];exact cz _ _ w k y (fW _ (by rw[yc aq v Ph];exact aD.vh φ v qx)) hM jW mP aj
          |none=>
           obtain⟨sl,gI,aC⟩:=ahu aq Ph;have x8:=FZ (λj ei=>by simp only [dp,List.getElem?_take,aY ei]) gI;obtain⟨aB,g1,g2,g3,g4⟩:=WG (w2:=w) bW (w4 jW) (gV (iG φ) x8.get) aC;have g1:(execOp a.eval ops[i]).run P w= .ok (.value aB) w:=g1;have g4:∀c,ops[i].op≠.defer c:=g4;refine⟨λ_ _=>trivial,?_⟩;rw[Oper.semAt_eq _ _ _ g4,g1,Oper.uponIn_value];exact cz _ _ w k y (fW _ g2) hM jW mP aj
         |true=>
          have mQ:i∈dy.map (·.1):=List.contains_iff_mem.1 aq;obtain⟨idx,yw,e0⟩:=List.mem_iff_getElem.1 mQ;have e1:(dy.map (·.1))[idx]? =some i:=by rw[f_ yw,e0]
          have r3:k=idx:=by
           rcases Nat.lt_trichotomy k idx with ck|heq|C4
           ·exfalso
            have na:k<(dy.map (·.1)).length:=by omega
            have e2:=f_ na;have ha:=ahr idx k i _ ck e1 e2;have:=UO i k4 _ ha listed bf.down (qz ai);have:=(bf.ord k _ e2).1 this;omega
           ·exact heq
           ·exfalso
            have:=(bf.ord idx i e1).2 C4;rw[uq] at this;cases this
          subst r3;obtain⟨op,cy,F1⟩:=jV k i e1;have F6:op=ops[i]:=by
           have e:(gP (some (.draw id ops s ks)))[i]? =ops[i]? :=rfl;rw[e,ho] at cy;exact(Option.some.inj cy).symm
          subst F6;have na:k<dy.length:=by rw[List.length_map] at yw;exact yw
          refine F1 a w _ _ y oY (λidx j t ad ag ay=>bf.zJ idx j t ad ag ay) (Xn jW) (Nat.le_trans nB mP.size) jW.sp λfN w' cO dx gh=> ?_
          have Xp:∀(qL:Nat),(dy.map (·.1))[qL]? =some i->qL=k:=λqL ag=>(List.getElem?_inj (List.getElem?_eq_some_iff.1 ag).1 fz).1 (ag.trans e1.symm)
          have ahv:vO N ds ops m (dy.map (·.1)) cL o2 φ rv (k+1) fN (listed.setIfInBounds i true) (a.put ops[i].dst (rv k fN)):=by
           refine bf.put fo mD zl ho (qz ai) mC ck ?_ Pd (λqL j t ad ag ay=> ?_) (λqL j ag=> ?_)
           ·rw[wZ aq]
            cases A2:qb cs i with
            |none=>exact .cu _
            |some v=>
             obtain⟨ih,hz⟩:=fV k i v e1 A2;rw[hz fN];exact aD.kq φ v ih
           ·by_cases ei:j=i
            ·rw[aY ei]
             rw[ei] at ag;rw[Xp qL ag]
            ·rw[a' ei]
             have zS:qL<k:=by
              rcases Nat.lt_or_ge qL k with bb|bb
              ·exact bb
              ·exfalso
               have:qL=k:=by omega
               subst this;rw[e1] at ag;cases ag;exact ei rfl
             rw[gh qL zS];exact bf.zJ qL j t zS ag ay
           ·constructor
            ·rintro (ei|hl)
             ·rw[ei] at ag
              rw[Xp qL ag];omega
             ·have:=(bf.ord qL j ag).1 hl
              omega
            ·intro zS
             rcases Nat.lt_or_ge qL k with bb|bb
             ·exact .inr ((bf.ord qL j ag).2 bb)
             ·have:qL=k:=by omega
              subst this;rw[e1] at ag;cases ag;exact .inl rfl
          exact cz _ _ w' (k+1) fN ahv aj (jW.trans cO) (mP.trans dx) aj
      have aQ:∀i,(Array.replicate ops.size false).getD i false=false:=λi=>by
       rw[fh,Array.getElem?_replicate];split<;>rfl
      have yx:cV (aG ja) ca (aG ja) (L 0 vf):=by
       rw[Kb];exact cV.refl (aI.at is ik hp yu)
      refine main ops.size _ a ja 0 vf ⟨by simp,λi j ai=>absurd ai (by rw[aQ];simp),λi _=>aQ i,aH.defers,aH.size,λt v aC=> ?_,λj t _ hl=>absurd hl (by rw[aQ];simp),λidx j t ck=>absurd ck (Nat.not_lt_zero _),λidx j _=>⟨λhl=>absurd hl (by rw[aQ];simp),λck=>absurd ck (Nat.not_lt_zero _)⟩⟩ (Nat.zero_le _) yx (cg.refl _ _) ?_
      ·rcases oW _ _ _ fo t v aC with ⟨j,hj,bc,rfl⟩|⟨_,aA⟩
       ·exact .cu _
       ·exact aH.get t v aA
      ·unfold q9
       exact Nat.le_trans List.count_le_length (by simp)
     ·cases bc
    ·cases bc
   ·cases bc
 ·cases bc
end AE
namespace AE
theorem Xq {l:List J} {i:Nat} {d:J}:(⟨l⟩:Array J).getD i d=l.getD i d:=by
 simp
def Gj:List J->Nat->Nat->Bool
 |[],_,_=>true
 |v::r,lX,i=>(Nat.beq i lX||plain v)&&Gj r lX (i+1)
theorem Xr:∀(l:List J) (lX i0:Nat),Gj l lX i0=true->∀i v,l[i]? =some v->i0+i≠lX->plain v=true
 |[],_,_,_,i,v,ai,_=>by simp at ai
 |x::r,lX,i0,h,i,v,ai,cW=>by
  unfold Gj at h;simp only [c7,Bool.or_eq_true] at h
  match i with
  |0=>
   simp only [List.getElem?_cons_zero,cN] at ai;subst ai;exact h.1.resolve_left λe=>cW (by have:=cH e;omega)
  |i+1=>exact Xr r lX (i0+1) h.2 i v (by simpa using ai) aj
def Kt (o:Option bY) (b t lX:Nat):Option (List J×Nat×Nat×List J):=
 match o with
 |some (.oper _ _ _ s _)=>match s.A.bl.get b with
  |some k=>match k.obj with
   | .cells cs=>bif Nat.beq k.eN 0&&(Nat.beq k.cP b&& !k.ro) then match s.sl.get t with
     |some (.agg ⟨gD⟩)=>match gD[lX]? with
      |some (.slice (some ⟨b',0,none⟩) n c)=>bif Nat.beq b' b&&Gj gD lX 0 then some (cs,n,c,gD) else none
      |_=>none
     |_=>none
     else none
   |_=>none
  |none=>none
 |_=>none
theorem Here.ahw [cS] {α:Type} {M:Mem} {bq:List J} {bj:Nat->List J} {N B:Nat} {st:b6} {w0 w:ax} {a:Act} {sl dN:aF} {l:List bu} {bL:eE} {b t q n c dj:Nat} {k:h4} {cs:List J} {enc:α->List J} {xs:List α} {gD:List J} {lX:Nat}
  (xZ:∀x,(enc x).length=dj) (Bp:xs.length=n) (e_:0<n) (iz:n<=c) (ah: @Here (aW M bq) _ N st B w0 a w) (al:st.A.bl.get b=some k) (fK:k.obj= .cells cs) (FL:k.eN=0) (oc:k.cP=b) (fV:dL cs=true) (p5: @eo (aW M bq) cs=xs.flatMap enc) (af:l.length<=b)
  (yp:st.sl.get t=some (.agg ⟨gD⟩)) (mS:gD[lX]? =some (.slice (some ⟨b,0,none⟩) n c)) (fB:∀i v,gD[i]? =some v->i≠lX->plain v=true) (dd:cp st sl l=some bL) (hm:∀M' g,fP (aW M bq) (aW M' (bj g)) bL) (fg:bV.set (.agg ⟨gD.set lX (ak q)⟩) depth sl t=some dN) (bb:∀g,me (bj g) q= .slice (some ⟨g,0,none⟩) n c)
  (av:cS.eu<=l.length) (ar:iy st.A l 0):
  ∃g M',cF M' dj enc (.slice (some ⟨g,0,none⟩) n c) xs/\B<=g/\M' g≠none/\h7 M M' none/\M g=none/\ @Here (aW M' (bj g)) _ N {sl:=dN,ms:=[],A:=c6 l} B w0 a w:=by
 obtain⟨⟨φ,ds,ad,ag,ay,bG,fS⟩,cE,cR⟩:=ah;have CE:= @fD.get (aW M bq) _ _ _ _ _ ag t _ yp;generalize hp0:a.tmps.getD t undef=ahx at CE;obtain⟨Gk,rfl,cr,Xs⟩:∃Gk,ahx= .agg Gk/\gD.length=Gk.size/\∀i,i<gD.length-> @aD (aW M bq) φ (gD.getD i undef) (Gk.getD i undef):=by
  cases CE with
  |agg _ cs' g1 g2=>exact⟨cs',rfl,by simpa using g1,λi ai=>by simpa using g2 i (by simpa using ai)⟩
 have kE:lX<gD.length:=(List.getElem?_eq_some_iff.1 mS).1;have aC:=Xs lX kE;rw[getD_some mS] at aC;generalize hp:Gk.getD lX undef=Wv at aC;cases aC with
 |iZ _ _=>omega
 |iE _ _ _ he aw _ _=>
  obtain⟨dg,cO,dx,gh⟩:= @b0.eC (aW M bq) _ _ _ ay b _ he;rw[al] at cO;cases cO;omega
 |iD _ _ he=>
  rename_i e;obtain⟨dg,cO,dx,gh⟩:= @b0.eC (aW M bq) _ _ _ ay b e he;rw[al] at cO;cases cO;unfold fT at gh;rw[fK] at gh;obtain⟨c',jk,g1,g2,g3,g4,k5⟩:=gh;obtain⟨g6,g7⟩:=g3.2 FL;have s6:M e.bk=none:=by
   cases ai:M e.bk with
   |none=>rfl
   |some o=>exact absurd rfl ((@b0.dq (aW M bq) _ _ _ ay e.bk o ai).2 b e he)
  let M':Mem:=λi=>if i=e.bk then some (.cells c' k.ty jk) else M i
  have qH:M' e.bk=some (.cells c' k.ty jk):=aY rfl;have uC:∀i o,M i=some o->M' i=some o:=λi o ai=>by
   show (if i=e.bk then _ else M i)=some o;rw[a' (λh=>by rw[h,s6] at ai;cases ai)];exact ai
  have ki:c'.toList=xs.flatMap enc:=by
   rw[<-p5];refine @aD.xU (aW M bq) φ cs c'.toList fV (by simp [g7]) λi ai=> ?_
   have:=g4 i ai;rw[g6,Nat.zero_add] at this;simpa [fh] using this
  have mY:=dd;unfold cp at mY;have FM:∀b' x,l[b']? =some x->∃dj,st.A.bl.get b'=some dj/\dj.cP=b':=λb' x aq=>by
   split at mY
   ·cases hI:zx l with
    |false=>rw[hI] at mY;cases mY
    |true=>
     rw[hI,bD] at mY;obtain⟨eI,zw,_,bE,_⟩:=uw mY;obtain⟨dj,o,cO,dx,_⟩:=Dn l 0 bE b' x aq;rw[Nat.zero_add] at cO dx;exact⟨dj,cO,dx⟩
   ·cases mY
  have aA:=Here.OA (s2:=aW M' (bj e.bk)) dd (hm M' e.bk) ad ag ay bG fS cE cR (λi o ai=>by
   by_cases qs:i=e.bk
   ·subst qs
    have:some (Obj.cells c' k.ty jk)=some o:=qH.symm.trans ai;cases this;refine⟨g1,λb' e' ef oV heq=> ?_⟩;obtain⟨dj,q1,aH⟩:=FM b' _ (f_ ef);exact @b0.apart (aW M bq) _ _ _ ay b' e' dj b e k oV he q1 al (by rw[aH,oc];omega) heq
   ·have lL:M i=some o:=by
     have:(if i=e.bk then some (Obj.cells c' k.ty jk) else M i)=some o:=ai
     rwa [a' qs] at this
    obtain⟨q1,aH⟩:= @b0.dq (aW M bq) _ _ _ ay i o lL
    exact⟨q1,λb' e' _ oV=>aH b' e' oV⟩) av ar
  have lR:cF M' dj enc (.slice (some ⟨e.bk,0,none⟩) n c) xs:=by
   subst Bp;refine .mk qH iz λi x aq j u hu=> ?_
   have:=zD xZ xs i x aq j u hu;rw[<-ki] at this;rw[Nat.zero_add];simpa using this
  refine⟨e.bk,M',lR,bG b e he,(by rw[qH];simp),λi o ai _=>uC i o ai,s6,?_⟩;obtain⟨⟨fm,DE,ih,hz,uj,sW,vo⟩,C7,AS⟩:=aA;letI:=aW M' (bj e.bk);refine⟨⟨fm,DE,ih,⟨hz.size,hz.defers,λdt aB mA=> ?_⟩,uj,sW,vo⟩,C7,AS⟩;rw[bV.ob _ _ _ _ _ _ fg] at mA;split at mA
  ·rename_i aL
   cases mA;subst aL;rw[hp0];refine .agg _ _ (by simpa using cr) λi ai=> ?_
   have DP:i<gD.length:=by simpa using ai
   by_cases oj:i=lX
   ·subst oj
    have e9:(⟨gD.set i (ak q)⟩:Array J).getD i undef=ak q:=by
     rw[Xq,dp,List.getElem?_set_self DP];rfl
    rw[e9,hp];have:=aD.sym (φ:=fm) q;have po:a1.σ q=Value.slice (some ⟨e.bk,0,none⟩) n c:=bb e.bk;rw[po] at this;rw[g6,Nat.zero_add];exact this
   ·have e:(⟨gD.set lX (ak q)⟩:Array J).getD i undef=gD.getD i undef:=by
     rw[Xq,dp,dp,List.getElem?_set_ne (Ne.symm oj)]
    rw[e];have BC:gD[i]? =some (gD.getD i undef):=by
     rw[f_ DP,dp,f_ DP];rfl
    have qx:=fB i _ BC oj;have xF:=Xs i DP;have Xt:= @aD.k6 (aW M bq) _ _ _ qx xF;rw[Xt];exact aD.kq fm _ qx
  ·exact hz.get dt aB mA
theorem Xu [cS] {α:Type} {P:aR} {N B:Nat} {w0:ax} {Q:Exit->Act->ax->Prop} {M:Mem} {bq:List J} {bj:Nat->List J} {o:Option bY} {sl dN:aF} {l:List bu} {bL:eE} {b t q n c dj:Nat} {cs:List J} {enc:α->List J} {xs:List α} {gD:List J} {lX:Nat}
  (h:Kt o b t lX=some (cs,n,c,gD)) (xZ:∀x,(enc x).length=dj) (Bp:xs.length=n) (e_:0<n) (iz:n<=c) (fV:dL cs=true) (p5: @eo (aW M bq) cs=xs.flatMap enc) (af:l.length<=b)
  (dd:cp (b7 o) sl l=some bL) (hm:∀M' g,fP (aW M bq) (aW M' (bj g)) bL) (fg:bV.set (.agg ⟨gD.set lX (ak q)⟩) depth sl t=some dN) (bb:∀g,me (bj g) q= .slice (some ⟨g,0,none⟩) n c)
  (rest:∀M' g,cF M' dj enc (.slice (some ⟨g,0,none⟩) n c) xs->B<=g->M' g≠none->h7 M M' none->M g=none-> @fy (aW M' (bj g)) _ P N B w0 Q (ld {sl:=dN,ms:=[],A:=c6 l} o))
  (av:cS.eu<=l.length:=by first|exact Nat.zero_le _|exact gG rfl) (ar:iy (b7 o).A l 0:=by exact gX rfl): @fy (aW M bq) _ P N B w0 Q o:=by
 unfold Kt at h;split at h
 ·rename_i op r ops s ks
  split at h
  ·rename_i k al
   split at h
   ·rename_i cs' fK
    cases jH:(Nat.beq k.eN 0&&(Nat.beq k.cP b&& !k.ro)) with
    |false=>rw[jH] at h;cases h
    |true=>
     rw[jH,bD] at h;simp only [c7] at jH;split at h
     ·rename_i ahy yp
      split at h
      ·rename_i b' ga c' mS
       cases oU:(Nat.beq b' b&&Gj ahy lX 0) with
       |false=>rw[oU] at h;cases h
       |true=>
        rw[oU,bD] at h;simp only [c7] at oU;cases h;have FN:=cH oU.1;subst FN;refine⟨_,rfl,λa w ah=> ?_⟩;obtain⟨g,M',q1,aH,bW,et,gN,j_⟩:=Here.ahw xZ Bp e_ iz ah al fK (cH jH.1) (cH jH.2.1) fV p5 af yp mS (λi v ai cW=>Xr _ lX 0 oU.2 i v ai aj) dd hm fg bb av ar;obtain⟨agd,e',ok⟩:=rest M' g q1 aH bW et gN;unfold ld at e';cases e';exact ok a w j_
      ·cases h
     ·cases h
   ·cases h
  ·cases h
 ·cases h
def Xv (P:aR) (N m:Nat) (cq:List Nat) (cs kv:List (Nat×J)) (o:Option bY) (i:Nat):Option (FuncId×List J):=
 match (gP o)[i]? with
 |some op=>match op.op with
  | .call c=>match c.callee with
    | .value (.func f)=>bif enters P f then some (f,c.args.toList.map (dH .nil (o4 P N m cq cs kv o i))) else none
    |_=>none
  |_=>none
 |none=>none
theorem xb.call [a1] {Y:Type} {P:aR} {M:Mem} {B N m k i:Nat} {cq:List Nat} {cs kv:List (Nat×J)} {o:Option bY} {f:FuncId} {args:List J} {ca:List cc} {rv:Nat->Y->J} {xd sq:Y->List cc} (h:Xv P N m cq cs kv o i=some (f,args)) (hp:dL args=true)
  (fA:∀(w:ax) (y:Y),(∀i o,M i=some o->¬iI ca i->w.heap[i]? =some o)->B<=w.heap.size->cG (aG w) (xd y)->Calls P f ⟨eo args⟩ w λe' w'=>(∃fN,e'= .returned (rv k fN)/\cV (aG w) (xd y) (aG w') (sq fN)/\∀idx,idx<k->rv idx fN=rv idx y)/\cg 0 w w'):
  ∃op,(gP o)[i]? =some op/\xb P B M ca (gP o) cq rv k op (o4 P N m cq cs kv o i) xd sq:=by
 unfold Xv at h;split at h
 ·rename_i op cy
  split at h
  ·rename_i c vG
   split at h
   ·rename_i ij pS
    cases he:enters P ij with
    |false=>rw[he] at h;cases h
    |true=>
     rw[he,bD] at h;simp only [cN,Prod.mk.injEq] at h;obtain⟨rfl,rfl⟩:=h;refine⟨op,cy,λa w K Q y oY kF bt cT jW cv=> ?_⟩;have gK:c.args.map a.eval=⟨eo (c.args.toList.map (dH .nil (o4 P N m cq cs kv o i)))⟩:=by
      have:=ON oY c.args.toList hp;rw[<-this];apply Array.ext';simp
     have fw:(execOp a.eval op).run P w= .ok (.enter ij ⟨eo (c.args.toList.map (dH .nil (o4 P N m cq cs kv o i)))⟩) w:=by
      unfold execOp;rw[vG];simp only;refine c4 (a:={target:= .fn (.func ij) #[],args:= #[]++c.args.map a.eval}) (by unfold resolve;rw[pS];rfl) ?_;simp only [Array.empty_append,gK];show (callFunc ij (_++ #[])).run P w=_;rw[Array.append_empty];exact jz (EY he _) w
     have fz:∀c',op.op≠.defer c':=λc' h=>by rw[vG] at h;cases h
     refine⟨λ_ _=>trivial,?_⟩;rw[Oper.semAt_eq _ _ _ fz,fw,Oper.uponIn_enter];refine⟨λh=>absurd h (by simp [Fr,Fence.wide]),?_⟩;refine CallsIn.mono (CY (fA w y bt cT jW)) λe' w2 he=> ?_
     obtain⟨⟨fN,rfl,cO,dx⟩,hl⟩:=he;exact cv fN w2 cO hl dx
   ·cases h
  ·cases h
 ·cases h
end AE
namespace AE
mutual
theorem Xw (s1 s2:a1) (h:s1.σ=s2.σ):∀v:J,@aJ s1 v= @aJ s2 v:=λv=>by
 unfold aJ;split
 ·rw[h]
 ·rw[Xw s1 s2 h]
 ·rw[Gl s1 s2 h]
 ·rw[Gl s1 s2 h]
 ·rw[Gl s1 s2 h,Gl s1 s2 h]
 ·rfl
theorem Gl (s1 s2:a1) (h:s1.σ=s2.σ):∀l:List J,@eo s1 l= @eo s2 l
 |[]=>rfl
 |v::r=>by
  unfold eo;rw[Xw s1 s2 h v,Gl s1 s2 h r]
end
def aoV (P:aR) (N m:Nat) (cq:List Nat) (cs kv:List (Nat×J)) (o:Option bY) (i:Nat):Option gd:=
 match (gP o)[i]? with
 |some op=>qy (dH .nil (o4 P N m cq cs kv o i)) op
 |none=>none
def Pj (ops:Array Oper) (cq:List Nat) (k:Nat) (x:Operand):J ⊕ Nat:=match x with
 | .tmp t=>match (List.range k).find? (λq=>match cq[q]? with|some j=>(match fx ops j with|some dt=>Nat.beq dt t|none=>false)|none=>false) with
   |some q=> .inr q
   |none=> .inl cu
 |_=> .inl cu
def yy (ops:Array Oper) (cq:List Nat) (k:Nat) (sl:aF) (x:Operand):J ⊕ Nat:=
 bif aM (dH .nil sl x) then .inl (dH .nil sl x) else Pj ops cq k x
def DQ:List (J ⊕ Nat)->Bool
 |[]=>true
 | .inl v::r=>aM v&&DQ r
 | .inr _::r=>DQ r
def zT [a1] {Y:Type} (rv:Nat->Y->J) (y:Y):List (J ⊕ Nat)->List J
 |[]=>[]
 | .inl v::r=>aJ v::zT rv y r
 | .inr q::r=>rv q y::zT rv y r
theorem Xx [a1] {Y:Type} {ops:Array Oper} {cq:List Nat} {k:Nat} {sl:aF} {a:Act} {rv:Nat->Y->J} {y:Y} (oY:∀x:Operand,aM (dH .nil sl x)=true->a.eval x=aJ (dH .nil sl x))
  (kF:∀(idx i:Nat) (t:Tmp),idx<k->cq[idx]? =some i->fx ops i=some t->a.tmps.getD t undef=rv idx y):∀(l:List Operand),DQ (l.map (yy ops cq k sl))=true->l.map a.eval=zT rv y (l.map (yy ops cq k sl))
 |[],_=>rfl
 |x::l,h=>by
  have cz:=Xx (ops:=ops) (cq:=cq) (k:=k) (sl:=sl) oY kF l;rw[List.map_cons,List.map_cons];rw[List.map_cons] at h;cases af:aM (dH .nil sl x) with
  |true=>
   have e:yy ops cq k sl x= .inl (dH .nil sl x):=by unfold yy;rw[af];rfl
   rw[e] at h ⊢;unfold DQ at h;simp only [c7] at h;unfold zT;rw[oY x af,cz h.2]
  |false=>
   have e0:yy ops cq k sl x=Pj ops cq k x:=by unfold yy;rw[af];rfl
   unfold Pj at e0;cases x with
   |tmp t=>
    simp only at e0;split at e0
    ·rename_i q bb
     rw[e0] at h ⊢;unfold DQ at h;unfold zT;have ad:=List.find?_some bb;have ag:=List.mem_range.1 (List.mem_of_find?_eq_some bb);split at ad
     ·rename_i j hj
      split at ad
      ·rename_i dt aL
       have:=cH ad;subst this;rw[cz h,<-kF q j dt ag hj aL];rfl
      ·cases ad
     ·cases ad
    ·rw[e0] at h;cases h
   |_=>rw[e0] at h;cases h
def DR (P:aR) (N m:Nat) (cq:List Nat) (cs kv:List (Nat×J)) (o:Option bY) (k i:Nat):Option (FuncId×List (J ⊕ Nat)):=
 match (gP o)[i]? with
 |some op=>match op.op with
  | .call c=>match c.callee with
    | .value (.func f)=>bif enters P f then some (f,c.args.toList.map (yy (gP o) cq k (o4 P N m cq cs kv o i))) else none
    |_=>none
  |_=>none
 |none=>none
theorem xb.Ku [a1] {Y:Type} {P:aR} {M:Mem} {B N m k i:Nat} {cq:List Nat} {cs kv:List (Nat×J)} {o:Option bY} {f:FuncId} {args:List (J ⊕ Nat)} {ca:List cc} {rv:Nat->Y->J} {xd sq:Y->List cc} (h:DR P N m cq cs kv o k i=some (f,args)) (hp:DQ args=true)
  (fA:∀(w:ax) (y:Y),(∀i o,M i=some o->¬iI ca i->w.heap[i]? =some o)->B<=w.heap.size->cG (aG w) (xd y)->Calls P f ⟨zT rv y args⟩ w λe' w'=>(∃fN,e'= .returned (rv k fN)/\cV (aG w) (xd y) (aG w') (sq fN)/\∀idx,idx<k->rv idx fN=rv idx y)/\cg 0 w w'):
  ∃op,(gP o)[i]? =some op/\xb P B M ca (gP o) cq rv k op (o4 P N m cq cs kv o i) xd sq:=by
 unfold DR at h;split at h
 ·rename_i op cy
  split at h
  ·rename_i c vG
   split at h
   ·rename_i ij pS
    cases he:enters P ij with
    |false=>rw[he] at h;cases h
    |true=>
     rw[he,bD] at h;simp only [cN,Prod.mk.injEq] at h;obtain⟨rfl,rfl⟩:=h;refine⟨op,cy,λa w K Q y oY kF bt cT jW cv=> ?_⟩;have gK:c.args.map a.eval=⟨zT rv y (c.args.toList.map (yy (gP o) cq k (o4 P N m cq cs kv o i)))⟩:=by
      have:=Xx oY kF c.args.toList hp;rw[<-this];apply Array.ext';simp
     have fw:(execOp a.eval op).run P w= .ok (.enter ij ⟨zT rv y (c.args.toList.map (yy (gP o) cq k (o4 P N m cq cs kv o i)))⟩) w:=by
      unfold execOp;rw[vG];simp only;refine c4 (a:={target:= .fn (.func ij) #[],args:= #[]++c.args.map a.eval}) (by unfold resolve;rw[pS];rfl) ?_;simp only [Array.empty_append,gK];show (callFunc ij (_++ #[])).run P w=_;rw[Array.append_empty];exact jz (EY he _) w
     have fz:∀c',op.op≠.defer c':=λc' h=>by rw[vG] at h;cases h
     refine⟨λ_ _=>trivial,?_⟩;rw[Oper.semAt_eq _ _ _ fz,fw,Oper.uponIn_enter];refine⟨λh=>absurd h (by simp [Fr,Fence.wide]),?_⟩;refine CallsIn.mono (CY (fA w y bt cT jW)) λe' w2 he=> ?_
     obtain⟨⟨fN,rfl,cO,dx⟩,hl⟩:=he;exact cv fN w2 cO hl dx
   ·cases h
  ·cases h
 ·cases h
theorem Kv {Y Z:Type} {P:aR} {f:FuncId} {args:Array J} {w:ax} {rv:Nat->Y->J} {k:Nat} {y:Y} {L nZ:List cc} {sq:Y->List cc} {r:Z->J} (aw:cG (aG w) L) (is:List Nat) (ik:kl L.length is=true) (hp:AE.pick L is=nZ) (km N w8:Z->List cc) (hl:∀z,(km z).length=is.length) (bG:∀z,w8 z=km z++N z)
  (up:Z->Y) (ad:∀z,rv k (up z)=r z) (ag:∀z,sq (up z)=lD L is (km z)++N z) (ay:∀z idx,idx<k->rv idx (up z)=rv idx y)
  (h:Calls P f args w λe' w'=>(∃z,e'= .returned (r z)/\cV (aG w) nZ (aG w') (w8 z))/\cg 0 w w'):
  Calls P f args w λe' w'=>(∃fN,e'= .returned (rv k fN)/\cV (aG w) L (aG w') (sq fN)/\∀idx,idx<k->rv idx fN=rv idx y)/\cg 0 w w':=by
 refine h.mono λe w' he=> ?_
 obtain⟨⟨z,rfl,t⟩,vF⟩:=he;refine⟨⟨up z,by rw[ad],?_,ay z⟩,vF⟩;rw[ag];rw[bG] at t;exact cV.lift aw is ik hp (hl z) t
theorem Kw {p:Nat->Prop} (idx:Nat) (h:idx<0):p idx:=absurd h (Nat.not_lt_zero _)
theorem Xy {p:Nat->Prop} {k:Nat} (ad:∀idx,idx<k->p idx) (ag:p k) (idx:Nat) (h:idx<k+1):p idx:=by
 rcases Nat.lt_or_ge idx k with ay|ay
 ·exact ad idx ay
 ·have:idx=k:=by omega
  subst this;exact ag
theorem ahz {p:Nat->J->Prop} {j:Nat} {u:J} {l:List (Nat×J)} (h:p j u) (hl:∀i v,qb l i=some v->p i v):∀i v,qb ((j,u)::l) i=some v->p i v:=λi v ai=>by
 unfold qb at ai;cases af:Nat.beq j i with
 |true=>
  rw[af,bD] at ai;cases ai;rw[<-cH af];exact h
 |false=>
  rw[af,eB] at ai;exact hl i v ai
theorem Kx {Y:Type} {rv:Nat->Y->J} {cs:List (Nat×J)} {k i:Nat} {u:J} (h:qb cs i=some u) (hp:plain u=true) (ao:∀y,rv k y=u):∀v,qb cs i=some v->plain v=true/\∀y,rv k y=v:=λv aC=>by
 rw[h] at aC;cases aC;exact⟨hp,ao⟩
section
variable [a1] {P:aR}
theorem aT.Xz {t:aK} {x:J} {a:Addr} (aq:aM x=true) (aL:P.underlying t=some (.pointer (P.pointee t))) (ex:aJ x= .pointer (some a)):aT P (.bin .eql t x (.pointer none),.bool false):=
 uy (b:= .pointer none) aq U U ex rfl λd_ ea w=>by unfold gk;simp [eqGuard,run_eql_pointer_nil w t (some a) aL];rfl
end
theorem DS {P:aR} {f:FuncId} {args:Array J} {w:ax} {v:J} {L:List cc} (aw:cG (aG w) L) (h:Calls P f args w λe w'=>e= .returned v/\cg w.heap.size w w'):
  Calls P f args w λe w'=>(∃_:Unit,e= .returned v/\cV (aG w) L (aG w') L)/\cg 0 w w':=
 h.mono λe w' he=>by
   obtain⟨rfl,hl⟩:=he;have al:∀i o,aG w i=some o->aG w' i=some o:=λi o ai=>by
    rw[show aG w' i=aG w i from hl.block i (Array.getElem?_eq_some_iff.1 ai).1];exact ai
   exact⟨⟨(),rfl,aw.mono λb o _ h=>al b o h,λi o ai _=>al i o ai,λb af=> .inl af⟩,hl.zero⟩
def ky {α:Type} (p:Nat->α->Prop):Nat->List α->Prop
 |_,[]=>True
 |q,x::l=>p q x/\ky p (q+1) l
theorem ky.nil {α:Type} {p:Nat->α->Prop} {q:Nat}:ky p q []:=trivial
theorem ky.cons {α:Type} {p:Nat->α->Prop} {q:Nat} {x:α} {l:List α} (h:p q x) (t:ky p (q+1) l):ky p q (x::l):=⟨h,t⟩
theorem ky.get {α:Type} {p:Nat->α->Prop}:∀{q:Nat} {l:List α},ky p q l->∀k i,l[k]? =some i->p (q+k) i
 |q,[],_,k,i,ai=>by simp at ai
 |q,x::l,h,k,i,ai=>by
  match k with
  |0=>simp only [List.getElem?_cons_zero,cN] at ai;subst ai;exact h.1
  |k+1=>
   have:=ky.get h.2 k i (by simpa using ai);rw[show q+(k+1)=q+1+k by omega];exact this
def uI (p:Nat->J->Prop):List (Nat×J)->Prop
 |[]=>True
 |x::l=>p x.1 x.2/\uI p l
theorem uI.nil {p:Nat->J->Prop}:uI p []:=trivial
theorem uI.cons {p:Nat->J->Prop} {j:Nat} {u:J} {l:List (Nat×J)} (h:p j u) (t:uI p l):uI p ((j,u)::l):=⟨h,t⟩
theorem uI.get {p:Nat->J->Prop}:∀{l:List (Nat×J)},uI p l->∀i v,qb l i=some v->p i v
 |[],_,i,v,h=>by cases h
 |(j,u)::l,h,i,v,ai=>ahz (p:=p) h.1 (uI.get h.2) i v ai
theorem XA [cS] {P:aR} {N B:Nat} {w0:ax} {Q:Exit->Act->ax->Prop} {M:Mem} {bq:List J} {Y:Type} {bj:Y->List J} {o:Option bY} {m:Nat} {dy cs kv:List (Nat×J)} {cq:List Nat} {L:Nat->Y->List cc} {rv:Nat->Y->J} {eb dI:aF} {aZ:List bu} {bL:eE} {dE:Mem} {az n0 ca:List cc}
  (aI:bI B dE az M n0) (is:List Nat) (va:dy.map (·.1)=cq) (ik:kl n0.length is=true) (hp:AE.pick n0 is=ca)
  (cQ:P.follows .mixedOrders=true) (h:(Bz P N m cq cs kv o).isSome=true) (fz:cq.Nodup) (vf:Y) (Kb:L 0 vf=ca)
  (fV:ky (λk i=>∀v,qb cs i=some v->plain v=true/\∀y,rv k y=v) 0 cq)
  (BB:uI (λi v=>aM v=true/\∃op,(gP o)[i]? =some op/\ @Xl (aW M bq) P M ca op (o4 P N m cq cs kv o i) v) kv)
  (jV:ky (λk i=>∃op,(gP o)[i]? =some op/\ @xb (aW M bq) Y P B M ca (gP o) cq rv k op (o4 P N m cq cs kv o i) (L k) (L (k+1))) 0 cq)
  (dd:cp (BA P N m cq cs kv o) eb aZ=some bL) (eL:uE N (gP o) dy eb=some dI) (fB:dy.all (λp=>aM p.2)=true)
  (b9:∀y M',ky (λk (p:Nat×J)=> @aJ (aW M' (bj y)) p.2=rv k y) 0 dy) (hm:∀y M',fP (aW M bq) (aW M' (bj y)) bL)
  (rest:∀y M',cV M ca M' (L dy.length y)->∀a7 w,@Here (aW M' (bj y)) _ N {sl:=dI,ms:=[],A:=c6 aZ} B w0 a7 w->wpListIn (Fr none) 0 P (gP o) (dY P (gA o) Q) (yr m o) a7 w)
  (av:cS.eu<=aZ.length:=by first|exact Nat.zero_le _|exact gG rfl) (ar:iy (b7 o).A aZ 0:=by exact gX rfl): @fy (aW M bq) _ P N B w0 Q o:=by
 subst va;exact ahq aI is ik hp cQ h fz vf Kb (λk i v al aC=>by have:=fV.get k i al;rw[Nat.zero_add] at this;exact this v aC) BB.get
  (λk i al=>by have:=jV.get k i al;rw[Nat.zero_add] at this;exact this) dd eL fB (λy M' k p al=>by have:=(b9 y M').get k p al;rw[Nat.zero_add] at this;exact this) hm rest av ar
end AE
namespace AE
def look:List J->Nat->Nat->J
 |[],_,_=> .bool false
 |v::r,n,k=>bif Nat.beq (n-1) k then v else look r (n-1) k
def gg:List J->Prop
 |[]=>True
 |v::r=>oZ v=v/\gg r
theorem DT:∀{l:List J},gg l->∀v∈l,oZ v=v
 |[],_,v,aC=>by cases aC
 |x::r,h,v,aC=>by
  rcases List.mem_cons.1 aC with rfl|aC
  ·exact h.1
  ·exact DT h.2 v aC
theorem Ky:∀{l:List J},(∀v∈l,oZ v=v)->gg l
 |[],_=>trivial
 |x::r,h=>⟨h x (by simp),Ky λv aC=>h v (List.mem_cons_of_mem _ aC)⟩
theorem tk {a b:List J} (ha:gg a) (af:gg b):gg (a++b):=Ky λv aC=>by
 rcases List.mem_append.1 aC with h|h
 ·exact DT ha v h
 ·exact DT af v h
theorem qM {a:List J} (ha:gg a):gg a.reverse:=Ky λv aC=>DT ha v (by simpa using aC)
theorem Kz:∀(env:List J) (n k:Nat),env.length=n->look env n k=env.reverse.getD k (.bool false)
 |[],n,k,_=>by simp [look]
 |v::r,n,k,h=>by
  simp only [List.length_cons] at h;unfold look;rw[List.reverse_cons,dp];by_cases al:k=r.length
  ·subst al
   rw[show Nat.beq (n-1) r.length=true by rw[show n-1=r.length by omega];exact Nat.beq_refl _,bD,List.getElem?_append_right (by simp)];simp
  ·rw[show Nat.beq (n-1) k=false by cases af:Nat.beq (n-1) k with|false=>rfl|true=>exact absurd (cH af) aj,eB,Kz r (n-1) k aj,dp]
   by_cases ck:k<r.length
   ·rw[List.getElem?_append_left (by simpa using ck)]
   ·rw[List.getElem?_eq_none (by simpa using by omega),List.getElem?_eq_none (by simp;omega)]
mutual
def ex (env:List J) (n:Nat):J->J
 | .complex .f64 k b=>bif Nat.beq b 0 then (bif Nat.blt k eZ then look env n k else .pointer (some ⟨k-eZ,0,none⟩)) else .complex .f64 k b
 | .iface t v=> .iface t (ex env n v)
 | .agg ⟨l⟩=> .agg ⟨h9 env n l⟩
 | .tuple ⟨l⟩=> .tuple ⟨h9 env n l⟩
 | .func (.func f) ⟨a⟩ ⟨b⟩=> .func (.func f) ⟨h9 env n a⟩ ⟨h9 env n b⟩
 |v=>v
def h9 (env:List J) (n:Nat):List J->List J
 |[]=>[]
 |v::r=>ex env n v::h9 env n r
end
abbrev cY (M:Mem) (env:List J):a1:=aW M env.reverse
theorem ahA (M:Mem) {env:List J} {n:Nat} (h:gg env) (av:env.length=n) (k:Nat):(cY M env).σ k=bif Nat.blt k eZ then look env n k else .pointer (some ⟨k-eZ,0,none⟩):=by
 show me env.reverse k=_;unfold me;cases al:Nat.blt k eZ with
 |false=>rfl
 |true=>
  rw[bD,bD,Kz env n k av];by_cases ck:k<env.length
  ·rw[dp,f_ (by simpa using ck)]
   exact DT (qM h) _ (List.getElem_mem (by simpa using ck))
  ·rw[dp,List.getElem?_eq_none (by simpa using by omega)]
   rfl
mutual
theorem ml (M:Mem) {env:List J} {n:Nat} (h:gg env) (av:env.length=n):∀v:J,@aJ (cY M env) v=ex env n v:=by
 intro v;unfold aJ ex;split
 ·rename_i k b
  dsimp only;cases Nat.beq b 0 with
  |true=>rw[bD,bD];exact ahA M h av k
  |false=>rfl
 ·dsimp only;rw[ml M h av]
 ·dsimp only;rw[tl M h av]
 ·dsimp only;rw[tl M h av]
 ·dsimp only;rw[tl M h av,tl M h av]
 ·rename_i ad ag ay bG cE
  split
  ·exact absurd rfl (ad _ _)
  ·exact absurd rfl (ag _ _)
  ·exact absurd rfl (ay _)
  ·exact absurd rfl (bG _)
  ·exact absurd rfl (cE _ _ _)
  ·rfl
theorem tl (M:Mem) {env:List J} {n:Nat} (h:gg env) (av:env.length=n):∀l:List J,@eo (cY M env) l=h9 env n l
 |[]=>rfl
 |v::r=>by
  unfold eo h9;rw[ml M h av,tl M h av]
end
mutual
def kN (n:Nat):J->Bool
 | .complex .f64 k b=>bif Nat.beq b 0 then Nat.blt k n|| !Nat.blt k eZ else true
 | .iface _ v=>kN n v
 | .agg ⟨l⟩=>o5 n l
 | .tuple ⟨l⟩=>o5 n l
 | .func (.func _) ⟨a⟩ ⟨b⟩=>o5 n a&&o5 n b
 |_=>true
def o5 (n:Nat):List J->Bool
 |[]=>true
 |v::r=>kN n v&&o5 n r
end
mutual
theorem nh {n m:Nat} (hle:n<=m):∀v:J,kN n v=true->kN m v=true:=by
 intro v h;unfold kN at h ⊢;split at h
 ·rename_i k b
  cases af:Nat.beq b 0 with
  |true=>
   rw[af,bD,Bool.or_eq_true] at h;rw[bD,Bool.or_eq_true];rcases h with h|h
   ·exact .inl (Nat.blt_eq.mpr (Nat.lt_of_lt_of_le (Nat.blt_eq.mp h) hle))
   ·exact .inr h
  |false=>rfl
 ·exact nh hle _ h
 ·exact DU hle _ h
 ·exact DU hle _ h
 ·rename_i a b
  simp only [c7] at h ⊢;exact⟨DU hle _ h.1,DU hle _ h.2⟩
 ·rfl
theorem DU {n m:Nat} (hle:n<=m):∀l:List J,o5 n l=true->o5 m l=true
 |[],_=>rfl
 |v::r,h=>by
  unfold o5 at h ⊢;simp only [c7] at h ⊢;exact⟨nh hle v h.1,DU hle r h.2⟩
end
def n5 (n:Nat) (s1 s2:a1):Prop:=∀k,k<n\/eZ<=k->s1.σ k=s2.σ k
mutual
theorem kO {n:Nat} {s1 s2:a1} (ha:n5 n s1 s2):∀v:J,kN n v=true-> @aJ s1 v= @aJ s2 v:=by
 intro v h;unfold kN at h;unfold aJ;split at h
 ·rename_i k b
  dsimp only;cases af:Nat.beq b 0 with
  |true=>
   rw[af,bD] at h;rw[bD,bD];refine ha k ?_;rw[Bool.or_eq_true] at h;rcases h with h|h
   ·exact .inl (Nat.blt_eq.mp h)
   ·refine .inr ?_
    have:¬k<eZ:=λal=>by rw[Nat.blt_eq.mpr al] at h;cases h
    omega
  |false=>rfl
 ·dsimp only;rw[kO ha _ h]
 ·dsimp only;rw[BD ha _ h]
 ·dsimp only;rw[BD ha _ h]
 ·rename_i a b
  dsimp only;simp only [c7] at h;rw[BD ha _ h.1,BD ha _ h.2]
 ·rename_i ad ag ay bG cE
  split
  ·exact absurd rfl (ad _ _)
  ·exact absurd rfl (ag _ _)
  ·exact absurd rfl (ay _)
  ·exact absurd rfl (bG _)
  ·exact absurd rfl (cE _ _ _)
  ·rfl
theorem BD {n:Nat} {s1 s2:a1} (ha:n5 n s1 s2):∀l:List J,o5 n l=true-> @eo s1 l= @eo s2 l
 |[],_=>rfl
 |v::r,h=>by
  unfold o5 at h;simp only [c7] at h;unfold eo;rw[kO ha v h.1,BD ha r h.2]
end
theorem uJ (M M':Mem) {env dc:List J} {n:Nat} (av:env.length=n):n5 n (cY M env) (cY M' (dc++env)):=by
 intro k al;show me env.reverse k=me (dc++env).reverse k;unfold me;cases af:Nat.blt k eZ with
 |false=>rfl
 |true=>
  rw[bD,bD];have ck:=Nat.blt_eq.mp af;have dB:k<env.length:=by omega
  congr 1;rw[List.reverse_append,dp,dp,List.getElem?_append_left (by simpa using dB)]
structure js (P:aR) where
 α:Type
 KA:α
 e:aK
 k:Nat
 bytes:Nat
 enc:α->List J
 len:∀x,(enc x).length=k
 one:∀x,∀u∈enc x,u.oneCell'=true
 pos:0<k
 size:bg P (sizeOf e)=some k
 info:∃i z,P.info? e=some i/\i.zero=some z/\i.size=k/\i.bytes=bytes/\z.cells.size=k
variable {P:aR}
structure jc (P:aR) where
 K:js P
 v:J
 l:List K.α
def jc.ok (r:jc P) (M:Mem):Prop:=cF M r.K.k r.K.enc r.v r.l
inductive bs (P:aR) where
 |box (g:Nat) (ty:aK) (cs:List J)
 |arr (K:js P) (v:J) (l:List K.α)
 |iT (K:js P) (v:J) (l:List K.α)
 |red (K:js P) (v:J) (l:List K.α)
 |any (R:cc)
def bs.res:bs P->cc
 | .box g ty cs=>dW g ty cs
 | .arr K v l=>ht K.e K.k K.enc v l
 | .iT K v l=>nI K.e K.k K.enc v l
 | .red K v l=>p3 K.k K.enc v l
 | .any R=>R
abbrev db (L:List (bs P)):List cc:=L.map bs.res
def bs.XB:bs P->Option (jc P)
 | .arr K v l=>some ⟨K,v,l⟩
 | .iT K v l=>some ⟨K,v,l⟩
 | .red K v l=>some ⟨K,v,l⟩
 |_=>none
theorem lY {L:List (bs P)} {i:Nat} {r:bs P} (h:L[i]? =some r):(db L)[i]? =some r.res:=by
 rw[List.getElem?_map,h];rfl
def hi (ro:List (jc P)) (M:Mem):Prop:=∀(i:Nat) (r:jc P),ro[i]? =some r->r.ok M
def pE (dE:Mem) (az:List cc) (M:Mem):Prop:=∀i o,dE i=some o->¬iI az i->M i=some o
theorem Pk {B:Nat} {dE M:Mem} {az:List cc} {L:List (bs P)} (h:bI B dE az M (db L)) {i:Nat} {d:bs P} (ai:L[i]? =some d) {r:jc P} (ao:d.XB=some r):r.ok M:=by
 have aA:=lY ai;cases d<;>cases ao
 ·exact(h.arr i aA).arr (js.len _)
 ·exact(h.iT i aA).arr (js.len _)
 ·exact h.red i aA
theorem Pl {M:Mem} {L:List (bs P)} (h:cG M (db L)) {i:Nat} {d:bs P} (ai:L[i]? =some d) {r:jc P} (ao:d.XB=some r):r.ok M:=by
 have aA:=lY ai;cases d<;>cases ao
 ·exact(h.arr i aA).arr (js.len _)
 ·exact(h.iT i aA).arr (js.len _)
 ·exact h.red i aA
theorem Gm {B:Nat} {dE M:Mem} {az L:List cc} (h:bI B dE az M L):pE dE az M:=λ_ _ ai av=>h.kept ai av
end AE
namespace AE
def Gn:List (Nat×Operand)->Nat->Bool
 |[],_=>true
 |p::r,i=>Nat.beq p.1 i&&Gn r (i+1)
def Pm:Option bY->Option (aK×List J)
 |some (.oper o _ ops s _)=>match o.op with
  | .buildSlice t n ⟨ps⟩=>bif Gn ps 0&&(Nat.beq ps.length n&&(Nat.blt 0 n&&Nat.ble n 1000)) then match q8 ops o s.sl with
    |some true=>some (t,ps.map λp=>dH .nil s.sl p.2)
    |_=>none
    else none
  |_=>none
 |_=>none
def Gp:Nat->List J->List (Nat×J)
 |_,[]=>[]
 |i,u::r=>(i,u)::Gp (i+1) r
theorem XC {f:Operand->J}:∀(ps:List (Nat×Operand)) (i:Nat),Gn ps i=true->ps.map (λp=>(p.1,f p.2))=Gp i (ps.map λp=>f p.2)
 |[],_,_=>rfl
 |p::r,i,h=>by
  unfold Gn at h;rw[c7] at h;rw[List.map_cons,List.map_cons,cH h.1,XC r (i+1) h.2];rfl
theorem XD:∀(l:List J) (off k:Nat) (cs:Array J),off+k+l.length<=cs.size->((l.zipIdx k).foldl (λ(cs:Array J) (p:J×Nat)=>cs.setIfInBounds (off+p.2) p.1) cs).toList=cs.toList.take (off+k)++l++cs.toList.drop (off+k+l.length)
 |[],off,k,cs,h=>by simp
 |u::l,off,k,cs,h=>by
  simp only [List.zipIdx_cons,List.foldl_cons];simp only [List.length_cons] at h;rw[XD l off (k+1) _ (by simp only [Array.size_setIfInBounds];omega)];have al:off+k<cs.toList.length:=by rw[Array.length_toList];omega
  rw[Array.toList_setIfInBounds,List.take_set,List.drop_set,aY aj,show off+(k+1)=off+k+1 by omega];rw[List.take_add_one,f_ al];rw[List.set_append_right _ _ (by rw[List.length_take];omega)];simp only [List.length_take,Option.toList_some];rw[show off+k-min (off+k) cs.toList.length=0 by omega];simp only [List.set_cons_zero,List.length_cons];rw[show off+k+1+l.length=off+k+(l.length+1) by omega];simp
theorem XE {k:Nat}:∀(us:List J) (i0:Nat) (cs:Array J),(∀u∈us,u.cells.size=k)->cs.size=(i0+us.length)*k->∃r,Instr.fill (λi=>some (i*k,k)) cs (Gp i0 us)=some r/\r.toList=cs.toList.take (i0*k)++us.flatMap (λu=>u.cells.toList)
 |[],i0,cs,_,ar=>⟨cs,rfl,by
  rw[List.flatMap_nil,List.append_nil,List.take_of_length_le];rw[Array.length_toList,ar]
  exact cj _⟩
 |u::us,i0,cs,hu,ar=>by
  have al:=hu u List.mem_cons_self;simp only [List.length_cons] at ar;have Gq:cs.size=i0*k+k+us.length*k:=by
   rw[ar,Nat.add_mul,Nat.add_mul];omega
  unfold Gp Instr.fill;dsimp only;rw[a' (by simp only [al,Gq];simp)];have aw:=XD u.cells.toList (i0*k) 0 cs (by rw[Array.length_toList];omega);rw[Array.length_toList,al,Nat.add_zero] at aw;generalize fV:u.cells.zipIdx.foldl (λcs (x:J×Nat)=>cs.setIfInBounds (i0*k+x.2) x.1) cs=cs';have XF:cs'.toList=cs.toList.take (i0*k)++u.cells.toList++cs.toList.drop (i0*k+k):=by
   rw[<-fV,<-aw,<-Array.foldl_toList,Array.toList_zipIdx]
  have hl:cs'.size=(i0+1+us.length)*k:=by
   rw[<-Array.length_toList,XF];simp only [List.length_append,List.length_take,List.length_drop,Array.length_toList,al,Gq];rw[Nat.add_mul,Nat.add_mul];omega
  obtain⟨r,ad,ag⟩:=XE us (i0+1) cs' (λx aq=>hu x (List.mem_cons_of_mem _ aq)) hl;refine⟨r,ad,?_⟩;rw[ag,XF,List.flatMap_cons,<-List.append_assoc];congr 1;have hle:(cs.toList.take (i0*k)++u.cells.toList).length=(i0+1)*k:=by
   simp only [List.length_append,List.length_take,Array.length_toList,al,Gq];rw[Nat.add_mul];omega
  rw[List.take_append_of_le_length (Nat.le_of_eq hle.symm),List.take_of_length_le (Nat.le_of_eq hle)]
theorem XG (env:List J) (n:Nat):∀l:List J,(h9 env n l).length=l.length
 |[]=>rfl
 |_::r=>by unfold h9;rw[List.length_cons,List.length_cons,XG env n r]
theorem XH {α:Type} {k:Nat} {enc:α->List J} (al:∀x,(enc x).length=k):∀(us:List J) (l:List α),us.map Value.cells=l.map (λy=>⟨enc y⟩)->(∀u∈us,u.cells.size=k)/\us.flatMap (λu=>u.cells.toList)=l.flatMap enc/\us.length=l.length
 |[],[],_=>⟨(λu hu=>by cases hu),rfl,rfl⟩
 |u::us,y::l,h=>by
  simp only [List.map_cons,List.cons.injEq] at h;obtain⟨ad,ag,ay⟩:=XH al us l h.2;refine⟨λv aC=> ?_,by rw[List.flatMap_cons,List.flatMap_cons,ag,h.1],by rw[List.length_cons,List.length_cons,ay]⟩;rcases List.mem_cons.1 aC with rfl|aC
  ·rw[h.1];simpa using al y
  ·exact ad v aC
theorem XI [a1] {N:Nat} {ds:List Deferred} {φ:b2} {sl:aF} {a:Act} (h:fD N ds φ sl a):∀(ps:List (Nat×Operand)),dL (ps.map λp=>dH .nil sl p.2)=true->ps.map (λp=>a.eval p.2)=eo (ps.map λp=>dH .nil sl p.2)
 |[],_=>rfl
 |p::r,hp=>by
  have CH:(aM (dH .nil sl p.2)&&dL (r.map λp=>dH .nil sl p.2))=true:=hp;rw[c7] at CH;rw[List.map_cons,List.map_cons];show _=aJ (dH .nil sl p.2)::eo (r.map λp=>dH .nil sl p.2);rw[<-XI h r CH.2,aD.ji _ CH.1 (gV (iG φ) h.get p.2)]
theorem ahB [cS] {α:Type} {P:aR} {N B:Nat} {w0:ax} {Q:Exit->Act->ax->Prop} {M:Mem} {bq:List J} {o:Option bY} {t e:aK} {k:Nat} {z eO:J} {xs us:List J} {enc:α->List J} {l:List α} {bj:Option Addr->Nat->List J} {eb dI:aF} {aZ:List bu} {bL:eE}
  (h:Pm o=some (t,xs)) (aL:P.underlying t=some (.slice e)) (pT:bg P (sizeOf e)=some k) (JZ:bg P (zeroValue e)=some z) (hY:0<k) (og:k<=1000) (al:∀x,(enc x).length=k)
  (dd:cp (b7 o) eb aZ=some bL) (eL:gZ N eb (ka o) eO=some dI) (fB:aM eO=true) (aq:dL xs=true) (ex: @eo (aW M bq) xs=us) (hu:us.map Value.cells=l.map λy=>⟨enc y⟩)
  (hm:∀M' a c,fP (aW M bq) (aW M' (bj a c)) bL) (aC:∀M' a c,@aJ (aW M' (bj a c)) eO= .slice a l.length c)
  (rest:∀M' a c,dw B M' e k enc (.slice a l.length c) l->h7 M M' none->(∀i,some i=eP (.slice a l.length c)->M i=none)->∀a7 w,@Here (aW M' (bj a c)) _ N {sl:=dI,ms:=[],A:=c6 aZ} B w0 a7 w->wpListIn (Fr none) 0 P (kI o) (dY P (gA o) Q) (kH o) a7 w)
  (av:cS.eu<=aZ.length:=by first|exact Nat.zero_le _|exact gG rfl) (ar:iy (b7 o).A aZ 0:=by exact gX rfl): @fy (aW M bq) _ P N B w0 Q o:=by
 letI:=aW M bq;unfold Pm at h;split at h
 ·rename_i op r ops s ks
  refine⟨_,rfl,λa w ah=> ?_⟩;split at h
  ·rename_i dt ga ps cy
   cases af:Gn ps 0&&(Nat.beq ps.length ga&&(Nat.blt 0 ga&&Nat.ble ga 1000)) with
   |false=>rw[af] at h;cases h
   |true=>
    rw[af,bD] at h;simp only [c7] at af;obtain⟨kh,lM,tV,wF⟩:=af;have lM:=cH lM;have tV:=Nat.blt_eq.mp tV;have wF:=Nat.ble_eq.mp wF;split at h
    ·rename_i jK
     cases h;have hE:=ah;obtain⟨⟨φ,ds,ad,ag,ay,bG,_⟩,cE,cR⟩:=ah;unfold wpListIn;rw[pv ag.get jK,aY rfl];obtain⟨hq,c2,c3⟩:=XH al us l hu;have hlen:us.length=ga:=by
      rw[<-ex,MW,List.length_map,List.length_map,lM]
     have o0:ps.map (λp=>a.eval p.2)=us:=(XI ag ps aq).trans ex;have hw:∀i o,M i=some o->w.heap[i]? =some o:=hE.nW;obtain⟨row,f1,f2⟩:=XE us 0 ((Array.range (ga*k)).map (z.cells[· %z.cells.size]!)) hq (by rw[Array.size_map,Array.size_range,Nat.zero_add,hlen]);have f2:row.toList=l.flatMap enc:=by rw[f2,Nat.zero_mul,List.take_zero,List.nil_append,c2]
     let w':ax:={w with heap:=w.heap.push (.cells row e)}
     have Ke:0<ga*k:=Nat.mul_pos tV hY;have aoW:ga*k<=1000000:=Nat.le_trans (Nat.mul_le_mul wF og) cB;have fw:(execOp a.eval op).run P w= .ok (.value (.slice (some ⟨w.heap.size,0,none⟩) ga ga)) w':=by
      unfold execOp;rw[cy];simp only [List.map_toArray];rw[XC ps 0 kh,o0];have af:(Instr.buildSlice t ga (Gp 0 us).toArray).run P w= .ok (.slice (some ⟨w.heap.size,0,none⟩) ga ga) w':=by
       unfold Instr.buildSlice;refine dm (run_underlying aL w) ?_;simp only;refine c4 pT ?_;rw[a' aj];rw[a' aj];refine c4 JZ ?_;refine c4 (a:=z.cells) rfl ?_;simp only [f1];simp [newRow,newObj,Sem.run,w']
      simp only [Sem.run_bind,af,Result.andThen_ok];rfl
     have fz:∀c',op.op≠.defer c':=λc' h=>by rw[cy] at h;cases h
     refine⟨λ_ _=>trivial,?_⟩;rw[Oper.semAt_eq _ _ _ fz,fw,Oper.uponIn_value];obtain⟨q1,aH⟩:=qF (B:=B) (M:=M) (w:=w) (w':=w') (T:=none) (da:=some w.heap.size) hw (λi h=>by cases h) (λi ai=> .inr (by cases ai;exact cj _)) ⟨rfl,rfl,rfl⟩ (cj _) (by simp [w']) (λi ai _=>by
      show (w.heap.push _)[i]? =_
      rw[Array.getElem?_push,a' aj])
     have lz:l.length=ga:=c3.symm.trans hlen;have yj:(l.flatMap enc).length=ga*k:=by rw[rj al l,lz]
     have cM:dw B (h8 M w' none (some w.heap.size)) e k enc (.slice (some ⟨w.heap.size,0,none⟩) l.length ga) l:=by
      refine .inr ⟨w.heap.size,ga,row,rfl,aj,cR,?_,Nat.le_of_eq lz,by simp only [maxLen];omega,by rw[<-Array.length_toList,f2,yj],by rw[f2,lz];exact List.take_of_length_le (Nat.le_of_eq yj)⟩;unfold h8;rw[aY rfl];show (w.heap.push _)[w.heap.size]? =_;rw[Array.getElem?_push,aY rfl]
     have hS:=Here.turns (vals':=bj (some ⟨w.heap.size,0,none⟩) ga) dd (hm _ _ _) q1 av ar hE;letI:=aW (h8 M w' none (some w.heap.size)) (bj (some ⟨w.heap.size,0,none⟩) ga);have lT:=Here.put (d:=op.dst) hS (v:=eO) fB eL;rw[aC,lz] at lT;refine rest _ _ _ cM aH (λj hj=> ?_) _ w' lT;rw[nX _ _ aj] at hj;cases hj;exact zH hw (cj _)
    ·cases h
  ·cases h
 ·cases h
end AE
namespace AE
inductive bZ where
 |o (f:gd) (r:J) (m:Nat) (h:List Nat) (k:bZ)
 |s (f:gd) (h:List Nat) (dg k2:bZ)
 |c (f:FuncId) (args:List J) (r:J) (m:Nat) (k:bZ)
 |cs (f:FuncId) (args:List J) (dg k2:bZ)
 |fR (x:J) (dg k2:bZ)
 |vP (x:J) (dg k2:bZ) (m:Nat) (k:bZ)
 |ret (v:J)
 |back (vs:List J)
 |loop (vs:List J) (m:Nat) (k:bZ)
 |gD (k:bZ)
 |st (t:aK) (p x:J) (k:bZ)
 |yz (t:aK) (s:J) (c:List J) (k:bZ)
 |xe (t:aK) (s x:J) (k:bZ)
 |mk (t:aK) (x:J) (k:bZ)
 |uK (c:List J) (m cap:Nat) (k:bZ)
 |lt (t:aK) (x:J) (k:bZ)
 |tm (t:aK) (x:J) (k:bZ)
 |qN (t:aK) (k:bZ)
 |call (f:FuncId) (args:List J) (r:J) (m:Nat) (k:bZ)
 |no
 |zU (t:aK) (xs:List J) (k:bZ)
 |alt (dg k2:bZ)
 |sd (t:aK) (s:J) (c:List J) (k:bZ)
 |tn (t:aK) (x:J)
inductive jn where
 |k (x:k_) (ks:List fi)
 |ops (r:List Oper) (ops:Array Oper) (ks:List fi)
 |any (bn:Nat) (os:Array Oper) (listed:Array Bool) (ks:List fi)
abbrev j5:=List (gd×J)
abbrev kc:=List (FuncId×List J×J)
def ahC (P:aR) [Lib P] (F:j5) (T:kc) (N bn d:Nat) (ks:List fi) (x:k_) (s:b6):Option bY:= @resume P _ ⟨F⟩ (@s4 P _ ⟨F⟩ ⟨T⟩ .nil bn d) N bn ks x s
def jn.run (P:aR) [Lib P] (F:j5) (T:kc) (N d:Nat):jn->b6->Option bY
 | .k x ks,s=>ahC P F T N 1000 d ks x s
 | .ops r os ks,s=>A8 P F T N 1000 d r os ks s
 | .any ..,_=>none
def jn.lg (P:aR) (Q:Exit->Act->ax->Prop):jn->Act->ax->Prop
 | .k x ks,a,w=>dY P ks Q x.exit' a w
 | .ops r os ks,a,w=>wpListIn (Fr none) 0 P os (dY P ks Q) r a w
 | .any bn os listed ks,a,w=>wpAnyIn (Fr none) 0 P .any os (dY P ks Q) bn listed a w
structure jj where
 sl:aF
 aZ:List bu
 n:Nat
 m:Nat
 ks:List fi
structure DV where
 sr:List FuncId:=[]
 marks:List aK:=[]
 cells:List (Nat×Nat×Nat):=[]
 ahD:List (Nat×Nat):=[]
 KB:List (Nat×List Nat):=[]
 gC:List (Nat×Bool):=[]
 d:Nat:=0
structure jd extends DV where
 N:Nat
 fn:Func
def Gr (l:List aK):j5:=l.map λ(t:Nat)=>(.d' (.int .i64 (t:Int)),.int .i64 (t:Int))
def lZ:Nat->Nat->List J
 |0,_=>[]
 |m+1,n=>ak n::lZ m (n+1)
def Gs (P:aR) (t:aK) (n:Nat):Option (J×Nat):=
 match bg P (isAgg t) with
 |some true=>match bg P (sizeOf t) with
  |some m=>some (.agg ⟨lZ m n⟩,m)
  |none=>none
 |_=>some (ak n,1)
def XJ (P:aR):List aK->Nat->Option (List J×Nat)
 |[],_=>some ([],0)
 |t::r,n=>match Gs P t n with
  |some (v,m)=>match XJ P r (n+m) with
   |some (vs,m')=>some (v::vs,m+m')
   |none=>none
  |none=>none
def ahE (P:aR) (t:aK) (n:Nat):Option (J×Nat):=
 match P.underlying t with
 |some (.tuple c0)=>match XJ P c0.toList n with
  |some (vs,m)=>some (.tuple ⟨vs⟩,m)
  |none=>none
 |_=>Gs P t n
def Gt (P:aR) (t:aK):Bool:=match P.underlying t with|some .bool=>true|_=>false
def Pn (ops:Array Oper) (d:Option Tmp):Bool:=
 match d with
 |none=>false
 |some d=>ops.any λo=>(match o.guard with
   |some (j,_)=>match ops[j]? with
    |some o'=>match o'.dst with
     |some t=>Nat.beq t d
     |none=>false
    |none=>false
   |none=>false)||(match o.op with
   | .pick (.tmp t) _ _=>Nat.beq t d
   |_=>false)
def ahF:BinOp->Bool
 | .eql| .neq| .lss| .leq| .gtr| .geq=>true
 |_=>false
def XK (P:aR) (t:aK):aK:=match P.underlying t with
 |some (.array _ e)=>e
 |some (.slice e)=>e
 |some (.map _ e)=>e
 |_=>0
def XL (P:aR) (n:Nat):gd->Option (J×Nat×Bool)
 | .bin op _ _ _=>some (ak n,1,ahF op)
 | .un op _=>some (ak n,1,decide (op= .not))
 | .bA t _=>(Gs P t n).map λx=>(x.1,x.2,Gt P t)
 | .fX t _ _=>match P.underlying t with
   |some (.array _ e)=>(Gs P e n).map λx=>(x.1,x.2,Gt P e)
   |_=>some (ak n,1,false)
 | .lB t _ _ ok=>(Gs P (XK P t) n).map λx=>bif ok then (.tuple #[x.1,ak (n+x.2)],x.2+1,false) else (x.1,x.2,Gt P (XK P t))
 | .d' _=>none
 |_=>some (ak n,1,false)
def XM (P:aR):gd->List Nat
 | .cn t _ f=>match (P.fieldsOf t)[f]? with
   |some iv=>[iv.offset,iv.type,(bg P (sizeOf iv.type)).getD 0]
   |none=>[]
 | .dG t _ _=>match P.underlying t with
   |some (.array n e)=>[1,n,e,(bg P (sizeOf e)).getD 0]
   |some (.slice e)=>[0,e,(bg P (sizeOf e)).getD 0]
   |_=>[]
 | .bA t _=>[(bg P (sizeOf t)).getD 0]
 | .fX t _ _=>match P.underlying t with
   |some (.array n e)=>[1,n,e,(bg P (sizeOf e)).getD 0]
   |some .string=>[2]
   |_=>[]
 | .mb t _ _ _ _=>match P.underlying t with
   |some (.array n e)=>[1,n,e,(bg P (sizeOf e)).getD 0]
   |some (.slice e)=>[0,e,(bg P (sizeOf e)).getD 0]
   |some .string=>[2]
   |_=>[]
 | .len c0 _ _=>match P.underlying (c0.getD 0 0) with
   |some (.slice e)=>[0,e]
   |some .string=>[2]
   |_=>[]
 |_=>[]
def ss (P:aR) (ops:Array Oper) (o:Oper) (sl:aF) (n:Nat):Option (gd×J×Nat×Bool):=
 match qy (dH .nil sl) o with
 |some f=>bif oq f&&vQ n f then match XL P n f with
   |some (r,m,b)=>some (f,r,m,b&&Pn ops o.dst)
   |none=>none
  else none
 |none=>none
where
 DW (n:Nat):Option J->Bool
  |none=>true
  |some v=>kN n v
 vQ (n:Nat):gd->Bool
  | .bin _ _ x y| .dG _ x y| .fX _ x y| .eY _ _ x y| .lO _ _ x y| .lB _ x y _=>kN n x&&kN n y
  | .un _ x| .d' x| .conv _ _ x| .bA _ x| .cn _ x _| .dM x| .len _ _ x=>kN n x
  | .mb _ x e5 ai eY=>kN n x&&(DW n e5&&(DW n ai&&DW n eY))
def Po (P:aR) [Lib P] (o:Option bY) (ty:aK) (n:Nat):Option (FuncId×List J×J×Nat):=
 match vx P o with
 |some (f,args,_)=>bif dL args&&o5 n args then match ahE P ty n with
   |some (r,m)=>some (f,args,r,m)
   |none=>none
  else none
 |none=>none
def bV.KC (f:J->J):bV J->bV J
 | .nil=> .nil
 | .node v l r=> .node (v.map f) (l.KC f) (r.KC f)
def oD (n:Nat) (bL:eE):Prop:=∀p∈bL,p.1=p.2/\kN n p.1=true
mutual
def okV (n m:Nat):J->Bool
 | .pointer (some ⟨b,_,none⟩)=>Nat.blt b n
 | .slice (some ⟨b,_,none⟩) _ _=>Nat.blt b n
 | .agg ⟨l⟩=>BE n m l
 | .func (.func _) ⟨l⟩ ⟨k⟩=>BE n m l&&BE n m k
 | .func (.yield b) ⟨[]⟩ ⟨[]⟩=>Nat.blt b n
 |v=>ya v||(aM v&&kN m v)
def BE (n m:Nat):List J->Bool
 |[]=>true
 |v::r=>okV n m v&&BE n m r
end
def ni (n m:Nat):bV J->bV J
 | .nil=> .nil
 | .node none l r=> .node none (ni n m l) (ni n m r)
 | .node (some v) l r=>bif okV n m v then .node (some v) (ni n m l) (ni n m r) else .node none (ni n m l) (ni n m r)
def XO (A:a6) (i:Nat):Option bu:=match A.bl.get i with
 |some k=>some ⟨k.obj,k.ty,k.eN⟩
 |none=>none
def tp (A:a6):Nat->Nat->List bu
 |0,_=>[]
 |m+1,i=>match XO A i with
  |some b=>b::tp A m (i+1)
  |none=>[]
def zV (s:b6):List bu:=tp s.A s.A.n 0
def zW (m:Nat) (s:b6):aF×List bu:=(ni (zV s).length m s.sl,zV s)
def Pp (n:Nat) (bL:eE):Bool:=bL.all λp=>gj p.1 p.2&&kN n p.1
def Pq (n m:Nat):qZ->Bool
 | .cells c=>BE n m c
 | .gu .deferred=>true
 | .gu .gone=>true
 |_=>false
def DX (n m:Nat):List bu->Bool
 |[]=>true
 |b::r=>Pq n m b.obj&&DX n m r
def su (m:Nat) (aZ:List bu):Bool:=zx aZ&&DX aZ.length m aZ
def KD (A:a6):List bu->Nat->Bool
 |[],_=>true
 |_::r,i=>(match A.bl.get i with|some k=>Nat.beq k.cP i&& !k.ro|none=>false)&&KD A r (i+1)
def zX (s:b6):Bool:=(match s.ms with|[]=>true|_=>false)&&KD s.A (zV s) 0
def zY (n:Nat) (s:b6) (sl:aF) (aZ:List bu):Prop:=∃bL,cp s sl aZ=some bL/\oD n bL/\ri aZ=true
mutual
def Pr (v u:J):J->J
 | .agg ⟨l⟩=> .agg ⟨Gu v u l⟩
 | .func (.func f) ⟨a⟩ ⟨b⟩=> .func (.func f) ⟨Gu v u a⟩ ⟨Gu v u b⟩
 |x=>bif gj x v then u else x
def Gu (v u:J):List J->List J
 |[]=>[]
 |x::r=>Pr v u x::Gu v u r
end
def ahG (v u:J):qZ->qZ
 | .cells c=> .cells (Gu v u c)
 |x=>x
def ahH (v u:J) (b:bu):bu:={b with obj:=ahG v u b.obj}
def XP (n:Nat) (v u:J) (bL:eE):Bool:=bL.all λp=>(gj p.1 p.2&&kN n p.1)||(gj p.1 v&&gj p.2 u)
def uL (n:Nat) (v u:J) (s:b6) (sl:aF) (aZ:List bu):Bool:=(match cp s sl aZ with|some bL=>XP n v u bL|none=>false)&&ri aZ
def ahI (t:Nat) (ops:Array Oper):Bool:=ops.any λo=>match o.dst with|some d=>Nat.beq d t|none=>false
def yA (t:Nat):Code->Bool
 | .region _ ops _=>ahI t ops
 | .seq a b=>yA t a||yA t b
 | .cond _ a b=>yA t a||yA t b
 | .block _ b=>yA t b
 | .loop b=>yA t b
 | .rangeFunc _ ps a b=>ps.any (λd=>Nat.beq d t)||yA t a||yA t b
 |_=>false
mutual
def XQ (n:Nat):J->Option (J×List J)
 | .agg ⟨l⟩=>match XR n l with
   |some (l',vs)=>some (.agg ⟨l'⟩,vs)
   |none=>none
 |v=>bif aM v then some (ak n,[v]) else none
def XR (n:Nat):List J->Option (List J×List J)
 |[]=>some ([],[])
 |v::r=>match XQ n v with
  |some (aB,vs)=>match XR (n+vs.length) r with
   |some (ek,us)=>some (aB::ek,vs++us)
   |none=>none
  |none=>none
end
def KE (c:Code):Nat->Nat->bV J->Nat->Option (bV J×List J)
 |_,_,.nil,_=>some (.nil,[])
 |pos,xf,.node v l r,n=>
  match (match v with
   |none=>some (none,[])
   |some x=>bif yA pos c then (match XQ n x with|some (x',vs)=>some (some x',vs)|none=>some (none,[])) else some (some x,[])) with
  |none=>none
  |some (aB,vs)=>match KE c (pos+xf) (2*xf) l (n+vs.length) with
   |none=>none
   |some (l',us)=>match KE c (pos+2*xf) (2*xf) r (n+vs.length+us.length) with
    |none=>none
    |some (ek,ja)=>some (.node aB l' ek,vs++us++ja)
def Ps (id:Nat) (cells:List (Nat×Nat×Nat)) (b:Nat):Nat->Nat->List J->List J×List J
 |_,_,[]=>([],[])
 |i,n,v::r=>bif cells.any (λp=>Nat.beq p.1 id&&(Nat.beq p.2.1 b&&Nat.beq p.2.2 i)) then
    let q:=Ps id cells b (i+1) (n+1) r
    (ak n::q.1,v::q.2)
  else
   let q:=Ps id cells b (i+1) n r
   (v::q.1,q.2)
def Gv (id:Nat) (cells:List (Nat×Nat×Nat)):Nat->Nat->List bu->List bu×List J
 |_,_,[]=>([],[])
 |b,n,k::r=>match k.obj with
  | .cells c=>
    let q:=Ps id cells b 0 n c
    let aH:=Gv id cells (b+1) (n+q.2.length) r
    ({k with obj:= .cells q.1}::aH.1,q.2++aH.2)
  |_=>let aH:=Gv id cells (b+1) n r
   (k::aH.1,aH.2)
def Pt:List fi->Nat
 | .vv id::_=>id
 |_::ks=>Pt ks
 |[]=>0
def ahJ (cf:jd) (body:Code) (ks:List fi) (s:b6) (n:Nat):Option (aF×List bu×List J):=
 let q:=zW n s
 match KE body 0 1 q.1 n with
 |none=>none
 |some (sl,vs)=>let aH:=Gv (Pt ks) cf.cells 0 (n+vs.length) q.2
  some (sl,aH.1,vs++aH.2)
def XS (n:Nat) (vs:List J) (p:J×J):Bool:=(gj p.1 p.2&&kN n p.1)||(match p.2 with
 | .complex .f64 k 0=>Nat.ble n k&&(Nat.blt k eZ&&match vs[k-n]? with|some v=>gj v p.1|none=>false)
 |_=>false)
def DY (n:Nat) (vs:List J) (bL:eE):Bool:=bL.all (XS n vs)
def XT (k:Nat):eE->Option J
 |[]=>none
 |p::r=>bif gj p.2 (ak k) then some p.1 else XT k r
def KF (bL:eE):Nat->Nat->List J
 |0,_=>[]
 |m+1,n=>(match XT n bL with|some v=>v|none=>ak n)::KF bL m (n+1)
def elemOf (P:aR) (t:aK):Option aK:=match P.underlying t with|some (.slice e)=>some e|_=>none
def yB:Option bY->aK
 |some (.oper o _ _ _ _)=>match o.op with
  | .call c=>c.argTypes.getD 0 0
  |_=>0
 |_=>0
def ahK:Option bY->aK
 |some (.oper o _ _ _ _)=>o.type
 |_=>0
def uM (N n:Nat) (s:b6) (dst:Option Tmp) (r:J):Option (aF×List bu):=
 let q:=zW n s
 bif Nat.blt n eZ&&(zX s&&su n q.2) then match gZ N q.1 dst r with
  |some sl=>some (sl,q.2)
  |none=>none
 else none
def XU (o:Option bY):jn:= .ops (kH o) (kI o) (gA o)
def XV:Option bY->Option J
 |some (.oper op _ os s _)=>match op.guard with
  |some (j,_)=>match os[j]? with
   |some o'=>match o'.dst with
    |some t=>match s.sl.get t with
     |some (.complex .f64 k 0)=>some (ak k)
     |_=>none
    |none=>none
   |none=>none
  |none=>match op.op with
   | .pick c _ _=>match dH .nil s.sl c with
     | .complex .f64 k 0=>some (ak k)
     |_=>none
   |_=>none
 |_=>none
abbrev lh:=(bZ->bZ)×aF×List bu×Nat
def Pu (cf:jd) (n:Nat) (o:Option bY):Option lh:=match nG o with
 |some (t,p,x)=>bif aM p&&aM x then (uM cf.N n (b7 o) (ka o) undef).map λq=>(bZ.st t p x,q.1,q.2,0) else none
 |none=>none
def Pv (P:aR) (t:aK):Nat:=match elemOf P t with
 |some e=>match bg P (sizeOf e) with
  |some k=>k
  |none=>0
 |none=>0
def Pw (P:aR) (cf:jd) (n:Nat) (o:Option bY):Option lh:=match p0 (yB o) o with
 |some (v,x)=>bif aM v then match Ba (b7 o).A (Pv P (yB o)) x with
   |some c=>bif dL c then (uM cf.N n (b7 o) (ka o) (ak n)).map λq=>(bZ.yz (yB o) v c,q.1,q.2,1) else none
   |none=>none
  else none
 |none=>none
def Px (cf:jd) (n:Nat) (o:Option bY):Option lh:=match p0 (yB o) o with
 |some (v,x)=>bif aM v&&aM x then (uM cf.N n (b7 o) (ka o) (ak n)).map λq=>(bZ.xe (yB o) v x,q.1,q.2,1) else none
 |none=>none
def Py (cf:jd) (n:Nat) (o:Option bY):Option lh:=match J1 o with
 |some (t,x)=>bif aM x then (uM cf.N n (b7 o) (ka o) (ak n)).map λq=>(bZ.mk t x,q.1,q.2,1) else none
 |none=>none
def Pz (cf:jd) (n:Nat) (o:Option bY):Option lh:=match OC o with
 |some (t,x)=>bif aM x then (uM cf.N n (b7 o) (ka o) (ak n)).map λq=>(bZ.lt t x,q.1,q.2,1) else none
 |none=>none
def PA (cf:jd) (n:Nat) (o:Option bY):Option lh:=match Pm o with
 |some (t,xs)=>bif dL xs then (uM cf.N n (b7 o) (ka o) (ak n)).map λq=>(bZ.zU t xs,q.1,q.2,1) else none
 |none=>none
def ahL:Option bY->aK
 |some (.oper o _ _ _ _)=>match o.op with
  | .call c=>c.argTypes.getD 1 0
  |_=>0
 |_=>0
def PB (cf:jd) (n:Nat) (o:Option bY):Option lh:=match Bq (yB o) (ahL o) o with
 |some (v,x)=>bif aM v then match Ba (b7 o).A 1 x with
   |some c=>bif dL c then (uM cf.N n (b7 o) (ka o) (.int .i64 c.length)).map λq=>(bZ.sd (yB o) v c,q.1,q.2,0) else none
   |none=>none
  else none
 |none=>none
def PC (cf:jd) (n:Nat) (o:Option bY):Option lh:=match uB o with
 |some (t,x)=>bif aM x then (uM cf.N n (b7 o) (ka o) (ak n)).map λq=>(bZ.tm t x,q.1,q.2,1) else none
 |none=>none
def PD (cf:jd) (n:Nat) (o:Option bY):Option lh:=match FF o with
 |some t=>(uM cf.N n (b7 o) (ka o) (ak n)).map λq=>(bZ.qN t,q.1,q.2,1)
 |none=>none
def PE (P:aR) [Lib P] (cf:jd) (n:Nat) (o:Option bY):Option lh:=match Po P o (ahK o) n with
 |some (f,args,r,m)=>bif aM r&&(o5 n args&&dL args) then (uM cf.N n (kL P o) (ka o) r).map λq=>(bZ.call f args r m,q.1,q.2,m) else none
 |none=>none
def ahM:Option bY->Option (Nat×Nat)
 |some (.oper op _ _ s _)=>match op.op with
  | .call c=>match c.callee with
    | .value _=>c.args.toList.findSome? λx=>match x with
      | .tmp t=>match s.sl.get t with
        |some (.slice (some ⟨b,0,none⟩) _ _)=>some (t,b)
        |_=>none
      |_=>none
    |_=>none
  |_=>none
 |_=>none
def PF (n:Nat) (o:Option bY):Option lh:=match ahM o with
 |some (t,b)=>match se o b t with
  |some (cs,m,c)=>match cp (b7 o) (ni (tp (b7 o).A b 0).length n (b7 o).sl) (tp (b7 o).A b 0) with
   |some bL=>bif Pp n bL&&(ri (tp (b7 o).A b 0)&&(dL cs&&(Nat.blt n eZ&&(Nat.ble (tp (b7 o).A b 0).length b&&(Nat.blt 0 m&&Nat.ble m c))))) then
     (bV.set (ak n) depth (ni (tp (b7 o).A b 0).length n (b7 o).sl) t).map λsl=>(bZ.uK cs m c,sl,tp (b7 o).A b 0,1)
    else none
   |none=>none
  |none=>none
 |none=>none
def vR (a b:Option lh):Option lh:=match a with
 |some x=>some x
 |none=>b
def KG (P:aR) [Lib P] (cf:jd) (n:Nat) (o:Option bY):Option lh:=
 vR (Pu cf n o) (vR (Pw P cf n o) (vR (Px cf n o) (vR (Py cf n o) (vR (Pz cf n o) (vR (PA cf n o) (vR (PB cf n o) (vR (PC cf n o) (vR (PD cf n o) (PE P cf n o)))))))))
abbrev jD:=Nat->List jj->jn->Nat->aF->List bu->j5->kc->Option bY->Option bZ
def PG (P:aR) [Lib P] (cf:jd) (n:Nat) (q:Option bY):Option (Sum (gd×J×Nat×Bool) (FuncId×List J×J×Nat×Bool)):=
 match q with
 |some (.oper op _ os s _)=>match q8 os op s.sl with
  |some true=>match ss P os op s.sl n with
   |some x=>some (.inl x)
   |none=>match Po P q op.type n with
    |some (f,args,r,m)=>bif cf.sr.contains f then none else some (.inr (f,args,r,m,Gt P op.type&&Pn os op.dst))
    |none=>none
  |_=>none
 |_=>none
def XW (P:aR) [Lib P] (cf:jd) (F:j5) (T:kc):Option bY->Option bY
 |some (.oper op r os s ks)=>A8 P F T cf.N 1000 cf.d (op::r) os ks s
 |_=>none
section
variable {fc:Type}
def pF (n:Nat) (k:Nat->fc):fc:=match n with
 |0=>k 0
 |m+1=>k (m+1)
def qO {α:Type} (f:α->(α->fc)->fc):List α->(List α->fc)->fc
 |[],k=>k []
 |v::l,k=>f v λaB=>qO f l λl'=>k (aB::l')
def Gw {α:Type} (f:α->(α->fc)->fc):Option α->(Option α->fc)->fc
 |none,k=>k none
 |some a,k=>f a λa7=>k (some a7)
def PH (a:Addr) (k:Addr->fc):fc:=match a with
 |⟨b,o,m⟩=>pF b λb'=>pF o λo'=>Gw (λx k=>k x) m λm'=>k ⟨b',o',m'⟩
def XX (i:Int) (k:Int->fc):fc:=match i with
 | .ofNat n=>pF n λga=>k (.ofNat ga)
 | .negSucc n=>pF n λga=>k (.negSucc ga)
def KH (b:Bool) (k:Bool->fc):fc:=match b with
 |true=>k true
 |false=>k false
def BF:Nat->J->(J->fc)->fc
 |0=>λv k=>k v
 |d+1=>λv k=>match v with
  | .bool b=>KH b λb'=>k (.bool b')
  | .agg ⟨l⟩=>qO (BF d) l λl'=>k (.agg ⟨l'⟩)
  | .complex t x y=>pF x λx'=>pF y λfN=>k (.complex t x' fN)
  | .int t i=>XX i λtX=>k (.int t tX)
  | .pointer p=>Gw PH p λp'=>k (.pointer p')
  | .slice p n c=>Gw PH p λp'=>pF n λga=>pF c λc'=>k (.slice p' ga c')
  |v=>k v
def KI:bV J->(bV J->fc)->fc
 | .nil,k=>k .nil
 | .node none l r,k=>KI l λl'=>KI r λek=>k (.node none l' ek)
 | .node (some v) l r,k=>BF 3 v λaB=>KI l λl'=>KI r λek=>k (.node (some aB) l' ek)
def XY (b:bu) (k:bu->fc):fc:=match b with
 |⟨.cells l,t,m⟩=>pF t λdt=>pF m λm'=>qO (BF 3) l λl'=>k ⟨.cells l',dt,m'⟩
 |⟨.map es c,t,m⟩=>k ⟨.map es c,t,m⟩
 |⟨.gu x,t,m⟩=>k ⟨.gu x,t,m⟩
def DZ (x:fi) (k:fi->fc):fc:=match x with
 | .mW y=>k (.mW y)
 | .vv i=>k (.vv i)
 | .s7 c m=>pF m λm'=>k (.s7 c m')
def KJ {α:Type} (f:α->(α->fc)->fc) (a:Array α) (k:Array α->fc):fc:=match a with
 |⟨l⟩=>qO f l λl'=>k ⟨l'⟩
def XZ:jn->(jn->fc)->fc
 | .k x ks,k=>qO DZ ks λBG=>k (.k x BG)
 | .ops r os ks,k=>qO (λx k=>k x) r λek=>KJ (λx k=>k x) os λahN=>qO DZ ks λBG=>k (.ops ek ahN BG)
 | .any f os l ks,k=>pF f λij=>KJ KH l λl'=>qO DZ ks λBG=>k (.any ij os l' BG)
theorem tq (n:Nat) (k:Nat->fc):pF n k=k n:=by cases n<;>rfl
theorem yC {α:Type} {f:α->(α->fc)->fc} (aQ:∀v k,f v k=k v):∀(l:List α) (k:List α->fc),qO f l k=k l
 |[],k=>rfl
 |v::l,k=>by
  show f v (λaB=>qO f l λl'=>k (aB::l'))=_;rw[aQ,yC aQ l]
theorem PI {α:Type} {f:α->(α->fc)->fc} (aQ:∀v k,f v k=k v) (o:Option α) (k:Option α->fc):Gw f o k=k o:=by
 cases o with
 |none=>rfl
 |some a=>exact aQ a λa7=>k (some a7)
theorem X0 (a:Addr) (k:Addr->fc):PH a k=k a:=by
 obtain⟨b,o,m⟩:=a;show pF b (λb'=>pF o λo'=>Gw (λx k=>k x) m λm'=>k ⟨b',o',m'⟩)=_;rw[tq,tq,PI λ_ _=>rfl]
theorem ahO (i:Int) (k:Int->fc):XX i k=k i:=by
 cases i with
 |ofNat n=>exact tq n λga=>k (.ofNat ga)
 |negSucc n=>exact tq n λga=>k (.negSucc ga)
theorem X1 (b:Bool) (k:Bool->fc):KH b k=k b:=by cases b<;>rfl
theorem PJ:∀(d:Nat) (v:J) (k:J->fc),BF d v k=k v
 |0,v,k=>rfl
 |d+1,v,k=>by
  unfold BF;split
  ·rw[X1]
  ·rw[yC (PJ d)]
  ·rw[tq,tq]
  ·rw[ahO]
  ·rw[PI X0]
  ·rw[PI X0,tq,tq]
  ·rfl
theorem ahP (b:bu) (k:bu->fc):XY b k=k b:=by
 obtain⟨o,t,m⟩:=b;cases o with
 |cells l=>
  show pF t (λdt=>pF m λm'=>qO (BF 3) l λl'=>k ⟨.cells l',dt,m'⟩)=_;rw[tq,tq,yC (PJ 3)]
 |map es c=>rfl
 |gu x=>rfl
theorem PK (x:fi) (k:fi->fc):DZ x k=k x:=by
 cases x with
 |s7 c m=>exact tq m λm'=>k (.s7 c m')
 |_=>rfl
theorem X2 {α:Type} {f:α->(α->fc)->fc} (aQ:∀v k,f v k=k v) (a:Array α) (k:Array α->fc):KJ f a k=k a:=by
 obtain⟨l⟩:=a;show qO f l (λl'=>k ⟨l'⟩)=_;rw[yC aQ]
theorem ahQ (p:jn) (k:jn->fc):XZ p k=k p:=by
 cases p with
 |k x ks=>
  show qO DZ ks _=_;rw[yC PK]
 |ops r os ks=>
  show qO (λx k=>k x) r _=_;rw[yC (λ_ _=>rfl),X2 (λ_ _=>rfl),yC PK]
 |any f os l ks=>
  refine(tq f λij=>KJ KH l λl'=>qO DZ ks λBG=>k (.any ij os l' BG)).trans ?_;rw[X2 X1,yC PK]
end
section
variable {fc:Type}
def vS (n m:Nat):bV J->(bV J->fc)->fc
 | .nil,k=>k .nil
 | .node none l r,k=>vS n m l λl'=>vS n m r λek=>k (.node none l' ek)
 | .node (some v) l r,k=>bif okV n m v then BF 3 v λaB=>vS n m l λl'=>vS n m r λek=>k (.node (some aB) l' ek) else vS n m l λl'=>vS n m r λek=>k (.node none l' ek)
theorem BH (n m:Nat):∀(t:bV J) (k:bV J->fc),vS n m t k=k (ni n m t)
 | .nil,k=>rfl
 | .node none l r,k=>by
   show vS n m l (λl'=>vS n m r λek=>k (.node none l' ek))=_;rw[BH n m l,BH n m r];rfl
 | .node (some v) l r,k=>by
   unfold vS ni;cases okV n m v with
   |true=>rw[bD,bD,PJ,BH n m l,BH n m r]
   |false=>rw[eB,eB,BH n m l,BH n m r]
end
def Gx (G:jD) (n:Nat) (cs:List jj) (dT:jn) (F:j5) (T:kc) (sl:aF) (aZ:List bu) (go:jn->aF->List bu->Option bY):Option bZ:=
 pF n λn=>qO XY aZ λaZ=>bif su n aZ then XZ dT λdT=>vS aZ.length n sl λsl=>G n cs dT n sl aZ F T (go dT sl aZ) else none
theorem ahR (G:jD) (n:Nat) (cs:List jj) (dT:jn) (F:j5) (T:kc) (sl:aF) (aZ:List bu) (go:jn->aF->List bu->Option bY):Gx G n cs dT F T sl aZ go=bif su n aZ then G n cs dT n (ni aZ.length n sl) aZ F T (go dT (ni aZ.length n sl) aZ) else none:=by
 unfold Gx;rw[tq,yC ahP,ahQ,BH]
def ry (P:aR) [Lib P] (cf:jd) (G:jD) (n:Nat) (cs:List jj) (dT:jn) (sl:aF) (aZ:List bu):Option bZ:=
 Gx G n cs dT (Gr cf.marks) [] sl aZ λdT sl aZ=>dT.run P (Gr cf.marks) [] cf.N cf.d (b3 sl aZ)
def KK (P:aR) [Lib P] (cf:jd) (G:jD) (n:Nat) (cs:List jj) (dT:jn) (s:b6):Option bZ:=bif zX s then ry P cf G n cs dT s.sl (zV s) else none
def two (a b:Option bZ) (f:bZ->bZ->bZ):Option bZ:=match a with
 |some x=>match b with
  |some y=>some (f x y)
  |none=>none
 |none=>none
def Gy (P:aR) (G:jD) (n:Nat) (cs:List jj) (dT:jn) (eu:Nat) (sl:aF) (aZ:List bu) (F:j5) (T:kc) (go:j5->Option bY):gd×J×Nat×Bool->Option bZ
 |(f,r,m,b)=>bif ss.vQ n f then
    bif b then two (G n cs dT eu sl aZ (F++[(f,.bool true)]) T (go [(f,.bool true)])) (G n cs dT eu sl aZ (F++[(f,.bool false)]) T (go [(f,.bool false)])) (bZ.s f (XM P f))
    else bif kN (n+m) r then (G (n+m) cs dT eu sl aZ (F++[(f,r)]) T (go [(f,r)])).map (bZ.o f r m (XM P f)) else none
  else none
def Gz (G:jD) (n:Nat) (cs:List jj) (dT:jn) (eu:Nat) (sl:aF) (aZ:List bu) (F:j5) (T:kc) (go:kc->Option bY):FuncId×List J×J×Nat×Bool->Option bZ
 |(f,args,r,m,b)=>bif o5 n args&&dL args then
    bif b then two (G n cs dT eu sl aZ F (T++[(f,args,.bool true)]) (go [(f,args,.bool true)])) (G n cs dT eu sl aZ F (T++[(f,args,.bool false)]) (go [(f,args,.bool false)])) (bZ.cs f args)
    else bif kN (n+m) r&&aM r then (G (n+m) cs dT eu sl aZ F (T++[(f,args,r)]) (go [(f,args,r)])).map (bZ.c f args r m) else none
  else none
def PL (P:aR) [Lib P] (cf:jd) (G:jD) (n:Nat) (cs:List jj) (x:k_) (s:b6):Option bZ:=match cs with
 |[]=>match fj P cf.fn (some (.done x s)) with
  |some v=>some (.ret v)
  |none=>match endCell cf.fn (some (.done x s)) with
   |some (t,x)=>bif aM x then some (.tn t x) else none
   |none=>none
 |c::cs'=>match x with
  | .normal=>match cp s c.sl c.aZ with
    |some bL=>bif DY c.n (KF bL c.m c.n) bL&&ri c.aZ then some (.back (KF bL c.m c.n)) else none
    |none=>none
  |x=>(KK P cf G n cs' (.k x c.ks) s).map bZ.gD
def ahS (cf:jd) (ks:List fi):Option Nat:=(cf.ahD.find? λp=>Nat.beq p.1 (Pt ks)).map (·.2)
def PM (P:aR) [Lib P] (cf:jd) (G:jD) (n:Nat) (cs:List jj) (body:Code) (s:b6) (ks:List fi):Option bZ:=
 match ahS cf ks with
 |some m=>KK P cf G n cs (.k .normal (.s7 body m::ks)) s
 |none=>match ahJ cf body ks s n with
 |some (qc,o6,vs)=>match cp s qc o6 with
  |some bL=>bif DY n vs bL&&ri o6 then (ry P cf G (n+vs.length) (⟨qc,o6,n,vs.length,ks⟩::cs) (.k .normal [.mW body]) qc o6).map (bZ.loop vs vs.length) else none
  |none=>none
 |none=>none
def X3 (n:Nat):List Nat->aF->Option aF
 |[],sl=>some sl
 |t::r,sl=>match bV.set (ak n) depth sl t with
  |some dN=>X3 (n+1) r dN
  |none=>none
def ahT (cf:jd) (c:Operand) (x y:Code) (s:b6) (n:Nat):Option (aF×List bu×Nat):=match c with
 | .tmp t=>match cf.KB.find? λp=>Nat.beq p.1 t with
   |some (_,ext)=>match KE (.seq x y) 0 1 ((zW n s).1.KC (Pr (dH .nil s.sl c) cu)) n with
    |none=>none
    |some (sl,vs)=>match X3 (n+vs.length) ext sl with
     |none=>none
     |some eb=>some (eb,(Gv (1000+t) cf.cells 0 (n+vs.length+ext.length) (zW n s).2).1,vs.length+ext.length+(Gv (1000+t) cf.cells 0 (n+vs.length+ext.length) (zW n s).2).2.length)
   |none=>none
 |_=>none
def kz (n:Nat) (v u:J) (s:b6):aF×List bu:=((zW n s).1.KC (Pr v u),(zW n s).2.map (ahH v u))
def PN (a b:List Nat):Bool:=decide (a=b)
def kd:bZ->bZ->Bool
 | .o f r m h k,.o ij ek m' fu k'=>CT f ij&&(gj r ek&&(Nat.beq m m'&&(PN h fu&&kd k k')))
 | .s f h dg k2,.s ij fu u7 yD=>CT f ij&&(PN h fu&&(kd dg u7&&kd k2 yD))
 | .c f a r m k,.c ij a7 ek m' k'=>Nat.beq f ij&&(oo a a7&&(gj r ek&&(Nat.beq m m'&&kd k k')))
 | .cs f a dg k2,.cs ij a7 u7 yD=>Nat.beq f ij&&(oo a a7&&(kd dg u7&&kd k2 yD))
 | .fR x dg k2,.fR x' u7 yD=>gj x x'&&(kd dg u7&&kd k2 yD)
 | .vP x dg k2 m k,.vP x' u7 yD m' k'=>gj x x'&&(kd dg u7&&(kd k2 yD&&(Nat.beq m m'&&kd k k')))
 | .no,.no=>true
 | .zU t xs k,.zU dt xs' k'=>Nat.beq t dt&&(oo xs xs'&&kd k k')
 | .alt dg k2,.alt u7 yD=>kd dg u7&&kd k2 yD
 | .tn t x,.tn dt x'=>Nat.beq t dt&&gj x x'
 | .sd t s c k,.sd dt fC c' k'=>Nat.beq t dt&&(gj s fC&&(oo c c'&&kd k k'))
 | .ret v,.ret aB=>gj v aB
 | .back vs,.back cL=>oo vs cL
 | .loop vs m k,.loop cL m' k'=>oo vs cL&&(Nat.beq m m'&&kd k k')
 | .gD k,.gD k'=>kd k k'
 | .st t p x k,.st dt p' x' k'=>Nat.beq t dt&&(gj p p'&&(gj x x'&&kd k k'))
 | .yz t s c k,.yz dt fC c' k'=>Nat.beq t dt&&(gj s fC&&(oo c c'&&kd k k'))
 | .xe t s x k,.xe dt fC x' k'=>Nat.beq t dt&&(gj s fC&&(gj x x'&&kd k k'))
 | .mk t x k,.mk dt x' k'=>Nat.beq t dt&&(gj x x'&&kd k k')
 | .uK c m d k,.uK c' m' oi k'=>oo c c'&&(Nat.beq m m'&&(Nat.beq d oi&&kd k k'))
 | .lt t x k,.lt dt x' k'=>Nat.beq t dt&&(gj x x'&&kd k k')
 | .tm t x k,.tm dt x' k'=>Nat.beq t dt&&(gj x x'&&kd k k')
 | .qN t k,.qN dt k'=>Nat.beq t dt&&kd k k'
 | .call f a r m k,.call ij a7 ek m' k'=>Nat.beq f ij&&(oo a a7&&(gj r ek&&(Nat.beq m m'&&kd k k')))
 |_,_=>false
def GC (x:bZ):bZ->Bool
 | .alt a b=>kd x a||GC x b
 |t=>kd x t
def KL:List (Option bZ)->Option bZ
 |[]=>none
 |[a]=>a
 |a::r=>match a,KL r with
  |some x,some y=>bif GC x y then some y else some (.alt x y)
  |_,_=>none
def GD (G:jD) (n:Nat) (cs:List jj) (dT:jn) (F:j5) (T:kc) (sl:aF) (aZ:List bu):Option bZ:=Gx G n cs dT F T sl aZ λ_ _ _=>none
def KM (G:jD) (n:Nat) (cs:List jj) (dT:jn) (F:j5) (T:kc) (s:b6):Option bZ:=bif zX s then GD G n cs dT F T s.sl (zV s) else none
def PO (N:Nat) (os:Array Oper) (sl:aF) (o:Oper):Option Bool:=
 match o.guard with
 |none=>some true
 |some (j,b)=>match fx os j with
  |some t=>bif Nat.blt t N then match sl.get t with
   |some (.bool b')=>some (b==b')
   |_=>none else none
  |none=>none
def PQ (P:aR) [eh P] (bp:Operand->J) (o:Oper):Option J:=
 match o.op with
 | .pick c x y=>match bp c with
   | .bool b=>some (bif b then bp x else bp y)
   |_=>none
 | .extract t i=>EK (bp t) i
 | .move _| .assign _| .binOp .. | .unOp .. | .fieldAddr .. | .indexAddr .. =>xY P bp o
 | .call c=>match c.callee with
   | .builtin _=>match qy bp o with
     |some f=>bif CU f then ug P bp o else none
     |none=>none
   |_=>none
 | .nilCheck _=>ug P bp o
 |_=>none
def D0 (o:Oper):Bool:=match o.op with| .call c=>(match c.callee with| .builtin _=>true|_=>false)|_=>true
def KN (P:aR) [eh P] (N:Nat) (os:Array Oper) (l:Array Bool) (sl:aF) (i:Nat):Option aF:=
 match os[i]? with
 |some o=>match PO N os sl o with
  |some true=>match PQ P (dH .nil sl) o with
   |some v=>bif Region.free .any os l i then gZ N sl o.dst v else none
   |none=>none
  |some false=>bif D0 o&&Region.free .any os l i then gZ N sl o.dst undef else none
  |none=>none
 |none=>none
def GF (P:aR) [eh P] (N:Nat) (os:Array Oper) (l:Array Bool) (sl:aF):List Nat->Option (Nat×aF)
 |[]=>none
 |i::r=>match KN P N os l sl i with
  |some eK=>some (i,eK)
  |none=>GF P N os l sl r
def D1 (P:aR) [eh P] (N:Nat) (os:Array Oper):Nat->Array Bool->aF->Nat×Array Bool×aF
 |0,l,sl=>(0,l,sl)
 |f+1,l,sl=>match GF P N os l sl (Region.ready .any os l) with
  |some (i,eK)=>D1 P N os f (l.setIfInBounds i true) eK
  |none=>(f+1,l,sl)
def anyOp (P:aR) [Lib P] (cf:jd) (G:jD) (n:Nat) (cs:List jj) (bn:Nat) (os:Array Oper) (listed:Array Bool) (ks:List fi) (s:b6) (F:j5) (T:kc) (i:Nat):Option bZ:=
 match os[i]? with
 |none=>none
 |some o=>match @wP P _ ⟨F⟩ (@s4 P _ ⟨F⟩ ⟨T⟩ .nil 1000 cf.d) .nil cf.N os o s.sl s.A with
  |some (eK,bC)=>KM G n cs (.any bn os (listed.setIfInBounds i true) ks) F T {s with sl:=eK,A:=bC}
  |none=>match KG P cf n (some (.oper o [] os s [])) with
   |some (py,dN,X4,m)=>(GD G (n+m) cs (.any bn os (listed.setIfInBounds i true) ks) (Gr cf.marks) [] dN X4).map py
   |none=>none
def PR (P:aR) [Lib P] (cf:jd) (G:jD) (n:Nat) (cs:List jj) (bn:Nat) (os:Array Oper) (listed:Array Bool) (ks:List fi) (sl:aF) (aZ:List bu) (F:j5) (T:kc):Option bZ:=
 match Region.ready .any os listed with
 |[]=>ry P cf G n cs (.k .normal ks) sl aZ
 |r0=>match bn with
  |0=>none
  |bn+1=>match @GF P ⟨F⟩ cf.N os listed sl r0 with
   |some (i,eK)=>bif Region.noSelect os then
     (let q:= @D1 P ⟨F⟩ cf.N os bn (listed.setIfInBounds i true) eK
     GD G n cs (.any q.1 os q.2.1 ks) F T q.2.2 aZ) else none
   |none=>KL (r0.map (anyOp P cf G n cs bn os listed ks (b3 sl aZ) F T))
def PS (P:aR) [Lib P] (cf:jd) (G:jD) (n:Nat) (cs:List jj) (v:J) (s:b6) (x y:Code) (ks:List fi) (qc:aF) (o6:List bu) (m:Nat):Option bZ:=
 bif uL n v (.bool true) s (kz n v (.bool true) s).1 (kz n v (.bool true) s).2&&uL n v (.bool false) s (kz n v (.bool false) s).1 (kz n v (.bool false) s).2 then
  match ry P cf G n (⟨qc,o6,n,m,ks⟩::cs) (.k .normal [.mW x]) (kz n v (.bool true) s).1 (kz n v (.bool true) s).2 with
  |some dg=>match ry P cf G n (⟨qc,o6,n,m,ks⟩::cs) (.k .normal [.mW y]) (kz n v (.bool false) s).1 (kz n v (.bool false) s).2 with
   |some k2=>(ry P cf G (n+m) cs (.k .normal ks) qc o6).map (bZ.vP v dg k2 m)
   |none=>none
  |none=>none
 else none
def ahU (cf:jd) (v:J):Option Bool:=(cf.gC.find? λp=>gj v (ak p.1)).map (·.2)
def GG (P:aR) [Lib P] (cf:jd) (G:jD) (n:Nat) (cs:List jj) (v:J) (s:b6) (iB je:jn):Option bZ:=match ahU cf v with
 |some b=>bif uL n v (.bool b) s (kz n v (.bool b) s).1 (kz n v (.bool b) s).2 then (ry P cf G n cs (bif b then iB else je) (kz n v (.bool b) s).1 (kz n v (.bool b) s).2).map λk=>bif b then .fR v k .no else .fR v .no k else none
 |none=>bif uL n v (.bool true) s (kz n v (.bool true) s).1 (kz n v (.bool true) s).2&&uL n v (.bool false) s (kz n v (.bool false) s).1 (kz n v (.bool false) s).2 then
  two (ry P cf G n cs iB (kz n v (.bool true) s).1 (kz n v (.bool true) s).2) (ry P cf G n cs je (kz n v (.bool false) s).1 (kz n v (.bool false) s).2) (bZ.fR v)
 else none
def PT (P:aR) [Lib P] (cf:jd) (G:jD) (n:Nat) (cs:List jj) (o:Option bY):Option bZ:=match KG P cf n o with
 |some (py,sl,aZ,m)=>(ry P cf G (n+m) cs (XU o) sl aZ).map py
 |none=>none
def PU (P:aR) [Lib P] (cf:jd) (G:jD) (n:Nat) (cs:List jj) (PV:Option J) (F:j5) (T:kc):Option bY->Option bZ
 |some (.draw id os s ks)=>match PV with
  |some v=>GG P cf G n cs v s (.k .normal (.mW (.region id os true)::ks)) (.k .normal (.mW (.region id os true)::ks))
  |none=>KM G n cs (.any os.size os (Array.replicate os.size false) ks) F T s
 |some (.done x s)=>PL P cf G n cs x s
 |some (.loop body s ks)=>PM P cf G n cs body s ks
 |some (.cond c x y s ks)=>bif aM (dH .nil s.sl c) then match ahT cf c x y s n with
  |some (qc,o6,m)=>PS P cf G n cs (dH .nil s.sl c) s x y ks qc o6 m
  |none=>GG P cf G n cs (dH .nil s.sl c) s (.k .normal (.mW x::ks)) (.k .normal (.mW y::ks)) else none
 |some (.oper op r os s ks)=>match XV (some (.oper op r os s ks)) with
  |some v=>GG P cf G n cs v s (.ops (op::r) os ks) (.ops (op::r) os ks)
  |none=>match PF n (some (.oper op r os s ks)) with
   |some (py,sl,aZ,m)=>(ry P cf G (n+m) cs (.ops (op::r) os ks) sl aZ).map py
   |none=>PT P cf G n cs (some (.oper op r os s ks))
 |_=>none
def GH (d:Tmp):Operand->Bool
 | .tmp t=>Nat.beq t d
 |_=>false
def PW (ops:Array Oper):Nat->Option Tmp->Bool
 |0,_=>false
 |_,none=>false
 |k+1,some d=>Pn ops (some d)||ops.any λo=>(match o.op with
   | .move x| .assign x=>GH d x
   | .pick c x y=>GH d c||(GH d x||GH d y)
   | .unOp _ _ x=>GH d x
   |_=>false)&&PW ops k o.dst
def X5 (P:aR) (ops:Array Oper) (o:Oper):Sum (gd×J×Nat×Bool) (FuncId×List J×J×Nat×Bool)->Sum (gd×J×Nat×Bool) (FuncId×List J×J×Nat×Bool)
 | .inl (f,r,m,b)=> .inl (f,r,m,b||((match XL P 0 f with|some (_,_,b')=>b'|none=>false)&&PW ops 8 o.dst))
 | .inr (f,a,r,m,b)=> .inr (f,a,r,m,b||(Gt P o.type&&PW ops 8 o.dst))
def PX (P:aR) [Lib P] (cf:jd) (F:j5) (T:kc) (n:Nat) (os:Array Oper) (s:b6):List Oper->aF->a6->Option (Sum (gd×J×Nat×Bool) (FuncId×List J×J×Nat×Bool))×Option J
 |[],_,_=>(none,none)
 |o::r,sl,A=>match @wP P _ ⟨F⟩ (@s4 P _ ⟨F⟩ ⟨T⟩ .nil 1000 cf.d) .nil cf.N os o sl A with
  |some (eK,bC)=>PX P cf F T n os s r eK bC
  |none=>match PG P cf n (some (.oper o r os {s with sl:=sl,A:=A} [])) with
   |some x=>(some (X5 P os o x),none)
   |none=>match XV (some (.oper o r os {s with sl:=sl,A:=A} [])) with
    |some v=>(none,some v)
    |none=>PX P cf F T n os s r sl A
def X6 (P:aR) [Lib P] (cf:jd) (F:j5) (T:kc) (n:Nat):Option bY->Option (Sum (gd×J×Nat×Bool) (FuncId×List J×J×Nat×Bool))×Option J
 |some (.draw _ os s _)=>PX P cf F T n os s os.toList s.sl s.A
 |_=>(none,none)
def PY (P:aR) [Lib P] (cf:jd) (G:jD) (n:Nat) (cs:List jj) (dT:jn) (eu:Nat) (sl:aF) (aZ:List bu) (F:j5) (T:kc) (o:Option bY):Option bZ:=
 match PG P cf n o with
 |some (.inl x)=>Gy P G n cs dT eu sl aZ F T (λPZ=>XW P cf (F++PZ) T o) x
 |some (.inr x)=>Gz G n cs dT eu sl aZ F T (λP0=>XW P cf F (T++P0) o) x
 |none=>match (X6 P cf F T n (dT.run P F T cf.N cf.d (b3 sl aZ))).1 with
  |some (.inl x)=>Gy P G n cs dT eu sl aZ F T (λPZ=>dT.run P (F++PZ) T cf.N cf.d (b3 sl aZ)) x
  |some (.inr x)=>Gz G n cs dT eu sl aZ F T (λP0=>dT.run P F (T++P0) cf.N cf.d (b3 sl aZ)) x
  |none=>PU P cf G n cs (X6 P cf F T n (dT.run P F T cf.N cf.d (b3 sl aZ))).2 F T (dT.run P F T cf.N cf.d (b3 sl aZ))
def ahV (P:aR) [Lib P] (cf:jd) (F:j5) (T:kc) (n:Nat) (os:Array Oper) (listed:Array Bool) (s:b6):Option (Sum (gd×J×Nat×Bool) (FuncId×List J×J×Nat×Bool)):=
 (Region.ready .any os listed).findSome? λi=>match os[i]? with
   |none=>none
   |some o=>match @wP P _ ⟨F⟩ (@s4 P _ ⟨F⟩ ⟨T⟩ .nil 1000 cf.d) .nil cf.N os o s.sl s.A with
    |some _=>none
    |none=>(PG P cf n (some (.oper o [] os s []))).map (X5 P os o)
def P1 (P:aR) [Lib P] (cf:jd) (G:jD) (n:Nat) (cs:List jj) (dT:jn) (eu:Nat) (sl:aF) (aZ:List bu) (F:j5) (T:kc) (o:Option bY):Option bZ:=
 match dT with
 | .any bn os listed ks=>match ahV P cf F T n os listed (b3 sl aZ) with
   |some (.inl x)=>Gy P G n cs dT eu sl aZ F T (λ_=>none) x
   |some (.inr x)=>Gz G n cs dT eu sl aZ F T (λ_=>none) x
   |none=>PR P cf G n cs bn os listed ks sl aZ F T
 |_=>PY P cf G n cs dT eu sl aZ F T o
def gen (P:aR) [Lib P] (cf:jd):Nat->jD
 |0=>λ_ _ _ _ _ _ _ _ _=>none
 |bn+1=>P1 P cf (gen P cf bn)
def l0 (P:aR) [Lib P] (f:FuncId) (h:DV) (args:List J) (n:Nat):Option bZ:=
 match P.funcs[f]? with
 |some fn=>match fn.body with
  |some c=>match setArgs 0 args .nil with
   |some sl=>
    let cf:jd:=⟨h,args.length+(fn.ntmps-args.length),fn⟩
    bif dL args then ry P cf (gen P cf 10000) n [] (.k .normal [.mW c]) sl [] else none
   |none=>none
  |none=>none
 |none=>none
end AE
namespace AE
variable {P:aR}
def vT.{u} {α:Type u}:List α->List Nat->List α->List α
 |L,i::is,R::jq=>vT (L.set i R) is jq
 |L,_,_=>L
theorem X7:∀(is:List Nat) (L jq:List (bs P)),db (vT L is jq)=lD (db L) is (db jq)
 |[],L,jq=>by unfold vT lD;cases jq<;>rfl
 |i::is,L,[]=>by unfold vT lD;rfl
 |i::is,L,R::jq=>by
  unfold vT;rw[X7 is];show lD (db (L.set i R)) is (db jq)=lD ((db L).set i R.res) is (db jq);rw[show db (L.set i R)=(db L).set i R.res from List.map_set]
structure rz (W:ax) (az:List cc) (ro:List (jc P)) (L:List (bs P)) (w:ax):Prop where
 own:cG (aG w) (db L)
 ro:hi ro (aG w)
 ext:pE (aG W) az (aG w)
abbrev fG (P:aR):=List J->List (bs P)->Prop
def pG (B:Nat) (W:ax) (az:List cc) (L L':List (bs P)):Prop:=∀M,bI B (aG W) az M (db L)->bI B (aG W) az M (db L')
theorem pG.refl {B:Nat} {W:ax} {az:List cc} (L:List (bs P)):pG B W az L L:=λ_ h=>h
inductive dA (B:Nat) (W:ax) (az:List cc) (ro:List (jc P)) (post:J->List (bs P)->Prop):Nat->List J->List (bs P)->List (fG P)->bZ->Prop
 |o {n:Nat} {env:List J} {L:List (bs P)} {aU:List (fG P)} {f:gd} {r:J} {m:Nat} {ah:List Nat} {k:bZ} (vs:List J) (hm:vs.length=m) (ad:gg vs)
   (aQ:∀M,bI B (aG W) az M (db L)->hi ro M-> @aT (cY M (vs.reverse++env)) P (f,r)) (h:dA B W az ro post (n+m) (vs.reverse++env) L aU k):dA B W az ro post n env L aU (.o f r m ah k)
 |s {n:Nat} {env:List J} {L:List (bs P)} {aU:List (fG P)} {f:gd} {ah:List Nat} {dg k2:bZ} (b:Bool) (aQ:∀M,bI B (aG W) az M (db L)->hi ro M-> @aT (cY M env) P (f,.bool b))
   (ad:b=true->dA B W az ro post n env L aU dg) (ag:b=false->dA B W az ro post n env L aU k2):dA B W az ro post n env L aU (.s f ah dg k2)
 |c {n:Nat} {env:List J} {L:List (bs P)} {aU:List (fG P)} {f:FuncId} {args:List J} {r:J} {m:Nat} {k:bZ} (vs:List J) (hm:vs.length=m) (ad:gg vs)
   (ar:∀w,rz W az ro L w->Calls P f ⟨h9 env n args⟩ w λe w'=>e= .returned (ex (vs.reverse++env) (n+m) r)/\cg w.heap.size w w') (h:dA B W az ro post (n+m) (vs.reverse++env) L aU k):dA B W az ro post n env L aU (.c f args r m k)
 |cs {n:Nat} {env:List J} {L:List (bs P)} {aU:List (fG P)} {f:FuncId} {args:List J} {dg k2:bZ} (b:Bool) (ar:∀w,rz W az ro L w->Calls P f ⟨h9 env n args⟩ w λe w'=>e= .returned (.bool b)/\cg w.heap.size w w')
   (ad:b=true->dA B W az ro post n env L aU dg) (ag:b=false->dA B W az ro post n env L aU k2):dA B W az ro post n env L aU (.cs f args dg k2)
 |fR {n:Nat} {env:List J} {L:List (bs P)} {aU:List (fG P)} {x:J} {dg k2:bZ} (b:Bool) (aq:ex env n x= .bool b)
   (ad:b=true->dA B W az ro post n env L aU dg) (ag:b=false->dA B W az ro post n env L aU k2):dA B W az ro post n env L aU (.fR x dg k2)
 |vP {n:Nat} {env:List J} {L:List (bs P)} {aU:List (fG P)} {x:J} {dg k2:bZ} {m:Nat} {k:bZ} (b:Bool) (aq:ex env n x= .bool b) (da:Type) (bp:da->List J) (b9:da->List (bs P)) (gw:da->Prop) (hm:∀u,(bp u).length=m) (ho:∀u,gg (bp u))
   (ad:b=true->dA B W az ro post n env L ((λcL L'=>∃u',gw u'/\cL=bp u'/\pG B W az L' (b9 u'))::aU) dg) (ag:b=false->dA B W az ro post n env L ((λcL L'=>∃u',gw u'/\cL=bp u'/\pG B W az L' (b9 u'))::aU) k2)
   (h:∀u,gw u->dA B W az ro post (n+m) ((bp u).reverse++env) (b9 u) aU k):dA B W az ro post n env L aU (.vP x dg k2 m k)
 |ret {n:Nat} {env:List J} {L:List (bs P)} {aU:List (fG P)} {v:J} (L':List (bs P)) (hL:pG B W az L L') (h:post (ex env n v) L'):dA B W az ro post n env L aU (.ret v)
 |back {n:Nat} {env:List J} {L:List (bs P)} {xg:fG P} {aU:List (fG P)} {vs:List J} (h:xg (h9 env n vs) L):dA B W az ro post n env L (xg::aU) (.back vs)
 |gD {n:Nat} {env:List J} {L:List (bs P)} {xg:fG P} {aU:List (fG P)} {k:bZ} (h:dA B W az ro post n env L aU k):dA B W az ro post n env L (xg::aU) (.gD k)
 |loop {n:Nat} {env:List J} {L:List (bs P)} {aU:List (fG P)} {vs:List J} {m:Nat} {k:bZ} (da:Type) (bp:da->List J) (b9:da->List (bs P)) (gw:da->Prop) (iR:da->Nat) (mc:da)
   (hm:∀u,(bp u).length=m) (ad:∀u,gg (bp u)) (h0:h9 env n vs=bp mc) (hL:pG B W az L (b9 mc)) (bf:gw mc)
   (h:∀u,gw u->dA B W az ro post (n+m) ((bp u).reverse++env) (b9 u) ((λcL L'=>∃u',gw u'/\iR u'<iR u/\cL=bp u'/\pG B W az L' (b9 u'))::aU) k):dA B W az ro post n env L aU (.loop vs m k)
 |P2 {n:Nat} {env:List J} {L:List (bs P)} {aU:List (fG P)} {t:aK} {p x:J} {k:bZ} (i:Nat) {g:Nat} {ty:aK} {cs:List J} {j:Nat} {u:J} (hL:L[i]? =some (.box g ty cs)) (hp:ex env n p= .pointer (some ⟨g,j,none⟩)) (aq:ex env n x=u) (hj:j<cs.length)
   (hu:u.cells= #[u]) (ad:u.oneCell'=true) (cr:bg P (sizeOf t)=some 1) (h:dA B W az ro post n env (L.set i (.box g ty (cs.set j u))) aU k):dA B W az ro post n env L aU (.st t p x k)
 |X8 {n:Nat} {env:List J} {L:List (bs P)} {aU:List (fG P)} {t:aK} {p x:J} {k:bZ} (i:Nat) {g:Nat} {ty:aK} {cs:List J} {j m:Nat} {us:List J} (hL:L[i]? =some (.box g ty cs)) (hp:ex env n p= .pointer (some ⟨g,j,none⟩)) (aq:ex env n x= .agg ⟨us⟩) (hj:j+m<=cs.length)
   (hu:us.length=m) (ad:∀u∈us,u.oneCell'=true) (cr:bg P (sizeOf t)=some m) (h:dA B W az ro post n env (L.set i (.box g ty (cs.take j++us++cs.drop (j+m)))) aU k):dA B W az ro post n env L aU (.st t p x k)
 |X9 {n:Nat} {env:List J} {L:List (bs P)} {aU:List (fG P)} {t:aK} {p x:J} {k:bZ} (d:Nat) {K:js P} {v:J} {l:List K.α} (i j:Nat) (y:K.α) {u:J} (hL:L[d]? =some (.arr K v l)) (hp:ex env n p=hb v (i*K.k+j)) (ai:i<l.length) (aq:ex env n x=u) (hj:j<K.k)
   (hu:u.cells= #[u]) (ad:u.oneCell'=true) (bE:∀z,l[i]? =some z->K.enc y=(K.enc z).set j u) (cr:bg P (sizeOf t)=some 1) (h:dA B W az ro post n env (L.set d (.arr K v (l.set i y))) aU k):dA B W az ro post n env L aU (.st t p x k)
 |ahW {n:Nat} {env:List J} {L:List (bs P)} {aU:List (fG P)} {t:aK} {p x:J} {k:bZ} (d:Nat) {K:js P} {v:J} {l:List K.α} (i:Nat) (y:K.α) (hL:L[d]? =some (.arr K v l)) (hp:ex env n p=hb v (i*K.k)) (ai:i<l.length) (aq:ex env n x= .agg ⟨K.enc y⟩)
   (cr:bg P (sizeOf t)=some K.k) (h:dA B W az ro post n env (L.set d (.arr K v (l.set i y))) aU k):dA B W az ro post n env L aU (.st t p x k)
 |X' {n:Nat} {env:List J} {L:List (bs P)} {aU:List (fG P)} {t:aK} {s:J} {c:List J} {k:bZ} (d:Nat) {K:js P} {v:J} {l:List K.α} (lx:List K.α) (hL:L[d]? =some (.arr K v l)) (aw:ex env n s=v) (aq:h9 env n c=lx.flatMap K.enc) (aL:P.underlying t=some (.slice K.e))
   (iS:l.length+lx.length<=maxLen) (af:(l.length+lx.length)*K.bytes<=140737488355328) (h:∀a c,dA B W az ro post (n+1) (.slice a (l++lx).length c::env) (L.set d (.arr K (.slice a (l++lx).length c) (l++lx))) aU k):dA B W az ro post n env L aU (.yz t s c k)
 |ahX {n:Nat} {env:List J} {L:List (bs P)} {aU:List (fG P)} {t:aK} {s:J} {c:List J} {k:bZ} (d:Nat) {K:js P} {v:J} {l:List K.α} (lx:List K.α) (hL:L[d]? =some (.iT K v l)) (aw:ex env n s=v) (aq:h9 env n c=lx.flatMap K.enc) (aL:P.underlying t=some (.slice K.e))
   (iS:l.length+lx.length<=maxLen) (af:(l.length+lx.length)*K.bytes<=140737488355328) (h:∀a c,dA B W az ro post (n+1) (.slice a (l++lx).length c::env) (L.set d (.iT K (.slice a (l++lx).length c) (l++lx))) aU k):dA B W az ro post n env L aU (.yz t s c k)
 |ahY {n:Nat} {env:List J} {L:List (bs P)} {aU:List (fG P)} {t:aK} {s x:J} {k:bZ} (d:Nat) {K:js P} {v:J} {l:List K.α} (lG:J) (lx:List K.α) (hL:L[d]? =some (.arr K v l)) (aw:ex env n s=v) (aq:ex env n x=lG) (aL:P.underlying t=some (.slice K.e))
   (jV:∀M,bI B (aG W) az M (db L)->hi ro M->cF M K.k K.enc lG lx)
   (iS:l.length+lx.length<=maxLen) (af:(l.length+lx.length)*K.bytes<=140737488355328) (h:∀a c,dA B W az ro post (n+1) (.slice a (l++lx).length c::env) (L.set d (.arr K (.slice a (l++lx).length c) (l++lx))) aU k):dA B W az ro post n env L aU (.xe t s x k)
 |X_ {n:Nat} {env:List J} {L:List (bs P)} {aU:List (fG P)} {t:aK} {s x:J} {k:bZ} (d:Nat) {K:js P} {v:J} {l:List K.α} (lG:J) (lx:List K.α) (hL:L[d]? =some (.iT K v l)) (aw:ex env n s=v) (aq:ex env n x=lG) (aL:P.underlying t=some (.slice K.e))
   (jV:∀M,bI B (aG W) az M (db L)->hi ro M->cF M K.k K.enc lG lx)
   (iS:l.length+lx.length<=maxLen) (af:(l.length+lx.length)*K.bytes<=140737488355328) (h:∀a c,dA B W az ro post (n+1) (.slice a (l++lx).length c::env) (L.set d (.iT K (.slice a (l++lx).length c) (l++lx))) aU k):dA B W az ro post n env L aU (.xe t s x k)
 |mk {n:Nat} {env:List J} {L:List (bs P)} {aU:List (fG P)} {t:aK} {x:J} {k:bZ} (K:js P) (z:K.α) (m:Nat) (aL:P.underlying t=some (.slice K.e)) (bU:∃i v,P.info? K.e=some i/\i.zero=some v/\i.size=K.k/\i.bytes=K.bytes/\v.cells.toList=K.enc z) (aq:ex env n x= .int .i64 (m:Nat)) (iS:m<=1000000) (af:m*K.bytes<=140737488355328) (ar:m*K.k<=16777216)
   (h:∀a c,dA B W az ro post (n+1) (.slice a (List.replicate m z).length c::env) (L++[.arr K (.slice a (List.replicate m z).length c) (List.replicate m z)]) aU k):dA B W az ro post n env L aU (.mk t x k)
 |lt {n:Nat} {env:List J} {L:List (bs P)} {aU:List (fG P)} {t:aK} {x:J} {k:bZ} (K:js P) (y:K.α) {u:J} (aL:P.underlying t=some (.slice K.e)) (bU:∃z,bg P (zeroValue K.e)=some z) (al:K.k<=1000) (aq:ex env n x=u) (hu:u.cells=⟨K.enc y⟩)
   (h:∀a c,dA B W az ro post (n+1) (.slice a [y].length c::env) (L++[.arr K (.slice a [y].length c) [y]]) aU k):dA B W az ro post n env L aU (.lt t x k)
 |zU {n:Nat} {env:List J} {L:List (bs P)} {aU:List (fG P)} {t:aK} {xs:List J} {k:bZ} (K:js P) (l:List K.α) {us:List J} (aL:P.underlying t=some (.slice K.e)) (bU:∃z,bg P (zeroValue K.e)=some z) (al:K.k<=1000) (aq:h9 env n xs=us) (hu:us.map Value.cells=l.map λy=>⟨K.enc y⟩)
   (h:∀a c,dA B W az ro post (n+1) (.slice a l.length c::env) (L++[.arr K (.slice a l.length c) l]) aU k):dA B W az ro post n env L aU (.zU t xs k)
 |alt {n:Nat} {env:List J} {L:List (bs P)} {aU:List (fG P)} {dg k2:bZ} (ad:dA B W az ro post n env L aU dg) (ag:dA B W az ro post n env L aU k2):dA B W az ro post n env L aU (.alt dg k2)
 |tn {n:Nat} {env:List J} {L:List (bs P)} {aU:List (fG P)} {t:aK} {x:J} (i:Nat) {g:Nat} {ty:aK} {cs:List J} (hL:L[i]? =some (.box g ty cs)) (aq:ex env n x= .pointer (some ⟨g,0,none⟩)) (ha:bg P (isAgg t)=some true) (aw:bg P (sizeOf t)=some cs.length)
   (aC:aM (.agg ⟨cs⟩)=true) (ai:∀gn,@aJ gn (.agg ⟨cs⟩)= .agg ⟨cs⟩) (L':List (bs P)) (eA:pG B W az L L') (h:post (.agg ⟨cs⟩) L'):dA B W az ro post n env L aU (.tn t x)
 |sd {n:Nat} {env:List J} {L:List (bs P)} {aU:List (fG P)} {t:aK} {s:J} {c:List J} {k:bZ} (i:Nat) {g:Nat} {ty e:aK} {cs us:List J} {j m wM:Nat} (hL:L[i]? =some (.box g ty cs)) (aw:ex env n s= .slice (some ⟨g,j,none⟩) m wM) (aq:h9 env n c=us) (aL:P.underlying t=some (.slice e)) (bU:(P.info? e).map (·.size)=some 1)
   (h0:0<us.length) (hm:us.length<=m) (ad:∀u∈us,u.oneCell'=true) (hj:j+us.length<=cs.length) (h:dA B W az ro post n env (L.set i (.box g ty (cs.take j++us++cs.drop (j+us.length)))) aU k):dA B W az ro post n env L aU (.sd t s c k)
 |uK {n:Nat} {env:List J} {L:List (bs P)} {aU:List (fG P)} {c:List J} {m cap:Nat} {k:bZ} (K:js P) (xs:List K.α) (aq:h9 env n c=xs.flatMap K.enc) (hm:xs.length=m)
   (h:∀g,dA B W az ro post (n+1) (.slice (some ⟨g,0,none⟩) m cap::env) (L++[.red K (.slice (some ⟨g,0,none⟩) m cap) xs]) aU k):dA B W az ro post n env L aU (.uK c m cap k)
 |tm {n:Nat} {env:List J} {L:List (bs P)} {aU:List (fG P)} {t:aK} {x:J} {k:bZ} {u:J} {cs:List J} (aq:ex env n x=u) (hu:u.cells=⟨cs⟩) (h:∀g,dA B W az ro post (n+1) (.pointer (some ⟨g,0,none⟩)::env) (L++[.box g t cs]) aU k):dA B W az ro post n env L aU (.tm t x k)
 |qN {n:Nat} {env:List J} {L:List (bs P)} {aU:List (fG P)} {t:aK} {k:bZ} {z:J} {cs:List J} (bU:bg P (zeroValue t)=some z) (hu:z.cells=⟨cs⟩) (h:∀g,dA B W az ro post (n+1) (.pointer (some ⟨g,0,none⟩)::env) (L++[.box g t cs]) aU k):dA B W az ro post n env L aU (.qN t k)
 |call {n:Nat} {env:List J} {L:List (bs P)} {aU:List (fG P)} {f:FuncId} {args:List J} {r:J} {m:Nat} {k:bZ} (Y:Type) (is:List Nat) (ik:kl L.length is=true) (vs:Y->List J) (km vU:Y->List (bs P)) (hl:∀y,(km y).length=is.length) (hm:∀y,(vs y).length=m) (ad:∀y,gg (vs y))
   (ar:∀w,rz W az ro L w->B<=w.heap.size->cG (aG w) (pick (db L) is)->Calls P f ⟨h9 env n args⟩ w λe w'=>(∃y,e= .returned (ex ((vs y).reverse++env) (n+m) r)/\cV (aG w) (pick (db L) is) (aG w') (db (km y++vU y)))/\cg 0 w w')
   (h:∀y,dA B W az ro post (n+m) ((vs y).reverse++env) (vT L is (km y)++vU y) aU k):dA B W az ro post n env L aU (.call f args r m k)
theorem Ya {n:Nat} {s1 s2:a1} (ha:n5 n s1 s2) {p:J×J} (h:(gj p.1 p.2&&kN n p.1)=true): @aJ s1 p.1= @aJ s2 p.2:=by
 simp only [c7] at h;rw[<-hJ _ _ h.1];exact kO ha _ h.2
theorem ahZ {n:Nat} {bL:eE} (h:Pp n bL=true):oD n bL:=λp hp=>by
 have:=List.all_eq_true.1 h p hp;simp only [c7] at this;exact⟨hJ _ _ this.1,this.2⟩
theorem GI {n:Nat} {s1 s2:a1} (ha:n5 n s1 s2) {bL:eE} (h:oD n bL):fP s1 s2 bL:=λp hp=>by
 obtain⟨ad,ag⟩:=h p hp;rw[<-ad];exact kO ha _ ag
theorem oD.nil (n:Nat):oD n []:=λ_ h=>by cases h
theorem qP {n:Nat} {a b:Option eE} (ha:∃o,a=some o/\oD n o) (af:∃o,b=some o/\oD n o):∃o,both a b=some o/\oD n o:=by
 obtain⟨x,rfl,aq⟩:=ha;obtain⟨y,rfl,bE⟩:=af;exact⟨x++y,rfl,λp hp=>(List.mem_append.1 hp).elim (aq p) (bE p)⟩
theorem ah0 {m:Nat} {v:J} (h:(ya v||(aM v&&kN m v))=true):∃o,Di v v=some o/\oD m o:=by
 unfold Di;cases hp:ya v with
 |true=>exact⟨[],rfl,.nil m⟩
 |false=>
  rw[hp,Bool.false_or,c7] at h;rw[eB,h.1,Bool.and_self,bD];cases (gj v v&&plain v) with
  |true=>exact⟨[],rfl,.nil m⟩
  |false=>exact⟨[(v,v)],rfl,λp hp=>by rw[List.mem_singleton] at hp;subst hp;exact⟨rfl,h.2⟩⟩
mutual
theorem P3 {n m:Nat}:∀v:J,okV n m v=true->∃o,vt n v v=some o/\oD m o:=by
 intro v h;unfold okV at h;split at h
 ·exact⟨[],by unfold vt;rw[h,Nat.beq_refl,Nat.beq_refl];rfl,.nil m⟩
 ·exact⟨[],by unfold vt;rw[h];simp only [Nat.beq_refl];rfl,.nil m⟩
 ·exact GJ _ h
 ·rename_i f l k
  simp only [c7] at h;obtain⟨o,ad,ag⟩:=qP (GJ _ h.1) (GJ _ h.2);exact⟨o,by unfold vt;rw[Nat.beq_refl,bD];exact ad,ag⟩
 ·exact⟨[],by unfold vt;rw[h,Nat.beq_refl];rfl,.nil m⟩
 ·rename_i ad ag ay bG cE
  have e:vt n v v=Di v v:=by
   unfold vt;split
   ·exact(ad _ _ rfl).elim
   ·exact(ag _ _ _ _ rfl).elim
   ·exact(ay _ rfl).elim
   ·exact(bG _ _ _ rfl).elim
   ·exact(cE _ rfl).elim
   ·rfl
  rw[e];exact ah0 h
theorem GJ {n m:Nat}:∀l:List J,BE n m l=true->∃o,yb n l l=some o/\oD m o
 |[],_=>⟨[],rfl,.nil m⟩
 |v::r,h=>by
  unfold BE at h;rw[c7] at h;unfold yb;exact qP (P3 v h.1) (GJ r h.2)
end
theorem BI {n m:Nat}:∀t:bV J,(∃o,s5 n t (ni n m t)=some o/\oD m o)/\(∃o,s5 n (ni n m t) (ni n m t)=some o/\oD m o)
 | .nil=>⟨⟨[],rfl,.nil m⟩,⟨[],rfl,.nil m⟩⟩
 | .node none l r=>by
   obtain⟨dZ,a2⟩:=BI (n:=n) (m:=m) l;obtain⟨kh,lM⟩:=BI (n:=n) (m:=m) r;unfold ni s5;exact⟨qP ⟨[],rfl,.nil m⟩ (qP dZ kh),qP ⟨[],rfl,.nil m⟩ (qP a2 lM)⟩
 | .node (some v) l r=>by
   obtain⟨dZ,a2⟩:=BI (n:=n) (m:=m) l;obtain⟨kh,lM⟩:=BI (n:=n) (m:=m) r;unfold ni;cases aC:okV n m v with
   |true=>
    rw[bD];unfold s5;exact⟨qP (P3 v aC) (qP dZ kh),qP (P3 v aC) (qP a2 lM)⟩
   |false=>
    rw[eB];unfold s5;exact⟨qP ⟨[],rfl,.nil m⟩ (qP dZ kh),qP ⟨[],rfl,.nil m⟩ (qP a2 lM)⟩
theorem ah1 {n m:Nat} {o:qZ} (h:Pq n m o=true):∃x,A6 n o o=some x/\oD m x:=by
 unfold Pq at h;split at h
 ·exact GJ _ h
 ·exact⟨[],rfl,.nil m⟩
 ·exact⟨[],rfl,.nil m⟩
 ·cases h
theorem Yb {n m:Nat}:∀{l:List bu},DX n m l=true->ri l=true
 |[],_=>rfl
 |x::r,h=>by
  unfold DX at h;rw[c7] at h;unfold ri;rw[c7];refine⟨?_,Yb h.2⟩;have ad:=h.1;split
  ·rename_i fY aq
   rw[aq] at ad;cases ad
  ·rfl
theorem P4 {n m:Nat} {A:a6}:∀(l:List bu) (i:Nat),DX n m l=true->(∀j x,l[j]? =some x->∃k,A.bl.get (i+j)=some k/\k.cP=i+j/\k.ro=false/\k.eN=x.eN/\k.ty=x.ty/\k.obj=x.obj)->∃o,zz n A l i=some o/\oD m o
 |[],i,_,_=>⟨[],rfl,.nil m⟩
 |x::r,i,h,al=>by
  unfold DX at h;rw[c7] at h;obtain⟨k,q1,aH,bW,et,gN,j_⟩:=al 0 x rfl;rw[Nat.add_zero] at q1 aH;unfold zz;rw[q1];dsimp only;rw[aH,bW,et,gN,j_];simp only [Nat.beq_refl,Bool.not_false,Bool.and_self,bD];exact qP (ah1 h.1) (P4 r (i+1) h.2 λj y hj=>by
   obtain⟨k,ih,hz⟩:=al (j+1) y (by simpa using hj);rw[show i+(j+1)=i+1+j by omega] at ih hz
   exact⟨k,ih,hz⟩)
theorem Yc {m:Nat} {aZ:List bu} (h:su m aZ=true):∃o,zz aZ.length (c6 aZ) aZ 0=some o/\oD m o:=by
 unfold su at h;rw[c7] at h;refine P4 aZ 0 h.2 λj x hj=> ?_
 have ck:=(List.getElem?_eq_some_iff.1 hj).1;have:=List.all_eq_true.1 h.1 j (by simpa using ck);rw[c7] at this;have ag:=this.2;cases aA:(Dm aZ 0 .nil).get j with
 |none=>rw[aA] at ag;cases ag
 |some k=>
  obtain⟨y,q1,aH⟩:=zy (l:=aZ) (b:=j) (k:=k) aA;rw[hj,cN] at q1;subst q1;subst aH;rw[Nat.zero_add];exact⟨_,aA,rfl,rfl,rfl,rfl,rfl⟩
theorem Yd {A:a6}:∀(m i:Nat) {j:Nat} {x:bu},(tp A m i)[j]? =some x->∃k,A.bl.get (i+j)=some k/\k.eN=x.eN/\k.ty=x.ty/\k.obj=x.obj
 |0,i,j,x,h=>by simp [tp] at h
 |m+1,i,j,x,h=>by
  unfold tp at h;split at h
  ·rename_i b af
   cases j with
   |zero=>
    simp only [List.getElem?_cons_zero,cN] at h;subst h;unfold XO at af;split at af
    ·rename_i k al
     cases af;exact⟨k,al,rfl,rfl,rfl⟩
    ·cases af
   |succ j=>
    obtain⟨k,q1,aH⟩:=Yd m (i+1) (j:=j) (by simpa using h);exact⟨k,by rw[show i+(j+1)=i+1+j by omega];exact q1,aH⟩
  ·simp at h
theorem Ye {A:a6}:∀(l:List bu) (i:Nat),KD A l i=true->∀j x,l[j]? =some x->∃k,A.bl.get (i+j)=some k/\k.cP=i+j/\k.ro=false
 |[],i,_,j,x,h=>by simp at h
 |y::r,i,aQ,j,x,h=>by
  unfold KD at aQ;rw[c7] at aQ;cases j with
  |zero=>
   have ad:=aQ.1;split at ad
   ·rename_i k al
    simp only [c7,Bool.not_eq_true'] at ad;exact⟨k,al,cH ad.1,ad.2⟩
   ·cases ad
  |succ j=>
   obtain⟨k,q1,aH⟩:=Ye r (i+1) aQ.2 j x (by simpa using h);rw[show i+(j+1)=i+1+j by omega];exact⟨k,q1,aH⟩
theorem P5 {m:Nat} {s:b6} {sl:aF} {aZ:List bu} (vu:s.ms=[]) (af:su m aZ=true) (ad:∃o,s5 aZ.length s.sl sl=some o/\oD m o) (ag:∃o,zz aZ.length s.A aZ 0=some o/\oD m o):zY m s sl aZ:=by
 obtain⟨o,e,ho⟩:=qP ad ag;have ef:=af;unfold su at ef;rw[c7] at ef;refine⟨o,?_,ho,Yb ef.2⟩;unfold cp;rw[vu];dsimp only;rw[ef.1,bD];exact e
theorem Yf {m:Nat} {sl:aF} {aZ:List bu} (af:su m aZ=true):zY m (b3 sl aZ) (ni aZ.length m sl) aZ:=P5 rfl af (BI sl).1 (Yc af)
theorem ah2 {m:Nat} {sl:aF} {aZ:List bu} (af:su m aZ=true):zY m (b3 (ni aZ.length m sl) aZ) (ni aZ.length m sl) aZ:=P5 rfl af (BI sl).2 (Yc af)
theorem P6 {m:Nat} {s:b6} (aw:zX s=true) (af:su m (zV s)=true):zY m s (ni (zV s).length m s.sl) (zV s):=by
 unfold zX at aw;rw[c7] at aw;have vu:s.ms=[]:=by
  have ad:=aw.1;split at ad
  ·assumption
  ·cases ad
 refine P5 vu af (BI s.sl).1 (P4 _ 0 (by unfold su at af;rw[c7] at af;exact af.2) λj x hj=> ?_);obtain⟨k,q1,aH,bW⟩:=Ye _ 0 aw.2 j x hj;obtain⟨k',ih,hz,uj,sW⟩:=Yd _ 0 hj;rw[q1,cN] at ih;subst ih;exact⟨k,q1,aH,bW,hz,uj,sW⟩
theorem ah3 {n:Nat} {s1 s2:a1} (ha:n5 n s1 s2) {v u:J} (aC: @aJ s1 v= @aJ s2 u) {bL:eE} (h:XP n v u bL=true):fP s1 s2 bL:=λp hp=>by
 have:=List.all_eq_true.1 h p hp;rw[Bool.or_eq_true] at this;rcases this with h|h
 ·exact Ya ha h
 ·simp only [c7] at h
  rw[hJ _ _ h.1,hJ _ _ h.2];exact aC
theorem P7 {n:Nat} {M M':Mem} {nM n2 qQ us vs:List J} {bL:eE} (he:nM=n2++qQ) (av:qQ.length=n) (ho:gg nM) (hu:gg us) (J0:us=h9 nM nM.length vs) (h:DY n vs bL=true):fP (cY M nM) (cY M' (us.reverse++qQ)) bL:=by
 have ha:n5 n (cY M nM) (cY M' (us.reverse++qQ)):=by
  subst he;have q1:=uJ M M (dc:=n2) av;have aH:=uJ M M' (dc:=us.reverse) av;exact λk al=>(q1 k al).symm.trans (aH k al)
 intro p hp;have:=List.all_eq_true.1 h p hp;unfold XS at this;rw[Bool.or_eq_true] at this;rcases this with h|h
 ·exact Ya ha h
 ·obtain⟨ih,hz⟩:=p
  simp only at h ⊢;split at h
  ·rename_i k
   simp only [c7] at h;obtain⟨ad,ag,ay⟩:=h;have al:=Nat.ble_eq.mp ad;split at ay
   ·rename_i v aC
    rw[<-hJ _ _ ay,ml M ho rfl];have hlen:(us.reverse++qQ).length=us.length+n:=by simp [av]
    have ah4:gg qQ:=by
     subst he;exact Ky λv aC=>DT ho v (List.mem_append_right _ aC)
    rw[show (Value.complex .f64 k 0)=ak k from rfl,ml M' (tk (qM hu) ah4) rfl];show _=bif Nat.beq 0 0 then (bif Nat.blt k eZ then look (us.reverse++qQ) (us.reverse++qQ).length k else .pointer (some ⟨k-eZ,0,none⟩)) else .complex .f64 k 0
    rw[show Nat.beq 0 0=true from rfl,bD,ag,bD,Kz _ _ _ rfl,List.reverse_append,List.reverse_reverse,dp,List.getElem?_append_right (by simpa [av] using al)];have ah5:us[k-n]? =some (ex nM nM.length v):=by
     rw[J0];clear J0;have:∀(l:List J) (i:Nat) (v:J),l[i]? =some v->(h9 nM nM.length l)[i]? =some (ex nM nM.length v):=by
      intro l
      induction l with
      |nil=>intro i v h;simp at h
      |cons x r cz=>
       intro i v h;unfold h9;cases i with
       |zero=>simp only [List.getElem?_cons_zero,cN] at h ⊢;rw[h]
       |succ i=>simp only [List.getElem?_cons_succ] at h ⊢;exact cz i v h
     exact this _ _ _ aC
    rw[show qQ.reverse.length=n by simpa using av,ah5];rfl
   ·cases ay
  ·cases h
end AE
end Go.Proofs.YtepcfjbfkedlpaaDoor
