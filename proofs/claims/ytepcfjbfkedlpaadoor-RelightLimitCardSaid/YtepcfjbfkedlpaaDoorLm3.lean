/- Parts of the proof. -/
import Derived.Test.YtepcfjbfkedlpaaDoorLm2
import Derived.Laws.OwnMore
import Derived.Laws.CopyRow
import Derived.Laws.Pointers
set_option maxRecDepth 100000
set_option maxHeartbeats 4000000
namespace Go.Proofs.YtepcfjbfkedlpaaDoor
open Go Go.RowKit
namespace AE
theorem WI {α:Type} {k:Nat} {enc:α->List J} (al:∀x,(enc x).length=k) {j:Nat} (hj:j<k) {nL:J} {y:α}:∀(l:List α) (i:Nat),i<l.length->(∀x,l[i]? =some x->enc y=(enc x).set j nL)->(l.set i y).flatMap enc=(l.flatMap enc).set (i*k+j) nL
 |[],i,h,_=>by simp at h
 |x::r,0,_,bE=>by
  rw[List.set_cons_zero,List.flatMap_cons,List.flatMap_cons,bE x rfl,List.set_append_left _ _ (by rw[al];omega),Nat.zero_mul,Nat.zero_add]
 |x::r,i+1,h,bE=>by
  rw[List.set_cons_succ,List.flatMap_cons,List.flatMap_cons,WI al hj r i (by simpa using h) (λz bW=>bE z (by simpa using bW)),List.set_append_right _ _ (by rw[al,Nat.add_mul];omega),al];congr 2;rw[Nat.add_mul];omega
theorem WJ [cV] {α:Type} {P:aS} {N B:Nat} {w0:ax} {Q:Exit->Act->ax->Prop} {M:Mem} {bs bm:List J} {o:Option b1} {t e:aK} {k:Nat} {p x u nL:J} {enc:α->List J} {l l':List α} {i j:Nat} {y:α} {ef dK:aF} {a1:List bx} {bN:eH}
  (gb:l'=l.set i y) (h:nJ o=some (t,p,x)) (cv:bk P (sizeOf t)=some 1) (al:∀x,(enc x).length=k) (hj:j<k) (bE:∀z,l[i]? =some z->enc y=(enc z).set j nL)
  (dg:cr (b9 o) ef a1=some bN) (eL:g' N ef (kc o) undef=some dK) (hp:aM p=true) (aq:aM x=true) (ml: @aJ (aX M bs) p=hd u (i*k+j)) (ex: @aJ (aX M bs) x=nL) (hu:nL.cells= #[nL]) (kd:nL.oneCell'=true)
  (cO:dw B M e k enc u l) (ai:i<l.length) (hm:∀M',fO (aX M bs) (aX M' bm) bN)
  (rest:∀M',dw B M' e k enc u l'->h8 M M' (eP u)->∀a6 w,@Here (aX M' bm) _ N {sl:=dK,ms:=[],A:=da a1} B w0 a6 w->wpListIn (Fr none) 0 P (kP o) (d' P (gC o) Q) (kO o) a6 w)
  (av:cV.ev<=a1.length:=by first|exact Nat.zero_le _|exact gI rfl) (ar:ix (b9 o).A a1 0:=by exact gW rfl): @fA (aX M bs) _ P N B w0 Q o:=by
 subst gb;letI:=aX M bs;unfold nJ at h;split at h
 ·rename_i op r ops s ks
  refine⟨_,rfl,λa w ah=> ?_⟩;split at h
  ·rename_i dr oC hg cz
   split at h
   ·rename_i jP
    cases h;have hF:=ah;obtain⟨⟨φ,ds,ad,ag,ay,bG,_⟩,cJ,cU⟩:=ah;unfold wpListIn;rw[py ag.get jP,aY rfl];have es:a.eval oC=hd u (i*k+j):=(aD.jj _ hp (gU (iG φ) ag.get oC)).trans ml;have o4:a.eval hg=nL:=(aD.jj _ aq (gU (iG φ) ag.get hg)).trans ex;have hw:∀i o,M i=some o->w.heap[i]? =some o:=hF.nY;rcases cO with ⟨hf,rfl,rfl⟩|⟨g,cap,cur,rfl,kB,cX,bw,hle,xU,fT,yv⟩
    ·simp at ai
    ·have aA:=hw _ _ bw
     have J0:i*k+j<cur.size:=by
      rw[fT];have:=Nat.mul_le_mul_right k (show i+1<=cap by omega);rw[Nat.add_mul] at this;omega
     let fP:Array J:=(cur.toList.take (i*k+j)++[nL]++cur.toList.drop (i*k+j+1)).toArray
     have fj:fP=(cur.toList.set (i*k+j) nL).toArray:=by
      show (cur.toList.take (i*k+j)++[nL]++cur.toList.drop (i*k+j+1)).toArray=_;rw[List.set_eq_take_append_cons_drop,aY (by rw[Array.length_toList];exact J0)];simp
     have xS:(storeCells ⟨g,i*k+j,none⟩ [nL]).run P w= .ok () (w.setRow g fP):=by
      have:=run_storeCells_at P g (i*k+j) e [nL] 0 cur w aA (by simp only [List.length_cons,List.length_nil];omega) (λv aC=>by rw[List.mem_singleton.1 aC];exact kd);simpa only [Nat.add_zero,List.length_cons,List.length_nil] using this
     have fy:(execOp a.eval op).run P w= .ok .skip (w.setRow g fP):=by
      unfold execOp;rw[cz];simp only [es,o4];show (do Instr.storeAt t (hd (.slice (some ⟨g,0,none⟩) l.length cap) (i*k+j)) nL;pure Next.skip:Sem Next).run P w=_;have c0:(Instr.storeAt t (hd (.slice (some ⟨g,0,none⟩) l.length cap) (i*k+j)) nL).run P w= .ok () (w.setRow g fP):=by
       unfold Instr.storeAt;refine c9 (a:=(⟨g,0+(i*k+j),none⟩:Addr)) rfl ?_;unfold storeVar;refine c9 cv ?_;rw[a_ (by rw[hu];simp),hu,Nat.zero_add];exact xS
      simp only [Sem.run_bind,c0,Result.andThen_ok];rfl
     have fB:∀c',op.op≠.defer c':=λc' h=>by rw[cz] at h;cases h
     refine⟨λ_ _=>trivial,?_⟩;rw[Oper.semAt_eq _ _ _ fB,fy,Oper.uponIn_skip];have ig:eP (.slice (some ⟨g,0,none⟩) l.length cap)=some g:=nZ ⟨g,0,none⟩ _ kB;obtain⟨q1,aH⟩:=qK (B:=B) (M:=M) (w':=w.setRow g fP) (T:=some g) (bt:=some g) hw (λi ai=>by cases ai;exact⟨by rw[bw];simp,cX⟩) (λi ai=> .inl ai) ⟨rfl,rfl,rfl⟩ (ch _) (by simp [World.setRow]) (λj _ hj=>setRow_other w g j fP (λh=>hj (by rw[h])));have vN:dw B (h9 M (w.setRow g fP) (some g) (some g)) e k enc (.slice (some ⟨g,0,none⟩) l.length cap) (l.set i y):=by
      refine .inr ⟨g,cap,fP,by rw[List.length_set],kB,cX,?_,by rw[List.length_set];exact hle,xU,by rw[fj];simpa using fT,?_⟩
      ·unfold h9
       rw[aY rfl];exact setRow_heap w g cur fP e (0,0) aA
      ·rw[fj,List.length_set,WI al hj l i ai bE,<-yv]
       exact List.take_set ..
     have hV:=Here.turns (vals':=bm) dg (hm _) q1 av ar hF;letI:=aX (h9 M (w.setRow g fP) (some g) (some g)) bm;exact rest _ vN (by rw[ig];exact aH) _ _ (Here.put (d:=op.dst) hV (v:=undef) rfl eL)
   ·cases h
  ·cases h
 ·cases h
theorem OO [cV] {P:aS} {N B:Nat} {w0:ax} {Q:Exit->Act->ax->Prop} {M:Mem} {bs bm:List J} {o:Option b1} {t ty:aK} {g j n:Nat} {p x:J} {us cs cs':List J} {ef dK:aF} {a1:List bx} {bN:eH}
  (gb:cs'=cs.take j++us++cs.drop (j+n)) (h:nJ o=some (t,p,x)) (cv:bk P (sizeOf t)=some n)
  (dg:cr (b9 o) ef a1=some bN) (eL:g' N ef (kc o) undef=some dK) (hp:aM p=true) (aq:aM x=true) (ml: @aJ (aX M bs) p= .pointer (some ⟨g,j,none⟩)) (ex: @aJ (aX M bs) x= .agg ⟨us⟩) (hu:us.length=n) (kd:∀u∈us,u.oneCell'=true)
  (cO:jr B M (.pointer (some ⟨g,0,none⟩)) ty cs) (hj:j+n<=cs.length) (hm:∀M',fO (aX M bs) (aX M' bm) bN)
  (rest:∀M',jr B M' (.pointer (some ⟨g,0,none⟩)) ty cs'->h8 M M' (some g)->∀a6 w,@Here (aX M' bm) _ N {sl:=dK,ms:=[],A:=da a1} B w0 a6 w->wpListIn (Fr none) 0 P (kP o) (d' P (gC o) Q) (kO o) a6 w)
  (av:cV.ev<=a1.length:=by first|exact Nat.zero_le _|exact gI rfl) (ar:ix (b9 o).A a1 0:=by exact gW rfl): @fA (aX M bs) _ P N B w0 Q o:=by
 subst gb;letI:=aX M bs;unfold nJ at h;split at h
 ·rename_i op r ops s ks
  refine⟨_,rfl,λa w ah=> ?_⟩;split at h
  ·rename_i dr oC hg cz
   split at h
   ·rename_i jP
    cases h;have hF:=ah;obtain⟨⟨φ,ds,ad,ag,ay,bG,_⟩,cJ,cU⟩:=ah;unfold wpListIn;rw[py ag.get jP,aY rfl];have es:a.eval oC= .pointer (some ⟨g,j,none⟩):=(aD.jj _ hp (gU (iG φ) ag.get oC)).trans ml;have o4:a.eval hg= .agg ⟨us⟩:=(aD.jj _ aq (gU (iG φ) ag.get hg)).trans ex;have hw:∀i o,M i=some o->w.heap[i]? =some o:=hF.nY;obtain⟨bw,cX⟩:=cO.known;have aA:=hw _ _ bw
    let fP:Array J:=(cs.take j++us++cs.drop (j+n)).toArray
    have xS:(storeCells ⟨g,j,none⟩ us).run P w= .ok () (w.setRow g fP):=by
     have:=run_storeCells_at P g j ty us 0 ⟨cs⟩ w aA (by simp only [List.size_toArray];omega) kd;simp only [Nat.add_zero,hu] at this;exact this
    have fy:(execOp a.eval op).run P w= .ok .skip (w.setRow g fP):=by
     unfold execOp;rw[cz];simp only [es,o4];show (do Instr.storeAt t (.pointer (some ⟨g,j,none⟩)) (.agg ⟨us⟩);pure Next.skip:Sem Next).run P w=_;have c0:(Instr.storeAt t (.pointer (some ⟨g,j,none⟩)) (.agg ⟨us⟩)).run P w= .ok () (w.setRow g fP):=by
      unfold Instr.storeAt;refine c9 (a:=(⟨g,j,none⟩:Addr)) rfl ?_;unfold storeVar;refine c9 cv ?_;rw[a_ (by simp [Value.cells,hu])];exact xS
     simp only [Sem.run_bind,c0,Result.andThen_ok];rfl
    have fB:∀c',op.op≠.defer c':=λc' h=>by rw[cz] at h;cases h
    refine⟨λ_ _=>trivial,?_⟩;rw[Oper.semAt_eq _ _ _ fB,fy,Oper.uponIn_skip];obtain⟨q1,aH⟩:=qK (B:=B) (M:=M) (w':=w.setRow g fP) (T:=some g) (bt:=some g) hw (λi ai=>by cases ai;exact⟨by rw[bw];simp,cX⟩) (λi ai=> .inl ai) ⟨rfl,rfl,rfl⟩ (ch _) (by simp [World.setRow]) (λj _ hj=>setRow_other w g j fP (λh=>hj (by rw[h])));have vN:jr B (h9 M (w.setRow g fP) (some g) (some g)) (.pointer (some ⟨g,0,none⟩)) ty (cs.take j++us++cs.drop (j+n)):=by
     refine⟨g,rfl,cX,?_⟩;unfold h9;rw[aY rfl];exact setRow_heap w g ⟨cs⟩ fP ty (0,0) aA
    have hV:=Here.turns (vals':=bm) dg (hm _) q1 av ar hF;letI:=aX (h9 M (w.setRow g fP) (some g) (some g)) bm;exact rest _ vN aH _ _ (Here.put (d:=op.dst) hV (v:=undef) rfl eL)
   ·cases h
  ·cases h
 ·cases h
section
variable [a7] {P:aS}
theorem aV.J1 {B g o n:Nat} {ty t:aK} {cs us:List J} {p r:J} (cO:jr B a7.dn (.pointer (some ⟨g,0,none⟩)) ty cs) (hu:us=(cs.drop o).take n) (hp:aM p=true) (ao:aM r=true) (ha:bk P (isAgg t)=some true) (av:bk P (sizeOf t)=some n) (hl:us.length=n) (ml:aJ p= .pointer (some ⟨g,o,none⟩)) (ca:aJ r= .agg ⟨us⟩):aV P (.bB t p,r):=
 aV.bB hp ao ha av ml hl (λw hw j u hj=>by
  rw[cell_of_row w g _ ⟨cs⟩ ty (0,0) (hw _ _ cO.known.1)];rw[hu,List.getElem?_take] at hj;split at hj
  ·rw[List.getElem?_drop] at hj
   simpa using hj
  ·cases hj) ca
end
theorem kT.drop {α:Type} {B:Nat} {M:Mem} {e:aK} {k:Nat} {enc:α->List J} (al:∀x,(enc x).length=k) {a:Option Addr} {n c:Nat} {l:List α} (h:kT B M e k enc (.slice a n c) l) {j:Nat} (hj:j<=n):kT B M e k enc (.slice (ln a c j k) (n-j) (c-j)) (l.drop j):=by
 rcases h with ⟨a6,h,rfl⟩|⟨g,off,sm,cur,h,ar,cX,bw,hle,xU,fT,yv⟩
 ·cases h
  obtain rfl:j=0:=by omega
  exact .inl ⟨_,rfl,rfl⟩
 ·cases h
  by_cases J0:c=j
  ·subst J0
   have aL:l.drop c=[]:=List.drop_eq_nil_of_le hle;rw[aL];refine .inl ⟨ln (some ⟨g,off,none⟩) c c k,?_,rfl⟩;rw[show l.length-c=0 by omega,Nat.sub_self]
  ·have agf:ln (some ⟨g,off,none⟩) c j k=some ⟨g,off+j*k,none⟩:=by
    unfold ln;rw[a_ J0];simp [Addr.kz]
   refine .inr ⟨g,off+j*k,c-j,cur,by rw[agf,List.length_drop],aj,cX,bw,by rw[List.length_drop];omega,aj,?_,?_⟩
   ·rw[fT,Nat.sub_mul]
    have:=Nat.mul_le_mul_right k (show j<=c by omega);omega
   ·rw[List.length_drop,Nat.sub_mul,<-List.drop_drop]
    have ad:=congrArg (List.drop (j*k)) yv;rw[List.drop_take] at ad;rw[ad,On al l j]
theorem agh {α:Type} {P:aS} {w:ax} {B:Nat} {M:Mem} {t ty e:aK} {i:TypeInfo} {z:J} {k bytes:Nat} (aN:P.underlying t=some (.slice e)) (ai:P.info? e=some i) (bW:i.zero=some z) (gN:i.size=k) (jY:i.bytes=bytes) (mj:z.cells.size=k) (h1:0<k)
  {enc:α->List J} (al:∀x,(enc x).length=k) (kd:∀x,∀u∈enc x,u.oneCell'=true) {v x:J} {l lx:List α} (cO:kT B M e k enc v l) (aq:sf w k enc x lx) (hw:∀i o,M i=some o->w.heap[i]? =some o) (cX:B<=w.heap.size)
  (iS:l.length+lx.length<=maxLen) (lR:(l.length+lx.length)*bytes<=140737488355328):
  ∃aB w' M',(Builtin.append_ #[t,t] ty #[v,x]).run P w= .ok aB w'/\kT B M' e k enc aB (l++lx)/\Be B M M' (eP v) w w'/\h8 M M' (eP v)/\∀j,some j=eP aB->some j=eP v\/M j=none:=by
 have WK:∀{a:Option Addr},v= .slice a 0 0->l=[]->∃aB w' M',(Builtin.append_ #[t,t] ty #[v,x]).run P w= .ok aB w'/\kT B M' e k enc aB (l++lx)/\Be B M M' (eP v) w w'/\h8 M M' (eP v)/\∀j,some j=eP aB->some j=eP v\/M j=none:=by
  intro a ha hl;subst hl;subst ha;have lo:dw B M e k enc (.slice a 0 0) []:= .inl ⟨a,rfl,rfl⟩;obtain⟨aB,w',M',q1,aH,b0,eF⟩:=Ol (ty:=ty) aN ai bW gN jY mj h1 al kd lo aq hw cX iS lR;refine⟨aB,w',M',q1,aH.queue,b0,eF,λj hj=> ?_⟩;rcases Wa aN ai bW gN jY mj h1 al kd lo aq hw iS lR q1 j hj with h|h
  ·exact .inl h
  ·exact .inr (zJ hw h)
 rcases cO with ⟨a,rfl,rfl⟩|⟨g,off,cap,cur,rfl,kB,yp,bw,hle,xU,fT,yv⟩
 ·exact WK U U
 clear WK;obtain⟨xd,c,rfl,ym,km⟩:=aq;have ig:eP (.slice (some ⟨g,off,none⟩) l.length cap)=some g:=nZ ⟨g,off,none⟩ _ kB;have cO:kT B M e k enc (.slice (some ⟨g,off,none⟩) l.length cap) l:= .inr ⟨g,off,cap,cur,rfl,kB,yp,bw,hle,xU,fT,yv⟩;by_cases hm:lx=[]
 ·subst hm
  refine⟨_,w,M,Oi aN ai hle,by rw[List.append_nil];exact cO,⟨λi ai=>cO.known i ai,rfl,rfl,rfl,ch _,ch _,λ_ _ _=>rfl,λi o h=>⟨hw i o h,.inl (by rw[h];simp)⟩⟩,λi o h _=>h,λj h=> .inl h⟩
 ·cases xd with
  |none=>exact absurd (ym rfl) hm
  |some hf=>
   have hlen:=rm al lx;have uc:0<lx.length:=List.length_pos_iff.2 hm;have ad:∀u∈lx.flatMap enc,u.oneCell'=true:=λu hu=>by
    obtain⟨y,_,bE⟩:=List.mem_flatMap.1 hu;exact kd y u bE
   have aA:=hw _ _ bw;subst gN;subst jY;have gX:∀i,some i=some g->M i≠none/\B<=i:=λi ai=>by
    cases ai;exact⟨by rw[bw];simp,yp⟩
   rw[ig];by_cases Dx:l.length+lx.length<=cap
   ·have Uu:=Nat.mul_le_mul_right i.size Dx
    rw[Nat.add_mul] at Uu;have qA:off+l.length*i.size+(lx.flatMap enc).length<=cur.size:=by rw[hlen,fT];omega
    let fP:Array J:=(cur.toList.take (off+l.length*i.size)++lx.flatMap enc++cur.toList.drop (off+l.length*i.size+(lx.flatMap enc).length)).toArray
    have fy:(Builtin.append_ #[t,t] ty #[.slice (some ⟨g,off,none⟩) l.length cap,.slice (some hf) lx.length c]).run P w= .ok (.slice (some ⟨g,off,none⟩) (l.length+lx.length) cap) (w.setRow g fP):=by
     have aR:=run_firstCells_some (P:=P) w i.size lx.length hf lx.length c _ hlen (km hf rfl);have c0:=run_storeCells_at P g (off+l.length*i.size) e (lx.flatMap enc) 0 cur w aA (by simpa using qA) ad;simp only [Nat.add_zero] at c0;simp [Builtin.append_,run_underlying aN,sizeOf,typeInfo,ai,Builtin.lenOf,Dx,aR,Addr.kz,c0,fP]
    have N9:fP.size=cur.size:=by
     simp only [fP,List.size_toArray,List.length_append,List.length_take,List.length_drop,Array.length_toList];omega
    obtain⟨q1,aH⟩:=qK (B:=B) (M:=M) (w':=w.setRow g fP) (T:=some g) (bt:=some g) hw gX (λi ai=> .inl ai) ⟨rfl,rfl,rfl⟩ (ch _) (by simp [World.setRow]) (λj _ hj=>setRow_other w g j fP (λh=>hj (by rw[h])));refine⟨_,_,_,fy,.inr ⟨g,off,cap,fP,by rw[List.length_append],kB,yp,?_,by rw[List.length_append];exact Dx,xU,by rw[N9,fT],?_⟩,q1,aH,λj hj=> ?_⟩
    ·unfold h9
     rw[aY rfl];exact setRow_heap w g cur fP e (0,0) aA
    ·have J2:(cur.toList.drop off).length=cap*i.size:=by
      rw[List.length_drop,Array.length_toList (xs:=cur),fT];omega
     have agi:((cur.toList.drop off).take (l.length*i.size)).length=l.length*i.size:=by
      rw[List.length_take,J2];omega
     have ao2:(cur.toList.take (off+l.length*i.size)).length=off+l.length*i.size:=by
      rw[List.length_take,Array.length_toList (xs:=cur),fT];omega
     have e2:fP.toList.drop off=(cur.toList.drop off).take (l.length*i.size)++(lx.flatMap enc++cur.toList.drop (off+l.length*i.size+(lx.flatMap enc).length)):=by
      show ((cur.toList.take (off+l.length*i.size)++lx.flatMap enc++_)).drop off=_;rw[List.append_assoc,List.drop_append_of_le_length aj,List.drop_take,show off+l.length*i.size-off=l.length*i.size by omega]
     rw[e2,List.length_append,List.flatMap_append,<-yv,<-List.append_assoc];exact List.take_left' (by rw[List.length_append,agi,hlen,Nat.add_mul])
    ·exact .inl (by rw[nZ ⟨g,off,none⟩ _ kB] at hj;exact hj)
   ·have holds:∀j u,(l.flatMap enc)[j]? =some u->w.cell? ((⟨g,off,none⟩:Addr).add j)=some u:=λj u hj=>by
     rw[Addr.kz,cell_of_row w _ _ _ _ _ aA];rw[<-yv,List.getElem?_take] at hj;split at hj
     ·rw[List.getElem?_drop] at hj
      simpa using hj
     ·cases hj
    have Ok:l.length+lx.length<=9223372036854775807:=by simp only [maxLen] at iS;omega
    have fy:=run_append_grow (P:=P) w t ty e i z aN ai bW ⟨g,off,none⟩ l.length cap _ (rm al l) holds hf lx.length c _ hlen (km hf rfl) aj aj (growslice_fits aj lR);have kJ:=grownCap_ge w (l.length+lx.length) cap e;have Jy:=grownCap_le_maxLen w (l.length+lx.length) cap e iS;obtain⟨q1,aH⟩:=qK (B:=B) (M:=M) (w:=w) (w':=w.drew.alloc (.cells ((l.flatMap enc).toArray++(lx.flatMap enc).toArray++Builtin.zeroCells z.cells (grownCap w (l.length+lx.length) cap e-(l.length+lx.length))) e)) (T:=some g) (bt:=some w.heap.size) hw gX (λi ai=>by cases ai;exact .inr (ch _)) ⟨rfl,rfl,rfl⟩ (ch _) (by simp) (λj hj _=>heap_alloc_old w.drew _ hj);refine⟨_,_,_,fy,.inr ⟨w.heap.size,0,grownCap w (l.length+lx.length) cap e,(l.flatMap enc).toArray++(lx.flatMap enc).toArray++Builtin.zeroCells z.cells (grownCap w (l.length+lx.length) cap e-(l.length+lx.length)),by rw[List.length_append],aj,cX,?_,by rw[List.length_append];exact kJ,Jy,?_,?_⟩,q1,aH,λj hj=> ?_⟩
    ·unfold h9
     rw[aY rfl];exact heap_alloc_new w.drew _
    ·simp only [Array.size_append,List.size_toArray,size_zeroCells,mj,rm al,<-Nat.add_mul]
     rw[Nat.zero_add];congr 1;omega
    ·simp only [Array.toList_append,List.append_assoc,List.drop_zero]
     rw[List.length_append,List.flatMap_append,<-List.append_assoc];exact List.take_left' (by rw[List.length_append,rm al,rm al,Nat.add_mul])
    ·right
     have:j=w.heap.size:=by
      rw[nZ _ _ (show 0<grownCap w (l.length+lx.length) cap e by omega)] at hj;exact Option.some.inj hj
     exact zJ hw aj
theorem J3 [cV] {α:Type} {P:aS} {N B:Nat} {w0:ax} {Q:Exit->Act->ax->Prop} {M:Mem} {bs:List J} {o:Option b1} {t e:aK} {k bytes:Nat} {i:TypeInfo} {z vs lH eO:J} {enc:α->List J} {l lx l':List α} {bm:Option Addr->Nat->List J} {ef dK:aF} {a1:List bx} {bN:eH}
  (gb:l'=l++lx) (h:p4 t o=some (vs,lH)) (aN:P.underlying t=some (.slice e)) (ai:P.info? e=some i) (bW:i.zero=some z) (gN:i.size=k) (jY:i.bytes=bytes) (mj:z.cells.size=k) (h1:0<k) (al:∀x,(enc x).length=k) (kd:∀x,∀u∈enc x,u.oneCell'=true)
  (dg:cr (b9 o) ef a1=some bN) (eL:g' N ef (kc o) eO=some dK) (fD:aM eO=true) (T:Option Nat)
  (cO:∀φ w v,@b2 (aX M bs) φ (b9 o).A w-> @aD (aX M bs) φ vs v->kT B M e k enc v l/\eP v=T)
  (jZ:∀φ w x,@b2 (aX M bs) φ (b9 o).A w-> @aD (aX M bs) φ lH x->sf w k enc x lx)
  (iS:l.length+lx.length<=maxLen) (lR:(l.length+lx.length)*bytes<=140737488355328)
  (hm:∀M' a c,fO (aX M bs) (aX M' (bm a c)) bN) (aC:∀M' a c,@aJ (aX M' (bm a c)) eO= .slice a l'.length c)
  (rest:∀M' a c,kT B M' e k enc (.slice a l'.length c) l'->h8 M M' T->(∀i,some i=eP (.slice a l'.length c)->some i=T\/M i=none)->∀a6 w,@Here (aX M' (bm a c)) _ N {sl:=dK,ms:=[],A:=da a1} B w0 a6 w->wpListIn (Fr none) 0 P (kP o) (d' P (gC o) Q) (kO o) a6 w)
  (av:cV.ev<=a1.length:=by first|exact Nat.zero_le _|exact gI rfl) (ar:ix (b9 o).A a1 0:=by exact gW rfl): @fA (aX M bs) _ P N B w0 Q o:=by
 subst gb;letI:=aX M bs;unfold p4 at h;split at h
 ·rename_i op r ops s ks
  refine⟨_,rfl,λa w ah=> ?_⟩;split at h
  ·rename_i dE cz
   split at h
   ·rename_i nI hg pW gM
    cases OP:decide (dE.argTypes= #[t,t]) with
    |false=>rw[OP] at h;cases h
    |true=>
     rw[OP,bF] at h;have yn:=of_decide_eq_true OP;split at h
     ·rename_i jP
      cases h;have hF:=ah;obtain⟨⟨φ,ds,ad,ag,ay,bG,_⟩,cJ,cU⟩:=ah;unfold wpListIn;rw[py ag.get jP,aY rfl];have hw:∀i o,M i=some o->w.heap[i]? =some o:=hF.nY;obtain⟨FO,eA⟩:=cO φ w (a.eval nI) ay (gU (iG φ) ag.get nI);have rq:=jZ φ w (a.eval hg) ay (gU (iG φ) ag.get hg);obtain⟨aB,w',M',g1,g2,g3,g4,lb⟩:=agh (ty:=op.type) aN ai bW gN jY mj h1 al kd FO rq hw cU iS lR;obtain⟨FP,tm,rfl⟩:=g2.slice;rw[eA] at g3 g4 lb;have fy:(execOp a.eval op).run P w= .ok (.value (.slice FP (l++lx).length tm)) w':=by
       unfold execOp resolve;rw[cz];simp only [pW,gM,yn,List.map_toArray,List.map_cons,List.map_nil];show (do pure (Next.value (<-Builtin.append_ #[t,t] op.type #[a.eval nI,a.eval hg])):Sem Next).run P w=_;simp only [Sem.run_bind,g1,Result.andThen_ok];rfl
      have fB:∀c',op.op≠.defer c':=λc' h=>by rw[cz] at h;cases h
      refine⟨λ_ _=>trivial,?_⟩;rw[Oper.semAt_eq _ _ _ fB,fy,Oper.uponIn_value];have hV:=Here.turns (vals':=bm FP tm) dg (hm M' FP tm) g3 av ar hF;letI:=aX M' (bm FP tm);have lX:=Here.put (d:=op.dst) hV (v:=eO) fD eL;rw[aC] at lX;exact rest M' FP tm g2 g4 lb _ w' lX
     ·cases h
   ·cases h
  ·cases h
 ·cases h
theorem J4 {α:Type} {B:Nat} {M:Mem} {bs:List J} {vs:J} {A:a8} {e:aK} {k:Nat} {enc:α->List J} {v:J} {l:List α} (hp:aM vs=true) (br: @aJ (aX M bs) vs=v) (cO:kT B M e k enc v l):
  ∀φ w x,@b2 (aX M bs) φ A w-> @aD (aX M bs) φ vs x->kT B M e k enc x l/\eP x=eP v:=λφ w x _ aq=>by
 letI:=aX M bs;have e1:=(aD.jj vs hp aq).trans br;subst e1;exact⟨cO,rfl⟩
end AE
end Go.Proofs.YtepcfjbfkedlpaaDoor
namespace Go.Proofs.YtepcfjbfkedlpaaDoor
open Go Go.Proofs Go.RowKit
namespace AE
theorem Here.OQ [cV] {s1 s2:a7} {N B:Nat} {st:b8} {w0 w:ax} {a:Act} {sl:aF} {l:List bx} {bN:eH} (dg:cr st sl l=some bN) (hm:fO s1 s2 bN) {φ:b4} {ds:List Deferred}
  (ad:ri φ st.ms ds) (ag: @fE s1 N ds φ st.sl a) (ay: @b2 s1 φ st.A w) (bG:∀b e,φ b=some e->B<=e.bn) (fR:vC φ st.A) (cJ:cj B w0 w) (cU:B<=w.heap.size)
  (qI:∀i o,s2.dn i=some o->w.heap[i]? =some o/\∀b e,b<l.length->φ b=some e->e.bn≠i) (av:cV.ev<=l.length) (ar:ix st.A l 0): @Here s2 _ N {sl,ms:=[],A:=da l} B w0 a w:=by
 unfold cr at dg;split at dg
 ·rename_i vE
  cases hK:zA l with
  |false=>rw[hK] at dg;cases dg
  |true=>
   rw[hK,bF] at dg;obtain⟨x,y,aq,bE,rfl⟩:=uF dg;rw[vE] at ad;cases ad;have hold:∀b k,(da l).bl.get b=some k->∃x eU o,l[b]? =some x/\k=x.bn b/\st.A.bl.get b=some eU/\eU.cT=b/\eU.eN=x.eN/\eU.ty=x.ty/\eU.ro=false/\Ba l.length eU.obj x.obj=some o/\∀p∈o,p∈y:=λb k al=>by
    obtain⟨x,q1,aH⟩:=zB al;obtain⟨eU,o,cS,dy,gj⟩:=Dr l 0 bE b x q1;rw[Nat.zero_add] at cS dy;exact⟨x,eU,o,q1,aH,cS,dy,gj⟩
   have zD:∀b e,φ b=some e->w.heap[e.bn]? =w.heap[e.bn]? :=λ_ _ _=>rfl
   have gP:∀b,b<l.length->∃k,(da l).bl.get b=some k:=λb af=>by
    have:=List.all_eq_true.1 hK b (by simpa using af);simp only [c8] at this;obtain⟨_,hm⟩:=this;split at hm
    ·rename_i k al;exact⟨k,al⟩
    ·cases hm
   refine⟨⟨nX l.length φ,[],.nil,⟨@fE.size s1 _ _ _ _ _ ag,@fE.defers s1 _ _ _ _ _ ag,λt gL yj=>Dp st.sl sl aq hm.left t gL _ yj λv1 w8=> @fE.get s1 _ _ _ _ _ ag t v1 w8⟩,⟨VT hK,?_,?_,?_,λi o ai=> ?_⟩,λb e af=>bG b e (qH af).2,av,λb af=>by unfold nX;rw[aY (Nat.lt_of_lt_of_le af av)];exact fR.2 b af⟩,cJ,cU⟩
   ·intro b e af
    obtain⟨cg,ie⟩:=qH af;obtain⟨k,al⟩:=gP b cg;obtain⟨x,eU,o,q1,rfl,b0,eF,hz,ld,oX,g_,AY⟩:=hold b k al;obtain⟨de,cS,dy,gj⟩:= @b2.eE s1 _ _ _ ay b e ie;rw[b0] at cS;cases cS;refine⟨_,al,by rw[dy,hz];rfl,?_⟩;unfold fS at gj ⊢;show match x.obj with| .cells c=>_| .map es e6=>_| .gw x=>_
    cases fK:eU.obj with
    |cells c=>
     rw[fK] at g_;simp only [fK] at gj;cases iH:x.obj with
     |cells c2=>
      rw[iH] at g_;obtain⟨c',jl,g1,g2,g3,g4,lb⟩:=gj;have oq:∀i,i<c.length->((List.range c.length).map λj=>c'.getD (e.sh+j) undef).getD i undef=c'.getD (e.sh+i) undef:=λi ai=>by
       rw[dq,List.getElem?_map,List.getElem?_range ai];rfl
      have:=Dn (s1:=s1) (s2:=s2) (φ:=φ) c c2 g_ (λp hp=>hm.right p (AY p hp)) ((List.range c.length).map λj=>c'.getD (e.sh+j) undef) (by simp) λi ai=>by
       rw[oq i ai];exact g4 i ai
      obtain⟨t1,t2⟩:=this;simp only [List.length_map,List.length_range] at t1;refine⟨c',jl,by rw[zD b e ie,show (x.bn b).ty=eU.ty from ld.symm];exact g1,g2,by rw[<-t1,show (x.bn b).eN=eU.eN from hz.symm];exact g3,λj hj=> ?_,λ_=>lb oX⟩;have:=t2 j hj;rw[oq j aj] at this;exact this
     |map es e6=>rw[iH] at g_;cases g_
     |gw z=>rw[iH] at g_;cases g_
    |map es e6=>
     rw[fK] at g_;cases iH:x.obj<;>rw[iH] at g_<;>cases g_
    |gw z=>
     rw[fK] at g_;simp only [fK] at gj;obtain⟨eI,o',g1,g2⟩:=gj;cases iH:x.obj with
     |cells c2=>rw[iH] at g_;cases z<;>cases g_
     |map es e6=>rw[iH] at g_;cases z<;>cases g_
     |gw z2=>
      rw[iH] at g_;refine⟨eI,o',(zD b e ie).trans g1,?_⟩;cases z with
      |loop a=>
       cases z2 with
       |loop b=>
        unfold Ba at g_;simp only at g_;cases aw:Fu l.length a b with
        |false=>rw[aw] at g_;cases g_
        |true=>
         rw[aw,bF] at g_;unfold Fu at aw;simp only [c8,decide_eq_true_eq,Option.isNone_iff_eq_none] at aw;obtain⟨hA,c2,c3,nV,Jr,Js,Jt⟩:=aw;have pZ:=Oa ar q1 iH;rw[Nat.zero_add] at pZ;unfold Jq at pZ;rw[b0] at pZ;simp only [fK,cQ,Prod.mk.injEq] at pZ;obtain⟨r,mh,uD,yd,A6,A7,Fl,Fm,⟨e',Ob,u8⟩,Oc⟩:=g2;refine⟨r,mh,uD.trans (VV hA),by rw[yd,c2,c3],by rw[A6,cI nV],by rw[A7,Jr],by rw[Fl,pZ.1],by rw[Fm,pZ.2],⟨e',?_,u8⟩,λt v aC=> ?_⟩
         ·rw[<-cI Js]
          exact Dm Ob (Nat.blt_eq.mp Jt)
         ·exact Dp (s1:=s1) a.sl b.sl g_ (λp hp=>hm.right p (AY p hp)) t v _ aC λv1 w8=>Oc t v1 w8
       |_=>cases g_
      |_=>cases z2<;>first|(cases g_;done)|exact g2
   ·intro b e k b' e' k' af eh al dD c1
    obtain⟨_,ie⟩:=qH af;obtain⟨_,s7⟩:=qH eh;obtain⟨x,eU,o,q1,rfl,b0,eF,_⟩:=hold b k al;obtain⟨x',Fv,o',vk,rfl,sU,Fw,_⟩:=hold b' k' dD;exact @b2.apart s1 _ _ _ ay b e eU b' e' Fv ie s7 b0 sU (by rw[eF,Fw];exact c1)
   ·intro b e k b' e' k' af eh al dD aR _
    obtain⟨_,ie⟩:=qH af;obtain⟨_,s7⟩:=qH eh;obtain⟨x,eU,o,q1,rfl,b0,eF,_⟩:=hold b k al;obtain⟨x',Fv,o',vk,rfl,sU,Fw,_⟩:=hold b' k' dD;have:b=b':=aR;subst this;rw[ie] at s7;cases s7;rfl
   ·obtain⟨g1,g2⟩:=qI i o ai
    exact⟨g1,λb e af=>g2 b e (qH af).1 (qH af).2⟩
 ·cases dg
def OR {α:Type} (B:Nat) (M:Mem) (e:aK) (enc:α->List J) (g:Nat) (l:List α):Prop:=
 B<=g/\∃cur fr,M g=some (.cells cur e fr)/\(∀i,i<cur.size->¬(fr.1<=i/\i<fr.2))/\cur.toList=l.flatMap enc
theorem OR.arr {α:Type} {B:Nat} {M:Mem} {e:aK} {k:Nat} {enc:α->List J} {g:Nat} {l:List α} (h:OR B M e enc g l) (al:∀x,(enc x).length=k):cE M k enc (.slice (some ⟨g,0,none⟩) l.length l.length) l:=by
 obtain⟨_,cur,fr,ad,_,ay⟩:=h;refine .mk ad (ch _) λi x aq j u hu=> ?_
 have:=zF al l i x aq j u hu;rw[<-ay] at this;simpa using this
theorem Here.freeze [cV] {α:Type} {M:Mem} {bs:List J} {bm:Nat->List J} {N B:Nat} {st:b8} {w0 w:ax} {a:Act} {sl dO:aF} {l:List bx} {bN:eH} {b t q:Nat} {k:h6} {cs:List J} {enc:α->List J} {xs:List α}
  (ah: @Here (aX M bs) _ N st B w0 a w) (al:st.A.bl.get b=some k) (fK:k.obj= .cells cs) (FQ:k.eN=0) (oi:k.cT=b) (dL:k.ro=false) (fT:dM cs=true) (p9: @ep (aX M bs) cs=xs.flatMap enc) (af:l.length<=b)
  (yw:st.sl.get t=some (.pointer (some ⟨b,0,none⟩))) (dg:cr st sl l=some bN) (hm:∀M' g,fO (aX M bs) (aX M' (bm g)) bN) (fj:bY.set (ak q) depth sl t=some dO) (bf:∀g,mi (bm g) q= .pointer (some ⟨g,0,none⟩))
  (av:cV.ev<=l.length) (ar:ix st.A l 0):
  ∃g M',OR B M' k.ty enc g xs/\(∀i o,M i=some o->M' i=some o)/\M g=none/\ @Here (aX M' (bm g)) _ N {sl:=dO,ms:=[],A:=da l} B w0 a w:=by
 obtain⟨⟨φ,ds,ad,ag,ay,bG,fR⟩,cJ,cU⟩:=ah;have aC:= @fE.get (aX M bs) _ _ _ _ _ ag t _ yw;generalize hp:a.tmps.getD t undef=WL at aC;cases aC with
 |ptr he=>
  rename_i e;obtain⟨de,cS,dy,gj⟩:= @b2.eE (aX M bs) _ _ _ ay b e he;rw[al] at cS;cases cS;unfold fS at gj;rw[fK] at gj;obtain⟨c',jl,g1,g2,g3,g4,lb⟩:=gj;obtain⟨g6,g7⟩:=g3.2 FQ;have tc:M e.bn=none:=by
   cases ai:M e.bn with
   |none=>rfl
   |some o=>exact absurd rfl ((@b2.dn (aX M bs) _ _ _ ay e.bn o ai).2 b e he)
  let M':Mem:=λi=>if i=e.bn then some (.cells c' k.ty jl) else M i
  have qM:M' e.bn=some (.cells c' k.ty jl):=aY rfl;have uL:∀i o,M i=some o->M' i=some o:=λi o ai=>by
   show (if i=e.bn then _ else M i)=some o;rw[a_ (λh=>by rw[h,tc] at ai;cases ai)];exact ai
  have km:c'.toList=xs.flatMap enc:=by
   rw[<-p9];refine @aD.x1 (aX M bs) φ cs c'.toList fT (by simp [g7]) λi ai=> ?_
   have:=g4 i ai;rw[g6,Nat.zero_add] at this;simpa [fk] using this
  have nc:=dg;unfold cr at nc;have FR:∀b' x,l[b']? =some x->∃eU,st.A.bl.get b'=some eU/\eU.cT=b':=λb' x aq=>by
   split at nc
   ·cases hK:zA l with
    |false=>rw[hK] at nc;cases nc
    |true=>
     rw[hK,bF] at nc;obtain⟨eJ,zz,_,bE,_⟩:=uF nc;obtain⟨eU,o,cS,dy,_⟩:=Dr l 0 bE b' x aq;rw[Nat.zero_add] at cS dy;exact⟨eU,cS,dy⟩
   ·cases nc
  have aA:=Here.OQ (s2:=aX M' (bm e.bn)) dg (hm M' e.bn) ad ag ay bG fR cJ cU (λi o ai=>by
   by_cases qx:i=e.bn
   ·subst qx
    have:some (Obj.cells c' k.ty jl)=some o:=qM.symm.trans ai;cases this;refine⟨g1,λb' e' eh oY heq=> ?_⟩;obtain⟨eU,q1,aH⟩:=FR b' _ (gi eh);exact @b2.apart (aX M bs) _ _ _ ay b' e' eU b e k oY he q1 al (by rw[aH,oi];omega) heq
   ·have lQ:M i=some o:=by
     have:(if i=e.bn then some (Obj.cells c' k.ty jl) else M i)=some o:=ai
     rwa [a_ qx] at this
    obtain⟨q1,aH⟩:= @b2.dn (aX M bs) _ _ _ ay i o lQ
    exact⟨q1,λb' e' _ oY=>aH b' e' oY⟩) av ar
  refine⟨e.bn,M',⟨bG b e he,c',jl,qM,λi ai=>lb dL i ai,km⟩,uL,tc,?_⟩;obtain⟨⟨fp,DJ,ih,hB,ux,s6,zo⟩,C_,AZ⟩:=aA;letI:=aX M' (bm e.bn);refine⟨⟨fp,DJ,ih,⟨hB.size,hB.defers,λdr aB mE=> ?_⟩,ux,s6,zo⟩,C_,AZ⟩;rw[bY.oh _ _ _ _ _ _ fj] at mE;split at mE
  ·rename_i aN
   cases mE;subst aN;rw[hp];have:=aD.sym (φ:=fp) q;have pv:a7.σ q=Value.pointer (some ⟨e.bn,0,none⟩):=bf e.bn;rw[pv] at this;rw[g6,Nat.zero_add];exact this
  ·exact hB.get dr aB mE
end AE
end Go.Proofs.YtepcfjbfkedlpaaDoor
namespace Go.Proofs.YtepcfjbfkedlpaaDoor
open Go Go.RowKit
namespace AE
theorem WM:∀(l:List J) (k:Nat) (cs:Array J),k+l.length<=cs.size->((l.zipIdx k).foldl (λ(cs:Array J) (p:J×Nat)=>cs.setIfInBounds p.2 p.1) cs).toList=cs.toList.take k++l++cs.toList.drop (k+l.length)
 |[],k,cs,h=>by simp
 |u::l,k,cs,h=>by
  simp only [List.zipIdx_cons,List.foldl_cons];simp only [List.length_cons] at h;rw[WM l (k+1) _ (by simp only [Array.size_setIfInBounds];omega)];have al:k<cs.toList.length:=by rw[Array.length_toList];omega
  rw[Array.toList_setIfInBounds,List.take_set,List.drop_set,aY aj];rw[List.take_add_one,gi al];rw[List.set_append_right _ _ (by rw[List.length_take];omega)];simp only [List.length_take,Option.toList_some];rw[show k-min k cs.toList.length=0 by omega];simp only [List.set_cons_zero,List.length_cons];rw[show k+1+l.length=k+(l.length+1) by omega];simp
theorem agj {P:Nat->Option (Nat×Nat)} {v:J} {cs:Array J} {n:Nat} (hp:P 0=some (0,n)) (av:v.cells.size=n) (ar:cs.size=n):Instr.fill P cs [(0,v)]=some v.cells:=by
 unfold Instr.fill;rw[hp];simp only;rw[a_ (by simp only [Nat.zero_add,av,ar];simp)];unfold Instr.fill;congr 1;apply Array.ext';rw[<-Array.foldl_toList];have:=WM v.cells.toList 0 cs (by rw[Array.length_toList];omega);simp only [Array.toList_zipIdx,Nat.zero_add];rw[this];simp [av,ar]
def OS:Option b1->Option (aK×J)
 |some (.oper o _ ops s _)=>match o.op with
  | .buildSlice t 1 ⟨[(0,hg)]⟩=>match q_ ops o s.sl with
    |some true=>some (t,dH .nil s.sl hg)
    |_=>none
  |_=>none
 |_=>none
theorem agk [cV] {α:Type} {P:aS} {N B:Nat} {w0:ax} {Q:Exit->Act->ax->Prop} {M:Mem} {bs:List J} {o:Option b1} {t e:aK} {k:Nat} {z x u eO:J} {enc:α->List J} {y:α} {l':List α} {bm:Option Addr->Nat->List J} {ef dK:aF} {a1:List bx} {bN:eH}
  (gb:l'=[y]) (h:OS o=some (t,x)) (aN:P.underlying t=some (.slice e)) (o0:bk P (sizeOf e)=some k) (J5:bk P (zeroValue e)=some z) (h1:0<k) (oo:k<=1000) (al:∀x,(enc x).length=k)
  (dg:cr (b9 o) ef a1=some bN) (eL:g' N ef (kc o) eO=some dK) (fD:aM eO=true) (aq:aM x=true) (ex: @aJ (aX M bs) x=u) (hu:u.cells=⟨enc y⟩)
  (hm:∀M' a c,fO (aX M bs) (aX M' (bm a c)) bN) (aC:∀M' a c,@aJ (aX M' (bm a c)) eO= .slice a l'.length c)
  (rest:∀M' a c,dw B M' e k enc (.slice a l'.length c) l'->h8 M M' none->(∀i,some i=eP (.slice a l'.length c)->M i=none)->∀a6 w,@Here (aX M' (bm a c)) _ N {sl:=dK,ms:=[],A:=da a1} B w0 a6 w->wpListIn (Fr none) 0 P (kP o) (d' P (gC o) Q) (kO o) a6 w)
  (av:cV.ev<=a1.length:=by first|exact Nat.zero_le _|exact gI rfl) (ar:ix (b9 o).A a1 0:=by exact gW rfl): @fA (aX M bs) _ P N B w0 Q o:=by
 subst gb;letI:=aX M bs;unfold OS at h;split at h
 ·rename_i op r ops s ks
  refine⟨_,rfl,λa w ah=> ?_⟩;split at h
  ·rename_i dr hg cz
   split at h
   ·rename_i jP
    cases h;have hF:=ah;obtain⟨⟨φ,ds,ad,ag,ay,bG,_⟩,cJ,cU⟩:=ah;unfold wpListIn;rw[py ag.get jP,aY rfl];have o4:a.eval hg=u:=(aD.jj _ aq (gU (iG φ) ag.get hg)).trans ex;have hw:∀i o,M i=some o->w.heap[i]? =some o:=hF.nY
    let w':ax:={w with heap:=w.heap.push (.cells ⟨enc y⟩ e)}
    have J6:u.cells.size=k:=by rw[hu];simpa using al y
    have fy:(execOp a.eval op).run P w= .ok (.value (.slice (some ⟨w.heap.size,0,none⟩) 1 1)) w':=by
     unfold execOp;rw[cz];simp only [List.map_toArray,List.map_cons,List.map_nil,o4];show (do pure (Next.value (<-Instr.buildSlice t 1 #[(0,u)])):Sem Next).run P w=_;have af:(Instr.buildSlice t 1 #[(0,u)]).run P w= .ok (.slice (some ⟨w.heap.size,0,none⟩) 1 1) w':=by
      unfold Instr.buildSlice;refine dm (run_underlying aN w) ?_;simp only;refine c9 o0 ?_;rw[Nat.one_mul];rw[a_ aj];rw[a_ aj];refine c9 J5 ?_;refine c9 (a:=z.cells) rfl ?_;have aR:=agj (P:=λi=>some (i*k,k)) (v:=u) (cs:=(Array.range k).map (z.cells[· %z.cells.size]!)) (n:=k) (by simp) J6 (by simp);simp only [aR];simp [newRow,newObj,Sem.run,w',hu]
     simp only [Sem.run_bind,af,Result.andThen_ok];rfl
    have fB:∀c',op.op≠.defer c':=λc' h=>by rw[cz] at h;cases h
    refine⟨λ_ _=>trivial,?_⟩;rw[Oper.semAt_eq _ _ _ fB,fy,Oper.uponIn_value];obtain⟨q1,aH⟩:=qK (B:=B) (M:=M) (w:=w) (w':=w') (T:=none) (bt:=some w.heap.size) hw (λi h=>by cases h) (λi ai=> .inr (by cases ai;exact ch _)) ⟨rfl,rfl,rfl⟩ (ch _) (by simp [w']) (λi ai _=>by
     show (w.heap.push _)[i]? =_
     rw[Array.getElem?_push,a_ aj])
    have cO:dw B (h9 M w' none (some w.heap.size)) e k enc (.slice (some ⟨w.heap.size,0,none⟩) [y].length 1) [y]:=by
     refine .inr ⟨w.heap.size,1,⟨enc y⟩,rfl,Nat.one_pos,cU,?_,ch _,by simp [maxLen],by simpa using al y,by simp only [List.length_cons,List.length_nil,Nat.zero_add,Nat.one_mul,List.flatMap_cons,List.flatMap_nil,List.append_nil];exact List.take_of_length_le (by rw[al];exact ch _)⟩;unfold h9;rw[aY rfl];show (w.heap.push _)[w.heap.size]? =_;rw[Array.getElem?_push,aY rfl]
    have hV:=Here.turns (vals':=bm (some ⟨w.heap.size,0,none⟩) 1) dg (hm _ _ _) q1 av ar hF;letI:=aX (h9 M w' none (some w.heap.size)) (bm (some ⟨w.heap.size,0,none⟩) 1);have lX:=Here.put (d:=op.dst) hV (v:=eO) fD eL;rw[aC] at lX;exact rest _ _ _ cO aH (λj hj=>by
     rw[nZ _ _ Nat.one_pos] at hj;cases hj
     exact zJ hw (ch _)) _ w' lX
   ·cases h
  ·cases h
 ·cases h
def J7:Option b1->Option (aK×J)
 |some (.oper o _ ops s _)=>match o.op with
  | .makeSlice t tn vP=>match q_ ops o s.sl with
    |some true=>bif gm (dH .nil s.sl tn) (dH .nil s.sl vP) then some (t,dH .nil s.sl tn) else none
    |_=>none
  |_=>none
 |_=>none
theorem WN {α:Type} {k:Nat} {enc:α->List J} (al:∀x,(enc x).length=k) {z:J} {zr:α} (bW:z.cells.toList=enc zr) (n:Nat):(madeCells z.cells (n*k)).toList=(List.replicate n zr).flatMap enc:=by
 have aw:z.cells.size=k:=by rw[<-Array.length_toList,bW,al]
 apply List.ext_getElem?;intro j;unfold madeCells;rcases Nat.lt_or_ge j (n*k) with hj|hj
 ·have ez:0<k:=by
   rcases Nat.eq_zero_or_pos k with h|h
   ·subst h
    simp at hj
   ·exact h
  have ai:j/k<(List.replicate n zr).length:=by rw[mz];exact Nat.div_lt_of_lt_mul (by rwa [Nat.mul_comm] at hj)
  have ao:j%k<k:=Nat.mod_lt _ ez;have ag:=zF al (List.replicate n zr) (j/k) zr (by rw[gi ai];simp) (j%k) ((enc zr)[j%k]'(by rw[al];exact ao)) (gi _);rw[Nat.div_add_mod'] at ag;rw[ag,Array.getElem?_toList,Array.getElem?_map,aw,Array.getElem?_eq_getElem (by simpa using hj)];simp only [Array.getElem_range,Option.map_some];have ya:j%k<z.cells.size:=by omega
  rw[getElem!_pos z.cells _ ya];have:z.cells.toList[j%k]? =(enc zr)[j%k]? :=by rw[bW]
  rw[Array.getElem?_toList,Array.getElem?_eq_getElem ya,gi (by rw[al];exact ao)] at this;exact this
 ·rw[Array.getElem?_toList,Array.getElem?_map,Array.getElem?_eq_none (by simpa using hj),List.getElem?_eq_none (by rw[rm al,mz];exact hj)]
  rfl
theorem WO [cV] {α:Type} {P:aS} {N B:Nat} {w0:ax} {Q:Exit->Act->ax->Prop} {M:Mem} {bs:List J} {o:Option b1} {t e:aK} {k n bytes:Nat} {i:TypeInfo} {z x eO:J} {enc:α->List J} {zr:α} {l':List α} {bm:Option Addr->Nat->List J} {ef dK:aF} {a1:List bx} {bN:eH}
  (gb:l'=List.replicate n zr) (h:J7 o=some (t,x)) (aN:P.underlying t=some (.slice e)) (ai:P.info? e=some i) (bW:i.zero=some z) (gN:i.size=k) (jY:i.bytes=bytes) (qz:z.cells.toList=enc zr) (al:∀x,(enc x).length=k)
  (dg:cr (b9 o) ef a1=some bN) (eL:g' N ef (kc o) eO=some dK) (fD:aM eO=true) (aq:aM x=true) (ex: @aJ (aX M bs) x= .int .i64 (n:Nat)) (agl:n<=1000000) (lR:n*bytes<=140737488355328) (km:n*k<=16777216)
  (hm:∀M' a c,fO (aX M bs) (aX M' (bm a c)) bN) (aC:∀M' a c,@aJ (aX M' (bm a c)) eO= .slice a l'.length c)
  (rest:∀M' a c,dw B M' e k enc (.slice a l'.length c) l'->h8 M M' none->(∀i,some i=eP (.slice a l'.length c)->M i=none)->∀a6 w,@Here (aX M' (bm a c)) _ N {sl:=dK,ms:=[],A:=da a1} B w0 a6 w->wpListIn (Fr none) 0 P (kP o) (d' P (gC o) Q) (kO o) a6 w)
  (av:cV.ev<=a1.length:=by first|exact Nat.zero_le _|exact gI rfl) (ar:ix (b9 o).A a1 0:=by exact gW rfl): @fA (aX M bs) _ P N B w0 Q o:=by
 subst gb;letI:=aX M bs;unfold J7 at h;split at h
 ·rename_i op r ops s ks
  refine⟨_,rfl,λa w ah=> ?_⟩;split at h
  ·rename_i dr tn vP cz
   split at h
   ·rename_i jP
    cases heq:gm (dH .nil s.sl tn) (dH .nil s.sl vP) with
    |false=>rw[heq] at h;cases h
    |true=>
     rw[heq,bF] at h;have vI:=hM _ _ heq;cases h;have hF:=ah;obtain⟨⟨φ,ds,ad,ag,ay,bG,_⟩,cJ,cU⟩:=ah;unfold wpListIn;rw[py ag.get jP,aY rfl];have o4:a.eval tn= .int .i64 (n:Nat):=(aD.jj _ aq (gU (iG φ) ag.get tn)).trans ex;have OT:a.eval vP= .int .i64 (n:Nat):=(aD.jj _ (by rw[<-vI];exact aq) (gU (iG φ) ag.get vP)).trans (by rw[<-vI];exact ex);have hw:∀i o,M i=some o->w.heap[i]? =some o:=hF.nY;subst jY;obtain⟨w',g1,g2,g3⟩:=run_makeSlice_full (P:=P) w B t e i z k aN ai bW gN .i64 .i64 n km (by rw[Nat.mul_comm];omega) (by simp [maxLen];omega) cU;have fy:(execOp a.eval op).run P w= .ok (.value (.slice (some ⟨w.heap.size,0,none⟩) n n)) w':=by
      unfold execOp;rw[cz];simp only [o4,OT];show (do pure (Next.value (<-Instr.makeSlice t (.int .i64 (n:Nat)) (.int .i64 (n:Nat)))):Sem Next).run P w=_;simp only [Sem.run_bind,g1,Result.andThen_ok];rfl
     have fB:∀c',op.op≠.defer c':=λc' h=>by rw[cz] at h;cases h
     refine⟨λ_ _=>trivial,?_⟩;rw[Oper.semAt_eq _ _ _ fB,fy,Oper.uponIn_value];rw[WN al qz] at g2;obtain⟨q1,aH⟩:=qK (B:=B) (M:=M) (w:=w) (w':=w') (T:=none) (bt:=some w.heap.size) hw (λi h=>by cases h) (λi ai=> .inr (by cases ai;exact ch _)) ⟨g3.os,g3.tape,g3.output⟩ (ch _) g3.size (λi ai c1=>g3.block i ai c1);have hlen:(List.replicate n zr).length=n:=mz;have cO:dw B (h9 M w' none (some w.heap.size)) e k enc (.slice (some ⟨w.heap.size,0,none⟩) (List.replicate n zr).length n) (List.replicate n zr):=by
      refine(dw.Oh (w:=w') (by rw[hlen];exact g2)).mono (ch _) λj hj o ho=> ?_
      have e1:=Bd hj;unfold h9;rw[aY (by rw[e1];rfl)];exact ho
     have hV:=Here.turns (vals':=bm (some ⟨w.heap.size,0,none⟩) n) dg (hm _ _ _) q1 av ar hF;letI:=aX (h9 M w' none (some w.heap.size)) (bm (some ⟨w.heap.size,0,none⟩) n);have lX:=Here.put (d:=op.dst) hV (v:=eO) fD eL;rw[aC,hlen] at lX;refine rest _ _ _ cO aH (λj hj=> ?_) _ w' lX;have e1:=Bd hj;cases e1;exact zJ hw (ch _)
   ·cases h
  ·cases h
 ·cases h
def sn (o:Option b1) (b t:Nat):Option (List J×Nat×Nat):=
 match o with
 |some (.oper _ _ _ s _)=>match s.A.bl.get b with
  |some k=>match k.obj with
   | .cells cs=>bif Nat.beq k.eN 0&&(Nat.beq k.cT b&& !k.ro) then match s.sl.get t with
     |some (.slice (some ⟨b',0,none⟩) n c)=>bif Nat.beq b' b then some (cs,n,c) else none
     |_=>none
     else none
   |_=>none
  |none=>none
 |_=>none
def lp (st:b8):Option b1->Option b1
 |some (.oper op r ops _ ks)=>some (.oper op r ops st ks)
 |o=>o
theorem Here.agm [cV] {α:Type} {M:Mem} {bs:List J} {bm:Nat->List J} {N B:Nat} {st:b8} {w0 w:ax} {a:Act} {sl dO:aF} {l:List bx} {bN:eH} {b t q n c eU:Nat} {k:h6} {cs:List J} {enc:α->List J} {xs:List α}
  (x6:∀x,(enc x).length=eU) (Bv:xs.length=n) (fc:0<n) (iy:n<=c) (ah: @Here (aX M bs) _ N st B w0 a w) (al:st.A.bl.get b=some k) (fK:k.obj= .cells cs) (FQ:k.eN=0) (oi:k.cT=b) (fT:dM cs=true) (p9: @ep (aX M bs) cs=xs.flatMap enc) (af:l.length<=b)
  (yw:st.sl.get t=some (.slice (some ⟨b,0,none⟩) n c)) (dg:cr st sl l=some bN) (hm:∀M' g,fO (aX M bs) (aX M' (bm g)) bN) (fj:bY.set (ak q) depth sl t=some dO) (bf:∀g,mi (bm g) q= .slice (some ⟨g,0,none⟩) n c)
  (av:cV.ev<=l.length) (ar:ix st.A l 0):
  ∃g M',cE M' eU enc (.slice (some ⟨g,0,none⟩) n c) xs/\B<=g/\M' g≠none/\h8 M M' none/\M g=none/\ @Here (aX M' (bm g)) _ N {sl:=dO,ms:=[],A:=da l} B w0 a w:=by
 obtain⟨⟨φ,ds,ad,ag,ay,bG,fR⟩,cJ,cU⟩:=ah;have aC:= @fE.get (aX M bs) _ _ _ _ _ ag t _ yw;generalize hp:a.tmps.getD t undef=WL at aC;cases aC with
 |i_ _ _=>omega
 |iE _ _ _ he aw _ _=>
  obtain⟨de,cS,dy,gj⟩:= @b2.eE (aX M bs) _ _ _ ay b _ he;rw[al] at cS;cases cS;omega
 |iD _ _ he=>
  rename_i e;obtain⟨de,cS,dy,gj⟩:= @b2.eE (aX M bs) _ _ _ ay b e he;rw[al] at cS;cases cS;unfold fS at gj;rw[fK] at gj;obtain⟨c',jl,g1,g2,g3,g4,lb⟩:=gj;obtain⟨g6,g7⟩:=g3.2 FQ;have tc:M e.bn=none:=by
   cases ai:M e.bn with
   |none=>rfl
   |some o=>exact absurd rfl ((@b2.dn (aX M bs) _ _ _ ay e.bn o ai).2 b e he)
  let M':Mem:=λi=>if i=e.bn then some (.cells c' k.ty jl) else M i
  have qM:M' e.bn=some (.cells c' k.ty jl):=aY rfl;have uL:∀i o,M i=some o->M' i=some o:=λi o ai=>by
   show (if i=e.bn then _ else M i)=some o;rw[a_ (λh=>by rw[h,tc] at ai;cases ai)];exact ai
  have km:c'.toList=xs.flatMap enc:=by
   rw[<-p9];refine @aD.x1 (aX M bs) φ cs c'.toList fT (by simp [g7]) λi ai=> ?_
   have:=g4 i ai;rw[g6,Nat.zero_add] at this;simpa [fk] using this
  have nc:=dg;unfold cr at nc;have FR:∀b' x,l[b']? =some x->∃eU,st.A.bl.get b'=some eU/\eU.cT=b':=λb' x aq=>by
   split at nc
   ·cases hK:zA l with
    |false=>rw[hK] at nc;cases nc
    |true=>
     rw[hK,bF] at nc;obtain⟨eJ,zz,_,bE,_⟩:=uF nc;obtain⟨eU,o,cS,dy,_⟩:=Dr l 0 bE b' x aq;rw[Nat.zero_add] at cS dy;exact⟨eU,cS,dy⟩
   ·cases nc
  have aA:=Here.OQ (s2:=aX M' (bm e.bn)) dg (hm M' e.bn) ad ag ay bG fR cJ cU (λi o ai=>by
   by_cases qx:i=e.bn
   ·subst qx
    have:some (Obj.cells c' k.ty jl)=some o:=qM.symm.trans ai;cases this;refine⟨g1,λb' e' eh oY heq=> ?_⟩;obtain⟨eU,q1,aH⟩:=FR b' _ (gi eh);exact @b2.apart (aX M bs) _ _ _ ay b' e' eU b e k oY he q1 al (by rw[aH,oi];omega) heq
   ·have lQ:M i=some o:=by
     have:(if i=e.bn then some (Obj.cells c' k.ty jl) else M i)=some o:=ai
     rwa [a_ qx] at this
    obtain⟨q1,aH⟩:= @b2.dn (aX M bs) _ _ _ ay i o lQ
    exact⟨q1,λb' e' _ oY=>aH b' e' oY⟩) av ar
  have lV:cE M' eU enc (.slice (some ⟨e.bn,0,none⟩) n c) xs:=by
   subst Bv;refine .mk qM iy λi x aq j u hu=> ?_
   have:=zF x6 xs i x aq j u hu;rw[<-km] at this;rw[Nat.zero_add];simpa using this
  refine⟨e.bn,M',lV,bG b e he,(by rw[qM];simp),λi o ai _=>uL i o ai,tc,?_⟩;obtain⟨⟨fp,DJ,ih,hB,ux,s6,zo⟩,C_,AZ⟩:=aA;letI:=aX M' (bm e.bn);refine⟨⟨fp,DJ,ih,⟨hB.size,hB.defers,λdr aB mE=> ?_⟩,ux,s6,zo⟩,C_,AZ⟩;rw[bY.oh _ _ _ _ _ _ fj] at mE;split at mE
  ·rename_i aN
   cases mE;subst aN;rw[hp];have:=aD.sym (φ:=fp) q;have pv:a7.σ q=Value.slice (some ⟨e.bn,0,none⟩) n c:=bf e.bn;rw[pv] at this;rw[g6,Nat.zero_add];exact this
  ·exact hB.get dr aB mE
theorem uM [cV] {α:Type} {P:aS} {N B:Nat} {w0:ax} {Q:Exit->Act->ax->Prop} {M:Mem} {bs:List J} {bm:Nat->List J} {o:Option b1} {sl dO:aF} {l:List bx} {bN:eH} {b t q n c eU:Nat} {cs:List J} {enc:α->List J} {xs:List α}
  (h:sn o b t=some (cs,n,c)) (x6:∀x,(enc x).length=eU) (Bv:xs.length=n) (fc:0<n) (iy:n<=c) (fT:dM cs=true) (p9: @ep (aX M bs) cs=xs.flatMap enc) (af:l.length<=b)
  (dg:cr (b9 o) sl l=some bN) (hm:∀M' g,fO (aX M bs) (aX M' (bm g)) bN) (fj:bY.set (ak q) depth sl t=some dO) (bf:∀g,mi (bm g) q= .slice (some ⟨g,0,none⟩) n c)
  (rest:∀M' g,cE M' eU enc (.slice (some ⟨g,0,none⟩) n c) xs->B<=g->M' g≠none->h8 M M' none->M g=none-> @fA (aX M' (bm g)) _ P N B w0 Q (lp {sl:=dO,ms:=[],A:=da l} o))
  (av:cV.ev<=l.length:=by first|exact Nat.zero_le _|exact gI rfl) (ar:ix (b9 o).A l 0:=by exact gW rfl): @fA (aX M bs) _ P N B w0 Q o:=by
 unfold sn at h;split at h
 ·rename_i op r ops s ks
  split at h
  ·rename_i k al
   split at h
   ·rename_i cs' fK
    cases jL:(Nat.beq k.eN 0&&(Nat.beq k.cT b&& !k.ro)) with
    |false=>rw[jL] at h;cases h
    |true=>
     rw[jL,bF] at h;simp only [c8] at jL;split at h
     ·rename_i b' gd c' yw
      cases oW:Nat.beq b' b with
      |false=>rw[oW] at h;cases h
      |true=>
       rw[oW,bF] at h;cases h;have FT:=cI oW;subst FT;refine⟨_,rfl,λa w ah=> ?_⟩;obtain⟨g,M',q1,aH,b0,eF,hz,ld⟩:=Here.agm x6 Bv fc iy ah al fK (cI jL.1) (cI jL.2.1) fT p9 af yw dg hm fj bf av ar;obtain⟨agn,e',ok⟩:=rest M' g q1 aH b0 eF hz;unfold lp at e';cases e';exact ok a w ld
     ·cases h
   ·cases h
  ·cases h
 ·cases h
theorem sq {α:Type} {M M':Mem} {g k n c:Nat} {enc:α->List J} {xs:List α} (lV:cE M' k enc (.slice (some ⟨g,0,none⟩) n c) xs) (ad:M' g≠none) (cC:h8 M M' none) (av:M g=none):cZ M [] M' [p7 k enc (.slice (some ⟨g,0,none⟩) n c) xs]:=
 ⟨cH.one ⟨lV,λb af=>by cases af;exact ad⟩,λi o ai _=>cC i o ai λe=>(by cases e),λb af=>by
   have ag:some b=(Value.slice (some ⟨g,0,none⟩) n c).ownBlock:=p8.1 af;cases ag
   exact .inr av⟩
theorem ago {M M':Mem} {bs vals':List J} {a n:Nat} {i:Nat} (ad:mi bs a= .int .i64 ((i:Nat):Int)) (h:i=n): @aJ (aX M bs) (ak a)= @aJ (aX M' vals') (.int .i64 ((n:Nat):Int)):=by
 subst h;exact(@IW (aX M bs) a).trans ad
theorem jr.mk' {B g:Nat} {M:Mem} {ty:aK} {cs:List J} (ad:B<=g) (ag:M g=some (.cells ⟨cs⟩ ty (0,0))):jr B M (.pointer (some ⟨g,0,none⟩)) ty cs:=⟨g,rfl,ad,ag⟩
section
variable [a7] {P:aS}
theorem aV.quo {t:aK} {x y r:J} {a b:Int} (aL:0<=a/\a<=9223372036854775807) (ad:1<=b) (aq:aM x=true) (bE:aM y=true) (ao:aM r=true) (ex:aJ x= .int .i64 a) (hN:aJ y= .int .i64 b) (ca:aJ r= .int .i64 (a/b)):aV P (.bin .quo t x y,r):=
 uH aq bE ao ex hN λeb ec w=>by
  rw[ca];have e1:=IntWalk.i64_quo a b ⟨aL.1,aL.2,ad⟩;have e2:¬b=0:=by omega
  unfold gn;simp [eqGuard,binOp,Op.intDiv,e2,e1]
theorem aV.rem {t:aK} {x y r:J} {a b:Int} (aL:0<=a/\a<=9223372036854775807) (ad:1<=b) (aq:aM x=true) (bE:aM y=true) (ao:aM r=true) (ex:aJ x= .int .i64 a) (hN:aJ y= .int .i64 b) (ca:aJ r= .int .i64 (a%b)):aV P (.bin .rem t x y,r):=
 uH aq bE ao ex hN λeb ec w=>by
  rw[ca];have e1:=IntWalk.rem_in a b aL.1;have e2:¬b=0:=by omega
  unfold gn;simp [eqGuard,binOp,Op.intDiv,e2,e1]
end
theorem jr.up {W:ax} {M:Mem} {g:Nat} {ty:aK} {cs:List J} (h:jr 0 (aE W) (.pointer (some ⟨g,0,none⟩)) ty cs) (hm:∀i o,aE W i=some o->M i=some o):jr 0 M (.pointer (some ⟨g,0,none⟩)) ty cs:=jr.mk' (Nat.zero_le _) (hm _ _ h.known.1)
theorem FU:∀u∈([]:List J),u.oneCell'=true:=λu h=>by cases h
theorem p_ {u:J} {l:List J} (h:u.oneCell'=true) (t:∀x∈l,x.oneCell'=true):∀x∈u::l,x.oneCell'=true:=λx aq=>by
 rcases List.mem_cons.1 aq with rfl|aq
 ·exact h
 ·exact t x aq
theorem getD_some {α:Type} {l:List α} {i:Nat} {z d:α} (h:l[i]? =some z):l.getD i d=z:=by
 rw[dq,h];rfl
theorem agp {a:Option Addr} {n m c j k i:Nat} (h:some i=eP (.slice (ln a c j k) m (c-j))):some i=eP (.slice a n c):=by
 cases a with
 |none=>
  unfold ln at h;split at h
  ·cases h
  ·cases h
 |some hf=>
  by_cases ar:c-j=0
  ·rw[ar,FB] at h
   cases h
  ·unfold ln at h
   rw[a_ aj] at h;have ad:(hf.add (j*k)).block=hf.block:=by
    unfold Addr.add;split<;>rfl
   rw[Option.map_some,nZ _ _ aj,ad] at h;rw[nZ _ _ aj];exact h
theorem cj.zero {B:Nat} {w w':ax} (h:cj B w w'):cj 0 w w':=h.mono (Nat.zero_le _)
theorem FV {α:Type} {P:aS} {f:FuncId} {args:Array J} {w:ax} {e:aK} {k:Nat} {enc:α->List J} {l:List α} (h:Calls P f args w λe' w'=>(∃a c,e'= .returned (.slice a l.length c)/\dw w.heap.size (aE w') e k enc (.slice a l.length c) l)/\cj w.heap.size w w'):
  Calls P f args w λe' w'=>(∃y:Option Addr×Nat,e'= .returned (.slice y.1 l.length y.2)/\cZ (aE w) [] (aE w') [hr e k enc (.slice y.1 l.length y.2) l])/\cj 0 w w':=
 h.mono λe' w' he=>by
   obtain⟨⟨a,c,rfl,cO⟩,hl⟩:=he;refine⟨⟨(a,c),rfl,cH.one (sk cO),λi o ai _=> ?_,λb af=> ?_⟩,hl.zero⟩
   ·rw[show aE w' i=aE w i from hl.block i (Array.getElem?_eq_some_iff.1 ai).1]
    exact ai
   ·exact .inr (Array.getElem?_eq_none_iff.2 (cO.known b (p8.1 af)).2)
end AE
end Go.Proofs.YtepcfjbfkedlpaaDoor
namespace Go.Proofs.YtepcfjbfkedlpaaDoor
open Go Go.Proofs Go.RowKit
namespace AE
def Bw (t t2:aK):Option b1->Option (J×J)
 |some (.oper o _ ops s _)=>match o.op with
  | .call c=>match c.callee,c.args with
    | .builtin .copy,⟨[nI,hg]⟩=>bif decide (c.argTypes= #[t,t2]) then match q_ ops o s.sl with
      |some true=>some (dH .nil s.sl nI,dH .nil s.sl hg)
      |_=>none
      else none
    |_,_=>none
  |_=>none
 |_=>none
theorem agq [cV] {P:aS} {N B:Nat} {w0:ax} {Q:Exit->Act->ax->Prop} {M:Mem} {bs bm:List J} {o:Option b1} {t t2 e ty:aK} {g j m n wR:Nat} {vs lH:J} {us cs cs':List J} {ef dK:aF} {a1:List bx} {bN:eH}
  (gb:cs'=cs.take j++us++cs.drop (j+n)) (h:Bw t t2 o=some (vs,lH)) (aN:P.underlying t=some (.slice e)) (aw:(P.info? e).map (·.size)=some 1)
  (dg:cr (b9 o) ef a1=some bN) (eL:g' N ef (kc o) (.int .i64 n)=some dK) (hp:aM vs=true) (ml: @aJ (aX M bs) vs= .slice (some ⟨g,j,none⟩) m wR)
  (jZ:∀φ w x,@b2 (aX M bs) φ (b9 o).A w-> @aD (aX M bs) φ lH x->sf w 1 (λu:J=>[u]) x us) (hu:us.length=n) (fc:0<n) (I7:n<=m) (kd:∀u∈us,u.oneCell'=true)
  (cO:jr B M (.pointer (some ⟨g,0,none⟩)) ty cs) (hj:j+n<=cs.length) (hm:∀M',fO (aX M bs) (aX M' bm) bN)
  (rest:∀M',jr B M' (.pointer (some ⟨g,0,none⟩)) ty cs'->h8 M M' (some g)->∀a6 w,@Here (aX M' bm) _ N {sl:=dK,ms:=[],A:=da a1} B w0 a6 w->wpListIn (Fr none) 0 P (kP o) (d' P (gC o) Q) (kO o) a6 w)
  (av:cV.ev<=a1.length:=by first|exact Nat.zero_le _|exact gI rfl) (ar:ix (b9 o).A a1 0:=by exact gW rfl): @fA (aX M bs) _ P N B w0 Q o:=by
 subst gb;subst hu;letI:=aX M bs;unfold Bw at h;split at h
 ·rename_i op r ops s ks
  refine⟨_,rfl,λa w ah=> ?_⟩;split at h
  ·rename_i c cz
   split at h
   ·rename_i nI hg pW gM
    cases hty:decide (c.argTypes= #[t,t2]) with
    |false=>rw[hty] at h;cases h
    |true=>
     rw[hty,bF] at h;have yn:c.argTypes= #[t,t2]:=of_decide_eq_true hty;split at h
     ·rename_i jP
      cases h;have hF:=ah;obtain⟨⟨φ,ds,ad,ag,ay,bG,_⟩,cJ,cU⟩:=ah;unfold wpListIn;rw[py ag.get jP,aY rfl];have es:a.eval nI= .slice (some ⟨g,j,none⟩) m wR:=(aD.jj _ hp (gU (iG φ) ag.get nI)).trans ml;obtain⟨xd,c2,ex,ym,km⟩:=jZ φ w _ ay (gU (iG φ) ag.get hg);have hw:∀i o,M i=some o->w.heap[i]? =some o:=hF.nY;obtain⟨bw,cX⟩:=cO.known;have aA:=hw _ _ bw;cases xd with
      |none=>
       rw[ym rfl] at fc;exact absurd fc (Nat.lt_irrefl _)
      |some hf=>
       have Bx:us.flatMap (λu:J=>[u])=us:=by simp
       let fP:Array J:=(cs.take j++us++cs.drop (j+us.length)).toArray
       have FW:=run_copy_row (P:=P) w t t2 op.type e g j m wR hf us.length c2 ⟨cs⟩ ty us aN aw aA (Nat.min_eq_left aj).symm (λi v ai=>km hf rfl i v (by rw[Bx];exact ai)) (by simp only [List.size_toArray];omega) kd;have fy:(execOp a.eval op).run P w= .ok (.value (.int .i64 us.length)) (w.setRow g fP):=by
        unfold execOp resolve;rw[cz];simp only [pW,gM,yn,List.map_toArray,List.map_cons,List.map_nil];show (do pure (Next.value (<-Builtin.copy_ #[t,t2] op.type #[a.eval nI,a.eval hg])):Sem Next).run P w=_;rw[es,ex];simp only [Sem.run_bind,FW,Result.andThen_ok];rfl
       have fB:∀c',op.op≠.defer c':=λc' h=>by rw[cz] at h;cases h
       refine⟨λ_ _=>trivial,?_⟩;rw[Oper.semAt_eq _ _ _ fB,fy,Oper.uponIn_value];obtain⟨q1,aH⟩:=qK (B:=B) (M:=M) (w':=w.setRow g fP) (T:=some g) (bt:=some g) hw (λi ai=>by cases ai;exact⟨by rw[bw];simp,cX⟩) (λi ai=> .inl ai) ⟨rfl,rfl,rfl⟩ (ch _) (by simp [World.setRow]) (λj _ hj=>setRow_other w g j fP (λh=>hj (by rw[h])));have vN:jr B (h9 M (w.setRow g fP) (some g) (some g)) (.pointer (some ⟨g,0,none⟩)) ty (cs.take j++us++cs.drop (j+us.length)):=by
        refine⟨g,rfl,cX,?_⟩;unfold h9;rw[aY rfl];exact setRow_heap w g ⟨cs⟩ fP ty (0,0) aA
       have hV:=Here.turns (vals':=bm) dg (hm _) q1 av ar hF;letI:=aX (h9 M (w.setRow g fP) (some g) (some g)) bm;exact rest _ vN aH _ _ (Here.put (d:=op.dst) hV (v:= .int .i64 us.length) rfl eL)
     ·cases h
   ·cases h
  ·cases h
 ·cases h
def endCell (fn:Func):Option b1->Option (aK×J)
 |some (.done x s)=>bif Dt x then match fn.results.toList,yb s.A s.ms with
  |[.cell a t],some _=>some (t,slot s.sl a)
  |_,_=>none
  else none
 |_=>none
theorem OU [cV] {P:aS} {fn:Func} {N B:Nat} {w0:ax} {M:Mem} {bs:List J} {R:Ending->ax->Prop} {o:Option b1} {t ty:aK} {g:Nat} {x v:J} {cs:List J} (h:endCell fn o=some (t,x)) (hp:aM x=true) (ml: @aJ (aX M bs) x= .pointer (some ⟨g,0,none⟩))
  (cO:jr B M (.pointer (some ⟨g,0,none⟩)) ty cs) (ha:bk P (isAgg t)=some true) (aw:bk P (sizeOf t)=some cs.length) (aC:aM v=true) (br: @aJ (aX M bs) v= .agg ⟨cs⟩)
  (jE:∀w2,cj B w0 w2-> @oz (aX M bs) w2->R (.returned (.agg ⟨cs⟩)) w2): @fA (aX M bs) _ P N B w0 (rk P fn N B w0 R) o:=by
 letI:=aX M bs;unfold endCell at h;split at h
 ·rename_i x s
  cases aq:Dt x with
  |false=>rw[aq] at h;cases h
  |true=>
   rw[aq,bF] at h;split at h
   ·rename_i a dr f_ kM hl
    cases h;refine⟨_,rfl,λeG w ah=> ?_⟩;have main:Fq P fn N B w0 R eG w:=by
     refine⟨inferInstance,s,f_,v,ah,hl,λφ w1 tmps ao xR=>⟨.agg ⟨cs⟩,?_,?_⟩,λaB w2 hV=> ?_⟩
     ·have e1:tmps.getD a undef= .pointer (some ⟨g,0,none⟩):=(aD.jj _ hp (I0 (xR a))).trans ml
      have aA:w1.heap[g]? =some (.cells ⟨cs⟩ ty (0,0)):=(ao.dn g _ cO.known.1).1;have agr:(loadVar t (⟨g,0,none⟩:Addr)).run P w1= .ok (.agg ⟨cs⟩) w1:=by
       unfold loadVar;refine c9 ha ?_;simp only [if_true];refine c9 aw (dm (run_loadCells_list (P:=P) w1 ⟨g,0,none⟩ cs λj u hj=> ?_) rfl);rw[Addr.kz,cell_of_row w1 _ _ _ _ _ aA,Nat.zero_add];simpa using hj
      have e:results fn tmps=(fn.results.mapM (NW tmps)) >>= λvs=>pure (if h:vs.size=1 then vs[0] else .tuple vs):=by
       unfold results;congr 1
      rw[e,Array.mapM_eq_mapM_toList,kM];refine dm (a:=(⟨[.agg ⟨cs⟩]⟩:Array J)) (dm (a:=[.agg ⟨cs⟩]) ?_ rfl) rfl;rw[List.mapM_cons];refine dm (a:=Value.agg ⟨cs⟩) ?_ rfl;show (do loadVar t (<-asAddr (tmps.getD a undef)):Sem J).run P w1=_;rw[e1];exact c9 (a:=(⟨g,0,none⟩:Addr)) rfl agr
     ·rw[<-br]
      exact aD.vt φ v aC
     ·have ai:=hV.nY
      obtain⟨⟨φ,ds,q1,aH,b0,eF,_⟩,hz,ld⟩:=hV;have:=aH.get 0 v rfl;rw[show aB=aJ v from aD.jj v aC this,br];exact jE w2 hz ai
    cases x with
    |normal=>exact main
    |ret=>exact main
    |exit id=>cases aq
    |goto l=>cases aq
   ·cases h
 ·cases h
end AE
namespace AE
def OV [cV] {X:Type} (gq:X->a7) (gf:X->Prop) (iR:X->Nat) (m N:Nat) (head:aF) (a1:List bx) (B:Nat) (w0:ax):Act->ax->Prop:=λa w=>∃x',gf x'/\iR x'<m/\ @Here (gq x') _ N (b5 head a1) B w0 a w
theorem tp [cV] {P:aS} {N B:Nat} {w0:ax} {s1:a7} {X:Type} {gq:X->a7} (gf:X->Prop) (iR:X->Nat) {head:aF} {a1:List bx} {o:Option b1} {bN:eH} {Q:Exit->Act->ax->Prop} (x:X) (af:p3 head a1 o=some bN) (hm:fO s1 (gq x) bN)
  (qI:∀i o,(gq x).dn i=some o->s1.dn i=some o) (aq:gf x)
  (round:∀x,gf x->∀a w,@Here (gq x) _ N (b5 head a1) B w0 a w->(pC o).wpIn (Fr none) 0 P (Exit.then (OV gq gf iR (iR x) N head a1 B w0) (d' P (gC o) Q)) a w)
  (av:cV.ev<=a1.length:=by first|exact Nat.zero_le _|exact gI rfl) (ar:ix (b9 o).A a1 0:=by exact gW rfl): @fA s1 _ P N B w0 Q o:=
 afd gf iR x af hm qI aq round av ar
theorem ags {s1:a7} [cV] {P:aS} {N B:Nat} {w0:ax} {X:Type} {gq:X->a7} {gf:X->Prop} {iR:X->Nat} {m:Nat} {head:aF} {a1:List bx} {o:Option b1} (x':X) {bN:eH} {Q:Exit->Act->ax->Prop} (af:qJ head a1 o=some bN) (hm:fO s1 (gq x') bN)
  (qI:∀i o,(gq x').dn i=some o->s1.dn i=some o) (bh:gf x') (By:iR x'<m) (av:cV.ev<=a1.length:=by first|exact Nat.zero_le _|exact gI rfl) (ar:ix (b9 o).A a1 0:=by exact gW rfl):
  @fA s1 _ P N B w0 (Exit.then (OV gq gf iR m N head a1 B w0) Q) o:=by
 cases o with
 |none=>cases af
 |some st=>
  refine⟨st,rfl,?_⟩;unfold qJ at af;split at af
  ·rename_i s c0
   cases c0;intro a w ah;exact⟨x',bh,By,Here.move af hm qI av ar ah⟩
  ·cases af
theorem agt {M M':Nat->Option Obj} {bs vals':List J} {a b:Nat} {v:J} (ad:bs[a]? =some v) (ag:vals'[b]? =some v) (ha:Nat.blt a eZ=true) (af:Nat.blt b eZ=true): @aJ (aX M bs) (ak a)= @aJ (aX M' vals') (ak b):=by
 have e1:mi bs a=o3 v:=by unfold mi;rw[ha,bF,dq,ad];rfl
 have e2:mi vals' b=o3 v:=by unfold mi;rw[af,bF,dq,ag];rfl
 exact V3 (o3 v) e1 e2
theorem WQ [cV] {P:aS} [Lib P] {N B:Nat} {w0:ax} {Q:Exit->Act->ax->Prop} {M:Mem} {bs:List J} {o:Option b1} {f:FuncId} {args:List J} {eO:J} {Y:Type} {bm:Y->List J} {ef dK:aF} {a1:List bx} {bN:eH} {dG:Mem} {az n7:List cb} {r:Y->J} {xf:Y->List cb}
  (aI:bK B dG az M n7) (is:List Nat) (kp DK:Y->List cb)
  (h:(vH P o).isSome=true) (aR:(sj P o).1=f) (ha:(sj P o).2.1=args) (dg:cr (kS P o) ef a1=some bN) (eL:g' N ef (kc o) eO=some dK)
  (ik:j6 n7.length is=true) (ao:∀M' y,@aJ (aX M' (bm y)) eO=r y) (hL:∀y,xf y=kp y++DK y)
  (fC:∀w,(∀i o,M i=some o->w.heap[i]? =some o)->B<=w.heap.size->cH (aE w) (AE.pick n7 is)->Calls P f ⟨@ep (aX M bs) args⟩ w λe w'=>(∃y,e= .returned (r y)/\cZ (aE w) (AE.pick n7 is) (aE w') (xf y))/\cj 0 w w')
  (hm:∀y M',fO (aX M bs) (aX M' (bm y)) bN)
  (rest:∀M' y,bK B dG az M' (lI n7 is (kp y)++DK y)->∀a6 w,@Here (aX M' (bm y)) _ N {sl:=dK,ms:=[],A:=da a1} B w0 a6 w->wpListIn (Fr none) 0 P (kP o) (d' P (gC o) Q) (kO o) a6 w)
  (hlen:∀y,(kp y).length=is.length:=by exact λ_=>rfl)
  (hp:dM args=true:=by rfl) (fD:aM eO=true:=by rfl)
  (av:cV.ev<=a1.length:=by first|exact Nat.zero_le _|exact gI rfl) (ar:ix (kS P o).A a1 0:=by exact gW rfl): @fA (aX M bs) _ P N B w0 Q o:=
 af_ (S:=iI (AE.pick n7 is)) (R:=λy M'=>cZ M (AE.pick n7 is) M' (xf y)) h aR ha hp dg eL fD (λw hw cX=>age aI is ik rfl hw cX ao (fC w hw cX (aI.at is ik rfl hw))) (λM' y _=>hm y M')
  (λM' y eA=>rest M' y (aI.put is ik (hlen y) (by rw[<-hL y];exact eA))) av ar
end AE
namespace AE
def OW (P:aS) (A:a8) (t:aK):J->Option J
 | .pointer (some ⟨b,off,none⟩)=>match bk P (isAgg t) with
   |some false=>A.load b off
   |_=>none
 |_=>none
def FX (P:aS) (br:Operand->J) (A:a8) (o:Oper):Option J:=
 match o.guard with
 |some _=>none
 |none=>match o.op with
  | .load t x=>OW P A t (br x)
  |_=>bif x4 o then @x5 P ⟨[]⟩ br o else none
section
variable [a7] {P:aS} {φ:b4} {A:a8} {w w2:ax}
omit [a7] in
theorem WR {e:hS} {i:Nat} (h:w2.heap[e.bn]? =w.heap[e.bn]?):w2.cell? ⟨e.bn,i,none⟩=w.cell? ⟨e.bn,i,none⟩:=by
 unfold World.cell?;simp only [h]
theorem agu (ao:b2 φ A w) (al:∀b e,φ b=some e->w2.heap[e.bn]? =w.heap[e.bn]?) {t:aK} {p p' v:J} (hp:aD φ p p') (h:OW P A t p=some v):∃aB,(Instr.loadAt t p').run P w2= .ok aB w2/\aD φ v aB:=by
 unfold OW at h;split at h
 ·rename_i b off
  cases hp with
  |ptr he=>
   split at h
   ·rename_i qy
    obtain⟨aB,ad,ag⟩:=vi ao h he;rw[<-WR (al _ _ he)] at ad;refine⟨aB,?_,ag⟩;unfold Instr.loadAt;refine c9 (a:=(⟨_,_,none⟩:Addr)) rfl ?_;unfold loadVar;refine c9 qy ?_;simp [Go.load,Sem.run,ad]
   ·cases h
 ·cases h
theorem WS (ao:b2 φ A w) (al:∀b e,φ b=some e->w2.heap[e.bn]? =w.heap[e.bn]?) {ρ ρ':Operand->J} {o:Oper} {v:J} (c5:∀x,aD φ (ρ x) (ρ' x)) (h:FX P ρ A o=some v):
  ∃aB,(execOp ρ' o).run P w2= .ok (.value aB) w2/\aD φ v aB/\o.guard=none/\∀c,o.op≠.defer c:=by
 unfold FX at h;split at h
 ·cases h
 ·rename_i aA
  split at h
  ·rename_i t x cz
   obtain⟨aB,ad,ag⟩:=agu ao al (c5 x) h;refine⟨aB,?_,ag,aA,λc ar=>by rw[cz] at ar;cases ar⟩;unfold execOp;rw[cz];simp only [Sem.run_bind,ad,Result.andThen_ok];rfl
  ·cases nW:x4 o with
   |false=>rw[nW] at h;cases h
   |true=>
    rw[nW,bF] at h;obtain⟨aB,ad,ag⟩:= @E' _ P ⟨[]⟩ (λ_ h=>by cases h) φ ρ ρ' o v c5 h;refine⟨aB,ad w2,ag,aA,λc ar=> ?_⟩;unfold x4 at nW;rw[ar] at nW;simp at nW
end
def J8 (P:aS) [Lib P] [ej P] (C:iw) (N E m:Nat) (ops:Array Oper) (ms:List Nat) (du:aF) (A:a8):List Oper->Nat->List J->Option (List J)
 |[],_,vs=>some vs
 |o::r,i,vs=>bif Nat.beq i E then J8 P C N E m ops ms du A r (i+1) (vs++[cB]) else
  match hU N ops (λj=>vs.getD j cB) (needs ops m o) du with
  |some sl=>bif C5 ms E i then
    match vu P C .nil ops o sl A with
    |some (v,bH)=>bif I' (.nil,bH) (.nil,A) then J8 P C N E m ops ms du A r (i+1) (vs++[v]) else none
    |none=>none
   else match FX P (dH .nil sl) A o with
    |some v=>J8 P C N E m ops ms du A r (i+1) (vs++[v])
    |none=>none
  |none=>none
def agv (ops:Array Oper) (E:Nat):Option (aK×Operand×Operand):=
 match ops[E]? with
 |some o=>match o.guard,o.dst,o.op with
  |none,none,.store t p x=>some (t,p,x)
  |_,_,_=>none
 |none=>none
def nf (P:aS) [Lib P] [ej P] (C:iw) (N E m:Nat):Option b1->Option (aK×J×J×aF)
 |some (.draw _ ops s _)=>
  bif uw ops [] m N&&(Nat.blt E m&&(List.range m).all λi=> !direct ops i E) then
   match hU N ops (λ_=>cB) (List.range m) s.sl,agv ops E with
   |some du,some (t,oC,hg)=>match J8 P C N E m ops (zm ops) du s.A (ops.toList.take m) 0 [] with
    |some vs=>match hU N ops (λj=>vs.getD j cB) (List.range m) du,ops[E]? with
     |some eK,some o=>match hU N ops (λj=>vs.getD j cB) (needs ops m o) du with
      |some J9=>bif aM (dH .nil J9 oC)&&aM (dH .nil J9 hg) then some (t,dH .nil J9 oC,dH .nil J9 hg,eK) else none
      |none=>none
     |_,_=>none
    |none=>none
   |_,_=>none
  else none
 |_=>none
section
variable {P:aS} [Lib P] [ej P] {C:iw} {N E m:Nat} {ops:Array Oper} {ms:List Nat} {du:aF} {A:a8}
end
structure FY [a7] [cV] (N:Nat) (FZ:List Nat) (ds:List Deferred) (ops:Array Oper) (m:Nat) (vs:List J) (du:aF) (A:a8) (B:Nat) (w0:ax) (φ:b4) (listed:Array Bool) (a:Act) (w:ax):Prop where
 agw:ri φ FZ ds
 size:listed.size=ops.size
 down:∀i j,listed.getD i false=true->direct ops i j=true->listed.getD j false=true
 sZ:∀i,m<=i->listed.getD i false=false
 rel:b2 φ A w
 own:∀b e,φ b=some e->B<=e.bn
 outs:vC φ A
 below:cj B w0 w
 agx:B<=w.heap.size
 defers:a.defers=ds
 mC:a.tmps.size=N
 slot:∀t v,du.get t=some v->aD φ v (a.tmps.getD t undef)
 val:∀j t,j<m->listed.getD j false=true->fz ops j=some t->aD φ (vs.getD j cB) (a.tmps.getD t undef)
section
variable [a7] [cV] {N:Nat} {FZ:List Nat} {ds:List Deferred} {ops:Array Oper} {m B:Nat} {vs:List J} {du:aF} {A:a8} {w0 w:ax} {φ:b4} {listed:Array Bool} {a:Act}
theorem FY.DL (h:FY N FZ ds ops m vs du A B w0 φ listed a w) {ij:Nat->J} {ct:List Nat} {sl:aF} (vm:∀j∈ct,j<m/\listed.getD j false=true/\ij j=vs.getD j cB) (hp:hU N ops ij ct du=some sl):fE N ds φ sl a:=
 ⟨h.mC,h.defers,λt v aC=>by
   rcases oZ _ _ _ hp t v aC with ⟨j,hj,bg,rfl⟩|⟨_,aA⟩
   ·obtain⟨ad,ag,ay⟩:=vm j hj
    rw[ay];exact h.val j t ad ag bg
   ·exact h.slot t v aA⟩
omit [a7] [cV] in
theorem J' {listed:Array Bool} {i:Nat} (ai:i<listed.size) (j:Nat):(listed.setIfInBounds i true).getD j false=true↔j=i\/listed.getD j false=true:=by
 by_cases hj:j=i
 ·subst hj
  simp [fk,ai]
 ·rw[getD_set_ne false (Ne.symm hj)]
  simp [hj]
theorem FY.put (h:FY N FZ ds ops m vs du A B w0 φ listed a w) {i:Nat} {o:Oper} {mD:aF} (fq:hU N ops (λ_=>cB) (List.range m) mD=some du) (ai:i<m) (hm:m<=ops.size) (ho:ops[i]? =some o)
  (uz:∀k,direct ops i k=true->listed.getD k false=true) (mG:∀i j,i<m->j<m->i≠j->∀t,fz ops i=some t->fz ops j≠some t) (cg:∀i t,i<m->fz ops i=some t->t<N)
  {aB:J} (aC:o.dst≠none->aD φ (vs.getD i cB) aB):FY N FZ ds ops m vs du A B w0 φ (listed.setIfInBounds i true) (a.put o.dst aB) w:=by
 have lk:fz ops i=o.dst:=by simp [fz,ho]
 have fj:=J' (listed:=listed) (i:=i) (by have:=h.size;omega);have c1:∀t,o.dst≠some t->(a.put o.dst aB).tmps.getD t undef=a.tmps.getD t undef:=λt aN=>by
  rcases Nat.lt_or_ge t a.tmps.size with kN|kN
  ·rw[Act.sY _ _ _ _ kN,a_ aN]
  ·simp [fk,Array.getElem?_eq_none kN,Array.getElem?_eq_none (show (a.put o.dst aB).tmps.size<=t by rw[Act.size_put];exact kN)]
 refine⟨h.agw,by simpa using h.size,?_,?_,h.rel,h.own,h.outs,h.below,h.agx,by rw[Act.C4];exact h.defers,by rw[Act.size_put];exact h.mC,?_,?_⟩
 ·intro j k hj bg
  rw[fj] at hj ⊢;rcases hj with rfl|hj
  ·exact .inr (uz k bg)
  ·exact .inr (h.down j k hj bg)
 ·intro j hj
  rw[getD_set_ne false aj];exact h.sZ j hj
 ·intro t v pX
  by_cases rf:o.dst=some t
  ·rcases oZ _ _ _ fq t v pX with ⟨j,hj,bg,rfl⟩|⟨x9,_⟩
   ·exact .cB _
   ·exact absurd (lk.trans rf) (x9 i (List.mem_range.2 ai))
  ·rw[c1 t rf]
   exact h.slot t v pX
 ·intro j t hj hl bg
  by_cases ek:j=i
  ·subst ek
   have kN:t<N:=cg j t hj bg;have:(a.put o.dst aB).tmps.getD t undef=aB:=by
    rw[Act.sY _ _ _ _ (by rw[h.mC];exact kN),aY (lk.symm.trans bg)]
   rw[this];exact aC (by rw[<-lk,bg];simp)
  ·have mW:=((fj j).1 hl).resolve_left ek
   rw[c1 t λah=>mG i j ai hj (Ne.symm ek) t (lk.trans ah) bg];exact h.val j t hj mW bg
end
section
variable [a7] [cV] {P:aS} [Lib P] [ej P] {C:iw} {N E m B:Nat} {w0:ax} {Q:Exit->Act->ax->Prop}
end
end AE
namespace AE
theorem agy {P:aS} (w:ax) (qa agz ty elem:aK) (d:Option Addr) (agA:Nat) (a:Addr) (om r3:Nat) (hu:P.underlying qa=some (.slice elem)) (aw:(P.info? elem).map (·.size)=some 1):
  (Builtin.copy_ #[qa,agz] ty #[.slice d 0 agA,.slice (some a) om r3]).run P w= .ok (.int .i64 0) w:=by
 cases bf:P.info? elem with
 |none=>simp [bf] at aw
 |some i=>
  have ai:i.size=1:=by simpa [bf] using aw
  cases d<;>simp [Builtin.copy_,run_underlying hu,Builtin.lenOf,Builtin.firstCells,sizeOf,typeInfo,bf,ai,storeCells,loadCells,loadCellsFrom,Sem.run,pure,goInt]
theorem OX {α:Type} {enc:α->List J} (al:∀x,(enc x).length=1) (l:List α) (i:Nat):(l.take i).flatMap enc=(l.flatMap enc).take i/\(l.drop i).flatMap enc=(l.flatMap enc).drop i:=by
 have h:∀(l:List α) (i:Nat),(l.take i).flatMap enc=(l.flatMap enc).take i/\(l.drop i).flatMap enc=(l.flatMap enc).drop i:=by
  intro l
  induction l with
  |nil=>intro i;simp
  |cons x r cA=>
   intro i;cases i with
   |zero=>simp
   |succ i=>
    have aq:=al x;obtain⟨v,aC⟩:=List.length_eq_one_iff.1 aq;obtain⟨ad,ag⟩:=cA i;simp [aC,ad,ag]
 exact h l i
theorem WT [cV] {α:Type} {P:aS} {N B:Nat} {w0:ax} {Q:Exit->Act->ax->Prop} {M:Mem} {bs bm:List J} {o:Option b1} {t t2 e:aK} {vs lH u rv ij:J} {a:Option Addr} {c i m:Nat} {enc:α->List J} {l ys l':List α} {ef dK:aF} {a1:List bx} {bN:eH}
  (gb:l'=l.take i++ys.take m++l.drop (i+m)) (sT:m=min ys.length (l.length-i)) (h:Bw t t2 o=some (vs,lH)) (aN:P.underlying t=some (.slice e)) (aw:(P.info? e).map (·.size)=some 1) (al:∀x,(enc x).length=1) (kd:∀x,∀v∈enc x,v.oneCell'=true)
  (dg:cr (b9 o) ef a1=some bN) (eL:g' N ef (kc o) rv=some dK) (hp:aM vs=true) (WU:aM rv=true) (hu:u= .slice a l.length c) (ml: @aJ (aX M bs) vs=ij) (s3:ij= .slice (ln a c i 1) (l.length-i) (c-i))
  (jZ:∀φ w x,(∀i o,M i=some o->w.heap[i]? =some o)-> @b2 (aX M bs) φ (b9 o).A w-> @aD (aX M bs) φ lH x->sf w 1 enc x ys) (Bz:ys≠[]) (ai:i<=l.length)
  (cO:dw B M e 1 enc u l) (ca:∀M',@aJ (aX M' bm) rv= .int .i64 ((m:Nat):Int)) (hm:∀M',fO (aX M bs) (aX M' bm) bN)
  (rest:∀M',dw B M' e 1 enc u l'->h8 M M' (eP u)->∀a6 w,@Here (aX M' bm) _ N {sl:=dK,ms:=[],A:=da a1} B w0 a6 w->wpListIn (Fr none) 0 P (kP o) (d' P (gC o) Q) (kO o) a6 w)
  (av:cV.ev<=a1.length:=by first|exact Nat.zero_le _|exact gI rfl) (ar:ix (b9 o).A a1 0:=by exact gW rfl): @fA (aX M bs) _ P N B w0 Q o:=by
 subst s3;letI:=aX M bs;unfold Bw at h;split at h
 ·rename_i op r ops s ks
  refine⟨_,rfl,λeG w ah=> ?_⟩;split at h
  ·rename_i e6 cz
   split at h
   ·rename_i nI hg pW gM
    cases hty:decide (e6.argTypes= #[t,t2]) with
    |false=>rw[hty] at h;cases h
    |true=>
     rw[hty,bF] at h;have yn:e6.argTypes= #[t,t2]:=of_decide_eq_true hty;split at h
     ·rename_i jP
      cases h;have hF:=ah;obtain⟨⟨φ,ds,ad,ag,ay,bG,_⟩,cJ,cU⟩:=ah;unfold wpListIn;rw[py ag.get jP,aY rfl];have es:eG.eval nI= .slice (ln a c i 1) (l.length-i) (c-i):=(aD.jj _ hp (gU (iG φ) ag.get nI)).trans ml;have hw:∀i o,M i=some o->w.heap[i]? =some o:=hF.nY;obtain⟨xd,c2,ex,ym,km⟩:=jZ φ w _ hw ay (gU (iG φ) ag.get hg);have fB:∀c',op.op≠.defer c':=λc' h=>by rw[cz] at h;cases h
      cases xd with
      |none=>exact absurd (ym rfl) Bz
      |some hf=>
       have oj:∀(w2:ax),(Builtin.copy_ #[t,t2] op.type #[eG.eval nI,eG.eval hg]).run P w= .ok (.int .i64 ((m:Nat):Int)) w2->(execOp eG.eval op).run P w= .ok (.value (.int .i64 ((m:Nat):Int))) w2:=by
        intro w2 FW;unfold execOp resolve;rw[cz];simp only [pW,gM,yn,List.map_toArray,List.map_cons,List.map_nil];show (do pure (Next.value (<-Builtin.copy_ #[t,t2] op.type #[eG.eval nI,eG.eval hg])):Sem Next).run P w=_;simp only [Sem.run_bind,FW,Result.andThen_ok];rfl
       rcases Nat.eq_or_lt_of_le ai with p6|p6
       ·
        have DM:m=0:=by omega
        subst DM;have lh:l'=l:=by rw[gb,p6];simp
        rw[lh] at rest;have fy:=oj w (by rw[es,ex,show l.length-i=0 by omega];exact agy w t t2 op.type e _ _ hf _ c2 aN aw);refine⟨λ_ _=>trivial,?_⟩;rw[Oper.semAt_eq _ _ _ fB,fy,Oper.uponIn_value];have hV:=Here.move (s2:=aX M bm) dg (hm M) (λ_ _ h=>h) av ar hF;have:=rest M cO (λ_ _ h _=>h) _ _ (@Here.put (aX M bm) _ _ _ _ _ _ _ op.dst rv dK hV WU eL);rw[ca M] at this;exact this
       ·rcases cO with ⟨ao3,rfl,rfl⟩|⟨g,cap,cur,he,kB,cX,bw,hle,xU,fT,yv⟩
        ·simp at p6
        ·rw[he] at hu
         simp only [Value.slice.injEq] at hu;obtain⟨rfl,_,rfl⟩:=hu;have aA:=hw _ _ bw;have bg:ln (some (⟨g,0,none⟩:Addr)) cap i 1=some ⟨g,i,none⟩:=by
          unfold ln;rw[a_ aj];show some ((⟨g,0,none⟩:Addr).add (i*1))=_;have:(⟨g,0,none⟩:Addr).add (i*1)=⟨g,0+i*1,none⟩:=by unfold Addr.add;split<;>simp_all
          rw[this,Nat.zero_add,Nat.mul_one]
         have ao4:cur.size=cap:=by omega
         have Bx:((ys.take m).flatMap enc).length=m:=by
          rw[rm al,List.length_take];omega
         have FW:=run_copy_row (P:=P) w t t2 op.type e g i (l.length-i) (cap-i) hf ys.length c2 cur e ((ys.take m).flatMap enc) aN aw aA (by rw[Bx];exact sT) (λj v hj=>km hf rfl j v (by
          rw[(OX al ys m).1] at hj;rw[List.getElem?_take] at hj;split at hj
          ·exact hj
          ·cases hj)) (by rw[Bx];omega) (λv aC=>by
          obtain⟨x,_,aq⟩:=List.mem_flatMap.1 aC
          exact kd x v aq)
         let fP:Array J:=(cur.toList.take i++(ys.take m).flatMap enc++cur.toList.drop (i+m)).toArray
         have fy:=oj (w.setRow g fP) (by rw[es,ex,bg,FW,Bx];rfl);refine⟨λ_ _=>trivial,?_⟩;rw[Oper.semAt_eq _ _ _ fB,fy,Oper.uponIn_value];have ig:eP u=some g:=by rw[he];exact nZ ⟨g,0,none⟩ _ kB
         obtain⟨q1,aH⟩:=qK (B:=B) (M:=M) (w':=w.setRow g fP) (T:=some g) (bt:=some g) hw (λi ai=>by cases ai;exact⟨by rw[bw];simp,cX⟩) (λi ai=> .inl ai) ⟨rfl,rfl,rfl⟩ (ch _) (by simp [World.setRow]) (λj _ hj=>setRow_other w g j fP (λh=>hj (by rw[h])));have lh:l'.length=l.length:=by rw[gb];simp;omega
         have vN:dw B (h9 M (w.setRow g fP) (some g) (some g)) e 1 enc u l':=by
          refine .inr ⟨g,cap,fP,by rw[he,lh],kB,cX,?_,by rw[lh];exact hle,xU,?_,?_⟩
          ·unfold h9
           rw[aY rfl];exact setRow_heap w g cur fP e (0,0) aA
          ·show (List.toArray _).size=_
           simp only [List.size_toArray,List.length_append,List.length_take,List.length_drop,Bx,Array.length_toList];omega
          ·show (cur.toList.take i++(ys.take m).flatMap enc++cur.toList.drop (i+m)).take (l'.length*1)=_
           rw[gb,List.flatMap_append,List.flatMap_append,(OX al l i).1,(OX al l (i+m)).2,<-yv,Nat.mul_one,Nat.mul_one,<-gb,lh];have ad:(cur.toList.take i++(ys.take m).flatMap enc).length=i+m:=by
            rw[List.length_append,Bx,List.length_take,Array.length_toList];omega
           rw[List.take_append,ad,List.take_of_length_le aj,List.take_drop,List.take_take,Nat.min_eq_left aj,List.drop_take];congr 1;have:i+m+(l.length-(i+m))=l.length:=by omega
           rw[this,List.drop_take]
         have hV:=Here.turns (vals':=bm) dg (hm _) q1 av ar hF;have:=rest _ vN (by rw[ig];exact aH) _ _ (@Here.put (aX (h9 M (w.setRow g fP) (some g) (some g)) bm) _ _ _ _ _ _ _ op.dst rv dK hV WU eL);rw[ca _] at this;exact this
     ·cases h
   ·cases h
  ·cases h
 ·cases h
theorem agB (a:Option Addr) (n c:Nat):Value.slice a n c= .slice (ln a c 0 1) (n-0) (c-0):=by
 unfold ln;split
 ·rfl
 ·cases a with
  |none=>rfl
  |some a=>
   obtain⟨b,o,s⟩:=a;rw[Nat.sub_zero,Nat.sub_zero,Nat.zero_mul];cases s<;>rfl
theorem WV {α:Type} {M:Mem} {bs:List J} {lH ij:J} {A:a8} {k:Nat} {enc:α->List J} {l:List α} (hp:aM lH=true) (br: @aJ (aX M bs) lH=ij) (lV:cE M k enc ij l) (al:∀x,(enc x).length=k):
  ∀φ w x,(∀i o,M i=some o->w.heap[i]? =some o)-> @b2 (aX M bs) φ A w-> @aD (aX M bs) φ lH x->sf w k enc x l:=λφ w x hw _ aC=>by
 have:x=ij:=(@aD.jj (aX M bs) φ lH x hp aC).trans br;rw[this];exact lV.reads al hw
theorem J_ {n:Int} (ad:0<=n) (ag:n<=18446744073709551615):IntKind.u64.wrap n=n:=by rw[IntKind.wrap_u64];omega
end AE
namespace AE
abbrev dX:=Option Addr×Nat
def OY (P:aS) (A:a8) (t:aK):J->Option J
 | .pointer (some ⟨b,off,none⟩)=>match bk P (isAgg t) with
   |some true=>match bk P (sizeOf t) with
    |some n=>(A.r0 b off n).map λl=> .agg ⟨l⟩
    |none=>none
   |_=>none
 |_=>none
theorem agC [a7] {φ:b4} {A:a8} {w w2:ax} {e:hS} (ao:b2 φ A w) (al:w2.heap[e.bn]? =w.heap[e.bn]?) (P:aS) {b off n:Nat} {vs:List J} (h:A.r0 b off n=some vs) (he:φ b=some e):
  ∃cN:Array J,(loadCells ⟨e.bn,e.sh+off,none⟩ n).run P w2= .ok cN w2/\cN.size=vs.length/\∀j,j<vs.length->aD φ (vs.getD j undef) (cN.getD j undef):=by
 obtain⟨hl,hj⟩:=AF h;have AG:∀j,j<n->∃aB,w2.cell? ⟨e.bn,e.sh+off+j,none⟩=some aB/\aD φ (vs.getD j undef) aB:=λj vl=>by
  obtain⟨aB,ad,ag⟩:=vi ao (hj j vl) he;exact⟨aB,by rw[show e.sh+off+j=e.sh+(off+j) by omega,WR al];exact ad,ag⟩
 let f:Nat->J:=λj=>(w2.cell? ⟨e.bn,e.sh+off+j,none⟩).getD undef
 have aR:∀j,j<n->w2.cell? ((⟨e.bn,e.sh+off,none⟩:Addr).add j)=some (f j):=λj vl=>by
  obtain⟨aB,ad,_⟩:=AG j vl;rw[Addr.kz,ad];simp [f,ad]
 refine⟨_,run_loadCells _ _ n f aR,by simp [hl],λj vl=> ?_⟩;obtain⟨aB,ad,ag⟩:=AG j aj;have:f j=aB:=by simp [f,ad]
 have agD:j<n:=by omega
 simpa [agD,this] using ag
theorem agE [a7] {P:aS} {φ:b4} {A:a8} {w w2:ax} (ao:b2 φ A w) (al:∀b e,φ b=some e->w2.heap[e.bn]? =w.heap[e.bn]?) {t:aK} {p p' v:J} (hp:aD φ p p') (h:OY P A t p=some v):∃aB,(Instr.loadAt t p').run P w2= .ok aB w2/\aD φ v aB:=by
 unfold OY at h;split at h
 ·rename_i b off
  cases hp with
  |ptr he=>
   split at h
   ·rename_i qy
    split at h
    ·rename_i n av
     obtain⟨l,hl,rfl⟩:=Option.map_eq_some_iff.1 h;obtain⟨cN,ad,ag,ay⟩:=agC ao (al _ _ bM) P hl bM;refine⟨.agg cN,?_,.agg _ _ (by simp [ag]) λi ai=>by simpa using ay i (by simpa using ai)⟩;unfold Instr.loadAt;refine c9 (a:=(⟨_,_,none⟩:Addr)) rfl ?_;unfold loadVar;refine c9 qy ?_;simp only [if_true];refine c9 av ?_;simp only [Sem.run_bind,ad,Result.andThen_ok];rfl
    ·cases h
   ·cases h
 ·cases h
def yx (P:aS) (br:Operand->J) (A:a8) (o:Oper):Option J:=
 match o.op with
 | .build t ⟨[]⟩=>match o.guard with
   |none=>match bk P (Instr.build t #[]) with
    |some v=>bif plain v then some v else none
    |none=>none
   |some _=>none
 | .load t x=>match o.guard with
   |none=>match OY P A t (br x) with
    |some v=>some v
    |none=>FX P br A o
   |some _=>none
 |_=>FX P br A o
theorem WW [a7] {P:aS} {φ:b4} {A:a8} {w w2:ax} (ao:b2 φ A w) (al:∀b e,φ b=some e->w2.heap[e.bn]? =w.heap[e.bn]?) {ρ ρ':Operand->J} {o:Oper} {v:J} (c5:∀x,aD φ (ρ x) (ρ' x)) (h:yx P ρ A o=some v):
  ∃aB,(execOp ρ' o).run P w2= .ok (.value aB) w2/\aD φ v aB/\o.guard=none/\∀c,o.op≠.defer c:=by
 unfold yx at h;split at h
 ·rename_i t cz
  split at h
  ·rename_i aA
   split at h
   ·rename_i u hu
    cases hp:plain u with
    |false=>rw[hp] at h;cases h
    |true=>
     rw[hp,bF] at h;cases h;refine⟨v,?_,aD.ky φ v hp,aA,λc ar=>by rw[cz] at ar;cases ar⟩;unfold execOp;rw[cz];simp only [List.map_toArray,List.map_nil,Sem.run_bind,jD hu w2,Result.andThen_ok];rfl
   ·cases h
  ·cases h
 ·rename_i t x cz
  split at h
  ·rename_i aA
   split at h
   ·rename_i u hu
    cases h;obtain⟨aB,ad,ag⟩:=agE (w2:=w2) ao al (c5 x) hu;refine⟨aB,?_,ag,aA,λc ar=>by rw[cz] at ar;cases ar⟩;unfold execOp;rw[cz];simp only [Sem.run_bind,ad,Result.andThen_ok];rfl
   ·exact WS ao al c5 h
  ·cases h
 ·exact WS ao al c5 h
def DN (P:aS) (N m:Nat) (ct:List Nat) (ops:Array Oper) (du:aF) (A:a8):List Oper->Nat->List J->Option (List J)
 |[],_,vs=>some vs
 |o::r,i,vs=>bif ct.contains i then DN P N m ct ops du A r (i+1) (vs++[cB]) else
  match hU N ops (λj=>vs.getD j cB) (needs ops m o) du with
  |some sl=>match yx P (dH .nil sl) A o with
   |some v=>DN P N m ct ops du A r (i+1) (vs++[v])
   |none=>none
  |none=>none
def F1 (P:aS) (N m:Nat) (ct:List Nat):Option b1->Option (aF×List J×aF)
 |some (.draw _ ops s _)=>
  bif uw ops [] m N&&((List.range m).all λi=>match ops[i]? with|some o=>(needs ops m o).all λj=> !ct.contains j|none=>false)&&ct.all (λj=>Nat.blt j m) then
   match hU N ops (λ_=>cB) (List.range m) s.sl with
   |some du=>match DN P N m ct ops du s.A (ops.toList.take m) 0 [] with
    |some vs=>match hU N ops (λj=>vs.getD j cB) ((List.range m).filter λi=> !ct.contains i) du with
     |some F6=>some (du,vs,F6)
     |none=>none
    |none=>none
   |none=>none
  else none
 |_=>none
def rr (P:aS) (N m:Nat) (ct:List Nat) (o:Option b1) (i:Nat):aF:=
 match F1 P N m ct o,(gQ o)[i]? with
 |some (du,vs,_),some op=>match hU N (gQ o) (λj=>vs.getD j cB) (needs (gQ o) m op) du with
  |some sl=>sl
  |none=> .nil
 |_,_=> .nil
def F7 (P:aS) (N m:Nat) (ct:List Nat) (o:Option b1):b8:={b9 o with sl:=match F1 P N m ct o with|some (_,_,sl)=>sl|none=> .nil}
def yy (m:Nat) (o:Option b1):List Oper:=(gQ o).toList.drop m
def uN (N:Nat) (ops:Array Oper):List (Nat×J)->aF->Option aF
 |[],sl=>some sl
 |p::r,sl=>match g' N sl (fz ops p.1) p.2 with
  |some s=>uN N ops r s
  |none=>none
def xg [a7] (P:aS) (M:Mem) (B:Nat) (o:Oper) (sl:aF) (R:dX->cb) (rv:dX->J):Prop:=
 o.guard=none/\∀(a:Act) (w:ax) (K:Act->ax->Prop) (Q:Exit->Act->ax->Prop),(∀x:Operand,aM (dH .nil sl x)=true->a.eval x=aJ (dH .nil sl x))->(∀b o,M b=some o->w.heap[b]? =some o)->B<=w.heap.size->
   (∀y w',(R y).ok (aE w')->(∀b,(R y).oF b->w.heap.size<=b)->cj w.heap.size w w'->K (a.put o.dst (rv y)) w')->Oper.wpIn (Fr none) 0 P o a w K Q
theorem WX {P:aS} {N m:Nat} {ct:List Nat} {ops:Array Oper} {du:aF} {A:a8}:∀(l:List Oper) (i0:Nat) (vs cN:List J),vs.length=i0->DN P N m ct ops du A l i0 vs=some cN->
  cN.length=vs.length+l.length/\cN.take vs.length=vs/\∀i o,l[i]? =some o->ct.contains (i0+i)=false->∃sl,hU N ops (λj=>(cN.take (vs.length+i)).getD j cB) (needs ops m o) du=some sl/\yx P (dH .nil sl) A o=some (cN.getD (vs.length+i) cB)
 |[],i0,vs,cN,_,h=>by
  cases h;exact⟨by simp,by simp,λi o ai=>by simp at ai⟩
 |o::r,i0,vs,cN,vx,h=>by
  unfold DN at h;have go:∀v,(ct.contains i0=false->∃sl,hU N ops (λj=>vs.getD j cB) (needs ops m o) du=some sl/\yx P (dH .nil sl) A o=some v)->DN P N m ct ops du A r (i0+1) (vs++[v])=some cN->
    cN.length=vs.length+(o::r).length/\cN.take vs.length=vs/\∀i o',(o::r)[i]? =some o'->ct.contains (i0+i)=false->∃sl,hU N ops (λj=>(cN.take (vs.length+i)).getD j cB) (needs ops m o') du=some sl/\yx P (dH .nil sl) A o'=some (cN.getD (vs.length+i) cB):=by
   intro v aC h;obtain⟨ag,ay,bG⟩:=WX r (i0+1) (vs++[v]) cN (by simp [vx]) h;have hlen:(vs++[v]).length=vs.length+1:=by simp
   rw[hlen] at ag ay;have vy:cN.take vs.length=vs:=by
    have:=congrArg (List.take vs.length) ay;rw[List.take_take,Nat.min_eq_left aj] at this;simpa using this
   refine⟨by simp;omega,vy,?_⟩;intro i o' ai
   match i with
   |0=>
    simp only [List.getElem?_cons_zero,cQ] at ai;subst ai;simp only [Nat.add_zero];rw[vy];have gP:cN.getD vs.length cB=v:=by
     have:=congrArg (λl=>l[vs.length]?) ay;simp at this;rw[dq,this];rfl
    rw[gP];exact aC
   |i+1=>
    have:=bG i o' (by simpa using ai);rw[hlen] at this;rw[show vs.length+(i+1)=vs.length+1+i by omega,show i0+(i+1)=i0+1+i by omega];exact this
  cases ar:ct.contains i0 with
  |true=>
   rw[ar,bF] at h;exact go cB (λah=>by rw[ar] at ah;cases ah) h
  |false=>
   rw[ar,eD] at h;split at h
   ·rename_i sl gK
    split at h
    ·rename_i v aC
     exact go v (λ_=>⟨sl,gK,aC⟩) h
    ·cases h
   ·cases h
structure vQ [a7] (N:Nat) (ds:List Deferred) (ops:Array Oper) (m:Nat) (ct:List Nat) (vs:List J) (du:aF) (jc:ax) (φ:b4) (R:Nat->dX->cb) (rv:Nat->dX->J) (ys:Nat->dX) (listed:Array Bool) (a:Act) (w:ax):Prop where
 size:listed.size=ops.size
 down:∀i j,listed.getD i false=true->direct ops i j=true->listed.getD j false=true
 sZ:∀i,m<=i->listed.getD i false=false
 low:cj jc.heap.size jc w
 defers:a.defers=ds
 mC:a.tmps.size=N
 slot:∀t v,du.get t=some v->aD φ v (a.tmps.getD t undef)
 OZ:∀j t,j<m->listed.getD j false=true->ct.contains j=false->fz ops j=some t->aD φ (vs.getD j cB) (a.tmps.getD t undef)
 zL:∀j t,j<m->listed.getD j false=true->ct.contains j=true->fz ops j=some t->a.tmps.getD t undef=rv j (ys j)
 ok:∀j,j<m->listed.getD j false=true->ct.contains j=true->(R j (ys j)).ok (aE w)/\∀b,(R j (ys j)).oF b->jc.heap.size<=b
 two:∀i j,i<m->j<m->i≠j->listed.getD i false=true->listed.getD j false=true->ct.contains i=true->ct.contains j=true->∀b,(R i (ys i)).oF b->¬(R j (ys j)).oF b
section
variable [a7] {N:Nat} {ds:List Deferred} {ops:Array Oper} {m:Nat} {ct:List Nat} {vs:List J} {du:aF} {jc w:ax} {φ:b4} {R:Nat->dX->cb} {rv:Nat->dX->J} {ys:Nat->dX} {listed:Array Bool} {a:Act}
omit [a7] in
theorem yz {a:Act} {d:Option Tmp} {aB:J} (t:Tmp) (aN:d≠some t):(a.put d aB).tmps.getD t undef=a.tmps.getD t undef:=by
 rcases Nat.lt_or_ge t a.tmps.size with kN|kN
 ·rw[Act.sY _ _ _ _ kN,a_ aN]
 ·simp [fk,Array.getElem?_eq_none kN,Array.getElem?_eq_none (show (a.put d aB).tmps.size<=t by rw[Act.size_put];exact kN)]
theorem vQ.DL (h:vQ N ds ops m ct vs du jc φ R rv ys listed a w) {ij:Nat->J} {ks:List Nat} {sl:aF} (EW:∀j∈ks,j<m/\listed.getD j false=true/\ct.contains j=false/\ij j=vs.getD j cB) (hp:hU N ops ij ks du=some sl):fE N ds φ sl a:=
 ⟨h.mC,h.defers,λt v aC=>by
   rcases oZ _ _ _ hp t v aC with ⟨j,hj,bg,rfl⟩|⟨_,aA⟩
   ·obtain⟨ad,ag,ay,bG⟩:=EW j hj
    rw[bG];exact h.OZ j t ad ag ay bg
   ·exact h.slot t v aA⟩
theorem vQ.agF (h:vQ N ds ops m ct vs du jc φ R rv ys listed a w) {i:Nat} {o:Oper} {mD:aF} (fq:hU N ops (λ_=>cB) (List.range m) mD=some du) (ai:i<m) (hm:m<=ops.size) (ho:ops[i]? =some o) (jZ:ct.contains i=false)
  (uz:∀k,direct ops i k=true->listed.getD k false=true) (mG:∀i j,i<m->j<m->i≠j->∀t,fz ops i=some t->fz ops j≠some t) (cg:∀i t,i<m->fz ops i=some t->t<N)
  {aB:J} (aC:aD φ (vs.getD i cB) aB):vQ N ds ops m ct vs du jc φ R rv ys (listed.setIfInBounds i true) (a.put o.dst aB) w:=by
 have lk:fz ops i=o.dst:=by simp [fz,ho]
 have fj:=J' (listed:=listed) (i:=i) (by have:=h.size;omega);have Ka:∀{j},ct.contains j=true->j≠i:=λ{j} hj e=>by rw[e,jZ] at hj;cases hj
 refine⟨by simpa using h.size,?_,?_,h.low,by rw[Act.C4];exact h.defers,by rw[Act.size_put];exact h.mC,?_,?_,?_,?_,?_⟩
 ·intro j k hj bg
  rw[fj] at hj ⊢;rcases hj with rfl|hj
  ·exact .inr (uz k bg)
  ·exact .inr (h.down j k hj bg)
 ·intro j hj
  rw[getD_set_ne false aj];exact h.sZ j hj
 ·intro t v pX
  by_cases rf:o.dst=some t
  ·rcases oZ _ _ _ fq t v pX with ⟨j,hj,bg,rfl⟩|⟨x9,_⟩
   ·exact .cB _
   ·exact absurd (lk.trans rf) (x9 i (List.mem_range.2 ai))
  ·rw[yz t rf]
   exact h.slot t v pX
 ·intro j t hj hl aq bg
  by_cases ek:j=i
  ·subst ek
   rw[Act.sY _ _ _ _ (by rw[h.mC];exact cg j t hj bg),aY (lk.symm.trans bg)];exact aC
  ·rw[yz t λah=>mG i j ai hj (Ne.symm ek) t (lk.trans ah) bg]
   exact h.OZ j t hj (((fj j).1 hl).resolve_left ek) aq bg
 ·intro j t hj hl aq bg
  have ek:=Ka aq;rw[yz t λah=>mG i j ai hj (Ne.symm ek) t (lk.trans ah) bg];exact h.zL j t hj (((fj j).1 hl).resolve_left ek) aq bg
 ·intro j hj hl aq
  exact h.ok j hj (((fj j).1 hl).resolve_left (Ka aq)) aq
 ·intro j k hj al c1 hl ru aq iH
  exact h.two j k hj al c1 (((fj j).1 hl).resolve_left (Ka aq)) (((fj k).1 ru).resolve_left (Ka iH)) aq iH
theorem vQ.agG (h:vQ N ds ops m ct vs du jc φ R rv ys listed a w) {i:Nat} {o:Oper} {mD:aF} (fq:hU N ops (λ_=>cB) (List.range m) mD=some du) (ai:i<m) (hm:m<=ops.size) (ho:ops[i]? =some o) (jZ:ct.contains i=true) (s8:listed.getD i false=false)
  (uz:∀k,direct ops i k=true->listed.getD k false=true) (mG:∀i j,i<m->j<m->i≠j->∀t,fz ops i=some t->fz ops j≠some t) (cg:∀i t,i<m->fz ops i=some t->t<N)
  {y:dX} {w':ax} (jE:(R i y).ok (aE w')) (aR:∀b,(R i y).oF b->w.heap.size<=b) (mT:cj w.heap.size w w'):
  vQ N ds ops m ct vs du jc φ R rv (λj=>if j=i then y else ys j) (listed.setIfInBounds i true) (a.put o.dst (rv i y)) w':=by
 have lk:fz ops i=o.dst:=by simp [fz,ho]
 have fj:=J' (listed:=listed) (i:=i) (by have:=h.size;omega);have Bz:∀{j},j≠i->(if j=i then y else ys j)=ys j:=λ{j} hj=>a_ hj
 refine⟨by simpa using h.size,?_,?_,h.low.trans (mT.mono h.low.size),by rw[Act.C4];exact h.defers,by rw[Act.size_put];exact h.mC,?_,?_,?_,?_,?_⟩
 ·intro j k hj bg
  rw[fj] at hj ⊢;rcases hj with rfl|hj
  ·exact .inr (uz k bg)
  ·exact .inr (h.down j k hj bg)
 ·intro j hj
  rw[getD_set_ne false aj];exact h.sZ j hj
 ·intro t v pX
  by_cases rf:o.dst=some t
  ·rcases oZ _ _ _ fq t v pX with ⟨j,hj,bg,rfl⟩|⟨x9,_⟩
   ·exact .cB _
   ·exact absurd (lk.trans rf) (x9 i (List.mem_range.2 ai))
  ·rw[yz t rf]
   exact h.slot t v pX
 ·intro j t hj hl aq bg
  have ek:j≠i:=λe=>by rw[e,jZ] at aq;cases aq
  rw[yz t λah=>mG i j ai hj (Ne.symm ek) t (lk.trans ah) bg];exact h.OZ j t hj (((fj j).1 hl).resolve_left ek) aq bg
 ·intro j t hj hl aq bg
  by_cases ek:j=i
  ·subst ek
   rw[Act.sY _ _ _ _ (by rw[h.mC];exact cg j t hj bg),aY (lk.symm.trans bg),aY rfl]
  ·rw[yz t λah=>mG i j ai hj (Ne.symm ek) t (lk.trans ah) bg,Bz ek]
   exact h.zL j t hj (((fj j).1 hl).resolve_left ek) aq bg
 ·intro j hj hl aq
  by_cases ek:j=i
  ·subst ek
   rw[aY rfl];exact⟨jE,λb af=>Nat.le_trans h.low.size (aR b af)⟩
  ·rw[Bz ek]
   obtain⟨q1,aH⟩:=h.ok j hj (((fj j).1 hl).resolve_left ek) aq;refine⟨(R j (ys j)).loc _ _ (λb o _ af=> ?_) q1,aH⟩;rw[show aE w' b=aE w b from mT.block b (Array.getElem?_eq_some_iff.1 af).1];exact af
 ·intro j k hj al c1 hl ru aq iH b af jL
  have old:∀j,j<m->j≠i->(listed.setIfInBounds i true).getD j false=true->ct.contains j=true->(R j (ys j)).oF b->¬w.heap.size<=b:=λj hj ek hl aq af aw=>by
   have:=(R j (ys j)).gE _ (h.ok j hj (((fj j).1 hl).resolve_left ek) aq).1 b af;exact this (Array.getElem?_eq_none_iff.2 aw)
  by_cases ek:j=i
  ·have r_:k≠i:=λe=>c1 (ek.trans e.symm)
   rw[Bz r_] at jL;rw[aY ek] at af;rw[ek] at af;exact old k al r_ ru iH jL (aR b af)
  ·rw[Bz ek] at af
   by_cases r_:k=i
   ·rw[aY r_,r_] at jL
    exact old j hj ek hl aq af (aR b jL)
   ·rw[Bz r_] at jL
    exact h.two j k hj al c1 (((fj j).1 hl).resolve_left ek) (((fj k).1 ru).resolve_left r_) aq iH b af jL
end
theorem Here.know [a7] [cV] {N B:Nat} {s:b8} {w0 w:ax} {a:Act} {dO:aF} {d:Option Tmp} {v:J} (ah:Here N s B w0 a w) (hp:aM v=true) (aN:∀t,d=some t->a.tmps.getD t undef=aJ v) (fj:g' N s.sl d v=some dO):Here N {s with sl:=dO} B w0 a w:=by
 obtain⟨⟨φ,ds,ad,ag,ay⟩,cJ,cU⟩:=ah;refine⟨⟨φ,ds,ad,⟨ag.size,ag.defers,λt u hu=> ?_⟩,ay⟩,cJ,cU⟩;cases d with
 |none=>cases fj;exact ag.get t u hu
 |some d=>
  have:=oZ (N:=N) (ops:= #[{(default:Oper) with dst:=some d}]) (ij:=λ_=>v) [0] s.sl dO (by
   unfold hU;rw[show fz #[{(default:Oper) with dst:=some d}] 0=some d from rfl,fj]
   rfl) t u hu
  rcases this with ⟨j,hj,bg,rfl⟩|⟨_,aA⟩
  ·rw[List.mem_singleton.1 hj] at bg
   rw[aN t bg];exact aD.vt φ u hp
  ·exact ag.get t u aA
theorem Here.O0 [a7] [cV] {N B:Nat} {w0 w:ax} {a:Act} {ops:Array Oper} {ms:List Nat} {A:a8}:∀(dz:List (Nat×J)) (sl dO:aF),Here N {sl,ms,A} B w0 a w->(∀p∈dz,aM p.2=true/\∀t,fz ops p.1=some t->a.tmps.getD t undef=aJ p.2)->uN N ops dz sl=some dO->Here N {sl:=dO,ms,A} B w0 a w
 |[],sl,dO,ah,_,h=>by cases h;exact ah
 |p::r,sl,dO,ah,hp,h=>by
  unfold uN at h;split at h
  ·rename_i s1 aw
   obtain⟨ad,ag⟩:=hp p (by simp);exact Here.O0 r s1 dO (Here.know ah ad ag aw) (λq bf=>hp q (by simp [bf])) h
  ·cases h
theorem agH [cV] {P:aS} {N B:Nat} {w0:ax} {Q:Exit->Act->ax->Prop} {M:Mem} {bs:List J} {Y:Type} {bm:Y->List J} {o:Option b1} {m:Nat} {dz:List (Nat×J)} {R:Nat->dX->cb} {rv:Nat->dX->J} {pr:Nat->Y->dX} {mk:(Nat->dX)->Y} {ef dK:aF} {a1:List bx} {bN:eH}
  (cR:P.follows .mixedOrders=true) (h:(F1 P N m (dz.map (·.1)) o).isSome=true) (fB:(dz.map (·.1)).Nodup)
  (jZ:∀i∈dz.map (·.1),∃op,(gQ o)[i]? =some op/\ @xg (aX M bs) P M B op (rr P N m (dz.map (·.1)) o i) (R i) (rv i))
  (s9:∀ys j,j∈dz.map (·.1)->pr j (mk ys)=ys j) (dg:cr (F7 P N m (dz.map (·.1)) o) ef a1=some bN) (eL:uN N (gQ o) dz ef=some dK) (fD:dz.all (λp=>aM p.2)=true)
  (ca:∀y M' p,p∈dz-> @aJ (aX M' (bm y)) p.2=rv p.1 (pr p.1 y)) (hm:∀y M',fO (aX M bs) (aX M' (bm y)) bN)
  (rest:∀y M',cZ M [] M' (dz.map λp=>R p.1 (pr p.1 y))->∀a6 w,@Here (aX M' (bm y)) _ N {sl:=dK,ms:=[],A:=da a1} B w0 a6 w->wpListIn (Fr none) 0 P (gQ o) (d' P (gC o) Q) (yy m o) a6 w)
  (av:cV.ev<=a1.length:=by first|exact Nat.zero_le _|exact gI rfl) (ar:ix (b9 o).A a1 0:=by exact gW rfl): @fA (aX M bs) _ P N B w0 Q o:=by
 letI:=aX M bs;obtain⟨⟨du,vs,F6⟩,bg⟩:=Option.isSome_iff_exists.1 h;have hd0:=bg;unfold F1 at bg;split at bg
 ·rename_i id ops s ks
  cases af:(uw ops [] m N&&((List.range m).all λi=>match ops[i]? with|some o=>(needs ops m o).all λj=> !(dz.map (·.1)).contains j|none=>false)&&(dz.map (·.1)).all (λj=>Nat.blt j m)) with
  |false=>rw[af] at bg;cases bg
  |true=>
   rw[af,bF] at bg;simp only [c8] at af;obtain⟨⟨hK,O1⟩,fi⟩:=af;have fi:∀j∈dz.map (·.1),j<m:=λj hj=>Nat.blt_eq.mp (List.all_eq_true.1 fi j hj)
   obtain⟨zn,oA,mG,cg,r4,o1,vA⟩:=C6 hK;have O1:∀i o,i<m->ops[i]? =some o->∀j∈needs ops m o,(dz.map (·.1)).contains j=false:=λi o ai ho j hj=>by
    have:=List.all_eq_true.1 O1 i (List.mem_range.2 ai);rw[ho] at this;simpa using List.all_eq_true.1 this j hj
   split at bg
   ·rename_i o6 fq
    split at bg
    ·rename_i cN oj
     split at bg
     ·rename_i F8 Dw
      simp only [cQ,Prod.mk.injEq] at bg;obtain⟨rfl,rfl,rfl⟩:=bg;have O2:∀i o,i<m->ops[i]? =some o->(dz.map (·.1)).contains i=false->∃sl,hU N ops (λj=>(cN.take i).getD j cB) (needs ops m o) o6=some sl/\yx P (dH .nil sl) s.A o=some (cN.getD i cB):=by
       intro i o ai ho aq;have:=(WX _ 0 [] _ rfl oj).2.2 i o (by rw[List.getElem?_take,aY ai];simpa using ho) (by rw[Nat.zero_add];exact aq);simpa using this
      refine⟨_,rfl,λa w ah=> ?_⟩;have bf:Here N s B w0 a {w with drawn:=w.drawn+1}:=ah.quiet ⟨⟨rfl,rfl,rfl,ch _,λ_ _=>rfl⟩,ch _⟩;refine wpIn_region_any cR ?_;have yA:∀i o,M i=some o->({w with drawn:=w.drawn+1}:ax).heap[i]? =some o:=bf.nY;generalize ({w with drawn:=w.drawn+1}:ax)=jc at bf yA;obtain⟨⟨φ,ds,q1,aH,b0,eF,hz⟩,ld,oX⟩:=bf;have w3:∀{o:Oper} {a:Act},o.guard=none->Region.wanted o (yielded ops a.tmps)=true:=λ{o a} aA=>by unfold Region.wanted;rw[aA]
      have xb:∀{w:ax},cj jc.heap.size jc w->∀b e,φ b=some e->w.heap[e.bn]? =jc.heap[e.bn]? :=λ{w} hl b e af=>by
       obtain⟨k,_,_,q⟩:=b0.eE b e af;exact hl.block e.bn (fS.lt q)
      have uA:∀{ys:Nat->dX} {listed:Array Bool} {a:Act} {w:ax},vQ N ds ops m (dz.map (·.1)) cN o6 jc φ R rv ys listed a w->¬(∀i,i<m->listed.getD i false=true)->Region.ready .any ops listed≠[]/\∀i∈Region.ready .any ops listed,i<m/\listed.getD i false=false/\i<ops.size:=by
       intro ys listed a w bh lU;obtain⟨i0,vx⟩:=Classical.not_forall.1 lU;obtain⟨Dc,rh⟩:=Classical.not_imp.1 vx;have rh:listed.getD i0 false=false:=by simpa using rh
       refine⟨?_,λi ai=> ?_⟩
       ·have key:∀n i,i<n->i<m->listed.getD i false=false->∃k,k∈Region.ready .any ops listed:=by
         intro n
         induction n with
         |zero=>intro i ai;omega
         |succ n Fc=>
          intro i ai mH Fe;by_cases hp:∀k,direct ops i k=true->listed.getD k false=true
          ·refine⟨i,mem_ready.2 ⟨by rw[qF (by have:=bh.size;omega)];exact Fe,ops[i]'(by omega),Array.getElem?_eq_getElem _,λe he af=>hp _ ?_⟩⟩
           have ho:ops[i]? =some (ops[i]'(by omega)):=Array.getElem?_eq_getElem _;simp only [direct,ho];exact Array.any_eq_true'.2 ⟨e,he,by simp [af]⟩
          ·obtain⟨k,al⟩:=Classical.not_forall.1 hp
           obtain⟨bg,x7⟩:=Classical.not_imp.1 al;have:=o1 i k aj bg;exact Fc k aj aj (by simpa using x7)
        obtain⟨k,al⟩:=key (i0+1) i0 aj Dc rh;intro h;rw[h] at al;cases al
       ·obtain⟨s8,o,ho,_⟩:=mem_ready.1 ai
        have la:i<ops.size:=(Array.getElem?_eq_some_iff.1 ho).1;have uB:listed.getD i false=false:=by rw[<-qF (by have:=bh.size;omega)];exact s8
        refine⟨?_,uB,la⟩;rcases Nat.lt_or_ge i m with h|h
        ·exact h
        ·exfalso
         rcases vA i i0 la h aj with ⟨x8,_⟩|ha
         ·cases x8
         ·have:=ha listed bh.down (qE ai)
          rw[rh] at this;cases this
      have tail:∀(bq:Nat) (listed:Array Bool) (a:Act) (w:ax) (ys:Nat->dX),vQ N ds ops m (dz.map (·.1)) cN o6 jc φ R rv ys listed a w->ra listed<=bq->(∀i,i<m->listed.getD i false=true)->wpAnyIn (Fr none) 0 P .any ops (d' P ks Q) bq listed a w:=by
       intro bq listed a w ys bh aR lU;refine NA o1 (λi j ai hj ek=>(vA i j ai aj ek).resolve_left aj) bq m listed a w (ch _) bh.size (λi=> ?_) aR ?_
       ·by_cases ai:i<m
        ·rw[lU i ai];simp;omega
        ·rw[bh.sZ i aj];simp;omega
       ·obtain⟨t1,t2⟩:=Wv (B:=B) (M:=M) (S:=λ_=>False) (w:=jc) (w':=w) yA (λ_ h=>h.elim) ⟨bh.low.1.os,bh.low.1.tape,bh.low.1.output⟩ bh.low.size (λi ai _=>bh.low.block i ai)
        have ye:fE N ds φ F8 a:=bh.DL (λj hj=>by
         obtain⟨ad,ag⟩:=List.mem_filter.1 hj
         exact⟨List.mem_range.1 ad,lU j (List.mem_range.1 ad),by simpa using ag,rfl⟩) Dw
        have c0:F7 P N m (dz.map (·.1)) (some (.draw id ops s ks))={s with sl:=F8}:=by
         unfold F7;rw[hd0];rfl
        have lW:Here N (F7 P N m (dz.map (·.1)) (some (.draw id ops s ks))) B w0 a jc:=by
         rw[c0];exact⟨⟨φ,ds,q1,ye,b0,eF,hz⟩,ld,oX⟩
        have hV:=Here.OF (vals':=bm (mk ys)) dg (hm (mk ys) _) t1 av (by rw[c0];exact ar) lW;have j0:cZ M [] (yu B M jc w) (dz.map λp=>R p.1 (pr p.1 (mk ys))):=by
         have mU:∀(i:Nat) (S:cb),(dz.map λp=>R p.1 (pr p.1 (mk ys)))[i]? =some S->∃p,dz[i]? =some p/\S=R p.1 (ys p.1):=λi S ai=>by
          rw[List.getElem?_map] at ai;obtain⟨p,hp,rfl⟩:=Option.map_eq_some_iff.1 ai;exact⟨p,hp,by rw[s9 ys p.1 (List.mem_map.2 ⟨p,List.mem_of_getElem? hp,rfl⟩)]⟩
         have lF:∀{i:Nat} {p:Nat×J},dz[i]? =some p->p.1∈dz.map (·.1):=λ{i p} hp=>List.mem_map.2 ⟨p,List.mem_of_getElem? hp,rfl⟩
         have WY:∀{i:Nat} {p:Nat×J},dz[i]? =some p->(R p.1 (ys p.1)).ok (aE w)/\∀b,(R p.1 (ys p.1)).oF b->jc.heap.size<=b:=λ{i p} hp=>bh.ok p.1 (fi _ (lF hp)) (lU _ (fi _ (lF hp))) (by simpa using List.mem_of_getElem? hp |> λh=>(⟨p.2,h⟩:∃x,(p.1,x)∈dz))
         refine⟨⟨λi S ai=> ?_,λi j S T c1 ai hj b af jL=> ?_⟩,λi o ai _=>t2 i o ai (λh=>h),λb af=> ?_⟩
         ·obtain⟨p,hp,rfl⟩:=mU i S ai
          obtain⟨cS,dy⟩:=WY hp;refine(R p.1 (ys p.1)).loc _ _ (λb o af ho=> ?_) cS;rw[OG (.inr (.inl (dy b af)))];exact ho
         ·obtain⟨p,hp,rfl⟩:=mU i S ai
          obtain⟨hB,hp2,rfl⟩:=mU j T hj;have agI:p.1≠hB.1:=λe=>c1 (by
           have e1:(dz.map (·.1))[i]? =some p.1:=by rw[List.getElem?_map,hp];rfl
           have e2:(dz.map (·.1))[j]? =some p.1:=by rw[List.getElem?_map,hp2,e];rfl
           exact(List.getElem?_inj (List.getElem?_eq_some_iff.1 e1).1 fB).1 (e1.trans e2.symm))
          have hA:(dz.map (·.1)).contains p.1=true:=by simpa using (⟨p.2,List.mem_of_getElem? hp⟩:∃x,(p.1,x)∈dz)
          have c2:(dz.map (·.1)).contains hB.1=true:=by simpa using (⟨hB.2,List.mem_of_getElem? hp2⟩:∃x,(hB.1,x)∈dz)
          exact bh.two p.1 hB.1 (fi _ (lF hp)) (fi _ (lF hp2)) agI (lU _ (fi _ (lF hp))) (lU _ (fi _ (lF hp2))) hA c2 b af jL
         ·obtain⟨i,S,ai,af⟩:=af
          obtain⟨p,hp,rfl⟩:=mU i S ai
          right
          cases Kb:M b with
          |none=>rfl
          |some o=>
           have ad:=(Array.getElem?_eq_some_iff.1 (yA b o Kb)).1;have ag:=(WY hp).2 b af;omega
        have al:∀p∈dz,aM p.2=true/\∀t,fz ops p.1=some t->a.tmps.getD t undef= @aJ (aX (yu B M jc w) (bm (mk ys))) p.2:=λp hp=>⟨List.all_eq_true.1 fD p hp,λt aN=>by
         have lF:p.1∈dz.map (·.1):=List.mem_map.2 ⟨p,hp,rfl⟩;rw[ca (mk ys) _ p hp,s9 ys p.1 lF]
         exact bh.zL p.1 t (fi _ lF) (lU _ (fi _ lF)) (by simpa using (⟨p.2,hp⟩:∃x,(p.1,x)∈dz)) aN⟩
        exact rest (mk ys) _ j0 a w (@Here.O0 (aX (yu B M jc w) (bm (mk ys))) _ N B w0 w a ops [] (da a1) dz ef dK hV al eL)
      have main:∀(bq:Nat) (listed:Array Bool) (a:Act) (w:ax) (ys:Nat->dX),vQ N ds ops m (dz.map (·.1)) cN o6 jc φ R rv ys listed a w->ra listed<=bq->wpAnyIn (Fr none) 0 P .any ops (d' P ks Q) bq listed a w:=by
       intro bq
       induction bq with
       |zero=>
        intro listed a w ys bh aR;refine tail 0 listed a w ys bh aR λi ai=> ?_
        cases h:listed.getD i false with
        |true=>rfl
        |false=>
         exfalso;have:=x3 (i:=i) (listed:=listed) (by have:=bh.size;omega) (by rw[qF (by have:=bh.size;omega)];exact h);omega
       |succ bq cA=>
        intro listed a w ys bh aR;by_cases lU:∀i,i<m->listed.getD i false=true
        ·exact tail (bq+1) listed a w ys bh aR lU
        ·obtain⟨lg,ya⟩:=uA bh lU
         refine⟨λaL=>absurd aL lg,λi ai=> ?_⟩;obtain⟨mH,uB,la⟩:=ya i ai;have ho:ops[i]? =some ops[i]:=Array.getElem?_eq_getElem la;have Vj:=x3 (i:=i) (listed:=listed) (by have:=bh.size;omega) (mem_ready.1 ai).1;have F9:∀{ij:Nat->J} {sl:aF},(∀j,j<i->ij j=cN.getD j cB)->hU N ops ij (needs ops m ops[i]) o6=some sl->fE N ds φ sl a:=λ{ij sl} s3 gK=>bh.DL (λj hj=>by
          have sa:=r4 i _ mH ho j hj;have ek:=o1 i j la sa
          exact⟨aj,qE ai j sa,O1 i _ mH ho j hj,s3 j ek⟩) gK
         unfold wpOpIn;simp only [ho];cases aq:(dz.map (·.1)).contains i with
         |false=>
          obtain⟨sl,gK,aC⟩:=O2 i _ mH ho aq;have ye:=F9 (λj ek=>by simp only [dq,List.getElem?_take,aY ek]) gK;obtain⟨aB,g1,g2,g3,g4⟩:=WW (w2:=w) b0 (xb bh.low) (gU (iG φ) ye.get) aC;rw[aY (w3 g3)];refine⟨λ_ _=>trivial,?_⟩;rw[Oper.semAt_eq _ _ _ g4,g1,Oper.uponIn_value];exact cA _ _ w ys (bh.agF fq mH zn ho aq (qE ai) mG cg g2) aj
         |true=>
          have mU:i∈dz.map (·.1):=by simpa using aq
          obtain⟨op,cz,aA,F'⟩:=jZ i mU;have F_:op=ops[i]:=by
           have e:(gQ (some (.draw id ops s ks)))[i]? =ops[i]? :=rfl;rw[e,ho] at cz;exact(Option.some.inj cz).symm
          subst F_;rw[aY (w3 aA)];refine F' a w _ _ (λx lq=> ?_) (λb o af=> ?_) (Nat.le_trans oX bh.low.size) λy w' cS dy gj=> ?_
          ·cases p9:hU N ops (λj=>cN.getD j cB) (needs ops m ops[i]) o6 with
           |some sl=>
            have e:rr P N m (dz.map (·.1)) (some (.draw id ops s ks)) i=sl:=by
             unfold rr;rw[hd0,show (gQ (some (.draw id ops s ks)))[i]? =some ops[i] from ho];show (match hU N ops (λj=>cN.getD j cB) (needs ops m ops[i]) o6 with|some sl=>sl|none=> .nil)=sl;rw[p9]
            rw[e] at lq ⊢;exact aD.jj _ lq (gU (iG φ) (F9 (λ_ _=>rfl) p9).get x)
           |none=>
            have e:rr P N m (dz.map (·.1)) (some (.draw id ops s ks)) i= .nil:=by
             unfold rr;rw[hd0,show (gQ (some (.draw id ops s ks)))[i]? =some ops[i] from ho];show (match hU N ops (λj=>cN.getD j cB) (needs ops m ops[i]) o6 with|some sl=>sl|none=> .nil)= .nil;rw[p9]
            rw[e] at lq ⊢;exact aD.jj (φ:=φ) _ lq (gU (iG φ) (λt v h=>by cases h) x)
          ·have ad:=yA b o af
           rw[bh.low.block b (Array.getElem?_eq_some_iff.1 ad).1];exact ad
          ·exact cA _ _ w' _ (bh.agG fq mH zn ho aq uB (qE ai) mG cg cS dy gj) aj
      have aR:∀i,(Array.replicate ops.size false).getD i false=false:=λi=>by
       rw[fk,Array.getElem?_replicate];split<;>rfl
      refine main ops.size _ a jc (λ_=>(none,0)) ⟨by simp,λi j ai=>absurd ai (by rw[aR];simp),λi _=>aR i,⟨⟨rfl,rfl,rfl,ch _,λ_ _=>rfl⟩,ch _⟩,aH.defers,aH.size,λt v aC=> ?_,λj t _ hl=>absurd hl (by rw[aR];simp),λj t _ hl=>absurd hl (by rw[aR];simp),λj _ hl=>absurd hl (by rw[aR];simp),λi j _ _ _ hl=>absurd hl (by rw[aR];simp)⟩ ?_
      ·rcases oZ _ _ _ fq t v aC with ⟨j,hj,bg,rfl⟩|⟨_,aA⟩
       ·exact .cB _
       ·exact aH.get t v aA
      ·unfold ra
       exact Nat.le_trans List.count_le_length (by simp)
     ·cases bg
    ·cases bg
   ·cases bg
 ·cases bg
end AE
namespace AE
def Ga (P:aS) (N m:Nat) (ct:List Nat) (o:Option b1) (i:Nat):Option (FuncId×List J):=
 match (gQ o)[i]? with
 |some op=>match op.guard,op.op with
  |none,.call c=>match c.callee with
   | .value (.func f)=>bif enters P f then some (f,c.args.toList.map (dH .nil (rr P N m ct o i))) else none
   |_=>none
  |_,_=>none
 |none=>none
def Kc (P:aS) (N m:Nat) (ct:List Nat) (o:Option b1) (i:Nat):Option (aK×J):=
 match (gQ o)[i]? with
 |some op=>match op.guard,op.op with
  |none,.makeSlice t tn vP=>bif gm (dH .nil (rr P N m ct o i) tn) (dH .nil (rr P N m ct o i) vP) then some (t,dH .nil (rr P N m ct o i) tn) else none
  |_,_=>none
 |none=>none
theorem O3 [a7] {sl:aF} {a:Act} (o2:∀x:Operand,aM (dH .nil sl x)=true->a.eval x=aJ (dH .nil sl x)):∀(l:List Operand),dM (l.map (dH .nil sl))=true->l.map a.eval=ep (l.map (dH .nil sl))
 |[],_=>rfl
 |x::l,h=>by
  simp only [List.map_cons,dM,c8] at h;simp only [List.map_cons,ep];rw[o2 x h.1,O3 o2 l h.2]
theorem xg.arr [a7] {α:Type} {P:aS} {M:Mem} {B N m:Nat} {ct:List Nat} {o:Option b1} {i:Nat} {f:FuncId} {args:List J} {e:aK} {k:Nat} {enc:α->List J} {l:List α} {F:J->J} (h:Ga P N m ct o i=some (f,args)) (hp:dM args=true)
  (fC:∀w,(∀i o,M i=some o->w.heap[i]? =some o)->B<=w.heap.size->Calls P f ⟨ep args⟩ w λe' w'=>(∃a c,e'= .returned (F (.slice a l.length c))/\dw w.heap.size (aE w') e k enc (.slice a l.length c) l)/\cj w.heap.size w w'):
  ∃op,(gQ o)[i]? =some op/\xg P M B op (rr P N m ct o i) (λy=>hr e k enc (.slice y.1 l.length y.2) l) (λy=>F (.slice y.1 l.length y.2)):=by
 unfold Ga at h;split at h
 ·rename_i op cz
  split at h
  ·rename_i c aA vR
   split at h
   ·rename_i iQ pW
    cases he:enters P iQ with
    |false=>rw[he] at h;cases h
    |true=>
     rw[he,bF] at h;simp only [cQ,Prod.mk.injEq] at h;obtain⟨rfl,rfl⟩:=h;refine⟨op,cz,aA,λa w K Q o2 bw cX cC=> ?_⟩;have gM:c.args.map a.eval=⟨ep (c.args.toList.map (dH .nil (rr P N m ct o i)))⟩:=by
      have:=O3 o2 c.args.toList hp;rw[<-this];apply Array.ext';simp
     have fy:(execOp a.eval op).run P w= .ok (.enter iQ ⟨ep (c.args.toList.map (dH .nil (rr P N m ct o i)))⟩) w:=by
      unfold execOp;rw[vR];simp only;refine c9 (a:={target:= .fn (.func iQ) #[],args:= #[]++c.args.map a.eval}) (by unfold resolve;rw[pW];rfl) ?_;simp only [Array.empty_append,gM];show (callFunc iQ (_++ #[])).run P w=_;rw[Array.append_empty];exact jD (E4 he _) w
     have fB:∀c',op.op≠.defer c':=λc' h=>by rw[vR] at h;cases h
     refine⟨λ_ _=>trivial,?_⟩;rw[Oper.semAt_eq _ _ _ fB,fy,Oper.uponIn_enter];refine⟨λh=>absurd h (by simp [Fr,Fence.wide]),?_⟩;refine CallsIn.mono (C3 (fC w bw cX)) λe' w2 he=> ?_
     obtain⟨⟨hf,sm,rfl,cO⟩,hl⟩:=he;exact cC (hf,sm) w2 (sk cO) (λb af=>(cO.known b af).2) hl
   ·cases h
  ·cases h
 ·cases h
theorem xg.WZ [a7] {α:Type} {P:aS} {M:Mem} {B N m:Nat} {ct:List Nat} {o:Option b1} {i:Nat} {t e:aK} {k n bytes:Nat} {Gb:TypeInfo} {z x:J} {enc:α->List J} {zr:α} {l':List α} (gb:l'=List.replicate n zr) (h:Kc P N m ct o i=some (t,x))
  (aN:P.underlying t=some (.slice e)) (ai:P.info? e=some Gb) (bW:Gb.zero=some z) (gN:Gb.size=k) (jY:Gb.bytes=bytes) (qz:z.cells.toList=enc zr) (al:∀x,(enc x).length=k) (aq:aM x=true) (ex:aJ x= .int .i64 (n:Nat)) (agl:n<=1000000) (lR:n*bytes<=140737488355328) (km:n*k<=16777216):
  ∃op,(gQ o)[i]? =some op/\xg P M B op (rr P N m ct o i) (λy=>hr e k enc (.slice y.1 l'.length y.2) l') (λy=> .slice y.1 l'.length y.2):=by
 subst gb;unfold Kc at h;split at h
 ·rename_i op cz
  split at h
  ·rename_i dr tn vP aA vR
   cases heq:gm (dH .nil (rr P N m ct o i) tn) (dH .nil (rr P N m ct o i) vP) with
   |false=>rw[heq] at h;cases h
   |true=>
    rw[heq,bF] at h;have vI:=hM _ _ heq;cases h;refine⟨op,cz,aA,λa w K Q o2 bw cX cC=> ?_⟩;have o4:a.eval tn= .int .i64 (n:Nat):=(o2 tn aq).trans ex;have OT:a.eval vP= .int .i64 (n:Nat):=(o2 vP (by rw[<-vI];exact aq)).trans (by rw[<-vI];exact ex);subst jY;obtain⟨w',g1,g2,g3⟩:=run_makeSlice_full (P:=P) w w.heap.size t e Gb z k aN ai bW gN .i64 .i64 n km (by rw[Nat.mul_comm];omega) (by simp [maxLen];omega) (ch _);have fy:(execOp a.eval op).run P w= .ok (.value (.slice (some ⟨w.heap.size,0,none⟩) n n)) w':=by
     unfold execOp;rw[vR];simp only [o4,OT];show (do pure (Next.value (<-Instr.makeSlice t (.int .i64 (n:Nat)) (.int .i64 (n:Nat)))):Sem Next).run P w=_;simp only [Sem.run_bind,g1,Result.andThen_ok];rfl
    have fB:∀c',op.op≠.defer c':=λc' h=>by rw[vR] at h;cases h
    refine⟨λ_ _=>trivial,?_⟩;rw[Oper.semAt_eq _ _ _ fB,fy,Oper.uponIn_value];rw[WN al qz] at g2;have hlen:(List.replicate n zr).length=n:=mz;have cO:dw w.heap.size (aE w') e k enc (.slice (some ⟨w.heap.size,0,none⟩) (List.replicate n zr).length n) (List.replicate n zr):=dw.Oh (w:=w') (by rw[hlen];exact g2);have:=cC (some ⟨w.heap.size,0,none⟩,n) w' (sk cO) (λb af=>(cO.known b af).2) ⟨⟨g3.os,g3.tape,g3.output,g3.size,λi ai=>g3.block i ai (by simp)⟩,ch _⟩;rw[hlen] at this;exact this
  ·cases h
 ·cases h
theorem O4 {α:Type} {p:α->Prop}:∀x,x∈([]:List α)->p x:=λ_ h=>by cases h
theorem ry {α:Type} {p:α->Prop} {y:α} {l:List α} (h:p y) (hl:∀x,x∈l->p x):∀x,x∈y::l->p x:=λx aq=>by
 rcases List.mem_cons.1 aq with rfl|aq
 ·exact h
 ·exact hl x aq
end AE
namespace AE
def eQ (l:List cW) (cell:Int):cW:=if 0<=cell/\cell<l.length then l.getD cell.toNat default else ([],false,false,false,16,0,0,0)
theorem W0 {l:List cW} {cell:Int} (aL:0<=cell) (ad:cell<l.length):eQ l cell=l.getD cell.toNat default:=by unfold eQ;rw[aY ⟨aL,ad⟩]
theorem Kd {l:List cW} {cell:Int} (h:¬(0<=cell/\cell<l.length)):eQ l cell=([],false,false,false,16,0,0,0):=by unfold eQ;rw[a_ h]
def n8 (l:List cW):Prop:=l.length<=300/\∀x∈l,x.1.length<=60
instance (l:List cW):Decidable (n8 l):=by unfold n8;infer_instance
theorem agJ {l:List cW} {i:Nat} (h:i<l.length):l.getD i default∈l:=by
 rw[dq,gi h];exact List.getElem_mem h
theorem agK {l:List cW} {x:cW} (h:x∈l):∃i,i<l.length/\l.getD i default=x:=by
 obtain⟨i,ai,rfl⟩:=List.mem_iff_getElem.1 h;exact⟨i,ai,by rw[dq,gi ai];rfl⟩
theorem O5 {l:List cW} (h:300<l.length):¬n8 l:=λaR=>by have:=aR.1;omega
theorem O6 {l:List cW} {i:Nat} (ai:i<l.length) (h:60<(l.getD i default).1.length):¬n8 l:=λaR=>by have:=aR.2 _ (agJ ai);omega
theorem O7 {l:List cW} (h:l.length<=300) (ag:∀j,j<l.length->(l.getD j default).1.length<=60):n8 l:=⟨h,λx aq=>by
 obtain⟨i,ai,rfl⟩:=agK aq
 exact ag i ai⟩
end AE
end Go.Proofs.YtepcfjbfkedlpaaDoor
namespace Go.Proofs.YtepcfjbfkedlpaaDoor
section
namespace AE
structure oG where
 N:Nat
 sr:Nat->List (Nat×Int)
 top:Nat->Bool
 aN:Nat->Nat
 ss:∀k n d,k<N->(n,d)∈sr k->n<N
 W1:∀k n d,k<N->(n,d)∈sr k->n≠k
 O8:∀k n d,k<N->(n,d)∈sr k->(k,-d)∈sr n
 W2:∀k n d,k<N->(n,d)∈sr k->0<d->aN n<aN k
 W3:∀k,(sr k).length<=6
def given (fH f:Int) (c:Nat) (up:Bool):Int:=if up=true/\c=3/\fH=15/\f=1 then 15 else max 0 (fH-f)
theorem agL (fH f:Int) (c:Nat) (up:Bool):0<=given fH f c up:=by
 unfold given;split<;>omega
theorem O9 {a b f:Int} (c:Nat) (up:Bool) (h:a<=b) (aR:1<=f):given a f c up<=given b f c up:=by
 unfold given;split
 ·rename_i ad
  obtain⟨ag,ay,bG,cJ⟩:=ad;split
  ·omega
  ·rename_i cU
   have:¬b=15:=λe=>cU ⟨ag,ay,e,cJ⟩
   omega
 ·split
  ·rename_i ad cU
   obtain⟨ag,ay,bG,cJ⟩:=cU;omega
  ·omega
theorem W4 {a f:Int} (c:Nat) (up:Bool) (h:a<=15) (aR:1<=f):given a f c up<=15:=by
 unfold given;split<;>omega
theorem W5 {f:Int} (c:Nat) (up:Bool) (aR:1<=f):given 0 f c up=0:=by
 unfold given;rw[a_ (λh=>by omega)];omega
theorem agM {a f:Int} {c:Nat} {up:Bool} (aR:1<=f) (ha:a<=15) (h:0<given a f c up):given a f c up<a\/(given a f c up=a/\a=15/\up=true):=by
 unfold given at*
 split
 ·rename_i ad
  exact .inr ⟨aj,ad.2.2.1,ad.1⟩
 ·rename_i ad
  rw[a_ ad] at h;omega
structure hs where
 j7:Nat->Int
 emit:Nat->Nat->Int
 b_:Nat->Bool
abbrev mK:=Nat->Nat->Int
variable {G:oG}
def uO (G:oG) (S:hs) (k c:Nat):Int:=if c=3 then (if G.top k=true then given 15 (S.j7 k) 3 true else 0) else S.emit k c
def lJ (G:oG) (S:hs) (k:Nat):List (Nat×Int):=(G.sr k).filter λp=>S.b_ p.1
def rule (G:oG) (S:hs) (L:mK) (k c:Nat):Int:=
 if S.b_ k=true then (lJ G S k).foldl (λa p=>max a (given (L p.1 c) (S.j7 k) c (decide (0<p.2)))) (uO G S k c) else 0
theorem O' {α:Type} (f:α->Int):∀(l:List α) (a v:Int),l.foldl (λa p=>max a (f p)) a<=v↔a<=v/\∀p∈l,f p<=v
 |[],a,v=>by simp
 |x::l,a,v=>by
  rw[List.foldl_cons,O' f l];simp only [List.mem_cons,forall_eq_or_imp];constructor
  ·rintro ⟨ad,ag⟩
   exact⟨aj,aj,ag⟩
  ·rintro ⟨ad,ag,ay⟩
   exact⟨aj,ay⟩
theorem W6 {α:Type} (f:α->Int):∀(l:List α) (a:Int),l.foldl (λa p=>max a (f p)) a=a\/∃p∈l,l.foldl (λa p=>max a (f p)) a=f p
 |[],a=> .inl rfl
 |x::l,a=>by
  rw[List.foldl_cons];rcases W6 f l (max a (f x)) with h|⟨p,hp,h⟩
  ·rw[h]
   rcases Int.le_total a (f x) with ad|ad
   ·exact .inr ⟨x,by simp,aj⟩
   ·exact .inl aj
  ·exact .inr ⟨p,by simp [hp],h⟩
theorem vS {S:hs} {k n:Nat} {d:Int}:(n,d)∈lJ G S k↔(n,d)∈G.sr k/\S.b_ n=true:=by
 unfold lJ;simp [List.mem_filter]
theorem rz {S:hs} {L:mK} {k c:Nat} {v:Int} (aL:0<=v):
  rule G S L k c<=v↔(S.b_ k=true->uO G S k c<=v/\∀n d,(n,d)∈G.sr k->S.b_ n=true->given (L n c) (S.j7 k) c (decide (0<d))<=v):=by
 unfold rule;split
 ·rename_i aw
  rw[O'];constructor
  ·rintro ⟨ad,ag⟩ _
   exact⟨ad,λn d av bg=>ag (n,d) (vS.2 ⟨av,bg⟩)⟩
  ·intro h
   obtain⟨ad,ag⟩:=h aw;exact⟨ad,λp hp=>ag p.1 p.2 (vS.1 hp).1 (vS.1 hp).2⟩
 ·rename_i aw
  exact⟨λ_ h=>absurd h aw,λ_=>aL⟩
structure hs.lr (S:hs) (N:Nat):Prop where
 j7:∀k,k<N->1<=S.j7 k
 emit:∀k c,k<N->c<3->0<=S.emit k c/\S.emit k c<=15
theorem W7 {S:hs} (aI:S.lr G.N) {k c:Nat} (al:k<G.N) (ar:c<4):0<=uO G S k c/\uO G S k c<=15:=by
 unfold uO;split
 ·split
  ·exact⟨agL _ _ _ _,W4 _ _ aj (aI.j7 k al)⟩
  ·omega
 ·exact aI.emit k c al aj
theorem zM {S:hs} (aI:S.lr G.N) {L:mK} {k c:Nat} (al:k<G.N) (ar:c<4):0<=rule G S L k c:=by
 by_cases aw:S.b_ k=true
 ·have ad:=(rz (G:=G) (S:=S) (L:=L) (k:=k) (c:=c) (v:=max 0 (rule G S L k c)) aj).1 aj aw
  have ag:=(W7 aI al ar).1;by_cases ay:0<=rule G S L k c
  ·exact ay
  ·unfold rule at*
   rw[aY aw] at*
   have bG:=(O' (λp:Nat×Int=>given (L p.1 c) (S.j7 k) c (decide (0<p.2))) (lJ G S k) (uO G S k c) _).1 (Int.le_refl _);omega
 ·unfold rule
  rw[a_ aw];exact Int.le_refl _
theorem agN {S:hs} {L:mK} {k c:Nat} (aw:S.b_ k=true):rule G S L k c=uO G S k c\/∃n d,(n,d)∈G.sr k/\S.b_ n=true/\rule G S L k c=given (L n c) (S.j7 k) c (decide (0<d)):=by
 unfold rule;rw[aY aw];rcases W6 (λp:Nat×Int=>given (L p.1 c) (S.j7 k) c (decide (0<p.2))) (lJ G S k) (uO G S k c) with h|⟨p,hp,h⟩
 ·exact .inl h
 ·exact .inr ⟨p.1,p.2,(vS.1 hp).1,(vS.1 hp).2,h⟩
theorem W8 {S:hs} (aI:S.lr G.N) {L:mK} {k c:Nat} (al:k<G.N) (ar:c<4) (hL:∀n,n<G.N->L n c<=15):rule G S L k c<=15:=
 (rz aj).2 λ_=>⟨(W7 aI al ar).2,λn _ av _=>W4 _ _ (hL n (G.ss _ _ _ al av)) (aI.j7 k al)⟩
theorem W9 {S:hs} (aI:S.lr G.N) {L P:mK} {k c:Nat} (al:k<G.N) (ar:c<4) (h:∀n,n<G.N->L n c<=P n c):rule G S L k c<=rule G S P k c:=by
 refine(rz (zM aI al ar)).2 λaw=> ?_
 obtain⟨ad,ag⟩:=(rz (G:=G) (S:=S) (L:=P) (k:=k) (c:=c) (zM aI al ar)).1 (Int.le_refl _) aw;exact⟨ad,λn d av bg=>Int.le_trans (O9 _ _ (h n (G.ss _ _ _ al av)) (aI.j7 k al)) (ag n d av bg)⟩
def Gc (G:oG) (S:hs) (P:mK):Prop:=∀k c,k<G.N->c<4->rule G S P k c<=P k c
structure yB (G:oG) (S:hs) (L:mK):Prop where
 fixed:∀k c,k<G.N->c<4->rule G S L k c=L k c
 least:∀P,Gc G S P->∀k c,k<G.N->c<4->L k c<=P k c
theorem agO {S:hs} (aI:S.lr G.N) {L:mK} (ad:Gc G S L) (ag:∀P,Gc G S P->∀k c,k<G.N->c<4->L k c<=P k c):yB G S L:=by
 refine⟨λk c al ar=>Int.le_antisymm (ad k c al ar) ?_,ag⟩;have hp:Gc G S (rule G S L):=λk c al ar=>W9 aI al ar λn av=>ad n c av ar
 exact ag _ hp k c al ar
structure pE (G:oG) (S:hs) (L:mK) (W:Nat->Prop):Prop where
 low:∀P,Gc G S P->∀k c,k<G.N->c<4->L k c<=P k c
 bound:∀k c,k<G.N->c<4->0<=L k c/\L k c<=15
 done:∀k c,k<G.N->c<4->¬W k->rule G S L k c<=L k c
theorem pE.full {S:hs} (aI:S.lr G.N) {L:mK} {W:Nat->Prop} (h:pE G S L W) (pD:∀k,k<G.N->¬W k):yB G S L:=
 agO aI (λk c al ar=>h.done k c al ar (pD k al)) h.low
theorem yB.up {S:hs} {L:mK} (h:yB G S L) (af:∀k c,k<G.N->c<4->0<=L k c/\L k c<=15) (W:Nat->Prop):pE G S L W:=
 ⟨h.least,af,λk c al ar _=>Int.le_of_eq (h.fixed k c al ar)⟩
theorem pE.zero {S:hs} (aI:S.lr G.N) {W:Nat->Prop} (pD:∀k,k<G.N->W k):pE G S (λ_ _=>0) W where
 low P fq k c al ar:=Int.le_trans (zM aI al ar) (fq k c al ar)
 bound _ _ _ _:=by omega
 done k _ al _ av:=absurd (pD k al) av
def raised (G:oG) (S:hs) (L:mK) (k:Nat):mK:=λm c=>if m=k then max (rule G S L k c) (L k c) else L m c
theorem pE.Ke {S:hs} (aI:S.lr G.N) {L:mK} {W W':Nat->Prop} {k:Nat} (al:k<G.N) (h:pE G S L W)
  (agP:∀m,m≠k->W m->W' m) (agQ:(∃c,c<4/\L k c<rule G S L k c)->∀n d,(n,d)∈G.sr k->S.b_ n=true->W' n):pE G S (raised G S L k) W' where
 low P fq m c hm ar:=by
  unfold raised;split
  ·rename_i e
   subst e;have:=W9 aI (c:=c) (L:=L) (P:=P) hm ar λn av=>h.low P fq n c av ar
   have:=fq m c hm ar;have:=h.low P fq m c hm ar;omega
  ·exact h.low P fq m c hm ar
 bound m c hm ar:=by
  unfold raised;split
  ·rename_i e
   subst e;have ad:=h.bound m c hm ar;have ag:=W8 aI (c:=c) (L:=L) hm ar λn av=>(h.bound n c av ar).2
   omega
  ·exact h.bound m c hm ar
 done m c hm ar av:=by
  by_cases s9:m=k
  ·subst s9
   have ad:rule G S (raised G S L m) m c=rule G S L m c:=by
    have aq:∀n d,(n,d)∈G.sr m->raised G S L m n c=L n c:=λn d fB=>by
     unfold raised;rw[a_ (G.W1 m n d hm fB)]
    refine Int.le_antisymm ?_ ?_
    ·refine(rz (zM aI hm ar)).2 λaw=> ?_
     obtain⟨ad,ag⟩:=(rz (G:=G) (S:=S) (L:=L) (k:=m) (c:=c) (zM aI hm ar)).1 (Int.le_refl _) aw;exact⟨ad,λn d fB bg=>by rw[aq n d fB];exact ag n d fB bg⟩
    ·refine(rz (zM aI hm ar)).2 λaw=> ?_
     obtain⟨ad,ag⟩:=(rz (G:=G) (S:=S) (L:=raised G S L m) (k:=m) (c:=c) (zM aI hm ar)).1 (Int.le_refl _) aw;exact⟨ad,λn d fB bg=>by rw[<-aq n d fB];exact ag n d fB bg⟩
   rw[ad];unfold raised;rw[aY rfl];omega
  ·have O_:¬W m:=λhw=>av (agP m s9 hw)
   have aL:=h.done m c hm ar O_;have ao:raised G S L k m c=L m c:=by unfold raised;rw[a_ s9]
   rw[ao];refine(rz (h.bound m c hm ar).1).2 λaw=> ?_
   obtain⟨ad,ag⟩:=(rz (h.bound m c hm ar).1).1 aL aw;refine⟨ad,λn d fB bg=> ?_⟩;unfold raised;split
   ·rename_i e
    subst e;by_cases Kf:L n c<rule G S L n c
    ·exfalso
     have agR:=G.O8 m n d hm fB;exact av (agQ ⟨c,ar,Kf⟩ m (-d) agR aw)
    ·rw[show max (rule G S L n c) (L n c)=L n c by omega]
     exact ag n d fB bg
   ·exact ag n d fB bg
end AE
namespace AE
abbrev bR:=Int×Int×Int×Int
def cn (x:bR):Nat->Int
 |0=>x.1
 |1=>x.2.1
 |2=>x.2.2.1
 |_=>x.2.2.2
def rA (f:Nat->Int):bR:=(f 0,f 1,f 2,f 3)
theorem iU {f:Nat->Int} {c:Nat} (ar:c<4):cn (rA f) c=f c:=by
 match c,ar with
 |0,_=>rfl
 |1,_=>rfl
 |2,_=>rfl
 |3,_=>rfl
theorem bR.ext' {x y:bR} (h:∀c,c<4->cn x c=cn y c):x=y:=by
 obtain⟨a,b,c,d⟩:=x;obtain⟨a6,b',c',ou⟩:=y;have aL:a=a6:=h 0 cw;have ad:b=b':=h 1 cw;have ag:c=c':=h 2 cw;have ay:d=ou:=h 3 cw;rw[aL,ad,ag,ay]
abbrev z4:bR:=(0,0,0,0)
theorem Gd (c:Nat):cn z4 c=0:=by
 match c with
 |0=>rfl
 |1=>rfl
 |2=>rfl
 |_+3=>rfl
def dI (l:List bR):mK:=λk c=>cn (l.getD k z4) c
theorem W_ {l:List bR} {k m c:Nat} {x:bR} (al:k<l.length):dI (l.set k x) m c=if m=k then cn x c else dI l m c:=by
 unfold dI;rw[dq,dq,List.getElem?_set];by_cases h:k=m
 ·subst h
  rw[aY rfl,aY al,aY rfl];rfl
 ·rw[a_ h,a_ (λe=>h e.symm)]
structure gg where
 aG:List bR
 bJ:List (Nat×bR)
 gone:List Nat
 bz:List Nat
 waits:List Bool
def vT (old x:bR):bR:=rA λc=>if 0<cn old c then 0 else cn x c
def jt (w:gg) (k:Nat) (old:bR):gg:={w with bJ:=w.bJ++[(k,old)],gone:=w.gone++[k],aG:=w.aG.set k (vT old (w.aG.getD k z4))}
def pF (S:hs) (old x:bR) (p:Nat×Int):bR:=rA λc=>if 0<cn old c/\0<cn x c/\cn x c=given (cn old c) (S.j7 p.1) c (decide (p.2<0)) then cn x c else 0
def hi (S:hs) (old:bR) (w:gg) (p:Nat×Int):gg:=if pF S old (w.aG.getD p.1 z4) p=z4 then w else jt w p.1 (pF S old (w.aG.getD p.1 z4) p)
variable {G:oG}
def DO (G:oG) (S:hs) (cc L:mK) (m c:Nat) (rest:List (Nat×Int)):Prop:=∀n d,(n,d)∈G.sr m->S.b_ n=true->(n,d)∈rest\/L n c=0\/L n c≠given (cc m c) (S.j7 n) c (decide (d<0))
structure qb (G:oG) (jG S:hs) (cc:mK) (ez:Nat) (cur:Nat×bR) (rest:List (Nat×Int)) (w:gg):Prop where
 len:w.aG.length=G.N
 full:yB G jG cc
 bound:∀k c,k<G.N->c<4->0<=cc k c/\cc k c<=15
 same:∀n,n≠ez->S.j7 n=jG.j7 n/\(∀c,S.emit n c=jG.emit n c)/\S.b_ n=jG.b_ n
 two:∀k c,k<G.N->c<4->dI w.aG k c=0\/dI w.aG k c=cc k c
 DP:∀c,c<4->dI w.aG ez c=0
 zN:∀m c,m<G.N->c<4->dI w.aG m c≠cc m c->(∃x∈w.bJ,x.1=m/\cn x.2 c=cc m c)\/DO G S cc (dI w.aG) m c []\/(m=cur.1/\cn cur.2 c=cc m c/\DO G S cc (dI w.aG) m c rest)
 lost:∀x∈w.bJ,x.1<G.N
 gone:∀m,m<G.N->((∃c,c<4/\dI w.aG m c≠cc m c)\/m=ez)->m∈w.gone
 DQ:∀m∈w.gone,m<G.N
theorem DO.mono {S:hs} {cc L L':mK} {m c:Nat} {r eo:List (Nat×Int)} (hm:m<G.N) (h:DO G S cc L m c r) (ao:∀p∈r,p∈eo) (hL:∀n,n<G.N->L' n c=0\/L' n c=L n c):DO G S cc L' m c eo:=λn d av aw=>by
 rcases h n d av aw with ad|ad|ad
 ·exact .inl (ao _ ad)
 ·rcases hL n (G.ss _ _ _ hm av) with ag|ag
  ·exact .inr (.inl ag)
  ·exact .inr (.inl (by rw[ag,ad]))
 ·rcases hL n (G.ss _ _ _ hm av) with ag|ag
  ·exact .inr (.inl ag)
  ·exact .inr (.inr (by rw[ag];exact ad))
theorem Pa {w:gg} {k m c:Nat} {old:bR} (al:k<w.aG.length) (ar:c<4):dI (jt w k old).aG m c=if m=k/\0<cn old c then 0 else dI w.aG m c:=by
 unfold jt;rw[W_ al];by_cases h:m=k
 ·subst h
  rw[aY rfl];unfold vT;rw[iU ar];by_cases ag:0<cn old c
  ·rw[aY ag,aY ⟨rfl,ag⟩]
  ·rw[a_ ag,a_ (λh=>ag h.2)]
   rfl
 ·rw[a_ h,a_ (λe=>h e.1)]
theorem qb.step {jG S:hs} {cc:mK} {ez:Nat} {cur:Nat×bR} {p:Nat×Int} {rest:List (Nat×Int)} {w:gg} (BA:cur.1<G.N) (hp:p∈lJ G S cur.1) (h:qb G jG S cc ez cur (p::rest) w):qb G jG S cc ez cur rest (hi S cur.2 w p):=by
 obtain⟨n,d⟩:=p;obtain⟨AJ,AM⟩:=vS.1 hp;have av:n<G.N:=G.ss _ _ _ BA AJ;have jm:n<w.aG.length:=by rw[h.len];exact av
 have uc:∀k c,k<G.N->c<4->0<=dI w.aG k c:=λk c al ar=>by
  rcases h.two k c al ar with e|e
  ·omega
  ·rw[e];exact(h.bound k c al ar).1
 have nU:∀m c,c<4->dI (hi S cur.2 w (n,d)).aG m c=if m=n/\0<cn cur.2 c/\0<dI w.aG n c/\dI w.aG n c=given (cn cur.2 c) (S.j7 n) c (decide (d<0)) then 0 else dI w.aG m c:=λm c ar=>by
  unfold hi;have zO:cn (pF S cur.2 (w.aG.getD n z4) (n,d)) c=if 0<cn cur.2 c/\0<dI w.aG n c/\dI w.aG n c=given (cn cur.2 c) (S.j7 n) c (decide (d<0)) then dI w.aG n c else 0:=by
   unfold pF;rw[iU ar];rfl
  split
  ·rename_i bW
   have jX:cn (pF S cur.2 (w.aG.getD n z4) (n,d)) c=0:=by rw[bW,Gd]
   rw[zO] at jX;split
   ·rename_i ag
    rw[aY ag.2] at jX;rw[ag.1,jX]
   ·rfl
  ·rw[Pa jm ar,zO]
   by_cases ag:0<cn cur.2 c/\0<dI w.aG n c/\dI w.aG n c=given (cn cur.2 c) (S.j7 n) c (decide (d<0))
   ·rw[aY ag]
    by_cases ay:m=n
    ·rw[aY ⟨ay,ag.2.1⟩,aY ⟨ay,ag⟩]
    ·rw[a_ (λe=>ay e.1),a_ (λe=>ay e.1)]
   ·rw[a_ ag,a_ (λe=>by omega),a_ (λe=>ag e.2)]
 have Pb:∀m c,c<4->dI (hi S cur.2 w (n,d)).aG m c=0\/dI (hi S cur.2 w (n,d)).aG m c=dI w.aG m c:=λm c ar=>by
  rw[nU m c ar];split
  ·exact .inl rfl
  ·exact .inr rfl
 have Jg:∀x,x∈w.bJ->x∈(hi S cur.2 w (n,d)).bJ:=λx aq=>by
  unfold hi;split
  ·exact aq
  ·unfold jt
   simp [aq]
 have oj:∀x,x∈w.gone->x∈(hi S cur.2 w (n,d)).gone:=λx aq=>by
  unfold hi;split
  ·exact aq
  ·unfold jt
   simp [aq]
 have gJ:∀c,c<4->dI (hi S cur.2 w (n,d)).aG n c≠dI w.aG n c->n∈(hi S cur.2 w (n,d)).gone/\∃x∈(hi S cur.2 w (n,d)).bJ,x.1=n/\cn x.2 c=dI w.aG n c:=λc ar c1=>by
  rw[nU n c ar] at c1;have agS:0<cn cur.2 c/\0<dI w.aG n c/\dI w.aG n c=given (cn cur.2 c) (S.j7 n) c (decide (d<0)):=by
   by_cases ag:0<cn cur.2 c/\0<dI w.aG n c/\dI w.aG n c=given (cn cur.2 c) (S.j7 n) c (decide (d<0))
   ·exact ag
   ·rw[a_ (λe=>ag e.2)] at c1
    exact absurd rfl c1
  have zO:cn (pF S cur.2 (w.aG.getD n z4) (n,d)) c=dI w.aG n c:=by
   unfold pF;rw[iU ar];exact aY agS
  unfold hi;rw[a_ (λbW=>by rw[bW,Gd] at zO;omega)];unfold jt;exact⟨by simp,(n,pF S cur.2 (w.aG.getD n z4) (n,d)),by simp,rfl,zO⟩
 refine⟨?_,h.full,h.bound,h.same,λk c al ar=> ?_,λc ar=> ?_,λm c hm ar c1=> ?_,λx aq=> ?_,λm hm aq=> ?_,λm aq=> ?_⟩
 ·unfold hi
  split
  ·exact h.len
  ·unfold jt
   simp [h.len]
 ·rcases Pb k c ar with e|e
  ·exact .inl e
  ·rw[e];exact h.two k c al ar
 ·rcases Pb ez c ar with e|e
  ·exact e
  ·rw[e];exact h.DP c ar
 ·by_cases hold:dI w.aG m c=cc m c
  ·have Kg:m=n:=by
    have:=nU m c ar;by_cases aq:m=n
    ·exact aq
    ·rw[a_ (λe=>aq e.1)] at this
     exact absurd (this.trans hold) c1
   subst Kg;obtain⟨_,x,su,iH,Pc⟩:=gJ c ar (λe=>c1 (e.trans hold));exact .inl ⟨x,su,iH,Pc.trans hold⟩
  ·have hL:∀q,q<G.N->dI (hi S cur.2 w (n,d)).aG q c=0\/dI (hi S cur.2 w (n,d)).aG q c=dI w.aG q c:=λq _=>Pb q c ar
   rcases h.zN m c hm ar hold with ⟨x,su,iH⟩|aq|⟨rfl,iH,Pc⟩
   ·exact .inl ⟨x,Jg x su,iH⟩
   ·exact .inr (.inl (aq.mono hm (λ_ h=>h) hL))
   ·refine .inr (.inr ⟨rfl,iH,λq e bf agT=> ?_⟩)
    rcases Pc q e bf agT with ad|ad|ad
    ·rcases List.mem_cons.1 ad with ag|ag
     ·obtain⟨rfl,rfl⟩:=Prod.mk.inj ag
      rw[nU q c ar];have af:=h.two cur.1 c BA ar;have Kh:0<cc cur.1 c:=by
       have:=(h.bound cur.1 c BA ar).1;rcases af with e1|e1
       ·rw[e1] at hold;omega
       ·exact absurd e1 hold
      have Ki:=uc q c av ar;by_cases ay:dI w.aG q c=0
      ·right;left
       rw[ay,a_ (λe=>by omega)]
      ·by_cases bG:dI w.aG q c=given (cc cur.1 c) (S.j7 q) c (decide (e<0))
       ·right;left
        rw[aY ⟨rfl,aj,aj,by rw[iH];exact bG⟩]
       ·right;right
        rw[a_ (λe1=>bG (by rw[<-iH];exact e1.2.2.2))];exact bG
     ·exact .inl ag
    ·rcases hL q (G.ss _ _ _ BA bf) with ag|ag
     ·exact .inr (.inl ag)
     ·exact .inr (.inl (by rw[ag,ad]))
    ·rcases hL q (G.ss _ _ _ BA bf) with ag|ag
     ·exact .inr (.inl ag)
     ·exact .inr (.inr (by rw[ag];exact ad))
 ·unfold hi at aq
  split at aq
  ·exact h.lost x aq
  ·unfold jt at aq
   rcases List.mem_append.1 aq with ad|ad
   ·exact h.lost x ad
   ·rw[List.mem_singleton.1 ad]
    exact av
 ·by_cases hold:∃c,c<4/\dI w.aG m c≠cc m c
  ·exact oj m (h.gone m hm (.inl hold))
  ·rcases aq with ⟨c,ar,c1⟩|aq
   ·have Xa:dI w.aG m c=cc m c:=Classical.byContradiction λe=>hold ⟨c,ar,e⟩
    have Kg:m=n:=by
     have:=nU m c ar;by_cases aq:m=n
     ·exact aq
     ·rw[a_ (λe=>aq e.1)] at this
      exact absurd (this.trans Xa) c1
    subst Kg;exact(gJ c ar (λe=>c1 (e.trans Xa))).1
   ·exact oj m (h.gone m hm (.inr aq))
 ·unfold hi at aq
  split at aq
  ·exact h.DQ m aq
  ·unfold jt at aq
   rcases List.mem_append.1 aq with ad|ad
   ·exact h.DQ m ad
   ·rw[List.mem_singleton.1 ad]
    exact av
theorem qb.steps {jG S:hs} {cc:mK} {ez:Nat} {cur:Nat×bR} (BA:cur.1<G.N):∀(l:List (Nat×Int)) (w:gg),(∀p∈l,p∈lJ G S cur.1)->qb G jG S cc ez cur l w->qb G jG S cc ez cur [] (l.foldl (hi S cur.2) w):=by
 intro l
 induction l with
 |nil=>exact λ_ _ h=>h
 |cons p l cA=>exact λw hl h=>cA _ (λq bf=>hl q (by simp [bf])) (h.step BA (hl _ (by simp)))
theorem qb.take {jG S:hs} {cc:mK} {ez:Nat} {cur:Nat×bR} {w:gg} {x:Nat×bR} {r:List (Nat×bR)} (h:qb G jG S cc ez cur [] w) (aq:w.bJ=x::r):qb G jG S cc ez x (lJ G S x.1) {w with bJ:=r} where
 len:=h.len
 full:=h.full
 bound:=h.bound
 same:=h.same
 two:=h.two
 DP:=h.DP
 zN m c hm ar c1:=by
  rcases h.zN m c hm ar c1 with ⟨y,Kj,Pd,Xb⟩|bE|⟨_,_,bE⟩
  ·rw[aq] at Kj
   rcases List.mem_cons.1 Kj with rfl|Kj
   ·exact .inr (.inr ⟨Pd.symm,Xb,λn d av bg=> .inl (vS.2 ⟨Pd▸av,bg⟩)⟩)
   ·exact .inl ⟨y,Kj,Pd,Xb⟩
  ·exact .inr (.inl bE)
  ·exact .inr (.inl bE)
 lost y bE:=h.lost y (by rw[aq];simp [show y∈r from bE])
 gone:=h.gone
 DQ:=h.DQ
theorem qb.up {jG S:hs} (zP:jG.lr G.N) (aI:S.lr G.N) {cc:mK} {ez:Nat} {cur:Nat×bR} {w:gg} (h:qb G jG S cc ez cur [] w) (aq:w.bJ=[]) {W:Nat->Prop} (pD:∀m∈w.gone,W m):pE G S (dI w.aG) W:=by
 have af:∀k c,k<G.N->c<4->0<=dI w.aG k c/\dI w.aG k c<=15:=λk c al ar=>by
  rcases h.two k c al ar with e|e
  ·omega
  ·rw[e];exact h.bound k c al ar
 have agU:∀m c,m<G.N->c<4->dI w.aG m c≠cc m c->DO G S cc (dI w.aG) m c []:=λm c hm ar c1=>by
  rcases h.zN m c hm ar c1 with ⟨y,bE,_⟩|bE|⟨_,_,bE⟩
  ·rw[aq] at bE
   cases bE
  ·exact bE
  ·exact bE
 have xb:∀k c,k≠ez->uO G S k c=uO G jG k c:=λk c al=>by
  unfold uO;rw[(h.same k al).1,(h.same k al).2.1]
 refine⟨λP fq=> ?_,af,λn c av ar O_=> ?_⟩
 ·have Pe:∀k c,k<G.N->c<4->0<=P k c:=λk c al ar=>Int.le_trans (zM aI al ar) (fq k c al ar)
  have main:∀(a b:Nat) (k c:Nat),k<G.N->c<4->(15-cc k c).toNat<=a->G.aN k<=b->dI w.aG k c<=P k c:=by
   intro a
   induction a using Nat.strongRecOn with
   |_ a agV=>
    intro b
    induction b using Nat.strongRecOn with
    |_ b agW=>
     intro k c al ar ha DR;rcases h.two k c al ar with e|e
     ·rw[e];exact Pe k c al ar
     by_cases bW:cc k c=0
     ·rw[e,bW];exact Pe k c al ar
     have h1:k≠ez:=λOE=>by
      have:=h.DP c ar;rw[<-OE] at this;omega
     have uc:0<cc k c:=by have:=(h.bound k c al ar).1;omega
     have DS:=h.full.fixed k c al ar;have Xc:jG.b_ k=true:=Classical.byContradiction λav=>by
      unfold rule at DS;rw[a_ av] at DS;omega
     have AM:S.b_ k=true:=by rw[(h.same k h1).2.2];exact Xc
     have Xd:=(rz (Pe k c al ar)).1 (fq k c al ar) AM;rcases agN (G:=G) (S:=jG) (L:=cc) (c:=c) Xc with ad|⟨m,d,hm,vE,ad⟩
     ·rw[e,<-DS,ad,<-xb k c h1]
      exact Xd.1
     ·have zQ:=G.ss _ _ _ al hm
      have w5:cc k c=given (cc m c) (jG.j7 k) c (decide (0<d)):=by rw[<-DS,ad]
      have Xe:dI w.aG m c=cc m c:=Classical.byContradiction λc1=>by
       rcases agU m c zQ ar c1 k (-d) (G.O8 _ _ _ al hm) AM with ag|ag|ag
       ·cases ag
       ·omega
       ·apply ag
        rw[e,w5,(h.same k h1).1];congr 1;simp
      have DM:m≠ez:=λem=>by
       have ag:=h.DP c ar;rw[<-em,Xe] at ag;rw[ag,W5 _ _ (zP.j7 k al)] at w5;omega
      have agX:S.b_ m=true:=by rw[(h.same m DM).2.2];exact vE
      have NH:cc m c<=P m c:=by
       rw[<-Xe];rcases agM (c:=c) (up:=decide (0<d)) (zP.j7 k al) (h.bound m c zQ ar).2 (by rw[<-w5];exact uc) with ag|⟨ag,ay,bG⟩
       ·rw[<-w5] at ag
        have:=(h.bound m c zQ ar).2;exact agV ((15-cc m c).toNat) aj (G.aN m) m c zQ ar (ch _) (ch _)
       ·rw[<-w5] at ag
        exact agW (G.aN m) (Nat.lt_of_lt_of_le (G.W2 _ _ _ al hm (by simpa using bG)) DR) m c zQ ar (by rw[<-ag];exact ha) (ch _)
      have cJ:=Xd.2 m d hm agX;have cU:=O9 c (decide (0<d)) NH (aI.j7 k al);rw[e,w5,<-(h.same k h1).1];exact Int.le_trans cU cJ
  exact λk c al ar=>main _ _ k c al ar (ch _) (ch _)
 ·have Xf:n∉w.gone:=λaA=>O_ (pD n aA)
  have Kk:n≠ez:=λe=>Xf (h.gone n av (.inr e))
  have agY:dI w.aG n c=cc n c:=Classical.byContradiction λe=>Xf (h.gone n av (.inl ⟨c,ar,e⟩))
  have DS:=h.full.fixed n c av ar;rw[agY];have hle:=(rz (h.bound n c av ar).1).1 (Int.le_of_eq DS);refine(rz (h.bound n c av ar).1).2 λaw=> ?_
  obtain⟨ad,ag⟩:=hle (by rw[<-(h.same n Kk).2.2];exact aw);refine⟨by rw[xb n c Kk];exact ad,λm d hm vE=> ?_⟩;have zQ:=G.ss _ _ _ av hm;rw[(h.same n Kk).1];by_cases DM:m=ez
  ·rw[DM,h.DP c ar,W5 _ _ (zP.j7 n av)]
   exact(h.bound n c av ar).1
  ·have:=ag m d hm (by rw[<-(h.same m DM).2.2];exact vE)
   refine Int.le_trans (O9 _ _ ?_ (zP.j7 n av)) this;rcases h.two m c zQ ar with e|e
   ·rw[e];exact(h.bound m c zQ ar).1
   ·rw[e];exact Int.le_refl _
theorem qb.begin {jG S:hs} {ez:Nat} {w:gg} {cur:Nat×bR} (al:ez<G.N) (hlen:w.aG.length=G.N) (aR:yB G jG (dI w.aG)) (af:∀k c,k<G.N->c<4->0<=dI w.aG k c/\dI w.aG k c<=15) (xQ:∀n,n≠ez->S.j7 n=jG.j7 n/\(∀c,S.emit n c=jG.emit n c)/\S.b_ n=jG.b_ n) (hl:w.bJ=[]) (aA:w.gone=[]):
  qb G jG S (dI w.aG) ez cur [] (jt w ez (w.aG.getD ez z4)):=by
 have ng:ez<w.aG.length:=by rw[hlen];exact al
 have nU:∀m c,c<4->dI (jt w ez (w.aG.getD ez z4)).aG m c=if m=ez/\0<dI w.aG ez c then 0 else dI w.aG m c:=λm c ar=>Pa ng ar
 refine⟨?_,aR,af,xQ,λk c al ar=> ?_,λc ar=> ?_,λm c hm ar c1=> ?_,λx aq=> ?_,λm hm aq=> ?_,λm aq=> ?_⟩
 ·unfold jt
  simp [hlen]
 ·rw[nU k c ar]
  split
  ·exact .inl rfl
  ·exact .inr rfl
 ·rw[nU ez c ar]
  have:=(af ez c al ar).1;split
  ·rfl
  ·rename_i ad
   have:¬0<dI w.aG ez c:=λag=>ad ⟨rfl,ag⟩
   omega
 ·rw[nU m c ar] at c1
  have ad:m=ez/\0<dI w.aG ez c:=Classical.byContradiction λad=>by
   rw[a_ ad] at c1;exact c1 rfl
  refine .inl ⟨(ez,w.aG.getD ez z4),?_,ad.1.symm,by rw[ad.1];rfl⟩;unfold jt;simp
 ·unfold jt at aq
  rw[hl] at aq;rw[List.mem_singleton.1 aq];exact al
 ·have:m=ez:=by
   rcases aq with ⟨c,ar,c1⟩|aq
   ·rw[nU m c ar] at c1
    exact Classical.byContradiction λad=>by
     rw[a_ (λh=>ad h.1)] at c1;exact c1 rfl
   ·exact aq
  rw[this];unfold jt;simp
 ·unfold jt at aq
  rw[aA] at aq;rw[List.mem_singleton.1 aq];exact al
end AE
namespace AE
variable {G:oG}
def jd (w:gg) (k:Nat):gg:=if w.waits.getD k false=true then w else {w with bz:=w.bz++[k],waits:=w.waits.set k true}
def hW (G:oG) (S:hs) (w:gg) (x:Nat×bR) (r:List (Nat×bR)):gg:=(lJ G S x.1).foldl (hi S x.2) {w with bJ:=r}
def Ge (w:gg):gg:=if w.bJ=[] then {w.gone.foldl jd w with gone:=[]} else w
def pG (G:oG) (S:hs) (w:gg) (k:Nat):bR:=rA (rule G S (dI w.aG) k)
def tq (x y:bR):bR:=rA λc=>max (cn x c) (cn y c)
def zR (x y:bR):Bool:=decide (cn y 0<cn x 0)||decide (cn y 1<cn x 1)||decide (cn y 2<cn x 2)||decide (cn y 3<cn x 3)
def Gf (G:oG) (S:hs) (w:gg) (k:Nat) (r:List Nat):gg:=
 let w1:gg:={w with bz:=r,waits:=w.waits.set k false,aG:=w.aG.set k (tq (pG G S w k) (w.aG.getD k z4))}
 if zR (pG G S w k) (w.aG.getD k z4)=true then (lJ G S k).foldl (λw p=>jd w p.1) w1 else w1
def sv (G:oG) (S:hs) (w:gg):Option gg:=
 match w.bJ with
 |x::r=>some (Ge (hW G S w x r))
 |[]=>match w.bz with
  |k::r=>some (Gf G S w k r)
  |[]=>none
def l0 (f:bR->Nat) (l:List bR):Nat:=(l.map f).sum
theorem Pf {f:bR->Nat}:∀{l:List bR} {k:Nat} {y:bR},k<l.length->l0 f (l.set k y)+f (l.getD k z4)=l0 f l+f y
 |[],_,_,h=>absurd h (Nat.not_lt_zero _)
 |x::l,0,y,_=>by simp [l0];omega
 |x::l,k+1,y,h=>by
  have:=Pf (f:=f) (l:=l) (k:=k) (y:=y) (by simpa using h);simp only [l0,List.set_cons_succ,List.map_cons,List.sum_cons,List.getD_cons_succ] at*
  omega
theorem Pg {f:bR->Nat} {b:Nat}:∀{l:List bR},(∀x∈l,f x<=b)->l0 f l<=b*l.length
 |[],_=>by simp [l0]
 |x::l,h=>by
  have:=Pg (f:=f) (b:=b) (l:=l) (λy bE=>h y (by simp [bE]));have:=h x (by simp);simp only [l0,List.map_cons,List.sum_cons,List.length_cons,Nat.mul_add] at*
  omega
def sw (x:bR):Nat:=(15-x.1).toNat+(15-x.2.1).toNat+(15-x.2.2.1).toNat+(15-x.2.2.2).toNat
def o7 (x:bR):Nat:=(if 0<x.1 then 1 else 0)+(if 0<x.2.1 then 1 else 0)+(if 0<x.2.2.1 then 1 else 0)+(if 0<x.2.2.2 then 1 else 0)
theorem agZ (x:bR):o7 x<=4:=by
 unfold o7
 (repeat' split)<;>omega
def qN (N:Nat):Nat:=365*N+2
def mL (N:Nat) (w:gg):Nat:=if w.bJ=[] then w.bz.length+6*l0 sw w.aG else w.bJ.length+l0 o7 w.aG+361*N
structure vU (N:Nat) (w:gg):Prop where
 len:w.waits.length=N
 nodup:w.bz.Nodup
 lt:∀k∈w.bz,k<N
 is:∀k,k<N->(w.waits.getD k false=true↔k∈w.bz)
theorem Gg {α:Type} {l:List α} {k m:Nat} {x d:α} (al:k<l.length):(l.set k x).getD m d=if m=k then x else l.getD m d:=by
 rw[dq,dq,List.getElem?_set];by_cases h:k=m
 ·subst h
  rw[aY rfl,aY al,aY rfl];rfl
 ·rw[a_ h,a_ (λe=>h e.symm)]
theorem vU.Ke {N:Nat} {w:gg} {k:Nat} (al:k<N) (h:vU N w):vU N (jd w k):=by
 unfold jd;split
 ·exact h
 ·rename_i av
  have gX:k∉w.bz:=λhm=>av ((h.is k al).2 hm)
  refine⟨by simp [h.len],?_,λm hm=> ?_,λm hm=> ?_⟩
  ·show (w.bz++[k]).Nodup
   rw[List.nodup_append];exact⟨h.nodup,by simp,λa ha b af e=>by
    rw[List.mem_singleton.1 af] at e
    exact gX (e▸ha)⟩
  ·rcases List.mem_append.1 hm with ad|ad
   ·exact h.lt m ad
   ·rw[List.mem_singleton.1 ad];exact al
  ·show (w.waits.set k true).getD m false=true↔m∈w.bz++[k]
   rw[Gg (by rw[h.len];exact al)];by_cases e:m=k
   ·rw[aY e]
    simp [e]
   ·rw[a_ e,h.is m hm]
    simp [e]
theorem ag0 (w:gg) (k:Nat):(jd w k).aG=w.aG/\(jd w k).bJ=w.bJ/\(jd w k).gone=w.gone:=by
 unfold jd;split<;>exact⟨rfl,rfl,rfl⟩
theorem ag1 (w:gg) (k m:Nat) (h:m∈w.bz):m∈(jd w k).bz:=by
 unfold jd;split
 ·exact h
 ·simp [h]
theorem ag2 {N:Nat} {w:gg} {k:Nat} (h:vU N w) (al:k<N):k∈(jd w k).bz:=by
 unfold jd;split
 ·rename_i ad
  exact(h.is k al).1 ad
 ·simp
theorem ag3 (w:gg) (k:Nat):(jd w k).bz.length<=w.bz.length+1:=by
 unfold jd;split
 ·omega
 ·simp
theorem Xg {N:Nat} {α:Type} (f:α->Nat):∀(l:List α) (w:gg),(∀p∈l,f p<N)->vU N w->
  let w':=l.foldl (λw p=>jd w (f p)) w
  vU N w'/\w'.aG=w.aG/\w'.bJ=w.bJ/\w'.gone=w.gone/\(∀m∈w.bz,m∈w'.bz)/\(∀p∈l,f p∈w'.bz)/\w'.bz.length<=w.bz.length+l.length:=by
 intro l
 induction l with
 |nil=>exact λw _ h=>⟨h,rfl,rfl,rfl,λ_ h=>h,λ_ h=>(by cases h),ch _⟩
 |cons p l cA=>
  intro w hl h;have hp:=hl p (by simp);obtain⟨ad,ag,ay,bG,cJ,cU,fR⟩:=cA (jd w (f p)) (λq bf=>hl q (by simp [bf])) (h.Ke hp);obtain⟨g1,g2,g3⟩:=ag0 w (f p);refine⟨ad,ag.trans g1,ay.trans g2,bG.trans g3,λm hm=>cJ m (ag1 w (f p) m hm),λq bf=> ?_,?_⟩
  ·rcases List.mem_cons.1 bf with rfl|bf
   ·exact cJ _ (ag2 h hp)
   ·exact cU q bf
  ·have:=ag3 w (f p)
   simp only [List.length_cons,List.foldl_cons] at*
   omega
theorem ag4 {N:Nat}:∀{l:List Nat},l.Nodup->(∀k∈l,k<N)->l.length<=N:=by
 induction N with
 |zero=>
  intro l _ h
  match l with
  |[]=>simp
  |x::_=>exact absurd (h x (by simp)) (Nat.not_lt_zero _)
 |succ N cA=>
  intro l av h;have ad:(l.erase N).length<=N:=cA (av.erase N) λk al=>by
   have nE:=h k (List.mem_of_mem_erase al);have oo:k≠N:=λe=>by
    rw[e] at al;exact(List.Nodup.not_mem_erase av) al
   omega
  have ag:l.length<=(l.erase N).length+1:=by
   rw[List.length_erase];split<;>omega
  omega
theorem vU.count {N:Nat} {w:gg} (h:vU N w):w.bz.length<=N:=ag4 h.nodup h.lt
structure qO (G:oG) (S:hs) (w:gg):Prop where
 len:w.aG.length=G.N
 wait:vU G.N w
 up:w.bJ=[]->w.gone=[]/\pE G S (dI w.aG) (· ∈w.bz)
 down:w.bJ≠[]->w.bz=[]/\∃jG cc ez cur,jG.lr G.N/\qb G jG S cc ez cur [] w
theorem qO.bound {S:hs} {w:gg} (h:qO G S w):∀k c,k<G.N->c<4->0<=dI w.aG k c/\dI w.aG k c<=15:=λk c al ar=>by
 by_cases hl:w.bJ=[]
 ·exact(h.up hl).2.bound k c al ar
 ·obtain⟨_,jG,cc,ez,cur,_,bg⟩:=h.down hl
  rcases bg.two k c al ar with e|e
  ·omega
  ·rw[e];exact bg.bound k c al ar
theorem Xh {S:hs} {w:gg} (h:qO G S w):l0 sw w.aG<=60*G.N:=by
 have:=Pg (f:=sw) (b:=60) (l:=w.aG) λx aq=>by
  obtain⟨k,al,rfl⟩:=List.mem_iff_getElem.1 aq;have nM:k<G.N:=by rw[<-h.len];exact al
  have af:=λc (ar:c<4)=>h.bound k c nM ar
  have he:w.aG.getD k z4=w.aG[k]:=by rw[dq,gi al];rfl
  have aL:=af 0 cw;have ad:=af 1 cw;have ag:=af 2 cw;have ay:=af 3 cw;unfold dI at aL ad ag ay;rw[he] at aL ad ag ay;simp only [cn] at aL ad ag ay;unfold sw;omega
 rw[h.len] at this;exact this
theorem Gh (w:gg):l0 o7 w.aG<=4*w.aG.length:=Pg λx _=>agZ x
theorem ag5 {S:hs} {old:bR} {w:gg} {p:Nat×Int} (hp:p.1<w.aG.length):(hi S old w p).bJ.length+l0 o7 (hi S old w p).aG<=w.bJ.length+l0 o7 w.aG/\(hi S old w p).aG.length=w.aG.length/\(hi S old w p).bz=w.bz/\(hi S old w p).waits=w.waits:=by
 unfold hi;split
 ·exact⟨ch _,rfl,rfl,rfl⟩
 ·rename_i c1
  refine⟨?_,by simp [jt],rfl,rfl⟩;unfold jt;have aw:=Pf (f:=o7) (y:=vT (pF S old (w.aG.getD p.1 z4) p) (w.aG.getD p.1 z4)) hp;have cg:o7 (vT (pF S old (w.aG.getD p.1 z4) p) (w.aG.getD p.1 z4))+1<=o7 (w.aG.getD p.1 z4):=by
   have bW:¬∀c,c<4->cn (pF S old (w.aG.getD p.1 z4) p) c=0:=λh=>c1 (bR.ext' λc ar=>by rw[h c ar,Gd])
   have aq:∀c,c<4->cn (pF S old (w.aG.getD p.1 z4) p) c=0\/(0<cn (w.aG.getD p.1 z4) c/\cn (pF S old (w.aG.getD p.1 z4) p) c=cn (w.aG.getD p.1 z4) c):=λc ar=>by
    unfold pF;rw[iU ar];split
    ·rename_i h
     exact .inr ⟨h.2.1,rfl⟩
    ·exact .inl rfl
   generalize pF S old (w.aG.getD p.1 z4) p=o at bW aq ⊢;generalize w.aG.getD p.1 z4=x at aq ⊢;have aL:=aq 0 cw;have ad:=aq 1 cw;have ag:=aq 2 cw;have ay:=aq 3 cw;have J5:¬(cn o 0=0/\cn o 1=0/\cn o 2=0/\cn o 3=0):=λ⟨a,b,c,d⟩=>bW λk al=>by
    match k,al with
    |0,_=>exact a
    |1,_=>exact b
    |2,_=>exact c
    |3,_=>exact d
   unfold vT o7 rA;simp only [cn] at*
   repeat' split
   all_goals omega
  simp only [List.length_append,List.length_cons,List.length_nil];omega
theorem Xi {S:hs} {old:bR}:∀(l:List (Nat×Int)) (w:gg),(∀p∈l,p.1<w.aG.length)->
  let w':=l.foldl (hi S old) w
  w'.bJ.length+l0 o7 w'.aG<=w.bJ.length+l0 o7 w.aG/\w'.aG.length=w.aG.length/\w'.bz=w.bz/\w'.waits=w.waits:=by
 intro l
 induction l with
 |nil=>exact λw _=>⟨ch _,rfl,rfl,rfl⟩
 |cons p l cA=>
  intro w hl;obtain⟨g1,g2,g3,g4⟩:=ag5 (S:=S) (old:=old) (w:=w) (hl p (by simp));obtain⟨ad,ag,ay,bG⟩:=cA (hi S old w p) (λq bf=>by rw[g2];exact hl q (by simp [bf]));exact⟨Nat.le_trans ad g1,ag.trans g2,ay.trans g3,bG.trans g4⟩
theorem ag6 {x y:bR}:zR x y=true↔∃c,c<4/\cn y c<cn x c:=by
 unfold zR;simp only [Bool.or_eq_true,decide_eq_true_eq];constructor
 ·rintro (((h|h)|h)|h)
  ·exact⟨0,cw,h⟩
  ·exact⟨1,cw,h⟩
  ·exact⟨2,cw,h⟩
  ·exact⟨3,cw,h⟩
 ·rintro ⟨c,ar,h⟩
  match c,ar with
  |0,_=>exact .inl (.inl (.inl h))
  |1,_=>exact .inl (.inl (.inr h))
  |2,_=>exact .inl (.inr h)
  |3,_=>exact .inr h
theorem pE.weaken {S:hs} {L L':mK} {W W':Nat->Prop} (h:pE G S L W) (hL:∀k c,k<G.N->c<4->L' k c=L k c) (pD:∀m,W m->W' m):pE G S L' W' where
 low P fq k c al ar:=by rw[hL k c al ar];exact h.low P fq k c al ar
 bound k c al ar:=by rw[hL k c al ar];exact h.bound k c al ar
 done k c al ar av:=by
  rw[hL k c al ar];have aL:=h.done k c al ar (λhw=>av (pD k hw));refine(rz (h.bound k c al ar).1).2 λaw=> ?_
  obtain⟨ad,ag⟩:=(rz (h.bound k c al ar).1).1 aL aw;exact⟨ad,λn d fB bg=>by rw[hL n c (G.ss _ _ _ al fB) ar];exact ag n d fB bg⟩
theorem qO.unit {S:hs} (aI:S.lr G.N) {w w':gg} (h:qO G S w) (hu:sv G S w=some w'):qO G S w'/\mL G.N w'+1<=mL G.N w:=by
 unfold sv at hu;split at hu
 ·rename_i x r aq
  cases hu;have c1:w.bJ≠[]:=by rw[aq];simp
  obtain⟨aA,jG,cc,ez,cur,zP,bg⟩:=h.down c1;have su:x.1<G.N:=bg.lost x (by rw[aq];simp);have cg:∀p∈lJ G S x.1,p.1<G.N:=λp hp=>G.ss _ p.1 p.2 su (vS.1 hp).1
  have ht:=qb.steps su _ _ (λp hp=>hp) (bg.take aq);obtain⟨hp1,hp2,hp3,qc⟩:=Xi (S:=S) (old:=x.2) (lJ G S x.1) {w with bJ:=r} (λp hp=>by rw[show ({w with bJ:=r}:gg).aG=w.aG from rfl,h.len];exact cg p hp)
  change qb G jG S cc ez x [] (hW G S w x r) at ht
  change (hW G S w x r).bJ.length+l0 o7 (hW G S w x r).aG<=r.length+l0 o7 w.aG at hp1
  change (hW G S w x r).bz=w.bz at hp3
  change (hW G S w x r).waits=w.waits at qc
  have Gi:vU G.N (hW G S w x r):=⟨by rw[qc];exact h.wait.len,by rw[hp3];exact h.wait.nodup,by rw[hp3];exact h.wait.lt,by rw[hp3,qc];exact h.wait.is⟩;have Gj:mL G.N w=r.length+1+l0 o7 w.aG+361*G.N:=by
   unfold mL;rw[a_ c1,aq];rfl
  unfold Ge;split
  ·rename_i he
   obtain⟨g1,g2,g3,g4,lb,g6,g7⟩:=Xg (N:=G.N) (λk=>k) (hW G S w x r).gone (hW G S w x r) (λk al=>ht.DQ k al) Gi;have uL:pE G S (dI (hW G S w x r).aG) (· ∈((hW G S w x r).gone.foldl jd (hW G S w x r)).bz):=ht.up zP aI he λm hm=>g6 m hm
   have Ph:qO G S {(hW G S w x r).gone.foldl jd (hW G S w x r) with gone:=[]}:=by
    refine⟨by show ((hW G S w x r).gone.foldl jd (hW G S w x r)).aG.length=_;rw[g2];exact ht.len,⟨g1.len,g1.nodup,g1.lt,g1.is⟩,λ_=>⟨rfl,?_⟩,λav=>absurd (g3.trans he) av⟩;show pE G S (dI ((hW G S w x r).gone.foldl jd (hW G S w x r)).aG) _;rw[g2];exact uL
   refine⟨Ph,?_⟩;rw[Gj];have hl:({(hW G S w x r).gone.foldl jd (hW G S w x r) with gone:=[]}:gg).bJ=[]:=g3.trans he;have ad:=Ph.wait.count;have ag:=Xh Ph;unfold mL;rw[aY hl];omega
  ·rename_i he
   refine⟨⟨ht.len,Gi,λe=>absurd e he,λ_=>⟨hp3.trans aA,jG,cc,ez,x,zP,ht⟩⟩,?_⟩;rw[Gj];unfold mL;rw[a_ he];omega
 ·rename_i aq
  split at hu
  ·rename_i k r al
   cases hu;obtain⟨Xj,uL⟩:=h.up aq;have nM:k<G.N:=h.wait.lt k (by rw[al];simp);have ng:k<w.aG.length:=by rw[h.len];exact nM
   have fB:k∉r/\r.Nodup:=by
    have:=h.wait.nodup;rw[al] at this;exact⟨(List.nodup_cons.1 this).1,(List.nodup_cons.1 this).2⟩
   let w1:gg:={w with bz:=r,waits:=w.waits.set k false,aG:=w.aG.set k (tq (pG G S w k) (w.aG.getD k z4))}
   have Gi:vU G.N w1:=by
    refine⟨by simp [w1,h.wait.len],fB.2,λm hm=>h.wait.lt m (by rw[al];simp [show m∈r from hm]),λm hm=> ?_⟩;show (w.waits.set k false).getD m false=true↔m∈r;rw[Gg (by rw[h.wait.len];exact nM)];by_cases e:m=k
    ·rw[aY e,e]
     simp [fB.1]
    ·rw[a_ e,h.wait.is m hm,al]
     simp [e]
   have nU:∀m c,m<G.N->c<4->dI w1.aG m c=raised G S (dI w.aG) k m c:=λm c _ ar=>by
    show dI (w.aG.set k _) m c=_;rw[W_ ng];unfold raised;split
    ·unfold tq pG
     rw[iU ar,iU ar];rfl
    ·rfl
   have Kf:zR (pG G S w k) (w.aG.getD k z4)=true↔∃c,c<4/\dI w.aG k c<rule G S (dI w.aG) k c:=by
    rw[ag6];constructor
    ·rintro ⟨c,ar,ad⟩
     refine⟨c,ar,?_⟩;unfold pG at ad;rw[iU ar] at ad;exact ad
    ·rintro ⟨c,ar,ad⟩
     refine⟨c,ar,?_⟩;unfold pG;rw[iU ar];exact ad
   have MA:=Pf (f:=sw) (l:=w.aG) (k:=k) (y:=tq (pG G S w k) (w.aG.getD k z4)) ng;have Gj:mL G.N w=r.length+1+6*l0 sw w.aG:=by
    unfold mL;rw[aY aq,al];rfl
   have DR:=λc (ar:c<4)=>uL.bound k c nM ar
   unfold Gf;simp only;split
   ·rename_i hm
    obtain⟨dE,n4,My⟩:=Kf.1 hm;have cg:∀p∈lJ G S k,p.1<G.N:=λp hp=>G.ss _ p.1 p.2 nM (vS.1 hp).1
    obtain⟨g1,g2,g3,g4,lb,g6,g7⟩:=Xg (N:=G.N) (λp:Nat×Int=>p.1) (lJ G S k) w1 cg Gi;have cU:(lJ G S k).length<=6:=Nat.le_trans (List.length_filter_le _ _) (G.W3 k);have ag7:pE G S (raised G S (dI w.aG) k) (· ∈((lJ G S k).foldl (λw p=>jd w p.1) w1).bz):=uL.Ke aI nM (λm s9 Gk=>by
     refine lb m ?_;rw[al] at Gk;rcases List.mem_cons.1 Gk with e|e
     ·exact absurd e s9
     ·exact e) (λ_ n d av aw=>g6 (n,d) (vS.2 ⟨av,aw⟩))
    refine⟨⟨?_,g1,λ_=>⟨?_,?_⟩,λav=>absurd (g3.trans aq) av⟩,?_⟩
    ·show ((lJ G S k).foldl (λw p=>jd w p.1) w1).aG.length=_
     rw[g2];simp [w1,h.len]
    ·exact g4.trans Xj
    ·refine ag7.weaken (λm c hm ar=> ?_) (λ_ h=>h)
     show dI ((lJ G S k).foldl (λw p=>jd w p.1) w1).aG m c=_;rw[g2];exact nU m c hm ar
    ·rw[Gj]
     unfold mL;rw[aY (g3.trans aq),show ((lJ G S k).foldl (λw p=>jd w p.1) w1).aG=w1.aG from g2];have ao5:sw (tq (pG G S w k) (w.aG.getD k z4))+1<=sw (w.aG.getD k z4):=by
      have e4:=DR 0 cw;have mc:=DR 1 cw;have jL:=DR 2 cw;have FT:=DR 3 cw;have ao:∀c,c<4->rule G S (dI w.aG) k c<=15:=λc ar=>W8 aI nM ar λn av=>(uL.bound n c av ar).2
      have lj:=ao 0 cw;have lg:=ao 1 cw;have ya:=ao 2 cw;have Jh:=ao 3 cw;unfold dI at My e4 mc jL FT;unfold tq pG sw rA;unfold dI at*
      simp only [cn] at*
      match dE,n4 with
      |0,_=>simp only [cn] at *;omega
      |1,_=>simp only [cn] at *;omega
      |2,_=>simp only [cn] at *;omega
      |3,_=>simp only [cn] at *;omega
     have ao6:(List.foldl (λ(w:gg) (p:Nat×Int)=>jd w p.1) w1 (lJ G S k)).bz.length<=r.length+(lJ G S k).length:=g7;have ao7:l0 sw w1.aG+sw (w.aG.getD k z4)=l0 sw w.aG+sw (tq (pG G S w k) (w.aG.getD k z4)):=MA;show (List.foldl (λ(w:gg) (p:Nat×Int)=>jd w p.1) w1 (lJ G S k)).bz.length+6*l0 sw w1.aG+1<=_
     clear_value w1
     omega
   ·rename_i hm
    have IE:∀c,c<4->rule G S (dI w.aG) k c<=dI w.aG k c:=λc ar=>by
     have:¬dI w.aG k c<rule G S (dI w.aG) k c:=λh=>hm (Kf.2 ⟨c,ar,h⟩)
     omega
    refine⟨⟨by simp [h.len],Gi,λ_=>⟨Xj,?_⟩,λav=>absurd aq av⟩,?_⟩
    ·refine(uL.Ke (W':=(· ∈r)) aI nM (λm s9 Gk=> ?_) (λ⟨c,ar,ad⟩=>absurd (IE c ar) aj)).weaken (λm c hm ar=>nU m c hm ar) (λ_ h=>h)
     rw[al] at Gk;rcases List.mem_cons.1 Gk with e|e
     ·exact absurd e s9
     ·exact e
    ·rw[Gj]
     unfold mL;rw[aY aq];have EX:tq (pG G S w k) (w.aG.getD k z4)=w.aG.getD k z4:=bR.ext' λc ar=>by
      unfold tq pG;rw[iU ar,iU ar];have:=IE c ar;show max (rule G S (dI w.aG) k c) (dI w.aG k c)=dI w.aG k c;omega
     rw[EX] at MA;simp only;rw[EX];omega
  ·cases hu
theorem qO.settled {S:hs} (aI:S.lr G.N) {w:gg} (h:qO G S w) (hu:sv G S w=none):w.bJ=[]/\w.bz=[]/\w.gone=[]/\yB G S (dI w.aG):=by
 unfold sv at hu;split at hu
 ·cases hu
 ·rename_i aq
  split at hu
  ·cases hu
  ·rename_i aA
   obtain⟨ad,ag⟩:=h.up aq;exact⟨aq,aA,ad,ag.full aI λk _ al=>by
    rw[aA] at al
    cases al⟩
theorem qO.Bb {S Kl:hs} (aI:S.lr G.N) {w:gg} (h:qO G S w) (hu:sv G S w=none) {k:Nat} (al:k<G.N) (xQ:∀n,n≠k->Kl.j7 n=S.j7 n/\(∀c,Kl.emit n c=S.emit n c)/\Kl.b_ n=S.b_ n):
  qO G Kl (jt w k (w.aG.getD k z4))/\mL G.N (jt w k (w.aG.getD k z4))+1<=qN G.N:=by
 obtain⟨ad,ag,ay,bG⟩:=h.settled aI hu;have hl:(jt w k (w.aG.getD k z4)).bJ≠[]:=by
  unfold jt;simp
 refine⟨⟨by simp [jt,h.len],⟨h.wait.len,h.wait.nodup,h.wait.lt,h.wait.is⟩,λe=>absurd e hl,λ_=>⟨ag,S,dI w.aG,k,(0,z4),aI,qb.begin al h.len bG h.bound xQ ad ay⟩⟩,?_⟩;unfold mL;rw[a_ hl];have:=Gh (jt w k (w.aG.getD k z4));have lh:(jt w k (w.aG.getD k z4)).aG.length=G.N:=by simp [jt,h.len]
 rw[lh] at this;have Jg:(jt w k (w.aG.getD k z4)).bJ.length=1:=by
  unfold jt;simp [ad]
 unfold qN;omega
end AE
namespace AE
def nh (bI bZ x y z:Nat):Nat:=(z*bZ+y)*bI+x
def iJ (bI k:Nat):Nat:=k%bI
def iK (bI bZ k:Nat):Nat:=k/bI%bZ
def hX (bI bZ k:Nat):Nat:=k/bI/bZ
section
variable {bI bZ bc x y z k:Nat}
theorem Xk (aq:x<bI):iJ bI (nh bI bZ x y z)=x:=by
 unfold iJ nh;rw[Nat.add_comm,Nat.add_mul_mod_self_right,Nat.mod_eq_of_lt aq]
theorem Xl (aq:x<bI):nh bI bZ x y z/bI=z*bZ+y:=by
 unfold nh;rw[Nat.add_comm,Nat.add_mul_div_right _ _ aj,Nat.div_eq_of_lt aq,Nat.zero_add]
theorem Xm (aq:x<bI) (bE:y<bZ):iK bI bZ (nh bI bZ x y z)=y:=by
 unfold iK;rw[Xl aq,Nat.add_comm,Nat.add_mul_mod_self_right,Nat.mod_eq_of_lt bE]
theorem Pj (aq:x<bI) (bE:y<bZ):hX bI bZ (nh bI bZ x y z)=z:=by
 unfold hX;rw[Xl aq,Nat.add_comm,Nat.add_mul_div_right _ _ aj,Nat.div_eq_of_lt bE,Nat.zero_add]
theorem ag8 (bI bZ k:Nat):nh bI bZ (iJ bI k) (iK bI bZ k) (hX bI bZ k)=k:=by
 unfold nh iJ iK hX;have ad:=Nat.div_add_mod (k/bI) bZ;have ag:=Nat.div_add_mod k bI;have ay:k/bI/bZ*bZ+k/bI%bZ=k/bI:=by rw[Nat.mul_comm];exact ad
 rw[ay,Nat.mul_comm];exact ag
theorem Xn (aq:x<bI) (bE:y<bZ) (bW:z<bc):nh bI bZ x y z<bI*bZ*bc:=by
 unfold nh;have ad:z*bZ+y+1<=bc*bZ:=by
  have:=Nat.mul_le_mul_right bZ (show z+1<=bc from bW);rw[Nat.add_mul] at this;omega
 have ag:=Nat.mul_le_mul_right bI ad;rw[Nat.add_mul] at ag;have ay:bc*bZ*bI=bI*bZ*bc:=by rw[Nat.mul_comm bc bZ,Nat.mul_assoc,Nat.mul_comm bc bI,<-Nat.mul_assoc,Nat.mul_comm bZ bI]
 rw[<-ay];omega
theorem Km (h:k<bI*bZ*bc):iJ bI k<bI/\iK bI bZ k<bZ/\hX bI bZ k<bc:=by
 have ag9:0<bI:=by
  rcases Nat.eq_zero_or_pos bI with e|e
  ·subst e;simp at h
  ·exact e
 have ag':0<bZ:=by
  rcases Nat.eq_zero_or_pos bZ with e|e
  ·subst e;simp at h
  ·exact e
 refine⟨Nat.mod_lt _ ag9,Nat.mod_lt _ ag',?_⟩;unfold hX;rw[Nat.div_div_eq_div_mul];exact Nat.div_lt_of_lt_mul h
end
def uP (bI bZ bc k:Nat):Nat->List (Nat×Int)
 |0=>if 0<iJ bI k then [(nh bI bZ (iJ bI k-1) (iK bI bZ k) (hX bI bZ k),0)] else []
 |1=>if iJ bI k+1<bI then [(nh bI bZ (iJ bI k+1) (iK bI bZ k) (hX bI bZ k),0)] else []
 |2=>if 0<iK bI bZ k then [(nh bI bZ (iJ bI k) (iK bI bZ k-1) (hX bI bZ k),0)] else []
 |3=>if iK bI bZ k+1<bZ then [(nh bI bZ (iJ bI k) (iK bI bZ k+1) (hX bI bZ k),0)] else []
 |4=>if 0<hX bI bZ k then [(nh bI bZ (iJ bI k) (iK bI bZ k) (hX bI bZ k-1),-1)] else []
 |5=>if hX bI bZ k+1<bc then [(nh bI bZ (iJ bI k) (iK bI bZ k) (hX bI bZ k+1),1)] else []
 |_=>[]
def xh (bI bZ bc k:Nat):Nat->List (Nat×Int)
 |0=>[]
 |j+1=>xh bI bZ bc k j++uP bI bZ bc k j
theorem ag_ (bI bZ bc k j:Nat):(uP bI bZ bc k j).length<=1:=by
 unfold uP;split
 all_goals first|(split<;>simp)|simp
theorem Pk (bI bZ bc k j:Nat):(xh bI bZ bc k j).length<=j:=by
 induction j with
 |zero=>simp [xh]
 |succ j cA=>
  have:=ag_ bI bZ bc k j;simp only [xh,List.length_append];omega
theorem Xo {bI bZ bc k:Nat} {p:Nat×Int}:p∈xh bI bZ bc k 6↔p∈uP bI bZ bc k 0\/p∈uP bI bZ bc k 1\/p∈uP bI bZ bc k 2\/p∈uP bI bZ bc k 3\/p∈uP bI bZ bc k 4\/p∈uP bI bZ bc k 5:=by
 simp only [xh,List.mem_append,List.not_mem_nil,false_or,or_assoc]
theorem Kn {bI bZ bc k n:Nat} {d:Int} (h:(n,d)∈xh bI bZ bc k 6) (al:k<bI*bZ*bc):
  ∃x y z,x<bI/\y<bZ/\z<bc/\n=nh bI bZ x y z/\
   ((x+1=iJ bI k/\y=iK bI bZ k/\z=hX bI bZ k/\d=0)\/(x=iJ bI k+1/\y=iK bI bZ k/\z=hX bI bZ k/\d=0)\/
    (x=iJ bI k/\y+1=iK bI bZ k/\z=hX bI bZ k/\d=0)\/(x=iJ bI k/\y=iK bI bZ k+1/\z=hX bI bZ k/\d=0)\/
    (x=iJ bI k/\y=iK bI bZ k/\z+1=hX bI bZ k/\d= -1)\/(x=iJ bI k/\y=iK bI bZ k/\z=hX bI bZ k+1/\d=1)):=by
 obtain⟨ad,ag,ay⟩:=Km al;rw[Xo] at h;rcases h with h|h|h|h|h|h
 all_goals
  simp only [uP] at h;split at h
  ·rename_i ar
   rw[List.mem_singleton] at h;obtain⟨rfl,rfl⟩:=Prod.mk.inj h;refine⟨_,_,_,?_,?_,?_,rfl,?_⟩
   all_goals omega
  ·cases h
theorem aha {bI bZ bc k x y z:Nat} {d:Int} (bW:z<bc) (aq:x<bI) (bE:y<bZ)
  (h:(x+1=iJ bI k/\y=iK bI bZ k/\z=hX bI bZ k/\d=0)\/(x=iJ bI k+1/\y=iK bI bZ k/\z=hX bI bZ k/\d=0)\/
    (x=iJ bI k/\y+1=iK bI bZ k/\z=hX bI bZ k/\d=0)\/(x=iJ bI k/\y=iK bI bZ k+1/\z=hX bI bZ k/\d=0)\/
    (x=iJ bI k/\y=iK bI bZ k/\z+1=hX bI bZ k/\d= -1)\/(x=iJ bI k/\y=iK bI bZ k/\z=hX bI bZ k+1/\d=1)):(nh bI bZ x y z,d)∈xh bI bZ bc k 6:=by
 rw[Xo];simp only [uP];rcases h with ⟨ad,ag,ay,rfl⟩|⟨ad,ag,ay,rfl⟩|⟨ad,ag,ay,rfl⟩|⟨ad,ag,ay,rfl⟩|⟨ad,ag,ay,rfl⟩|⟨ad,ag,ay,rfl⟩
 ·left
  rw[aY aj,<-ad,<-ag,<-ay];simp
 ·right;left
  rw[aY aj,<-ad,<-ag,<-ay];simp
 ·right;right;left
  rw[aY aj,<-ad,<-ag,<-ay];simp
 ·right;right;right;left
  rw[aY aj,<-ad,<-ag,<-ay];simp
 ·right;right;right;right;left
  rw[aY aj,<-ad,<-ag,<-ay];simp
 ·right;right;right;right;right
  rw[aY aj,<-ad,<-ag,<-ay];simp
def ahb (bI bZ bc:Nat):oG where
 N:=bI*bZ*bc
 sr k:=xh bI bZ bc k 6
 top k:=decide (hX bI bZ k+1=bc)
 aN k:=bc-1-hX bI bZ k
 ss k n d al h:=by
  obtain⟨x,y,z,aq,bE,bW,rfl,_⟩:=Kn h al;exact Xn aq bE bW
 W1 k n d al h e:=by
  obtain⟨x,y,z,aq,bE,bW,av,h⟩:=Kn h al;rw[e] at av;have ad:iJ bI k=x:=by rw[av];exact Xk aq
  have ag:iK bI bZ k=y:=by rw[av];exact Xm aq bE
  have ay:hX bI bZ k=z:=by rw[av];exact Pj aq bE
  omega
 O8 k n d al h:=by
  obtain⟨x,y,z,aq,bE,bW,rfl,bf⟩:=Kn h al;clear h;obtain⟨de,dv,vM⟩:=Km al;have ah:=aha (k:=nh bI bZ x y z) (d:= -d) vM de dv (by
   rw[Xk aq,Xm aq bE,Pj aq bE];rcases bf with ⟨a,b,c,rfl⟩|⟨a,b,c,rfl⟩|⟨a,b,c,rfl⟩|⟨a,b,c,rfl⟩|⟨a,b,c,rfl⟩|⟨a,b,c,rfl⟩
   ·exact .inr (.inl ⟨a.symm,b.symm,c.symm,rfl⟩)
   ·exact .inl ⟨a.symm,b.symm,c.symm,rfl⟩
   ·exact .inr (.inr (.inr (.inl ⟨a.symm,b.symm,c.symm,rfl⟩)))
   ·exact .inr (.inr (.inl ⟨a.symm,b.symm,c.symm,rfl⟩))
   ·exact .inr (.inr (.inr (.inr (.inr ⟨a.symm,b.symm,c.symm,rfl⟩))))
   ·exact .inr (.inr (.inr (.inr (.inl ⟨a.symm,b.symm,c.symm,rfl⟩)))))
  rw[ag8] at ah;exact ah
 W2 k n d al h bg:=by
  obtain⟨x,y,z,aq,bE,bW,rfl,h⟩:=Kn h al;obtain⟨de,dv,vM⟩:=Km al;rw[Pj aq bE];omega
 W3 k:=Pk _ _ _ _ _
end AE
end
end Go.Proofs.YtepcfjbfkedlpaaDoor
namespace Go.Proofs.YtepcfjbfkedlpaaDoor
open Go Go.Proofs Go.RowKit
namespace AE
abbrev n9:aK:=4
theorem BB:bk Tryd.prog (sizeOf n9)=some 1:=au
theorem mn:Tryd.prog.underlying 30=some (.slice n9):=au
noncomputable def Ko:TypeInfo:=(Tryd.prog.info? n9).getD default
theorem Pl:Tryd.prog.info? n9=some Ko:=au
theorem Pm:Ko.zero=some (.bool false):=au
theorem Pn:Ko.size=1:=au
abbrev Gl:Nat:=1
theorem Po:Ko.bytes=Gl:=au
theorem ahc:(.bool false:J).cells.size=1:=rfl
def il (x:Bool):List J:=[.bool x]
theorem kq:∀x,(il x).length=1:=λ_=>rfl
theorem Pp:∀x,∀u∈il x,u.oneCell'=true:=λx u hu=>by
 simp only [il,List.mem_cons,List.not_mem_nil,or_false] at hu;subst hu;rfl
abbrev tr:aK:=3
theorem Kp:Tryd.prog.underlying 26=some (.slice tr):=au
noncomputable def Kq:TypeInfo:=(Tryd.prog.info? tr).getD default
theorem ahd:Tryd.prog.info? tr=some Kq:=au
theorem ahe:Kq.zero=some (.int .i64 0):=au
theorem ahf:Kq.size=1:=au
abbrev Pq:Nat:=8
theorem ahg:Kq.bytes=Pq:=au
theorem ahh:(.int .i64 0:J).cells.size=1:=rfl
def qd (x:Nat):List J:=[.int .i64 ((x:Nat):Int)]
theorem nM:∀x,(qd x).length=1:=λ_=>rfl
theorem ahi:∀x,∀u∈qd x,u.oneCell'=true:=λx u hu=>by
 simp only [qd,List.mem_cons,List.not_mem_nil,or_false] at hu;subst hu;rfl
abbrev qe:aK:=85
theorem sx:bk Tryd.prog (sizeOf qe)=some 4:=au
theorem BC:bk Tryd.prog (isAgg qe)=some true:=au
theorem n':Tryd.prog.underlying 45=some (.slice qe):=au
noncomputable def Kr:TypeInfo:=(Tryd.prog.info? qe).getD default
theorem Xp:Tryd.prog.info? qe=some Kr:=au
theorem Xq:Kr.zero=some (.agg ⟨[.int .i64 0,.int .i64 0,.int .i64 0,.int .i64 0]⟩):=au
theorem Xr:Kr.size=4:=au
abbrev Ks:Nat:=32
theorem Xs:Kr.bytes=Ks:=au
theorem ahj:(.agg ⟨[.int .i64 0,.int .i64 0,.int .i64 0,.int .i64 0]⟩:J).cells.size=4:=rfl
def dY (x:bR):List J:=[.int .i64 x.1,.int .i64 x.2.1,.int .i64 x.2.2.1,.int .i64 x.2.2.2]
theorem yC:∀x,(dY x).length=4:=λ_=>rfl
theorem ahk:∀x,∀u∈dY x,u.oneCell'=true:=λx u hu=>by
 simp only [dY,List.mem_cons,List.not_mem_nil,or_false] at hu;rcases hu with rfl|rfl|rfl|rfl<;>rfl
abbrev L.val (x:bR):J:= .agg ⟨dY x⟩
abbrev rB:aK:=89
theorem BD:Tryd.prog.underlying 71=some (.slice rB):=au
noncomputable def Kt:TypeInfo:=(Tryd.prog.info? rB).getD default
theorem ahl:Tryd.prog.info? rB=some Kt:=au
theorem ahm:Kt.zero=some (.agg ⟨[.int .i64 0,.int .i64 0,.bool false]⟩):=au
theorem ahn:Kt.size=3:=au
abbrev Pr:Nat:=24
theorem aho:Kt.bytes=Pr:=au
theorem ahp:(.agg ⟨[.int .i64 0,.int .i64 0,.bool false]⟩:J).cells.size=3:=rfl
def ni (x:Nat×Int×Bool):List J:=[.int .i64 ((x.1:Nat):Int),.int .i64 x.2.1,.bool x.2.2]
theorem vV:∀x,(ni x).length=3:=λ_=>rfl
theorem ahq:∀x,∀u∈ni x,u.oneCell'=true:=λx u hu=>by
 simp only [ni,List.mem_cons,List.not_mem_nil,or_false] at hu;rcases hu with rfl|rfl|rfl<;>rfl
abbrev Q.val (x:Nat×Int×Bool):J:= .agg ⟨ni x⟩
abbrev zS:aK:=87
theorem Ku:Tryd.prog.underlying 74=some (.slice zS):=au
def kU (x:Nat×bR):List J:=[.int .i64 ((x.1:Nat):Int),.int .i64 x.2.1,.int .i64 x.2.2.1,.int .i64 x.2.2.2.1,.int .i64 x.2.2.2.2]
theorem Kv:∀x,(kU x).length=5:=λ_=>rfl
abbrev eR.val (x:Nat×bR):J:= .agg ⟨kU x⟩
abbrev vW:Bool:=false
abbrev zT:bR:=z4
end AE
namespace AE
abbrev gy:=Nat×Int×Bool
abbrev az:=Nat×bR
abbrev qP:aK:=80
abbrev iV:aK:=34
abbrev mM (l:List J) (n:Nat):Nat->J:=λi=>l.getD (n+i) (.bool false)
def mN (g:List Nat) (w:List Bool) (k:Nat):List Nat:=if w.getD k default=true then g else g++[k]
def nN (w:List Bool) (k:Nat):List Bool:=if w.getD k default=true then w else w.set k true
section
variable {g:List Nat} {w:List Bool} {k:Nat}
theorem Xt (h:w.getD k default=true):mN g w k=g:=aY h
theorem Xu (h:¬w.getD k default=true):mN g w k=g++[k]:=a_ h
theorem Xv (h:w.getD k default=true):nN w k=w:=aY h
theorem Xw (h:¬w.getD k default=true):nN w k=w.set k true:=a_ h
theorem Kw (w:List Bool) (k:Nat):(nN w k).length=w.length:=by
 unfold nN;split
 ·rfl
 ·exact List.length_set
theorem Xx (g:List Nat) (w:List Bool) (k:Nat):(mN g w k).length<=g.length+1:=by
 unfold mN;split
 ·omega
 ·simp
end
def rC (i:Nat) (old x:bR):bR:=rA λc=>if c<i/\0<cn old c then 0 else cn x c
section
variable {old x:bR} {k:Nat} {l:List bR}
theorem ahr:rC 0 old x=x:=by
 refine bR.ext' λc ar=> ?_
 unfold rC;rw[iU ar,a_ aj]
theorem ahs:rC 4 old x=vT old x:=by
 refine bR.ext' λc ar=> ?_
 unfold rC vT;rw[iU ar,iU ar];simp [ar]
theorem Xy {α:Type} [Inhabited α] {l:List α} {k:Nat} (al:k<l.length):l.set k (l.getD k default)=l:=by
 rw[dq,gi al];simp
end
end AE
namespace AE
theorem bK.Gm {M M':Mem} {B:Nat} {L L':List cb} (h:bK B M L M' L'):cZ M L M' L':=⟨h.sp,h.keeps,h.fresh⟩
theorem cH.own {M:Mem} {L:List cb} (h:cH M L):bK 0 M L M L:=⟨h,λ_ _ h _=>h,λ_ h=> .inl h,λ_ _=>Nat.zero_le _⟩
theorem cZ.lift {M M':Mem} {L n5 L' N:List cb} (aw:cH M L) (is:List Nat) (ik:j6 L.length is=true) (hp:AE.pick L is=n5) (hl:L'.length=is.length) (t:cZ M n5 M' (L'++N)):cZ M L M' (lI L is L'++N):=by
 subst hp;exact(aw.own.put is ik hl t).Gm
theorem cZ.trans {M nj nk:Mem} {L er kp:List cb} (h:cZ M L nj er) (t:cZ nj er nk kp):cZ M L nk kp where
 sp:=t.sp
 keeps i o ai av:=t.keeps i o (h.keeps i o ai av) λag=>by
  rcases h.fresh i ag with ay|ay
  ·exact av ay
  ·rw[ai] at ay;cases ay
 fresh b af:=by
  rcases t.fresh b af with ad|ad
  ·exact h.fresh b ad
  ·by_cases ag:iI L b
   ·exact .inl ag
   ·right
    cases ay:M b with
    |none=>rfl
    |some o=>
     have:=h.keeps b o ay ag;rw[ad] at this;cases this
theorem cZ.refl {M:Mem} {L:List cb} (h:cH M L):cZ M L M L:=h.own.Gm
def vX (L:List cb):cb:=⟨iI L,λM=>cH M L,λ_ h b af=>h.known b af,λ_ _ hm h=>h.mono hm⟩
theorem DT {L:List cb} {b:Nat}:iI [vX L] b↔iI L b:=p8
theorem cH.packed {M:Mem} {L:List cb} (h:cH M L):cH M [vX L]:=cH.one h
theorem cH.aht {M:Mem} {L:List cb} (h:cH M [vX L]):cH M L:=h.ok 0 _ rfl
theorem cZ.packed {M M':Mem} {L L':List cb} (h:cZ M L M' L'):cZ M [vX L] M' [vX L']:=
 ⟨h.sp.packed,λi o ai av=>h.keeps i o ai λag=>av (DT.2 ag),λb af=>(h.fresh b (DT.1 af)).imp DT.2 id⟩
theorem ahu {L N:List cb} {b:Nat}:iI (vX L::N) b↔iI (L++N) b:=by
 constructor
 ·rintro ⟨i,R,ai,af⟩
  cases i with
  |zero=>
   cases ai;obtain⟨j,S,hj,af⟩:=af;exact⟨j,S,by rw[List.getElem?_append_left (List.getElem?_eq_some_iff.1 hj).1];exact hj,af⟩
  |succ i=>exact⟨L.length+i,R,by rw[List.getElem?_append_right aj,Nat.add_sub_cancel_left];exact ai,af⟩
 ·rintro ⟨i,R,ai,af⟩
  rcases Nat.lt_or_ge i L.length with h|h
  ·rw[List.getElem?_append_left h] at ai
   exact⟨0,vX L,rfl,⟨i,R,ai,af⟩⟩
  ·rw[List.getElem?_append_right h] at ai
   exact⟨i-L.length+1,R,ai,af⟩
theorem cZ.Ps {M M':Mem} {L L' N:List cb} (h:cZ M L M' (L'++N)):cZ M [vX L] M' (vX L'::N) where
 sp:=by
  refine⟨λi R ai=> ?_,λi j R S c1 ai hj b af jL=> ?_⟩
  ·cases i with
   |zero=>
    cases ai;exact⟨λi R ai=>h.sp.ok i R (by rw[List.getElem?_append_left (List.getElem?_eq_some_iff.1 ai).1];exact ai),λi j R S c1 ai hj=>h.sp.two i j R S c1 (by rw[List.getElem?_append_left (List.getElem?_eq_some_iff.1 ai).1];exact ai) (by rw[List.getElem?_append_left (List.getElem?_eq_some_iff.1 hj).1];exact hj)⟩
   |succ i=>exact h.sp.ok (L'.length+i) R (by rw[List.getElem?_append_right aj,Nat.add_sub_cancel_left];exact ai)
  ·have key:∀(j:Nat) (S:cb),N[j]? =some S->∀b,iI L' b->¬S.oF b:=λj S hj b ⟨i,R,ai,af⟩=>h.sp.two i (L'.length+j) R S (by have:=(List.getElem?_eq_some_iff.1 ai).1;omega) (by rw[List.getElem?_append_left (List.getElem?_eq_some_iff.1 ai).1];exact ai) (by rw[List.getElem?_append_right aj,Nat.add_sub_cancel_left];exact hj) b af
   cases i with
   |zero=>
    cases ai;cases j with
    |zero=>exact c1 rfl
    |succ j=>exact key j S hj b af jL
   |succ i=>
    cases j with
    |zero=>
     cases hj;exact key i R ai b jL af
    |succ j=>exact h.sp.two (L'.length+i) (L'.length+j) R S aj (by rw[List.getElem?_append_right aj,Nat.add_sub_cancel_left];exact ai) (by rw[List.getElem?_append_right aj,Nat.add_sub_cancel_left];exact hj) b af jL
 keeps i o ai av:=h.keeps i o ai λag=>av (DT.2 ag)
 fresh b af:=(h.fresh b (ahu.1 af)).imp DT.2 id
theorem Kx {α:Type} {P:aS} {f:FuncId} {args:Array J} {w:ax} {e:aK} {k:Nat} {enc:α->List J} {l:List α} {L:List cb} (aw:cH (aE w) L)
  (h:Calls P f args w λe' w'=>(∃a c,e'= .returned (.slice a l.length c)/\dw w.heap.size (aE w') e k enc (.slice a l.length c) l)/\cj w.heap.size w w'):
  Calls P f args w λe' w'=>(∃y:Option Addr×Nat,e'= .returned (.slice y.1 l.length y.2)/\cZ (aE w) L (aE w') (L++[hr e k enc (.slice y.1 l.length y.2) l]))/\cj 0 w w':=
 (FV h).mono λe' w' he=>by
   obtain⟨⟨y,ad,ag⟩,ay⟩:=he;exact⟨⟨y,ad,(aw.own.new ag).Gm⟩,ay⟩
end AE
namespace AE
def qf:List (Nat×J)->Nat->Option J
 |[],_=>none
 |p::r,i=>bif Nat.beq p.1 i then some p.2 else qf r i
def Xz (o:Oper):Oper:={o with guard:=none}
def Gn (ij:Nat->J) (ahv:List Nat) (ops:Array Oper) (N:Nat) (o:Oper):Bool:=
 match o.guard with
 |none=>true
 |some (j,b)=>ahv.contains j&&(match ij j with| .bool b'=>b==b'|_=>false)&&(match fz ops j with|some t=>Nat.blt t N|none=>false)
def BE (P:aS) (N m:Nat) (ct:List Nat) (cs kv:List (Nat×J)) (ops:Array Oper) (du:aF) (A:a8):List Oper->Nat->List J->Option (List J)
 |[],_,vs=>some vs
 |o::r,i,vs=>bif Gn (λj=>vs.getD j cB) (needs ops m o) ops N o then
   (bif ct.contains i then BE P N m ct cs kv ops du A r (i+1) (vs++[(qf cs i).getD cB]) else
     match qf kv i with
     |some v=>BE P N m ct cs kv ops du A r (i+1) (vs++[v])
     |none=>match hU N ops (λj=>vs.getD j cB) (needs ops m o) du with
      |some sl=>match yx P (dH .nil sl) A (Xz o) with
       |some v=>BE P N m ct cs kv ops du A r (i+1) (vs++[v])
       |none=>none
      |none=>none)
  else none
def Pt (ops:Array Oper) (ct:List Nat):Bool:=(List.range ct.length).all λb=>(List.range b).all λa=>C5 (zm ops) (ct.getD b 0) (ct.getD a 0)
def BF (P:aS) (N m:Nat) (ct:List Nat) (cs kv:List (Nat×J)):Option b1->Option (aF×List J×aF)
 |some (.draw _ ops s _)=>
  bif uw ops [] m N&&Pt ops ct&&ct.all (λj=>Nat.blt j m) then
   match hU N ops (λ_=>cB) (List.range m) s.sl with
   |some du=>match BE P N m ct cs kv ops du s.A (ops.toList.take m) 0 [] with
    |some vs=>match hU N ops (λj=>vs.getD j cB) (List.range m) du with
     |some F6=>some (du,vs,F6)
     |none=>none
    |none=>none
   |none=>none
  else none
 |_=>none
def o8 (P:aS) (N m:Nat) (ct:List Nat) (cs kv:List (Nat×J)) (o:Option b1) (i:Nat):aF:=
 match BF P N m ct cs kv o,(gQ o)[i]? with
 |some (du,vs,_),some op=>match hU N (gQ o) (λj=>vs.getD j cB) (needs (gQ o) m op) du with
  |some sl=>sl
  |none=> .nil
 |_,_=> .nil
def BG (P:aS) (N m:Nat) (ct:List Nat) (cs kv:List (Nat×J)) (o:Option b1):b8:={b9 o with sl:=match BF P N m ct cs kv o with|some (_,_,sl)=>sl|none=> .nil}
def XA [a7] (P:aS) (M:Mem) (cc:List cb) (op:Oper) (sl:aF) (v:J):Prop:=
 ∀(a:Act) (w:ax),(∀x:Operand,aM (dH .nil sl x)=true->a.eval x=aJ (dH .nil sl x))->(∀i o,M i=some o->¬iI cc i->w.heap[i]? =some o)->(execOp a.eval op).run P w= .ok (.value (aJ v)) w/\∀c,op.op≠.defer c
def xi [a7] {Y:Type} (P:aS) (B:Nat) (M:Mem) (cc:List cb) (ops:Array Oper) (ct:List Nat) (rv:Nat->Y->J) (k:Nat) (op:Oper) (sl:aF) (xj sy:Y->List cb):Prop:=
 ∀(a:Act) (w:ax) (K:Act->ax->Prop) (Q:Exit->Act->ax->Prop) (y:Y),(∀x:Operand,aM (dH .nil sl x)=true->a.eval x=aJ (dH .nil sl x))->
  (∀(idx i:Nat) (t:Tmp),idx<k->ct[idx]? =some i->fz ops i=some t->a.tmps.getD t undef=rv idx y)->(∀i o,M i=some o->¬iI cc i->w.heap[i]? =some o)->B<=w.heap.size->cH (aE w) (xj y)->
  (∀fM w',cZ (aE w) (xj y) (aE w') (sy fM)->cj 0 w w'->(∀idx,idx<k->rv idx fM=rv idx y)->K (a.put op.dst (rv k fM)) w')->Oper.wpIn (Fr none) 0 P op a w K Q
def Ky (P:aS) (N m:Nat) (ct:List Nat) (cs kv:List (Nat×J)) (ops:Array Oper) (du:aF) (A:a8) (i:Nat) (o:Oper) (I4:List J) (v:J):Prop:=
 Gn (λj=>I4.getD j cB) (needs ops m o) ops N o=true/\(ct.contains i=true->v=(qf cs i).getD cB)/\(ct.contains i=false->∀u,qf kv i=some u->v=u)/\
  (ct.contains i=false->qf kv i=none->∃sl,hU N ops (λj=>I4.getD j cB) (needs ops m o) du=some sl/\yx P (dH .nil sl) A (Xz o)=some v)
theorem XB {P:aS} {N m:Nat} {ct:List Nat} {cs kv:List (Nat×J)} {ops:Array Oper} {du:aF} {A:a8}:∀(l:List Oper) (i0:Nat) (vs cN:List J),vs.length=i0->BE P N m ct cs kv ops du A l i0 vs=some cN->
  cN.length=vs.length+l.length/\cN.take vs.length=vs/\∀i o,l[i]? =some o->Ky P N m ct cs kv ops du A (i0+i) o (cN.take (vs.length+i)) (cN.getD (vs.length+i) cB)
 |[],i0,vs,cN,_,h=>by
  cases h;exact⟨by simp,by simp,λi o ai=>by simp at ai⟩
 |o::r,i0,vs,cN,vx,h=>by
  unfold BE at h;have go:∀v,Ky P N m ct cs kv ops du A i0 o vs v->BE P N m ct cs kv ops du A r (i0+1) (vs++[v])=some cN->
    cN.length=vs.length+(o::r).length/\cN.take vs.length=vs/\∀i o',(o::r)[i]? =some o'->Ky P N m ct cs kv ops du A (i0+i) o' (cN.take (vs.length+i)) (cN.getD (vs.length+i) cB):=by
   intro v aC h;obtain⟨ag,ay,bG⟩:=XB r (i0+1) (vs++[v]) cN (by simp [vx]) h;have hlen:(vs++[v]).length=vs.length+1:=by simp
   rw[hlen] at ag ay;have vy:cN.take vs.length=vs:=by
    have:=congrArg (List.take vs.length) ay;rw[List.take_take,Nat.min_eq_left aj] at this;simpa using this
   refine⟨by simp;omega,vy,?_⟩;intro i o' ai
   match i with
   |0=>
    simp only [List.getElem?_cons_zero,cQ] at ai;subst ai;simp only [Nat.add_zero];rw[vy];have gP:cN.getD vs.length cB=v:=by
     have:=congrArg (λl=>l[vs.length]?) ay;simp at this;rw[dq,this];rfl
    rw[gP];exact aC
   |i+1=>
    have:=bG i o' (by simpa using ai);rw[hlen] at this;rw[show vs.length+(i+1)=vs.length+1+i by omega,show i0+(i+1)=i0+1+i by omega];exact this
  cases aA:Gn (λj=>vs.getD j cB) (needs ops m o) ops N o with
  |false=>rw[aA] at h;cases h
  |true=>
   rw[aA,bF] at h;cases ar:ct.contains i0 with
   |true=>
    rw[ar,bF] at h;exact go _ ⟨aA,λ_=>rfl,λah=>(by rw[ar] at ah;cases ah),λah=>(by rw[ar] at ah;cases ah)⟩ h
   |false=>
    rw[ar,eD] at h;split at h
    ·rename_i v aC
     exact go v ⟨aA,λah=>(by rw[ar] at ah;cases ah),λ_ u hu=>(by rw[aC] at hu;cases hu;rfl),λ_ ah=>(by rw[aC] at ah;cases ah)⟩ h
    ·rename_i gX
     split at h
     ·rename_i sl gK
      split at h
      ·rename_i v aC
       exact go v ⟨aA,λah=>(by rw[ar] at ah;cases ah),λ_ u hu=>(by rw[gX] at hu;cases hu),λ_ _=>⟨sl,gK,aC⟩⟩ h
      ·cases h
     ·cases h
structure vY [a7] {Y:Type} (N:Nat) (ds:List Deferred) (ops:Array Oper) (m:Nat) (ct:List Nat) (vs:List J) (du:aF) (φ:b4) (rv:Nat->Y->J) (k:Nat) (y:Y) (listed:Array Bool) (a:Act):Prop where
 size:listed.size=ops.size
 down:∀i j,listed.getD i false=true->direct ops i j=true->listed.getD j false=true
 sZ:∀i,m<=i->listed.getD i false=false
 defers:a.defers=ds
 mC:a.tmps.size=N
 slot:∀t v,du.get t=some v->aD φ v (a.tmps.getD t undef)
 val:∀j t,j<m->listed.getD j false=true->fz ops j=some t->aD φ (vs.getD j cB) (a.tmps.getD t undef)
 zL:∀(idx j:Nat) (t:Tmp),idx<k->ct[idx]? =some j->fz ops j=some t->a.tmps.getD t undef=rv idx y
 ord:∀(idx j:Nat),ct[idx]? =some j->(listed.getD j false=true↔idx<k)
section
variable [a7] {Y:Type} {N:Nat} {ds:List Deferred} {ops:Array Oper} {m:Nat} {ct:List Nat} {vs:List J} {du:aF} {φ:b4} {rv:Nat->Y->J} {k:Nat} {y:Y} {listed:Array Bool} {a:Act}
theorem vY.DL (h:vY N ds ops m ct vs du φ rv k y listed a) {ij:Nat->J} {ks:List Nat} {sl:aF} (EW:∀j∈ks,j<m/\listed.getD j false=true/\ij j=vs.getD j cB) (hp:hU N ops ij ks du=some sl):fE N ds φ sl a:=
 ⟨h.mC,h.defers,λt v aC=>by
   rcases oZ _ _ _ hp t v aC with ⟨j,hj,bg,rfl⟩|⟨_,aA⟩
   ·obtain⟨ad,ag,bG⟩:=EW j hj
    rw[bG];exact h.val j t ad ag bg
   ·exact h.slot t v aA⟩
theorem vY.put (h:vY N ds ops m ct vs du φ rv k y listed a) {i:Nat} {o:Oper} {mD:aF} (fq:hU N ops (λ_=>cB) (List.range m) mD=some du) (ai:i<m) (hm:m<=ops.size) (ho:ops[i]? =some o)
  (uz:∀k,direct ops i k=true->listed.getD k false=true) (mG:∀i j,i<m->j<m->i≠j->∀t,fz ops i=some t->fz ops j≠some t) (cg:∀i t,i<m->fz ops i=some t->t<N)
  {aB:J} (aC:aD φ (vs.getD i cB) aB) {k':Nat} {fM:Y} (fi:∀(idx j:Nat),ct[idx]? =some j->j<m)
  (jZ:∀(idx j:Nat) (t:Tmp),idx<k'->ct[idx]? =some j->fz ops j=some t->(if j=i then aB else a.tmps.getD t undef)=rv idx fM)
  (cO:∀(idx j:Nat),ct[idx]? =some j->((j=i\/listed.getD j false=true)↔idx<k')):vY N ds ops m ct vs du φ rv k' fM (listed.setIfInBounds i true) (a.put o.dst aB):=by
 have lk:fz ops i=o.dst:=by simp [fz,ho]
 have fj:=J' (listed:=listed) (i:=i) (by have:=h.size;omega);refine⟨by simpa using h.size,?_,?_,by rw[Act.C4];exact h.defers,by rw[Act.size_put];exact h.mC,?_,?_,?_,?_⟩
 ·intro j k hj bg
  rw[fj] at hj ⊢;rcases hj with rfl|hj
  ·exact .inr (uz k bg)
  ·exact .inr (h.down j k hj bg)
 ·intro j hj
  rw[getD_set_ne false aj];exact h.sZ j hj
 ·intro t v pX
  by_cases rf:o.dst=some t
  ·rcases oZ _ _ _ fq t v pX with ⟨j,hj,bg,rfl⟩|⟨x9,_⟩
   ·exact .cB _
   ·exact absurd (lk.trans rf) (x9 i (List.mem_range.2 ai))
  ·rw[yz t rf]
   exact h.slot t v pX
 ·intro j t hj hl bg
  by_cases ek:j=i
  ·subst ek
   rw[Act.sY _ _ _ _ (by rw[h.mC];exact cg j t hj bg),aY (lk.symm.trans bg)];exact aC
  ·rw[yz t λah=>mG i j ai hj (Ne.symm ek) t (lk.trans ah) bg]
   exact h.val j t hj (((fj j).1 hl).resolve_left ek) bg
 ·intro idx j t zU hj bg
  have:=jZ idx j t zU hj bg;by_cases ek:j=i
  ·rw[aY ek] at this
   rw[<-this];rw[ek] at bg;rw[Act.sY _ _ _ _ (by rw[h.mC];exact cg i t ai bg),aY (lk.symm.trans bg)]
  ·rw[a_ ek] at this
   rw[yz t λah=>mG i j ai (fi idx j hj) (Ne.symm ek) t (lk.trans ah) bg];exact this
 ·intro idx j hj
  rw[fj j];exact cO idx j hj
end
theorem ahw [a7] {Y:Type} {N:Nat} {ds:List Deferred} {ops:Array Oper} {m:Nat} {ct:List Nat} {vs:List J} {du:aF} {φ:b4} {rv:Nat->Y->J} {k:Nat} {y:Y} {listed:Array Bool} {a:Act} (h:vY N ds ops m ct vs du φ rv k y listed a) {i:Nat} {o:Oper} (av:∀j∈needs ops m o,j<m/\listed.getD j false=true/\(vs.take i).getD j cB=vs.getD j cB)
  (aA:Gn (λj=>(vs.take i).getD j cB) (needs ops m o) ops N o=true):Region.wanted o (yielded ops a.tmps)=true:=by
 unfold Gn at aA;unfold Region.wanted;split at aA
 ·rename_i ahx
  rw[ahx]
 ·rename_i j b ahy
  rw[ahy];simp only [c8] at aA;obtain⟨⟨ad,ag⟩,ay⟩:=aA;obtain⟨q1,aH,b0⟩:=av j (by simpa using ad);split at ag
  ·rename_i b' s3
   split at ay
   ·rename_i t aN
    have aC:=h.val j t q1 aH aN;rw[<-b0,s3] at aC;have af:a.tmps.getD t undef= .bool b':=by
     generalize a.tmps.getD t undef=u at aC;cases aC;rfl
    have cg:t<a.tmps.size:=by rw[h.mC];exact Nat.blt_eq.mp ay
    have jL:b=b':=by simpa using ag
    have bE:yielded ops a.tmps j=some b':=by
     unfold yielded;have bg:((ops[j]?).bind (·.dst)).bind (a.tmps[·]?)=some (.bool b'):=by
      have:(ops[j]?).bind (·.dst)=some t:=aN;rw[this];simp only [Option.bind_some];rw[fk,Array.getElem?_eq_getElem cg] at af;rw[Array.getElem?_eq_getElem cg];exact congrArg some af
     rw[bg]
    dsimp only;rw[bE,jL];exact beq_self_eq_true _
   ·cases ay
  ·cases ag
theorem ahz [cV] {P:aS} {N B:Nat} {w0:ax} {Q:Exit->Act->ax->Prop} {M:Mem} {bs:List J} {Y:Type} {bm:Y->List J} {o:Option b1} {m:Nat} {dz cs kv:List (Nat×J)} {L:Nat->Y->List cb} {rv:Nat->Y->J} {ef dK:aF} {a1:List bx} {bN:eH} {dG:Mem} {az n7 cc:List cb}
  (aI:bK B dG az M n7) (is:List Nat) (ik:j6 n7.length is=true) (hp:AE.pick n7 is=cc)
  (cR:P.follows .mixedOrders=true) (h:(BF P N m (dz.map (·.1)) cs kv o).isSome=true) (fB:(dz.map (·.1)).Nodup) (vq:Y) (Kh:L 0 vq=cc)
  (fT:∀k i v,(dz.map (·.1))[k]? =some i->qf cs i=some v->plain v=true/\∀y,rv k y=v)
  (BH:∀i v,qf kv i=some v->aM v=true/\∃op,(gQ o)[i]? =some op/\ @XA (aX M bs) P M cc op (o8 P N m (dz.map (·.1)) cs kv o i) v)
  (jZ:∀k i,(dz.map (·.1))[k]? =some i->∃op,(gQ o)[i]? =some op/\ @xi (aX M bs) Y P B M cc (gQ o) (dz.map (·.1)) rv k op (o8 P N m (dz.map (·.1)) cs kv o i) (L k) (L (k+1)))
  (dg:cr (BG P N m (dz.map (·.1)) cs kv o) ef a1=some bN) (eL:uN N (gQ o) dz ef=some dK) (fD:dz.all (λp=>aM p.2)=true)
  (ca:∀y M' k p,dz[k]? =some p-> @aJ (aX M' (bm y)) p.2=rv k y) (hm:∀y M',fO (aX M bs) (aX M' (bm y)) bN)
  (rest:∀y M',cZ M cc M' (L dz.length y)->∀a6 w,@Here (aX M' (bm y)) _ N {sl:=dK,ms:=[],A:=da a1} B w0 a6 w->wpListIn (Fr none) 0 P (gQ o) (d' P (gC o) Q) (yy m o) a6 w)
  (av:cV.ev<=a1.length:=by first|exact Nat.zero_le _|exact gI rfl) (ar:ix (b9 o).A a1 0:=by exact gW rfl): @fA (aX M bs) _ P N B w0 Q o:=by
 letI:=aX M bs;obtain⟨⟨du,vs,F6⟩,bg⟩:=Option.isSome_iff_exists.1 h;have hd0:=bg;unfold BF at bg;split at bg
 ·rename_i id ops s ks
  cases af:(uw ops [] m N&&Pt ops (dz.map (·.1))&&(dz.map (·.1)).all (λj=>Nat.blt j m)) with
  |false=>rw[af] at bg;cases bg
  |true=>
   rw[af,bF] at bg;simp only [c8] at af;obtain⟨⟨hK,zO⟩,fi⟩:=af;have fi:∀j∈dz.map (·.1),j<m:=λj hj=>Nat.blt_eq.mp (List.all_eq_true.1 fi j hj)
   obtain⟨zn,oA,mG,cg,r4,o1,vA⟩:=C6 hK;have Pu:∀(idx j:Nat),(dz.map (·.1))[idx]? =some j->j<m:=λidx j hj=>fi j (List.mem_of_getElem? hj)
   have ahA:∀b a Pv Pw,a<b->(dz.map (·.1))[b]? =some Pv->(dz.map (·.1))[a]? =some Pw->C5 (zm ops) Pv Pw=true:=λb a Pv Pw Px af ha=>by
    unfold Pt at zO;have ad:=List.all_eq_true.1 zO b (List.mem_range.2 (List.getElem?_eq_some_iff.1 af).1);have ag:=List.all_eq_true.1 ad a (List.mem_range.2 Px);rw[dq,dq,af,ha] at ag;exact ag
   split at bg
   ·rename_i o6 fq
    split at bg
    ·rename_i cN oj
     split at bg
     ·rename_i F8 Dw
      simp only [cQ,Prod.mk.injEq] at bg;obtain⟨rfl,rfl,rfl⟩:=bg;have O2:∀i o,i<m->ops[i]? =some o->Ky P N m (dz.map (·.1)) cs kv ops o6 s.A i o (cN.take i) (cN.getD i cB):=by
       intro i o ai ho;have:=(XB _ 0 [] _ rfl oj).2.2 i o (by rw[List.getElem?_take,aY ai];simpa using ho);simpa using this
      refine⟨_,rfl,λa w ah=> ?_⟩;have bf:Here N s B w0 a {w with drawn:=w.drawn+1}:=ah.quiet ⟨⟨rfl,rfl,rfl,ch _,λ_ _=>rfl⟩,ch _⟩;refine wpIn_region_any cR ?_;have yA:∀i o,M i=some o->({w with drawn:=w.drawn+1}:ax).heap[i]? =some o:=bf.nY;generalize ({w with drawn:=w.drawn+1}:ax)=jc at bf yA;obtain⟨⟨φ,ds,q1,aH,b0,eF,hz⟩,ld,oX⟩:=bf;have ahB:∀i,iI cc i->M i≠none:=λi ai=>by
       subst hp;exact(aI.sp.pick is ik).known i ai
      have xb:∀{w:ax} {L':List cb},cZ (aE jc) cc (aE w) L'->∀b e,φ b=some e->w.heap[e.bn]? =jc.heap[e.bn]? :=λ{w L'} hl b e af=>by
       obtain⟨eU,_,_,q⟩:=b0.eE b e af;have cg:=fS.lt q;have ay:aE jc e.bn=some (jc.heap[e.bn]):=Array.getElem?_eq_getElem cg;have bG:=hl.keeps e.bn _ ay λaR=>by
        cases Kb:M e.bn with
        |none=>exact ahB _ aR Kb
        |some ua=>
         obtain⟨_,dy⟩:=b0.dn e.bn ua Kb;exact dy b e af rfl
       rw[Array.getElem?_eq_getElem cg];exact bG
      have XC:∀{w:ax} {L':List cb},cZ (aE jc) cc (aE w) L'->∀i o,M i=some o->¬iI cc i->w.heap[i]? =some o:=λ{w L'} hl i o ai aR=>hl.keeps i o (yA i o ai) aR
      have uA:∀{k:Nat} {y:Y} {listed:Array Bool} {a:Act},vY N ds ops m (dz.map (·.1)) cN o6 φ rv k y listed a->¬(∀i,i<m->listed.getD i false=true)->Region.ready .any ops listed≠[]/\∀i∈Region.ready .any ops listed,i<m/\listed.getD i false=false/\i<ops.size:=by
       intro k y listed a bh lU;obtain⟨i0,vx⟩:=Classical.not_forall.1 lU;obtain⟨Dc,rh⟩:=Classical.not_imp.1 vx;have rh:listed.getD i0 false=false:=by simpa using rh
       refine⟨?_,λi ai=> ?_⟩
       ·have key:∀n i,i<n->i<m->listed.getD i false=false->∃k,k∈Region.ready .any ops listed:=by
         intro n
         induction n with
         |zero=>intro i ai;omega
         |succ n Fc=>
          intro i ai mH Fe;by_cases hp:∀k,direct ops i k=true->listed.getD k false=true
          ·refine⟨i,mem_ready.2 ⟨by rw[qF (by have:=bh.size;omega)];exact Fe,ops[i]'(by omega),Array.getElem?_eq_getElem _,λe he af=>hp _ ?_⟩⟩
           have ho:ops[i]? =some (ops[i]'(by omega)):=Array.getElem?_eq_getElem _;simp only [direct,ho];exact Array.any_eq_true'.2 ⟨e,he,by simp [af]⟩
          ·obtain⟨k,al⟩:=Classical.not_forall.1 hp
           obtain⟨bg,x7⟩:=Classical.not_imp.1 al;have:=o1 i k aj bg;exact Fc k aj aj (by simpa using x7)
        obtain⟨k,al⟩:=key (i0+1) i0 aj Dc rh;intro h;rw[h] at al;cases al
       ·obtain⟨s8,o,ho,_⟩:=mem_ready.1 ai
        have la:i<ops.size:=(Array.getElem?_eq_some_iff.1 ho).1;have uB:listed.getD i false=false:=by rw[<-qF (by have:=bh.size;omega)];exact s8
        refine⟨?_,uB,la⟩;rcases Nat.lt_or_ge i m with h|h
        ·exact h
        ·exfalso
         rcases vA i i0 la h aj with ⟨x8,_⟩|ha
         ·cases x8
         ·have:=ha listed bh.down (qE ai)
          rw[rh] at this;cases this
      have tail:∀(bq:Nat) (listed:Array Bool) (a:Act) (w:ax) (k:Nat) (y:Y),vY N ds ops m (dz.map (·.1)) cN o6 φ rv k y listed a->k<=dz.length->cZ (aE jc) cc (aE w) (L k y)->cj 0 jc w->ra listed<=bq->(∀i,i<m->listed.getD i false=true)->wpAnyIn (Fr none) 0 P .any ops (d' P ks Q) bq listed a w:=by
       intro bq listed a w k y bh gX j0 mT aR lU;have al:k=dz.length:=by
        rcases Nat.lt_or_ge k dz.length with cg|kJ
        ·exfalso
         have zV:k<(dz.map (·.1)).length:=by rw[List.length_map];exact cg
         have e:=gi zV;have:=(bh.ord k _ e).1 (lU _ (Pu k _ e));omega
        ·omega
       subst al;refine NA o1 (λi j ai hj ek=>(vA i j ai aj ek).resolve_left aj) bq m listed a w (ch _) bh.size (λi=> ?_) aR ?_
       ·by_cases ai:i<m
        ·rw[lU i ai];simp;omega
        ·rw[bh.sZ i aj];simp;omega
       ·obtain⟨M',t1,t2⟩:=WH aI is ik hp yA oX j0 mT
        have ye:fE N ds φ F8 a:=bh.DL (λj hj=>⟨List.mem_range.1 hj,lU j (List.mem_range.1 hj),rfl⟩) Dw;have c0:BG P N m (dz.map (·.1)) cs kv (some (.draw id ops s ks))={s with sl:=F8}:=by
         unfold BG;rw[hd0];rfl
        have lW:Here N (BG P N m (dz.map (·.1)) cs kv (some (.draw id ops s ks))) B w0 a jc:=by
         rw[c0];exact⟨⟨φ,ds,q1,ye,b0,eF,hz⟩,ld,oX⟩
        have hV:=Here.OF (vals':=bm y) dg (hm y _) t2 av (by rw[c0];exact ar) lW;have al:∀p∈dz,aM p.2=true/\∀t,fz ops p.1=some t->a.tmps.getD t undef= @aJ (aX M' (bm y)) p.2:=λp hp=>⟨List.all_eq_true.1 fD p hp,λt aN=>by
         obtain⟨idx,zU,e⟩:=List.mem_iff_getElem.1 hp;have e2:dz[idx]? =some p:=by rw[gi zU,e]
         rw[ca y _ idx p e2]
         exact bh.zL idx p.1 t zU (by rw[List.getElem?_map,e2];rfl) aN⟩
        exact rest y M' t1 a w (@Here.O0 (aX M' (bm y)) _ N B w0 w a ops [] (da a1) dz ef dK hV al eL)
      have main:∀(bq:Nat) (listed:Array Bool) (a:Act) (w:ax) (k:Nat) (y:Y),vY N ds ops m (dz.map (·.1)) cN o6 φ rv k y listed a->k<=dz.length->cZ (aE jc) cc (aE w) (L k y)->cj 0 jc w->ra listed<=bq->wpAnyIn (Fr none) 0 P .any ops (d' P ks Q) bq listed a w:=by
       intro bq
       induction bq with
       |zero=>
        intro listed a w k y bh gX j0 mT aR;refine tail 0 listed a w k y bh gX j0 mT aR λi ai=> ?_
        cases h:listed.getD i false with
        |true=>rfl
        |false=>
         exfalso;have:=x3 (i:=i) (listed:=listed) (by have:=bh.size;omega) (by rw[qF (by have:=bh.size;omega)];exact h);omega
       |succ bq cA=>
        intro listed a w k y bh gX j0 mT aR;by_cases lU:∀i,i<m->listed.getD i false=true
        ·exact tail (bq+1) listed a w k y bh gX j0 mT aR lU
        ·obtain⟨lg,ya⟩:=uA bh lU
         refine⟨λaL=>absurd aL lg,λi ai=> ?_⟩;obtain⟨mH,uB,la⟩:=ya i ai;have ho:ops[i]? =some ops[i]:=Array.getElem?_eq_getElem la;have Vj:=x3 (i:=i) (listed:=listed) (by have:=bh.size;omega) (mem_ready.1 ai).1;have ahC:∀j∈needs ops m ops[i],j<m/\listed.getD j false=true/\(cN.take i).getD j cB=cN.getD j cB:=λj hj=>by
          have sa:=r4 i _ mH ho j hj;have ek:=o1 i j la sa;exact⟨aj,qE ai j sa,by simp only [dq,List.getElem?_take,aY ek]⟩
         have F9:∀{ij:Nat->J} {sl:aF},(∀j,j<i->ij j=cN.getD j cB)->hU N ops ij (needs ops m ops[i]) o6=some sl->fE N ds φ sl a:=λ{ij sl} s3 gK=>bh.DL (λj hj=>by
          have sa:=r4 i _ mH ho j hj;have ek:=o1 i j la sa
          exact⟨aj,qE ai j sa,s3 j ek⟩) gK
         obtain⟨aA,w8,yj,ahD⟩:=O2 i _ mH ho;have hw:=ahw bh ahC aA;have o2:∀x:Operand,aM (dH .nil (o8 P N m (dz.map (·.1)) cs kv (some (.draw id ops s ks)) i) x)=true->a.eval x=aJ (dH .nil (o8 P N m (dz.map (·.1)) cs kv (some (.draw id ops s ks)) i) x):=λx lq=>by
          cases p9:hU N ops (λj=>cN.getD j cB) (needs ops m ops[i]) o6 with
          |some sl=>
           have e:o8 P N m (dz.map (·.1)) cs kv (some (.draw id ops s ks)) i=sl:=by
            unfold o8;rw[hd0,show (gQ (some (.draw id ops s ks)))[i]? =some ops[i] from ho];show (match hU N ops (λj=>cN.getD j cB) (needs ops m ops[i]) o6 with|some sl=>sl|none=> .nil)=sl;rw[p9]
           rw[e] at lq ⊢;exact aD.jj _ lq (gU (iG φ) (F9 (λ_ _=>rfl) p9).get x)
          |none=>
           have e:o8 P N m (dz.map (·.1)) cs kv (some (.draw id ops s ks)) i= .nil:=by
            unfold o8;rw[hd0,show (gQ (some (.draw id ops s ks)))[i]? =some ops[i] from ho];show (match hU N ops (λj=>cN.getD j cB) (needs ops m ops[i]) o6 with|some sl=>sl|none=> .nil)= .nil;rw[p9]
           rw[e] at lq ⊢;exact aD.jj (φ:=φ) _ lq (gU (iG φ) (λt v h=>by cases h) x)
         unfold wpOpIn;simp only [ho];rw[aY hw];cases aq:(dz.map (·.1)).contains i with
         |false=>
          have XD:∀(idx j:Nat),(dz.map (·.1))[idx]? =some j->j≠i:=λidx j hj e=>by
           have:(dz.map (·.1)).contains i=true:=by
            rw[List.contains_iff_mem,<-e];exact List.mem_of_getElem? hj
           rw[aq] at this;cases this
          have fU:∀aB,aD φ (cN.getD i cB) aB->vY N ds ops m (dz.map (·.1)) cN o6 φ rv k y (listed.setIfInBounds i true) (a.put ops[i].dst aB):=λaB aC=>bh.put fq mH zn ho (qE ai) mG cg aC Pu
           (λidx j t ad ag ay=>by rw[a_ (XD idx j ag)];exact bh.zL idx j t ad ag ay) (λidx j ag=>⟨λah=>(bh.ord idx j ag).1 (ah.resolve_left (XD idx j ag)),λah=> .inr ((bh.ord idx j ag).2 ah)⟩)
          cases Py:qf kv i with
          |some v=>
           obtain⟨qC,op,cz,F'⟩:=BH i v Py;have F_:op=ops[i]:=by
            have e:(gQ (some (.draw id ops s ks)))[i]? =ops[i]? :=rfl;rw[e,ho] at cz;exact(Option.some.inj cz).symm
           subst F_;obtain⟨g1,g4⟩:=F' a w o2 (XC j0);refine⟨λ_ _=>trivial,?_⟩;rw[Oper.semAt_eq _ _ _ g4,g1,Oper.uponIn_value];exact cA _ _ w k y (fU _ (by rw[yj aq v Py];exact aD.vt φ v qC)) gX j0 mT aj
          |none=>
           obtain⟨sl,gK,aC⟩:=ahD aq Py;have ye:=F9 (λj ek=>by simp only [dq,List.getElem?_take,aY ek]) gK;obtain⟨aB,g1,g2,g3,g4⟩:=WW (w2:=w) b0 (xb j0) (gU (iG φ) ye.get) aC;have g1:(execOp a.eval ops[i]).run P w= .ok (.value aB) w:=g1;have g4:∀c,ops[i].op≠.defer c:=g4;refine⟨λ_ _=>trivial,?_⟩;rw[Oper.semAt_eq _ _ _ g4,g1,Oper.uponIn_value];exact cA _ _ w k y (fU _ g2) gX j0 mT aj
         |true=>
          have mU:i∈dz.map (·.1):=List.contains_iff_mem.1 aq;obtain⟨idx,zU,e0⟩:=List.mem_iff_getElem.1 mU;have e1:(dz.map (·.1))[idx]? =some i:=by rw[gi zU,e0]
          have r_:k=idx:=by
           rcases Nat.lt_trichotomy k idx with cg|heq|C9
           ·exfalso
            have ng:k<(dz.map (·.1)).length:=by omega
            have e2:=gi ng;have ha:=ahA idx k i _ cg e1 e2;have:=U6 i la _ ha listed bh.down (qE ai);have:=(bh.ord k _ e2).1 this;omega
           ·exact heq
           ·exfalso
            have:=(bh.ord idx i e1).2 C9;rw[uB] at this;cases this
          subst r_;obtain⟨op,cz,F'⟩:=jZ k i e1;have F_:op=ops[i]:=by
           have e:(gQ (some (.draw id ops s ks)))[i]? =ops[i]? :=rfl;rw[e,ho] at cz;exact(Option.some.inj cz).symm
          subst F_;have ng:k<dz.length:=by rw[List.length_map] at zU;exact zU
          refine F' a w _ _ y o2 (λidx j t ad ag ay=>bh.zL idx j t ad ag ay) (XC j0) (Nat.le_trans oX mT.size) j0.sp λfM w' cS dy gj=> ?_
          have XE:∀(qQ:Nat),(dz.map (·.1))[qQ]? =some i->qQ=k:=λqQ ag=>(List.getElem?_inj (List.getElem?_eq_some_iff.1 ag).1 fB).1 (ag.trans e1.symm)
          have ahE:vY N ds ops m (dz.map (·.1)) cN o6 φ rv (k+1) fM (listed.setIfInBounds i true) (a.put ops[i].dst (rv k fM)):=by
           refine bh.put fq mH zn ho (qE ai) mG cg ?_ Pu (λqQ j t ad ag ay=> ?_) (λqQ j ag=> ?_)
           ·rw[w8 aq]
            cases A8:qf cs i with
            |none=>exact .cB _
            |some v=>
             obtain⟨ih,hB⟩:=fT k i v e1 A8;rw[hB fM];exact aD.ky φ v ih
           ·by_cases ek:j=i
            ·rw[aY ek]
             rw[ek] at ag;rw[XE qQ ag]
            ·rw[a_ ek]
             have zV:qQ<k:=by
              rcases Nat.lt_or_ge qQ k with bf|bf
              ·exact bf
              ·exfalso
               have:qQ=k:=by omega
               subst this;rw[e1] at ag;cases ag;exact ek rfl
             rw[gj qQ zV];exact bh.zL qQ j t zV ag ay
           ·constructor
            ·rintro (ek|hl)
             ·rw[ek] at ag
              rw[XE qQ ag];omega
             ·have:=(bh.ord qQ j ag).1 hl
              omega
            ·intro zV
             rcases Nat.lt_or_ge qQ k with bf|bf
             ·exact .inr ((bh.ord qQ j ag).2 bf)
             ·have:qQ=k:=by omega
              subst this;rw[e1] at ag;cases ag;exact .inl rfl
          exact cA _ _ w' (k+1) fM ahE aj (j0.trans cS) (mT.trans dy) aj
      have aR:∀i,(Array.replicate ops.size false).getD i false=false:=λi=>by
       rw[fk,Array.getElem?_replicate];split<;>rfl
      have yD:cZ (aE jc) cc (aE jc) (L 0 vq):=by
       rw[Kh];exact cZ.refl (aI.at is ik hp yA)
      refine main ops.size _ a jc 0 vq ⟨by simp,λi j ai=>absurd ai (by rw[aR];simp),λi _=>aR i,aH.defers,aH.size,λt v aC=> ?_,λj t _ hl=>absurd hl (by rw[aR];simp),λidx j t cg=>absurd cg (Nat.not_lt_zero _),λidx j _=>⟨λhl=>absurd hl (by rw[aR];simp),λcg=>absurd cg (Nat.not_lt_zero _)⟩⟩ (Nat.zero_le _) yD (cj.refl _ _) ?_
      ·rcases oZ _ _ _ fq t v aC with ⟨j,hj,bg,rfl⟩|⟨_,aA⟩
       ·exact .cB _
       ·exact aH.get t v aA
      ·unfold ra
       exact Nat.le_trans List.count_le_length (by simp)
     ·cases bg
    ·cases bg
   ·cases bg
 ·cases bg
end AE
namespace AE
theorem XF {l:List J} {i:Nat} {d:J}:(⟨l⟩:Array J).getD i d=l.getD i d:=by
 simp [fk,dq]
def Gp:List J->Nat->Nat->Bool
 |[],_,_=>true
 |v::r,l2,i=>(Nat.beq i l2||plain v)&&Gp r l2 (i+1)
theorem XG:∀(l:List J) (l2 i0:Nat),Gp l l2 i0=true->∀i v,l[i]? =some v->i0+i≠l2->plain v=true
 |[],_,_,_,i,v,ai,_=>by simp at ai
 |x::r,l2,i0,h,i,v,ai,c1=>by
  unfold Gp at h;simp only [c8,Bool.or_eq_true] at h
  match i with
  |0=>
   simp only [List.getElem?_cons_zero,cQ] at ai;subst ai;exact h.1.resolve_left λe=>c1 (by have:=cI e;omega)
  |i+1=>exact XG r l2 (i0+1) h.2 i v (by simpa using ai) aj
def Kz (o:Option b1) (b t l2:Nat):Option (List J×Nat×Nat×List J):=
 match o with
 |some (.oper _ _ _ s _)=>match s.A.bl.get b with
  |some k=>match k.obj with
   | .cells cs=>bif Nat.beq k.eN 0&&(Nat.beq k.cT b&& !k.ro) then match s.sl.get t with
     |some (.agg ⟨fH⟩)=>match fH[l2]? with
      |some (.slice (some ⟨b',0,none⟩) n c)=>bif Nat.beq b' b&&Gp fH l2 0 then some (cs,n,c,fH) else none
      |_=>none
     |_=>none
     else none
   |_=>none
  |none=>none
 |_=>none
theorem Here.ahF [cV] {α:Type} {M:Mem} {bs:List J} {bm:Nat->List J} {N B:Nat} {st:b8} {w0 w:ax} {a:Act} {sl dO:aF} {l:List bx} {bN:eH} {b t q n c eU:Nat} {k:h6} {cs:List J} {enc:α->List J} {xs:List α} {fH:List J} {l2:Nat}
  (x6:∀x,(enc x).length=eU) (Bv:xs.length=n) (fc:0<n) (iy:n<=c) (ah: @Here (aX M bs) _ N st B w0 a w) (al:st.A.bl.get b=some k) (fK:k.obj= .cells cs) (FQ:k.eN=0) (oi:k.cT=b) (fT:dM cs=true) (p9: @ep (aX M bs) cs=xs.flatMap enc) (af:l.length<=b)
  (yw:st.sl.get t=some (.agg ⟨fH⟩)) (mW:fH[l2]? =some (.slice (some ⟨b,0,none⟩) n c)) (fD:∀i v,fH[i]? =some v->i≠l2->plain v=true) (dg:cr st sl l=some bN) (hm:∀M' g,fO (aX M bs) (aX M' (bm g)) bN) (fj:bY.set (.agg ⟨fH.set l2 (ak q)⟩) depth sl t=some dO) (bf:∀g,mi (bm g) q= .slice (some ⟨g,0,none⟩) n c)
  (av:cV.ev<=l.length) (ar:ix st.A l 0):
  ∃g M',cE M' eU enc (.slice (some ⟨g,0,none⟩) n c) xs/\B<=g/\M' g≠none/\h8 M M' none/\M g=none/\ @Here (aX M' (bm g)) _ N {sl:=dO,ms:=[],A:=da l} B w0 a w:=by
 obtain⟨⟨φ,ds,ad,ag,ay,bG,fR⟩,cJ,cU⟩:=ah;have CJ:= @fE.get (aX M bs) _ _ _ _ _ ag t _ yw;generalize hp0:a.tmps.getD t undef=ahG at CJ;obtain⟨Gq,rfl,cv,XH⟩:∃Gq,ahG= .agg Gq/\fH.length=Gq.size/\∀i,i<fH.length-> @aD (aX M bs) φ (fH.getD i undef) (Gq.getD i undef):=by
  cases CJ with
  |agg _ cs' g1 g2=>exact⟨cs',rfl,by simpa using g1,λi ai=>by simpa using g2 i (by simpa using ai)⟩
 have kL:l2<fH.length:=(List.getElem?_eq_some_iff.1 mW).1;have aC:=XH l2 kL;rw[getD_some mW] at aC;generalize hp:Gq.getD l2 undef=WL at aC;cases aC with
 |i_ _ _=>omega
 |iE _ _ _ he aw _ _=>
  obtain⟨de,cS,dy,gj⟩:= @b2.eE (aX M bs) _ _ _ ay b _ he;rw[al] at cS;cases cS;omega
 |iD _ _ he=>
  rename_i e;obtain⟨de,cS,dy,gj⟩:= @b2.eE (aX M bs) _ _ _ ay b e he;rw[al] at cS;cases cS;unfold fS at gj;rw[fK] at gj;obtain⟨c',jl,g1,g2,g3,g4,lb⟩:=gj;obtain⟨g6,g7⟩:=g3.2 FQ;have tc:M e.bn=none:=by
   cases ai:M e.bn with
   |none=>rfl
   |some o=>exact absurd rfl ((@b2.dn (aX M bs) _ _ _ ay e.bn o ai).2 b e he)
  let M':Mem:=λi=>if i=e.bn then some (.cells c' k.ty jl) else M i
  have qM:M' e.bn=some (.cells c' k.ty jl):=aY rfl;have uL:∀i o,M i=some o->M' i=some o:=λi o ai=>by
   show (if i=e.bn then _ else M i)=some o;rw[a_ (λh=>by rw[h,tc] at ai;cases ai)];exact ai
  have km:c'.toList=xs.flatMap enc:=by
   rw[<-p9];refine @aD.x1 (aX M bs) φ cs c'.toList fT (by simp [g7]) λi ai=> ?_
   have:=g4 i ai;rw[g6,Nat.zero_add] at this;simpa [fk] using this
  have nc:=dg;unfold cr at nc;have FR:∀b' x,l[b']? =some x->∃eU,st.A.bl.get b'=some eU/\eU.cT=b':=λb' x aq=>by
   split at nc
   ·cases hK:zA l with
    |false=>rw[hK] at nc;cases nc
    |true=>
     rw[hK,bF] at nc;obtain⟨eJ,zz,_,bE,_⟩:=uF nc;obtain⟨eU,o,cS,dy,_⟩:=Dr l 0 bE b' x aq;rw[Nat.zero_add] at cS dy;exact⟨eU,cS,dy⟩
   ·cases nc
  have aA:=Here.OQ (s2:=aX M' (bm e.bn)) dg (hm M' e.bn) ad ag ay bG fR cJ cU (λi o ai=>by
   by_cases qx:i=e.bn
   ·subst qx
    have:some (Obj.cells c' k.ty jl)=some o:=qM.symm.trans ai;cases this;refine⟨g1,λb' e' eh oY heq=> ?_⟩;obtain⟨eU,q1,aH⟩:=FR b' _ (gi eh);exact @b2.apart (aX M bs) _ _ _ ay b' e' eU b e k oY he q1 al (by rw[aH,oi];omega) heq
   ·have lQ:M i=some o:=by
     have:(if i=e.bn then some (Obj.cells c' k.ty jl) else M i)=some o:=ai
     rwa [a_ qx] at this
    obtain⟨q1,aH⟩:= @b2.dn (aX M bs) _ _ _ ay i o lQ
    exact⟨q1,λb' e' _ oY=>aH b' e' oY⟩) av ar
  have lV:cE M' eU enc (.slice (some ⟨e.bn,0,none⟩) n c) xs:=by
   subst Bv;refine .mk qM iy λi x aq j u hu=> ?_
   have:=zF x6 xs i x aq j u hu;rw[<-km] at this;rw[Nat.zero_add];simpa using this
  refine⟨e.bn,M',lV,bG b e he,(by rw[qM];simp),λi o ai _=>uL i o ai,tc,?_⟩;obtain⟨⟨fp,DJ,ih,hB,ux,s6,zo⟩,C_,AZ⟩:=aA;letI:=aX M' (bm e.bn);refine⟨⟨fp,DJ,ih,⟨hB.size,hB.defers,λdr aB mE=> ?_⟩,ux,s6,zo⟩,C_,AZ⟩;rw[bY.oh _ _ _ _ _ _ fj] at mE;split at mE
  ·rename_i aN
   cases mE;subst aN;rw[hp0];refine .agg _ _ (by simpa using cv) λi ai=> ?_
   have DU:i<fH.length:=by simpa using ai
   by_cases ov:i=l2
   ·subst ov
    have e9:(⟨fH.set i (ak q)⟩:Array J).getD i undef=ak q:=by
     rw[XF,dq,List.getElem?_set_self DU];rfl
    rw[e9,hp];have:=aD.sym (φ:=fp) q;have pv:a7.σ q=Value.slice (some ⟨e.bn,0,none⟩) n c:=bf e.bn;rw[pv] at this;rw[g6,Nat.zero_add];exact this
   ·have e:(⟨fH.set l2 (ak q)⟩:Array J).getD i undef=fH.getD i undef:=by
     rw[XF,dq,dq,List.getElem?_set_ne (Ne.symm ov)]
    rw[e];have BI:fH[i]? =some (fH.getD i undef):=by
     rw[gi DU,dq,gi DU];rfl
    have qC:=fD i _ BI ov;have xN:=XH i DU;have XI:= @aD.lf (aX M bs) _ _ _ qC xN;rw[XI];exact aD.ky fp _ qC
  ·exact hB.get dr aB mE
theorem XJ [cV] {α:Type} {P:aS} {N B:Nat} {w0:ax} {Q:Exit->Act->ax->Prop} {M:Mem} {bs:List J} {bm:Nat->List J} {o:Option b1} {sl dO:aF} {l:List bx} {bN:eH} {b t q n c eU:Nat} {cs:List J} {enc:α->List J} {xs:List α} {fH:List J} {l2:Nat}
  (h:Kz o b t l2=some (cs,n,c,fH)) (x6:∀x,(enc x).length=eU) (Bv:xs.length=n) (fc:0<n) (iy:n<=c) (fT:dM cs=true) (p9: @ep (aX M bs) cs=xs.flatMap enc) (af:l.length<=b)
  (dg:cr (b9 o) sl l=some bN) (hm:∀M' g,fO (aX M bs) (aX M' (bm g)) bN) (fj:bY.set (.agg ⟨fH.set l2 (ak q)⟩) depth sl t=some dO) (bf:∀g,mi (bm g) q= .slice (some ⟨g,0,none⟩) n c)
  (rest:∀M' g,cE M' eU enc (.slice (some ⟨g,0,none⟩) n c) xs->B<=g->M' g≠none->h8 M M' none->M g=none-> @fA (aX M' (bm g)) _ P N B w0 Q (lp {sl:=dO,ms:=[],A:=da l} o))
  (av:cV.ev<=l.length:=by first|exact Nat.zero_le _|exact gI rfl) (ar:ix (b9 o).A l 0:=by exact gW rfl): @fA (aX M bs) _ P N B w0 Q o:=by
 unfold Kz at h;split at h
 ·rename_i op r ops s ks
  split at h
  ·rename_i k al
   split at h
   ·rename_i cs' fK
    cases jL:(Nat.beq k.eN 0&&(Nat.beq k.cT b&& !k.ro)) with
    |false=>rw[jL] at h;cases h
    |true=>
     rw[jL,bF] at h;simp only [c8] at jL;split at h
     ·rename_i ahH yw
      split at h
      ·rename_i b' gd c' mW
       cases oW:(Nat.beq b' b&&Gp ahH l2 0) with
       |false=>rw[oW] at h;cases h
       |true=>
        rw[oW,bF] at h;simp only [c8] at oW;cases h;have FT:=cI oW.1;subst FT;refine⟨_,rfl,λa w ah=> ?_⟩;obtain⟨g,M',q1,aH,b0,eF,hz,ld⟩:=Here.ahF x6 Bv fc iy ah al fK (cI jL.1) (cI jL.2.1) fT p9 af yw mW (λi v ai c1=>XG _ l2 0 oW.2 i v ai aj) dg hm fj bf av ar;obtain⟨agn,e',ok⟩:=rest M' g q1 aH b0 eF hz;unfold lp at e';cases e';exact ok a w ld
      ·cases h
     ·cases h
   ·cases h
  ·cases h
 ·cases h
def XK (P:aS) (N m:Nat) (ct:List Nat) (cs kv:List (Nat×J)) (o:Option b1) (i:Nat):Option (FuncId×List J):=
 match (gQ o)[i]? with
 |some op=>match op.op with
  | .call c=>match c.callee with
    | .value (.func f)=>bif enters P f then some (f,c.args.toList.map (dH .nil (o8 P N m ct cs kv o i))) else none
    |_=>none
  |_=>none
 |none=>none
theorem xi.call [a7] {Y:Type} {P:aS} {M:Mem} {B N m k i:Nat} {ct:List Nat} {cs kv:List (Nat×J)} {o:Option b1} {f:FuncId} {args:List J} {cc:List cb} {rv:Nat->Y->J} {xj sy:Y->List cb} (h:XK P N m ct cs kv o i=some (f,args)) (hp:dM args=true)
  (fC:∀(w:ax) (y:Y),(∀i o,M i=some o->¬iI cc i->w.heap[i]? =some o)->B<=w.heap.size->cH (aE w) (xj y)->Calls P f ⟨ep args⟩ w λe' w'=>(∃fM,e'= .returned (rv k fM)/\cZ (aE w) (xj y) (aE w') (sy fM)/\∀idx,idx<k->rv idx fM=rv idx y)/\cj 0 w w'):
  ∃op,(gQ o)[i]? =some op/\xi P B M cc (gQ o) ct rv k op (o8 P N m ct cs kv o i) xj sy:=by
 unfold XK at h;split at h
 ·rename_i op cz
  split at h
  ·rename_i c vR
   split at h
   ·rename_i iQ pW
    cases he:enters P iQ with
    |false=>rw[he] at h;cases h
    |true=>
     rw[he,bF] at h;simp only [cQ,Prod.mk.injEq] at h;obtain⟨rfl,rfl⟩:=h;refine⟨op,cz,λa w K Q y o2 kM bw cX j0 cC=> ?_⟩;have gM:c.args.map a.eval=⟨ep (c.args.toList.map (dH .nil (o8 P N m ct cs kv o i)))⟩:=by
      have:=O3 o2 c.args.toList hp;rw[<-this];apply Array.ext';simp
     have fy:(execOp a.eval op).run P w= .ok (.enter iQ ⟨ep (c.args.toList.map (dH .nil (o8 P N m ct cs kv o i)))⟩) w:=by
      unfold execOp;rw[vR];simp only;refine c9 (a:={target:= .fn (.func iQ) #[],args:= #[]++c.args.map a.eval}) (by unfold resolve;rw[pW];rfl) ?_;simp only [Array.empty_append,gM];show (callFunc iQ (_++ #[])).run P w=_;rw[Array.append_empty];exact jD (E4 he _) w
     have fB:∀c',op.op≠.defer c':=λc' h=>by rw[vR] at h;cases h
     refine⟨λ_ _=>trivial,?_⟩;rw[Oper.semAt_eq _ _ _ fB,fy,Oper.uponIn_enter];refine⟨λh=>absurd h (by simp [Fr,Fence.wide]),?_⟩;refine CallsIn.mono (C3 (fC w y bw cX j0)) λe' w2 he=> ?_
     obtain⟨⟨fM,rfl,cS,dy⟩,hl⟩:=he;exact cC fM w2 cS hl dy
   ·cases h
  ·cases h
 ·cases h
end AE
namespace AE
mutual
theorem XL (s1 s2:a7) (h:s1.σ=s2.σ):∀v:J,@aJ s1 v= @aJ s2 v:=λv=>by
 unfold aJ;split
 ·rw[h]
 ·rw[XL s1 s2 h]
 ·rw[Gr s1 s2 h]
 ·rw[Gr s1 s2 h]
 ·rw[Gr s1 s2 h,Gr s1 s2 h]
 ·rfl
theorem Gr (s1 s2:a7) (h:s1.σ=s2.σ):∀l:List J,@ep s1 l= @ep s2 l
 |[]=>rfl
 |v::r=>by
  unfold ep;rw[XL s1 s2 h v,Gr s1 s2 h r]
end
def ao8 (P:aS) (N m:Nat) (ct:List Nat) (cs kv:List (Nat×J)) (o:Option b1) (i:Nat):Option gh:=
 match (gQ o)[i]? with
 |some op=>qD (dH .nil (o8 P N m ct cs kv o i)) op
 |none=>none
def Pz (ops:Array Oper) (ct:List Nat) (k:Nat) (x:Operand):J ⊕ Nat:=match x with
 | .tmp t=>match (List.range k).find? (λq=>match ct[q]? with|some j=>(match fz ops j with|some dr=>Nat.beq dr t|none=>false)|none=>false) with
   |some q=> .inr q
   |none=> .inl cB
 |_=> .inl cB
def yE (ops:Array Oper) (ct:List Nat) (k:Nat) (sl:aF) (x:Operand):J ⊕ Nat:=
 bif aM (dH .nil sl x) then .inl (dH .nil sl x) else Pz ops ct k x
def DV:List (J ⊕ Nat)->Bool
 |[]=>true
 | .inl v::r=>aM v&&DV r
 | .inr _::r=>DV r
def zW [a7] {Y:Type} (rv:Nat->Y->J) (y:Y):List (J ⊕ Nat)->List J
 |[]=>[]
 | .inl v::r=>aJ v::zW rv y r
 | .inr q::r=>rv q y::zW rv y r
theorem XM [a7] {Y:Type} {ops:Array Oper} {ct:List Nat} {k:Nat} {sl:aF} {a:Act} {rv:Nat->Y->J} {y:Y} (o2:∀x:Operand,aM (dH .nil sl x)=true->a.eval x=aJ (dH .nil sl x))
  (kM:∀(idx i:Nat) (t:Tmp),idx<k->ct[idx]? =some i->fz ops i=some t->a.tmps.getD t undef=rv idx y):∀(l:List Operand),DV (l.map (yE ops ct k sl))=true->l.map a.eval=zW rv y (l.map (yE ops ct k sl))
 |[],_=>rfl
 |x::l,h=>by
  have cA:=XM (ops:=ops) (ct:=ct) (k:=k) (sl:=sl) o2 kM l;rw[List.map_cons,List.map_cons];rw[List.map_cons] at h;cases af:aM (dH .nil sl x) with
  |true=>
   have e:yE ops ct k sl x= .inl (dH .nil sl x):=by unfold yE;rw[af];rfl
   rw[e] at h ⊢;unfold DV at h;simp only [c8] at h;unfold zW;rw[o2 x af,cA h.2]
  |false=>
   have e0:yE ops ct k sl x=Pz ops ct k x:=by unfold yE;rw[af];rfl
   unfold Pz at e0;cases x with
   |tmp t=>
    simp only at e0;split at e0
    ·rename_i q bf
     rw[e0] at h ⊢;unfold DV at h;unfold zW;have ad:=List.find?_some bf;have ag:=List.mem_range.1 (List.mem_of_find?_eq_some bf);split at ad
     ·rename_i j hj
      split at ad
      ·rename_i dr aN
       have:=cI ad;subst this;rw[cA h,<-kM q j dr ag hj aN];rfl
      ·cases ad
     ·cases ad
    ·rw[e0] at h;cases h
   |_=>rw[e0] at h;cases h
def DW (P:aS) (N m:Nat) (ct:List Nat) (cs kv:List (Nat×J)) (o:Option b1) (k i:Nat):Option (FuncId×List (J ⊕ Nat)):=
 match (gQ o)[i]? with
 |some op=>match op.op with
  | .call c=>match c.callee with
    | .value (.func f)=>bif enters P f then some (f,c.args.toList.map (yE (gQ o) ct k (o8 P N m ct cs kv o i))) else none
    |_=>none
  |_=>none
 |none=>none
theorem xi.KA [a7] {Y:Type} {P:aS} {M:Mem} {B N m k i:Nat} {ct:List Nat} {cs kv:List (Nat×J)} {o:Option b1} {f:FuncId} {args:List (J ⊕ Nat)} {cc:List cb} {rv:Nat->Y->J} {xj sy:Y->List cb} (h:DW P N m ct cs kv o k i=some (f,args)) (hp:DV args=true)
  (fC:∀(w:ax) (y:Y),(∀i o,M i=some o->¬iI cc i->w.heap[i]? =some o)->B<=w.heap.size->cH (aE w) (xj y)->Calls P f ⟨zW rv y args⟩ w λe' w'=>(∃fM,e'= .returned (rv k fM)/\cZ (aE w) (xj y) (aE w') (sy fM)/\∀idx,idx<k->rv idx fM=rv idx y)/\cj 0 w w'):
  ∃op,(gQ o)[i]? =some op/\xi P B M cc (gQ o) ct rv k op (o8 P N m ct cs kv o i) xj sy:=by
 unfold DW at h;split at h
 ·rename_i op cz
  split at h
  ·rename_i c vR
   split at h
   ·rename_i iQ pW
    cases he:enters P iQ with
    |false=>rw[he] at h;cases h
    |true=>
     rw[he,bF] at h;simp only [cQ,Prod.mk.injEq] at h;obtain⟨rfl,rfl⟩:=h;refine⟨op,cz,λa w K Q y o2 kM bw cX j0 cC=> ?_⟩;have gM:c.args.map a.eval=⟨zW rv y (c.args.toList.map (yE (gQ o) ct k (o8 P N m ct cs kv o i)))⟩:=by
      have:=XM o2 kM c.args.toList hp;rw[<-this];apply Array.ext';simp
     have fy:(execOp a.eval op).run P w= .ok (.enter iQ ⟨zW rv y (c.args.toList.map (yE (gQ o) ct k (o8 P N m ct cs kv o i)))⟩) w:=by
      unfold execOp;rw[vR];simp only;refine c9 (a:={target:= .fn (.func iQ) #[],args:= #[]++c.args.map a.eval}) (by unfold resolve;rw[pW];rfl) ?_;simp only [Array.empty_append,gM];show (callFunc iQ (_++ #[])).run P w=_;rw[Array.append_empty];exact jD (E4 he _) w
     have fB:∀c',op.op≠.defer c':=λc' h=>by rw[vR] at h;cases h
     refine⟨λ_ _=>trivial,?_⟩;rw[Oper.semAt_eq _ _ _ fB,fy,Oper.uponIn_enter];refine⟨λh=>absurd h (by simp [Fr,Fence.wide]),?_⟩;refine CallsIn.mono (C3 (fC w y bw cX j0)) λe' w2 he=> ?_
     obtain⟨⟨fM,rfl,cS,dy⟩,hl⟩:=he;exact cC fM w2 cS hl dy
   ·cases h
  ·cases h
 ·cases h
theorem KB {Y Z:Type} {P:aS} {f:FuncId} {args:Array J} {w:ax} {rv:Nat->Y->J} {k:Nat} {y:Y} {L n5:List cb} {sy:Y->List cb} {r:Z->J} (aw:cH (aE w) L) (is:List Nat) (ik:j6 L.length is=true) (hp:AE.pick L is=n5) (kp N xf:Z->List cb) (hl:∀z,(kp z).length=is.length) (bG:∀z,xf z=kp z++N z)
  (up:Z->Y) (ad:∀z,rv k (up z)=r z) (ag:∀z,sy (up z)=lI L is (kp z)++N z) (ay:∀z idx,idx<k->rv idx (up z)=rv idx y)
  (h:Calls P f args w λe' w'=>(∃z,e'= .returned (r z)/\cZ (aE w) n5 (aE w') (xf z))/\cj 0 w w'):
  Calls P f args w λe' w'=>(∃fM,e'= .returned (rv k fM)/\cZ (aE w) L (aE w') (sy fM)/\∀idx,idx<k->rv idx fM=rv idx y)/\cj 0 w w':=by
 refine h.mono λe w' he=> ?_
 obtain⟨⟨z,rfl,t⟩,ru⟩:=he;refine⟨⟨up z,by rw[ad],?_,ay z⟩,ru⟩;rw[ag];rw[bG] at t;exact cZ.lift aw is ik hp (hl z) t
theorem KC {p:Nat->Prop} (idx:Nat) (h:idx<0):p idx:=absurd h (Nat.not_lt_zero _)
theorem XO {p:Nat->Prop} {k:Nat} (ad:∀idx,idx<k->p idx) (ag:p k) (idx:Nat) (h:idx<k+1):p idx:=by
 rcases Nat.lt_or_ge idx k with ay|ay
 ·exact ad idx ay
 ·have:idx=k:=by omega
  subst this;exact ag
theorem ahI {p:Nat->J->Prop} {j:Nat} {u:J} {l:List (Nat×J)} (h:p j u) (hl:∀i v,qf l i=some v->p i v):∀i v,qf ((j,u)::l) i=some v->p i v:=λi v ai=>by
 unfold qf at ai;cases af:Nat.beq j i with
 |true=>
  rw[af,bF] at ai;cases ai;rw[<-cI af];exact h
 |false=>
  rw[af,eD] at ai;exact hl i v ai
theorem KD {Y:Type} {rv:Nat->Y->J} {cs:List (Nat×J)} {k i:Nat} {u:J} (h:qf cs i=some u) (hp:plain u=true) (ao:∀y,rv k y=u):∀v,qf cs i=some v->plain v=true/\∀y,rv k y=v:=λv aC=>by
 rw[h] at aC;cases aC;exact⟨hp,ao⟩
section
variable [a7] {P:aS}
theorem aV.XP {t:aK} {x:J} {a:Addr} (aq:aM x=true) (aN:P.underlying t=some (.pointer (P.pointee t))) (ex:aJ x= .pointer (some a)):aV P (.bin .eql t x (.pointer none),.bool false):=
 uH (b:= .pointer none) aq U U ex rfl λeb ec w=>by unfold gn;simp [eqGuard,run_eql_pointer_nil w t (some a) aN];rfl
end
theorem DX {P:aS} {f:FuncId} {args:Array J} {w:ax} {v:J} {L:List cb} (aw:cH (aE w) L) (h:Calls P f args w λe w'=>e= .returned v/\cj w.heap.size w w'):
  Calls P f args w λe w'=>(∃_:Unit,e= .returned v/\cZ (aE w) L (aE w') L)/\cj 0 w w':=
 h.mono λe w' he=>by
   obtain⟨rfl,hl⟩:=he;have al:∀i o,aE w i=some o->aE w' i=some o:=λi o ai=>by
    rw[show aE w' i=aE w i from hl.block i (Array.getElem?_eq_some_iff.1 ai).1];exact ai
   exact⟨⟨(),rfl,aw.mono λb o _ h=>al b o h,λi o ai _=>al i o ai,λb af=> .inl af⟩,hl.zero⟩
def kD {α:Type} (p:Nat->α->Prop):Nat->List α->Prop
 |_,[]=>True
 |q,x::l=>p q x/\kD p (q+1) l
theorem kD.nil {α:Type} {p:Nat->α->Prop} {q:Nat}:kD p q []:=trivial
theorem kD.cons {α:Type} {p:Nat->α->Prop} {q:Nat} {x:α} {l:List α} (h:p q x) (t:kD p (q+1) l):kD p q (x::l):=⟨h,t⟩
theorem kD.get {α:Type} {p:Nat->α->Prop}:∀{q:Nat} {l:List α},kD p q l->∀k i,l[k]? =some i->p (q+k) i
 |q,[],_,k,i,ai=>by simp at ai
 |q,x::l,h,k,i,ai=>by
  match k with
  |0=>simp only [List.getElem?_cons_zero,cQ] at ai;subst ai;exact h.1
  |k+1=>
   have:=kD.get h.2 k i (by simpa using ai);rw[show q+(k+1)=q+1+k by omega];exact this
def uQ (p:Nat->J->Prop):List (Nat×J)->Prop
 |[]=>True
 |x::l=>p x.1 x.2/\uQ p l
theorem uQ.nil {p:Nat->J->Prop}:uQ p []:=trivial
theorem uQ.cons {p:Nat->J->Prop} {j:Nat} {u:J} {l:List (Nat×J)} (h:p j u) (t:uQ p l):uQ p ((j,u)::l):=⟨h,t⟩
theorem uQ.get {p:Nat->J->Prop}:∀{l:List (Nat×J)},uQ p l->∀i v,qf l i=some v->p i v
 |[],_,i,v,h=>by cases h
 |(j,u)::l,h,i,v,ai=>ahI (p:=p) h.1 (uQ.get h.2) i v ai
theorem XQ [cV] {P:aS} {N B:Nat} {w0:ax} {Q:Exit->Act->ax->Prop} {M:Mem} {bs:List J} {Y:Type} {bm:Y->List J} {o:Option b1} {m:Nat} {dz cs kv:List (Nat×J)} {ct:List Nat} {L:Nat->Y->List cb} {rv:Nat->Y->J} {ef dK:aF} {a1:List bx} {bN:eH} {dG:Mem} {az n7 cc:List cb}
  (aI:bK B dG az M n7) (is:List Nat) (vm:dz.map (·.1)=ct) (ik:j6 n7.length is=true) (hp:AE.pick n7 is=cc)
  (cR:P.follows .mixedOrders=true) (h:(BF P N m ct cs kv o).isSome=true) (fB:ct.Nodup) (vq:Y) (Kh:L 0 vq=cc)
  (fT:kD (λk i=>∀v,qf cs i=some v->plain v=true/\∀y,rv k y=v) 0 ct)
  (BH:uQ (λi v=>aM v=true/\∃op,(gQ o)[i]? =some op/\ @XA (aX M bs) P M cc op (o8 P N m ct cs kv o i) v) kv)
  (jZ:kD (λk i=>∃op,(gQ o)[i]? =some op/\ @xi (aX M bs) Y P B M cc (gQ o) ct rv k op (o8 P N m ct cs kv o i) (L k) (L (k+1))) 0 ct)
  (dg:cr (BG P N m ct cs kv o) ef a1=some bN) (eL:uN N (gQ o) dz ef=some dK) (fD:dz.all (λp=>aM p.2)=true)
  (ca:∀y M',kD (λk (p:Nat×J)=> @aJ (aX M' (bm y)) p.2=rv k y) 0 dz) (hm:∀y M',fO (aX M bs) (aX M' (bm y)) bN)
  (rest:∀y M',cZ M cc M' (L dz.length y)->∀a6 w,@Here (aX M' (bm y)) _ N {sl:=dK,ms:=[],A:=da a1} B w0 a6 w->wpListIn (Fr none) 0 P (gQ o) (d' P (gC o) Q) (yy m o) a6 w)
  (av:cV.ev<=a1.length:=by first|exact Nat.zero_le _|exact gI rfl) (ar:ix (b9 o).A a1 0:=by exact gW rfl): @fA (aX M bs) _ P N B w0 Q o:=by
 subst vm;exact ahz aI is ik hp cR h fB vq Kh (λk i v al aC=>by have:=fT.get k i al;rw[Nat.zero_add] at this;exact this v aC) BH.get
  (λk i al=>by have:=jZ.get k i al;rw[Nat.zero_add] at this;exact this) dg eL fD (λy M' k p al=>by have:=(ca y M').get k p al;rw[Nat.zero_add] at this;exact this) hm rest av ar
end AE
namespace AE
def look:List J->Nat->Nat->J
 |[],_,_=> .bool false
 |v::r,n,k=>bif Nat.beq (n-1) k then v else look r (n-1) k
def fY:List J->Prop
 |[]=>True
 |v::r=>o3 v=v/\fY r
theorem DY:∀{l:List J},fY l->∀v∈l,o3 v=v
 |[],_,v,aC=>by cases aC
 |x::r,h,v,aC=>by
  rcases List.mem_cons.1 aC with rfl|aC
  ·exact h.1
  ·exact DY h.2 v aC
theorem KE:∀{l:List J},(∀v∈l,o3 v=v)->fY l
 |[],_=>trivial
 |x::r,h=>⟨h x (by simp),KE λv aC=>h v (List.mem_cons_of_mem _ aC)⟩
theorem ts {a b:List J} (ha:fY a) (af:fY b):fY (a++b):=KE λv aC=>by
 rcases List.mem_append.1 aC with h|h
 ·exact DY ha v h
 ·exact DY af v h
theorem qg {a:List J} (ha:fY a):fY a.reverse:=KE λv aC=>DY ha v (by simpa using aC)
theorem KF:∀(env:List J) (n k:Nat),env.length=n->look env n k=env.reverse.getD k (.bool false)
 |[],n,k,_=>by simp [look]
 |v::r,n,k,h=>by
  simp only [List.length_cons] at h;unfold look;rw[List.reverse_cons,dq];by_cases al:k=r.length
  ·subst al
   rw[show Nat.beq (n-1) r.length=true by rw[show n-1=r.length by omega];exact Nat.beq_refl _,bF,List.getElem?_append_right (by simp)];simp
  ·rw[show Nat.beq (n-1) k=false by cases af:Nat.beq (n-1) k with|false=>rfl|true=>exact absurd (cI af) aj,eD,KF r (n-1) k aj,dq]
   by_cases cg:k<r.length
   ·rw[List.getElem?_append_left (by simpa using cg)]
   ·rw[List.getElem?_eq_none (by simpa using by omega),List.getElem?_eq_none (by simp;omega)]
mutual
def ex (env:List J) (n:Nat):J->J
 | .complex .f64 k b=>bif Nat.beq b 0 then (bif Nat.blt k eZ then look env n k else .pointer (some ⟨k-eZ,0,none⟩)) else .complex .f64 k b
 | .iface t v=> .iface t (ex env n v)
 | .agg ⟨l⟩=> .agg ⟨hO env n l⟩
 | .tuple ⟨l⟩=> .tuple ⟨hO env n l⟩
 | .func (.func f) ⟨a⟩ ⟨b⟩=> .func (.func f) ⟨hO env n a⟩ ⟨hO env n b⟩
 |v=>v
def hO (env:List J) (n:Nat):List J->List J
 |[]=>[]
 |v::r=>ex env n v::hO env n r
end
abbrev cY (M:Mem) (env:List J):a7:=aX M env.reverse
theorem ahJ (M:Mem) {env:List J} {n:Nat} (h:fY env) (av:env.length=n) (k:Nat):(cY M env).σ k=bif Nat.blt k eZ then look env n k else .pointer (some ⟨k-eZ,0,none⟩):=by
 show mi env.reverse k=_;unfold mi;cases al:Nat.blt k eZ with
 |false=>rfl
 |true=>
  rw[bF,bF,KF env n k av];by_cases cg:k<env.length
  ·rw[dq,gi (by simpa using cg)]
   exact DY (qg h) _ (List.getElem_mem (by simpa using cg))
  ·rw[dq,List.getElem?_eq_none (by simpa using by omega)]
   rfl
mutual
theorem lK (M:Mem) {env:List J} {n:Nat} (h:fY env) (av:env.length=n):∀v:J,@aJ (cY M env) v=ex env n v:=by
 intro v;unfold aJ ex;split
 ·rename_i k b
  dsimp only;cases Nat.beq b 0 with
  |true=>rw[bF,bF];exact ahJ M h av k
  |false=>rfl
 ·dsimp only;rw[lK M h av]
 ·dsimp only;rw[tt M h av]
 ·dsimp only;rw[tt M h av]
 ·dsimp only;rw[tt M h av,tt M h av]
 ·rename_i ad ag ay bG cJ
  split
  ·exact absurd rfl (ad _ _)
  ·exact absurd rfl (ag _ _)
  ·exact absurd rfl (ay _)
  ·exact absurd rfl (bG _)
  ·exact absurd rfl (cJ _ _ _)
  ·rfl
theorem tt (M:Mem) {env:List J} {n:Nat} (h:fY env) (av:env.length=n):∀l:List J,@ep (cY M env) l=hO env n l
 |[]=>rfl
 |v::r=>by
  unfold ep hO;rw[lK M h av,tt M h av]
end
mutual
def kV (n:Nat):J->Bool
 | .complex .f64 k b=>bif Nat.beq b 0 then Nat.blt k n|| !Nat.blt k eZ else true
 | .iface _ v=>kV n v
 | .agg ⟨l⟩=>o9 n l
 | .tuple ⟨l⟩=>o9 n l
 | .func (.func _) ⟨a⟩ ⟨b⟩=>o9 n a&&o9 n b
 |_=>true
def o9 (n:Nat):List J->Bool
 |[]=>true
 |v::r=>kV n v&&o9 n r
end
mutual
theorem nm {n m:Nat} (hle:n<=m):∀v:J,kV n v=true->kV m v=true:=by
 intro v h;unfold kV at h ⊢;split at h
 ·rename_i k b
  cases af:Nat.beq b 0 with
  |true=>
   rw[af,bF,Bool.or_eq_true] at h;rw[bF,Bool.or_eq_true];rcases h with h|h
   ·exact .inl (Nat.blt_eq.mpr (Nat.lt_of_lt_of_le (Nat.blt_eq.mp h) hle))
   ·exact .inr h
  |false=>rfl
 ·exact nm hle _ h
 ·exact DZ hle _ h
 ·exact DZ hle _ h
 ·rename_i a b
  simp only [c8] at h ⊢;exact⟨DZ hle _ h.1,DZ hle _ h.2⟩
 ·rfl
theorem DZ {n m:Nat} (hle:n<=m):∀l:List J,o9 n l=true->o9 m l=true
 |[],_=>rfl
 |v::r,h=>by
  unfold o9 at h ⊢;simp only [c8] at h ⊢;exact⟨nm hle v h.1,DZ hle r h.2⟩
end
def n_ (n:Nat) (s1 s2:a7):Prop:=∀k,k<n\/eZ<=k->s1.σ k=s2.σ k
mutual
theorem kW {n:Nat} {s1 s2:a7} (ha:n_ n s1 s2):∀v:J,kV n v=true-> @aJ s1 v= @aJ s2 v:=by
 intro v h;unfold kV at h;unfold aJ;split at h
 ·rename_i k b
  dsimp only;cases af:Nat.beq b 0 with
  |true=>
   rw[af,bF] at h;rw[bF,bF];refine ha k ?_;rw[Bool.or_eq_true] at h;rcases h with h|h
   ·exact .inl (Nat.blt_eq.mp h)
   ·refine .inr ?_
    have:¬k<eZ:=λal=>by rw[Nat.blt_eq.mpr al] at h;cases h
    omega
  |false=>rfl
 ·dsimp only;rw[kW ha _ h]
 ·dsimp only;rw[BJ ha _ h]
 ·dsimp only;rw[BJ ha _ h]
 ·rename_i a b
  dsimp only;simp only [c8] at h;rw[BJ ha _ h.1,BJ ha _ h.2]
 ·rename_i ad ag ay bG cJ
  split
  ·exact absurd rfl (ad _ _)
  ·exact absurd rfl (ag _ _)
  ·exact absurd rfl (ay _)
  ·exact absurd rfl (bG _)
  ·exact absurd rfl (cJ _ _ _)
  ·rfl
theorem BJ {n:Nat} {s1 s2:a7} (ha:n_ n s1 s2):∀l:List J,o9 n l=true-> @ep s1 l= @ep s2 l
 |[],_=>rfl
 |v::r,h=>by
  unfold o9 at h;simp only [c8] at h;unfold ep;rw[kW ha v h.1,BJ ha r h.2]
end
theorem uR (M M':Mem) {env df:List J} {n:Nat} (av:env.length=n):n_ n (cY M env) (cY M' (df++env)):=by
 intro k al;show mi env.reverse k=mi (df++env).reverse k;unfold mi;cases af:Nat.blt k eZ with
 |false=>rfl
 |true=>
  rw[bF,bF];have cg:=Nat.blt_eq.mp af;have dD:k<env.length:=by omega
  congr 1;rw[List.reverse_append,dq,dq,List.getElem?_append_left (by simpa using dD)]
structure ju (P:aS) where
 α:Type
 KG:α
 e:aK
 k:Nat
 bytes:Nat
 enc:α->List J
 len:∀x,(enc x).length=k
 one:∀x,∀u∈enc x,u.oneCell'=true
 pos:0<k
 size:bk P (sizeOf e)=some k
 info:∃i z,P.info? e=some i/\i.zero=some z/\i.size=k/\i.bytes=bytes/\z.cells.size=k
variable {P:aS}
structure iW (P:aS) where
 K:ju P
 v:J
 l:List K.α
def iW.ok (r:iW P) (M:Mem):Prop:=cE M r.K.k r.K.enc r.v r.l
inductive bd (P:aS) where
 |box (g:Nat) (ty:aK) (cs:List J)
 |arr (K:ju P) (v:J) (l:List K.α)
 |iT (K:ju P) (v:J) (l:List K.α)
 |red (K:ju P) (v:J) (l:List K.α)
 |any (R:cb)
def bd.res:bd P->cb
 | .box g ty cs=>dW g ty cs
 | .arr K v l=>hr K.e K.k K.enc v l
 | .iT K v l=>nK K.e K.k K.enc v l
 | .red K v l=>p7 K.k K.enc v l
 | .any R=>R
abbrev cP (L:List (bd P)):List cb:=L.map bd.res
def bd.XR:bd P->Option (iW P)
 | .arr K v l=>some ⟨K,v,l⟩
 | .iT K v l=>some ⟨K,v,l⟩
 | .red K v l=>some ⟨K,v,l⟩
 |_=>none
theorem l3 {L:List (bd P)} {i:Nat} {r:bd P} (h:L[i]? =some r):(cP L)[i]? =some r.res:=by
 rw[List.getElem?_map,h];rfl
def hv (ro:List (iW P)) (M:Mem):Prop:=∀(i:Nat) (r:iW P),ro[i]? =some r->r.ok M
def qh (dG:Mem) (az:List cb) (M:Mem):Prop:=∀i o,dG i=some o->¬iI az i->M i=some o
theorem PA {B:Nat} {dG M:Mem} {az:List cb} {L:List (bd P)} (h:bK B dG az M (cP L)) {i:Nat} {d:bd P} (ai:L[i]? =some d) {r:iW P} (ao:d.XR=some r):r.ok M:=by
 have aA:=l3 ai;cases d<;>cases ao
 ·exact(h.arr i aA).arr (ju.len _)
 ·exact(h.iT i aA).arr (ju.len _)
 ·exact h.red i aA
theorem PB {M:Mem} {L:List (bd P)} (h:cH M (cP L)) {i:Nat} {d:bd P} (ai:L[i]? =some d) {r:iW P} (ao:d.XR=some r):r.ok M:=by
 have aA:=l3 ai;cases d<;>cases ao
 ·exact(h.arr i aA).arr (ju.len _)
 ·exact(h.iT i aA).arr (ju.len _)
 ·exact h.red i aA
theorem Gs {B:Nat} {dG M:Mem} {az L:List cb} (h:bK B dG az M L):qh dG az M:=λ_ _ ai av=>h.kept ai av
end AE
namespace AE
def Gt:List (Nat×Operand)->Nat->Bool
 |[],_=>true
 |p::r,i=>Nat.beq p.1 i&&Gt r (i+1)
def PC:Option b1->Option (aK×List J)
 |some (.oper o _ ops s _)=>match o.op with
  | .buildSlice t n ⟨ps⟩=>bif Gt ps 0&&(Nat.beq ps.length n&&(Nat.blt 0 n&&Nat.ble n 1000)) then match q_ ops o s.sl with
    |some true=>some (t,ps.map λp=>dH .nil s.sl p.2)
    |_=>none
    else none
  |_=>none
 |_=>none
def Gu:Nat->List J->List (Nat×J)
 |_,[]=>[]
 |i,u::r=>(i,u)::Gu (i+1) r
theorem XS {f:Operand->J}:∀(ps:List (Nat×Operand)) (i:Nat),Gt ps i=true->ps.map (λp=>(p.1,f p.2))=Gu i (ps.map λp=>f p.2)
 |[],_,_=>rfl
 |p::r,i,h=>by
  unfold Gt at h;rw[c8] at h;rw[List.map_cons,List.map_cons,cI h.1,XS r (i+1) h.2];rfl
theorem XT:∀(l:List J) (off k:Nat) (cs:Array J),off+k+l.length<=cs.size->((l.zipIdx k).foldl (λ(cs:Array J) (p:J×Nat)=>cs.setIfInBounds (off+p.2) p.1) cs).toList=cs.toList.take (off+k)++l++cs.toList.drop (off+k+l.length)
 |[],off,k,cs,h=>by simp
 |u::l,off,k,cs,h=>by
  simp only [List.zipIdx_cons,List.foldl_cons];simp only [List.length_cons] at h;rw[XT l off (k+1) _ (by simp only [Array.size_setIfInBounds];omega)];have al:off+k<cs.toList.length:=by rw[Array.length_toList];omega
  rw[Array.toList_setIfInBounds,List.take_set,List.drop_set,aY aj,show off+(k+1)=off+k+1 by omega];rw[List.take_add_one,gi al];rw[List.set_append_right _ _ (by rw[List.length_take];omega)];simp only [List.length_take,Option.toList_some];rw[show off+k-min (off+k) cs.toList.length=0 by omega];simp only [List.set_cons_zero,List.length_cons];rw[show off+k+1+l.length=off+k+(l.length+1) by omega];simp
theorem XU {k:Nat}:∀(us:List J) (i0:Nat) (cs:Array J),(∀u∈us,u.cells.size=k)->cs.size=(i0+us.length)*k->∃r,Instr.fill (λi=>some (i*k,k)) cs (Gu i0 us)=some r/\r.toList=cs.toList.take (i0*k)++us.flatMap (λu=>u.cells.toList)
 |[],i0,cs,_,ar=>⟨cs,rfl,by
  rw[List.flatMap_nil,List.append_nil,List.take_of_length_le];rw[Array.length_toList,ar]
  exact ch _⟩
 |u::us,i0,cs,hu,ar=>by
  have al:=hu u List.mem_cons_self;simp only [List.length_cons] at ar;have PD:cs.size=i0*k+k+us.length*k:=by
   rw[ar,Nat.add_mul,Nat.add_mul];omega
  unfold Gu Instr.fill;dsimp only;rw[a_ (by simp only [al,PD];simp)];have aw:=XT u.cells.toList (i0*k) 0 cs (by rw[Array.length_toList];omega);rw[Array.length_toList,al,Nat.add_zero] at aw;generalize fT:u.cells.zipIdx.foldl (λcs (x:J×Nat)=>cs.setIfInBounds (i0*k+x.2) x.1) cs=cs';have XV:cs'.toList=cs.toList.take (i0*k)++u.cells.toList++cs.toList.drop (i0*k+k):=by
   rw[<-fT,<-aw,<-Array.foldl_toList,Array.toList_zipIdx]
  have hl:cs'.size=(i0+1+us.length)*k:=by
   rw[<-Array.length_toList,XV];simp only [List.length_append,List.length_take,List.length_drop,Array.length_toList,al,PD];rw[Nat.add_mul,Nat.add_mul];omega
  obtain⟨r,ad,ag⟩:=XU us (i0+1) cs' (λx aq=>hu x (List.mem_cons_of_mem _ aq)) hl;refine⟨r,ad,?_⟩;rw[ag,XV,List.flatMap_cons,<-List.append_assoc];congr 1;have hle:(cs.toList.take (i0*k)++u.cells.toList).length=(i0+1)*k:=by
   simp only [List.length_append,List.length_take,Array.length_toList,al,PD];rw[Nat.add_mul];omega
  rw[List.take_append_of_le_length (Nat.le_of_eq hle.symm),List.take_of_length_le (Nat.le_of_eq hle)]
theorem XW (env:List J) (n:Nat):∀l:List J,(hO env n l).length=l.length
 |[]=>rfl
 |_::r=>by unfold hO;rw[List.length_cons,List.length_cons,XW env n r]
theorem XX {α:Type} {k:Nat} {enc:α->List J} (al:∀x,(enc x).length=k):∀(us:List J) (l:List α),us.map Value.cells=l.map (λy=>⟨enc y⟩)->(∀u∈us,u.cells.size=k)/\us.flatMap (λu=>u.cells.toList)=l.flatMap enc/\us.length=l.length
 |[],[],_=>⟨(λu hu=>by cases hu),rfl,rfl⟩
 |u::us,y::l,h=>by
  simp only [List.map_cons,List.cons.injEq] at h;obtain⟨ad,ag,ay⟩:=XX al us l h.2;refine⟨λv aC=> ?_,by rw[List.flatMap_cons,List.flatMap_cons,ag,h.1],by rw[List.length_cons,List.length_cons,ay]⟩;rcases List.mem_cons.1 aC with rfl|aC
  ·rw[h.1];simpa using al y
  ·exact ad v aC
theorem XY [a7] {N:Nat} {ds:List Deferred} {φ:b4} {sl:aF} {a:Act} (h:fE N ds φ sl a):∀(ps:List (Nat×Operand)),dM (ps.map λp=>dH .nil sl p.2)=true->ps.map (λp=>a.eval p.2)=ep (ps.map λp=>dH .nil sl p.2)
 |[],_=>rfl
 |p::r,hp=>by
  have CM:(aM (dH .nil sl p.2)&&dM (r.map λp=>dH .nil sl p.2))=true:=hp;rw[c8] at CM;rw[List.map_cons,List.map_cons];show _=aJ (dH .nil sl p.2)::ep (r.map λp=>dH .nil sl p.2);rw[<-XY h r CM.2,aD.jj _ CM.1 (gU (iG φ) h.get p.2)]
theorem ahK [cV] {α:Type} {P:aS} {N B:Nat} {w0:ax} {Q:Exit->Act->ax->Prop} {M:Mem} {bs:List J} {o:Option b1} {t e:aK} {k:Nat} {z eO:J} {xs us:List J} {enc:α->List J} {l:List α} {bm:Option Addr->Nat->List J} {ef dK:aF} {a1:List bx} {bN:eH}
  (h:PC o=some (t,xs)) (aN:P.underlying t=some (.slice e)) (o0:bk P (sizeOf e)=some k) (J5:bk P (zeroValue e)=some z) (h1:0<k) (oo:k<=1000) (al:∀x,(enc x).length=k)
  (dg:cr (b9 o) ef a1=some bN) (eL:g' N ef (kc o) eO=some dK) (fD:aM eO=true) (aq:dM xs=true) (ex: @ep (aX M bs) xs=us) (hu:us.map Value.cells=l.map λy=>⟨enc y⟩)
  (hm:∀M' a c,fO (aX M bs) (aX M' (bm a c)) bN) (aC:∀M' a c,@aJ (aX M' (bm a c)) eO= .slice a l.length c)
  (rest:∀M' a c,dw B M' e k enc (.slice a l.length c) l->h8 M M' none->(∀i,some i=eP (.slice a l.length c)->M i=none)->∀a6 w,@Here (aX M' (bm a c)) _ N {sl:=dK,ms:=[],A:=da a1} B w0 a6 w->wpListIn (Fr none) 0 P (kP o) (d' P (gC o) Q) (kO o) a6 w)
  (av:cV.ev<=a1.length:=by first|exact Nat.zero_le _|exact gI rfl) (ar:ix (b9 o).A a1 0:=by exact gW rfl): @fA (aX M bs) _ P N B w0 Q o:=by
 letI:=aX M bs;unfold PC at h;split at h
 ·rename_i op r ops s ks
  refine⟨_,rfl,λa w ah=> ?_⟩;split at h
  ·rename_i dr gd ps cz
   cases af:Gt ps 0&&(Nat.beq ps.length gd&&(Nat.blt 0 gd&&Nat.ble gd 1000)) with
   |false=>rw[af] at h;cases h
   |true=>
    rw[af,bF] at h;simp only [c8] at af;obtain⟨kk,jC,ud,pw⟩:=af;have jC:=cI jC;have ud:=Nat.blt_eq.mp ud;have pw:=Nat.ble_eq.mp pw;split at h
    ·rename_i jP
     cases h;have hF:=ah;obtain⟨⟨φ,ds,ad,ag,ay,bG,_⟩,cJ,cU⟩:=ah;unfold wpListIn;rw[py ag.get jP,aY rfl];obtain⟨hA,c2,c3⟩:=XX al us l hu;have hlen:us.length=gd:=by
      rw[<-ex,Nc,List.length_map,List.length_map,jC]
     have o4:ps.map (λp=>a.eval p.2)=us:=(XY ag ps aq).trans ex;have hw:∀i o,M i=some o->w.heap[i]? =some o:=hF.nY;obtain⟨row,f1,f2⟩:=XU us 0 ((Array.range (gd*k)).map (z.cells[· %z.cells.size]!)) hA (by rw[Array.size_map,Array.size_range,Nat.zero_add,hlen]);have f2:row.toList=l.flatMap enc:=by rw[f2,Nat.zero_mul,List.take_zero,List.nil_append,c2]
     let w':ax:={w with heap:=w.heap.push (.cells row e)}
     have Kk:0<gd*k:=Nat.mul_pos ud h1;have ao9:gd*k<=1000000:=Nat.le_trans (Nat.mul_le_mul pw oo) cw;have fy:(execOp a.eval op).run P w= .ok (.value (.slice (some ⟨w.heap.size,0,none⟩) gd gd)) w':=by
      unfold execOp;rw[cz];simp only [List.map_toArray];rw[XS ps 0 kk,o4];have af:(Instr.buildSlice t gd (Gu 0 us).toArray).run P w= .ok (.slice (some ⟨w.heap.size,0,none⟩) gd gd) w':=by
       unfold Instr.buildSlice;refine dm (run_underlying aN w) ?_;simp only;refine c9 o0 ?_;rw[a_ aj];rw[a_ aj];refine c9 J5 ?_;refine c9 (a:=z.cells) rfl ?_;simp only [f1];simp [newRow,newObj,Sem.run,w']
      simp only [Sem.run_bind,af,Result.andThen_ok];rfl
     have fB:∀c',op.op≠.defer c':=λc' h=>by rw[cz] at h;cases h
     refine⟨λ_ _=>trivial,?_⟩;rw[Oper.semAt_eq _ _ _ fB,fy,Oper.uponIn_value];obtain⟨q1,aH⟩:=qK (B:=B) (M:=M) (w:=w) (w':=w') (T:=none) (bt:=some w.heap.size) hw (λi h=>by cases h) (λi ai=> .inr (by cases ai;exact ch _)) ⟨rfl,rfl,rfl⟩ (ch _) (by simp [w']) (λi ai _=>by
      show (w.heap.push _)[i]? =_
      rw[Array.getElem?_push,a_ aj])
     have lh:l.length=gd:=c3.symm.trans hlen;have yq:(l.flatMap enc).length=gd*k:=by rw[rm al l,lh]
     have cO:dw B (h9 M w' none (some w.heap.size)) e k enc (.slice (some ⟨w.heap.size,0,none⟩) l.length gd) l:=by
      refine .inr ⟨w.heap.size,gd,row,rfl,aj,cU,?_,Nat.le_of_eq lh,by simp only [maxLen];omega,by rw[<-Array.length_toList,f2,yq],by rw[f2,lh];exact List.take_of_length_le (Nat.le_of_eq yq)⟩;unfold h9;rw[aY rfl];show (w.heap.push _)[w.heap.size]? =_;rw[Array.getElem?_push,aY rfl]
     have hV:=Here.turns (vals':=bm (some ⟨w.heap.size,0,none⟩) gd) dg (hm _ _ _) q1 av ar hF;letI:=aX (h9 M w' none (some w.heap.size)) (bm (some ⟨w.heap.size,0,none⟩) gd);have lX:=Here.put (d:=op.dst) hV (v:=eO) fD eL;rw[aC,lh] at lX;refine rest _ _ _ cO aH (λj hj=> ?_) _ w' lX;rw[nZ _ _ aj] at hj;cases hj;exact zJ hw (ch _)
    ·cases h
  ·cases h
 ·cases h
end AE
namespace AE
inductive bX where
 |o (f:gh) (r:J) (m:Nat) (h:List Nat) (k:bX)
 |s (f:gh) (h:List Nat) (de dv:bX)
 |c (f:FuncId) (args:List J) (r:J) (m:Nat) (k:bX)
 |cs (f:FuncId) (args:List J) (de dv:bX)
 |e_ (x:J) (de dv:bX)
 |vZ (x:J) (de dv:bX) (m:Nat) (k:bX)
 |ret (v:J)
 |back (vs:List J)
 |loop (vs:List J) (m:Nat) (k:bX)
 |fH (k:bX)
 |st (t:aK) (p x:J) (k:bX)
 |yF (t:aK) (s:J) (c:List J) (k:bX)
 |xk (t:aK) (s x:J) (k:bX)
 |mk (t:aK) (x:J) (k:bX)
 |uS (c:List J) (m cap:Nat) (k:bX)
 |lt (t:aK) (x:J) (k:bX)
 |tu (t:aK) (x:J) (k:bX)
 |qR (t:aK) (k:bX)
 |call (f:FuncId) (args:List J) (r:J) (m:Nat) (k:bX)
 |no
 |zX (t:aK) (xs:List J) (k:bX)
 |alt (de dv:bX)
 |sm (t:aK) (s:J) (c:List J) (k:bX)
 |tv (t:aK) (x:J)
inductive jq where
 |k (x:ll) (ks:List fl)
 |ops (r:List Oper) (ops:Array Oper) (ks:List fl)
 |any (bq:Nat) (os:Array Oper) (listed:Array Bool) (ks:List fl)
abbrev j8:=List (gh×J)
abbrev ke:=List (FuncId×List J×J)
def ahL (P:aS) [Lib P] (F:j8) (T:ke) (N bq d:Nat) (ks:List fl) (x:ll) (s:b8):Option b1:= @resume P _ ⟨F⟩ (@s_ P _ ⟨F⟩ ⟨T⟩ .nil bq d) N bq ks x s
def jq.run (P:aS) [Lib P] (F:j8) (T:ke) (N d:Nat):jq->b8->Option b1
 | .k x ks,s=>ahL P F T N 1000 d ks x s
 | .ops r os ks,s=>Bc P F T N 1000 d r os ks s
 | .any ..,_=>none
def jq.lr (P:aS) (Q:Exit->Act->ax->Prop):jq->Act->ax->Prop
 | .k x ks,a,w=>d' P ks Q x.exit' a w
 | .ops r os ks,a,w=>wpListIn (Fr none) 0 P os (d' P ks Q) r a w
 | .any bq os listed ks,a,w=>wpAnyIn (Fr none) 0 P .any os (d' P ks Q) bq listed a w
structure jk where
 sl:aF
 a1:List bx
 n:Nat
 m:Nat
 ks:List fl
structure D0 where
 rD:List FuncId:=[]
 marks:List aK:=[]
 cells:List (Nat×Nat×Nat):=[]
 ahM:List (Nat×Nat):=[]
 KH:List (Nat×List Nat):=[]
 gE:List (Nat×Bool):=[]
 d:Nat:=0
structure je extends D0 where
 N:Nat
 fn:Func
def Gv (l:List aK):j8:=l.map λ(t:Nat)=>(.ea (.int .i64 (t:Int)),.int .i64 (t:Int))
def l4:Nat->Nat->List J
 |0,_=>[]
 |m+1,n=>ak n::l4 m (n+1)
def Gw (P:aS) (t:aK) (n:Nat):Option (J×Nat):=
 match bk P (isAgg t) with
 |some true=>match bk P (sizeOf t) with
  |some m=>some (.agg ⟨l4 m n⟩,m)
  |none=>none
 |_=>some (ak n,1)
def XZ (P:aS):List aK->Nat->Option (List J×Nat)
 |[],_=>some ([],0)
 |t::r,n=>match Gw P t n with
  |some (v,m)=>match XZ P r (n+m) with
   |some (vs,m')=>some (v::vs,m+m')
   |none=>none
  |none=>none
def ahN (P:aS) (t:aK) (n:Nat):Option (J×Nat):=
 match P.underlying t with
 |some (.tuple c7)=>match XZ P c7.toList n with
  |some (vs,m)=>some (.tuple ⟨vs⟩,m)
  |none=>none
 |_=>Gw P t n
def Gx (P:aS) (t:aK):Bool:=match P.underlying t with|some .bool=>true|_=>false
def PE (ops:Array Oper) (d:Option Tmp):Bool:=
 match d with
 |none=>false
 |some d=>ops.any λo=>(match o.guard with
   |some (j,_)=>match ops[j]? with
    |some o'=>match o'.dst with
     |some t=>Nat.beq t d
     |none=>false
    |none=>false
   |none=>false)||(match o.op with
   | .pick (.tmp t) _ _=>Nat.beq t d
   |_=>false)
def ahO:BinOp->Bool
 | .eql| .neq| .lss| .leq| .gtr| .geq=>true
 |_=>false
def X0 (P:aS) (t:aK):aK:=match P.underlying t with
 |some (.array _ e)=>e
 |some (.slice e)=>e
 |some (.map _ e)=>e
 |_=>0
def X1 (P:aS) (n:Nat):gh->Option (J×Nat×Bool)
 | .bin op _ _ _=>some (ak n,1,ahO op)
 | .un op _=>some (ak n,1,decide (op= .not))
 | .bB t _=>(Gw P t n).map λx=>(x.1,x.2,Gx P t)
 | .fW t _ _=>match P.underlying t with
   |some (.array _ e)=>(Gw P e n).map λx=>(x.1,x.2,Gx P e)
   |_=>some (ak n,1,false)
 | .mB t _ _ ok=>(Gw P (X0 P t) n).map λx=>bif ok then (.tuple #[x.1,ak (n+x.2)],x.2+1,false) else (x.1,x.2,Gx P (X0 P t))
 | .ea _=>none
 |_=>some (ak n,1,false)
def X2 (P:aS):gh->List Nat
 | .cq t _ f=>match (P.fieldsOf t)[f]? with
   |some iv=>[iv.offset,iv.type,(bk P (sizeOf iv.type)).getD 0]
   |none=>[]
 | .dB t _ _=>match P.underlying t with
   |some (.array n e)=>[1,n,e,(bk P (sizeOf e)).getD 0]
   |some (.slice e)=>[0,e,(bk P (sizeOf e)).getD 0]
   |_=>[]
 | .bB t _=>[(bk P (sizeOf t)).getD 0]
 | .fW t _ _=>match P.underlying t with
   |some (.array n e)=>[1,n,e,(bk P (sizeOf e)).getD 0]
   |some .string=>[2]
   |_=>[]
 | .mg t _ _ _ _=>match P.underlying t with
   |some (.array n e)=>[1,n,e,(bk P (sizeOf e)).getD 0]
   |some (.slice e)=>[0,e,(bk P (sizeOf e)).getD 0]
   |some .string=>[2]
   |_=>[]
 | .len c7 _ _=>match P.underlying (c7.getD 0 0) with
   |some (.slice e)=>[0,e]
   |some .string=>[2]
   |_=>[]
 |_=>[]
def sz (P:aS) (ops:Array Oper) (o:Oper) (sl:aF) (n:Nat):Option (gh×J×Nat×Bool):=
 match qD (dH .nil sl) o with
 |some f=>bif oy f&&v7 n f then match X1 P n f with
   |some (r,m,b)=>some (f,r,m,b&&PE ops o.dst)
   |none=>none
  else none
 |none=>none
where
 D1 (n:Nat):Option J->Bool
  |none=>true
  |some v=>kV n v
 v7 (n:Nat):gh->Bool
  | .bin _ _ x y| .dB _ x y| .fW _ x y| .e5 _ _ x y| .lS _ _ x y| .mB _ x y _=>kV n x&&kV n y
  | .un _ x| .ea x| .conv _ _ x| .bB _ x| .cq _ x _| .dN x| .len _ _ x=>kV n x
  | .mg _ x e7 ai e5=>kV n x&&(D1 n e7&&(D1 n ai&&D1 n e5))
def PF (P:aS) [Lib P] (o:Option b1) (ty:aK) (n:Nat):Option (FuncId×List J×J×Nat):=
 match vH P o with
 |some (f,args,_)=>bif dM args&&o9 n args then match ahN P ty n with
   |some (r,m)=>some (f,args,r,m)
   |none=>none
  else none
 |none=>none
def bY.KI (f:J->J):bY J->bY J
 | .nil=> .nil
 | .node v l r=> .node (v.map f) (l.KI f) (r.KI f)
def oH (n:Nat) (bN:eH):Prop:=∀p∈bN,p.1=p.2/\kV n p.1=true
mutual
def okV (n m:Nat):J->Bool
 | .pointer (some ⟨b,_,none⟩)=>Nat.blt b n
 | .slice (some ⟨b,_,none⟩) _ _=>Nat.blt b n
 | .agg ⟨l⟩=>BK n m l
 | .func (.func _) ⟨l⟩ ⟨k⟩=>BK n m l&&BK n m k
 | .func (.yield b) ⟨[]⟩ ⟨[]⟩=>Nat.blt b n
 |v=>yh v||(aM v&&kV m v)
def BK (n m:Nat):List J->Bool
 |[]=>true
 |v::r=>okV n m v&&BK n m r
end
def nn (n m:Nat):bY J->bY J
 | .nil=> .nil
 | .node none l r=> .node none (nn n m l) (nn n m r)
 | .node (some v) l r=>bif okV n m v then .node (some v) (nn n m l) (nn n m r) else .node none (nn n m l) (nn n m r)
def X3 (A:a8) (i:Nat):Option bx:=match A.bl.get i with
 |some k=>some ⟨k.obj,k.ty,k.eN⟩
 |none=>none
def tw (A:a8):Nat->Nat->List bx
 |0,_=>[]
 |m+1,i=>match X3 A i with
  |some b=>b::tw A m (i+1)
  |none=>[]
def zY (s:b8):List bx:=tw s.A s.A.n 0
def zZ (m:Nat) (s:b8):aF×List bx:=(nn (zY s).length m s.sl,zY s)
def PG (n:Nat) (bN:eH):Bool:=bN.all λp=>gm p.1 p.2&&kV n p.1
def PH (n m:Nat):q2->Bool
 | .cells c=>BK n m c
 | .gw .deferred=>true
 | .gw .gone=>true
 |_=>false
def D2 (n m:Nat):List bx->Bool
 |[]=>true
 |b::r=>PH n m b.obj&&D2 n m r
def sA (m:Nat) (a1:List bx):Bool:=zA a1&&D2 a1.length m a1
def KJ (A:a8):List bx->Nat->Bool
 |[],_=>true
 |_::r,i=>(match A.bl.get i with|some k=>Nat.beq k.cT i&& !k.ro|none=>false)&&KJ A r (i+1)
def z1 (s:b8):Bool:=(match s.ms with|[]=>true|_=>false)&&KJ s.A (zY s) 0
def z6 (n:Nat) (s:b8) (sl:aF) (a1:List bx):Prop:=∃bN,cr s sl a1=some bN/\oH n bN/\rl a1=true
mutual
def PI (v u:J):J->J
 | .agg ⟨l⟩=> .agg ⟨Gy v u l⟩
 | .func (.func f) ⟨a⟩ ⟨b⟩=> .func (.func f) ⟨Gy v u a⟩ ⟨Gy v u b⟩
 |x=>bif gm x v then u else x
def Gy (v u:J):List J->List J
 |[]=>[]
 |x::r=>PI v u x::Gy v u r
end
def ahP (v u:J):q2->q2
 | .cells c=> .cells (Gy v u c)
 |x=>x
def ahQ (v u:J) (b:bx):bx:={b with obj:=ahP v u b.obj}
def X4 (n:Nat) (v u:J) (bN:eH):Bool:=bN.all λp=>(gm p.1 p.2&&kV n p.1)||(gm p.1 v&&gm p.2 u)
def uT (n:Nat) (v u:J) (s:b8) (sl:aF) (a1:List bx):Bool:=(match cr s sl a1 with|some bN=>X4 n v u bN|none=>false)&&rl a1
def ahR (t:Nat) (ops:Array Oper):Bool:=ops.any λo=>match o.dst with|some d=>Nat.beq d t|none=>false
def yG (t:Nat):Code->Bool
 | .region _ ops _=>ahR t ops
 | .seq a b=>yG t a||yG t b
 | .cond _ a b=>yG t a||yG t b
 | .block _ b=>yG t b
 | .loop b=>yG t b
 | .rangeFunc _ ps a b=>ps.any (λd=>Nat.beq d t)||yG t a||yG t b
 |_=>false
mutual
def X5 (n:Nat):J->Option (J×List J)
 | .agg ⟨l⟩=>match X6 n l with
   |some (l',vs)=>some (.agg ⟨l'⟩,vs)
   |none=>none
 |v=>bif aM v then some (ak n,[v]) else none
def X6 (n:Nat):List J->Option (List J×List J)
 |[]=>some ([],[])
 |v::r=>match X5 n v with
  |some (aB,vs)=>match X6 (n+vs.length) r with
   |some (eo,us)=>some (aB::eo,vs++us)
   |none=>none
  |none=>none
end
def KK (c:Code):Nat->Nat->bY J->Nat->Option (bY J×List J)
 |_,_,.nil,_=>some (.nil,[])
 |pos,z7,.node v l r,n=>
  match (match v with
   |none=>some (none,[])
   |some x=>bif yG pos c then (match X5 n x with|some (x',vs)=>some (some x',vs)|none=>some (none,[])) else some (some x,[])) with
  |none=>none
  |some (aB,vs)=>match KK c (pos+z7) (2*z7) l (n+vs.length) with
   |none=>none
   |some (l',us)=>match KK c (pos+2*z7) (2*z7) r (n+vs.length+us.length) with
    |none=>none
    |some (eo,jc)=>some (.node aB l' eo,vs++us++jc)
def PJ (id:Nat) (cells:List (Nat×Nat×Nat)) (b:Nat):Nat->Nat->List J->List J×List J
 |_,_,[]=>([],[])
 |i,n,v::r=>bif cells.any (λp=>Nat.beq p.1 id&&(Nat.beq p.2.1 b&&Nat.beq p.2.2 i)) then
    let q:=PJ id cells b (i+1) (n+1) r
    (ak n::q.1,v::q.2)
  else
   let q:=PJ id cells b (i+1) n r
   (v::q.1,q.2)
def Gz (id:Nat) (cells:List (Nat×Nat×Nat)):Nat->Nat->List bx->List bx×List J
 |_,_,[]=>([],[])
 |b,n,k::r=>match k.obj with
  | .cells c=>
    let q:=PJ id cells b 0 n c
    let aH:=Gz id cells (b+1) (n+q.2.length) r
    ({k with obj:= .cells q.1}::aH.1,q.2++aH.2)
  |_=>let aH:=Gz id cells (b+1) n r
   (k::aH.1,aH.2)
def PK:List fl->Nat
 | .vF id::_=>id
 |_::ks=>PK ks
 |[]=>0
def ahS (cf:je) (body:Code) (ks:List fl) (s:b8) (n:Nat):Option (aF×List bx×List J):=
 let q:=zZ n s
 match KK body 0 1 q.1 n with
 |none=>none
 |some (sl,vs)=>let aH:=Gz (PK ks) cf.cells 0 (n+vs.length) q.2
  some (sl,aH.1,vs++aH.2)
def X7 (n:Nat) (vs:List J) (p:J×J):Bool:=(gm p.1 p.2&&kV n p.1)||(match p.2 with
 | .complex .f64 k 0=>Nat.ble n k&&(Nat.blt k eZ&&match vs[k-n]? with|some v=>gm v p.1|none=>false)
 |_=>false)
def D3 (n:Nat) (vs:List J) (bN:eH):Bool:=bN.all (X7 n vs)
def X8 (k:Nat):eH->Option J
 |[]=>none
 |p::r=>bif gm p.2 (ak k) then some p.1 else X8 k r
def KL (bN:eH):Nat->Nat->List J
 |0,_=>[]
 |m+1,n=>(match X8 n bN with|some v=>v|none=>ak n)::KL bN m (n+1)
def elemOf (P:aS) (t:aK):Option aK:=match P.underlying t with|some (.slice e)=>some e|_=>none
def yH:Option b1->aK
 |some (.oper o _ _ _ _)=>match o.op with
  | .call c=>c.argTypes.getD 0 0
  |_=>0
 |_=>0
def ahT:Option b1->aK
 |some (.oper o _ _ _ _)=>o.type
 |_=>0
def uU (N n:Nat) (s:b8) (dst:Option Tmp) (r:J):Option (aF×List bx):=
 let q:=zZ n s
 bif Nat.blt n eZ&&(z1 s&&sA n q.2) then match g' N q.1 dst r with
  |some sl=>some (sl,q.2)
  |none=>none
 else none
def X9 (o:Option b1):jq:= .ops (kO o) (kP o) (gC o)
def X':Option b1->Option J
 |some (.oper op _ os s _)=>match op.guard with
  |some (j,_)=>match os[j]? with
   |some o'=>match o'.dst with
    |some t=>match s.sl.get t with
     |some (.complex .f64 k 0)=>some (ak k)
     |_=>none
    |none=>none
   |none=>none
  |none=>match op.op with
   | .pick c _ _=>match dH .nil s.sl c with
     | .complex .f64 k 0=>some (ak k)
     |_=>none
   |_=>none
 |_=>none
abbrev lu:=(bX->bX)×aF×List bx×Nat
def PL (cf:je) (n:Nat) (o:Option b1):Option lu:=match nJ o with
 |some (t,p,x)=>bif aM p&&aM x then (uU cf.N n (b9 o) (kc o) undef).map λq=>(bX.st t p x,q.1,q.2,0) else none
 |none=>none
def PM (P:aS) (t:aK):Nat:=match elemOf P t with
 |some e=>match bk P (sizeOf e) with
  |some k=>k
  |none=>0
 |none=>0
def PN (P:aS) (cf:je) (n:Nat) (o:Option b1):Option lu:=match p4 (yH o) o with
 |some (v,x)=>bif aM v then match Bg (b9 o).A (PM P (yH o)) x with
   |some c=>bif dM c then (uU cf.N n (b9 o) (kc o) (ak n)).map λq=>(bX.yF (yH o) v c,q.1,q.2,1) else none
   |none=>none
  else none
 |none=>none
def PO (cf:je) (n:Nat) (o:Option b1):Option lu:=match p4 (yH o) o with
 |some (v,x)=>bif aM v&&aM x then (uU cf.N n (b9 o) (kc o) (ak n)).map λq=>(bX.xk (yH o) v x,q.1,q.2,1) else none
 |none=>none
def PQ (cf:je) (n:Nat) (o:Option b1):Option lu:=match J7 o with
 |some (t,x)=>bif aM x then (uU cf.N n (b9 o) (kc o) (ak n)).map λq=>(bX.mk t x,q.1,q.2,1) else none
 |none=>none
def PR (cf:je) (n:Nat) (o:Option b1):Option lu:=match OS o with
 |some (t,x)=>bif aM x then (uU cf.N n (b9 o) (kc o) (ak n)).map λq=>(bX.lt t x,q.1,q.2,1) else none
 |none=>none
def PS (cf:je) (n:Nat) (o:Option b1):Option lu:=match PC o with
 |some (t,xs)=>bif dM xs then (uU cf.N n (b9 o) (kc o) (ak n)).map λq=>(bX.zX t xs,q.1,q.2,1) else none
 |none=>none
def ahU:Option b1->aK
 |some (.oper o _ _ _ _)=>match o.op with
  | .call c=>c.argTypes.getD 1 0
  |_=>0
 |_=>0
def PT (cf:je) (n:Nat) (o:Option b1):Option lu:=match Bw (yH o) (ahU o) o with
 |some (v,x)=>bif aM v then match Bg (b9 o).A 1 x with
   |some c=>bif dM c then (uU cf.N n (b9 o) (kc o) (.int .i64 c.length)).map λq=>(bX.sm (yH o) v c,q.1,q.2,0) else none
   |none=>none
  else none
 |none=>none
def PU (cf:je) (n:Nat) (o:Option b1):Option lu:=match uK o with
 |some (t,x)=>bif aM x then (uU cf.N n (b9 o) (kc o) (ak n)).map λq=>(bX.tu t x,q.1,q.2,1) else none
 |none=>none
def PV (cf:je) (n:Nat) (o:Option b1):Option lu:=match FK o with
 |some t=>(uU cf.N n (b9 o) (kc o) (ak n)).map λq=>(bX.qR t,q.1,q.2,1)
 |none=>none
def PW (P:aS) [Lib P] (cf:je) (n:Nat) (o:Option b1):Option lu:=match PF P o (ahT o) n with
 |some (f,args,r,m)=>bif aM r&&(o9 n args&&dM args) then (uU cf.N n (kS P o) (kc o) r).map λq=>(bX.call f args r m,q.1,q.2,m) else none
 |none=>none
def ahV:Option b1->Option (Nat×Nat)
 |some (.oper op _ _ s _)=>match op.op with
  | .call c=>match c.callee with
    | .value _=>c.args.toList.findSome? λx=>match x with
      | .tmp t=>match s.sl.get t with
        |some (.slice (some ⟨b,0,none⟩) _ _)=>some (t,b)
        |_=>none
      |_=>none
    |_=>none
  |_=>none
 |_=>none
def PX (n:Nat) (o:Option b1):Option lu:=match ahV o with
 |some (t,b)=>match sn o b t with
  |some (cs,m,c)=>match cr (b9 o) (nn (tw (b9 o).A b 0).length n (b9 o).sl) (tw (b9 o).A b 0) with
   |some bN=>bif PG n bN&&(rl (tw (b9 o).A b 0)&&(dM cs&&(Nat.blt n eZ&&(Nat.ble (tw (b9 o).A b 0).length b&&(Nat.blt 0 m&&Nat.ble m c))))) then
     (bY.set (ak n) depth (nn (tw (b9 o).A b 0).length n (b9 o).sl) t).map λsl=>(bX.uS cs m c,sl,tw (b9 o).A b 0,1)
    else none
   |none=>none
  |none=>none
 |none=>none
def v8 (a b:Option lu):Option lu:=match a with
 |some x=>some x
 |none=>b
def KM (P:aS) [Lib P] (cf:je) (n:Nat) (o:Option b1):Option lu:=
 v8 (PL cf n o) (v8 (PN P cf n o) (v8 (PO cf n o) (v8 (PQ cf n o) (v8 (PR cf n o) (v8 (PS cf n o) (v8 (PT cf n o) (v8 (PU cf n o) (v8 (PV cf n o) (PW P cf n o)))))))))
abbrev jH:=Nat->List jk->jq->Nat->aF->List bx->j8->ke->Option b1->Option bX
def PY (P:aS) [Lib P] (cf:je) (n:Nat) (q:Option b1):Option (Sum (gh×J×Nat×Bool) (FuncId×List J×J×Nat×Bool)):=
 match q with
 |some (.oper op _ os s _)=>match q_ os op s.sl with
  |some true=>match sz P os op s.sl n with
   |some x=>some (.inl x)
   |none=>match PF P q op.type n with
    |some (f,args,r,m)=>bif cf.rD.contains f then none else some (.inr (f,args,r,m,Gx P op.type&&PE os op.dst))
    |none=>none
  |_=>none
 |_=>none
def X_ (P:aS) [Lib P] (cf:je) (F:j8) (T:ke):Option b1->Option b1
 |some (.oper op r os s ks)=>Bc P F T cf.N 1000 cf.d (op::r) os ks s
 |_=>none
section
variable {fg:Type}
def pH (n:Nat) (k:Nat->fg):fg:=match n with
 |0=>k 0
 |m+1=>k (m+1)
def qS {α:Type} (f:α->(α->fg)->fg):List α->(List α->fg)->fg
 |[],k=>k []
 |v::l,k=>f v λaB=>qS f l λl'=>k (aB::l')
def GC {α:Type} (f:α->(α->fg)->fg):Option α->(Option α->fg)->fg
 |none,k=>k none
 |some a,k=>f a λa6=>k (some a6)
def PZ (a:Addr) (k:Addr->fg):fg:=match a with
 |⟨b,o,m⟩=>pH b λb'=>pH o λo'=>GC (λx k=>k x) m λm'=>k ⟨b',o',m'⟩
def Ya (i:Int) (k:Int->fg):fg:=match i with
 | .ofNat n=>pH n λgd=>k (.ofNat gd)
 | .negSucc n=>pH n λgd=>k (.negSucc gd)
def KN (b:Bool) (k:Bool->fg):fg:=match b with
 |true=>k true
 |false=>k false
def BL:Nat->J->(J->fg)->fg
 |0=>λv k=>k v
 |d+1=>λv k=>match v with
  | .bool b=>KN b λb'=>k (.bool b')
  | .agg ⟨l⟩=>qS (BL d) l λl'=>k (.agg ⟨l'⟩)
  | .complex t x y=>pH x λx'=>pH y λfM=>k (.complex t x' fM)
  | .int t i=>Ya i λug=>k (.int t ug)
  | .pointer p=>GC PZ p λp'=>k (.pointer p')
  | .slice p n c=>GC PZ p λp'=>pH n λgd=>pH c λc'=>k (.slice p' gd c')
  |v=>k v
def KO:bY J->(bY J->fg)->fg
 | .nil,k=>k .nil
 | .node none l r,k=>KO l λl'=>KO r λeo=>k (.node none l' eo)
 | .node (some v) l r,k=>BL 3 v λaB=>KO l λl'=>KO r λeo=>k (.node (some aB) l' eo)
def Yb (b:bx) (k:bx->fg):fg:=match b with
 |⟨.cells l,t,m⟩=>pH t λdr=>pH m λm'=>qS (BL 3) l λl'=>k ⟨.cells l',dr,m'⟩
 |⟨.map es c,t,m⟩=>k ⟨.map es c,t,m⟩
 |⟨.gw x,t,m⟩=>k ⟨.gw x,t,m⟩
def D4 (x:fl) (k:fl->fg):fg:=match x with
 | .na y=>k (.na y)
 | .vF i=>k (.vF i)
 | .td c m=>pH m λm'=>k (.td c m')
def KP {α:Type} (f:α->(α->fg)->fg) (a:Array α) (k:Array α->fg):fg:=match a with
 |⟨l⟩=>qS f l λl'=>k ⟨l'⟩
def Yc:jq->(jq->fg)->fg
 | .k x ks,k=>qS D4 ks λBM=>k (.k x BM)
 | .ops r os ks,k=>qS (λx k=>k x) r λeo=>KP (λx k=>k x) os λahW=>qS D4 ks λBM=>k (.ops eo ahW BM)
 | .any f os l ks,k=>pH f λiQ=>KP KN l λl'=>qS D4 ks λBM=>k (.any iQ os l' BM)
theorem tz (n:Nat) (k:Nat->fg):pH n k=k n:=by cases n<;>rfl
theorem yI {α:Type} {f:α->(α->fg)->fg} (aR:∀v k,f v k=k v):∀(l:List α) (k:List α->fg),qS f l k=k l
 |[],k=>rfl
 |v::l,k=>by
  show f v (λaB=>qS f l λl'=>k (aB::l'))=_;rw[aR,yI aR l]
theorem P0 {α:Type} {f:α->(α->fg)->fg} (aR:∀v k,f v k=k v) (o:Option α) (k:Option α->fg):GC f o k=k o:=by
 cases o with
 |none=>rfl
 |some a=>exact aR a λa6=>k (some a6)
theorem Yd (a:Addr) (k:Addr->fg):PZ a k=k a:=by
 obtain⟨b,o,m⟩:=a;show pH b (λb'=>pH o λo'=>GC (λx k=>k x) m λm'=>k ⟨b',o',m'⟩)=_;rw[tz,tz,P0 λ_ _=>rfl]
theorem ahX (i:Int) (k:Int->fg):Ya i k=k i:=by
 cases i with
 |ofNat n=>exact tz n λgd=>k (.ofNat gd)
 |negSucc n=>exact tz n λgd=>k (.negSucc gd)
theorem Ye (b:Bool) (k:Bool->fg):KN b k=k b:=by cases b<;>rfl
theorem P1:∀(d:Nat) (v:J) (k:J->fg),BL d v k=k v
 |0,v,k=>rfl
 |d+1,v,k=>by
  unfold BL;split
  ·rw[Ye]
  ·rw[yI (P1 d)]
  ·rw[tz,tz]
  ·rw[ahX]
  ·rw[P0 Yd]
  ·rw[P0 Yd,tz,tz]
  ·rfl
theorem ahY (b:bx) (k:bx->fg):Yb b k=k b:=by
 obtain⟨o,t,m⟩:=b;cases o with
 |cells l=>
  show pH t (λdr=>pH m λm'=>qS (BL 3) l λl'=>k ⟨.cells l',dr,m'⟩)=_;rw[tz,tz,yI (P1 3)]
 |map es c=>rfl
 |gw x=>rfl
theorem P2 (x:fl) (k:fl->fg):D4 x k=k x:=by
 cases x with
 |td c m=>exact tz m λm'=>k (.td c m')
 |_=>rfl
theorem Yf {α:Type} {f:α->(α->fg)->fg} (aR:∀v k,f v k=k v) (a:Array α) (k:Array α->fg):KP f a k=k a:=by
 obtain⟨l⟩:=a;show qS f l (λl'=>k ⟨l'⟩)=_;rw[yI aR]
theorem ahZ (p:jq) (k:jq->fg):Yc p k=k p:=by
 cases p with
 |k x ks=>
  show qS D4 ks _=_;rw[yI P2]
 |ops r os ks=>
  show qS (λx k=>k x) r _=_;rw[yI (λ_ _=>rfl),Yf (λ_ _=>rfl),yI P2]
 |any f os l ks=>
  refine(tz f λiQ=>KP KN l λl'=>qS D4 ks λBM=>k (.any iQ os l' BM)).trans ?_;rw[Yf Ye,yI P2]
end
section
variable {fg:Type}
def v' (n m:Nat):bY J->(bY J->fg)->fg
 | .nil,k=>k .nil
 | .node none l r,k=>v' n m l λl'=>v' n m r λeo=>k (.node none l' eo)
 | .node (some v) l r,k=>bif okV n m v then BL 3 v λaB=>v' n m l λl'=>v' n m r λeo=>k (.node (some aB) l' eo) else v' n m l λl'=>v' n m r λeo=>k (.node none l' eo)
theorem BN (n m:Nat):∀(t:bY J) (k:bY J->fg),v' n m t k=k (nn n m t)
 | .nil,k=>rfl
 | .node none l r,k=>by
   show v' n m l (λl'=>v' n m r λeo=>k (.node none l' eo))=_;rw[BN n m l,BN n m r];rfl
 | .node (some v) l r,k=>by
   unfold v' nn;cases okV n m v with
   |true=>rw[bF,bF,P1,BN n m l,BN n m r]
   |false=>rw[eD,eD,BN n m l,BN n m r]
end
def GD (G:jH) (n:Nat) (cs:List jk) (dT:jq) (F:j8) (T:ke) (sl:aF) (a1:List bx) (go:jq->aF->List bx->Option b1):Option bX:=
 pH n λn=>qS Yb a1 λa1=>bif sA n a1 then Yc dT λdT=>v' a1.length n sl λsl=>G n cs dT n sl a1 F T (go dT sl a1) else none
theorem ah0 (G:jH) (n:Nat) (cs:List jk) (dT:jq) (F:j8) (T:ke) (sl:aF) (a1:List bx) (go:jq->aF->List bx->Option b1):GD G n cs dT F T sl a1 go=bif sA n a1 then G n cs dT n (nn a1.length n sl) a1 F T (go dT (nn a1.length n sl) a1) else none:=by
 unfold GD;rw[tz,yI ahY,ahZ,BN]
def rE (P:aS) [Lib P] (cf:je) (G:jH) (n:Nat) (cs:List jk) (dT:jq) (sl:aF) (a1:List bx):Option bX:=
 GD G n cs dT (Gv cf.marks) [] sl a1 λdT sl a1=>dT.run P (Gv cf.marks) [] cf.N cf.d (b5 sl a1)
def KQ (P:aS) [Lib P] (cf:je) (G:jH) (n:Nat) (cs:List jk) (dT:jq) (s:b8):Option bX:=bif z1 s then rE P cf G n cs dT s.sl (zY s) else none
def two (a b:Option bX) (f:bX->bX->bX):Option bX:=match a with
 |some x=>match b with
  |some y=>some (f x y)
  |none=>none
 |none=>none
def GF (P:aS) (G:jH) (n:Nat) (cs:List jk) (dT:jq) (ev:Nat) (sl:aF) (a1:List bx) (F:j8) (T:ke) (go:j8->Option b1):gh×J×Nat×Bool->Option bX
 |(f,r,m,b)=>bif sz.v7 n f then
    bif b then two (G n cs dT ev sl a1 (F++[(f,.bool true)]) T (go [(f,.bool true)])) (G n cs dT ev sl a1 (F++[(f,.bool false)]) T (go [(f,.bool false)])) (bX.s f (X2 P f))
    else bif kV (n+m) r then (G (n+m) cs dT ev sl a1 (F++[(f,r)]) T (go [(f,r)])).map (bX.o f r m (X2 P f)) else none
  else none
def GG (G:jH) (n:Nat) (cs:List jk) (dT:jq) (ev:Nat) (sl:aF) (a1:List bx) (F:j8) (T:ke) (go:ke->Option b1):FuncId×List J×J×Nat×Bool->Option bX
 |(f,args,r,m,b)=>bif o9 n args&&dM args then
    bif b then two (G n cs dT ev sl a1 F (T++[(f,args,.bool true)]) (go [(f,args,.bool true)])) (G n cs dT ev sl a1 F (T++[(f,args,.bool false)]) (go [(f,args,.bool false)])) (bX.cs f args)
    else bif kV (n+m) r&&aM r then (G (n+m) cs dT ev sl a1 F (T++[(f,args,r)]) (go [(f,args,r)])).map (bX.c f args r m) else none
  else none
def P3 (P:aS) [Lib P] (cf:je) (G:jH) (n:Nat) (cs:List jk) (x:ll) (s:b8):Option bX:=match cs with
 |[]=>match fm P cf.fn (some (.done x s)) with
  |some v=>some (.ret v)
  |none=>match endCell cf.fn (some (.done x s)) with
   |some (t,x)=>bif aM x then some (.tv t x) else none
   |none=>none
 |c::cs'=>match x with
  | .normal=>match cr s c.sl c.a1 with
    |some bN=>bif D3 c.n (KL bN c.m c.n) bN&&rl c.a1 then some (.back (KL bN c.m c.n)) else none
    |none=>none
  |x=>(KQ P cf G n cs' (.k x c.ks) s).map bX.fH
def ah1 (cf:je) (ks:List fl):Option Nat:=(cf.ahM.find? λp=>Nat.beq p.1 (PK ks)).map (·.2)
def P4 (P:aS) [Lib P] (cf:je) (G:jH) (n:Nat) (cs:List jk) (body:Code) (s:b8) (ks:List fl):Option bX:=
 match ah1 cf ks with
 |some m=>KQ P cf G n cs (.k .normal (.td body m::ks)) s
 |none=>match ahS cf body ks s n with
 |some (qi,o_,vs)=>match cr s qi o_ with
  |some bN=>bif D3 n vs bN&&rl o_ then (rE P cf G (n+vs.length) (⟨qi,o_,n,vs.length,ks⟩::cs) (.k .normal [.na body]) qi o_).map (bX.loop vs vs.length) else none
  |none=>none
 |none=>none
def Yg (n:Nat):List Nat->aF->Option aF
 |[],sl=>some sl
 |t::r,sl=>match bY.set (ak n) depth sl t with
  |some dO=>Yg (n+1) r dO
  |none=>none
def ah2 (cf:je) (c:Operand) (x y:Code) (s:b8) (n:Nat):Option (aF×List bx×Nat):=match c with
 | .tmp t=>match cf.KH.find? λp=>Nat.beq p.1 t with
   |some (_,ext)=>match KK (.seq x y) 0 1 ((zZ n s).1.KI (PI (dH .nil s.sl c) cB)) n with
    |none=>none
    |some (sl,vs)=>match Yg (n+vs.length) ext sl with
     |none=>none
     |some ef=>some (ef,(Gz (1000+t) cf.cells 0 (n+vs.length+ext.length) (zZ n s).2).1,vs.length+ext.length+(Gz (1000+t) cf.cells 0 (n+vs.length+ext.length) (zZ n s).2).2.length)
   |none=>none
 |_=>none
def kE (n:Nat) (v u:J) (s:b8):aF×List bx:=((zZ n s).1.KI (PI v u),(zZ n s).2.map (ahQ v u))
def P5 (a b:List Nat):Bool:=decide (a=b)
def kf:bX->bX->Bool
 | .o f r m h k,.o iQ eo m' ga k'=>CY f iQ&&(gm r eo&&(Nat.beq m m'&&(P5 h ga&&kf k k')))
 | .s f h de dv,.s iQ ga vj yJ=>CY f iQ&&(P5 h ga&&(kf de vj&&kf dv yJ))
 | .c f a r m k,.c iQ a6 eo m' k'=>Nat.beq f iQ&&(ox a a6&&(gm r eo&&(Nat.beq m m'&&kf k k')))
 | .cs f a de dv,.cs iQ a6 vj yJ=>Nat.beq f iQ&&(ox a a6&&(kf de vj&&kf dv yJ))
 | .e_ x de dv,.e_ x' vj yJ=>gm x x'&&(kf de vj&&kf dv yJ)
 | .vZ x de dv m k,.vZ x' vj yJ m' k'=>gm x x'&&(kf de vj&&(kf dv yJ&&(Nat.beq m m'&&kf k k')))
 | .no,.no=>true
 | .zX t xs k,.zX dr xs' k'=>Nat.beq t dr&&(ox xs xs'&&kf k k')
 | .alt de dv,.alt vj yJ=>kf de vj&&kf dv yJ
 | .tv t x,.tv dr x'=>Nat.beq t dr&&gm x x'
 | .sm t s c k,.sm dr fV c' k'=>Nat.beq t dr&&(gm s fV&&(ox c c'&&kf k k'))
 | .ret v,.ret aB=>gm v aB
 | .back vs,.back cN=>ox vs cN
 | .loop vs m k,.loop cN m' k'=>ox vs cN&&(Nat.beq m m'&&kf k k')
 | .fH k,.fH k'=>kf k k'
 | .st t p x k,.st dr p' x' k'=>Nat.beq t dr&&(gm p p'&&(gm x x'&&kf k k'))
 | .yF t s c k,.yF dr fV c' k'=>Nat.beq t dr&&(gm s fV&&(ox c c'&&kf k k'))
 | .xk t s x k,.xk dr fV x' k'=>Nat.beq t dr&&(gm s fV&&(gm x x'&&kf k k'))
 | .mk t x k,.mk dr x' k'=>Nat.beq t dr&&(gm x x'&&kf k k')
 | .uS c m d k,.uS c' m' ou k'=>ox c c'&&(Nat.beq m m'&&(Nat.beq d ou&&kf k k'))
 | .lt t x k,.lt dr x' k'=>Nat.beq t dr&&(gm x x'&&kf k k')
 | .tu t x k,.tu dr x' k'=>Nat.beq t dr&&(gm x x'&&kf k k')
 | .qR t k,.qR dr k'=>Nat.beq t dr&&kf k k'
 | .call f a r m k,.call iQ a6 eo m' k'=>Nat.beq f iQ&&(ox a a6&&(gm r eo&&(Nat.beq m m'&&kf k k')))
 |_,_=>false
def GH (x:bX):bX->Bool
 | .alt a b=>kf x a||GH x b
 |t=>kf x t
def KR:List (Option bX)->Option bX
 |[]=>none
 |[a]=>a
 |a::r=>match a,KR r with
  |some x,some y=>bif GH x y then some y else some (.alt x y)
  |_,_=>none
def GI (G:jH) (n:Nat) (cs:List jk) (dT:jq) (F:j8) (T:ke) (sl:aF) (a1:List bx):Option bX:=GD G n cs dT F T sl a1 λ_ _ _=>none
def KS (G:jH) (n:Nat) (cs:List jk) (dT:jq) (F:j8) (T:ke) (s:b8):Option bX:=bif z1 s then GI G n cs dT F T s.sl (zY s) else none
def P6 (N:Nat) (os:Array Oper) (sl:aF) (o:Oper):Option Bool:=
 match o.guard with
 |none=>some true
 |some (j,b)=>match fz os j with
  |some t=>bif Nat.blt t N then match sl.get t with
   |some (.bool b')=>some (b==b')
   |_=>none else none
  |none=>none
def P7 (P:aS) [ej P] (br:Operand->J) (o:Oper):Option J:=
 match o.op with
 | .pick c x y=>match br c with
   | .bool b=>some (bif b then br x else br y)
   |_=>none
 | .extract t i=>EP (br t) i
 | .move _| .assign _| .binOp .. | .unOp .. | .fieldAddr .. | .indexAddr .. =>x5 P br o
 | .call c=>match c.callee with
   | .builtin _=>match qD br o with
     |some f=>bif CZ f then uv P br o else none
     |none=>none
   |_=>none
 | .nilCheck _=>uv P br o
 |_=>none
def D5 (o:Oper):Bool:=match o.op with| .call c=>(match c.callee with| .builtin _=>true|_=>false)|_=>true
def KT (P:aS) [ej P] (N:Nat) (os:Array Oper) (l:Array Bool) (sl:aF) (i:Nat):Option aF:=
 match os[i]? with
 |some o=>match P6 N os sl o with
  |some true=>match P7 P (dH .nil sl) o with
   |some v=>bif Region.free .any os l i then g' N sl o.dst v else none
   |none=>none
  |some false=>bif D5 o&&Region.free .any os l i then g' N sl o.dst undef else none
  |none=>none
 |none=>none
def GJ (P:aS) [ej P] (N:Nat) (os:Array Oper) (l:Array Bool) (sl:aF):List Nat->Option (Nat×aF)
 |[]=>none
 |i::r=>match KT P N os l sl i with
  |some eK=>some (i,eK)
  |none=>GJ P N os l sl r
def D6 (P:aS) [ej P] (N:Nat) (os:Array Oper):Nat->Array Bool->aF->Nat×Array Bool×aF
 |0,l,sl=>(0,l,sl)
 |f+1,l,sl=>match GJ P N os l sl (Region.ready .any os l) with
  |some (i,eK)=>D6 P N os f (l.setIfInBounds i true) eK
  |none=>(f+1,l,sl)
def anyOp (P:aS) [Lib P] (cf:je) (G:jH) (n:Nat) (cs:List jk) (bq:Nat) (os:Array Oper) (listed:Array Bool) (ks:List fl) (s:b8) (F:j8) (T:ke) (i:Nat):Option bX:=
 match os[i]? with
 |none=>none
 |some o=>match @wU P _ ⟨F⟩ (@s_ P _ ⟨F⟩ ⟨T⟩ .nil 1000 cf.d) .nil cf.N os o s.sl s.A with
  |some (eK,bH)=>KS G n cs (.any bq os (listed.setIfInBounds i true) ks) F T {s with sl:=eK,A:=bH}
  |none=>match KM P cf n (some (.oper o [] os s [])) with
   |some (pB,dO,Yh,m)=>(GI G (n+m) cs (.any bq os (listed.setIfInBounds i true) ks) (Gv cf.marks) [] dO Yh).map pB
   |none=>none
def P8 (P:aS) [Lib P] (cf:je) (G:jH) (n:Nat) (cs:List jk) (bq:Nat) (os:Array Oper) (listed:Array Bool) (ks:List fl) (sl:aF) (a1:List bx) (F:j8) (T:ke):Option bX:=
 match Region.ready .any os listed with
 |[]=>rE P cf G n cs (.k .normal ks) sl a1
 |r8=>match bq with
  |0=>none
  |bq+1=>match @GJ P ⟨F⟩ cf.N os listed sl r8 with
   |some (i,eK)=>bif Region.noSelect os then
     (let q:= @D6 P ⟨F⟩ cf.N os bq (listed.setIfInBounds i true) eK
     GI G n cs (.any q.1 os q.2.1 ks) F T q.2.2 a1) else none
   |none=>KR (r8.map (anyOp P cf G n cs bq os listed ks (b5 sl a1) F T))
def P9 (P:aS) [Lib P] (cf:je) (G:jH) (n:Nat) (cs:List jk) (v:J) (s:b8) (x y:Code) (ks:List fl) (qi:aF) (o_:List bx) (m:Nat):Option bX:=
 bif uT n v (.bool true) s (kE n v (.bool true) s).1 (kE n v (.bool true) s).2&&uT n v (.bool false) s (kE n v (.bool false) s).1 (kE n v (.bool false) s).2 then
  match rE P cf G n (⟨qi,o_,n,m,ks⟩::cs) (.k .normal [.na x]) (kE n v (.bool true) s).1 (kE n v (.bool true) s).2 with
  |some de=>match rE P cf G n (⟨qi,o_,n,m,ks⟩::cs) (.k .normal [.na y]) (kE n v (.bool false) s).1 (kE n v (.bool false) s).2 with
   |some dv=>(rE P cf G (n+m) cs (.k .normal ks) qi o_).map (bX.vZ v de dv m)
   |none=>none
  |none=>none
 else none
def ah3 (cf:je) (v:J):Option Bool:=(cf.gE.find? λp=>gm v (ak p.1)).map (·.2)
def GK (P:aS) [Lib P] (cf:je) (G:jH) (n:Nat) (cs:List jk) (v:J) (s:b8) (iA jf:jq):Option bX:=match ah3 cf v with
 |some b=>bif uT n v (.bool b) s (kE n v (.bool b) s).1 (kE n v (.bool b) s).2 then (rE P cf G n cs (bif b then iA else jf) (kE n v (.bool b) s).1 (kE n v (.bool b) s).2).map λk=>bif b then .e_ v k .no else .e_ v .no k else none
 |none=>bif uT n v (.bool true) s (kE n v (.bool true) s).1 (kE n v (.bool true) s).2&&uT n v (.bool false) s (kE n v (.bool false) s).1 (kE n v (.bool false) s).2 then
  two (rE P cf G n cs iA (kE n v (.bool true) s).1 (kE n v (.bool true) s).2) (rE P cf G n cs jf (kE n v (.bool false) s).1 (kE n v (.bool false) s).2) (bX.e_ v)
 else none
def P' (P:aS) [Lib P] (cf:je) (G:jH) (n:Nat) (cs:List jk) (o:Option b1):Option bX:=match KM P cf n o with
 |some (pB,sl,a1,m)=>(rE P cf G (n+m) cs (X9 o) sl a1).map pB
 |none=>none
def P_ (P:aS) [Lib P] (cf:je) (G:jH) (n:Nat) (cs:List jk) (Qa:Option J) (F:j8) (T:ke):Option b1->Option bX
 |some (.draw id os s ks)=>match Qa with
  |some v=>GK P cf G n cs v s (.k .normal (.na (.region id os true)::ks)) (.k .normal (.na (.region id os true)::ks))
  |none=>KS G n cs (.any os.size os (Array.replicate os.size false) ks) F T s
 |some (.done x s)=>P3 P cf G n cs x s
 |some (.loop body s ks)=>P4 P cf G n cs body s ks
 |some (.cond c x y s ks)=>bif aM (dH .nil s.sl c) then match ah2 cf c x y s n with
  |some (qi,o_,m)=>P9 P cf G n cs (dH .nil s.sl c) s x y ks qi o_ m
  |none=>GK P cf G n cs (dH .nil s.sl c) s (.k .normal (.na x::ks)) (.k .normal (.na y::ks)) else none
 |some (.oper op r os s ks)=>match X' (some (.oper op r os s ks)) with
  |some v=>GK P cf G n cs v s (.ops (op::r) os ks) (.ops (op::r) os ks)
  |none=>match PX n (some (.oper op r os s ks)) with
   |some (pB,sl,a1,m)=>(rE P cf G (n+m) cs (.ops (op::r) os ks) sl a1).map pB
   |none=>P' P cf G n cs (some (.oper op r os s ks))
 |_=>none
def GL (d:Tmp):Operand->Bool
 | .tmp t=>Nat.beq t d
 |_=>false
def Qb (ops:Array Oper):Nat->Option Tmp->Bool
 |0,_=>false
 |_,none=>false
 |k+1,some d=>PE ops (some d)||ops.any λo=>(match o.op with
   | .move x| .assign x=>GL d x
   | .pick c x y=>GL d c||(GL d x||GL d y)
   | .unOp _ _ x=>GL d x
   |_=>false)&&Qb ops k o.dst
def Yi (P:aS) (ops:Array Oper) (o:Oper):Sum (gh×J×Nat×Bool) (FuncId×List J×J×Nat×Bool)->Sum (gh×J×Nat×Bool) (FuncId×List J×J×Nat×Bool)
 | .inl (f,r,m,b)=> .inl (f,r,m,b||((match X1 P 0 f with|some (_,_,b')=>b'|none=>false)&&Qb ops 8 o.dst))
 | .inr (f,a,r,m,b)=> .inr (f,a,r,m,b||(Gx P o.type&&Qb ops 8 o.dst))
def Qc (P:aS) [Lib P] (cf:je) (F:j8) (T:ke) (n:Nat) (os:Array Oper) (s:b8):List Oper->aF->a8->Option (Sum (gh×J×Nat×Bool) (FuncId×List J×J×Nat×Bool))×Option J
 |[],_,_=>(none,none)
 |o::r,sl,A=>match @wU P _ ⟨F⟩ (@s_ P _ ⟨F⟩ ⟨T⟩ .nil 1000 cf.d) .nil cf.N os o sl A with
  |some (eK,bH)=>Qc P cf F T n os s r eK bH
  |none=>match PY P cf n (some (.oper o r os {s with sl:=sl,A:=A} [])) with
   |some x=>(some (Yi P os o x),none)
   |none=>match X' (some (.oper o r os {s with sl:=sl,A:=A} [])) with
    |some v=>(none,some v)
    |none=>Qc P cf F T n os s r sl A
def Yj (P:aS) [Lib P] (cf:je) (F:j8) (T:ke) (n:Nat):Option b1->Option (Sum (gh×J×Nat×Bool) (FuncId×List J×J×Nat×Bool))×Option J
 |some (.draw _ os s _)=>Qc P cf F T n os s os.toList s.sl s.A
 |_=>(none,none)
def Qd (P:aS) [Lib P] (cf:je) (G:jH) (n:Nat) (cs:List jk) (dT:jq) (ev:Nat) (sl:aF) (a1:List bx) (F:j8) (T:ke) (o:Option b1):Option bX:=
 match PY P cf n o with
 |some (.inl x)=>GF P G n cs dT ev sl a1 F T (λQe=>X_ P cf (F++Qe) T o) x
 |some (.inr x)=>GG G n cs dT ev sl a1 F T (λQf=>X_ P cf F (T++Qf) o) x
 |none=>match (Yj P cf F T n (dT.run P F T cf.N cf.d (b5 sl a1))).1 with
  |some (.inl x)=>GF P G n cs dT ev sl a1 F T (λQe=>dT.run P (F++Qe) T cf.N cf.d (b5 sl a1)) x
  |some (.inr x)=>GG G n cs dT ev sl a1 F T (λQf=>dT.run P F (T++Qf) cf.N cf.d (b5 sl a1)) x
  |none=>P_ P cf G n cs (Yj P cf F T n (dT.run P F T cf.N cf.d (b5 sl a1))).2 F T (dT.run P F T cf.N cf.d (b5 sl a1))
def ah4 (P:aS) [Lib P] (cf:je) (F:j8) (T:ke) (n:Nat) (os:Array Oper) (listed:Array Bool) (s:b8):Option (Sum (gh×J×Nat×Bool) (FuncId×List J×J×Nat×Bool)):=
 (Region.ready .any os listed).findSome? λi=>match os[i]? with
   |none=>none
   |some o=>match @wU P _ ⟨F⟩ (@s_ P _ ⟨F⟩ ⟨T⟩ .nil 1000 cf.d) .nil cf.N os o s.sl s.A with
    |some _=>none
    |none=>(PY P cf n (some (.oper o [] os s []))).map (Yi P os o)
def Qg (P:aS) [Lib P] (cf:je) (G:jH) (n:Nat) (cs:List jk) (dT:jq) (ev:Nat) (sl:aF) (a1:List bx) (F:j8) (T:ke) (o:Option b1):Option bX:=
 match dT with
 | .any bq os listed ks=>match ah4 P cf F T n os listed (b5 sl a1) with
   |some (.inl x)=>GF P G n cs dT ev sl a1 F T (λ_=>none) x
   |some (.inr x)=>GG G n cs dT ev sl a1 F T (λ_=>none) x
   |none=>P8 P cf G n cs bq os listed ks sl a1 F T
 |_=>Qd P cf G n cs dT ev sl a1 F T o
def gen (P:aS) [Lib P] (cf:je):Nat->jH
 |0=>λ_ _ _ _ _ _ _ _ _=>none
 |bq+1=>Qg P cf (gen P cf bq)
def kr (P:aS) [Lib P] (f:FuncId) (h:D0) (args:List J) (n:Nat):Option bX:=
 match P.funcs[f]? with
 |some fn=>match fn.body with
  |some c=>match setArgs 0 args .nil with
   |some sl=>
    let cf:je:=⟨h,args.length+(fn.ntmps-args.length),fn⟩
    bif dM args then rE P cf (gen P cf 10000) n [] (.k .normal [.na c]) sl [] else none
   |none=>none
  |none=>none
 |none=>none
end AE
namespace AE
variable {P:aS}
def v_.{u} {α:Type u}:List α->List Nat->List α->List α
 |L,i::is,R::js=>v_ (L.set i R) is js
 |L,_,_=>L
theorem Yk:∀(is:List Nat) (L js:List (bd P)),cP (v_ L is js)=lI (cP L) is (cP js)
 |[],L,js=>by unfold v_ lI;cases js<;>rfl
 |i::is,L,[]=>by unfold v_ lI;rfl
 |i::is,L,R::js=>by
  unfold v_;rw[Yk is];show lI (cP (L.set i R)) is (cP js)=lI ((cP L).set i R.res) is (cP js);rw[show cP (L.set i R)=(cP L).set i R.res from List.map_set]
structure qj (W:ax) (az:List cb) (ro:List (iW P)) (L:List (bd P)) (w:ax):Prop where
 own:cH (aE w) (cP L)
 ro:hv ro (aE w)
 ext:qh (aE W) az (aE w)
abbrev ft (P:aS):=List J->List (bd P)->Prop
def pI (B:Nat) (W:ax) (az:List cb) (L L':List (bd P)):Prop:=∀M,bK B (aE W) az M (cP L)->bK B (aE W) az M (cP L')
theorem pI.refl {B:Nat} {W:ax} {az:List cb} (L:List (bd P)):pI B W az L L:=λ_ h=>h
inductive dC (B:Nat) (W:ax) (az:List cb) (ro:List (iW P)) (post:J->List (bd P)->Prop):Nat->List J->List (bd P)->List (ft P)->bX->Prop
 |o {n:Nat} {env:List J} {L:List (bd P)} {aT:List (ft P)} {f:gh} {r:J} {m:Nat} {ah:List Nat} {k:bX} (vs:List J) (hm:vs.length=m) (ad:fY vs)
   (aR:∀M,bK B (aE W) az M (cP L)->hv ro M-> @aV (cY M (vs.reverse++env)) P (f,r)) (h:dC B W az ro post (n+m) (vs.reverse++env) L aT k):dC B W az ro post n env L aT (.o f r m ah k)
 |s {n:Nat} {env:List J} {L:List (bd P)} {aT:List (ft P)} {f:gh} {ah:List Nat} {de dv:bX} (b:Bool) (aR:∀M,bK B (aE W) az M (cP L)->hv ro M-> @aV (cY M env) P (f,.bool b))
   (ad:b=true->dC B W az ro post n env L aT de) (ag:b=false->dC B W az ro post n env L aT dv):dC B W az ro post n env L aT (.s f ah de dv)
 |c {n:Nat} {env:List J} {L:List (bd P)} {aT:List (ft P)} {f:FuncId} {args:List J} {r:J} {m:Nat} {k:bX} (vs:List J) (hm:vs.length=m) (ad:fY vs)
   (ar:∀w,qj W az ro L w->Calls P f ⟨hO env n args⟩ w λe w'=>e= .returned (ex (vs.reverse++env) (n+m) r)/\cj w.heap.size w w') (h:dC B W az ro post (n+m) (vs.reverse++env) L aT k):dC B W az ro post n env L aT (.c f args r m k)
 |cs {n:Nat} {env:List J} {L:List (bd P)} {aT:List (ft P)} {f:FuncId} {args:List J} {de dv:bX} (b:Bool) (ar:∀w,qj W az ro L w->Calls P f ⟨hO env n args⟩ w λe w'=>e= .returned (.bool b)/\cj w.heap.size w w')
   (ad:b=true->dC B W az ro post n env L aT de) (ag:b=false->dC B W az ro post n env L aT dv):dC B W az ro post n env L aT (.cs f args de dv)
 |e_ {n:Nat} {env:List J} {L:List (bd P)} {aT:List (ft P)} {x:J} {de dv:bX} (b:Bool) (aq:ex env n x= .bool b)
   (ad:b=true->dC B W az ro post n env L aT de) (ag:b=false->dC B W az ro post n env L aT dv):dC B W az ro post n env L aT (.e_ x de dv)
 |vZ {n:Nat} {env:List J} {L:List (bd P)} {aT:List (ft P)} {x:J} {de dv:bX} {m:Nat} {k:bX} (b:Bool) (aq:ex env n x= .bool b) (bt:Type) (br:bt->List J) (ca:bt->List (bd P)) (gf:bt->Prop) (hm:∀u,(br u).length=m) (ho:∀u,fY (br u))
   (ad:b=true->dC B W az ro post n env L ((λcN L'=>∃u',gf u'/\cN=br u'/\pI B W az L' (ca u'))::aT) de) (ag:b=false->dC B W az ro post n env L ((λcN L'=>∃u',gf u'/\cN=br u'/\pI B W az L' (ca u'))::aT) dv)
   (h:∀u,gf u->dC B W az ro post (n+m) ((br u).reverse++env) (ca u) aT k):dC B W az ro post n env L aT (.vZ x de dv m k)
 |ret {n:Nat} {env:List J} {L:List (bd P)} {aT:List (ft P)} {v:J} (L':List (bd P)) (hL:pI B W az L L') (h:post (ex env n v) L'):dC B W az ro post n env L aT (.ret v)
 |back {n:Nat} {env:List J} {L:List (bd P)} {xl:ft P} {aT:List (ft P)} {vs:List J} (h:xl (hO env n vs) L):dC B W az ro post n env L (xl::aT) (.back vs)
 |fH {n:Nat} {env:List J} {L:List (bd P)} {xl:ft P} {aT:List (ft P)} {k:bX} (h:dC B W az ro post n env L aT k):dC B W az ro post n env L (xl::aT) (.fH k)
 |loop {n:Nat} {env:List J} {L:List (bd P)} {aT:List (ft P)} {vs:List J} {m:Nat} {k:bX} (bt:Type) (br:bt->List J) (ca:bt->List (bd P)) (gf:bt->Prop) (iR:bt->Nat) (mh:bt)
   (hm:∀u,(br u).length=m) (ad:∀u,fY (br u)) (aL:hO env n vs=br mh) (hL:pI B W az L (ca mh)) (bh:gf mh)
   (h:∀u,gf u->dC B W az ro post (n+m) ((br u).reverse++env) (ca u) ((λcN L'=>∃u',gf u'/\iR u'<iR u/\cN=br u'/\pI B W az L' (ca u'))::aT) k):dC B W az ro post n env L aT (.loop vs m k)
 |Qh {n:Nat} {env:List J} {L:List (bd P)} {aT:List (ft P)} {t:aK} {p x:J} {k:bX} (i:Nat) {g:Nat} {ty:aK} {cs:List J} {j:Nat} {u:J} (hL:L[i]? =some (.box g ty cs)) (hp:ex env n p= .pointer (some ⟨g,j,none⟩)) (aq:ex env n x=u) (hj:j<cs.length)
   (hu:u.cells= #[u]) (ad:u.oneCell'=true) (cv:bk P (sizeOf t)=some 1) (h:dC B W az ro post n env (L.set i (.box g ty (cs.set j u))) aT k):dC B W az ro post n env L aT (.st t p x k)
 |Yl {n:Nat} {env:List J} {L:List (bd P)} {aT:List (ft P)} {t:aK} {p x:J} {k:bX} (i:Nat) {g:Nat} {ty:aK} {cs:List J} {j m:Nat} {us:List J} (hL:L[i]? =some (.box g ty cs)) (hp:ex env n p= .pointer (some ⟨g,j,none⟩)) (aq:ex env n x= .agg ⟨us⟩) (hj:j+m<=cs.length)
   (hu:us.length=m) (ad:∀u∈us,u.oneCell'=true) (cv:bk P (sizeOf t)=some m) (h:dC B W az ro post n env (L.set i (.box g ty (cs.take j++us++cs.drop (j+m)))) aT k):dC B W az ro post n env L aT (.st t p x k)
 |Ym {n:Nat} {env:List J} {L:List (bd P)} {aT:List (ft P)} {t:aK} {p x:J} {k:bX} (d:Nat) {K:ju P} {v:J} {l:List K.α} (i j:Nat) (y:K.α) {u:J} (hL:L[d]? =some (.arr K v l)) (hp:ex env n p=hd v (i*K.k+j)) (ai:i<l.length) (aq:ex env n x=u) (hj:j<K.k)
   (hu:u.cells= #[u]) (ad:u.oneCell'=true) (bE:∀z,l[i]? =some z->K.enc y=(K.enc z).set j u) (cv:bk P (sizeOf t)=some 1) (h:dC B W az ro post n env (L.set d (.arr K v (l.set i y))) aT k):dC B W az ro post n env L aT (.st t p x k)
 |ah5 {n:Nat} {env:List J} {L:List (bd P)} {aT:List (ft P)} {t:aK} {p x:J} {k:bX} (d:Nat) {K:ju P} {v:J} {l:List K.α} (i:Nat) (y:K.α) (hL:L[d]? =some (.arr K v l)) (hp:ex env n p=hd v (i*K.k)) (ai:i<l.length) (aq:ex env n x= .agg ⟨K.enc y⟩)
   (cv:bk P (sizeOf t)=some K.k) (h:dC B W az ro post n env (L.set d (.arr K v (l.set i y))) aT k):dC B W az ro post n env L aT (.st t p x k)
 |Yn {n:Nat} {env:List J} {L:List (bd P)} {aT:List (ft P)} {t:aK} {s:J} {c:List J} {k:bX} (d:Nat) {K:ju P} {v:J} {l:List K.α} (lx:List K.α) (hL:L[d]? =some (.arr K v l)) (aw:ex env n s=v) (aq:hO env n c=lx.flatMap K.enc) (aN:P.underlying t=some (.slice K.e))
   (iS:l.length+lx.length<=maxLen) (af:(l.length+lx.length)*K.bytes<=140737488355328) (h:∀a c,dC B W az ro post (n+1) (.slice a (l++lx).length c::env) (L.set d (.arr K (.slice a (l++lx).length c) (l++lx))) aT k):dC B W az ro post n env L aT (.yF t s c k)
 |ah6 {n:Nat} {env:List J} {L:List (bd P)} {aT:List (ft P)} {t:aK} {s:J} {c:List J} {k:bX} (d:Nat) {K:ju P} {v:J} {l:List K.α} (lx:List K.α) (hL:L[d]? =some (.iT K v l)) (aw:ex env n s=v) (aq:hO env n c=lx.flatMap K.enc) (aN:P.underlying t=some (.slice K.e))
   (iS:l.length+lx.length<=maxLen) (af:(l.length+lx.length)*K.bytes<=140737488355328) (h:∀a c,dC B W az ro post (n+1) (.slice a (l++lx).length c::env) (L.set d (.iT K (.slice a (l++lx).length c) (l++lx))) aT k):dC B W az ro post n env L aT (.yF t s c k)
 |ah7 {n:Nat} {env:List J} {L:List (bd P)} {aT:List (ft P)} {t:aK} {s x:J} {k:bX} (d:Nat) {K:ju P} {v:J} {l:List K.α} (lL:J) (lx:List K.α) (hL:L[d]? =some (.arr K v l)) (aw:ex env n s=v) (aq:ex env n x=lL) (aN:P.underlying t=some (.slice K.e))
   (jZ:∀M,bK B (aE W) az M (cP L)->hv ro M->cE M K.k K.enc lL lx)
   (iS:l.length+lx.length<=maxLen) (af:(l.length+lx.length)*K.bytes<=140737488355328) (h:∀a c,dC B W az ro post (n+1) (.slice a (l++lx).length c::env) (L.set d (.arr K (.slice a (l++lx).length c) (l++lx))) aT k):dC B W az ro post n env L aT (.xk t s x k)
 |Yo {n:Nat} {env:List J} {L:List (bd P)} {aT:List (ft P)} {t:aK} {s x:J} {k:bX} (d:Nat) {K:ju P} {v:J} {l:List K.α} (lL:J) (lx:List K.α) (hL:L[d]? =some (.iT K v l)) (aw:ex env n s=v) (aq:ex env n x=lL) (aN:P.underlying t=some (.slice K.e))
   (jZ:∀M,bK B (aE W) az M (cP L)->hv ro M->cE M K.k K.enc lL lx)
   (iS:l.length+lx.length<=maxLen) (af:(l.length+lx.length)*K.bytes<=140737488355328) (h:∀a c,dC B W az ro post (n+1) (.slice a (l++lx).length c::env) (L.set d (.iT K (.slice a (l++lx).length c) (l++lx))) aT k):dC B W az ro post n env L aT (.xk t s x k)
 |mk {n:Nat} {env:List J} {L:List (bd P)} {aT:List (ft P)} {t:aK} {x:J} {k:bX} (K:ju P) (z:K.α) (m:Nat) (aN:P.underlying t=some (.slice K.e)) (bW:∃i v,P.info? K.e=some i/\i.zero=some v/\i.size=K.k/\i.bytes=K.bytes/\v.cells.toList=K.enc z) (aq:ex env n x= .int .i64 (m:Nat)) (iS:m<=1000000) (af:m*K.bytes<=140737488355328) (ar:m*K.k<=16777216)
   (h:∀a c,dC B W az ro post (n+1) (.slice a (List.replicate m z).length c::env) (L++[.arr K (.slice a (List.replicate m z).length c) (List.replicate m z)]) aT k):dC B W az ro post n env L aT (.mk t x k)
 |lt {n:Nat} {env:List J} {L:List (bd P)} {aT:List (ft P)} {t:aK} {x:J} {k:bX} (K:ju P) (y:K.α) {u:J} (aN:P.underlying t=some (.slice K.e)) (bW:∃z,bk P (zeroValue K.e)=some z) (al:K.k<=1000) (aq:ex env n x=u) (hu:u.cells=⟨K.enc y⟩)
   (h:∀a c,dC B W az ro post (n+1) (.slice a [y].length c::env) (L++[.arr K (.slice a [y].length c) [y]]) aT k):dC B W az ro post n env L aT (.lt t x k)
 |zX {n:Nat} {env:List J} {L:List (bd P)} {aT:List (ft P)} {t:aK} {xs:List J} {k:bX} (K:ju P) (l:List K.α) {us:List J} (aN:P.underlying t=some (.slice K.e)) (bW:∃z,bk P (zeroValue K.e)=some z) (al:K.k<=1000) (aq:hO env n xs=us) (hu:us.map Value.cells=l.map λy=>⟨K.enc y⟩)
   (h:∀a c,dC B W az ro post (n+1) (.slice a l.length c::env) (L++[.arr K (.slice a l.length c) l]) aT k):dC B W az ro post n env L aT (.zX t xs k)
 |alt {n:Nat} {env:List J} {L:List (bd P)} {aT:List (ft P)} {de dv:bX} (ad:dC B W az ro post n env L aT de) (ag:dC B W az ro post n env L aT dv):dC B W az ro post n env L aT (.alt de dv)
 |tv {n:Nat} {env:List J} {L:List (bd P)} {aT:List (ft P)} {t:aK} {x:J} (i:Nat) {g:Nat} {ty:aK} {cs:List J} (hL:L[i]? =some (.box g ty cs)) (aq:ex env n x= .pointer (some ⟨g,0,none⟩)) (ha:bk P (isAgg t)=some true) (aw:bk P (sizeOf t)=some cs.length)
   (aC:aM (.agg ⟨cs⟩)=true) (ai:∀gq,@aJ gq (.agg ⟨cs⟩)= .agg ⟨cs⟩) (L':List (bd P)) (eA:pI B W az L L') (h:post (.agg ⟨cs⟩) L'):dC B W az ro post n env L aT (.tv t x)
 |sm {n:Nat} {env:List J} {L:List (bd P)} {aT:List (ft P)} {t:aK} {s:J} {c:List J} {k:bX} (i:Nat) {g:Nat} {ty e:aK} {cs us:List J} {j m wR:Nat} (hL:L[i]? =some (.box g ty cs)) (aw:ex env n s= .slice (some ⟨g,j,none⟩) m wR) (aq:hO env n c=us) (aN:P.underlying t=some (.slice e)) (bW:(P.info? e).map (·.size)=some 1)
   (aL:0<us.length) (hm:us.length<=m) (ad:∀u∈us,u.oneCell'=true) (hj:j+us.length<=cs.length) (h:dC B W az ro post n env (L.set i (.box g ty (cs.take j++us++cs.drop (j+us.length)))) aT k):dC B W az ro post n env L aT (.sm t s c k)
 |uS {n:Nat} {env:List J} {L:List (bd P)} {aT:List (ft P)} {c:List J} {m cap:Nat} {k:bX} (K:ju P) (xs:List K.α) (aq:hO env n c=xs.flatMap K.enc) (hm:xs.length=m)
   (h:∀g,dC B W az ro post (n+1) (.slice (some ⟨g,0,none⟩) m cap::env) (L++[.red K (.slice (some ⟨g,0,none⟩) m cap) xs]) aT k):dC B W az ro post n env L aT (.uS c m cap k)
 |tu {n:Nat} {env:List J} {L:List (bd P)} {aT:List (ft P)} {t:aK} {x:J} {k:bX} {u:J} {cs:List J} (aq:ex env n x=u) (hu:u.cells=⟨cs⟩) (h:∀g,dC B W az ro post (n+1) (.pointer (some ⟨g,0,none⟩)::env) (L++[.box g t cs]) aT k):dC B W az ro post n env L aT (.tu t x k)
 |qR {n:Nat} {env:List J} {L:List (bd P)} {aT:List (ft P)} {t:aK} {k:bX} {z:J} {cs:List J} (bW:bk P (zeroValue t)=some z) (hu:z.cells=⟨cs⟩) (h:∀g,dC B W az ro post (n+1) (.pointer (some ⟨g,0,none⟩)::env) (L++[.box g t cs]) aT k):dC B W az ro post n env L aT (.qR t k)
 |call {n:Nat} {env:List J} {L:List (bd P)} {aT:List (ft P)} {f:FuncId} {args:List J} {r:J} {m:Nat} {k:bX} (Y:Type) (is:List Nat) (ik:j6 L.length is=true) (vs:Y->List J) (kp wa:Y->List (bd P)) (hl:∀y,(kp y).length=is.length) (hm:∀y,(vs y).length=m) (ad:∀y,fY (vs y))
   (ar:∀w,qj W az ro L w->B<=w.heap.size->cH (aE w) (pick (cP L) is)->Calls P f ⟨hO env n args⟩ w λe w'=>(∃y,e= .returned (ex ((vs y).reverse++env) (n+m) r)/\cZ (aE w) (pick (cP L) is) (aE w') (cP (kp y++wa y)))/\cj 0 w w')
   (h:∀y,dC B W az ro post (n+m) ((vs y).reverse++env) (v_ L is (kp y)++wa y) aT k):dC B W az ro post n env L aT (.call f args r m k)
theorem Yp {n:Nat} {s1 s2:a7} (ha:n_ n s1 s2) {p:J×J} (h:(gm p.1 p.2&&kV n p.1)=true): @aJ s1 p.1= @aJ s2 p.2:=by
 simp only [c8] at h;rw[<-hM _ _ h.1];exact kW ha _ h.2
theorem ah8 {n:Nat} {bN:eH} (h:PG n bN=true):oH n bN:=λp hp=>by
 have:=List.all_eq_true.1 h p hp;simp only [c8] at this;exact⟨hM _ _ this.1,this.2⟩
theorem GM {n:Nat} {s1 s2:a7} (ha:n_ n s1 s2) {bN:eH} (h:oH n bN):fO s1 s2 bN:=λp hp=>by
 obtain⟨ad,ag⟩:=h p hp;rw[<-ad];exact kW ha _ ag
theorem oH.nil (n:Nat):oH n []:=λ_ h=>by cases h
theorem qT {n:Nat} {a b:Option eH} (ha:∃o,a=some o/\oH n o) (af:∃o,b=some o/\oH n o):∃o,both a b=some o/\oH n o:=by
 obtain⟨x,rfl,aq⟩:=ha;obtain⟨y,rfl,bE⟩:=af;exact⟨x++y,rfl,λp hp=>(List.mem_append.1 hp).elim (aq p) (bE p)⟩
theorem ah9 {m:Nat} {v:J} (h:(yh v||(aM v&&kV m v))=true):∃o,Dl v v=some o/\oH m o:=by
 unfold Dl;cases hp:yh v with
 |true=>exact⟨[],rfl,.nil m⟩
 |false=>
  rw[hp,Bool.false_or,c8] at h;rw[eD,h.1,Bool.and_self,bF];cases (gm v v&&plain v) with
  |true=>exact⟨[],rfl,.nil m⟩
  |false=>exact⟨[(v,v)],rfl,λp hp=>by rw[List.mem_singleton] at hp;subst hp;exact⟨rfl,h.2⟩⟩
mutual
theorem Qi {n m:Nat}:∀v:J,okV n m v=true->∃o,vD n v v=some o/\oH m o:=by
 intro v h;unfold okV at h;split at h
 ·exact⟨[],by unfold vD;rw[h,Nat.beq_refl,Nat.beq_refl];rfl,.nil m⟩
 ·exact⟨[],by unfold vD;rw[h];simp only [Nat.beq_refl];rfl,.nil m⟩
 ·exact GN _ h
 ·rename_i f l k
  simp only [c8] at h;obtain⟨o,ad,ag⟩:=qT (GN _ h.1) (GN _ h.2);exact⟨o,by unfold vD;rw[Nat.beq_refl,bF];exact ad,ag⟩
 ·exact⟨[],by unfold vD;rw[h,Nat.beq_refl];rfl,.nil m⟩
 ·rename_i ad ag ay bG cJ
  have e:vD n v v=Dl v v:=by
   unfold vD;split
   ·exact(ad _ _ rfl).elim
   ·exact(ag _ _ _ _ rfl).elim
   ·exact(ay _ rfl).elim
   ·exact(bG _ _ _ rfl).elim
   ·exact(cJ _ rfl).elim
   ·rfl
  rw[e];exact ah9 h
theorem GN {n m:Nat}:∀l:List J,BK n m l=true->∃o,yi n l l=some o/\oH m o
 |[],_=>⟨[],rfl,.nil m⟩
 |v::r,h=>by
  unfold BK at h;rw[c8] at h;unfold yi;exact qT (Qi v h.1) (GN r h.2)
end
theorem BO {n m:Nat}:∀t:bY J,(∃o,ta n t (nn n m t)=some o/\oH m o)/\(∃o,ta n (nn n m t) (nn n m t)=some o/\oH m o)
 | .nil=>⟨⟨[],rfl,.nil m⟩,⟨[],rfl,.nil m⟩⟩
 | .node none l r=>by
   obtain⟨eG,a2⟩:=BO (n:=n) (m:=m) l;obtain⟨kk,jC⟩:=BO (n:=n) (m:=m) r;unfold nn ta;exact⟨qT ⟨[],rfl,.nil m⟩ (qT eG kk),qT ⟨[],rfl,.nil m⟩ (qT a2 jC)⟩
 | .node (some v) l r=>by
   obtain⟨eG,a2⟩:=BO (n:=n) (m:=m) l;obtain⟨kk,jC⟩:=BO (n:=n) (m:=m) r;unfold nn;cases aC:okV n m v with
   |true=>
    rw[bF];unfold ta;exact⟨qT (Qi v aC) (qT eG kk),qT (Qi v aC) (qT a2 jC)⟩
   |false=>
    rw[eD];unfold ta;exact⟨qT ⟨[],rfl,.nil m⟩ (qT eG kk),qT ⟨[],rfl,.nil m⟩ (qT a2 jC)⟩
theorem ah' {n m:Nat} {o:q2} (h:PH n m o=true):∃x,Ba n o o=some x/\oH m x:=by
 unfold PH at h;split at h
 ·exact GN _ h
 ·exact⟨[],rfl,.nil m⟩
 ·exact⟨[],rfl,.nil m⟩
 ·cases h
theorem Yq {n m:Nat}:∀{l:List bx},D2 n m l=true->rl l=true
 |[],_=>rfl
 |x::r,h=>by
  unfold D2 at h;rw[c8] at h;unfold rl;rw[c8];refine⟨?_,Yq h.2⟩;have ad:=h.1;split
  ·rename_i fX aq
   rw[aq] at ad;cases ad
  ·rfl
theorem Qj {n m:Nat} {A:a8}:∀(l:List bx) (i:Nat),D2 n m l=true->(∀j x,l[j]? =some x->∃k,A.bl.get (i+j)=some k/\k.cT=i+j/\k.ro=false/\k.eN=x.eN/\k.ty=x.ty/\k.obj=x.obj)->∃o,zC n A l i=some o/\oH m o
 |[],i,_,_=>⟨[],rfl,.nil m⟩
 |x::r,i,h,al=>by
  unfold D2 at h;rw[c8] at h;obtain⟨k,q1,aH,b0,eF,hz,ld⟩:=al 0 x rfl;rw[Nat.add_zero] at q1 aH;unfold zC;rw[q1];dsimp only;rw[aH,b0,eF,hz,ld];simp only [Nat.beq_refl,Bool.not_false,Bool.and_self,bF];exact qT (ah' h.1) (Qj r (i+1) h.2 λj y hj=>by
   obtain⟨k,ih,hB⟩:=al (j+1) y (by simpa using hj);rw[show i+(j+1)=i+1+j by omega] at ih hB
   exact⟨k,ih,hB⟩)
theorem Yr {m:Nat} {a1:List bx} (h:sA m a1=true):∃o,zC a1.length (da a1) a1 0=some o/\oH m o:=by
 unfold sA at h;rw[c8] at h;refine Qj a1 0 h.2 λj x hj=> ?_
 have cg:=(List.getElem?_eq_some_iff.1 hj).1;have:=List.all_eq_true.1 h.1 j (by simpa using cg);rw[c8] at this;have ag:=this.2;cases aA:(Dq a1 0 .nil).get j with
 |none=>rw[aA] at ag;cases ag
 |some k=>
  obtain⟨y,q1,aH⟩:=zB (l:=a1) (b:=j) (k:=k) aA;rw[hj,cQ] at q1;subst q1;subst aH;rw[Nat.zero_add];exact⟨_,aA,rfl,rfl,rfl,rfl,rfl⟩
theorem Ys {A:a8}:∀(m i:Nat) {j:Nat} {x:bx},(tw A m i)[j]? =some x->∃k,A.bl.get (i+j)=some k/\k.eN=x.eN/\k.ty=x.ty/\k.obj=x.obj
 |0,i,j,x,h=>by simp [tw] at h
 |m+1,i,j,x,h=>by
  unfold tw at h;split at h
  ·rename_i b af
   cases j with
   |zero=>
    simp only [List.getElem?_cons_zero,cQ] at h;subst h;unfold X3 at af;split at af
    ·rename_i k al
     cases af;exact⟨k,al,rfl,rfl,rfl⟩
    ·cases af
   |succ j=>
    obtain⟨k,q1,aH⟩:=Ys m (i+1) (j:=j) (by simpa using h);exact⟨k,by rw[show i+(j+1)=i+1+j by omega];exact q1,aH⟩
  ·simp at h
theorem Yt {A:a8}:∀(l:List bx) (i:Nat),KJ A l i=true->∀j x,l[j]? =some x->∃k,A.bl.get (i+j)=some k/\k.cT=i+j/\k.ro=false
 |[],i,_,j,x,h=>by simp at h
 |y::r,i,aR,j,x,h=>by
  unfold KJ at aR;rw[c8] at aR;cases j with
  |zero=>
   have ad:=aR.1;split at ad
   ·rename_i k al
    simp only [c8,Bool.not_eq_true'] at ad;exact⟨k,al,cI ad.1,ad.2⟩
   ·cases ad
  |succ j=>
   obtain⟨k,q1,aH⟩:=Yt r (i+1) aR.2 j x (by simpa using h);rw[show i+(j+1)=i+1+j by omega];exact⟨k,q1,aH⟩
theorem Qk {m:Nat} {s:b8} {sl:aF} {a1:List bx} (vE:s.ms=[]) (af:sA m a1=true) (ad:∃o,ta a1.length s.sl sl=some o/\oH m o) (ag:∃o,zC a1.length s.A a1 0=some o/\oH m o):z6 m s sl a1:=by
 obtain⟨o,e,ho⟩:=qT ad ag;have eh:=af;unfold sA at eh;rw[c8] at eh;refine⟨o,?_,ho,Yq eh.2⟩;unfold cr;rw[vE];dsimp only;rw[eh.1,bF];exact e
theorem Yu {m:Nat} {sl:aF} {a1:List bx} (af:sA m a1=true):z6 m (b5 sl a1) (nn a1.length m sl) a1:=Qk rfl af (BO sl).1 (Yr af)
theorem ah_ {m:Nat} {sl:aF} {a1:List bx} (af:sA m a1=true):z6 m (b5 (nn a1.length m sl) a1) (nn a1.length m sl) a1:=Qk rfl af (BO sl).2 (Yr af)
theorem Ql {m:Nat} {s:b8} (aw:z1 s=true) (af:sA m (zY s)=true):z6 m s (nn (zY s).length m s.sl) (zY s):=by
 unfold z1 at aw;rw[c8] at aw;have vE:s.ms=[]:=by
  have ad:=aw.1;split at ad
  ·assumption
  ·cases ad
 refine Qk vE af (BO s.sl).1 (Qj _ 0 (by unfold sA at af;rw[c8] at af;exact af.2) λj x hj=> ?_);obtain⟨k,q1,aH,b0⟩:=Yt _ 0 aw.2 j x hj;obtain⟨k',ih,hB,ux,s6⟩:=Ys _ 0 hj;rw[q1,cQ] at ih;subst ih;exact⟨k,q1,aH,b0,hB,ux,s6⟩
theorem aia {n:Nat} {s1 s2:a7} (ha:n_ n s1 s2) {v u:J} (aC: @aJ s1 v= @aJ s2 u) {bN:eH} (h:X4 n v u bN=true):fO s1 s2 bN:=λp hp=>by
 have:=List.all_eq_true.1 h p hp;rw[Bool.or_eq_true] at this;rcases this with h|h
 ·exact Yp ha h
 ·simp only [c8] at h
  rw[hM _ _ h.1,hM _ _ h.2];exact aC
theorem Qm {n:Nat} {M M':Mem} {nO n2 qU us vs:List J} {bN:eH} (he:nO=n2++qU) (av:qU.length=n) (ho:fY nO) (hu:fY us) (J6:us=hO nO nO.length vs) (h:D3 n vs bN=true):fO (cY M nO) (cY M' (us.reverse++qU)) bN:=by
 have ha:n_ n (cY M nO) (cY M' (us.reverse++qU)):=by
  subst he;have q1:=uR M M (df:=n2) av;have aH:=uR M M' (df:=us.reverse) av;exact λk al=>(q1 k al).symm.trans (aH k al)
 intro p hp;have:=List.all_eq_true.1 h p hp;unfold X7 at this;rw[Bool.or_eq_true] at this;rcases this with h|h
 ·exact Yp ha h
 ·obtain⟨ih,hB⟩:=p
  simp only at h ⊢;split at h
  ·rename_i k
   simp only [c8] at h;obtain⟨ad,ag,ay⟩:=h;have al:=Nat.ble_eq.mp ad;split at ay
   ·rename_i v aC
    rw[<-hM _ _ ay,lK M ho rfl];have hlen:(us.reverse++qU).length=us.length+n:=by simp [av]
    have aib:fY qU:=by
     subst he;exact KE λv aC=>DY ho v (List.mem_append_right _ aC)
    rw[show (Value.complex .f64 k 0)=ak k from rfl,lK M' (ts (qg hu) aib) rfl];show _=bif Nat.beq 0 0 then (bif Nat.blt k eZ then look (us.reverse++qU) (us.reverse++qU).length k else .pointer (some ⟨k-eZ,0,none⟩)) else .complex .f64 k 0
    rw[show Nat.beq 0 0=true from rfl,bF,ag,bF,KF _ _ _ rfl,List.reverse_append,List.reverse_reverse,dq,List.getElem?_append_right (by simpa [av] using al)];have aic:us[k-n]? =some (ex nO nO.length v):=by
     rw[J6];clear J6;have:∀(l:List J) (i:Nat) (v:J),l[i]? =some v->(hO nO nO.length l)[i]? =some (ex nO nO.length v):=by
      intro l
      induction l with
      |nil=>intro i v h;simp at h
      |cons x r cA=>
       intro i v h;unfold hO;cases i with
       |zero=>simp only [List.getElem?_cons_zero,cQ] at h ⊢;rw[h]
       |succ i=>simp only [List.getElem?_cons_succ] at h ⊢;exact cA i v h
     exact this _ _ _ aC
    rw[show qU.reverse.length=n by simpa using av,aic];rfl
   ·cases ay
  ·cases h
end AE
end Go.Proofs.YtepcfjbfkedlpaaDoor
