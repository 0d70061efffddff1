/- Parts of the proof. -/
import Derived.Test.YtepcfjbfkedlpaaDoorOr2
import Derived.Laws.OwnMore
import Derived.Laws.CopyRow
import Derived.Laws.Pointers
set_option maxRecDepth 100000
set_option maxHeartbeats 4000000
namespace Go.Proofs.YtepcfjbfkedlpaaDoor
open Go Go.RowKit
namespace AE
theorem WS {α:Type} {k:Nat} {enc:α->List J} (aj:∀x,(enc x).length=k) {j:Nat} (hj:j<k) {nt:J} {y:α}:∀(l:List α) (i:Nat),i<l.length->(∀x,l[i]? =some x->enc y=(enc x).set j nt)->(l.set i y).flatMap enc=(l.flatMap enc).set (i*k+j) nt
 |[],i,h,_=>by simp at h
 |x::r,0,_,bq=>by
  rw[List.set_cons_zero,List.flatMap_cons,List.flatMap_cons,bq x rfl,List.set_append_left _ _ (by rw[aj];omega),Nat.zero_mul,Nat.zero_add]
 |x::r,i+1,h,bq=>by
  rw[List.set_cons_succ,List.flatMap_cons,List.flatMap_cons,WS aj hj r i (by simpa using h) (λz bI=>bq z (by simpa using bI)),List.set_append_right _ _ (by rw[aj,Nat.add_mul];omega),aj];congr 2;rw[Nat.add_mul];omega
theorem WT [cH] {α:Type} {P:aR} {N B:Nat} {w0:ax} {Q:Exit->Act->ax->Prop} {M:Mem} {bj bh:List J} {o:Option bO} {t e:aJ} {k:Nat} {p x u nt:J} {enc:α->List J} {l l':List α} {i j:Nat} {y:α} {du dq:aG} {aV:List bw} {bG:eg}
  (fB:l'=l.set i y) (h:oM o=some (t,p,x)) (cl:bd P (sizeOf t)=some 1) (aj:∀x,(enc x).length=k) (hj:j<k) (bq:∀z,l[i]? =some z->enc y=(enc z).set j nt)
  (cR:cq (b4 o) du aV=some bG) (dU:gX N du (je o) undef=some dq) (hp:aL p=true) (ak:aL x=true) (lZ: @aI (aS M bj) p=hW u (i*k+j)) (ex: @aI (aS M bj) x=nt) (hu:nt.cells= #[nt]) (jV:nt.oneCell'=true)
  (cn:dm B M e k enc u l) (ag:i<l.length) (hm:∀M',fj (aS M bj) (aS M' bh) bG)
  (rest:∀M',dm B M' e k enc u l'->hk M M' (eL u)->∀aW w,@Here (aS M' bh) _ N {sl:=dq,ms:=[],A:=dd aV} B w0 aW w->wpListIn (Fr none) 0 P (j7 o) (dK P (f_ o) Q) (j6 o) aW w)
  (av:cH.dV<=aV.length:=by first|exact Nat.zero_le _|exact gv rfl) (aq:hV (b4 o).A aV 0:=by exact gn rfl): @e_ (aS M bj) _ P N B w0 Q o:=by
 subst fB;letI:=aS M bj;unfold oM at h;split at h
 ·rename_i op r ops s ks
  refine⟨_,rfl,λa w ah=> ?_⟩;split at h
  ·rename_i da od gG cm
   split at h
   ·rename_i iJ
    cases h;have gA:=ah;obtain⟨⟨φ,ds,ad,af,ay,bD,_⟩,cD,cI⟩:=ah;unfold wpListIn;rw[n_ af.get iJ,aQ rfl];have es:a.eval od=hW u (i*k+j):=(aD.ig _ hp (gq (hT φ) af.get od)).trans lZ;have nI:a.eval gG=nt:=(aD.ig _ ak (gq (hT φ) af.get gG)).trans ex;have hw:∀i o,M i=some o->w.heap[i]? =some o:=gA.mN;rcases cn with ⟨gY,rfl,rfl⟩|⟨g,cap,cur,rfl,ke,cC,bn,hle,xY,fZ,yz⟩
    ·simp at ag
    ·have aA:=hw _ _ bn
     have J7:i*k+j<cur.size:=by
      rw[fZ];have:=Nat.mul_le_mul_right k (show i+1<=cap by omega);rw[Nat.add_mul] at this;omega
     let fH:Array J:=(cur.toList.take (i*k+j)++[nt]++cur.toList.drop (i*k+j+1)).toArray
     have e9:fH=(cur.toList.set (i*k+j) nt).toArray:=by
      show (cur.toList.take (i*k+j)++[nt]++cur.toList.drop (i*k+j+1)).toArray=_;rw[List.set_eq_take_append_cons_drop,aQ (by rw[Array.length_toList];exact J7)];simp
     have xW:(storeCells ⟨g,i*k+j,none⟩ [nt]).run P w= .ok () (w.setRow g fH):=by
      have:=run_storeCells_at P g (i*k+j) e [nt] 0 cur w aA (by simp only [List.length_cons,List.length_nil];omega) (λv aC=>by rw[List.mem_singleton.1 aC];exact jV);simpa only [Nat.add_zero,List.length_cons,List.length_nil] using this
     have e8:(execOp a.eval op).run P w= .ok .skip (w.setRow g fH):=by
      unfold execOp;rw[cm];simp only [es,nI];show (do Instr.storeAt t (hW (.slice (some ⟨g,0,none⟩) l.length cap) (i*k+j)) nt;pure Next.skip:Sem Next).run P w=_;have cP:(Instr.storeAt t (hW (.slice (some ⟨g,0,none⟩) l.length cap) (i*k+j)) nt).run P w= .ok () (w.setRow g fH):=by
       unfold Instr.storeAt;refine cQ (a:=(⟨g,0+(i*k+j),none⟩:Addr)) rfl ?_;unfold storeVar;refine cQ cl ?_;rw[aU (by rw[hu];simp),hu,Nat.zero_add];exact xW
      simp only [Sem.run_bind,cP,Result.andThen_ok];rfl
     have fa:∀c',op.op≠.defer c':=λc' h=>by rw[cm] at h;cases h
     refine⟨λ_ _=>trivial,?_⟩;rw[Oper.semAt_eq _ _ _ fa,e8,Oper.uponIn_skip];have ht:eL (.slice (some ⟨g,0,none⟩) l.length cap)=some g:=nH ⟨g,0,none⟩ _ ke;obtain⟨q1,aE⟩:=ph (B:=B) (M:=M) (w':=w.setRow g fH) (T:=some g) (eN:=some g) hw (λi ag=>by cases ag;exact⟨by rw[bn];simp,cC⟩) (λi ag=> .inl ag) ⟨rfl,rfl,rfl⟩ (b2 _) (by simp [World.setRow]) (λj _ hj=>setRow_other w g j fH (λh=>hj (by rw[h])));have vA:dm B (gP M (w.setRow g fH) (some g) (some g)) e k enc (.slice (some ⟨g,0,none⟩) l.length cap) (l.set i y):=by
      refine .inr ⟨g,cap,fH,by rw[List.length_set],ke,cC,?_,by rw[List.length_set];exact hle,xY,by rw[e9];simpa using fZ,?_⟩
      ·unfold gP
       rw[aQ rfl];exact setRow_heap w g cur fH e (0,0) aA
      ·rw[e9,List.length_set,WS aj hj l i ag bq,<-yz]
       exact List.take_set ..
     have gZ:=Here.turns (vals':=bh) cR (hm _) q1 av aq gA;letI:=aS (gP M (w.setRow g fH) (some g) (some g)) bh;exact rest _ vA (by rw[ht];exact aE) _ _ (Here.put (d:=op.dst) gZ (v:=undef) rfl dU)
   ·cases h
  ·cases h
 ·cases h
theorem OM [cH] {P:aR} {N B:Nat} {w0:ax} {Q:Exit->Act->ax->Prop} {M:Mem} {bj bh:List J} {o:Option bO} {t ty:aJ} {g j n:Nat} {p x:J} {us cs cs':List J} {du dq:aG} {aV:List bw} {bG:eg}
  (fB:cs'=cs.take j++us++cs.drop (j+n)) (h:oM o=some (t,p,x)) (cl:bd P (sizeOf t)=some n)
  (cR:cq (b4 o) du aV=some bG) (dU:gX N du (je o) undef=some dq) (hp:aL p=true) (ak:aL x=true) (lZ: @aI (aS M bj) p= .pointer (some ⟨g,j,none⟩)) (ex: @aI (aS M bj) x= .agg ⟨us⟩) (hu:us.length=n) (jV:∀u∈us,u.oneCell'=true)
  (cn:i' B M (.pointer (some ⟨g,0,none⟩)) ty cs) (hj:j+n<=cs.length) (hm:∀M',fj (aS M bj) (aS M' bh) bG)
  (rest:∀M',i' B M' (.pointer (some ⟨g,0,none⟩)) ty cs'->hk M M' (some g)->∀aW w,@Here (aS M' bh) _ N {sl:=dq,ms:=[],A:=dd aV} B w0 aW w->wpListIn (Fr none) 0 P (j7 o) (dK P (f_ o) Q) (j6 o) aW w)
  (av:cH.dV<=aV.length:=by first|exact Nat.zero_le _|exact gv rfl) (aq:hV (b4 o).A aV 0:=by exact gn rfl): @e_ (aS M bj) _ P N B w0 Q o:=by
 subst fB;letI:=aS M bj;unfold oM at h;split at h
 ·rename_i op r ops s ks
  refine⟨_,rfl,λa w ah=> ?_⟩;split at h
  ·rename_i da od gG cm
   split at h
   ·rename_i iJ
    cases h;have gA:=ah;obtain⟨⟨φ,ds,ad,af,ay,bD,_⟩,cD,cI⟩:=ah;unfold wpListIn;rw[n_ af.get iJ,aQ rfl];have es:a.eval od= .pointer (some ⟨g,j,none⟩):=(aD.ig _ hp (gq (hT φ) af.get od)).trans lZ;have nI:a.eval gG= .agg ⟨us⟩:=(aD.ig _ ak (gq (hT φ) af.get gG)).trans ex;have hw:∀i o,M i=some o->w.heap[i]? =some o:=gA.mN;obtain⟨bn,cC⟩:=cn.known;have aA:=hw _ _ bn
    let fH:Array J:=(cs.take j++us++cs.drop (j+n)).toArray
    have xW:(storeCells ⟨g,j,none⟩ us).run P w= .ok () (w.setRow g fH):=by
     have:=run_storeCells_at P g j ty us 0 ⟨cs⟩ w aA (by simp only [List.size_toArray];omega) jV;simp only [Nat.add_zero,hu] at this;exact this
    have e8:(execOp a.eval op).run P w= .ok .skip (w.setRow g fH):=by
     unfold execOp;rw[cm];simp only [es,nI];show (do Instr.storeAt t (.pointer (some ⟨g,j,none⟩)) (.agg ⟨us⟩);pure Next.skip:Sem Next).run P w=_;have cP:(Instr.storeAt t (.pointer (some ⟨g,j,none⟩)) (.agg ⟨us⟩)).run P w= .ok () (w.setRow g fH):=by
      unfold Instr.storeAt;refine cQ (a:=(⟨g,j,none⟩:Addr)) rfl ?_;unfold storeVar;refine cQ cl ?_;rw[aU (by simp [Value.cells,hu])];exact xW
     simp only [Sem.run_bind,cP,Result.andThen_ok];rfl
    have fa:∀c',op.op≠.defer c':=λc' h=>by rw[cm] at h;cases h
    refine⟨λ_ _=>trivial,?_⟩;rw[Oper.semAt_eq _ _ _ fa,e8,Oper.uponIn_skip];obtain⟨q1,aE⟩:=ph (B:=B) (M:=M) (w':=w.setRow g fH) (T:=some g) (eN:=some g) hw (λi ag=>by cases ag;exact⟨by rw[bn];simp,cC⟩) (λi ag=> .inl ag) ⟨rfl,rfl,rfl⟩ (b2 _) (by simp [World.setRow]) (λj _ hj=>setRow_other w g j fH (λh=>hj (by rw[h])));have vA:i' B (gP M (w.setRow g fH) (some g) (some g)) (.pointer (some ⟨g,0,none⟩)) ty (cs.take j++us++cs.drop (j+n)):=by
     refine⟨g,rfl,cC,?_⟩;unfold gP;rw[aQ rfl];exact setRow_heap w g ⟨cs⟩ fH ty (0,0) aA
    have gZ:=Here.turns (vals':=bh) cR (hm _) q1 av aq gA;letI:=aS (gP M (w.setRow g fH) (some g) (some g)) bh;exact rest _ vA aE _ _ (Here.put (d:=op.dst) gZ (v:=undef) rfl dU)
   ·cases h
  ·cases h
 ·cases h
section
variable [a7] {P:aR}
theorem aT.J8 {B g o n:Nat} {ty t:aJ} {cs us:List J} {p r:J} (cn:i' B a7.df (.pointer (some ⟨g,0,none⟩)) ty cs) (hu:us=(cs.drop o).take n) (hp:aL p=true) (ao:aL r=true) (ha:bd P (isAgg t)=some true) (av:bd P (sizeOf t)=some n) (hl:us.length=n) (lZ:aI p= .pointer (some ⟨g,o,none⟩)) (b1:aI r= .agg ⟨us⟩):aT P (.bF t p,r):=
 aT.bF hp ao ha av lZ hl (λw hw j u hj=>by
  rw[cell_of_row w g _ ⟨cs⟩ ty (0,0) (hw _ _ cn.known.1)];rw[hu,List.getElem?_take] at hj;split at hj
  ·rw[List.getElem?_drop] at hj
   simpa using hj
  ·cases hj) b1
end
theorem ky.drop {α:Type} {B:Nat} {M:Mem} {e:aJ} {k:Nat} {enc:α->List J} (aj:∀x,(enc x).length=k) {a:Option Addr} {n c:Nat} {l:List α} (h:ky B M e k enc (.slice a n c) l) {j:Nat} (hj:j<=n):ky B M e k enc (.slice (k1 a c j k) (n-j) (c-j)) (l.drop j):=by
 rcases h with ⟨aW,h,rfl⟩|⟨g,off,sa,cur,h,aq,cC,bn,hle,xY,fZ,yz⟩
 ·cases h
  obtain rfl:j=0:=by omega
  exact .inl ⟨_,rfl,rfl⟩
 ·cases h
  by_cases J7:c=j
  ·subst J7
   have aM:l.drop c=[]:=List.drop_eq_nil_of_le hle;rw[aM];refine .inl ⟨k1 (some ⟨g,off,none⟩) c c k,?_,rfl⟩;rw[show l.length-c=0 by omega,Nat.sub_self]
  ·have agH:k1 (some ⟨g,off,none⟩) c j k=some ⟨g,off+j*k,none⟩:=by
    unfold k1;rw[aU J7];simp [Addr.kc]
   refine .inr ⟨g,off+j*k,c-j,cur,by rw[agH,List.length_drop],ar,cC,bn,by rw[List.length_drop];omega,ar,?_,?_⟩
   ·rw[fZ,Nat.sub_mul]
    have:=Nat.mul_le_mul_right k (show j<=c by omega);omega
   ·rw[List.length_drop,Nat.sub_mul,<-List.drop_drop]
    have ad:=congrArg (List.drop (j*k)) yz;rw[List.drop_take] at ad;rw[ad,Ol aj l j]
theorem agI {α:Type} {P:aR} {w:ax} {B:Nat} {M:Mem} {t ty e:aJ} {i:TypeInfo} {z:J} {k bytes:Nat} (aK:P.underlying t=some (.slice e)) (ag:P.info? e=some i) (bI:i.zero=some z) (gD:i.size=k) (jB:i.bytes=bytes) (lY:z.cells.size=k) (hK:0<k)
  {enc:α->List J} (aj:∀x,(enc x).length=k) (jV:∀x,∀u∈enc x,u.oneCell'=true) {v x:J} {l lx:List α} (cn:ky B M e k enc v l) (ak:r7 w k enc x lx) (hw:∀i o,M i=some o->w.heap[i]? =some o) (cC:B<=w.heap.size)
  (iE:l.length+lx.length<=maxLen) (ly:(l.length+lx.length)*bytes<=140737488355328):
  ∃aB w' M',(Builtin.append_ #[t,t] ty #[v,x]).run P w= .ok aB w'/\ky B M' e k enc aB (l++lx)/\Bu B M M' (eL v) w w'/\hk M M' (eL v)/\∀j,some j=eL aB->some j=eL v\/M j=none:=by
 have WU:∀{a:Option Addr},v= .slice a 0 0->l=[]->∃aB w' M',(Builtin.append_ #[t,t] ty #[v,x]).run P w= .ok aB w'/\ky B M' e k enc aB (l++lx)/\Bu B M M' (eL v) w w'/\hk M M' (eL v)/\∀j,some j=eL aB->some j=eL v\/M j=none:=by
  intro a ha hl;subst hl;subst ha;have jW:dm B M e k enc (.slice a 0 0) []:= .inl ⟨a,rfl,rfl⟩;obtain⟨aB,w',M',q1,aE,ca,ey⟩:=Oj (ty:=ty) aK ag bI gD jB lY hK aj jV jW ak hw cC iE ly;refine⟨aB,w',M',q1,aE.queue,ca,ey,λj hj=> ?_⟩;rcases Wj aK ag bI gD jB lY hK aj jV jW ak hw iE ly q1 j hj with h|h
  ·exact .inl h
  ·exact .inr (zU hw h)
 rcases cn with ⟨a,rfl,rfl⟩|⟨g,off,cap,cur,rfl,ke,w8,bn,hle,xY,fZ,yz⟩
 ·exact WU U U
 clear WU;obtain⟨w7,c,rfl,yp,j4⟩:=ak;have ht:eL (.slice (some ⟨g,off,none⟩) l.length cap)=some g:=nH ⟨g,off,none⟩ _ ke;have cn:ky B M e k enc (.slice (some ⟨g,off,none⟩) l.length cap) l:= .inr ⟨g,off,cap,cur,rfl,ke,w8,bn,hle,xY,fZ,yz⟩;by_cases hm:lx=[]
 ·subst hm
  refine⟨_,w,M,Og aK ag hle,by rw[List.append_nil];exact cn,⟨λi ag=>cn.known i ag,rfl,rfl,rfl,b2 _,b2 _,λ_ _ _=>rfl,λi o h=>⟨hw i o h,.inl (by rw[h];simp)⟩⟩,λi o h _=>h,λj h=> .inl h⟩
 ·cases w7 with
  |none=>exact absurd (yp rfl) hm
  |some gY=>
   have hlen:=ri aj lx;have tV:0<lx.length:=List.length_pos_iff.2 hm;have ad:∀u∈lx.flatMap enc,u.oneCell'=true:=λu hu=>by
    obtain⟨y,_,bq⟩:=List.mem_flatMap.1 hu;exact jV y u bq
   have aA:=hw _ _ bn;subst gD;subst jB;have hd:∀i,some i=some g->M i≠none/\B<=i:=λi ag=>by
    cases ag;exact⟨by rw[bn];simp,w8⟩
   rw[ht];by_cases DM:l.length+lx.length<=cap
   ·have UC:=Nat.mul_le_mul_right i.size DM
    rw[Nat.add_mul] at UC;have qo:off+l.length*i.size+(lx.flatMap enc).length<=cur.size:=by rw[hlen,fZ];omega
    let fH:Array J:=(cur.toList.take (off+l.length*i.size)++lx.flatMap enc++cur.toList.drop (off+l.length*i.size+(lx.flatMap enc).length)).toArray
    have e8:(Builtin.append_ #[t,t] ty #[.slice (some ⟨g,off,none⟩) l.length cap,.slice (some gY) lx.length c]).run P w= .ok (.slice (some ⟨g,off,none⟩) (l.length+lx.length) cap) (w.setRow g fH):=by
     have aO:=run_firstCells_some (P:=P) w i.size lx.length gY lx.length c _ hlen (j4 gY rfl);have cP:=run_storeCells_at P g (off+l.length*i.size) e (lx.flatMap enc) 0 cur w aA (by simpa using qo) ad;simp only [Nat.add_zero] at cP;simp [Builtin.append_,run_underlying aK,sizeOf,typeInfo,ag,Builtin.lenOf,DM,aO,Addr.kc,cP,fH]
    have N7:fH.size=cur.size:=by
     simp only [fH,List.size_toArray,List.length_append,List.length_take,List.length_drop,Array.length_toList];omega
    obtain⟨q1,aE⟩:=ph (B:=B) (M:=M) (w':=w.setRow g fH) (T:=some g) (eN:=some g) hw hd (λi ag=> .inl ag) ⟨rfl,rfl,rfl⟩ (b2 _) (by simp [World.setRow]) (λj _ hj=>setRow_other w g j fH (λh=>hj (by rw[h])));refine⟨_,_,_,e8,.inr ⟨g,off,cap,fH,by rw[List.length_append],ke,w8,?_,by rw[List.length_append];exact DM,xY,by rw[N7,fZ],?_⟩,q1,aE,λj hj=> ?_⟩
    ·unfold gP
     rw[aQ rfl];exact setRow_heap w g cur fH e (0,0) aA
    ·have J9:(cur.toList.drop off).length=cap*i.size:=by
      rw[List.length_drop,Array.length_toList (xs:=cur),fZ];omega
     have agJ:((cur.toList.drop off).take (l.length*i.size)).length=l.length*i.size:=by
      rw[List.length_take,J9];omega
     have apF:(cur.toList.take (off+l.length*i.size)).length=off+l.length*i.size:=by
      rw[List.length_take,Array.length_toList (xs:=cur),fZ];omega
     have e2:fH.toList.drop off=(cur.toList.drop off).take (l.length*i.size)++(lx.flatMap enc++cur.toList.drop (off+l.length*i.size+(lx.flatMap enc).length)):=by
      show ((cur.toList.take (off+l.length*i.size)++lx.flatMap enc++_)).drop off=_;rw[List.append_assoc,List.drop_append_of_le_length ar,List.drop_take,show off+l.length*i.size-off=l.length*i.size by omega]
     rw[e2,List.length_append,List.flatMap_append,<-yz,<-List.append_assoc];exact List.take_left' (by rw[List.length_append,agJ,hlen,Nat.add_mul])
    ·exact .inl (by rw[nH ⟨g,off,none⟩ _ ke] at hj;exact hj)
   ·have holds:∀j u,(l.flatMap enc)[j]? =some u->w.cell? ((⟨g,off,none⟩:Addr).add j)=some u:=λj u hj=>by
     rw[Addr.kc,cell_of_row w _ _ _ _ _ aA];rw[<-yz,List.getElem?_take] at hj;split at hj
     ·rw[List.getElem?_drop] at hj
      simpa using hj
     ·cases hj
    have Oi:l.length+lx.length<=9223372036854775807:=by simp only [maxLen] at iE;omega
    have e8:=run_append_grow (P:=P) w t ty e i z aK ag bI ⟨g,off,none⟩ l.length cap _ (ri aj l) holds gY lx.length c _ hlen (j4 gY rfl) ar ar (growslice_fits ar ly);have ko:=grownCap_ge w (l.length+lx.length) cap e;have JH:=grownCap_le_maxLen w (l.length+lx.length) cap e iE;obtain⟨q1,aE⟩:=ph (B:=B) (M:=M) (w:=w) (w':=w.drew.alloc (.cells ((l.flatMap enc).toArray++(lx.flatMap enc).toArray++Builtin.zeroCells z.cells (grownCap w (l.length+lx.length) cap e-(l.length+lx.length))) e)) (T:=some g) (eN:=some w.heap.size) hw hd (λi ag=>by cases ag;exact .inr (b2 _)) ⟨rfl,rfl,rfl⟩ (b2 _) (by simp) (λj hj _=>heap_alloc_old w.drew _ hj);refine⟨_,_,_,e8,.inr ⟨w.heap.size,0,grownCap w (l.length+lx.length) cap e,(l.flatMap enc).toArray++(lx.flatMap enc).toArray++Builtin.zeroCells z.cells (grownCap w (l.length+lx.length) cap e-(l.length+lx.length)),by rw[List.length_append],ar,cC,?_,by rw[List.length_append];exact ko,JH,?_,?_⟩,q1,aE,λj hj=> ?_⟩
    ·unfold gP
     rw[aQ rfl];exact heap_alloc_new w.drew _
    ·simp only [Array.size_append,List.size_toArray,size_zeroCells,lY,ri aj,<-Nat.add_mul]
     rw[Nat.zero_add];congr 1;omega
    ·simp only [Array.toList_append,List.append_assoc,List.drop_zero]
     rw[List.length_append,List.flatMap_append,<-List.append_assoc];exact List.take_left' (by rw[List.length_append,ri aj,ri aj,Nat.add_mul])
    ·right
     have:j=w.heap.size:=by
      rw[nH _ _ (show 0<grownCap w (l.length+lx.length) cap e by omega)] at hj;exact Option.some.inj hj
     exact zU hw ar
theorem ON [cH] {α:Type} {P:aR} {N B:Nat} {w0:ax} {Q:Exit->Act->ax->Prop} {M:Mem} {bj:List J} {o:Option bO} {t e:aJ} {k bytes:Nat} {i:TypeInfo} {z vs jC ea:J} {enc:α->List J} {l lx l':List α} {bh:Option Addr->Nat->List J} {du dq:aG} {aV:List bw} {bG:eg}
  (fB:l'=l++lx) (h:qy t o=some (vs,jC)) (aK:P.underlying t=some (.slice e)) (ag:P.info? e=some i) (bI:i.zero=some z) (gD:i.size=k) (jB:i.bytes=bytes) (lY:z.cells.size=k) (hK:0<k) (aj:∀x,(enc x).length=k) (jV:∀x,∀u∈enc x,u.oneCell'=true)
  (cR:cq (b4 o) du aV=some bG) (dU:gX N du (je o) ea=some dq) (fV:aL ea=true) (T:Option Nat)
  (cn:∀φ w v,@bU (aS M bj) φ (b4 o).A w-> @aD (aS M bj) φ vs v->ky B M e k enc v l/\eL v=T)
  (iY:∀φ w x,@bU (aS M bj) φ (b4 o).A w-> @aD (aS M bj) φ jC x->r7 w k enc x lx)
  (iE:l.length+lx.length<=maxLen) (ly:(l.length+lx.length)*bytes<=140737488355328)
  (hm:∀M' a c,fj (aS M bj) (aS M' (bh a c)) bG) (aC:∀M' a c,@aI (aS M' (bh a c)) ea= .slice a l'.length c)
  (rest:∀M' a c,ky B M' e k enc (.slice a l'.length c) l'->hk M M' T->(∀i,some i=eL (.slice a l'.length c)->some i=T\/M i=none)->∀aW w,@Here (aS M' (bh a c)) _ N {sl:=dq,ms:=[],A:=dd aV} B w0 aW w->wpListIn (Fr none) 0 P (j7 o) (dK P (f_ o) Q) (j6 o) aW w)
  (av:cH.dV<=aV.length:=by first|exact Nat.zero_le _|exact gv rfl) (aq:hV (b4 o).A aV 0:=by exact gn rfl): @e_ (aS M bj) _ P N B w0 Q o:=by
 subst fB;letI:=aS M bj;unfold qy at h;split at h
 ·rename_i op r ops s ks
  refine⟨_,rfl,λa w ah=> ?_⟩;split at h
  ·rename_i dw cm
   split at h
   ·rename_i nr gG pL gy
    cases OO:decide (dw.argTypes= #[t,t]) with
    |false=>rw[OO] at h;cases h
    |true=>
     rw[OO,bx] at h;have yq:=of_decide_eq_true OO;split at h
     ·rename_i iJ
      cases h;have gA:=ah;obtain⟨⟨φ,ds,ad,af,ay,bD,_⟩,cD,cI⟩:=ah;unfold wpListIn;rw[n_ af.get iJ,aQ rfl];have hw:∀i o,M i=some o->w.heap[i]? =some o:=gA.mN;obtain⟨Ge,d_⟩:=cn φ w (a.eval nr) ay (gq (hT φ) af.get nr);have yA:=iY φ w (a.eval gG) ay (gq (hT φ) af.get gG);obtain⟨aB,w',M',g1,g2,g3,g4,kS⟩:=agI (ty:=op.type) aK ag bI gD jB lY hK aj jV Ge yA hw cI iE ly;obtain⟨Gf,l2,rfl⟩:=g2.slice;rw[d_] at g3 g4 kS;have e8:(execOp a.eval op).run P w= .ok (.value (.slice Gf (l++lx).length l2)) w':=by
       unfold execOp resolve;rw[cm];simp only [pL,gy,yq,List.map_toArray,List.map_cons,List.map_nil];show (do pure (Next.value (<-Builtin.append_ #[t,t] op.type #[a.eval nr,a.eval gG])):Sem Next).run P w=_;simp only [Sem.run_bind,g1,Result.andThen_ok];rfl
      have fa:∀c',op.op≠.defer c':=λc' h=>by rw[cm] at h;cases h
      refine⟨λ_ _=>trivial,?_⟩;rw[Oper.semAt_eq _ _ _ fa,e8,Oper.uponIn_value];have gZ:=Here.turns (vals':=bh Gf l2) cR (hm M' Gf l2) g3 av aq gA;letI:=aS M' (bh Gf l2);have ku:=Here.put (d:=op.dst) gZ (v:=ea) fV dU;rw[aC] at ku;exact rest M' Gf l2 g2 g4 kS _ w' ku
     ·cases h
   ·cases h
  ·cases h
 ·cases h
theorem OP {α:Type} {B:Nat} {M:Mem} {bj:List J} {vs:J} {A:a'} {e:aJ} {k:Nat} {enc:α->List J} {v:J} {l:List α} (hp:aL vs=true) (bp: @aI (aS M bj) vs=v) (cn:ky B M e k enc v l):
  ∀φ w x,@bU (aS M bj) φ A w-> @aD (aS M bj) φ vs x->ky B M e k enc x l/\eL x=eL v:=λφ w x _ ak=>by
 letI:=aS M bj;have e1:=(aD.ig vs hp ak).trans bp;subst e1;exact⟨cn,rfl⟩
end AE
end Go.Proofs.YtepcfjbfkedlpaaDoor
namespace Go.Proofs.YtepcfjbfkedlpaaDoor
open Go Go.Proofs Go.RowKit
namespace AE
theorem Here.OQ [cH] {s1 s2:a7} {N B:Nat} {st:b6} {w0 w:ax} {a:Act} {sl:aG} {l:List bw} {bG:eg} (cR:cq st sl l=some bG) (hm:fj s1 s2 bG) {φ:bV} {ds:List Deferred}
  (ad:q' φ st.ms ds) (af: @fw s1 N ds φ st.sl a) (ay: @bU s1 φ st.A w) (bD:∀b e,φ b=some e->B<=e.bk) (fK:vq φ st.A) (cD:cb B w0 w) (cI:B<=w.heap.size)
  (qw:∀i o,s2.df i=some o->w.heap[i]? =some o/\∀b e,b<l.length->φ b=some e->e.bk≠i) (av:cH.dV<=l.length) (aq:hV st.A l 0): @Here s2 _ N {sl,ms:=[],A:=dd l} B w0 a w:=by
 unfold cq at cR;split at cR
 ·rename_i vv
  cases hs:zH l with
  |false=>rw[hs] at cR;cases cR
  |true=>
   rw[hs,bx] at cR;obtain⟨x,y,ak,bq,rfl⟩:=uw cR;rw[vv] at ad;cases ad;have hold:∀b k,(dd l).bl.get b=some k->∃x eK o,l[b]? =some x/\k=x.bk b/\st.A.bl.get b=some eK/\eK.cN=b/\eK.eF=x.eF/\eK.ty=x.ty/\eK.ro=false/\Bq l.length eK.obj x.obj=some o/\∀p∈o,p∈y:=λb k aj=>by
    obtain⟨x,q1,aE⟩:=zI aj;obtain⟨eK,o,cJ,dk,fQ⟩:=DH l 0 bq b x q1;rw[Nat.zero_add] at cJ dk;exact⟨x,eK,o,q1,aE,cJ,dk,fQ⟩
   have zK:∀b e,φ b=some e->w.heap[e.bk]? =w.heap[e.bk]? :=λ_ _ _=>rfl
   have gF:∀b,b<l.length->∃k,(dd l).bl.get b=some k:=λb ae=>by
    have:=List.all_eq_true.1 hs b (by simpa using ae);simp only [cV] at this;obtain⟨_,hm⟩:=this;split at hm
    ·rename_i k aj;exact⟨k,aj⟩
    ·cases hm
   refine⟨⟨nG l.length φ,[],.nil,⟨@fw.size s1 _ _ _ _ _ af,@fw.defers s1 _ _ _ _ _ af,λt gx ym=>DF st.sl sl ak hm.left t gx _ ym λv1 w4=> @fw.get s1 _ _ _ _ _ af t v1 w4⟩,⟨V2 hs,?_,?_,?_,λi o ag=> ?_⟩,λb e ae=>bD b e (qv ae).2,av,λb ae=>by unfold nG;rw[aQ (Nat.lt_of_lt_of_le ae av)];exact fK.2 b ae⟩,cD,cI⟩
   ·intro b e ae
    obtain⟨b8,h1⟩:=qv ae;obtain⟨k,aj⟩:=gF b b8;obtain⟨x,eK,o,q1,rfl,ca,ey,hh,kT,oG,gS,Bc⟩:=hold b k aj;obtain⟨db,cJ,dk,fQ⟩:= @bU.eo s1 _ _ _ ay b e h1;rw[ca] at cJ;cases cJ;refine⟨_,aj,by rw[dk,hh];rfl,?_⟩;unfold fL at fQ ⊢;show match x.obj with| .cells c=>_| .map es eU=>_| .gh x=>_
    cases fo:eK.obj with
    |cells c=>
     rw[fo] at gS;simp only [fo] at fQ;cases ih:x.obj with
     |cells c2=>
      rw[ih] at gS;obtain⟨c',iW,g1,g2,g3,g4,kS⟩:=fQ;have n4:∀i,i<c.length->((List.range c.length).map λj=>c'.getD (e.sh+j) undef).getD i undef=c'.getD (e.sh+i) undef:=λi ag=>by
       rw[dh,List.getElem?_map,List.getElem?_range ag];rfl
      have:=DE (s1:=s1) (s2:=s2) (φ:=φ) c c2 gS (λp hp=>hm.right p (Bc p hp)) ((List.range c.length).map λj=>c'.getD (e.sh+j) undef) (by simp) λi ag=>by
       rw[n4 i ag];exact g4 i ag
      obtain⟨t1,t2⟩:=this;simp only [List.length_map,List.length_range] at t1;refine⟨c',iW,by rw[zK b e h1,show (x.bk b).ty=eK.ty from kT.symm];exact g1,g2,by rw[<-t1,show (x.bk b).eF=eK.eF from hh.symm];exact g3,λj hj=> ?_,λ_=>kS oG⟩;have:=t2 j hj;rw[n4 j ar] at this;exact this
     |map es eU=>rw[ih] at gS;cases gS
     |gh z=>rw[ih] at gS;cases gS
    |map es eU=>
     rw[fo] at gS;cases ih:x.obj<;>rw[ih] at gS<;>cases gS
    |gh z=>
     rw[fo] at gS;simp only [fo] at fQ;obtain⟨e4,o',g1,g2⟩:=fQ;cases ih:x.obj with
     |cells c2=>rw[ih] at gS;cases z<;>cases gS
     |map es eU=>rw[ih] at gS;cases z<;>cases gS
     |gh z2=>
      rw[ih] at gS;refine⟨e4,o',(zK b e h1).trans g1,?_⟩;cases z with
      |loop a=>
       cases z2 with
       |loop b=>
        unfold Bq at gS;simp only at gS;cases aw:FP l.length a b with
        |false=>rw[aw] at gS;cases gS
        |true=>
         rw[aw,bx] at gS;unfold FP at aw;simp only [cV,decide_eq_true_eq,Option.isNone_iff_eq_none] at aw;obtain⟨gM,c2,c3,qZ,FQ,JA,JB⟩:=aw;have pO:=N' aq q1 ih;rw[Nat.zero_add] at pO;unfold Jz at pO;rw[ca] at pO;simp only [fo,cE,Prod.mk.injEq] at pO;obtain⟨r,lW,uu,yg,Bk,Bl,FI,FJ,⟨e',N_,u8⟩,Oa⟩:=g2;refine⟨r,lW,uu.trans (V4 gM),by rw[yg,c2,c3],by rw[Bk,cA qZ],by rw[Bl,FQ],by rw[FI,pO.1],by rw[FJ,pO.2],⟨e',?_,u8⟩,λt v aC=> ?_⟩
         ·rw[<-cA JA]
          exact DC N_ (Nat.blt_eq.mp JB)
         ·exact DF (s1:=s1) a.sl b.sl gS (λp hp=>hm.right p (Bc p hp)) t v _ aC λv1 w4=>Oa t v1 w4
       |_=>cases gS
      |_=>cases z2<;>first|(cases gS;done)|exact g2
   ·intro b e k b' e' k' ae dR aj dt cO
    obtain⟨_,h1⟩:=qv ae;obtain⟨_,sS⟩:=qv dR;obtain⟨x,eK,o,q1,rfl,ca,ey,_⟩:=hold b k aj;obtain⟨x',FR,o',u9,rfl,sI,FT,_⟩:=hold b' k' dt;exact @bU.apart s1 _ _ _ ay b e eK b' e' FR h1 sS ca sI (by rw[ey,FT];exact cO)
   ·intro b e k b' e' k' ae dR aj dt aO _
    obtain⟨_,h1⟩:=qv ae;obtain⟨_,sS⟩:=qv dR;obtain⟨x,eK,o,q1,rfl,ca,ey,_⟩:=hold b k aj;obtain⟨x',FR,o',u9,rfl,sI,FT,_⟩:=hold b' k' dt;have:b=b':=aO;subst this;rw[h1] at sS;cases sS;rfl
   ·obtain⟨g1,g2⟩:=qw i o ag
    exact⟨g1,λb e ae=>g2 b e (qv ae).1 (qv ae).2⟩
 ·cases cR
def OR {α:Type} (B:Nat) (M:Mem) (e:aJ) (enc:α->List J) (g:Nat) (l:List α):Prop:=
 B<=g/\∃cur fr,M g=some (.cells cur e fr)/\(∀i,i<cur.size->¬(fr.1<=i/\i<fr.2))/\cur.toList=l.flatMap enc
theorem OR.arr {α:Type} {B:Nat} {M:Mem} {e:aJ} {k:Nat} {enc:α->List J} {g:Nat} {l:List α} (h:OR B M e enc g l) (aj:∀x,(enc x).length=k):cu M k enc (.slice (some ⟨g,0,none⟩) l.length l.length) l:=by
 obtain⟨_,cur,fr,ad,_,ay⟩:=h;refine .mk ad (b2 _) λi x ak j u hu=> ?_
 have:=zN aj l i x ak j u hu;rw[<-ay] at this;simpa using this
theorem Here.freeze [cH] {α:Type} {M:Mem} {bj:List J} {bh:Nat->List J} {N B:Nat} {st:b6} {w0 w:ax} {a:Act} {sl dH:aG} {l:List bw} {bG:eg} {b t q:Nat} {k:hR} {cs:List J} {enc:α->List J} {xs:List α}
  (ah: @Here (aS M bj) _ N st B w0 a w) (aj:st.A.bl.get b=some k) (fo:k.obj= .cells cs) (Gg:k.eF=0) (nZ:k.cN=b) (dE:k.ro=false) (fZ:dP cs=true) (pW: @ew (aS M bj) cs=xs.flatMap enc) (ae:l.length<=b)
  (yB:st.sl.get t=some (.pointer (some ⟨b,0,none⟩))) (cR:cq st sl l=some bG) (hm:∀M' g,fj (aS M bj) (aS M' (bh g)) bG) (e9:bR.set (al q) depth sl t=some dH) (aZ:∀g,lX (bh g) q= .pointer (some ⟨g,0,none⟩))
  (av:cH.dV<=l.length) (aq:hV st.A l 0):
  ∃g M',OR B M' k.ty enc g xs/\(∀i o,M i=some o->M' i=some o)/\M g=none/\ @Here (aS M' (bh g)) _ N {sl:=dH,ms:=[],A:=dd l} B w0 a w:=by
 obtain⟨⟨φ,ds,ad,af,ay,bD,fK⟩,cD,cI⟩:=ah;have aC:= @fw.get (aS M bj) _ _ _ _ _ af t _ yB;generalize hp:a.tmps.getD t undef=WV at aC;cases aC with
 |ptr he=>
  rename_i e;obtain⟨db,cJ,dk,fQ⟩:= @bU.eo (aS M bj) _ _ _ ay b e he;rw[aj] at cJ;cases cJ;unfold fL at fQ;rw[fo] at fQ;obtain⟨c',iW,g1,g2,g3,g4,kS⟩:=fQ;obtain⟨g6,g7⟩:=g3.2 Gg;have sY:M e.bk=none:=by
   cases ag:M e.bk with
   |none=>rfl
   |some o=>exact absurd rfl ((@bU.df (aS M bj) _ _ _ ay e.bk o ag).2 b e he)
  let M':Mem:=λi=>if i=e.bk then some (.cells c' k.ty iW) else M i
  have qB:M' e.bk=some (.cells c' k.ty iW):=aQ rfl;have uA:∀i o,M i=some o->M' i=some o:=λi o ag=>by
   show (if i=e.bk then _ else M i)=some o;rw[aU (λh=>by rw[h,sY] at ag;cases ag)];exact ag
  have j4:c'.toList=xs.flatMap enc:=by
   rw[<-pW];refine @aD.x4 (aS M bj) φ cs c'.toList fZ (by simp [g7]) λi ag=> ?_
   have:=g4 i ag;rw[g6,Nat.zero_add] at this;simpa [fb] using this
  have mR:=cR;unfold cq at mR;have Gh:∀b' x,l[b']? =some x->∃eK,st.A.bl.get b'=some eK/\eK.cN=b':=λb' x ak=>by
   split at mR
   ·cases hs:zH l with
    |false=>rw[hs] at mR;cases mR
    |true=>
     rw[hs,bx] at mR;obtain⟨eA,vt,_,bq,_⟩:=uw mR;obtain⟨eK,o,cJ,dk,_⟩:=DH l 0 bq b' x ak;rw[Nat.zero_add] at cJ dk;exact⟨eK,cJ,dk⟩
   ·cases mR
  have aA:=Here.OQ (s2:=aS M' (bh e.bk)) cR (hm M' e.bk) ad af ay bD fK cD cI (λi o ag=>by
   by_cases ql:i=e.bk
   ·subst ql
    have:some (Obj.cells c' k.ty iW)=some o:=qB.symm.trans ag;cases this;refine⟨g1,λb' e' dR oH heq=> ?_⟩;obtain⟨eK,q1,aE⟩:=Gh b' _ (fA dR);exact @bU.apart (aS M bj) _ _ _ ay b' e' eK b e k oH he q1 aj (by rw[aE,nZ];omega) heq
   ·have lv:M i=some o:=by
     have:(if i=e.bk then some (Obj.cells c' k.ty iW) else M i)=some o:=ag
     rwa [aU ql] at this
    obtain⟨q1,aE⟩:= @bU.df (aS M bj) _ _ _ ay i o lv
    exact⟨q1,λb' e' _ oH=>aE b' e' oH⟩) av aq
  refine⟨e.bk,M',⟨bD b e he,c',iW,qB,λi ag=>kS dE i ag,j4⟩,uA,sY,?_⟩;obtain⟨⟨fh,DY,gV,gO,pc,q7,sR⟩,Dp,Bd⟩:=aA;letI:=aS M' (bh e.bk);refine⟨⟨fh,DY,gV,⟨gO.size,gO.defers,λda aB mh=> ?_⟩,pc,q7,sR⟩,Dp,Bd⟩;rw[bR.nY _ _ _ _ _ _ e9] at mh;split at mh
  ·rename_i aK
   cases mh;subst aK;rw[hp];have:=aD.sym (φ:=fh) q;have o8:a7.σ q=Value.pointer (some ⟨e.bk,0,none⟩):=aZ e.bk;rw[o8] at this;rw[g6,Nat.zero_add];exact this
  ·exact gO.get da aB mh
end AE
end Go.Proofs.YtepcfjbfkedlpaaDoor
namespace Go.Proofs.YtepcfjbfkedlpaaDoor
open Go Go.RowKit
namespace AE
theorem WW:∀(l:List J) (k:Nat) (cs:Array J),k+l.length<=cs.size->((l.zipIdx k).foldl (λ(cs:Array J) (p:J×Nat)=>cs.setIfInBounds p.2 p.1) cs).toList=cs.toList.take k++l++cs.toList.drop (k+l.length)
 |[],k,cs,h=>by simp
 |u::l,k,cs,h=>by
  simp only [List.zipIdx_cons,List.foldl_cons];simp only [List.length_cons] at h;rw[WW l (k+1) _ (by simp only [Array.size_setIfInBounds];omega)];have aj:k<cs.toList.length:=by rw[Array.length_toList];omega
  rw[Array.toList_setIfInBounds,List.take_set,List.drop_set,aQ ar];rw[List.take_add_one,fA aj];rw[List.set_append_right _ _ (by rw[List.length_take];omega)];simp only [List.length_take,Option.toList_some];rw[show k-min k cs.toList.length=0 by omega];simp only [List.set_cons_zero,List.length_cons];rw[show k+1+l.length=k+(l.length+1) by omega];simp
theorem agK {P:Nat->Option (Nat×Nat)} {v:J} {cs:Array J} {n:Nat} (hp:P 0=some (0,n)) (av:v.cells.size=n) (aq:cs.size=n):Instr.fill P cs [(0,v)]=some v.cells:=by
 unfold Instr.fill;rw[hp];simp only;rw[aU (by simp only [Nat.zero_add,av,aq];simp)];unfold Instr.fill;congr 1;apply Array.ext';rw[<-Array.foldl_toList];have:=WW v.cells.toList 0 cs (by rw[Array.length_toList];omega);simp only [Array.toList_zipIdx,Nat.zero_add];rw[this];simp [av,aq]
def OS:Option bO->Option (aJ×J)
 |some (.oper o _ ops s _)=>match o.op with
  | .buildSlice t 1 ⟨[(0,gG)]⟩=>match q5 ops o s.sl with
    |some true=>some (t,dB .nil s.sl gG)
    |_=>none
  |_=>none
 |_=>none
theorem agL [cH] {α:Type} {P:aR} {N B:Nat} {w0:ax} {Q:Exit->Act->ax->Prop} {M:Mem} {bj:List J} {o:Option bO} {t e:aJ} {k:Nat} {z x u ea:J} {enc:α->List J} {y:α} {l':List α} {bh:Option Addr->Nat->List J} {du dq:aG} {aV:List bw} {bG:eg}
  (fB:l'=[y]) (h:OS o=some (t,x)) (aK:P.underlying t=some (.slice e)) (pM:bd P (sizeOf e)=some k) (J':bd P (zeroValue e)=some z) (hK:0<k) (n3:k<=1000) (aj:∀x,(enc x).length=k)
  (cR:cq (b4 o) du aV=some bG) (dU:gX N du (je o) ea=some dq) (fV:aL ea=true) (ak:aL x=true) (ex: @aI (aS M bj) x=u) (hu:u.cells=⟨enc y⟩)
  (hm:∀M' a c,fj (aS M bj) (aS M' (bh a c)) bG) (aC:∀M' a c,@aI (aS M' (bh a c)) ea= .slice a l'.length c)
  (rest:∀M' a c,dm B M' e k enc (.slice a l'.length c) l'->hk M M' none->(∀i,some i=eL (.slice a l'.length c)->M i=none)->∀aW w,@Here (aS M' (bh a c)) _ N {sl:=dq,ms:=[],A:=dd aV} B w0 aW w->wpListIn (Fr none) 0 P (j7 o) (dK P (f_ o) Q) (j6 o) aW w)
  (av:cH.dV<=aV.length:=by first|exact Nat.zero_le _|exact gv rfl) (aq:hV (b4 o).A aV 0:=by exact gn rfl): @e_ (aS M bj) _ P N B w0 Q o:=by
 subst fB;letI:=aS M bj;unfold OS at h;split at h
 ·rename_i op r ops s ks
  refine⟨_,rfl,λa w ah=> ?_⟩;split at h
  ·rename_i da gG cm
   split at h
   ·rename_i iJ
    cases h;have gA:=ah;obtain⟨⟨φ,ds,ad,af,ay,bD,_⟩,cD,cI⟩:=ah;unfold wpListIn;rw[n_ af.get iJ,aQ rfl];have nI:a.eval gG=u:=(aD.ig _ ak (gq (hT φ) af.get gG)).trans ex;have hw:∀i o,M i=some o->w.heap[i]? =some o:=gA.mN
    let w':ax:={w with heap:=w.heap.push (.cells ⟨enc y⟩ e)}
    have J_:u.cells.size=k:=by rw[hu];simpa using aj y
    have e8:(execOp a.eval op).run P w= .ok (.value (.slice (some ⟨w.heap.size,0,none⟩) 1 1)) w':=by
     unfold execOp;rw[cm];simp only [List.map_toArray,List.map_cons,List.map_nil,nI];show (do pure (Next.value (<-Instr.buildSlice t 1 #[(0,u)])):Sem Next).run P w=_;have ae:(Instr.buildSlice t 1 #[(0,u)]).run P w= .ok (.slice (some ⟨w.heap.size,0,none⟩) 1 1) w':=by
      unfold Instr.buildSlice;refine dc (run_underlying aK w) ?_;simp only;refine cQ pM ?_;rw[Nat.one_mul];rw[aU ar];rw[aU ar];refine cQ J' ?_;refine cQ (a:=z.cells) rfl ?_;have aO:=agK (P:=λi=>some (i*k,k)) (v:=u) (cs:=(Array.range k).map (z.cells[· %z.cells.size]!)) (n:=k) (by simp) J_ (by simp);simp only [aO];simp [newRow,newObj,Sem.run,w',hu]
     simp only [Sem.run_bind,ae,Result.andThen_ok];rfl
    have fa:∀c',op.op≠.defer c':=λc' h=>by rw[cm] at h;cases h
    refine⟨λ_ _=>trivial,?_⟩;rw[Oper.semAt_eq _ _ _ fa,e8,Oper.uponIn_value];obtain⟨q1,aE⟩:=ph (B:=B) (M:=M) (w:=w) (w':=w') (T:=none) (eN:=some w.heap.size) hw (λi h=>by cases h) (λi ag=> .inr (by cases ag;exact b2 _)) ⟨rfl,rfl,rfl⟩ (b2 _) (by simp [w']) (λi ag _=>by
     show (w.heap.push _)[i]? =_
     rw[Array.getElem?_push,aU ar])
    have cn:dm B (gP M w' none (some w.heap.size)) e k enc (.slice (some ⟨w.heap.size,0,none⟩) [y].length 1) [y]:=by
     refine .inr ⟨w.heap.size,1,⟨enc y⟩,rfl,Nat.one_pos,cI,?_,b2 _,by simp [maxLen],by simpa using aj y,by simp only [List.length_cons,List.length_nil,Nat.zero_add,Nat.one_mul,List.flatMap_cons,List.flatMap_nil,List.append_nil];exact List.take_of_length_le (by rw[aj];exact b2 _)⟩;unfold gP;rw[aQ rfl];show (w.heap.push _)[w.heap.size]? =_;rw[Array.getElem?_push,aQ rfl]
    have gZ:=Here.turns (vals':=bh (some ⟨w.heap.size,0,none⟩) 1) cR (hm _ _ _) q1 av aq gA;letI:=aS (gP M w' none (some w.heap.size)) (bh (some ⟨w.heap.size,0,none⟩) 1);have ku:=Here.put (d:=op.dst) gZ (v:=ea) fV dU;rw[aC] at ku;exact rest _ _ _ cn aE (λj hj=>by
     rw[nH _ _ Nat.one_pos] at hj;cases hj
     exact zU hw (b2 _)) _ w' ku
   ·cases h
  ·cases h
 ·cases h
def Ka:Option bO->Option (aJ×J)
 |some (.oper o _ ops s _)=>match o.op with
  | .makeSlice t s_ vB=>match q5 ops o s.sl with
    |some true=>bif fN (dB .nil s.sl s_) (dB .nil s.sl vB) then some (t,dB .nil s.sl s_) else none
    |_=>none
  |_=>none
 |_=>none
theorem WX {α:Type} {k:Nat} {enc:α->List J} (aj:∀x,(enc x).length=k) {z:J} {zr:α} (bI:z.cells.toList=enc zr) (n:Nat):(madeCells z.cells (n*k)).toList=(List.replicate n zr).flatMap enc:=by
 have aw:z.cells.size=k:=by rw[<-Array.length_toList,bI,aj]
 apply List.ext_getElem?;intro j;unfold madeCells;rcases Nat.lt_or_ge j (n*k) with hj|hj
 ·have d':0<k:=by
   rcases Nat.eq_zero_or_pos k with h|h
   ·subst h
    simp at hj
   ·exact h
  have ag:j/k<(List.replicate n zr).length:=by rw[mc];exact Nat.div_lt_of_lt_mul (by rwa [Nat.mul_comm] at hj)
  have ao:j%k<k:=Nat.mod_lt _ d';have af:=zN aj (List.replicate n zr) (j/k) zr (by rw[fA ag];simp) (j%k) ((enc zr)[j%k]'(by rw[aj];exact ao)) (fA _);rw[Nat.div_add_mod'] at af;rw[af,Array.getElem?_toList,Array.getElem?_map,aw,Array.getElem?_eq_getElem (by simpa using hj)];simp only [Array.getElem_range,Option.map_some];have yd:j%k<z.cells.size:=by omega
  rw[getElem!_pos z.cells _ yd];have:z.cells.toList[j%k]? =(enc zr)[j%k]? :=by rw[bI]
  rw[Array.getElem?_toList,Array.getElem?_eq_getElem yd,fA (by rw[aj];exact ao)] at this;exact this
 ·rw[Array.getElem?_toList,Array.getElem?_map,Array.getElem?_eq_none (by simpa using hj),List.getElem?_eq_none (by rw[ri aj,mc];exact hj)]
  rfl
theorem WY [cH] {α:Type} {P:aR} {N B:Nat} {w0:ax} {Q:Exit->Act->ax->Prop} {M:Mem} {bj:List J} {o:Option bO} {t e:aJ} {k n bytes:Nat} {i:TypeInfo} {z x ea:J} {enc:α->List J} {zr:α} {l':List α} {bh:Option Addr->Nat->List J} {du dq:aG} {aV:List bw} {bG:eg}
  (fB:l'=List.replicate n zr) (h:Ka o=some (t,x)) (aK:P.underlying t=some (.slice e)) (ag:P.info? e=some i) (bI:i.zero=some z) (gD:i.size=k) (jB:i.bytes=bytes) (qn:z.cells.toList=enc zr) (aj:∀x,(enc x).length=k)
  (cR:cq (b4 o) du aV=some bG) (dU:gX N du (je o) ea=some dq) (fV:aL ea=true) (ak:aL x=true) (ex: @aI (aS M bj) x= .int .i64 (n:Nat)) (agM:n<=1000000) (ly:n*bytes<=140737488355328) (j4:n*k<=16777216)
  (hm:∀M' a c,fj (aS M bj) (aS M' (bh a c)) bG) (aC:∀M' a c,@aI (aS M' (bh a c)) ea= .slice a l'.length c)
  (rest:∀M' a c,dm B M' e k enc (.slice a l'.length c) l'->hk M M' none->(∀i,some i=eL (.slice a l'.length c)->M i=none)->∀aW w,@Here (aS M' (bh a c)) _ N {sl:=dq,ms:=[],A:=dd aV} B w0 aW w->wpListIn (Fr none) 0 P (j7 o) (dK P (f_ o) Q) (j6 o) aW w)
  (av:cH.dV<=aV.length:=by first|exact Nat.zero_le _|exact gv rfl) (aq:hV (b4 o).A aV 0:=by exact gn rfl): @e_ (aS M bj) _ P N B w0 Q o:=by
 subst fB;letI:=aS M bj;unfold Ka at h;split at h
 ·rename_i op r ops s ks
  refine⟨_,rfl,λa w ah=> ?_⟩;split at h
  ·rename_i da s_ vB cm
   split at h
   ·rename_i iJ
    cases heq:fN (dB .nil s.sl s_) (dB .nil s.sl vB) with
    |false=>rw[heq] at h;cases h
    |true=>
     rw[heq,bx] at h;have w9:=gW _ _ heq;cases h;have gA:=ah;obtain⟨⟨φ,ds,ad,af,ay,bD,_⟩,cD,cI⟩:=ah;unfold wpListIn;rw[n_ af.get iJ,aQ rfl];have nI:a.eval s_= .int .i64 (n:Nat):=(aD.ig _ ak (gq (hT φ) af.get s_)).trans ex;have OT:a.eval vB= .int .i64 (n:Nat):=(aD.ig _ (by rw[<-w9];exact ak) (gq (hT φ) af.get vB)).trans (by rw[<-w9];exact ex);have hw:∀i o,M i=some o->w.heap[i]? =some o:=gA.mN;subst jB;obtain⟨w',g1,g2,g3⟩:=run_makeSlice_full (P:=P) w B t e i z k aK ag bI gD .i64 .i64 n j4 (by rw[Nat.mul_comm];omega) (by simp [maxLen];omega) cI;have e8:(execOp a.eval op).run P w= .ok (.value (.slice (some ⟨w.heap.size,0,none⟩) n n)) w':=by
      unfold execOp;rw[cm];simp only [nI,OT];show (do pure (Next.value (<-Instr.makeSlice t (.int .i64 (n:Nat)) (.int .i64 (n:Nat)))):Sem Next).run P w=_;simp only [Sem.run_bind,g1,Result.andThen_ok];rfl
     have fa:∀c',op.op≠.defer c':=λc' h=>by rw[cm] at h;cases h
     refine⟨λ_ _=>trivial,?_⟩;rw[Oper.semAt_eq _ _ _ fa,e8,Oper.uponIn_value];rw[WX aj qn] at g2;obtain⟨q1,aE⟩:=ph (B:=B) (M:=M) (w:=w) (w':=w') (T:=none) (eN:=some w.heap.size) hw (λi h=>by cases h) (λi ag=> .inr (by cases ag;exact b2 _)) ⟨g3.os,g3.tape,g3.output⟩ (b2 _) g3.size (λi ag cO=>g3.block i ag cO);have hlen:(List.replicate n zr).length=n:=mc;have cn:dm B (gP M w' none (some w.heap.size)) e k enc (.slice (some ⟨w.heap.size,0,none⟩) (List.replicate n zr).length n) (List.replicate n zr):=by
      refine(dm.Oe (w:=w') (by rw[hlen];exact g2)).mono (b2 _) λj hj o ho=> ?_
      have e1:=Bt hj;unfold gP;rw[aQ (by rw[e1];rfl)];exact ho
     have gZ:=Here.turns (vals':=bh (some ⟨w.heap.size,0,none⟩) n) cR (hm _ _ _) q1 av aq gA;letI:=aS (gP M w' none (some w.heap.size)) (bh (some ⟨w.heap.size,0,none⟩) n);have ku:=Here.put (d:=op.dst) gZ (v:=ea) fV dU;rw[aC,hlen] at ku;refine rest _ _ _ cn aE (λj hj=> ?_) _ w' ku;have e1:=Bt hj;cases e1;exact zU hw (b2 _)
   ·cases h
  ·cases h
 ·cases h
def uB (o:Option bO) (b t:Nat):Option (List J×Nat×Nat):=
 match o with
 |some (.oper _ _ _ s _)=>match s.A.bl.get b with
  |some k=>match k.obj with
   | .cells cs=>bif Nat.beq k.eF 0&&(Nat.beq k.cN b&& !k.ro) then match s.sl.get t with
     |some (.slice (some ⟨b',0,none⟩) n c)=>bif Nat.beq b' b then some (cs,n,c) else none
     |_=>none
     else none
   |_=>none
  |none=>none
 |_=>none
def mq (st:b6):Option bO->Option bO
 |some (.oper op r ops _ ks)=>some (.oper op r ops st ks)
 |o=>o
theorem Here.agN [cH] {α:Type} {M:Mem} {bj:List J} {bh:Nat->List J} {N B:Nat} {st:b6} {w0 w:ax} {a:Act} {sl dH:aG} {l:List bw} {bG:eg} {b t q n c eK:Nat} {k:hR} {cs:List J} {enc:α->List J} {xs:List α}
  (x9:∀x,(enc x).length=eK) (BJ:xs.length=n) (fq:0<n) (h9:n<=c) (ah: @Here (aS M bj) _ N st B w0 a w) (aj:st.A.bl.get b=some k) (fo:k.obj= .cells cs) (Gg:k.eF=0) (nZ:k.cN=b) (fZ:dP cs=true) (pW: @ew (aS M bj) cs=xs.flatMap enc) (ae:l.length<=b)
  (yB:st.sl.get t=some (.slice (some ⟨b,0,none⟩) n c)) (cR:cq st sl l=some bG) (hm:∀M' g,fj (aS M bj) (aS M' (bh g)) bG) (e9:bR.set (al q) depth sl t=some dH) (aZ:∀g,lX (bh g) q= .slice (some ⟨g,0,none⟩) n c)
  (av:cH.dV<=l.length) (aq:hV st.A l 0):
  ∃g M',cu M' eK enc (.slice (some ⟨g,0,none⟩) n c) xs/\B<=g/\M' g≠none/\hk M M' none/\M g=none/\ @Here (aS M' (bh g)) _ N {sl:=dH,ms:=[],A:=dd l} B w0 a w:=by
 obtain⟨⟨φ,ds,ad,af,ay,bD,fK⟩,cD,cI⟩:=ah;have aC:= @fw.get (aS M bj) _ _ _ _ _ af t _ yB;generalize hp:a.tmps.getD t undef=WV at aC;cases aC with
 |iH _ _=>omega
 |ib _ _ _ he aw _ _=>
  obtain⟨db,cJ,dk,fQ⟩:= @bU.eo (aS M bj) _ _ _ ay b _ he;rw[aj] at cJ;cases cJ;omega
 |ia _ _ he=>
  rename_i e;obtain⟨db,cJ,dk,fQ⟩:= @bU.eo (aS M bj) _ _ _ ay b e he;rw[aj] at cJ;cases cJ;unfold fL at fQ;rw[fo] at fQ;obtain⟨c',iW,g1,g2,g3,g4,kS⟩:=fQ;obtain⟨g6,g7⟩:=g3.2 Gg;have sY:M e.bk=none:=by
   cases ag:M e.bk with
   |none=>rfl
   |some o=>exact absurd rfl ((@bU.df (aS M bj) _ _ _ ay e.bk o ag).2 b e he)
  let M':Mem:=λi=>if i=e.bk then some (.cells c' k.ty iW) else M i
  have qB:M' e.bk=some (.cells c' k.ty iW):=aQ rfl;have uA:∀i o,M i=some o->M' i=some o:=λi o ag=>by
   show (if i=e.bk then _ else M i)=some o;rw[aU (λh=>by rw[h,sY] at ag;cases ag)];exact ag
  have j4:c'.toList=xs.flatMap enc:=by
   rw[<-pW];refine @aD.x4 (aS M bj) φ cs c'.toList fZ (by simp [g7]) λi ag=> ?_
   have:=g4 i ag;rw[g6,Nat.zero_add] at this;simpa [fb] using this
  have mR:=cR;unfold cq at mR;have Gh:∀b' x,l[b']? =some x->∃eK,st.A.bl.get b'=some eK/\eK.cN=b':=λb' x ak=>by
   split at mR
   ·cases hs:zH l with
    |false=>rw[hs] at mR;cases mR
    |true=>
     rw[hs,bx] at mR;obtain⟨eA,vt,_,bq,_⟩:=uw mR;obtain⟨eK,o,cJ,dk,_⟩:=DH l 0 bq b' x ak;rw[Nat.zero_add] at cJ dk;exact⟨eK,cJ,dk⟩
   ·cases mR
  have aA:=Here.OQ (s2:=aS M' (bh e.bk)) cR (hm M' e.bk) ad af ay bD fK cD cI (λi o ag=>by
   by_cases ql:i=e.bk
   ·subst ql
    have:some (Obj.cells c' k.ty iW)=some o:=qB.symm.trans ag;cases this;refine⟨g1,λb' e' dR oH heq=> ?_⟩;obtain⟨eK,q1,aE⟩:=Gh b' _ (fA dR);exact @bU.apart (aS M bj) _ _ _ ay b' e' eK b e k oH he q1 aj (by rw[aE,nZ];omega) heq
   ·have lv:M i=some o:=by
     have:(if i=e.bk then some (Obj.cells c' k.ty iW) else M i)=some o:=ag
     rwa [aU ql] at this
    obtain⟨q1,aE⟩:= @bU.df (aS M bj) _ _ _ ay i o lv
    exact⟨q1,λb' e' _ oH=>aE b' e' oH⟩) av aq
  have lC:cu M' eK enc (.slice (some ⟨e.bk,0,none⟩) n c) xs:=by
   subst BJ;refine .mk qB h9 λi x ak j u hu=> ?_
   have:=zN x9 xs i x ak j u hu;rw[<-j4] at this;rw[Nat.zero_add];simpa using this
  refine⟨e.bk,M',lC,bD b e he,(by rw[qB];simp),λi o ag _=>uA i o ag,sY,?_⟩;obtain⟨⟨fh,DY,gV,gO,pc,q7,sR⟩,Dp,Bd⟩:=aA;letI:=aS M' (bh e.bk);refine⟨⟨fh,DY,gV,⟨gO.size,gO.defers,λda aB mh=> ?_⟩,pc,q7,sR⟩,Dp,Bd⟩;rw[bR.nY _ _ _ _ _ _ e9] at mh;split at mh
  ·rename_i aK
   cases mh;subst aK;rw[hp];have:=aD.sym (φ:=fh) q;have o8:a7.σ q=Value.slice (some ⟨e.bk,0,none⟩) n c:=aZ e.bk;rw[o8] at this;rw[g6,Nat.zero_add];exact this
  ·exact gO.get da aB mh
theorem xc [cH] {α:Type} {P:aR} {N B:Nat} {w0:ax} {Q:Exit->Act->ax->Prop} {M:Mem} {bj:List J} {bh:Nat->List J} {o:Option bO} {sl dH:aG} {l:List bw} {bG:eg} {b t q n c eK:Nat} {cs:List J} {enc:α->List J} {xs:List α}
  (h:uB o b t=some (cs,n,c)) (x9:∀x,(enc x).length=eK) (BJ:xs.length=n) (fq:0<n) (h9:n<=c) (fZ:dP cs=true) (pW: @ew (aS M bj) cs=xs.flatMap enc) (ae:l.length<=b)
  (cR:cq (b4 o) sl l=some bG) (hm:∀M' g,fj (aS M bj) (aS M' (bh g)) bG) (e9:bR.set (al q) depth sl t=some dH) (aZ:∀g,lX (bh g) q= .slice (some ⟨g,0,none⟩) n c)
  (rest:∀M' g,cu M' eK enc (.slice (some ⟨g,0,none⟩) n c) xs->B<=g->M' g≠none->hk M M' none->M g=none-> @e_ (aS M' (bh g)) _ P N B w0 Q (mq {sl:=dH,ms:=[],A:=dd l} o))
  (av:cH.dV<=l.length:=by first|exact Nat.zero_le _|exact gv rfl) (aq:hV (b4 o).A l 0:=by exact gn rfl): @e_ (aS M bj) _ P N B w0 Q o:=by
 unfold uB at h;split at h
 ·rename_i op r ops s ks
  split at h
  ·rename_i k aj
   split at h
   ·rename_i cs' fo
    cases jm:(Nat.beq k.eF 0&&(Nat.beq k.cN b&& !k.ro)) with
    |false=>rw[jm] at h;cases h
    |true=>
     rw[jm,bx] at h;simp only [cV] at jm;split at h
     ·rename_i b' fS c' yB
      cases pa:Nat.beq b' b with
      |false=>rw[pa] at h;cases h
      |true=>
       rw[pa,bx] at h;cases h;have Gi:=cA pa;subst Gi;refine⟨_,rfl,λa w ah=> ?_⟩;obtain⟨g,M',q1,aE,ca,ey,hh,kT⟩:=Here.agN x9 BJ fq h9 ah aj fo (cA jm.1) (cA jm.2.1) fZ pW ae yB cR hm e9 aZ av aq;obtain⟨agO,e',ok⟩:=rest M' g q1 aE ca ey hh;unfold mq at e';cases e';exact ok a w kT
     ·cases h
   ·cases h
  ·cases h
 ·cases h
theorem uC {α:Type} {M M':Mem} {g k n c:Nat} {enc:α->List J} {xs:List α} (lC:cu M' k enc (.slice (some ⟨g,0,none⟩) n c) xs) (ad:M' g≠none) (bS:hk M M' none) (av:M g=none):c5 M [] M' [r' k enc (.slice (some ⟨g,0,none⟩) n c) xs]:=
 ⟨cv.one ⟨lC,λb ae=>by cases ae;exact ad⟩,λi o ag _=>bS i o ag λe=>(by cases e),λb ae=>by
   have af:some b=(Value.slice (some ⟨g,0,none⟩) n c).ownBlock:=nM.1 ae;cases af
   exact .inr av⟩
theorem agP {M M':Mem} {bj vals':List J} {a n:Nat} {i:Nat} (ad:lX bj a= .int .i64 ((i:Nat):Int)) (h:i=n): @aI (aS M bj) (al a)= @aI (aS M' vals') (.int .i64 ((n:Nat):Int)):=by
 subst h;exact(@I7 (aS M bj) a).trans ad
theorem i'.mk' {B g:Nat} {M:Mem} {ty:aJ} {cs:List J} (ad:B<=g) (af:M g=some (.cells ⟨cs⟩ ty (0,0))):i' B M (.pointer (some ⟨g,0,none⟩)) ty cs:=⟨g,rfl,ad,af⟩
section
variable [a7] {P:aR}
theorem aT.quo {t:aJ} {x y r:J} {a b:Int} (aM:0<=a/\a<=9223372036854775807) (ad:1<=b) (ak:aL x=true) (bq:aL y=true) (ao:aL r=true) (ex:aI x= .int .i64 a) (hx:aI y= .int .i64 b) (b1:aI r= .int .i64 (a/b)):aT P (.bin .quo t x y,r):=
 uy ak bq ao ex hx λdF dG w=>by
  rw[b1];have e1:=IntWalk.i64_quo a b ⟨aM.1,aM.2,ad⟩;have e2:¬b=0:=by omega
  unfold fF;simp [eqGuard,binOp,Op.intDiv,e2,e1]
theorem aT.rem {t:aJ} {x y r:J} {a b:Int} (aM:0<=a/\a<=9223372036854775807) (ad:1<=b) (ak:aL x=true) (bq:aL y=true) (ao:aL r=true) (ex:aI x= .int .i64 a) (hx:aI y= .int .i64 b) (b1:aI r= .int .i64 (a%b)):aT P (.bin .rem t x y,r):=
 uy ak bq ao ex hx λdF dG w=>by
  rw[b1];have e1:=IntWalk.rem_in a b aM.1;have e2:¬b=0:=by omega
  unfold fF;simp [eqGuard,binOp,Op.intDiv,e2,e1]
end
theorem i'.up {W:ax} {M:Mem} {g:Nat} {ty:aJ} {cs:List J} (h:i' 0 (aF W) (.pointer (some ⟨g,0,none⟩)) ty cs) (hm:∀i o,aF W i=some o->M i=some o):i' 0 M (.pointer (some ⟨g,0,none⟩)) ty cs:=i'.mk' (Nat.zero_le _) (hm _ _ h.known.1)
theorem Gj:∀u∈([]:List J),u.oneCell'=true:=λu h=>by cases h
theorem pX {u:J} {l:List J} (h:u.oneCell'=true) (t:∀x∈l,x.oneCell'=true):∀x∈u::l,x.oneCell'=true:=λx ak=>by
 rcases List.mem_cons.1 ak with rfl|ak
 ·exact h
 ·exact t x ak
theorem getD_some {α:Type} {l:List α} {i:Nat} {z d:α} (h:l[i]? =some z):l.getD i d=z:=by
 rw[dh,h];rfl
theorem agQ {a:Option Addr} {n m c j k i:Nat} (h:some i=eL (.slice (k1 a c j k) m (c-j))):some i=eL (.slice a n c):=by
 cases a with
 |none=>
  unfold k1 at h;split at h
  ·cases h
  ·cases h
 |some gY=>
  by_cases aq:c-j=0
  ·rw[aq,FY] at h
   cases h
  ·unfold k1 at h
   rw[aU ar] at h;have ad:(gY.add (j*k)).block=gY.block:=by
    unfold Addr.add;split<;>rfl
   rw[Option.map_some,nH _ _ ar,ad] at h;rw[nH _ _ ar];exact h
theorem cb.zero {B:Nat} {w w':ax} (h:cb B w w'):cb 0 w w':=h.mono (Nat.zero_le _)
theorem Gk {α:Type} {P:aR} {f:FuncId} {args:Array J} {w:ax} {e:aJ} {k:Nat} {enc:α->List J} {l:List α} (h:Calls P f args w λe' w'=>(∃a c,e'= .returned (.slice a l.length c)/\dm w.heap.size (aF w') e k enc (.slice a l.length c) l)/\cb w.heap.size w w'):
  Calls P f args w λe' w'=>(∃y:Option Addr×Nat,e'= .returned (.slice y.1 l.length y.2)/\c5 (aF w) [] (aF w') [h2 e k enc (.slice y.1 l.length y.2) l])/\cb 0 w w':=
 h.mono λe' w' he=>by
   obtain⟨⟨a,c,rfl,cn⟩,hl⟩:=he;refine⟨⟨(a,c),rfl,cv.one (r_ cn),λi o ag _=> ?_,λb ae=> ?_⟩,hl.zero⟩
   ·rw[show aF w' i=aF w i from hl.block i (Array.getElem?_eq_some_iff.1 ag).1]
    exact ag
   ·exact .inr (Array.getElem?_eq_none_iff.2 (cn.known b (nM.1 ae)).2)
end AE
end Go.Proofs.YtepcfjbfkedlpaaDoor
namespace Go.Proofs.YtepcfjbfkedlpaaDoor
open Go Go.Proofs Go.RowKit
namespace AE
def BK (t t2:aJ):Option bO->Option (J×J)
 |some (.oper o _ ops s _)=>match o.op with
  | .call c=>match c.callee,c.args with
    | .builtin .copy,⟨[nr,gG]⟩=>bif decide (c.argTypes= #[t,t2]) then match q5 ops o s.sl with
      |some true=>some (dB .nil s.sl nr,dB .nil s.sl gG)
      |_=>none
      else none
    |_,_=>none
  |_=>none
 |_=>none
theorem agR [cH] {P:aR} {N B:Nat} {w0:ax} {Q:Exit->Act->ax->Prop} {M:Mem} {bj bh:List J} {o:Option bO} {t t2 e ty:aJ} {g j m n wM:Nat} {vs jC:J} {us cs cs':List J} {du dq:aG} {aV:List bw} {bG:eg}
  (fB:cs'=cs.take j++us++cs.drop (j+n)) (h:BK t t2 o=some (vs,jC)) (aK:P.underlying t=some (.slice e)) (aw:(P.info? e).map (·.size)=some 1)
  (cR:cq (b4 o) du aV=some bG) (dU:gX N du (je o) (.int .i64 n)=some dq) (hp:aL vs=true) (lZ: @aI (aS M bj) vs= .slice (some ⟨g,j,none⟩) m wM)
  (iY:∀φ w x,@bU (aS M bj) φ (b4 o).A w-> @aD (aS M bj) φ jC x->r7 w 1 (λu:J=>[u]) x us) (hu:us.length=n) (fq:0<n) (Jg:n<=m) (jV:∀u∈us,u.oneCell'=true)
  (cn:i' B M (.pointer (some ⟨g,0,none⟩)) ty cs) (hj:j+n<=cs.length) (hm:∀M',fj (aS M bj) (aS M' bh) bG)
  (rest:∀M',i' B M' (.pointer (some ⟨g,0,none⟩)) ty cs'->hk M M' (some g)->∀aW w,@Here (aS M' bh) _ N {sl:=dq,ms:=[],A:=dd aV} B w0 aW w->wpListIn (Fr none) 0 P (j7 o) (dK P (f_ o) Q) (j6 o) aW w)
  (av:cH.dV<=aV.length:=by first|exact Nat.zero_le _|exact gv rfl) (aq:hV (b4 o).A aV 0:=by exact gn rfl): @e_ (aS M bj) _ P N B w0 Q o:=by
 subst fB;subst hu;letI:=aS M bj;unfold BK at h;split at h
 ·rename_i op r ops s ks
  refine⟨_,rfl,λa w ah=> ?_⟩;split at h
  ·rename_i c cm
   split at h
   ·rename_i nr gG pL gy
    cases hty:decide (c.argTypes= #[t,t2]) with
    |false=>rw[hty] at h;cases h
    |true=>
     rw[hty,bx] at h;have yq:c.argTypes= #[t,t2]:=of_decide_eq_true hty;split at h
     ·rename_i iJ
      cases h;have gA:=ah;obtain⟨⟨φ,ds,ad,af,ay,bD,_⟩,cD,cI⟩:=ah;unfold wpListIn;rw[n_ af.get iJ,aQ rfl];have es:a.eval nr= .slice (some ⟨g,j,none⟩) m wM:=(aD.ig _ hp (gq (hT φ) af.get nr)).trans lZ;obtain⟨w7,c2,ex,yp,j4⟩:=iY φ w _ ay (gq (hT φ) af.get gG);have hw:∀i o,M i=some o->w.heap[i]? =some o:=gA.mN;obtain⟨bn,cC⟩:=cn.known;have aA:=hw _ _ bn;cases w7 with
      |none=>
       rw[yp rfl] at fq;exact absurd fq (Nat.lt_irrefl _)
      |some gY=>
       have BL:us.flatMap (λu:J=>[u])=us:=by simp
       let fH:Array J:=(cs.take j++us++cs.drop (j+us.length)).toArray
       have Gl:=run_copy_row (P:=P) w t t2 op.type e g j m wM gY us.length c2 ⟨cs⟩ ty us aK aw aA (Nat.min_eq_left ar).symm (λi v ag=>j4 gY rfl i v (by rw[BL];exact ag)) (by simp only [List.size_toArray];omega) jV;have e8:(execOp a.eval op).run P w= .ok (.value (.int .i64 us.length)) (w.setRow g fH):=by
        unfold execOp resolve;rw[cm];simp only [pL,gy,yq,List.map_toArray,List.map_cons,List.map_nil];show (do pure (Next.value (<-Builtin.copy_ #[t,t2] op.type #[a.eval nr,a.eval gG])):Sem Next).run P w=_;rw[es,ex];simp only [Sem.run_bind,Gl,Result.andThen_ok];rfl
       have fa:∀c',op.op≠.defer c':=λc' h=>by rw[cm] at h;cases h
       refine⟨λ_ _=>trivial,?_⟩;rw[Oper.semAt_eq _ _ _ fa,e8,Oper.uponIn_value];obtain⟨q1,aE⟩:=ph (B:=B) (M:=M) (w':=w.setRow g fH) (T:=some g) (eN:=some g) hw (λi ag=>by cases ag;exact⟨by rw[bn];simp,cC⟩) (λi ag=> .inl ag) ⟨rfl,rfl,rfl⟩ (b2 _) (by simp [World.setRow]) (λj _ hj=>setRow_other w g j fH (λh=>hj (by rw[h])));have vA:i' B (gP M (w.setRow g fH) (some g) (some g)) (.pointer (some ⟨g,0,none⟩)) ty (cs.take j++us++cs.drop (j+us.length)):=by
        refine⟨g,rfl,cC,?_⟩;unfold gP;rw[aQ rfl];exact setRow_heap w g ⟨cs⟩ fH ty (0,0) aA
       have gZ:=Here.turns (vals':=bh) cR (hm _) q1 av aq gA;letI:=aS (gP M (w.setRow g fH) (some g) (some g)) bh;exact rest _ vA aE _ _ (Here.put (d:=op.dst) gZ (v:= .int .i64 us.length) rfl dU)
     ·cases h
   ·cases h
  ·cases h
 ·cases h
def endCell (fn:Func):Option bO->Option (aJ×J)
 |some (.done x s)=>bif DJ x then match fn.results.toList,ye s.A s.ms with
  |[.cell a t],some _=>some (t,slot s.sl a)
  |_,_=>none
  else none
 |_=>none
theorem OU [cH] {P:aR} {fn:Func} {N B:Nat} {w0:ax} {M:Mem} {bj:List J} {R:Ending->ax->Prop} {o:Option bO} {t ty:aJ} {g:Nat} {x v:J} {cs:List J} (h:endCell fn o=some (t,x)) (hp:aL x=true) (lZ: @aI (aS M bj) x= .pointer (some ⟨g,0,none⟩))
  (cn:i' B M (.pointer (some ⟨g,0,none⟩)) ty cs) (ha:bd P (isAgg t)=some true) (aw:bd P (sizeOf t)=some cs.length) (aC:aL v=true) (bp: @aI (aS M bj) v= .agg ⟨cs⟩)
  (iB:∀w2,cb B w0 w2-> @n' (aS M bj) w2->R (.returned (.agg ⟨cs⟩)) w2): @e_ (aS M bj) _ P N B w0 (rf P fn N B w0 R) o:=by
 letI:=aS M bj;unfold endCell at h;split at h
 ·rename_i x s
  cases ak:DJ x with
  |false=>rw[ak] at h;cases h
  |true=>
   rw[ak,bx] at h;split at h
   ·rename_i a da fl kr hl
    cases h;refine⟨_,rfl,λev w ah=> ?_⟩;have main:FM P fn N B w0 R ev w:=by
     refine⟨inferInstance,s,fl,v,ah,hl,λφ w1 tmps ao xV=>⟨.agg ⟨cs⟩,?_,?_⟩,λaB w2 gZ=> ?_⟩
     ·have e1:tmps.getD a undef= .pointer (some ⟨g,0,none⟩):=(aD.ig _ hp (I_ (xV a))).trans lZ
      have aA:w1.heap[g]? =some (.cells ⟨cs⟩ ty (0,0)):=(ao.df g _ cn.known.1).1;have agS:(loadVar t (⟨g,0,none⟩:Addr)).run P w1= .ok (.agg ⟨cs⟩) w1:=by
       unfold loadVar;refine cQ ha ?_;simp only [if_true];refine cQ aw (dc (run_loadCells_list (P:=P) w1 ⟨g,0,none⟩ cs λj u hj=> ?_) rfl);rw[Addr.kc,cell_of_row w1 _ _ _ _ _ aA,Nat.zero_add];simpa using hj
      have e:results fn tmps=(fn.results.mapM (NU tmps)) >>= λvs=>pure (if h:vs.size=1 then vs[0] else .tuple vs):=by
       unfold results;congr 1
      rw[e,Array.mapM_eq_mapM_toList,kr];refine dc (a:=(⟨[.agg ⟨cs⟩]⟩:Array J)) (dc (a:=[.agg ⟨cs⟩]) ?_ rfl) rfl;rw[List.mapM_cons];refine dc (a:=Value.agg ⟨cs⟩) ?_ rfl;show (do loadVar t (<-asAddr (tmps.getD a undef)):Sem J).run P w1=_;rw[e1];exact cQ (a:=(⟨g,0,none⟩:Addr)) rfl agS
     ·rw[<-bp]
      exact aD.vg φ v aC
     ·have ag:=gZ.mN
      obtain⟨⟨φ,ds,q1,aE,ca,ey,_⟩,hh,kT⟩:=gZ;have:=aE.get 0 v rfl;rw[show aB=aI v from aD.ig v aC this,bp];exact iB w2 hh ag
    cases x with
    |normal=>exact main
    |ret=>exact main
    |exit id=>cases ak
    |goto l=>cases ak
   ·cases h
 ·cases h
end AE
namespace AE
def OV [cH] {X:Type} (f':X->a7) (gj:X->Prop) (iD:X->Nat) (m N:Nat) (head:aG) (aV:List bw) (B:Nat) (w0:ax):Act->ax->Prop:=λa w=>∃x',gj x'/\iD x'<m/\ @Here (f' x') _ N (b7 head aV) B w0 a w
theorem ta [cH] {P:aR} {N B:Nat} {w0:ax} {s1:a7} {X:Type} {f':X->a7} (gj:X->Prop) (iD:X->Nat) {head:aG} {aV:List bw} {o:Option bO} {bG:eg} {Q:Exit->Act->ax->Prop} (x:X) (ae:pS head aV o=some bG) (hm:fj s1 (f' x) bG)
  (qw:∀i o,(f' x).df i=some o->s1.df i=some o) (ak:gj x)
  (round:∀x,gj x->∀a w,@Here (f' x) _ N (b7 head aV) B w0 a w->(pe o).wpIn (Fr none) 0 P (Exit.then (OV f' gj iD (iD x) N head aV B w0) (dK P (f_ o) Q)) a w)
  (av:cH.dV<=aV.length:=by first|exact Nat.zero_le _|exact gv rfl) (aq:hV (b4 o).A aV 0:=by exact gn rfl): @e_ s1 _ P N B w0 Q o:=
 afH gj iD x ae hm qw ak round av aq
theorem agT {s1:a7} [cH] {P:aR} {N B:Nat} {w0:ax} {X:Type} {f':X->a7} {gj:X->Prop} {iD:X->Nat} {m:Nat} {head:aG} {aV:List bw} {o:Option bO} (x':X) {bG:eg} {Q:Exit->Act->ax->Prop} (ae:qx head aV o=some bG) (hm:fj s1 (f' x') bG)
  (qw:∀i o,(f' x').df i=some o->s1.df i=some o) (bg:gj x') (BM:iD x'<m) (av:cH.dV<=aV.length:=by first|exact Nat.zero_le _|exact gv rfl) (aq:hV (b4 o).A aV 0:=by exact gn rfl):
  @e_ s1 _ P N B w0 (Exit.then (OV f' gj iD m N head aV B w0) Q) o:=by
 cases o with
 |none=>cases ae
 |some st=>
  refine⟨st,rfl,?_⟩;unfold qx at ae;split at ae
  ·rename_i s cP
   cases cP;intro a w ah;exact⟨x',bg,BM,Here.move ae hm qw av aq ah⟩
  ·cases ae
theorem agU {M M':Nat->Option Obj} {bj vals':List J} {a b:Nat} {v:J} (ad:bj[a]? =some v) (af:vals'[b]? =some v) (ha:Nat.blt a eQ=true) (ae:Nat.blt b eQ=true): @aI (aS M bj) (al a)= @aI (aS M' vals') (al b):=by
 have e1:lX bj a=oc v:=by unfold lX;rw[ha,bx,dh,ad];rfl
 have e2:lX vals' b=oc v:=by unfold lX;rw[ae,bx,dh,af];rfl
 exact Wa (oc v) e1 e2
theorem WZ [cH] {P:aR} [Lib P] {N B:Nat} {w0:ax} {Q:Exit->Act->ax->Prop} {M:Mem} {bj:List J} {o:Option bO} {f:FuncId} {args:List J} {ea:J} {Y:Type} {bh:Y->List J} {du dq:aG} {aV:List bw} {bG:eg} {dx:Mem} {az nO:List b0} {r:Y->J} {xd:Y->List b0}
  (aN:bH B dx az M nO) (is:List Nat) (jE DZ:Y->List b0)
  (h:(vy P o).isSome=true) (aO:(r9 P o).1=f) (ha:(r9 P o).2.1=args) (cR:cq (kx P o) du aV=some bG) (dU:gX N du (je o) ea=some dq)
  (h3:jK nO.length is=true) (ao:∀M' y,@aI (aS M' (bh y)) ea=r y) (hL:∀y,xd y=jE y++DZ y)
  (fI:∀w,(∀i o,M i=some o->w.heap[i]? =some o)->B<=w.heap.size->cv (aF w) (AE.pick nO is)->Calls P f ⟨@ew (aS M bj) args⟩ w λe w'=>(∃y,e= .returned (r y)/\c5 (aF w) (AE.pick nO is) (aF w') (xd y))/\cb 0 w w')
  (hm:∀y M',fj (aS M bj) (aS M' (bh y)) bG)
  (rest:∀M' y,bH B dx az M' (lj nO is (jE y)++DZ y)->∀aW w,@Here (aS M' (bh y)) _ N {sl:=dq,ms:=[],A:=dd aV} B w0 aW w->wpListIn (Fr none) 0 P (j7 o) (dK P (f_ o) Q) (j6 o) aW w)
  (hlen:∀y,(jE y).length=is.length:=by exact λ_=>rfl)
  (hp:dP args=true:=by rfl) (fV:aL ea=true:=by rfl)
  (av:cH.dV<=aV.length:=by first|exact Nat.zero_le _|exact gv rfl) (aq:hV (kx P o).A aV 0:=by exact gn rfl): @e_ (aS M bj) _ P N B w0 Q o:=
 agB (S:=ik (AE.pick nO is)) (R:=λy M'=>c5 M (AE.pick nO is) M' (xd y)) h aO ha hp cR dU fV (λw hw cC=>agG aN is h3 rfl hw cC ao (fI w hw cC (aN.at is h3 rfl hw))) (λM' y _=>hm y M')
  (λM' y d_=>rest M' y (aN.put is h3 (hlen y) (by rw[<-hL y];exact d_))) av aq
end AE
namespace AE
def OW (P:aR) (A:a') (t:aJ):J->Option J
 | .pointer (some ⟨b,off,none⟩)=>match bd P (isAgg t) with
   |some false=>A.load b off
   |_=>none
 |_=>none
def Gm (P:aR) (bp:Operand->J) (A:a') (o:Oper):Option J:=
 match o.guard with
 |some _=>none
 |none=>match o.op with
  | .load t x=>OW P A t (bp x)
  |_=>bif x7 o then @x8 P ⟨[]⟩ bp o else none
section
variable [a7] {P:aR} {φ:bV} {A:a'} {w w2:ax}
omit [a7] in
theorem W0 {e:hz} {i:Nat} (h:w2.heap[e.bk]? =w.heap[e.bk]?):w2.cell? ⟨e.bk,i,none⟩=w.cell? ⟨e.bk,i,none⟩:=by
 unfold World.cell?;simp only [h]
theorem agV (ao:bU φ A w) (aj:∀b e,φ b=some e->w2.heap[e.bk]? =w.heap[e.bk]?) {t:aJ} {p p' v:J} (hp:aD φ p p') (h:OW P A t p=some v):∃aB,(Instr.loadAt t p').run P w2= .ok aB w2/\aD φ v aB:=by
 unfold OW at h;split at h
 ·rename_i b off
  cases hp with
  |ptr he=>
   split at h
   ·rename_i qm
    obtain⟨aB,ad,af⟩:=u6 ao h he;rw[<-W0 (aj _ _ he)] at ad;refine⟨aB,?_,af⟩;unfold Instr.loadAt;refine cQ (a:=(⟨_,_,none⟩:Addr)) rfl ?_;unfold loadVar;refine cQ qm ?_;simp [Go.load,Sem.run,ad]
   ·cases h
 ·cases h
theorem W1 (ao:bU φ A w) (aj:∀b e,φ b=some e->w2.heap[e.bk]? =w.heap[e.bk]?) {ρ ρ':Operand->J} {o:Oper} {v:J} (cU:∀x,aD φ (ρ x) (ρ' x)) (h:Gm P ρ A o=some v):
  ∃aB,(execOp ρ' o).run P w2= .ok (.value aB) w2/\aD φ v aB/\o.guard=none/\∀c,o.op≠.defer c:=by
 unfold Gm at h;split at h
 ·cases h
 ·rename_i aA
  split at h
  ·rename_i t x cm
   obtain⟨aB,ad,af⟩:=agV ao aj (cU x) h;refine⟨aB,?_,af,aA,λc aq=>by rw[cm] at aq;cases aq⟩;unfold execOp;rw[cm];simp only [Sem.run_bind,ad,Result.andThen_ok];rfl
  ·cases nF:x7 o with
   |false=>rw[nF] at h;cases h
   |true=>
    rw[nF,bx] at h;obtain⟨aB,ad,af⟩:= @Fx _ P ⟨[]⟩ (λ_ h=>by cases h) φ ρ ρ' o v cU h;refine⟨aB,ad w2,af,aA,λc aq=> ?_⟩;unfold x7 at nF;rw[aq] at nF;simp at nF
end
def Kb (P:aR) [Lib P] [dS P] (C:h8) (N E m:Nat) (ops:Array Oper) (ms:List Nat) (dj:aG) (A:a'):List Oper->Nat->List J->Option (List J)
 |[],_,vs=>some vs
 |o::r,i,vs=>bif Nat.beq i E then Kb P C N E m ops ms dj A r (i+1) (vs++[cp]) else
  match hB N ops (λj=>vs.getD j cp) (needs ops m o) dj with
  |some sl=>bif Dh ms E i then
    match vh P C .nil ops o sl A with
    |some (v,bB)=>bif Jj (.nil,bB) (.nil,A) then Kb P C N E m ops ms dj A r (i+1) (vs++[v]) else none
    |none=>none
   else match Gm P (dB .nil sl) A o with
    |some v=>Kb P C N E m ops ms dj A r (i+1) (vs++[v])
    |none=>none
  |none=>none
def agW (ops:Array Oper) (E:Nat):Option (aJ×Operand×Operand):=
 match ops[E]? with
 |some o=>match o.guard,o.dst,o.op with
  |none,none,.store t p x=>some (t,p,x)
  |_,_,_=>none
 |none=>none
def mS (P:aR) [Lib P] [dS P] (C:h8) (N E m:Nat):Option bO->Option (aJ×J×J×aG)
 |some (.draw _ ops s _)=>
  bif uj ops [] m N&&(Nat.blt E m&&(List.range m).all λi=> !direct ops i E) then
   match hB N ops (λ_=>cp) (List.range m) s.sl,agW ops E with
   |some dj,some (t,od,gG)=>match Kb P C N E m ops (zw ops) dj s.A (ops.toList.take m) 0 [] with
    |some vs=>match hB N ops (λj=>vs.getD j cp) (List.range m) dj,ops[E]? with
     |some eE,some o=>match hB N ops (λj=>vs.getD j cp) (needs ops m o) dj with
      |some Kc=>bif aL (dB .nil Kc od)&&aL (dB .nil Kc gG) then some (t,dB .nil Kc od,dB .nil Kc gG,eE) else none
      |none=>none
     |_,_=>none
    |none=>none
   |_,_=>none
  else none
 |_=>none
section
variable {P:aR} [Lib P] [dS P] {C:h8} {N E m:Nat} {ops:Array Oper} {ms:List Nat} {dj:aG} {A:a'}
end
structure Gn [a7] [cH] (N:Nat) (Gp:List Nat) (ds:List Deferred) (ops:Array Oper) (m:Nat) (vs:List J) (dj:aG) (A:a') (B:Nat) (w0:ax) (φ:bV) (listed:Array Bool) (a:Act) (w:ax):Prop where
 agX:q' φ Gp ds
 size:listed.size=ops.size
 down:∀i j,listed.getD i false=true->direct ops i j=true->listed.getD j false=true
 sN:∀i,m<=i->listed.getD i false=false
 rel:bU φ A w
 own:∀b e,φ b=some e->B<=e.bk
 outs:vq φ A
 below:cb B w0 w
 agY:B<=w.heap.size
 defers:a.defers=ds
 mf:a.tmps.size=N
 slot:∀t v,dj.get t=some v->aD φ v (a.tmps.getD t undef)
 val:∀j t,j<m->listed.getD j false=true->ft ops j=some t->aD φ (vs.getD j cp) (a.tmps.getD t undef)
section
variable [a7] [cH] {N:Nat} {Gp:List Nat} {ds:List Deferred} {ops:Array Oper} {m B:Nat} {vs:List J} {dj:aG} {A:a'} {w0 w:ax} {φ:bV} {listed:Array Bool} {a:Act}
theorem Gn.D0 (h:Gn N Gp ds ops m vs dj A B w0 φ listed a w) {jJ:Nat->J} {cd:List Nat} {sl:aG} (va:∀j∈cd,j<m/\listed.getD j false=true/\jJ j=vs.getD j cp) (hp:hB N ops jJ cd dj=some sl):fw N ds φ sl a:=
 ⟨h.mf,h.defers,λt v aC=>by
   rcases oI _ _ _ hp t v aC with ⟨j,hj,bc,rfl⟩|⟨_,aA⟩
   ·obtain⟨ad,af,ay⟩:=va j hj
    rw[ay];exact h.val j t ad af bc
   ·exact h.slot t v aA⟩
omit [a7] [cH] in
theorem Kd {listed:Array Bool} {i:Nat} (ag:i<listed.size) (j:Nat):(listed.setIfInBounds i true).getD j false=true↔j=i\/listed.getD j false=true:=by
 by_cases hj:j=i
 ·subst hj
  simp [fb,ag]
 ·rw[getD_set_ne false (Ne.symm hj)]
  simp [hj]
theorem Gn.put (h:Gn N Gp ds ops m vs dj A B w0 φ listed a w) {i:Nat} {o:Oper} {mg:aG} (eX:hB N ops (λ_=>cp) (List.range m) mg=some dj) (ag:i<m) (hm:m<=ops.size) (ho:ops[i]? =some o)
  (um:∀k,direct ops i k=true->listed.getD k false=true) (mj:∀i j,i<m->j<m->i≠j->∀t,ft ops i=some t->ft ops j≠some t) (b8:∀i t,i<m->ft ops i=some t->t<N)
  {aB:J} (aC:o.dst≠none->aD φ (vs.getD i cp) aB):Gn N Gp ds ops m vs dj A B w0 φ (listed.setIfInBounds i true) (a.put o.dst aB) w:=by
 have kZ:ft ops i=o.dst:=by simp [ft,ho]
 have e9:=Kd (listed:=listed) (i:=i) (by have:=h.size;omega);have cO:∀t,o.dst≠some t->(a.put o.dst aB).tmps.getD t undef=a.tmps.getD t undef:=λt aK=>by
  rcases Nat.lt_or_ge t a.tmps.size with kt|kt
  ·rw[Act.sM _ _ _ _ kt,aU aK]
  ·simp [fb,Array.getElem?_eq_none kt,Array.getElem?_eq_none (show (a.put o.dst aB).tmps.size<=t by rw[Act.size_put];exact kt)]
 refine⟨h.agX,by simpa using h.size,?_,?_,h.rel,h.own,h.outs,h.below,h.agY,by rw[Act.Dg];exact h.defers,by rw[Act.size_put];exact h.mf,?_,?_⟩
 ·intro j k hj bc
  rw[e9] at hj ⊢;rcases hj with rfl|hj
  ·exact .inr (um k bc)
  ·exact .inr (h.down j k hj bc)
 ·intro j hj
  rw[getD_set_ne false ar];exact h.sN j hj
 ·intro t v pN
  by_cases q8:o.dst=some t
  ·rcases oI _ _ _ eX t v pN with ⟨j,hj,bc,rfl⟩|⟨yb,_⟩
   ·exact .cp _
   ·exact absurd (kZ.trans q8) (yb i (List.mem_range.2 ag))
  ·rw[cO t q8]
   exact h.slot t v pN
 ·intro j t hj hl bc
  by_cases dT:j=i
  ·subst dT
   have kt:t<N:=b8 j t hj bc;have:(a.put o.dst aB).tmps.getD t undef=aB:=by
    rw[Act.sM _ _ _ _ (by rw[h.mf];exact kt),aQ (kZ.symm.trans bc)]
   rw[this];exact aC (by rw[<-kZ,bc];simp)
  ·have mJ:=((e9 j).1 hl).resolve_left dT
   rw[cO t λah=>mj i j ag hj (Ne.symm dT) t (kZ.trans ah) bc];exact h.val j t hj mJ bc
end
section
variable [a7] [cH] {P:aR} [Lib P] [dS P] {C:h8} {N E m B:Nat} {w0:ax} {Q:Exit->Act->ax->Prop}
end
end AE
namespace AE
theorem agZ {P:aR} (w:ax) (pY ag0 ty elem:aJ) (d:Option Addr) (ag1:Nat) (a:Addr) (n1 rU:Nat) (hu:P.underlying pY=some (.slice elem)) (aw:(P.info? elem).map (·.size)=some 1):
  (Builtin.copy_ #[pY,ag0] ty #[.slice d 0 ag1,.slice (some a) n1 rU]).run P w= .ok (.int .i64 0) w:=by
 cases aZ:P.info? elem with
 |none=>simp [aZ] at aw
 |some i=>
  have ag:i.size=1:=by simpa [aZ] using aw
  cases d<;>simp [Builtin.copy_,run_underlying hu,Builtin.lenOf,Builtin.firstCells,sizeOf,typeInfo,aZ,ag,storeCells,loadCells,loadCellsFrom,Sem.run,pure,goInt]
theorem OX {α:Type} {enc:α->List J} (aj:∀x,(enc x).length=1) (l:List α) (i:Nat):(l.take i).flatMap enc=(l.flatMap enc).take i/\(l.drop i).flatMap enc=(l.flatMap enc).drop i:=by
 have h:∀(l:List α) (i:Nat),(l.take i).flatMap enc=(l.flatMap enc).take i/\(l.drop i).flatMap enc=(l.flatMap enc).drop i:=by
  intro l
  induction l with
  |nil=>intro i;simp
  |cons x r ck=>
   intro i;cases i with
   |zero=>simp
   |succ i=>
    have ak:=aj x;obtain⟨v,aC⟩:=List.length_eq_one_iff.1 ak;obtain⟨ad,af⟩:=ck i;simp [aC,ad,af]
 exact h l i
theorem W2 [cH] {α:Type} {P:aR} {N B:Nat} {w0:ax} {Q:Exit->Act->ax->Prop} {M:Mem} {bj bh:List J} {o:Option bO} {t t2 e:aJ} {vs jC u rv jJ:J} {a:Option Addr} {c i m:Nat} {enc:α->List J} {l ys l':List α} {du dq:aG} {aV:List bw} {bG:eg}
  (fB:l'=l.take i++ys.take m++l.drop (i+m)) (sH:m=min ys.length (l.length-i)) (h:BK t t2 o=some (vs,jC)) (aK:P.underlying t=some (.slice e)) (aw:(P.info? e).map (·.size)=some 1) (aj:∀x,(enc x).length=1) (jV:∀x,∀v∈enc x,v.oneCell'=true)
  (cR:cq (b4 o) du aV=some bG) (dU:gX N du (je o) rv=some dq) (hp:aL vs=true) (W3:aL rv=true) (hu:u= .slice a l.length c) (lZ: @aI (aS M bj) vs=jJ) (vj:jJ= .slice (k1 a c i 1) (l.length-i) (c-i))
  (iY:∀φ w x,(∀i o,M i=some o->w.heap[i]? =some o)-> @bU (aS M bj) φ (b4 o).A w-> @aD (aS M bj) φ jC x->r7 w 1 enc x ys) (BN:ys≠[]) (ag:i<=l.length)
  (cn:dm B M e 1 enc u l) (b1:∀M',@aI (aS M' bh) rv= .int .i64 ((m:Nat):Int)) (hm:∀M',fj (aS M bj) (aS M' bh) bG)
  (rest:∀M',dm B M' e 1 enc u l'->hk M M' (eL u)->∀aW w,@Here (aS M' bh) _ N {sl:=dq,ms:=[],A:=dd aV} B w0 aW w->wpListIn (Fr none) 0 P (j7 o) (dK P (f_ o) Q) (j6 o) aW w)
  (av:cH.dV<=aV.length:=by first|exact Nat.zero_le _|exact gv rfl) (aq:hV (b4 o).A aV 0:=by exact gn rfl): @e_ (aS M bj) _ P N B w0 Q o:=by
 subst vj;letI:=aS M bj;unfold BK at h;split at h
 ·rename_i op r ops s ks
  refine⟨_,rfl,λev w ah=> ?_⟩;split at h
  ·rename_i eU cm
   split at h
   ·rename_i nr gG pL gy
    cases hty:decide (eU.argTypes= #[t,t2]) with
    |false=>rw[hty] at h;cases h
    |true=>
     rw[hty,bx] at h;have yq:eU.argTypes= #[t,t2]:=of_decide_eq_true hty;split at h
     ·rename_i iJ
      cases h;have gA:=ah;obtain⟨⟨φ,ds,ad,af,ay,bD,_⟩,cD,cI⟩:=ah;unfold wpListIn;rw[n_ af.get iJ,aQ rfl];have es:ev.eval nr= .slice (k1 a c i 1) (l.length-i) (c-i):=(aD.ig _ hp (gq (hT φ) af.get nr)).trans lZ;have hw:∀i o,M i=some o->w.heap[i]? =some o:=gA.mN;obtain⟨w7,c2,ex,yp,j4⟩:=iY φ w _ hw ay (gq (hT φ) af.get gG);have fa:∀c',op.op≠.defer c':=λc' h=>by rw[cm] at h;cases h
      cases w7 with
      |none=>exact absurd (yp rfl) BN
      |some gY=>
       have n0:∀(w2:ax),(Builtin.copy_ #[t,t2] op.type #[ev.eval nr,ev.eval gG]).run P w= .ok (.int .i64 ((m:Nat):Int)) w2->(execOp ev.eval op).run P w= .ok (.value (.int .i64 ((m:Nat):Int))) w2:=by
        intro w2 Gl;unfold execOp resolve;rw[cm];simp only [pL,gy,yq,List.map_toArray,List.map_cons,List.map_nil];show (do pure (Next.value (<-Builtin.copy_ #[t,t2] op.type #[ev.eval nr,ev.eval gG])):Sem Next).run P w=_;simp only [Sem.run_bind,Gl,Result.andThen_ok];rfl
       rcases Nat.eq_or_lt_of_le ag with pk|pk
       ·
        have uD:m=0:=by omega
        subst uD;have lf:l'=l:=by rw[fB,pk];simp
        rw[lf] at rest;have e8:=n0 w (by rw[es,ex,show l.length-i=0 by omega];exact agZ w t t2 op.type e _ _ gY _ c2 aK aw);refine⟨λ_ _=>trivial,?_⟩;rw[Oper.semAt_eq _ _ _ fa,e8,Oper.uponIn_value];have gZ:=Here.move (s2:=aS M bh) cR (hm M) (λ_ _ h=>h) av aq gA;have:=rest M cn (λ_ _ h _=>h) _ _ (@Here.put (aS M bh) _ _ _ _ _ _ _ op.dst rv dq gZ W3 dU);rw[b1 M] at this;exact this
       ·rcases cn with ⟨apG,rfl,rfl⟩|⟨g,cap,cur,he,ke,cC,bn,hle,xY,fZ,yz⟩
        ·simp at pk
        ·rw[he] at hu
         simp only [Value.slice.injEq] at hu;obtain⟨rfl,_,rfl⟩:=hu;have aA:=hw _ _ bn;have bc:k1 (some (⟨g,0,none⟩:Addr)) cap i 1=some ⟨g,i,none⟩:=by
          unfold k1;rw[aU ar];show some ((⟨g,0,none⟩:Addr).add (i*1))=_;have:(⟨g,0,none⟩:Addr).add (i*1)=⟨g,0+i*1,none⟩:=by unfold Addr.add;split<;>simp_all
          rw[this,Nat.zero_add,Nat.mul_one]
         have apH:cur.size=cap:=by omega
         have BL:((ys.take m).flatMap enc).length=m:=by
          rw[ri aj,List.length_take];omega
         have Gl:=run_copy_row (P:=P) w t t2 op.type e g i (l.length-i) (cap-i) gY ys.length c2 cur e ((ys.take m).flatMap enc) aK aw aA (by rw[BL];exact sH) (λj v hj=>j4 gY rfl j v (by
          rw[(OX aj ys m).1] at hj;rw[List.getElem?_take] at hj;split at hj
          ·exact hj
          ·cases hj)) (by rw[BL];omega) (λv aC=>by
          obtain⟨x,_,ak⟩:=List.mem_flatMap.1 aC
          exact jV x v ak)
         let fH:Array J:=(cur.toList.take i++(ys.take m).flatMap enc++cur.toList.drop (i+m)).toArray
         have e8:=n0 (w.setRow g fH) (by rw[es,ex,bc,Gl,BL];rfl);refine⟨λ_ _=>trivial,?_⟩;rw[Oper.semAt_eq _ _ _ fa,e8,Oper.uponIn_value];have ht:eL u=some g:=by rw[he];exact nH ⟨g,0,none⟩ _ ke
         obtain⟨q1,aE⟩:=ph (B:=B) (M:=M) (w':=w.setRow g fH) (T:=some g) (eN:=some g) hw (λi ag=>by cases ag;exact⟨by rw[bn];simp,cC⟩) (λi ag=> .inl ag) ⟨rfl,rfl,rfl⟩ (b2 _) (by simp [World.setRow]) (λj _ hj=>setRow_other w g j fH (λh=>hj (by rw[h])));have lf:l'.length=l.length:=by rw[fB];simp;omega
         have vA:dm B (gP M (w.setRow g fH) (some g) (some g)) e 1 enc u l':=by
          refine .inr ⟨g,cap,fH,by rw[he,lf],ke,cC,?_,by rw[lf];exact hle,xY,?_,?_⟩
          ·unfold gP
           rw[aQ rfl];exact setRow_heap w g cur fH e (0,0) aA
          ·show (List.toArray _).size=_
           simp only [List.size_toArray,List.length_append,List.length_take,List.length_drop,BL,Array.length_toList];omega
          ·show (cur.toList.take i++(ys.take m).flatMap enc++cur.toList.drop (i+m)).take (l'.length*1)=_
           rw[fB,List.flatMap_append,List.flatMap_append,(OX aj l i).1,(OX aj l (i+m)).2,<-yz,Nat.mul_one,Nat.mul_one,<-fB,lf];have ad:(cur.toList.take i++(ys.take m).flatMap enc).length=i+m:=by
            rw[List.length_append,BL,List.length_take,Array.length_toList];omega
           rw[List.take_append,ad,List.take_of_length_le ar,List.take_drop,List.take_take,Nat.min_eq_left ar,List.drop_take];congr 1;have:i+m+(l.length-(i+m))=l.length:=by omega
           rw[this,List.drop_take]
         have gZ:=Here.turns (vals':=bh) cR (hm _) q1 av aq gA;have:=rest _ vA (by rw[ht];exact aE) _ _ (@Here.put (aS (gP M (w.setRow g fH) (some g) (some g)) bh) _ _ _ _ _ _ _ op.dst rv dq gZ W3 dU);rw[b1 _] at this;exact this
     ·cases h
   ·cases h
  ·cases h
 ·cases h
theorem ag2 (a:Option Addr) (n c:Nat):Value.slice a n c= .slice (k1 a c 0 1) (n-0) (c-0):=by
 unfold k1;split
 ·rfl
 ·cases a with
  |none=>rfl
  |some a=>
   obtain⟨b,o,s⟩:=a;rw[Nat.sub_zero,Nat.sub_zero,Nat.zero_mul];cases s<;>rfl
theorem W4 {α:Type} {M:Mem} {bj:List J} {jC jJ:J} {A:a'} {k:Nat} {enc:α->List J} {l:List α} (hp:aL jC=true) (bp: @aI (aS M bj) jC=jJ) (lC:cu M k enc jJ l) (aj:∀x,(enc x).length=k):
  ∀φ w x,(∀i o,M i=some o->w.heap[i]? =some o)-> @bU (aS M bj) φ A w-> @aD (aS M bj) φ jC x->r7 w k enc x l:=λφ w x hw _ aC=>by
 have:x=jJ:=(@aD.ig (aS M bj) φ jC x hp aC).trans bp;rw[this];exact lC.reads aj hw
theorem Ke {n:Int} (ad:0<=n) (af:n<=18446744073709551615):IntKind.u64.wrap n=n:=by rw[IntKind.wrap_u64];omega
end AE
namespace AE
abbrev dY:=Option Addr×Nat
def OY (P:aR) (A:a') (t:aJ):J->Option J
 | .pointer (some ⟨b,off,none⟩)=>match bd P (isAgg t) with
   |some true=>match bd P (sizeOf t) with
    |some n=>(A.rR b off n).map λl=> .agg ⟨l⟩
    |none=>none
   |_=>none
 |_=>none
theorem ag3 [a7] {φ:bV} {A:a'} {w w2:ax} {e:hz} (ao:bU φ A w) (aj:w2.heap[e.bk]? =w.heap[e.bk]?) (P:aR) {b off n:Nat} {vs:List J} (h:A.rR b off n=some vs) (he:φ b=some e):
  ∃cF:Array J,(loadCells ⟨e.bk,e.sh+off,none⟩ n).run P w2= .ok cF w2/\cF.size=vs.length/\∀j,j<vs.length->aD φ (vs.getD j undef) (cF.getD j undef):=by
 obtain⟨hl,hj⟩:=AW h;have AX:∀j,j<n->∃aB,w2.cell? ⟨e.bk,e.sh+off+j,none⟩=some aB/\aD φ (vs.getD j undef) aB:=λj u_=>by
  obtain⟨aB,ad,af⟩:=u6 ao (hj j u_) he;exact⟨aB,by rw[show e.sh+off+j=e.sh+(off+j) by omega,W0 aj];exact ad,af⟩
 let f:Nat->J:=λj=>(w2.cell? ⟨e.bk,e.sh+off+j,none⟩).getD undef
 have aO:∀j,j<n->w2.cell? ((⟨e.bk,e.sh+off,none⟩:Addr).add j)=some (f j):=λj u_=>by
  obtain⟨aB,ad,_⟩:=AX j u_;rw[Addr.kc,ad];simp [f,ad]
 refine⟨_,run_loadCells _ _ n f aO,by simp [hl],λj u_=> ?_⟩;obtain⟨aB,ad,af⟩:=AX j ar;have:f j=aB:=by simp [f,ad]
 have ag4:j<n:=by omega
 simpa [ag4,this] using af
theorem ag5 [a7] {P:aR} {φ:bV} {A:a'} {w w2:ax} (ao:bU φ A w) (aj:∀b e,φ b=some e->w2.heap[e.bk]? =w.heap[e.bk]?) {t:aJ} {p p' v:J} (hp:aD φ p p') (h:OY P A t p=some v):∃aB,(Instr.loadAt t p').run P w2= .ok aB w2/\aD φ v aB:=by
 unfold OY at h;split at h
 ·rename_i b off
  cases hp with
  |ptr he=>
   split at h
   ·rename_i qm
    split at h
    ·rename_i n av
     obtain⟨l,hl,rfl⟩:=Option.map_eq_some_iff.1 h;obtain⟨cF,ad,af,ay⟩:=ag3 ao (aj _ _ bt) P hl bt;refine⟨.agg cF,?_,.agg _ _ (by simp [af]) λi ag=>by simpa using ay i (by simpa using ag)⟩;unfold Instr.loadAt;refine cQ (a:=(⟨_,_,none⟩:Addr)) rfl ?_;unfold loadVar;refine cQ qm ?_;simp only [if_true];refine cQ av ?_;simp only [Sem.run_bind,ad,Result.andThen_ok];rfl
    ·cases h
   ·cases h
 ·cases h
def yC (P:aR) (bp:Operand->J) (A:a') (o:Oper):Option J:=
 match o.op with
 | .build t ⟨[]⟩=>match o.guard with
   |none=>match bd P (Instr.build t #[]) with
    |some v=>bif plain v then some v else none
    |none=>none
   |some _=>none
 | .load t x=>match o.guard with
   |none=>match OY P A t (bp x) with
    |some v=>some v
    |none=>Gm P bp A o
   |some _=>none
 |_=>Gm P bp A o
theorem W5 [a7] {P:aR} {φ:bV} {A:a'} {w w2:ax} (ao:bU φ A w) (aj:∀b e,φ b=some e->w2.heap[e.bk]? =w.heap[e.bk]?) {ρ ρ':Operand->J} {o:Oper} {v:J} (cU:∀x,aD φ (ρ x) (ρ' x)) (h:yC P ρ A o=some v):
  ∃aB,(execOp ρ' o).run P w2= .ok (.value aB) w2/\aD φ v aB/\o.guard=none/\∀c,o.op≠.defer c:=by
 unfold yC at h;split at h
 ·rename_i t cm
  split at h
  ·rename_i aA
   split at h
   ·rename_i u hu
    cases hp:plain u with
    |false=>rw[hp] at h;cases h
    |true=>
     rw[hp,bx] at h;cases h;refine⟨v,?_,aD.kb φ v hp,aA,λc aq=>by rw[cm] at aq;cases aq⟩;unfold execOp;rw[cm];simp only [List.map_toArray,List.map_nil,Sem.run_bind,jc hu w2,Result.andThen_ok];rfl
   ·cases h
  ·cases h
 ·rename_i t x cm
  split at h
  ·rename_i aA
   split at h
   ·rename_i u hu
    cases h;obtain⟨aB,ad,af⟩:=ag5 (w2:=w2) ao aj (cU x) hu;refine⟨aB,?_,af,aA,λc aq=>by rw[cm] at aq;cases aq⟩;unfold execOp;rw[cm];simp only [Sem.run_bind,ad,Result.andThen_ok];rfl
   ·exact W1 ao aj cU h
  ·cases h
 ·exact W1 ao aj cU h
def D1 (P:aR) (N m:Nat) (cd:List Nat) (ops:Array Oper) (dj:aG) (A:a'):List Oper->Nat->List J->Option (List J)
 |[],_,vs=>some vs
 |o::r,i,vs=>bif cd.contains i then D1 P N m cd ops dj A r (i+1) (vs++[cp]) else
  match hB N ops (λj=>vs.getD j cp) (needs ops m o) dj with
  |some sl=>match yC P (dB .nil sl) A o with
   |some v=>D1 P N m cd ops dj A r (i+1) (vs++[v])
   |none=>none
  |none=>none
def Gq (P:aR) (N m:Nat) (cd:List Nat):Option bO->Option (aG×List J×aG)
 |some (.draw _ ops s _)=>
  bif uj ops [] m N&&((List.range m).all λi=>match ops[i]? with|some o=>(needs ops m o).all λj=> !cd.contains j|none=>false)&&cd.all (λj=>Nat.blt j m) then
   match hB N ops (λ_=>cp) (List.range m) s.sl with
   |some dj=>match D1 P N m cd ops dj s.A (ops.toList.take m) 0 [] with
    |some vs=>match hB N ops (λj=>vs.getD j cp) ((List.range m).filter λi=> !cd.contains i) dj with
     |some Gr=>some (dj,vs,Gr)
     |none=>none
    |none=>none
   |none=>none
  else none
 |_=>none
def rk (P:aR) (N m:Nat) (cd:List Nat) (o:Option bO) (i:Nat):aG:=
 match Gq P N m cd o,(gH o)[i]? with
 |some (dj,vs,_),some op=>match hB N (gH o) (λj=>vs.getD j cp) (needs (gH o) m op) dj with
  |some sl=>sl
  |none=> .nil
 |_,_=> .nil
def Gs (P:aR) (N m:Nat) (cd:List Nat) (o:Option bO):b6:={b4 o with sl:=match Gq P N m cd o with|some (_,_,sl)=>sl|none=> .nil}
def yD (m:Nat) (o:Option bO):List Oper:=(gH o).toList.drop m
def uE (N:Nat) (ops:Array Oper):List (Nat×J)->aG->Option aG
 |[],sl=>some sl
 |p::r,sl=>match gX N sl (ft ops p.1) p.2 with
  |some s=>uE N ops r s
  |none=>none
def xe [a7] (P:aR) (M:Mem) (B:Nat) (o:Oper) (sl:aG) (R:dY->b0) (rv:dY->J):Prop:=
 o.guard=none/\∀(a:Act) (w:ax) (K:Act->ax->Prop) (Q:Exit->Act->ax->Prop),(∀x:Operand,aL (dB .nil sl x)=true->a.eval x=aI (dB .nil sl x))->(∀b o,M b=some o->w.heap[b]? =some o)->B<=w.heap.size->
   (∀y w',(R y).ok (aF w')->(∀b,(R y).nL b->w.heap.size<=b)->cb w.heap.size w w'->K (a.put o.dst (rv y)) w')->Oper.wpIn (Fr none) 0 P o a w K Q
theorem W6 {P:aR} {N m:Nat} {cd:List Nat} {ops:Array Oper} {dj:aG} {A:a'}:∀(l:List Oper) (i0:Nat) (vs cF:List J),vs.length=i0->D1 P N m cd ops dj A l i0 vs=some cF->
  cF.length=vs.length+l.length/\cF.take vs.length=vs/\∀i o,l[i]? =some o->cd.contains (i0+i)=false->∃sl,hB N ops (λj=>(cF.take (vs.length+i)).getD j cp) (needs ops m o) dj=some sl/\yC P (dB .nil sl) A o=some (cF.getD (vs.length+i) cp)
 |[],i0,vs,cF,_,h=>by
  cases h;exact⟨by simp,by simp,λi o ag=>by simp at ag⟩
 |o::r,i0,vs,cF,vl,h=>by
  unfold D1 at h;have go:∀v,(cd.contains i0=false->∃sl,hB N ops (λj=>vs.getD j cp) (needs ops m o) dj=some sl/\yC P (dB .nil sl) A o=some v)->D1 P N m cd ops dj A r (i0+1) (vs++[v])=some cF->
    cF.length=vs.length+(o::r).length/\cF.take vs.length=vs/\∀i o',(o::r)[i]? =some o'->cd.contains (i0+i)=false->∃sl,hB N ops (λj=>(cF.take (vs.length+i)).getD j cp) (needs ops m o') dj=some sl/\yC P (dB .nil sl) A o'=some (cF.getD (vs.length+i) cp):=by
   intro v aC h;obtain⟨af,ay,bD⟩:=W6 r (i0+1) (vs++[v]) cF (by simp [vl]) h;have hlen:(vs++[v]).length=vs.length+1:=by simp
   rw[hlen] at af ay;have vm:cF.take vs.length=vs:=by
    have:=congrArg (List.take vs.length) ay;rw[List.take_take,Nat.min_eq_left ar] at this;simpa using this
   refine⟨by simp;omega,vm,?_⟩;intro i o' ag
   match i with
   |0=>
    simp only [List.getElem?_cons_zero,cE] at ag;subst ag;simp only [Nat.add_zero];rw[vm];have gF:cF.getD vs.length cp=v:=by
     have:=congrArg (λl=>l[vs.length]?) ay;simp at this;rw[dh,this];rfl
    rw[gF];exact aC
   |i+1=>
    have:=bD i o' (by simpa using ag);rw[hlen] at this;rw[show vs.length+(i+1)=vs.length+1+i by omega,show i0+(i+1)=i0+1+i by omega];exact this
  cases aq:cd.contains i0 with
  |true=>
   rw[aq,bx] at h;exact go cp (λah=>by rw[aq] at ah;cases ah) h
  |false=>
   rw[aq,ek] at h;split at h
   ·rename_i sl gw
    split at h
    ·rename_i v aC
     exact go v (λ_=>⟨sl,gw,aC⟩) h
    ·cases h
   ·cases h
structure vC [a7] (N:Nat) (ds:List Deferred) (ops:Array Oper) (m:Nat) (cd:List Nat) (vs:List J) (dj:aG) (iL:ax) (φ:bV) (R:Nat->dY->b0) (rv:Nat->dY->J) (ys:Nat->dY) (listed:Array Bool) (a:Act) (w:ax):Prop where
 size:listed.size=ops.size
 down:∀i j,listed.getD i false=true->direct ops i j=true->listed.getD j false=true
 sN:∀i,m<=i->listed.getD i false=false
 low:cb iL.heap.size iL w
 defers:a.defers=ds
 mf:a.tmps.size=N
 slot:∀t v,dj.get t=some v->aD φ v (a.tmps.getD t undef)
 OZ:∀j t,j<m->listed.getD j false=true->cd.contains j=false->ft ops j=some t->aD φ (vs.getD j cp) (a.tmps.getD t undef)
 zX:∀j t,j<m->listed.getD j false=true->cd.contains j=true->ft ops j=some t->a.tmps.getD t undef=rv j (ys j)
 ok:∀j,j<m->listed.getD j false=true->cd.contains j=true->(R j (ys j)).ok (aF w)/\∀b,(R j (ys j)).nL b->iL.heap.size<=b
 two:∀i j,i<m->j<m->i≠j->listed.getD i false=true->listed.getD j false=true->cd.contains i=true->cd.contains j=true->∀b,(R i (ys i)).nL b->¬(R j (ys j)).nL b
section
variable [a7] {N:Nat} {ds:List Deferred} {ops:Array Oper} {m:Nat} {cd:List Nat} {vs:List J} {dj:aG} {iL w:ax} {φ:bV} {R:Nat->dY->b0} {rv:Nat->dY->J} {ys:Nat->dY} {listed:Array Bool} {a:Act}
omit [a7] in
theorem yE {a:Act} {d:Option Tmp} {aB:J} (t:Tmp) (aK:d≠some t):(a.put d aB).tmps.getD t undef=a.tmps.getD t undef:=by
 rcases Nat.lt_or_ge t a.tmps.size with kt|kt
 ·rw[Act.sM _ _ _ _ kt,aU aK]
 ·simp [fb,Array.getElem?_eq_none kt,Array.getElem?_eq_none (show (a.put d aB).tmps.size<=t by rw[Act.size_put];exact kt)]
theorem vC.D0 (h:vC N ds ops m cd vs dj iL φ R rv ys listed a w) {jJ:Nat->J} {ks:List Nat} {sl:aG} (Fh:∀j∈ks,j<m/\listed.getD j false=true/\cd.contains j=false/\jJ j=vs.getD j cp) (hp:hB N ops jJ ks dj=some sl):fw N ds φ sl a:=
 ⟨h.mf,h.defers,λt v aC=>by
   rcases oI _ _ _ hp t v aC with ⟨j,hj,bc,rfl⟩|⟨_,aA⟩
   ·obtain⟨ad,af,ay,bD⟩:=Fh j hj
    rw[bD];exact h.OZ j t ad af ay bc
   ·exact h.slot t v aA⟩
theorem vC.ag6 (h:vC N ds ops m cd vs dj iL φ R rv ys listed a w) {i:Nat} {o:Oper} {mg:aG} (eX:hB N ops (λ_=>cp) (List.range m) mg=some dj) (ag:i<m) (hm:m<=ops.size) (ho:ops[i]? =some o) (iY:cd.contains i=false)
  (um:∀k,direct ops i k=true->listed.getD k false=true) (mj:∀i j,i<m->j<m->i≠j->∀t,ft ops i=some t->ft ops j≠some t) (b8:∀i t,i<m->ft ops i=some t->t<N)
  {aB:J} (aC:aD φ (vs.getD i cp) aB):vC N ds ops m cd vs dj iL φ R rv ys (listed.setIfInBounds i true) (a.put o.dst aB) w:=by
 have kZ:ft ops i=o.dst:=by simp [ft,ho]
 have e9:=Kd (listed:=listed) (i:=i) (by have:=h.size;omega);have Kf:∀{j},cd.contains j=true->j≠i:=λ{j} hj e=>by rw[e,iY] at hj;cases hj
 refine⟨by simpa using h.size,?_,?_,h.low,by rw[Act.Dg];exact h.defers,by rw[Act.size_put];exact h.mf,?_,?_,?_,?_,?_⟩
 ·intro j k hj bc
  rw[e9] at hj ⊢;rcases hj with rfl|hj
  ·exact .inr (um k bc)
  ·exact .inr (h.down j k hj bc)
 ·intro j hj
  rw[getD_set_ne false ar];exact h.sN j hj
 ·intro t v pN
  by_cases q8:o.dst=some t
  ·rcases oI _ _ _ eX t v pN with ⟨j,hj,bc,rfl⟩|⟨yb,_⟩
   ·exact .cp _
   ·exact absurd (kZ.trans q8) (yb i (List.mem_range.2 ag))
  ·rw[yE t q8]
   exact h.slot t v pN
 ·intro j t hj hl ak bc
  by_cases dT:j=i
  ·subst dT
   rw[Act.sM _ _ _ _ (by rw[h.mf];exact b8 j t hj bc),aQ (kZ.symm.trans bc)];exact aC
  ·rw[yE t λah=>mj i j ag hj (Ne.symm dT) t (kZ.trans ah) bc]
   exact h.OZ j t hj (((e9 j).1 hl).resolve_left dT) ak bc
 ·intro j t hj hl ak bc
  have dT:=Kf ak;rw[yE t λah=>mj i j ag hj (Ne.symm dT) t (kZ.trans ah) bc];exact h.zX j t hj (((e9 j).1 hl).resolve_left dT) ak bc
 ·intro j hj hl ak
  exact h.ok j hj (((e9 j).1 hl).resolve_left (Kf ak)) ak
 ·intro j k hj aj cO hl tc ak ih
  exact h.two j k hj aj cO (((e9 j).1 hl).resolve_left (Kf ak)) (((e9 k).1 tc).resolve_left (Kf ih)) ak ih
theorem vC.ag7 (h:vC N ds ops m cd vs dj iL φ R rv ys listed a w) {i:Nat} {o:Oper} {mg:aG} (eX:hB N ops (λ_=>cp) (List.range m) mg=some dj) (ag:i<m) (hm:m<=ops.size) (ho:ops[i]? =some o) (iY:cd.contains i=true) (sT:listed.getD i false=false)
  (um:∀k,direct ops i k=true->listed.getD k false=true) (mj:∀i j,i<m->j<m->i≠j->∀t,ft ops i=some t->ft ops j≠some t) (b8:∀i t,i<m->ft ops i=some t->t<N)
  {y:dY} {w':ax} (iB:(R i y).ok (aF w')) (aO:∀b,(R i y).nL b->w.heap.size<=b) (mF:cb w.heap.size w w'):
  vC N ds ops m cd vs dj iL φ R rv (λj=>if j=i then y else ys j) (listed.setIfInBounds i true) (a.put o.dst (rv i y)) w':=by
 have kZ:ft ops i=o.dst:=by simp [ft,ho]
 have e9:=Kd (listed:=listed) (i:=i) (by have:=h.size;omega);have BN:∀{j},j≠i->(if j=i then y else ys j)=ys j:=λ{j} hj=>aU hj
 refine⟨by simpa using h.size,?_,?_,h.low.trans (mF.mono h.low.size),by rw[Act.Dg];exact h.defers,by rw[Act.size_put];exact h.mf,?_,?_,?_,?_,?_⟩
 ·intro j k hj bc
  rw[e9] at hj ⊢;rcases hj with rfl|hj
  ·exact .inr (um k bc)
  ·exact .inr (h.down j k hj bc)
 ·intro j hj
  rw[getD_set_ne false ar];exact h.sN j hj
 ·intro t v pN
  by_cases q8:o.dst=some t
  ·rcases oI _ _ _ eX t v pN with ⟨j,hj,bc,rfl⟩|⟨yb,_⟩
   ·exact .cp _
   ·exact absurd (kZ.trans q8) (yb i (List.mem_range.2 ag))
  ·rw[yE t q8]
   exact h.slot t v pN
 ·intro j t hj hl ak bc
  have dT:j≠i:=λe=>by rw[e,iY] at ak;cases ak
  rw[yE t λah=>mj i j ag hj (Ne.symm dT) t (kZ.trans ah) bc];exact h.OZ j t hj (((e9 j).1 hl).resolve_left dT) ak bc
 ·intro j t hj hl ak bc
  by_cases dT:j=i
  ·subst dT
   rw[Act.sM _ _ _ _ (by rw[h.mf];exact b8 j t hj bc),aQ (kZ.symm.trans bc),aQ rfl]
  ·rw[yE t λah=>mj i j ag hj (Ne.symm dT) t (kZ.trans ah) bc,BN dT]
   exact h.zX j t hj (((e9 j).1 hl).resolve_left dT) ak bc
 ·intro j hj hl ak
  by_cases dT:j=i
  ·subst dT
   rw[aQ rfl];exact⟨iB,λb ae=>Nat.le_trans h.low.size (aO b ae)⟩
  ·rw[BN dT]
   obtain⟨q1,aE⟩:=h.ok j hj (((e9 j).1 hl).resolve_left dT) ak;refine⟨(R j (ys j)).loc _ _ (λb o _ ae=> ?_) q1,aE⟩;rw[show aF w' b=aF w b from mF.block b (Array.getElem?_eq_some_iff.1 ae).1];exact ae
 ·intro j k hj aj cO hl tc ak ih b ae jm
  have old:∀j,j<m->j≠i->(listed.setIfInBounds i true).getD j false=true->cd.contains j=true->(R j (ys j)).nL b->¬w.heap.size<=b:=λj hj dT hl ak ae aw=>by
   have:=(R j (ys j)).w_ _ (h.ok j hj (((e9 j).1 hl).resolve_left dT) ak).1 b ae;exact this (Array.getElem?_eq_none_iff.2 aw)
  by_cases dT:j=i
  ·have r1:k≠i:=λe=>cO (dT.trans e.symm)
   rw[BN r1] at jm;rw[aQ dT] at ae;rw[dT] at ae;exact old k aj r1 tc ih jm (aO b ae)
  ·rw[BN dT] at ae
   by_cases r1:k=i
   ·rw[aQ r1,r1] at jm
    exact old j hj dT hl ak ae (aO b jm)
   ·rw[BN r1] at jm
    exact h.two j k hj aj cO (((e9 j).1 hl).resolve_left dT) (((e9 k).1 tc).resolve_left r1) ak ih b ae jm
end
theorem Here.know [a7] [cH] {N B:Nat} {s:b6} {w0 w:ax} {a:Act} {dH:aG} {d:Option Tmp} {v:J} (ah:Here N s B w0 a w) (hp:aL v=true) (aK:∀t,d=some t->a.tmps.getD t undef=aI v) (e9:gX N s.sl d v=some dH):Here N {s with sl:=dH} B w0 a w:=by
 obtain⟨⟨φ,ds,ad,af,ay⟩,cD,cI⟩:=ah;refine⟨⟨φ,ds,ad,⟨af.size,af.defers,λt u hu=> ?_⟩,ay⟩,cD,cI⟩;cases d with
 |none=>cases e9;exact af.get t u hu
 |some d=>
  have:=oI (N:=N) (ops:= #[{(default:Oper) with dst:=some d}]) (jJ:=λ_=>v) [0] s.sl dH (by
   unfold hB;rw[show ft #[{(default:Oper) with dst:=some d}] 0=some d from rfl,e9]
   rfl) t u hu
  rcases this with ⟨j,hj,bc,rfl⟩|⟨_,aA⟩
  ·rw[List.mem_singleton.1 hj] at bc
   rw[aK t bc];exact aD.vg φ u hp
  ·exact af.get t u aA
theorem Here.O0 [a7] [cH] {N B:Nat} {w0 w:ax} {a:Act} {ops:Array Oper} {ms:List Nat} {A:a'}:∀(dp:List (Nat×J)) (sl dH:aG),Here N {sl,ms,A} B w0 a w->(∀p∈dp,aL p.2=true/\∀t,ft ops p.1=some t->a.tmps.getD t undef=aI p.2)->uE N ops dp sl=some dH->Here N {sl:=dH,ms,A} B w0 a w
 |[],sl,dH,ah,_,h=>by cases h;exact ah
 |p::r,sl,dH,ah,hp,h=>by
  unfold uE at h;split at h
  ·rename_i s1 aw
   obtain⟨ad,af⟩:=hp p (by simp);exact Here.O0 r s1 dH (Here.know ah ad af aw) (λq aZ=>hp q (by simp [aZ])) h
  ·cases h
theorem ag8 [cH] {P:aR} {N B:Nat} {w0:ax} {Q:Exit->Act->ax->Prop} {M:Mem} {bj:List J} {Y:Type} {bh:Y->List J} {o:Option bO} {m:Nat} {dp:List (Nat×J)} {R:Nat->dY->b0} {rv:Nat->dY->J} {pr:Nat->Y->dY} {mk:(Nat->dY)->Y} {du dq:aG} {aV:List bw} {bG:eg}
  (cK:P.follows .mixedOrders=true) (h:(Gq P N m (dp.map (·.1)) o).isSome=true) (fa:(dp.map (·.1)).Nodup)
  (iY:∀i∈dp.map (·.1),∃op,(gH o)[i]? =some op/\ @xe (aS M bj) P M B op (rk P N m (dp.map (·.1)) o i) (R i) (rv i))
  (sU:∀ys j,j∈dp.map (·.1)->pr j (mk ys)=ys j) (cR:cq (Gs P N m (dp.map (·.1)) o) du aV=some bG) (dU:uE N (gH o) dp du=some dq) (fV:dp.all (λp=>aL p.2)=true)
  (b1:∀y M' p,p∈dp-> @aI (aS M' (bh y)) p.2=rv p.1 (pr p.1 y)) (hm:∀y M',fj (aS M bj) (aS M' (bh y)) bG)
  (rest:∀y M',c5 M [] M' (dp.map λp=>R p.1 (pr p.1 y))->∀aW w,@Here (aS M' (bh y)) _ N {sl:=dq,ms:=[],A:=dd aV} B w0 aW w->wpListIn (Fr none) 0 P (gH o) (dK P (f_ o) Q) (yD m o) aW w)
  (av:cH.dV<=aV.length:=by first|exact Nat.zero_le _|exact gv rfl) (aq:hV (b4 o).A aV 0:=by exact gn rfl): @e_ (aS M bj) _ P N B w0 Q o:=by
 letI:=aS M bj;obtain⟨⟨dj,vs,Gr⟩,bc⟩:=Option.isSome_iff_exists.1 h;have eB:=bc;unfold Gq at bc;split at bc
 ·rename_i id ops s ks
  cases ae:(uj ops [] m N&&((List.range m).all λi=>match ops[i]? with|some o=>(needs ops m o).all λj=> !(dp.map (·.1)).contains j|none=>false)&&(dp.map (·.1)).all (λj=>Nat.blt j m)) with
  |false=>rw[ae] at bc;cases bc
  |true=>
   rw[ae,bx] at bc;simp only [cV] at ae;obtain⟨⟨hs,D2⟩,e6⟩:=ae;have e6:∀j∈dp.map (·.1),j<m:=λj hj=>Nat.blt_eq.mp (List.all_eq_true.1 e6 j hj)
   obtain⟨zx,oa,mj,b8,rV,oJ,vo⟩:=Di hs;have D2:∀i o,i<m->ops[i]? =some o->∀j∈needs ops m o,(dp.map (·.1)).contains j=false:=λi o ag ho j hj=>by
    have:=List.all_eq_true.1 D2 i (List.mem_range.2 ag);rw[ho] at this;simpa using List.all_eq_true.1 this j hj
   split at bc
   ·rename_i oP eX
    split at bc
    ·rename_i cF n0
     split at bc
     ·rename_i Gt FZ
      simp only [cE,Prod.mk.injEq] at bc;obtain⟨rfl,rfl,rfl⟩:=bc;have O1:∀i o,i<m->ops[i]? =some o->(dp.map (·.1)).contains i=false->∃sl,hB N ops (λj=>(cF.take i).getD j cp) (needs ops m o) oP=some sl/\yC P (dB .nil sl) s.A o=some (cF.getD i cp):=by
       intro i o ag ho ak;have:=(W6 _ 0 [] _ rfl n0).2.2 i o (by rw[List.getElem?_take,aQ ag];simpa using ho) (by rw[Nat.zero_add];exact ak);simpa using this
      refine⟨_,rfl,λa w ah=> ?_⟩;have aZ:Here N s B w0 a {w with drawn:=w.drawn+1}:=ah.quiet ⟨⟨rfl,rfl,rfl,b2 _,λ_ _=>rfl⟩,b2 _⟩;refine wpIn_region_any cK ?_;have yF:∀i o,M i=some o->({w with drawn:=w.drawn+1}:ax).heap[i]? =some o:=aZ.mN;generalize ({w with drawn:=w.drawn+1}:ax)=iL at aZ yF;obtain⟨⟨φ,ds,q1,aE,ca,ey,hh⟩,kT,oG⟩:=aZ;have wW:∀{o:Oper} {a:Act},o.guard=none->Region.wanted o (yielded ops a.tmps)=true:=λ{o a} aA=>by unfold Region.wanted;rw[aA]
      have w6:∀{w:ax},cb iL.heap.size iL w->∀b e,φ b=some e->w.heap[e.bk]? =iL.heap[e.bk]? :=λ{w} hl b e ae=>by
       obtain⟨k,_,_,q⟩:=ca.eo b e ae;exact hl.block e.bk (fL.lt q)
      have uo:∀{ys:Nat->dY} {listed:Array Bool} {a:Act} {w:ax},vC N ds ops m (dp.map (·.1)) cF oP iL φ R rv ys listed a w->¬(∀i,i<m->listed.getD i false=true)->Region.ready .any ops listed≠[]/\∀i∈Region.ready .any ops listed,i<m/\listed.getD i false=false/\i<ops.size:=by
       intro ys listed a w bg lB;obtain⟨i0,vl⟩:=Classical.not_forall.1 lB;obtain⟨Ds,q9⟩:=Classical.not_imp.1 vl;have q9:listed.getD i0 false=false:=by simpa using q9
       refine⟨?_,λi ag=> ?_⟩
       ·have key:∀n i,i<n->i<m->listed.getD i false=false->∃k,k∈Region.ready .any ops listed:=by
         intro n
         induction n with
         |zero=>intro i ag;omega
         |succ n FB=>
          intro i ag ml FC;by_cases hp:∀k,direct ops i k=true->listed.getD k false=true
          ·refine⟨i,mem_ready.2 ⟨by rw[qt (by have:=bg.size;omega)];exact FC,ops[i]'(by omega),Array.getElem?_eq_getElem _,λe he ae=>hp _ ?_⟩⟩
           have ho:ops[i]? =some (ops[i]'(by omega)):=Array.getElem?_eq_getElem _;simp only [direct,ho];exact Array.any_eq_true'.2 ⟨e,he,by simp [ae]⟩
          ·obtain⟨k,aj⟩:=Classical.not_forall.1 hp
           obtain⟨bc,x_⟩:=Classical.not_imp.1 aj;have:=oJ i k ar bc;exact FB k ar ar (by simpa using x_)
        obtain⟨k,aj⟩:=key (i0+1) i0 ar Ds q9;intro h;rw[h] at aj;cases aj
       ·obtain⟨sT,o,ho,_⟩:=mem_ready.1 ag
        have kR:i<ops.size:=(Array.getElem?_eq_some_iff.1 ho).1;have uq:listed.getD i false=false:=by rw[<-qt (by have:=bg.size;omega)];exact sT
        refine⟨?_,uq,kR⟩;rcases Nat.lt_or_ge i m with h|h
        ·exact h
        ·exfalso
         rcases vo i i0 kR h ar with ⟨ya,_⟩|ha
         ·cases ya
         ·have:=ha listed bg.down (qs ag)
          rw[q9] at this;cases this
      have tail:∀(bm:Nat) (listed:Array Bool) (a:Act) (w:ax) (ys:Nat->dY),vC N ds ops m (dp.map (·.1)) cF oP iL φ R rv ys listed a w->q6 listed<=bm->(∀i,i<m->listed.getD i false=true)->wpAnyIn (Fr none) 0 P .any ops (dK P ks Q) bm listed a w:=by
       intro bm listed a w ys bg aO lB;refine Ny oJ (λi j ag hj dT=>(vo i j ag ar dT).resolve_left ar) bm m listed a w (b2 _) bg.size (λi=> ?_) aO ?_
       ·by_cases ag:i<m
        ·rw[lB i ag];simp;omega
        ·rw[bg.sN i ar];simp;omega
       ·obtain⟨t1,t2⟩:=WE (B:=B) (M:=M) (S:=λ_=>False) (w:=iL) (w':=w) yF (λ_ h=>h.elim) ⟨bg.low.1.os,bg.low.1.tape,bg.low.1.output⟩ bg.low.size (λi ag _=>bg.low.block i ag)
        have yh:fw N ds φ Gt a:=bg.D0 (λj hj=>by
         obtain⟨ad,af⟩:=List.mem_filter.1 hj
         exact⟨List.mem_range.1 ad,lB j (List.mem_range.1 ad),by simpa using af,rfl⟩) FZ
        have cP:Gs P N m (dp.map (·.1)) (some (.draw id ops s ks))={s with sl:=Gt}:=by
         unfold Gs;rw[eB];rfl
        have lD:Here N (Gs P N m (dp.map (·.1)) (some (.draw id ops s ks))) B w0 a iL:=by
         rw[cP];exact⟨⟨φ,ds,q1,yh,ca,ey,hh⟩,kT,oG⟩
        have gZ:=Here.OD (vals':=bh (mk ys)) cR (hm (mk ys) _) t1 av (by rw[cP];exact aq) lD;have jD:c5 M [] (yx B M iL w) (dp.map λp=>R p.1 (pr p.1 (mk ys))):=by
         have mG:∀(i:Nat) (S:b0),(dp.map λp=>R p.1 (pr p.1 (mk ys)))[i]? =some S->∃p,dp[i]? =some p/\S=R p.1 (ys p.1):=λi S ag=>by
          rw[List.getElem?_map] at ag;obtain⟨p,hp,rfl⟩:=Option.map_eq_some_iff.1 ag;exact⟨p,hp,by rw[sU ys p.1 (List.mem_map.2 ⟨p,List.mem_of_getElem? hp,rfl⟩)]⟩
         have iX:∀{i:Nat} {p:Nat×J},dp[i]? =some p->p.1∈dp.map (·.1):=λ{i p} hp=>List.mem_map.2 ⟨p,List.mem_of_getElem? hp,rfl⟩
         have W7:∀{i:Nat} {p:Nat×J},dp[i]? =some p->(R p.1 (ys p.1)).ok (aF w)/\∀b,(R p.1 (ys p.1)).nL b->iL.heap.size<=b:=λ{i p} hp=>bg.ok p.1 (e6 _ (iX hp)) (lB _ (e6 _ (iX hp))) (by simpa using List.mem_of_getElem? hp |> λh=>(⟨p.2,h⟩:∃x,(p.1,x)∈dp))
         refine⟨⟨λi S ag=> ?_,λi j S T cO ag hj b ae jm=> ?_⟩,λi o ag _=>t2 i o ag (λh=>h),λb ae=> ?_⟩
         ·obtain⟨p,hp,rfl⟩:=mG i S ag
          obtain⟨cJ,dk⟩:=W7 hp;refine(R p.1 (ys p.1)).loc _ _ (λb o ae ho=> ?_) cJ;rw[OE (.inr (.inl (dk b ae)))];exact ho
         ·obtain⟨p,hp,rfl⟩:=mG i S ag
          obtain⟨gO,iC,rfl⟩:=mG j T hj;have ag9:p.1≠gO.1:=λe=>cO (by
           have e1:(dp.map (·.1))[i]? =some p.1:=by rw[List.getElem?_map,hp];rfl
           have e2:(dp.map (·.1))[j]? =some p.1:=by rw[List.getElem?_map,iC,e];rfl
           exact(List.getElem?_inj (List.getElem?_eq_some_iff.1 e1).1 fa).1 (e1.trans e2.symm))
          have gM:(dp.map (·.1)).contains p.1=true:=by simpa using (⟨p.2,List.mem_of_getElem? hp⟩:∃x,(p.1,x)∈dp)
          have c2:(dp.map (·.1)).contains gO.1=true:=by simpa using (⟨gO.2,List.mem_of_getElem? iC⟩:∃x,(gO.1,x)∈dp)
          exact bg.two p.1 gO.1 (e6 _ (iX hp)) (e6 _ (iX iC)) ag9 (lB _ (e6 _ (iX hp))) (lB _ (e6 _ (iX iC))) gM c2 b ae jm
         ·obtain⟨i,S,ag,ae⟩:=ae
          obtain⟨p,hp,rfl⟩:=mG i S ag
          right
          cases Kg:M b with
          |none=>rfl
          |some o=>
           have ad:=(Array.getElem?_eq_some_iff.1 (yF b o Kg)).1;have af:=(W7 hp).2 b ae;omega
        have aj:∀p∈dp,aL p.2=true/\∀t,ft ops p.1=some t->a.tmps.getD t undef= @aI (aS (yx B M iL w) (bh (mk ys))) p.2:=λp hp=>⟨List.all_eq_true.1 fV p hp,λt aK=>by
         have iX:p.1∈dp.map (·.1):=List.mem_map.2 ⟨p,hp,rfl⟩;rw[b1 (mk ys) _ p hp,sU ys p.1 iX]
         exact bg.zX p.1 t (e6 _ iX) (lB _ (e6 _ iX)) (by simpa using (⟨p.2,hp⟩:∃x,(p.1,x)∈dp)) aK⟩
        exact rest (mk ys) _ jD a w (@Here.O0 (aS (yx B M iL w) (bh (mk ys))) _ N B w0 w a ops [] (dd aV) dp du dq gZ aj dU)
      have main:∀(bm:Nat) (listed:Array Bool) (a:Act) (w:ax) (ys:Nat->dY),vC N ds ops m (dp.map (·.1)) cF oP iL φ R rv ys listed a w->q6 listed<=bm->wpAnyIn (Fr none) 0 P .any ops (dK P ks Q) bm listed a w:=by
       intro bm
       induction bm with
       |zero=>
        intro listed a w ys bg aO;refine tail 0 listed a w ys bg aO λi ag=> ?_
        cases h:listed.getD i false with
        |true=>rfl
        |false=>
         exfalso;have:=x6 (i:=i) (listed:=listed) (by have:=bg.size;omega) (by rw[qt (by have:=bg.size;omega)];exact h);omega
       |succ bm ck=>
        intro listed a w ys bg aO;by_cases lB:∀i,i<m->listed.getD i false=true
        ·exact tail (bm+1) listed a w ys bg aO lB
        ·obtain⟨kV,yd⟩:=uo bg lB
         refine⟨λaM=>absurd aM kV,λi ag=> ?_⟩;obtain⟨ml,uq,kR⟩:=yd i ag;have ho:ops[i]? =some ops[i]:=Array.getElem?_eq_getElem kR;have Vr:=x6 (i:=i) (listed:=listed) (by have:=bg.size;omega) (mem_ready.1 ag).1;have Gu:∀{jJ:Nat->J} {sl:aG},(∀j,j<i->jJ j=cF.getD j cp)->hB N ops jJ (needs ops m ops[i]) oP=some sl->fw N ds φ sl a:=λ{jJ sl} vj gw=>bg.D0 (λj hj=>by
          have r2:=rV i _ ml ho j hj;have dT:=oJ i j kR r2
          exact⟨ar,qs ag j r2,D2 i _ ml ho j hj,vj j dT⟩) gw
         unfold wpOpIn;simp only [ho];cases ak:(dp.map (·.1)).contains i with
         |false=>
          obtain⟨sl,gw,aC⟩:=O1 i _ ml ho ak;have yh:=Gu (λj dT=>by simp only [dh,List.getElem?_take,aQ dT]) gw;obtain⟨aB,g1,g2,g3,g4⟩:=W5 (w2:=w) ca (w6 bg.low) (gq (hT φ) yh.get) aC;rw[aQ (wW g3)];refine⟨λ_ _=>trivial,?_⟩;rw[Oper.semAt_eq _ _ _ g4,g1,Oper.uponIn_value];exact ck _ _ w ys (bg.ag6 eX ml zx ho ak (qs ag) mj b8 g2) ar
         |true=>
          have mG:i∈dp.map (·.1):=by simpa using ak
          obtain⟨op,cm,aA,Gv⟩:=iY i mG;have Gw:op=ops[i]:=by
           have e:(gH (some (.draw id ops s ks)))[i]? =ops[i]? :=rfl;rw[e,ho] at cm;exact(Option.some.inj cm).symm
          subst Gw;rw[aQ (wW aA)];refine Gv a w _ _ (λx k2=> ?_) (λb o ae=> ?_) (Nat.le_trans oG bg.low.size) λy w' cJ dk fQ=> ?_
          ·cases pW:hB N ops (λj=>cF.getD j cp) (needs ops m ops[i]) oP with
           |some sl=>
            have e:rk P N m (dp.map (·.1)) (some (.draw id ops s ks)) i=sl:=by
             unfold rk;rw[eB,show (gH (some (.draw id ops s ks)))[i]? =some ops[i] from ho];show (match hB N ops (λj=>cF.getD j cp) (needs ops m ops[i]) oP with|some sl=>sl|none=> .nil)=sl;rw[pW]
            rw[e] at k2 ⊢;exact aD.ig _ k2 (gq (hT φ) (Gu (λ_ _=>rfl) pW).get x)
           |none=>
            have e:rk P N m (dp.map (·.1)) (some (.draw id ops s ks)) i= .nil:=by
             unfold rk;rw[eB,show (gH (some (.draw id ops s ks)))[i]? =some ops[i] from ho];show (match hB N ops (λj=>cF.getD j cp) (needs ops m ops[i]) oP with|some sl=>sl|none=> .nil)= .nil;rw[pW]
            rw[e] at k2 ⊢;exact aD.ig (φ:=φ) _ k2 (gq (hT φ) (λt v h=>by cases h) x)
          ·have ad:=yF b o ae
           rw[bg.low.block b (Array.getElem?_eq_some_iff.1 ad).1];exact ad
          ·exact ck _ _ w' _ (bg.ag7 eX ml zx ho ak uq (qs ag) mj b8 cJ dk fQ) ar
      have aO:∀i,(Array.replicate ops.size false).getD i false=false:=λi=>by
       rw[fb,Array.getElem?_replicate];split<;>rfl
      refine main ops.size _ a iL (λ_=>(none,0)) ⟨by simp,λi j ag=>absurd ag (by rw[aO];simp),λi _=>aO i,⟨⟨rfl,rfl,rfl,b2 _,λ_ _=>rfl⟩,b2 _⟩,aE.defers,aE.size,λt v aC=> ?_,λj t _ hl=>absurd hl (by rw[aO];simp),λj t _ hl=>absurd hl (by rw[aO];simp),λj _ hl=>absurd hl (by rw[aO];simp),λi j _ _ _ hl=>absurd hl (by rw[aO];simp)⟩ ?_
      ·rcases oI _ _ _ eX t v aC with ⟨j,hj,bc,rfl⟩|⟨_,aA⟩
       ·exact .cp _
       ·exact aE.get t v aA
      ·unfold q6
       exact Nat.le_trans List.count_le_length (by simp)
     ·cases bc
    ·cases bc
   ·cases bc
 ·cases bc
end AE
namespace AE
def Gx (P:aR) (N m:Nat) (cd:List Nat) (o:Option bO) (i:Nat):Option (FuncId×List J):=
 match (gH o)[i]? with
 |some op=>match op.guard,op.op with
  |none,.call c=>match c.callee with
   | .value (.func f)=>bif enters P f then some (f,c.args.toList.map (dB .nil (rk P N m cd o i))) else none
   |_=>none
  |_,_=>none
 |none=>none
def Kh (P:aR) (N m:Nat) (cd:List Nat) (o:Option bO) (i:Nat):Option (aJ×J):=
 match (gH o)[i]? with
 |some op=>match op.guard,op.op with
  |none,.makeSlice t s_ vB=>bif fN (dB .nil (rk P N m cd o i) s_) (dB .nil (rk P N m cd o i) vB) then some (t,dB .nil (rk P N m cd o i) s_) else none
  |_,_=>none
 |none=>none
theorem O2 [a7] {sl:aG} {a:Act} (oK:∀x:Operand,aL (dB .nil sl x)=true->a.eval x=aI (dB .nil sl x)):∀(l:List Operand),dP (l.map (dB .nil sl))=true->l.map a.eval=ew (l.map (dB .nil sl))
 |[],_=>rfl
 |x::l,h=>by
  simp only [List.map_cons,dP,cV] at h;simp only [List.map_cons,ew];rw[oK x h.1,O2 oK l h.2]
theorem xe.arr [a7] {α:Type} {P:aR} {M:Mem} {B N m:Nat} {cd:List Nat} {o:Option bO} {i:Nat} {f:FuncId} {args:List J} {e:aJ} {k:Nat} {enc:α->List J} {l:List α} {F:J->J} (h:Gx P N m cd o i=some (f,args)) (hp:dP args=true)
  (fI:∀w,(∀i o,M i=some o->w.heap[i]? =some o)->B<=w.heap.size->Calls P f ⟨ew args⟩ w λe' w'=>(∃a c,e'= .returned (F (.slice a l.length c))/\dm w.heap.size (aF w') e k enc (.slice a l.length c) l)/\cb w.heap.size w w'):
  ∃op,(gH o)[i]? =some op/\xe P M B op (rk P N m cd o i) (λy=>h2 e k enc (.slice y.1 l.length y.2) l) (λy=>F (.slice y.1 l.length y.2)):=by
 unfold Gx at h;split at h
 ·rename_i op cm
  split at h
  ·rename_i c aA vD
   split at h
   ·rename_i hv pL
    cases he:enters P hv with
    |false=>rw[he] at h;cases h
    |true=>
     rw[he,bx] at h;simp only [cE,Prod.mk.injEq] at h;obtain⟨rfl,rfl⟩:=h;refine⟨op,cm,aA,λa w K Q oK bn cC bS=> ?_⟩;have gy:c.args.map a.eval=⟨ew (c.args.toList.map (dB .nil (rk P N m cd o i)))⟩:=by
      have:=O2 oK c.args.toList hp;rw[<-this];apply Array.ext';simp
     have e8:(execOp a.eval op).run P w= .ok (.enter hv ⟨ew (c.args.toList.map (dB .nil (rk P N m cd o i)))⟩) w:=by
      unfold execOp;rw[vD];simp only;refine cQ (a:={target:= .fn (.func hv) #[],args:= #[]++c.args.map a.eval}) (by unfold resolve;rw[pL];rfl) ?_;simp only [Array.empty_append,gy];show (callFunc hv (_++ #[])).run P w=_;rw[Array.append_empty];exact jc (Fq he _) w
     have fa:∀c',op.op≠.defer c':=λc' h=>by rw[vD] at h;cases h
     refine⟨λ_ _=>trivial,?_⟩;rw[Oper.semAt_eq _ _ _ fa,e8,Oper.uponIn_enter];refine⟨λh=>absurd h (by simp [Fr,Fence.wide]),?_⟩;refine CallsIn.mono (Df (fI w bn cC)) λe' w2 he=> ?_
     obtain⟨⟨gY,sa,rfl,cn⟩,hl⟩:=he;exact bS (gY,sa) w2 (r_ cn) (λb ae=>(cn.known b ae).2) hl
   ·cases h
  ·cases h
 ·cases h
theorem xe.W8 [a7] {α:Type} {P:aR} {M:Mem} {B N m:Nat} {cd:List Nat} {o:Option bO} {i:Nat} {t e:aJ} {k n bytes:Nat} {Gy:TypeInfo} {z x:J} {enc:α->List J} {zr:α} {l':List α} (fB:l'=List.replicate n zr) (h:Kh P N m cd o i=some (t,x))
  (aK:P.underlying t=some (.slice e)) (ag:P.info? e=some Gy) (bI:Gy.zero=some z) (gD:Gy.size=k) (jB:Gy.bytes=bytes) (qn:z.cells.toList=enc zr) (aj:∀x,(enc x).length=k) (ak:aL x=true) (ex:aI x= .int .i64 (n:Nat)) (agM:n<=1000000) (ly:n*bytes<=140737488355328) (j4:n*k<=16777216):
  ∃op,(gH o)[i]? =some op/\xe P M B op (rk P N m cd o i) (λy=>h2 e k enc (.slice y.1 l'.length y.2) l') (λy=> .slice y.1 l'.length y.2):=by
 subst fB;unfold Kh at h;split at h
 ·rename_i op cm
  split at h
  ·rename_i da s_ vB aA vD
   cases heq:fN (dB .nil (rk P N m cd o i) s_) (dB .nil (rk P N m cd o i) vB) with
   |false=>rw[heq] at h;cases h
   |true=>
    rw[heq,bx] at h;have w9:=gW _ _ heq;cases h;refine⟨op,cm,aA,λa w K Q oK bn cC bS=> ?_⟩;have nI:a.eval s_= .int .i64 (n:Nat):=(oK s_ ak).trans ex;have OT:a.eval vB= .int .i64 (n:Nat):=(oK vB (by rw[<-w9];exact ak)).trans (by rw[<-w9];exact ex);subst jB;obtain⟨w',g1,g2,g3⟩:=run_makeSlice_full (P:=P) w w.heap.size t e Gy z k aK ag bI gD .i64 .i64 n j4 (by rw[Nat.mul_comm];omega) (by simp [maxLen];omega) (b2 _);have e8:(execOp a.eval op).run P w= .ok (.value (.slice (some ⟨w.heap.size,0,none⟩) n n)) w':=by
     unfold execOp;rw[vD];simp only [nI,OT];show (do pure (Next.value (<-Instr.makeSlice t (.int .i64 (n:Nat)) (.int .i64 (n:Nat)))):Sem Next).run P w=_;simp only [Sem.run_bind,g1,Result.andThen_ok];rfl
    have fa:∀c',op.op≠.defer c':=λc' h=>by rw[vD] at h;cases h
    refine⟨λ_ _=>trivial,?_⟩;rw[Oper.semAt_eq _ _ _ fa,e8,Oper.uponIn_value];rw[WX aj qn] at g2;have hlen:(List.replicate n zr).length=n:=mc;have cn:dm w.heap.size (aF w') e k enc (.slice (some ⟨w.heap.size,0,none⟩) (List.replicate n zr).length n) (List.replicate n zr):=dm.Oe (w:=w') (by rw[hlen];exact g2);have:=bS (some ⟨w.heap.size,0,none⟩,n) w' (r_ cn) (λb ae=>(cn.known b ae).2) ⟨⟨g3.os,g3.tape,g3.output,g3.size,λi ag=>g3.block i ag (by simp)⟩,b2 _⟩;rw[hlen] at this;exact this
  ·cases h
 ·cases h
theorem O3 {α:Type} {p:α->Prop}:∀x,x∈([]:List α)->p x:=λ_ h=>by cases h
theorem rl {α:Type} {p:α->Prop} {y:α} {l:List α} (h:p y) (hl:∀x,x∈l->p x):∀x,x∈y::l->p x:=λx ak=>by
 rcases List.mem_cons.1 ak with rfl|ak
 ·exact h
 ·exact hl x ak
end AE
namespace AE
def eG (l:List cX) (cell:Int):cX:=if 0<=cell/\cell<l.length then l.getD cell.toNat default else ([],false,false,false,16,0,0,0)
theorem W9 {l:List cX} {cell:Int} (aM:0<=cell) (ad:cell<l.length):eG l cell=l.getD cell.toNat default:=by unfold eG;rw[aQ ⟨aM,ad⟩]
theorem Ki {l:List cX} {cell:Int} (h:¬(0<=cell/\cell<l.length)):eG l cell=([],false,false,false,16,0,0,0):=by unfold eG;rw[aU h]
def nP (l:List cX):Prop:=l.length<=300/\∀x∈l,x.1.length<=60
instance (l:List cX):Decidable (nP l):=by unfold nP;infer_instance
theorem ag' {l:List cX} {i:Nat} (h:i<l.length):l.getD i default∈l:=by
 rw[dh,fA h];exact List.getElem_mem h
theorem ag_ {l:List cX} {x:cX} (h:x∈l):∃i,i<l.length/\l.getD i default=x:=by
 obtain⟨i,ag,rfl⟩:=List.mem_iff_getElem.1 h;exact⟨i,ag,by rw[dh,fA ag];rfl⟩
theorem O4 {l:List cX} (h:300<l.length):¬nP l:=λaO=>by have:=aO.1;omega
theorem O5 {l:List cX} {i:Nat} (ag:i<l.length) (h:60<(l.getD i default).1.length):¬nP l:=λaO=>by have:=aO.2 _ (ag' ag);omega
theorem O6 {l:List cX} (h:l.length<=300) (af:∀j,j<l.length->(l.getD j default).1.length<=60):nP l:=⟨h,λx ak=>by
 obtain⟨i,ag,rfl⟩:=ag_ ak
 exact af i ag⟩
end AE
end Go.Proofs.YtepcfjbfkedlpaaDoor
namespace Go.Proofs.YtepcfjbfkedlpaaDoor
section
namespace AE
structure oi where
 N:Nat
 sb:Nat->List (Nat×Int)
 top:Nat->Bool
 aK:Nat->Nat
 sc:∀k n d,k<N->(n,d)∈sb k->n<N
 W_:∀k n d,k<N->(n,d)∈sb k->n≠k
 O7:∀k n d,k<N->(n,d)∈sb k->(k,-d)∈sb n
 Xa:∀k n d,k<N->(n,d)∈sb k->0<d->aK n<aK k
 Xb:∀k,(sb k).length<=6
def given (fT f:Int) (c:Nat) (up:Bool):Int:=if up=true/\c=3/\fT=15/\f=1 then 15 else max 0 (fT-f)
theorem aha (fT f:Int) (c:Nat) (up:Bool):0<=given fT f c up:=by
 unfold given;split<;>omega
theorem O8 {a b f:Int} (c:Nat) (up:Bool) (h:a<=b) (aO:1<=f):given a f c up<=given b f c up:=by
 unfold given;split
 ·rename_i ad
  obtain⟨af,ay,bD,cD⟩:=ad;split
  ·omega
  ·rename_i cI
   have:¬b=15:=λe=>cI ⟨af,ay,e,cD⟩
   omega
 ·split
  ·rename_i ad cI
   obtain⟨af,ay,bD,cD⟩:=cI;omega
  ·omega
theorem Xc {a f:Int} (c:Nat) (up:Bool) (h:a<=15) (aO:1<=f):given a f c up<=15:=by
 unfold given;split<;>omega
theorem Xd {f:Int} (c:Nat) (up:Bool) (aO:1<=f):given 0 f c up=0:=by
 unfold given;rw[aU (λh=>by omega)];omega
theorem ahb {a f:Int} {c:Nat} {up:Bool} (aO:1<=f) (ha:a<=15) (h:0<given a f c up):given a f c up<a\/(given a f c up=a/\a=15/\up=true):=by
 unfold given at*
 split
 ·rename_i ad
  exact .inr ⟨ar,ad.2.2.1,ad.1⟩
 ·rename_i ad
  rw[aU ad] at h;omega
structure g_ where
 jL:Nat->Int
 emit:Nat->Nat->Int
 bZ:Nat->Bool
abbrev l3:=Nat->Nat->Int
variable {G:oi}
def uF (G:oi) (S:g_) (k c:Nat):Int:=if c=3 then (if G.top k=true then given 15 (S.jL k) 3 true else 0) else S.emit k c
def lk (G:oi) (S:g_) (k:Nat):List (Nat×Int):=(G.sb k).filter λp=>S.bZ p.1
def rule (G:oi) (S:g_) (L:l3) (k c:Nat):Int:=
 if S.bZ k=true then (lk G S k).foldl (λa p=>max a (given (L p.1 c) (S.jL k) c (decide (0<p.2)))) (uF G S k c) else 0
theorem O9 {α:Type} (f:α->Int):∀(l:List α) (a v:Int),l.foldl (λa p=>max a (f p)) a<=v↔a<=v/\∀p∈l,f p<=v
 |[],a,v=>by simp
 |x::l,a,v=>by
  rw[List.foldl_cons,O9 f l];simp only [List.mem_cons,forall_eq_or_imp];constructor
  ·rintro ⟨ad,af⟩
   exact⟨ar,ar,af⟩
  ·rintro ⟨ad,af,ay⟩
   exact⟨ar,ay⟩
theorem Xe {α:Type} (f:α->Int):∀(l:List α) (a:Int),l.foldl (λa p=>max a (f p)) a=a\/∃p∈l,l.foldl (λa p=>max a (f p)) a=f p
 |[],a=> .inl rfl
 |x::l,a=>by
  rw[List.foldl_cons];rcases Xe f l (max a (f x)) with h|⟨p,hp,h⟩
  ·rw[h]
   rcases Int.le_total a (f x) with ad|ad
   ·exact .inr ⟨x,by simp,ar⟩
   ·exact .inl ar
  ·exact .inr ⟨p,by simp [hp],h⟩
theorem vE {S:g_} {k n:Nat} {d:Int}:(n,d)∈lk G S k↔(n,d)∈G.sb k/\S.bZ n=true:=by
 unfold lk;simp [List.mem_filter]
theorem rm {S:g_} {L:l3} {k c:Nat} {v:Int} (aM:0<=v):
  rule G S L k c<=v↔(S.bZ k=true->uF G S k c<=v/\∀n d,(n,d)∈G.sb k->S.bZ n=true->given (L n c) (S.jL k) c (decide (0<d))<=v):=by
 unfold rule;split
 ·rename_i aw
  rw[O9];constructor
  ·rintro ⟨ad,af⟩ _
   exact⟨ad,λn d av bc=>af (n,d) (vE.2 ⟨av,bc⟩)⟩
  ·intro h
   obtain⟨ad,af⟩:=h aw;exact⟨ad,λp hp=>af p.1 p.2 (vE.1 hp).1 (vE.1 hp).2⟩
 ·rename_i aw
  exact⟨λ_ h=>absurd h aw,λ_=>aM⟩
structure g_.k3 (S:g_) (N:Nat):Prop where
 jL:∀k,k<N->1<=S.jL k
 emit:∀k c,k<N->c<3->0<=S.emit k c/\S.emit k c<=15
theorem Xf {S:g_} (aN:S.k3 G.N) {k c:Nat} (aj:k<G.N) (aq:c<4):0<=uF G S k c/\uF G S k c<=15:=by
 unfold uF;split
 ·split
  ·exact⟨aha _ _ _ _,Xc _ _ ar (aN.jL k aj)⟩
  ·omega
 ·exact aN.emit k c aj ar
theorem zY {S:g_} (aN:S.k3 G.N) {L:l3} {k c:Nat} (aj:k<G.N) (aq:c<4):0<=rule G S L k c:=by
 by_cases aw:S.bZ k=true
 ·have ad:=(rm (G:=G) (S:=S) (L:=L) (k:=k) (c:=c) (v:=max 0 (rule G S L k c)) ar).1 ar aw
  have af:=(Xf aN aj aq).1;by_cases ay:0<=rule G S L k c
  ·exact ay
  ·unfold rule at*
   rw[aQ aw] at*
   have bD:=(O9 (λp:Nat×Int=>given (L p.1 c) (S.jL k) c (decide (0<p.2))) (lk G S k) (uF G S k c) _).1 (Int.le_refl _);omega
 ·unfold rule
  rw[aU aw];exact Int.le_refl _
theorem ahc {S:g_} {L:l3} {k c:Nat} (aw:S.bZ k=true):rule G S L k c=uF G S k c\/∃n d,(n,d)∈G.sb k/\S.bZ n=true/\rule G S L k c=given (L n c) (S.jL k) c (decide (0<d)):=by
 unfold rule;rw[aQ aw];rcases Xe (λp:Nat×Int=>given (L p.1 c) (S.jL k) c (decide (0<p.2))) (lk G S k) (uF G S k c) with h|⟨p,hp,h⟩
 ·exact .inl h
 ·exact .inr ⟨p.1,p.2,(vE.1 hp).1,(vE.1 hp).2,h⟩
theorem Xg {S:g_} (aN:S.k3 G.N) {L:l3} {k c:Nat} (aj:k<G.N) (aq:c<4) (hL:∀n,n<G.N->L n c<=15):rule G S L k c<=15:=
 (rm ar).2 λ_=>⟨(Xf aN aj aq).2,λn _ av _=>Xc _ _ (hL n (G.sc _ _ _ aj av)) (aN.jL k aj)⟩
theorem Xh {S:g_} (aN:S.k3 G.N) {L P:l3} {k c:Nat} (aj:k<G.N) (aq:c<4) (h:∀n,n<G.N->L n c<=P n c):rule G S L k c<=rule G S P k c:=by
 refine(rm (zY aN aj aq)).2 λaw=> ?_
 obtain⟨ad,af⟩:=(rm (G:=G) (S:=S) (L:=P) (k:=k) (c:=c) (zY aN aj aq)).1 (Int.le_refl _) aw;exact⟨ad,λn d av bc=>Int.le_trans (O8 _ _ (h n (G.sc _ _ _ aj av)) (aN.jL k aj)) (af n d av bc)⟩
def Gz (G:oi) (S:g_) (P:l3):Prop:=∀k c,k<G.N->c<4->rule G S P k c<=P k c
structure uG (G:oi) (S:g_) (L:l3):Prop where
 fixed:∀k c,k<G.N->c<4->rule G S L k c=L k c
 least:∀P,Gz G S P->∀k c,k<G.N->c<4->L k c<=P k c
theorem uG.unique {S:g_} {L M:l3} (h:uG G S L) (g:uG G S M):∀k c,k<G.N->c<4->L k c=M k c:=λk c aj aq=>
 Int.le_antisymm (h.least M (λk c aj aq=>Int.le_of_eq (g.fixed k c aj aq)) k c aj aq) (g.least L (λk c aj aq=>Int.le_of_eq (h.fixed k c aj aq)) k c aj aq)
theorem ahd {S:g_} (aN:S.k3 G.N) {L:l3} (ad:Gz G S L) (af:∀P,Gz G S P->∀k c,k<G.N->c<4->L k c<=P k c):uG G S L:=by
 refine⟨λk c aj aq=>Int.le_antisymm (ad k c aj aq) ?_,af⟩;have hp:Gz G S (rule G S L):=λk c aj aq=>Xh aN aj aq λn av=>ad n c av aq
 exact af _ hp k c aj aq
structure po (G:oi) (S:g_) (L:l3) (W:Nat->Prop):Prop where
 low:∀P,Gz G S P->∀k c,k<G.N->c<4->L k c<=P k c
 bound:∀k c,k<G.N->c<4->0<=L k c/\L k c<=15
 done:∀k c,k<G.N->c<4->¬W k->rule G S L k c<=L k c
theorem po.full {S:g_} (aN:S.k3 G.N) {L:l3} {W:Nat->Prop} (h:po G S L W) (pg:∀k,k<G.N->¬W k):uG G S L:=
 ahd aN (λk c aj aq=>h.done k c aj aq (pg k aj)) h.low
theorem uG.up {S:g_} {L:l3} (h:uG G S L) (ae:∀k c,k<G.N->c<4->0<=L k c/\L k c<=15) (W:Nat->Prop):po G S L W:=
 ⟨h.least,ae,λk c aj aq _=>Int.le_of_eq (h.fixed k c aj aq)⟩
theorem po.zero {S:g_} (aN:S.k3 G.N) {W:Nat->Prop} (pg:∀k,k<G.N->W k):po G S (λ_ _=>0) W where
 low P eX k c aj aq:=Int.le_trans (zY aN aj aq) (eX k c aj aq)
 bound _ _ _ _:=by omega
 done k _ aj _ av:=absurd (pg k aj) av
def raised (G:oi) (S:g_) (L:l3) (k:Nat):l3:=λm c=>if m=k then max (rule G S L k c) (L k c) else L m c
theorem po.Kj {S:g_} (aN:S.k3 G.N) {L:l3} {W W':Nat->Prop} {k:Nat} (aj:k<G.N) (h:po G S L W)
  (ahe:∀m,m≠k->W m->W' m) (ahf:(∃c,c<4/\L k c<rule G S L k c)->∀n d,(n,d)∈G.sb k->S.bZ n=true->W' n):po G S (raised G S L k) W' where
 low P eX m c hm aq:=by
  unfold raised;split
  ·rename_i e
   subst e;have:=Xh aN (c:=c) (L:=L) (P:=P) hm aq λn av=>h.low P eX n c av aq
   have:=eX m c hm aq;have:=h.low P eX m c hm aq;omega
  ·exact h.low P eX m c hm aq
 bound m c hm aq:=by
  unfold raised;split
  ·rename_i e
   subst e;have ad:=h.bound m c hm aq;have af:=Xg aN (c:=c) (L:=L) hm aq λn av=>(h.bound n c av aq).2
   omega
  ·exact h.bound m c hm aq
 done m c hm aq av:=by
  by_cases sU:m=k
  ·subst sU
   have ad:rule G S (raised G S L m) m c=rule G S L m c:=by
    have ak:∀n d,(n,d)∈G.sb m->raised G S L m n c=L n c:=λn d fa=>by
     unfold raised;rw[aU (G.W_ m n d hm fa)]
    refine Int.le_antisymm ?_ ?_
    ·refine(rm (zY aN hm aq)).2 λaw=> ?_
     obtain⟨ad,af⟩:=(rm (G:=G) (S:=S) (L:=L) (k:=m) (c:=c) (zY aN hm aq)).1 (Int.le_refl _) aw;exact⟨ad,λn d fa bc=>by rw[ak n d fa];exact af n d fa bc⟩
    ·refine(rm (zY aN hm aq)).2 λaw=> ?_
     obtain⟨ad,af⟩:=(rm (G:=G) (S:=S) (L:=raised G S L m) (k:=m) (c:=c) (zY aN hm aq)).1 (Int.le_refl _) aw;exact⟨ad,λn d fa bc=>by rw[<-ak n d fa];exact af n d fa bc⟩
   rw[ad];unfold raised;rw[aQ rfl];omega
  ·have O':¬W m:=λhw=>av (ahe m sU hw)
   have aM:=h.done m c hm aq O';have ao:raised G S L k m c=L m c:=by unfold raised;rw[aU sU]
   rw[ao];refine(rm (h.bound m c hm aq).1).2 λaw=> ?_
   obtain⟨ad,af⟩:=(rm (h.bound m c hm aq).1).1 aM aw;refine⟨ad,λn d fa bc=> ?_⟩;unfold raised;split
   ·rename_i e
    subst e;by_cases Kk:L n c<rule G S L n c
    ·exfalso
     have ahg:=G.O7 m n d hm fa;exact av (ahf ⟨c,aq,Kk⟩ m (-d) ahg aw)
    ·rw[show max (rule G S L n c) (L n c)=L n c by omega]
     exact af n d fa bc
   ·exact af n d fa bc
end AE
namespace AE
abbrev bM:=Int×Int×Int×Int
def b_ (x:bM):Nat->Int
 |0=>x.1
 |1=>x.2.1
 |2=>x.2.2.1
 |_=>x.2.2.2
def rn (f:Nat->Int):bM:=(f 0,f 1,f 2,f 3)
theorem iF {f:Nat->Int} {c:Nat} (aq:c<4):b_ (rn f) c=f c:=by
 match c,aq with
 |0,_=>rfl
 |1,_=>rfl
 |2,_=>rfl
 |3,_=>rfl
theorem bM.ext' {x y:bM} (h:∀c,c<4->b_ x c=b_ y c):x=y:=by
 obtain⟨a,b,c,d⟩:=x;obtain⟨aW,b',c',mI⟩:=y;have aM:a=aW:=h 0 cz;have ad:b=b':=h 1 cz;have af:c=c':=h 2 cz;have ay:d=mI:=h 3 cz;rw[aM,ad,af,ay]
abbrev z4:bM:=(0,0,0,0)
theorem GC (c:Nat):b_ z4 c=0:=by
 match c with
 |0=>rfl
 |1=>rfl
 |2=>rfl
 |_+3=>rfl
def dy (l:List bM):l3:=λk c=>b_ (l.getD k z4) c
theorem Xi {l:List bM} {k m c:Nat} {x:bM} (aj:k<l.length):dy (l.set k x) m c=if m=k then b_ x c else dy l m c:=by
 unfold dy;rw[dh,dh,List.getElem?_set];by_cases h:k=m
 ·subst h
  rw[aQ rfl,aQ aj,aQ rfl];rfl
 ·rw[aU h,aU (λe=>h e.symm)]
structure fU where
 aH:List bM
 bE:List (Nat×bM)
 gone:List Nat
 bu:List Nat
 waits:List Bool
def vF (old x:bM):bM:=rn λc=>if 0<b_ old c then 0 else b_ x c
def ja (w:fU) (k:Nat) (old:bM):fU:={w with bE:=w.bE++[(k,old)],gone:=w.gone++[k],aH:=w.aH.set k (vF old (w.aH.getD k z4))}
def pq (S:g_) (old x:bM) (p:Nat×Int):bM:=rn λc=>if 0<b_ old c/\0<b_ x c/\b_ x c=given (b_ old c) (S.jL p.1) c (decide (p.2<0)) then b_ x c else 0
def hb (S:g_) (old:bM) (w:fU) (p:Nat×Int):fU:=if pq S old (w.aH.getD p.1 z4) p=z4 then w else ja w p.1 (pq S old (w.aH.getD p.1 z4) p)
variable {G:oi}
def D3 (G:oi) (S:g_) (b3 L:l3) (m c:Nat) (rest:List (Nat×Int)):Prop:=∀n d,(n,d)∈G.sb m->S.bZ n=true->(n,d)∈rest\/L n c=0\/L n c≠given (b3 m c) (S.jL n) c (decide (d<0))
structure pZ (G:oi) (jh S:g_) (b3:l3) (d':Nat) (cur:Nat×bM) (rest:List (Nat×Int)) (w:fU):Prop where
 len:w.aH.length=G.N
 full:uG G jh b3
 bound:∀k c,k<G.N->c<4->0<=b3 k c/\b3 k c<=15
 same:∀n,n≠d'->S.jL n=jh.jL n/\(∀c,S.emit n c=jh.emit n c)/\S.bZ n=jh.bZ n
 two:∀k c,k<G.N->c<4->dy w.aH k c=0\/dy w.aH k c=b3 k c
 D4:∀c,c<4->dy w.aH d' c=0
 zZ:∀m c,m<G.N->c<4->dy w.aH m c≠b3 m c->(∃x∈w.bE,x.1=m/\b_ x.2 c=b3 m c)\/D3 G S b3 (dy w.aH) m c []\/(m=cur.1/\b_ cur.2 c=b3 m c/\D3 G S b3 (dy w.aH) m c rest)
 lost:∀x∈w.bE,x.1<G.N
 gone:∀m,m<G.N->((∃c,c<4/\dy w.aH m c≠b3 m c)\/m=d')->m∈w.gone
 D5:∀m∈w.gone,m<G.N
theorem D3.mono {S:g_} {b3 L L':l3} {m c:Nat} {r dX:List (Nat×Int)} (hm:m<G.N) (h:D3 G S b3 L m c r) (ao:∀p∈r,p∈dX) (hL:∀n,n<G.N->L' n c=0\/L' n c=L n c):D3 G S b3 L' m c dX:=λn d av aw=>by
 rcases h n d av aw with ad|ad|ad
 ·exact .inl (ao _ ad)
 ·rcases hL n (G.sc _ _ _ hm av) with af|af
  ·exact .inr (.inl af)
  ·exact .inr (.inl (by rw[af,ad]))
 ·rcases hL n (G.sc _ _ _ hm av) with af|af
  ·exact .inr (.inl af)
  ·exact .inr (.inr (by rw[af];exact ad))
theorem O_ {w:fU} {k m c:Nat} {old:bM} (aj:k<w.aH.length) (aq:c<4):dy (ja w k old).aH m c=if m=k/\0<b_ old c then 0 else dy w.aH m c:=by
 unfold ja;rw[Xi aj];by_cases h:m=k
 ·subst h
  rw[aQ rfl];unfold vF;rw[iF aq];by_cases af:0<b_ old c
  ·rw[aQ af,aQ ⟨rfl,af⟩]
  ·rw[aU af,aU (λh=>af h.2)]
   rfl
 ·rw[aU h,aU (λe=>h e.1)]
theorem pZ.step {jh S:g_} {b3:l3} {d':Nat} {cur:Nat×bM} {p:Nat×Int} {rest:List (Nat×Int)} {w:fU} (BO:cur.1<G.N) (hp:p∈lk G S cur.1) (h:pZ G jh S b3 d' cur (p::rest) w):pZ G jh S b3 d' cur rest (hb S cur.2 w p):=by
 obtain⟨n,d⟩:=p;obtain⟨A0,A3⟩:=vE.1 hp;have av:n<G.N:=G.sc _ _ _ BO A0;have ie:n<w.aH.length:=by rw[h.len];exact av
 have tV:∀k c,k<G.N->c<4->0<=dy w.aH k c:=λk c aj aq=>by
  rcases h.two k c aj aq with e|e
  ·omega
  ·rw[e];exact(h.bound k c aj aq).1
 have nE:∀m c,c<4->dy (hb S cur.2 w (n,d)).aH m c=if m=n/\0<b_ cur.2 c/\0<dy w.aH n c/\dy w.aH n c=given (b_ cur.2 c) (S.jL n) c (decide (d<0)) then 0 else dy w.aH m c:=λm c aq=>by
  unfold hb;have z1:b_ (pq S cur.2 (w.aH.getD n z4) (n,d)) c=if 0<b_ cur.2 c/\0<dy w.aH n c/\dy w.aH n c=given (b_ cur.2 c) (S.jL n) c (decide (d<0)) then dy w.aH n c else 0:=by
   unfold pq;rw[iF aq];rfl
  split
  ·rename_i bI
   have n5:b_ (pq S cur.2 (w.aH.getD n z4) (n,d)) c=0:=by rw[bI,GC]
   rw[z1] at n5;split
   ·rename_i af
    rw[aQ af.2] at n5;rw[af.1,n5]
   ·rfl
  ·rw[O_ ie aq,z1]
   by_cases af:0<b_ cur.2 c/\0<dy w.aH n c/\dy w.aH n c=given (b_ cur.2 c) (S.jL n) c (decide (d<0))
   ·rw[aQ af]
    by_cases ay:m=n
    ·rw[aQ ⟨ay,af.2.1⟩,aQ ⟨ay,af⟩]
    ·rw[aU (λe=>ay e.1),aU (λe=>ay e.1)]
   ·rw[aU af,aU (λe=>by omega),aU (λe=>af e.2)]
 have Pa:∀m c,c<4->dy (hb S cur.2 w (n,d)).aH m c=0\/dy (hb S cur.2 w (n,d)).aH m c=dy w.aH m c:=λm c aq=>by
  rw[nE m c aq];split
  ·exact .inl rfl
  ·exact .inr rfl
 have Jr:∀x,x∈w.bE->x∈(hb S cur.2 w (n,d)).bE:=λx ak=>by
  unfold hb;split
  ·exact ak
  ·unfold ja
   simp [ak]
 have n0:∀x,x∈w.gone->x∈(hb S cur.2 w (n,d)).gone:=λx ak=>by
  unfold hb;split
  ·exact ak
  ·unfold ja
   simp [ak]
 have gm:∀c,c<4->dy (hb S cur.2 w (n,d)).aH n c≠dy w.aH n c->n∈(hb S cur.2 w (n,d)).gone/\∃x∈(hb S cur.2 w (n,d)).bE,x.1=n/\b_ x.2 c=dy w.aH n c:=λc aq cO=>by
  rw[nE n c aq] at cO;have ahh:0<b_ cur.2 c/\0<dy w.aH n c/\dy w.aH n c=given (b_ cur.2 c) (S.jL n) c (decide (d<0)):=by
   by_cases af:0<b_ cur.2 c/\0<dy w.aH n c/\dy w.aH n c=given (b_ cur.2 c) (S.jL n) c (decide (d<0))
   ·exact af
   ·rw[aU (λe=>af e.2)] at cO
    exact absurd rfl cO
  have z1:b_ (pq S cur.2 (w.aH.getD n z4) (n,d)) c=dy w.aH n c:=by
   unfold pq;rw[iF aq];exact aQ ahh
  unfold hb;rw[aU (λbI=>by rw[bI,GC] at z1;omega)];unfold ja;exact⟨by simp,(n,pq S cur.2 (w.aH.getD n z4) (n,d)),by simp,rfl,z1⟩
 refine⟨?_,h.full,h.bound,h.same,λk c aj aq=> ?_,λc aq=> ?_,λm c hm aq cO=> ?_,λx ak=> ?_,λm hm ak=> ?_,λm ak=> ?_⟩
 ·unfold hb
  split
  ·exact h.len
  ·unfold ja
   simp [h.len]
 ·rcases Pa k c aq with e|e
  ·exact .inl e
  ·rw[e];exact h.two k c aj aq
 ·rcases Pa d' c aq with e|e
  ·exact e
  ·rw[e];exact h.D4 c aq
 ·by_cases hold:dy w.aH m c=b3 m c
  ·have Kl:m=n:=by
    have:=nE m c aq;by_cases ak:m=n
    ·exact ak
    ·rw[aU (λe=>ak e.1)] at this
     exact absurd (this.trans hold) cO
   subst Kl;obtain⟨_,x,sd,ih,Pb⟩:=gm c aq (λe=>cO (e.trans hold));exact .inl ⟨x,sd,ih,Pb.trans hold⟩
  ·have hL:∀q,q<G.N->dy (hb S cur.2 w (n,d)).aH q c=0\/dy (hb S cur.2 w (n,d)).aH q c=dy w.aH q c:=λq _=>Pa q c aq
   rcases h.zZ m c hm aq hold with ⟨x,sd,ih⟩|ak|⟨rfl,ih,Pb⟩
   ·exact .inl ⟨x,Jr x sd,ih⟩
   ·exact .inr (.inl (ak.mono hm (λ_ h=>h) hL))
   ·refine .inr (.inr ⟨rfl,ih,λq e aZ ahi=> ?_⟩)
    rcases Pb q e aZ ahi with ad|ad|ad
    ·rcases List.mem_cons.1 ad with af|af
     ·obtain⟨rfl,rfl⟩:=Prod.mk.inj af
      rw[nE q c aq];have ae:=h.two cur.1 c BO aq;have Km:0<b3 cur.1 c:=by
       have:=(h.bound cur.1 c BO aq).1;rcases ae with e1|e1
       ·rw[e1] at hold;omega
       ·exact absurd e1 hold
      have Kn:=tV q c av aq;by_cases ay:dy w.aH q c=0
      ·right;left
       rw[ay,aU (λe=>by omega)]
      ·by_cases bD:dy w.aH q c=given (b3 cur.1 c) (S.jL q) c (decide (e<0))
       ·right;left
        rw[aQ ⟨rfl,ar,ar,by rw[ih];exact bD⟩]
       ·right;right
        rw[aU (λe1=>bD (by rw[<-ih];exact e1.2.2.2))];exact bD
     ·exact .inl af
    ·rcases hL q (G.sc _ _ _ BO aZ) with af|af
     ·exact .inr (.inl af)
     ·exact .inr (.inl (by rw[af,ad]))
    ·rcases hL q (G.sc _ _ _ BO aZ) with af|af
     ·exact .inr (.inl af)
     ·exact .inr (.inr (by rw[af];exact ad))
 ·unfold hb at ak
  split at ak
  ·exact h.lost x ak
  ·unfold ja at ak
   rcases List.mem_append.1 ak with ad|ad
   ·exact h.lost x ad
   ·rw[List.mem_singleton.1 ad]
    exact av
 ·by_cases hold:∃c,c<4/\dy w.aH m c≠b3 m c
  ·exact n0 m (h.gone m hm (.inl hold))
  ·rcases ak with ⟨c,aq,cO⟩|ak
   ·have Xj:dy w.aH m c=b3 m c:=Classical.byContradiction λe=>hold ⟨c,aq,e⟩
    have Kl:m=n:=by
     have:=nE m c aq;by_cases ak:m=n
     ·exact ak
     ·rw[aU (λe=>ak e.1)] at this
      exact absurd (this.trans Xj) cO
    subst Kl;exact(gm c aq (λe=>cO (e.trans Xj))).1
   ·exact n0 m (h.gone m hm (.inr ak))
 ·unfold hb at ak
  split at ak
  ·exact h.D5 m ak
  ·unfold ja at ak
   rcases List.mem_append.1 ak with ad|ad
   ·exact h.D5 m ad
   ·rw[List.mem_singleton.1 ad]
    exact av
theorem pZ.steps {jh S:g_} {b3:l3} {d':Nat} {cur:Nat×bM} (BO:cur.1<G.N):∀(l:List (Nat×Int)) (w:fU),(∀p∈l,p∈lk G S cur.1)->pZ G jh S b3 d' cur l w->pZ G jh S b3 d' cur [] (l.foldl (hb S cur.2) w):=by
 intro l
 induction l with
 |nil=>exact λ_ _ h=>h
 |cons p l ck=>exact λw hl h=>ck _ (λq aZ=>hl q (by simp [aZ])) (h.step BO (hl _ (by simp)))
theorem pZ.take {jh S:g_} {b3:l3} {d':Nat} {cur:Nat×bM} {w:fU} {x:Nat×bM} {r:List (Nat×bM)} (h:pZ G jh S b3 d' cur [] w) (ak:w.bE=x::r):pZ G jh S b3 d' x (lk G S x.1) {w with bE:=r} where
 len:=h.len
 full:=h.full
 bound:=h.bound
 same:=h.same
 two:=h.two
 D4:=h.D4
 zZ m c hm aq cO:=by
  rcases h.zZ m c hm aq cO with ⟨y,Ko,Pc,Xk⟩|bq|⟨_,_,bq⟩
  ·rw[ak] at Ko
   rcases List.mem_cons.1 Ko with rfl|Ko
   ·exact .inr (.inr ⟨Pc.symm,Xk,λn d av bc=> .inl (vE.2 ⟨Pc▸av,bc⟩)⟩)
   ·exact .inl ⟨y,Ko,Pc,Xk⟩
  ·exact .inr (.inl bq)
  ·exact .inr (.inl bq)
 lost y bq:=h.lost y (by rw[ak];simp [show y∈r from bq])
 gone:=h.gone
 D5:=h.D5
theorem pZ.up {jh S:g_} (z6:jh.k3 G.N) (aN:S.k3 G.N) {b3:l3} {d':Nat} {cur:Nat×bM} {w:fU} (h:pZ G jh S b3 d' cur [] w) (ak:w.bE=[]) {W:Nat->Prop} (pg:∀m∈w.gone,W m):po G S (dy w.aH) W:=by
 have ae:∀k c,k<G.N->c<4->0<=dy w.aH k c/\dy w.aH k c<=15:=λk c aj aq=>by
  rcases h.two k c aj aq with e|e
  ·omega
  ·rw[e];exact h.bound k c aj aq
 have ahj:∀m c,m<G.N->c<4->dy w.aH m c≠b3 m c->D3 G S b3 (dy w.aH) m c []:=λm c hm aq cO=>by
  rcases h.zZ m c hm aq cO with ⟨y,bq,_⟩|bq|⟨_,_,bq⟩
  ·rw[ak] at bq
   cases bq
  ·exact bq
  ·exact bq
 have w6:∀k c,k≠d'->uF G S k c=uF G jh k c:=λk c aj=>by
  unfold uF;rw[(h.same k aj).1,(h.same k aj).2.1]
 refine⟨λP eX=> ?_,ae,λn c av aq O'=> ?_⟩
 ·have Pd:∀k c,k<G.N->c<4->0<=P k c:=λk c aj aq=>Int.le_trans (zY aN aj aq) (eX k c aj aq)
  have main:∀(a b:Nat) (k c:Nat),k<G.N->c<4->(15-b3 k c).toNat<=a->G.aK k<=b->dy w.aH k c<=P k c:=by
   intro a
   induction a using Nat.strongRecOn with
   |_ a ahk=>
    intro b
    induction b using Nat.strongRecOn with
    |_ b ahl=>
     intro k c aj aq ha D6;rcases h.two k c aj aq with e|e
     ·rw[e];exact Pd k c aj aq
     by_cases bI:b3 k c=0
     ·rw[e,bI];exact Pd k c aj aq
     have hK:k≠d':=λF'=>by
      have:=h.D4 c aq;rw[<-F'] at this;omega
     have tV:0<b3 k c:=by have:=(h.bound k c aj aq).1;omega
     have D7:=h.full.fixed k c aj aq;have Xl:jh.bZ k=true:=Classical.byContradiction λav=>by
      unfold rule at D7;rw[aU av] at D7;omega
     have A3:S.bZ k=true:=by rw[(h.same k hK).2.2];exact Xl
     have Xm:=(rm (Pd k c aj aq)).1 (eX k c aj aq) A3;rcases ahc (G:=G) (S:=jh) (L:=b3) (c:=c) Xl with ad|⟨m,d,hm,vv,ad⟩
     ·rw[e,<-D7,ad,<-w6 k c hK]
      exact Xm.1
     ·have z7:=G.sc _ _ _ aj hm
      have wY:b3 k c=given (b3 m c) (jh.jL k) c (decide (0<d)):=by rw[<-D7,ad]
      have Xn:dy w.aH m c=b3 m c:=Classical.byContradiction λcO=>by
       rcases ahj m c z7 aq cO k (-d) (G.O7 _ _ _ aj hm) A3 with af|af|af
       ·cases af
       ·omega
       ·apply af
        rw[e,wY,(h.same k hK).1];congr 1;simp
      have uD:m≠d':=λem=>by
       have af:=h.D4 c aq;rw[<-em,Xn] at af;rw[af,Xd _ _ (z6.jL k aj)] at wY;omega
      have ahm:S.bZ m=true:=by rw[(h.same m uD).2.2];exact vv
      have NF:b3 m c<=P m c:=by
       rw[<-Xn];rcases ahb (c:=c) (up:=decide (0<d)) (z6.jL k aj) (h.bound m c z7 aq).2 (by rw[<-wY];exact tV) with af|⟨af,ay,bD⟩
       ·rw[<-wY] at af
        have:=(h.bound m c z7 aq).2;exact ahk ((15-b3 m c).toNat) ar (G.aK m) m c z7 aq (b2 _) (b2 _)
       ·rw[<-wY] at af
        exact ahl (G.aK m) (Nat.lt_of_lt_of_le (G.Xa _ _ _ aj hm (by simpa using bD)) D6) m c z7 aq (by rw[<-af];exact ha) (b2 _)
      have cD:=Xm.2 m d hm ahm;have cI:=O8 c (decide (0<d)) NF (aN.jL k aj);rw[e,wY,<-(h.same k hK).1];exact Int.le_trans cI cD
  exact λk c aj aq=>main _ _ k c aj aq (b2 _) (b2 _)
 ·have Xo:n∉w.gone:=λaA=>O' (pg n aA)
  have Kp:n≠d':=λe=>Xo (h.gone n av (.inr e))
  have ahn:dy w.aH n c=b3 n c:=Classical.byContradiction λe=>Xo (h.gone n av (.inl ⟨c,aq,e⟩))
  have D7:=h.full.fixed n c av aq;rw[ahn];have hle:=(rm (h.bound n c av aq).1).1 (Int.le_of_eq D7);refine(rm (h.bound n c av aq).1).2 λaw=> ?_
  obtain⟨ad,af⟩:=hle (by rw[<-(h.same n Kp).2.2];exact aw);refine⟨by rw[w6 n c Kp];exact ad,λm d hm vv=> ?_⟩;have z7:=G.sc _ _ _ av hm;rw[(h.same n Kp).1];by_cases uD:m=d'
  ·rw[uD,h.D4 c aq,Xd _ _ (z6.jL n av)]
   exact(h.bound n c av aq).1
  ·have:=af m d hm (by rw[<-(h.same m uD).2.2];exact vv)
   refine Int.le_trans (O8 _ _ ?_ (z6.jL n av)) this;rcases h.two m c z7 aq with e|e
   ·rw[e];exact(h.bound m c z7 aq).1
   ·rw[e];exact Int.le_refl _
theorem pZ.begin {jh S:g_} {d':Nat} {w:fU} {cur:Nat×bM} (aj:d'<G.N) (hlen:w.aH.length=G.N) (aO:uG G jh (dy w.aH)) (ae:∀k c,k<G.N->c<4->0<=dy w.aH k c/\dy w.aH k c<=15) (xU:∀n,n≠d'->S.jL n=jh.jL n/\(∀c,S.emit n c=jh.emit n c)/\S.bZ n=jh.bZ n) (hl:w.bE=[]) (aA:w.gone=[]):
  pZ G jh S (dy w.aH) d' cur [] (ja w d' (w.aH.getD d' z4)):=by
 have mr:d'<w.aH.length:=by rw[hlen];exact aj
 have nE:∀m c,c<4->dy (ja w d' (w.aH.getD d' z4)).aH m c=if m=d'/\0<dy w.aH d' c then 0 else dy w.aH m c:=λm c aq=>O_ mr aq
 refine⟨?_,aO,ae,xU,λk c aj aq=> ?_,λc aq=> ?_,λm c hm aq cO=> ?_,λx ak=> ?_,λm hm ak=> ?_,λm ak=> ?_⟩
 ·unfold ja
  simp [hlen]
 ·rw[nE k c aq]
  split
  ·exact .inl rfl
  ·exact .inr rfl
 ·rw[nE d' c aq]
  have:=(ae d' c aj aq).1;split
  ·rfl
  ·rename_i ad
   have:¬0<dy w.aH d' c:=λaf=>ad ⟨rfl,af⟩
   omega
 ·rw[nE m c aq] at cO
  have ad:m=d'/\0<dy w.aH d' c:=Classical.byContradiction λad=>by
   rw[aU ad] at cO;exact cO rfl
  refine .inl ⟨(d',w.aH.getD d' z4),?_,ad.1.symm,by rw[ad.1];rfl⟩;unfold ja;simp
 ·unfold ja at ak
  rw[hl] at ak;rw[List.mem_singleton.1 ak];exact aj
 ·have:m=d':=by
   rcases ak with ⟨c,aq,cO⟩|ak
   ·rw[nE m c aq] at cO
    exact Classical.byContradiction λad=>by
     rw[aU (λh=>ad h.1)] at cO;exact cO rfl
   ·exact ak
  rw[this];unfold ja;simp
 ·unfold ja at ak
  rw[aA] at ak;rw[List.mem_singleton.1 ak];exact aj
end AE
namespace AE
variable {G:oi}
def iM (w:fU) (k:Nat):fU:=if w.waits.getD k false=true then w else {w with bu:=w.bu++[k],waits:=w.waits.set k true}
def hD (G:oi) (S:g_) (w:fU) (x:Nat×bM) (r:List (Nat×bM)):fU:=(lk G S x.1).foldl (hb S x.2) {w with bE:=r}
def GD (w:fU):fU:=if w.bE=[] then {w.gone.foldl iM w with gone:=[]} else w
def pt (G:oi) (S:g_) (w:fU) (k:Nat):bM:=rn (rule G S (dy w.aH) k)
def td (x y:bM):bM:=rn λc=>max (b_ x c) (b_ y c)
def z8 (x y:bM):Bool:=decide (b_ y 0<b_ x 0)||decide (b_ y 1<b_ x 1)||decide (b_ y 2<b_ x 2)||decide (b_ y 3<b_ x 3)
def GF (G:oi) (S:g_) (w:fU) (k:Nat) (r:List Nat):fU:=
 let w1:fU:={w with bu:=r,waits:=w.waits.set k false,aH:=w.aH.set k (td (pt G S w k) (w.aH.getD k z4))}
 if z8 (pt G S w k) (w.aH.getD k z4)=true then (lk G S k).foldl (λw p=>iM w p.1) w1 else w1
def se (G:oi) (S:g_) (w:fU):Option fU:=
 match w.bE with
 |x::r=>some (GD (hD G S w x r))
 |[]=>match w.bu with
  |k::r=>some (GF G S w k r)
  |[]=>none
def lG (f:bM->Nat) (l:List bM):Nat:=(l.map f).sum
theorem Pe {f:bM->Nat}:∀{l:List bM} {k:Nat} {y:bM},k<l.length->lG f (l.set k y)+f (l.getD k z4)=lG f l+f y
 |[],_,_,h=>absurd h (Nat.not_lt_zero _)
 |x::l,0,y,_=>by simp [lG];omega
 |x::l,k+1,y,h=>by
  have:=Pe (f:=f) (l:=l) (k:=k) (y:=y) (by simpa using h);simp only [lG,List.set_cons_succ,List.map_cons,List.sum_cons,List.getD_cons_succ] at*
  omega
theorem Pf {f:bM->Nat} {b:Nat}:∀{l:List bM},(∀x∈l,f x<=b)->lG f l<=b*l.length
 |[],_=>by simp [lG]
 |x::l,h=>by
  have:=Pf (f:=f) (b:=b) (l:=l) (λy bq=>h y (by simp [bq]));have:=h x (by simp);simp only [lG,List.map_cons,List.sum_cons,List.length_cons,Nat.mul_add] at*
  omega
def sf (x:bM):Nat:=(15-x.1).toNat+(15-x.2.1).toNat+(15-x.2.2.1).toNat+(15-x.2.2.2).toNat
def oQ (x:bM):Nat:=(if 0<x.1 then 1 else 0)+(if 0<x.2.1 then 1 else 0)+(if 0<x.2.2.1 then 1 else 0)+(if 0<x.2.2.2 then 1 else 0)
theorem aho (x:bM):oQ x<=4:=by
 unfold oQ
 (repeat' split)<;>omega
def qC (N:Nat):Nat:=365*N+2
def mu (N:Nat) (w:fU):Nat:=if w.bE=[] then w.bu.length+6*lG sf w.aH else w.bE.length+lG oQ w.aH+361*N
structure vG (N:Nat) (w:fU):Prop where
 len:w.waits.length=N
 nodup:w.bu.Nodup
 lt:∀k∈w.bu,k<N
 is:∀k,k<N->(w.waits.getD k false=true↔k∈w.bu)
theorem BP {α:Type} {l:List α} {k m:Nat} {x d:α} (aj:k<l.length):(l.set k x).getD m d=if m=k then x else l.getD m d:=by
 rw[dh,dh,List.getElem?_set];by_cases h:k=m
 ·subst h
  rw[aQ rfl,aQ aj,aQ rfl];rfl
 ·rw[aU h,aU (λe=>h e.symm)]
theorem vG.Kj {N:Nat} {w:fU} {k:Nat} (aj:k<N) (h:vG N w):vG N (iM w k):=by
 unfold iM;split
 ·exact h
 ·rename_i av
  have hd:k∉w.bu:=λhm=>av ((h.is k aj).2 hm)
  refine⟨by simp [h.len],?_,λm hm=> ?_,λm hm=> ?_⟩
  ·show (w.bu++[k]).Nodup
   rw[List.nodup_append];exact⟨h.nodup,by simp,λa ha b ae e=>by
    rw[List.mem_singleton.1 ae] at e
    exact hd (e▸ha)⟩
  ·rcases List.mem_append.1 hm with ad|ad
   ·exact h.lt m ad
   ·rw[List.mem_singleton.1 ad];exact aj
  ·show (w.waits.set k true).getD m false=true↔m∈w.bu++[k]
   rw[BP (by rw[h.len];exact aj)];by_cases e:m=k
   ·rw[aQ e]
    simp [e]
   ·rw[aU e,h.is m hm]
    simp [e]
theorem ahp (w:fU) (k:Nat):(iM w k).aH=w.aH/\(iM w k).bE=w.bE/\(iM w k).gone=w.gone:=by
 unfold iM;split<;>exact⟨rfl,rfl,rfl⟩
theorem ahq (w:fU) (k m:Nat) (h:m∈w.bu):m∈(iM w k).bu:=by
 unfold iM;split
 ·exact h
 ·simp [h]
theorem ahr {N:Nat} {w:fU} {k:Nat} (h:vG N w) (aj:k<N):k∈(iM w k).bu:=by
 unfold iM;split
 ·rename_i ad
  exact(h.is k aj).1 ad
 ·simp
theorem ahs (w:fU) (k:Nat):(iM w k).bu.length<=w.bu.length+1:=by
 unfold iM;split
 ·omega
 ·simp
theorem Xp {N:Nat} {α:Type} (f:α->Nat):∀(l:List α) (w:fU),(∀p∈l,f p<N)->vG N w->
  let w':=l.foldl (λw p=>iM w (f p)) w
  vG N w'/\w'.aH=w.aH/\w'.bE=w.bE/\w'.gone=w.gone/\(∀m∈w.bu,m∈w'.bu)/\(∀p∈l,f p∈w'.bu)/\w'.bu.length<=w.bu.length+l.length:=by
 intro l
 induction l with
 |nil=>exact λw _ h=>⟨h,rfl,rfl,rfl,λ_ h=>h,λ_ h=>(by cases h),b2 _⟩
 |cons p l ck=>
  intro w hl h;have hp:=hl p (by simp);obtain⟨ad,af,ay,bD,cD,cI,fK⟩:=ck (iM w (f p)) (λq aZ=>hl q (by simp [aZ])) (h.Kj hp);obtain⟨g1,g2,g3⟩:=ahp w (f p);refine⟨ad,af.trans g1,ay.trans g2,bD.trans g3,λm hm=>cD m (ahq w (f p) m hm),λq aZ=> ?_,?_⟩
  ·rcases List.mem_cons.1 aZ with rfl|aZ
   ·exact cD _ (ahr h hp)
   ·exact cI q aZ
  ·have:=ahs w (f p)
   simp only [List.length_cons,List.foldl_cons] at*
   omega
theorem aht {N:Nat}:∀{l:List Nat},l.Nodup->(∀k∈l,k<N)->l.length<=N:=by
 induction N with
 |zero=>
  intro l _ h
  match l with
  |[]=>simp
  |x::_=>exact absurd (h x (by simp)) (Nat.not_lt_zero _)
 |succ N ck=>
  intro l av h;have ad:(l.erase N).length<=N:=ck (av.erase N) λk aj=>by
   have nk:=h k (List.mem_of_mem_erase aj);have n3:k≠N:=λe=>by
    rw[e] at aj;exact(List.Nodup.not_mem_erase av) aj
   omega
  have af:l.length<=(l.erase N).length+1:=by
   rw[List.length_erase];split<;>omega
  omega
theorem vG.count {N:Nat} {w:fU} (h:vG N w):w.bu.length<=N:=aht h.nodup h.lt
structure qD (G:oi) (S:g_) (w:fU):Prop where
 len:w.aH.length=G.N
 wait:vG G.N w
 up:w.bE=[]->w.gone=[]/\po G S (dy w.aH) (· ∈w.bu)
 down:w.bE≠[]->w.bu=[]/\∃jh b3 d' cur,jh.k3 G.N/\pZ G jh S b3 d' cur [] w
theorem qD.bound {S:g_} {w:fU} (h:qD G S w):∀k c,k<G.N->c<4->0<=dy w.aH k c/\dy w.aH k c<=15:=λk c aj aq=>by
 by_cases hl:w.bE=[]
 ·exact(h.up hl).2.bound k c aj aq
 ·obtain⟨_,jh,b3,d',cur,_,bc⟩:=h.down hl
  rcases bc.two k c aj aq with e|e
  ·omega
  ·rw[e];exact bc.bound k c aj aq
theorem Xq {S:g_} {w:fU} (h:qD G S w):lG sf w.aH<=60*G.N:=by
 have:=Pf (f:=sf) (b:=60) (l:=w.aH) λx ak=>by
  obtain⟨k,aj,rfl⟩:=List.mem_iff_getElem.1 ak;have nu:k<G.N:=by rw[<-h.len];exact aj
  have ae:=λc (aq:c<4)=>h.bound k c nu aq
  have he:w.aH.getD k z4=w.aH[k]:=by rw[dh,fA aj];rfl
  have aM:=ae 0 cz;have ad:=ae 1 cz;have af:=ae 2 cz;have ay:=ae 3 cz;unfold dy at aM ad af ay;rw[he] at aM ad af ay;simp only [b_] at aM ad af ay;unfold sf;omega
 rw[h.len] at this;exact this
theorem GG (w:fU):lG oQ w.aH<=4*w.aH.length:=Pf λx _=>aho x
theorem ahu {S:g_} {old:bM} {w:fU} {p:Nat×Int} (hp:p.1<w.aH.length):(hb S old w p).bE.length+lG oQ (hb S old w p).aH<=w.bE.length+lG oQ w.aH/\(hb S old w p).aH.length=w.aH.length/\(hb S old w p).bu=w.bu/\(hb S old w p).waits=w.waits:=by
 unfold hb;split
 ·exact⟨b2 _,rfl,rfl,rfl⟩
 ·rename_i cO
  refine⟨?_,by simp [ja],rfl,rfl⟩;unfold ja;have aw:=Pe (f:=oQ) (y:=vF (pq S old (w.aH.getD p.1 z4) p) (w.aH.getD p.1 z4)) hp;have b8:oQ (vF (pq S old (w.aH.getD p.1 z4) p) (w.aH.getD p.1 z4))+1<=oQ (w.aH.getD p.1 z4):=by
   have bI:¬∀c,c<4->b_ (pq S old (w.aH.getD p.1 z4) p) c=0:=λh=>cO (bM.ext' λc aq=>by rw[h c aq,GC])
   have ak:∀c,c<4->b_ (pq S old (w.aH.getD p.1 z4) p) c=0\/(0<b_ (w.aH.getD p.1 z4) c/\b_ (pq S old (w.aH.getD p.1 z4) p) c=b_ (w.aH.getD p.1 z4) c):=λc aq=>by
    unfold pq;rw[iF aq];split
    ·rename_i h
     exact .inr ⟨h.2.1,rfl⟩
    ·exact .inl rfl
   generalize pq S old (w.aH.getD p.1 z4) p=o at bI ak ⊢;generalize w.aH.getD p.1 z4=x at ak ⊢;have aM:=ak 0 cz;have ad:=ak 1 cz;have af:=ak 2 cz;have ay:=ak 3 cz;have J':¬(b_ o 0=0/\b_ o 1=0/\b_ o 2=0/\b_ o 3=0):=λ⟨a,b,c,d⟩=>bI λk aj=>by
    match k,aj with
    |0,_=>exact a
    |1,_=>exact b
    |2,_=>exact c
    |3,_=>exact d
   unfold vF oQ rn;simp only [b_] at*
   repeat' split
   all_goals omega
  simp only [List.length_append,List.length_cons,List.length_nil];omega
theorem Xr {S:g_} {old:bM}:∀(l:List (Nat×Int)) (w:fU),(∀p∈l,p.1<w.aH.length)->
  let w':=l.foldl (hb S old) w
  w'.bE.length+lG oQ w'.aH<=w.bE.length+lG oQ w.aH/\w'.aH.length=w.aH.length/\w'.bu=w.bu/\w'.waits=w.waits:=by
 intro l
 induction l with
 |nil=>exact λw _=>⟨b2 _,rfl,rfl,rfl⟩
 |cons p l ck=>
  intro w hl;obtain⟨g1,g2,g3,g4⟩:=ahu (S:=S) (old:=old) (w:=w) (hl p (by simp));obtain⟨ad,af,ay,bD⟩:=ck (hb S old w p) (λq aZ=>by rw[g2];exact hl q (by simp [aZ]));exact⟨Nat.le_trans ad g1,af.trans g2,ay.trans g3,bD.trans g4⟩
theorem ahv {x y:bM}:z8 x y=true↔∃c,c<4/\b_ y c<b_ x c:=by
 unfold z8;simp only [Bool.or_eq_true,decide_eq_true_eq];constructor
 ·rintro (((h|h)|h)|h)
  ·exact⟨0,cz,h⟩
  ·exact⟨1,cz,h⟩
  ·exact⟨2,cz,h⟩
  ·exact⟨3,cz,h⟩
 ·rintro ⟨c,aq,h⟩
  match c,aq with
  |0,_=>exact .inl (.inl (.inl h))
  |1,_=>exact .inl (.inl (.inr h))
  |2,_=>exact .inl (.inr h)
  |3,_=>exact .inr h
theorem po.weaken {S:g_} {L L':l3} {W W':Nat->Prop} (h:po G S L W) (hL:∀k c,k<G.N->c<4->L' k c=L k c) (pg:∀m,W m->W' m):po G S L' W' where
 low P eX k c aj aq:=by rw[hL k c aj aq];exact h.low P eX k c aj aq
 bound k c aj aq:=by rw[hL k c aj aq];exact h.bound k c aj aq
 done k c aj aq av:=by
  rw[hL k c aj aq];have aM:=h.done k c aj aq (λhw=>av (pg k hw));refine(rm (h.bound k c aj aq).1).2 λaw=> ?_
  obtain⟨ad,af⟩:=(rm (h.bound k c aj aq).1).1 aM aw;exact⟨ad,λn d fa bc=>by rw[hL n c (G.sc _ _ _ aj fa) aq];exact af n d fa bc⟩
theorem qD.unit {S:g_} (aN:S.k3 G.N) {w w':fU} (h:qD G S w) (hu:se G S w=some w'):qD G S w'/\mu G.N w'+1<=mu G.N w:=by
 unfold se at hu;split at hu
 ·rename_i x r ak
  cases hu;have cO:w.bE≠[]:=by rw[ak];simp
  obtain⟨aA,jh,b3,d',cur,z6,bc⟩:=h.down cO;have sd:x.1<G.N:=bc.lost x (by rw[ak];simp);have b8:∀p∈lk G S x.1,p.1<G.N:=λp hp=>G.sc _ p.1 p.2 sd (vE.1 hp).1
  have jr:=pZ.steps sd _ _ (λp hp=>hp) (bc.take ak);obtain⟨hN,iC,lH,p0⟩:=Xr (S:=S) (old:=x.2) (lk G S x.1) {w with bE:=r} (λp hp=>by rw[show ({w with bE:=r}:fU).aH=w.aH from rfl,h.len];exact b8 p hp)
  change pZ G jh S b3 d' x [] (hD G S w x r) at jr
  change (hD G S w x r).bE.length+lG oQ (hD G S w x r).aH<=r.length+lG oQ w.aH at hN
  change (hD G S w x r).bu=w.bu at lH
  change (hD G S w x r).waits=w.waits at p0
  have GH:vG G.N (hD G S w x r):=⟨by rw[p0];exact h.wait.len,by rw[lH];exact h.wait.nodup,by rw[lH];exact h.wait.lt,by rw[lH,p0];exact h.wait.is⟩;have GI:mu G.N w=r.length+1+lG oQ w.aH+361*G.N:=by
   unfold mu;rw[aU cO,ak];rfl
  unfold GD;split
  ·rename_i he
   obtain⟨g1,g2,g3,g4,kS,g6,g7⟩:=Xp (N:=G.N) (λk=>k) (hD G S w x r).gone (hD G S w x r) (λk aj=>jr.D5 k aj) GH;have uA:po G S (dy (hD G S w x r).aH) (· ∈((hD G S w x r).gone.foldl iM (hD G S w x r)).bu):=jr.up z6 aN he λm hm=>g6 m hm
   have Pg:qD G S {(hD G S w x r).gone.foldl iM (hD G S w x r) with gone:=[]}:=by
    refine⟨by show ((hD G S w x r).gone.foldl iM (hD G S w x r)).aH.length=_;rw[g2];exact jr.len,⟨g1.len,g1.nodup,g1.lt,g1.is⟩,λ_=>⟨rfl,?_⟩,λav=>absurd (g3.trans he) av⟩;show po G S (dy ((hD G S w x r).gone.foldl iM (hD G S w x r)).aH) _;rw[g2];exact uA
   refine⟨Pg,?_⟩;rw[GI];have hl:({(hD G S w x r).gone.foldl iM (hD G S w x r) with gone:=[]}:fU).bE=[]:=g3.trans he;have ad:=Pg.wait.count;have af:=Xq Pg;unfold mu;rw[aQ hl];omega
  ·rename_i he
   refine⟨⟨jr.len,GH,λe=>absurd e he,λ_=>⟨lH.trans aA,jh,b3,d',x,z6,jr⟩⟩,?_⟩;rw[GI];unfold mu;rw[aU he];omega
 ·rename_i ak
  split at hu
  ·rename_i k r aj
   cases hu;obtain⟨Xs,uA⟩:=h.up ak;have nu:k<G.N:=h.wait.lt k (by rw[aj];simp);have mr:k<w.aH.length:=by rw[h.len];exact nu
   have fa:k∉r/\r.Nodup:=by
    have:=h.wait.nodup;rw[aj] at this;exact⟨(List.nodup_cons.1 this).1,(List.nodup_cons.1 this).2⟩
   let w1:fU:={w with bu:=r,waits:=w.waits.set k false,aH:=w.aH.set k (td (pt G S w k) (w.aH.getD k z4))}
   have GH:vG G.N w1:=by
    refine⟨by simp [w1,h.wait.len],fa.2,λm hm=>h.wait.lt m (by rw[aj];simp [show m∈r from hm]),λm hm=> ?_⟩;show (w.waits.set k false).getD m false=true↔m∈r;rw[BP (by rw[h.wait.len];exact nu)];by_cases e:m=k
    ·rw[aQ e,e]
     simp [fa.1]
    ·rw[aU e,h.wait.is m hm,aj]
     simp [e]
   have nE:∀m c,m<G.N->c<4->dy w1.aH m c=raised G S (dy w.aH) k m c:=λm c _ aq=>by
    show dy (w.aH.set k _) m c=_;rw[Xi mr];unfold raised;split
    ·unfold td pt
     rw[iF aq,iF aq];rfl
    ·rfl
   have Kk:z8 (pt G S w k) (w.aH.getD k z4)=true↔∃c,c<4/\dy w.aH k c<rule G S (dy w.aH) k c:=by
    rw[ahv];constructor
    ·rintro ⟨c,aq,ad⟩
     refine⟨c,aq,?_⟩;unfold pt at ad;rw[iF aq] at ad;exact ad
    ·rintro ⟨c,aq,ad⟩
     refine⟨c,aq,?_⟩;unfold pt;rw[iF aq];exact ad
   have My:=Pe (f:=sf) (l:=w.aH) (k:=k) (y:=td (pt G S w k) (w.aH.getD k z4)) mr;have GI:mu G.N w=r.length+1+6*lG sf w.aH:=by
    unfold mu;rw[aQ ak,aj];rfl
   have D6:=λc (aq:c<4)=>uA.bound k c nu aq
   unfold GF;simp only;split
   ·rename_i hm
    obtain⟨dw,og,Mw⟩:=Kk.1 hm;have b8:∀p∈lk G S k,p.1<G.N:=λp hp=>G.sc _ p.1 p.2 nu (vE.1 hp).1
    obtain⟨g1,g2,g3,g4,kS,g6,g7⟩:=Xp (N:=G.N) (λp:Nat×Int=>p.1) (lk G S k) w1 b8 GH;have cI:(lk G S k).length<=6:=Nat.le_trans (List.length_filter_le _ _) (G.Xb k);have ahw:po G S (raised G S (dy w.aH) k) (· ∈((lk G S k).foldl (λw p=>iM w p.1) w1).bu):=uA.Kj aN nu (λm sU GJ=>by
     refine kS m ?_;rw[aj] at GJ;rcases List.mem_cons.1 GJ with e|e
     ·exact absurd e sU
     ·exact e) (λ_ n d av aw=>g6 (n,d) (vE.2 ⟨av,aw⟩))
    refine⟨⟨?_,g1,λ_=>⟨?_,?_⟩,λav=>absurd (g3.trans ak) av⟩,?_⟩
    ·show ((lk G S k).foldl (λw p=>iM w p.1) w1).aH.length=_
     rw[g2];simp [w1,h.len]
    ·exact g4.trans Xs
    ·refine ahw.weaken (λm c hm aq=> ?_) (λ_ h=>h)
     show dy ((lk G S k).foldl (λw p=>iM w p.1) w1).aH m c=_;rw[g2];exact nE m c hm aq
    ·rw[GI]
     unfold mu;rw[aQ (g3.trans ak),show ((lk G S k).foldl (λw p=>iM w p.1) w1).aH=w1.aH from g2];have apI:sf (td (pt G S w k) (w.aH.getD k z4))+1<=sf (w.aH.getD k z4):=by
      have e7:=D6 0 cz;have lS:=D6 1 cz;have jm:=D6 2 cz;have Gi:=D6 3 cz;have ao:∀c,c<4->rule G S (dy w.aH) k c<=15:=λc aq=>Xg aN nu aq λn av=>(uA.bound n c av aq).2
      have kY:=ao 0 cz;have kV:=ao 1 cz;have yd:=ao 2 cz;have VO:=ao 3 cz;unfold dy at Mw e7 lS jm Gi;unfold td pt sf rn;unfold dy at*
      simp only [b_] at*
      match dw,og with
      |0,_=>simp only [b_] at *;omega
      |1,_=>simp only [b_] at *;omega
      |2,_=>simp only [b_] at *;omega
      |3,_=>simp only [b_] at *;omega
     have apJ:(List.foldl (λ(w:fU) (p:Nat×Int)=>iM w p.1) w1 (lk G S k)).bu.length<=r.length+(lk G S k).length:=g7;have apK:lG sf w1.aH+sf (w.aH.getD k z4)=lG sf w.aH+sf (td (pt G S w k) (w.aH.getD k z4)):=My;show (List.foldl (λ(w:fU) (p:Nat×Int)=>iM w p.1) w1 (lk G S k)).bu.length+6*lG sf w1.aH+1<=_
     clear_value w1
     omega
   ·rename_i hm
    have IU:∀c,c<4->rule G S (dy w.aH) k c<=dy w.aH k c:=λc aq=>by
     have:¬dy w.aH k c<rule G S (dy w.aH) k c:=λh=>hm (Kk.2 ⟨c,aq,h⟩)
     omega
    refine⟨⟨by simp [h.len],GH,λ_=>⟨Xs,?_⟩,λav=>absurd ak av⟩,?_⟩
    ·refine(uA.Kj (W':=(· ∈r)) aN nu (λm sU GJ=> ?_) (λ⟨c,aq,ad⟩=>absurd (IU c aq) ar)).weaken (λm c hm aq=>nE m c hm aq) (λ_ h=>h)
     rw[aj] at GJ;rcases List.mem_cons.1 GJ with e|e
     ·exact absurd e sU
     ·exact e
    ·rw[GI]
     unfold mu;rw[aQ ak];have Fi:td (pt G S w k) (w.aH.getD k z4)=w.aH.getD k z4:=bM.ext' λc aq=>by
      unfold td pt;rw[iF aq,iF aq];have:=IU c aq;show max (rule G S (dy w.aH) k c) (dy w.aH k c)=dy w.aH k c;omega
     rw[Fi] at My;simp only;rw[Fi];omega
  ·cases hu
theorem qD.settled {S:g_} (aN:S.k3 G.N) {w:fU} (h:qD G S w) (hu:se G S w=none):w.bE=[]/\w.bu=[]/\w.gone=[]/\uG G S (dy w.aH):=by
 unfold se at hu;split at hu
 ·cases hu
 ·rename_i ak
  split at hu
  ·cases hu
  ·rename_i aA
   obtain⟨ad,af⟩:=h.up ak;exact⟨ak,aA,ad,af.full aN λk _ aj=>by
    rw[aA] at aj
    cases aj⟩
theorem qD.Br {S Kq:g_} (aN:S.k3 G.N) {w:fU} (h:qD G S w) (hu:se G S w=none) {k:Nat} (aj:k<G.N) (xU:∀n,n≠k->Kq.jL n=S.jL n/\(∀c,Kq.emit n c=S.emit n c)/\Kq.bZ n=S.bZ n):
  qD G Kq (ja w k (w.aH.getD k z4))/\mu G.N (ja w k (w.aH.getD k z4))+1<=qC G.N:=by
 obtain⟨ad,af,ay,bD⟩:=h.settled aN hu;have hl:(ja w k (w.aH.getD k z4)).bE≠[]:=by
  unfold ja;simp
 refine⟨⟨by simp [ja,h.len],⟨h.wait.len,h.wait.nodup,h.wait.lt,h.wait.is⟩,λe=>absurd e hl,λ_=>⟨af,S,dy w.aH,k,(0,z4),aN,pZ.begin aj h.len bD h.bound xU ad ay⟩⟩,?_⟩;unfold mu;rw[aU hl];have:=GG (ja w k (w.aH.getD k z4));have lf:(ja w k (w.aH.getD k z4)).aH.length=G.N:=by simp [ja,h.len]
 rw[lf] at this;have Jr:(ja w k (w.aH.getD k z4)).bE.length=1:=by
  unfold ja;simp [ad]
 unfold qC;omega
end AE
namespace AE
def mT (bz bT x y z:Nat):Nat:=(z*bT+y)*bz+x
def il (bz k:Nat):Nat:=k%bz
def im (bz bT k:Nat):Nat:=k/bz%bT
def hE (bz bT k:Nat):Nat:=k/bz/bT
section
variable {bz bT bb x y z k:Nat}
theorem Xt (ak:x<bz):il bz (mT bz bT x y z)=x:=by
 unfold il mT;rw[Nat.add_comm,Nat.add_mul_mod_self_right,Nat.mod_eq_of_lt ak]
theorem Xu (ak:x<bz):mT bz bT x y z/bz=z*bT+y:=by
 unfold mT;rw[Nat.add_comm,Nat.add_mul_div_right _ _ ar,Nat.div_eq_of_lt ak,Nat.zero_add]
theorem Xv (ak:x<bz) (bq:y<bT):im bz bT (mT bz bT x y z)=y:=by
 unfold im;rw[Xu ak,Nat.add_comm,Nat.add_mul_mod_self_right,Nat.mod_eq_of_lt bq]
theorem Ph (ak:x<bz) (bq:y<bT):hE bz bT (mT bz bT x y z)=z:=by
 unfold hE;rw[Xu ak,Nat.add_comm,Nat.add_mul_div_right _ _ ar,Nat.div_eq_of_lt bq,Nat.zero_add]
theorem ahx (bz bT k:Nat):mT bz bT (il bz k) (im bz bT k) (hE bz bT k)=k:=by
 unfold mT il im hE;have ad:=Nat.div_add_mod (k/bz) bT;have af:=Nat.div_add_mod k bz;have ay:k/bz/bT*bT+k/bz%bT=k/bz:=by rw[Nat.mul_comm];exact ad
 rw[ay,Nat.mul_comm];exact af
theorem Xw (ak:x<bz) (bq:y<bT) (bI:z<bb):mT bz bT x y z<bz*bT*bb:=by
 unfold mT;have ad:z*bT+y+1<=bb*bT:=by
  have:=Nat.mul_le_mul_right bT (show z+1<=bb from bI);rw[Nat.add_mul] at this;omega
 have af:=Nat.mul_le_mul_right bz ad;rw[Nat.add_mul] at af;have ay:bb*bT*bz=bz*bT*bb:=by rw[Nat.mul_comm bb bT,Nat.mul_assoc,Nat.mul_comm bb bz,<-Nat.mul_assoc,Nat.mul_comm bT bz]
 rw[<-ay];omega
theorem Kr (h:k<bz*bT*bb):il bz k<bz/\im bz bT k<bT/\hE bz bT k<bb:=by
 have ahy:0<bz:=by
  rcases Nat.eq_zero_or_pos bz with e|e
  ·subst e;simp at h
  ·exact e
 have ahz:0<bT:=by
  rcases Nat.eq_zero_or_pos bT with e|e
  ·subst e;simp at h
  ·exact e
 refine⟨Nat.mod_lt _ ahy,Nat.mod_lt _ ahz,?_⟩;unfold hE;rw[Nat.div_div_eq_div_mul];exact Nat.div_lt_of_lt_mul h
end
def uH (bz bT bb k:Nat):Nat->List (Nat×Int)
 |0=>if 0<il bz k then [(mT bz bT (il bz k-1) (im bz bT k) (hE bz bT k),0)] else []
 |1=>if il bz k+1<bz then [(mT bz bT (il bz k+1) (im bz bT k) (hE bz bT k),0)] else []
 |2=>if 0<im bz bT k then [(mT bz bT (il bz k) (im bz bT k-1) (hE bz bT k),0)] else []
 |3=>if im bz bT k+1<bT then [(mT bz bT (il bz k) (im bz bT k+1) (hE bz bT k),0)] else []
 |4=>if 0<hE bz bT k then [(mT bz bT (il bz k) (im bz bT k) (hE bz bT k-1),-1)] else []
 |5=>if hE bz bT k+1<bb then [(mT bz bT (il bz k) (im bz bT k) (hE bz bT k+1),1)] else []
 |_=>[]
def xf (bz bT bb k:Nat):Nat->List (Nat×Int)
 |0=>[]
 |j+1=>xf bz bT bb k j++uH bz bT bb k j
theorem ahA (bz bT bb k j:Nat):(uH bz bT bb k j).length<=1:=by
 unfold uH;split
 all_goals first|(split<;>simp)|simp
theorem Pj (bz bT bb k j:Nat):(xf bz bT bb k j).length<=j:=by
 induction j with
 |zero=>simp [xf]
 |succ j ck=>
  have:=ahA bz bT bb k j;simp only [xf,List.length_append];omega
theorem Xx {bz bT bb k:Nat} {p:Nat×Int}:p∈xf bz bT bb k 6↔p∈uH bz bT bb k 0\/p∈uH bz bT bb k 1\/p∈uH bz bT bb k 2\/p∈uH bz bT bb k 3\/p∈uH bz bT bb k 4\/p∈uH bz bT bb k 5:=by
 simp only [xf,List.mem_append,List.not_mem_nil,false_or,or_assoc]
theorem Ks {bz bT bb k n:Nat} {d:Int} (h:(n,d)∈xf bz bT bb k 6) (aj:k<bz*bT*bb):
  ∃x y z,x<bz/\y<bT/\z<bb/\n=mT bz bT x y z/\
   ((x+1=il bz k/\y=im bz bT k/\z=hE bz bT k/\d=0)\/(x=il bz k+1/\y=im bz bT k/\z=hE bz bT k/\d=0)\/
    (x=il bz k/\y+1=im bz bT k/\z=hE bz bT k/\d=0)\/(x=il bz k/\y=im bz bT k+1/\z=hE bz bT k/\d=0)\/
    (x=il bz k/\y=im bz bT k/\z+1=hE bz bT k/\d= -1)\/(x=il bz k/\y=im bz bT k/\z=hE bz bT k+1/\d=1)):=by
 obtain⟨ad,af,ay⟩:=Kr aj;rw[Xx] at h;rcases h with h|h|h|h|h|h
 all_goals
  simp only [uH] at h;split at h
  ·rename_i aq
   rw[List.mem_singleton] at h;obtain⟨rfl,rfl⟩:=Prod.mk.inj h;refine⟨_,_,_,?_,?_,?_,rfl,?_⟩
   all_goals omega
  ·cases h
theorem ahB {bz bT bb k x y z:Nat} {d:Int} (bI:z<bb) (ak:x<bz) (bq:y<bT)
  (h:(x+1=il bz k/\y=im bz bT k/\z=hE bz bT k/\d=0)\/(x=il bz k+1/\y=im bz bT k/\z=hE bz bT k/\d=0)\/
    (x=il bz k/\y+1=im bz bT k/\z=hE bz bT k/\d=0)\/(x=il bz k/\y=im bz bT k+1/\z=hE bz bT k/\d=0)\/
    (x=il bz k/\y=im bz bT k/\z+1=hE bz bT k/\d= -1)\/(x=il bz k/\y=im bz bT k/\z=hE bz bT k+1/\d=1)):(mT bz bT x y z,d)∈xf bz bT bb k 6:=by
 rw[Xx];simp only [uH];rcases h with ⟨ad,af,ay,rfl⟩|⟨ad,af,ay,rfl⟩|⟨ad,af,ay,rfl⟩|⟨ad,af,ay,rfl⟩|⟨ad,af,ay,rfl⟩|⟨ad,af,ay,rfl⟩
 ·left
  rw[aQ ar,<-ad,<-af,<-ay];simp
 ·right;left
  rw[aQ ar,<-ad,<-af,<-ay];simp
 ·right;right;left
  rw[aQ ar,<-ad,<-af,<-ay];simp
 ·right;right;right;left
  rw[aQ ar,<-ad,<-af,<-ay];simp
 ·right;right;right;right;left
  rw[aQ ar,<-ad,<-af,<-ay];simp
 ·right;right;right;right;right
  rw[aQ ar,<-ad,<-af,<-ay];simp
def ahC (bz bT bb:Nat):oi where
 N:=bz*bT*bb
 sb k:=xf bz bT bb k 6
 top k:=decide (hE bz bT k+1=bb)
 aK k:=bb-1-hE bz bT k
 sc k n d aj h:=by
  obtain⟨x,y,z,ak,bq,bI,rfl,_⟩:=Ks h aj;exact Xw ak bq bI
 W_ k n d aj h e:=by
  obtain⟨x,y,z,ak,bq,bI,av,h⟩:=Ks h aj;rw[e] at av;have ad:il bz k=x:=by rw[av];exact Xt ak
  have af:im bz bT k=y:=by rw[av];exact Xv ak bq
  have ay:hE bz bT k=z:=by rw[av];exact Ph ak bq
  omega
 O7 k n d aj h:=by
  obtain⟨x,y,z,ak,bq,bI,rfl,aZ⟩:=Ks h aj;clear h;obtain⟨db,dr,s7⟩:=Kr aj;have ah:=ahB (k:=mT bz bT x y z) (d:= -d) s7 db dr (by
   rw[Xt ak,Xv ak bq,Ph ak bq];rcases aZ with ⟨a,b,c,rfl⟩|⟨a,b,c,rfl⟩|⟨a,b,c,rfl⟩|⟨a,b,c,rfl⟩|⟨a,b,c,rfl⟩|⟨a,b,c,rfl⟩
   ·exact .inr (.inl ⟨a.symm,b.symm,c.symm,rfl⟩)
   ·exact .inl ⟨a.symm,b.symm,c.symm,rfl⟩
   ·exact .inr (.inr (.inr (.inl ⟨a.symm,b.symm,c.symm,rfl⟩)))
   ·exact .inr (.inr (.inl ⟨a.symm,b.symm,c.symm,rfl⟩))
   ·exact .inr (.inr (.inr (.inr (.inr ⟨a.symm,b.symm,c.symm,rfl⟩))))
   ·exact .inr (.inr (.inr (.inr (.inl ⟨a.symm,b.symm,c.symm,rfl⟩)))))
  rw[ahx] at ah;exact ah
 Xa k n d aj h bc:=by
  obtain⟨x,y,z,ak,bq,bI,rfl,h⟩:=Ks h aj;obtain⟨db,dr,s7⟩:=Kr aj;rw[Ph ak bq];omega
 Xb k:=Pj _ _ _ _ _
end AE
end
end Go.Proofs.YtepcfjbfkedlpaaDoor
namespace Go.Proofs.YtepcfjbfkedlpaaDoor
open Go Go.Proofs Go.RowKit
namespace AE
abbrev mv:aJ:=4
theorem Kt:bd Tryd.prog (sizeOf mv)=some 1:=au
theorem nv:Tryd.prog.underlying 30=some (.slice mv):=au
noncomputable def Ku:TypeInfo:=(Tryd.prog.info? mv).getD default
theorem Pk:Tryd.prog.info? mv=some Ku:=au
theorem Pl:Ku.zero=some (.bool false):=au
theorem Pm:Ku.size=1:=au
abbrev GK:Nat:=1
theorem Pn:Ku.bytes=GK:=au
theorem ahD:(.bool false:J).cells.size=1:=rfl
def iQ (x:Bool):List J:=[.bool x]
theorem l4:∀x,(iQ x).length=1:=λ_=>rfl
theorem Po:∀x,∀u∈iQ x,u.oneCell'=true:=λx u hu=>by
 simp only [iQ,List.mem_cons,List.not_mem_nil,or_false] at hu;subst hu;rfl
abbrev te:aJ:=3
theorem Kv:Tryd.prog.underlying 26=some (.slice te):=au
noncomputable def Kw:TypeInfo:=(Tryd.prog.info? te).getD default
theorem ahE:Tryd.prog.info? te=some Kw:=au
theorem ahF:Kw.zero=some (.int .i64 0):=au
theorem ahG:Kw.size=1:=au
abbrev Pp:Nat:=8
theorem ahH:Kw.bytes=Pp:=au
theorem ahI:(.int .i64 0:J).cells.size=1:=rfl
def p1 (x:Nat):List J:=[.int .i64 ((x:Nat):Int)]
theorem nu:∀x,(p1 x).length=1:=λ_=>rfl
theorem ahJ:∀x,∀u∈p1 x,u.oneCell'=true:=λx u hu=>by
 simp only [p1,List.mem_cons,List.not_mem_nil,or_false] at hu;subst hu;rfl
abbrev p2:aJ:=85
theorem sg:bd Tryd.prog (sizeOf p2)=some 4:=au
theorem BQ:bd Tryd.prog (isAgg p2)=some true:=au
theorem nQ:Tryd.prog.underlying 45=some (.slice p2):=au
noncomputable def Kx:TypeInfo:=(Tryd.prog.info? p2).getD default
theorem Xy:Tryd.prog.info? p2=some Kx:=au
theorem Xz:Kx.zero=some (.agg ⟨[.int .i64 0,.int .i64 0,.int .i64 0,.int .i64 0]⟩):=au
theorem XA:Kx.size=4:=au
abbrev Ky:Nat:=32
theorem XB:Kx.bytes=Ky:=au
theorem ahK:(.agg ⟨[.int .i64 0,.int .i64 0,.int .i64 0,.int .i64 0]⟩:J).cells.size=4:=rfl
def dM (x:bM):List J:=[.int .i64 x.1,.int .i64 x.2.1,.int .i64 x.2.2.1,.int .i64 x.2.2.2]
theorem yG:∀x,(dM x).length=4:=λ_=>rfl
theorem ahL:∀x,∀u∈dM x,u.oneCell'=true:=λx u hu=>by
 simp only [dM,List.mem_cons,List.not_mem_nil,or_false] at hu;rcases hu with rfl|rfl|rfl|rfl<;>rfl
abbrev L.val (x:bM):J:= .agg ⟨dM x⟩
abbrev z':aJ:=89
theorem XC:Tryd.prog.underlying 71=some (.slice z'):=au
def vH (x:Nat×Int×Bool):List J:=[.int .i64 ((x.1:Nat):Int),.int .i64 x.2.1,.bool x.2.2]
theorem XD:∀x,(vH x).length=3:=λ_=>rfl
abbrev Q.val (x:Nat×Int×Bool):J:= .agg ⟨vH x⟩
abbrev z_:aJ:=87
theorem Kz:Tryd.prog.underlying 74=some (.slice z_):=au
def kz (x:Nat×bM):List J:=[.int .i64 ((x.1:Nat):Int),.int .i64 x.2.1,.int .i64 x.2.2.1,.int .i64 x.2.2.2.1,.int .i64 x.2.2.2.2]
theorem KA:∀x,(kz x).length=5:=λ_=>rfl
abbrev eH.val (x:Nat×bM):J:= .agg ⟨kz x⟩
abbrev vI:Bool:=false
abbrev Aa:bM:=z4
end AE
namespace AE
abbrev iN:=Nat×Int×Bool
abbrev az:=Nat×bM
abbrev yH:aJ:=80
abbrev fX:aJ:=34
abbrev xg (l:List J) (n:Nat):Nat->J:=λi=>l.getD (n+i) (.bool false)
def mw (g:List Nat) (w:List Bool) (k:Nat):List Nat:=if w.getD k default=true then g else g++[k]
def nw (w:List Bool) (k:Nat):List Bool:=if w.getD k default=true then w else w.set k true
section
variable {g:List Nat} {w:List Bool} {k:Nat}
theorem XE (h:w.getD k default=true):mw g w k=g:=aQ h
theorem XF (h:¬w.getD k default=true):mw g w k=g++[k]:=aU h
theorem XG (h:w.getD k default=true):nw w k=w:=aQ h
theorem XH (h:¬w.getD k default=true):nw w k=w.set k true:=aU h
theorem KB (w:List Bool) (k:Nat):(nw w k).length=w.length:=by
 unfold nw;split
 ·rfl
 ·exact List.length_set
theorem XI (g:List Nat) (w:List Bool) (k:Nat):(mw g w k).length<=g.length+1:=by
 unfold mw;split
 ·omega
 ·simp
end
def rp (i:Nat) (old x:bM):bM:=rn λc=>if c<i/\0<b_ old c then 0 else b_ x c
section
variable {old x:bM} {k:Nat} {l:List bM}
theorem ahM:rp 0 old x=x:=by
 refine bM.ext' λc aq=> ?_
 unfold rp;rw[iF aq,aU ar]
theorem ahN:rp 4 old x=vF old x:=by
 refine bM.ext' λc aq=> ?_
 unfold rp vF;rw[iF aq,iF aq];simp [aq]
theorem XJ {α:Type} [Inhabited α] {l:List α} {k:Nat} (aj:k<l.length):l.set k (l.getD k default)=l:=by
 rw[dh,fA aj];simp
end
end AE
namespace AE
theorem bH.GL {M M':Mem} {B:Nat} {L L':List b0} (h:bH B M L M' L'):c5 M L M' L':=⟨h.sp,h.keeps,h.fresh⟩
theorem cv.own {M:Mem} {L:List b0} (h:cv M L):bH 0 M L M L:=⟨h,λ_ _ h _=>h,λ_ h=> .inl h,λ_ _=>Nat.zero_le _⟩
theorem c5.lift {M M':Mem} {L nN L' N:List b0} (aw:cv M L) (is:List Nat) (h3:jK L.length is=true) (hp:AE.pick L is=nN) (hl:L'.length=is.length) (t:c5 M nN M' (L'++N)):c5 M L M' (lj L is L'++N):=by
 subst hp;exact(aw.own.put is h3 hl t).GL
theorem c5.trans {M pv oR:Mem} {L eb jE:List b0} (h:c5 M L pv eb) (t:c5 pv eb oR jE):c5 M L oR jE where
 sp:=t.sp
 keeps i o ag av:=t.keeps i o (h.keeps i o ag av) λaf=>by
  rcases h.fresh i af with ay|ay
  ·exact av ay
  ·rw[ag] at ay;cases ay
 fresh b ae:=by
  rcases t.fresh b ae with ad|ad
  ·exact h.fresh b ad
  ·by_cases af:ik L b
   ·exact .inl af
   ·right
    cases ay:M b with
    |none=>rfl
    |some o=>
     have:=h.keeps b o ay af;rw[ad] at this;cases this
theorem c5.refl {M:Mem} {L:List b0} (h:cv M L):c5 M L M L:=h.own.GL
def vJ (L:List b0):b0:=⟨ik L,λM=>cv M L,λ_ h b ae=>h.known b ae,λ_ _ hm h=>h.mono hm⟩
theorem D8 {L:List b0} {b:Nat}:ik [vJ L] b↔ik L b:=nM
theorem cv.packed {M:Mem} {L:List b0} (h:cv M L):cv M [vJ L]:=cv.one h
theorem cv.ahO {M:Mem} {L:List b0} (h:cv M [vJ L]):cv M L:=h.ok 0 _ rfl
theorem c5.packed {M M':Mem} {L L':List b0} (h:c5 M L M' L'):c5 M [vJ L] M' [vJ L']:=
 ⟨h.sp.packed,λi o ag av=>h.keeps i o ag λaf=>av (D8.2 af),λb ae=>(h.fresh b (D8.1 ae)).imp D8.2 id⟩
theorem ahP {L N:List b0} {b:Nat}:ik (vJ L::N) b↔ik (L++N) b:=by
 constructor
 ·rintro ⟨i,R,ag,ae⟩
  cases i with
  |zero=>
   cases ag;obtain⟨j,S,hj,ae⟩:=ae;exact⟨j,S,by rw[List.getElem?_append_left (List.getElem?_eq_some_iff.1 hj).1];exact hj,ae⟩
  |succ i=>exact⟨L.length+i,R,by rw[List.getElem?_append_right ar,Nat.add_sub_cancel_left];exact ag,ae⟩
 ·rintro ⟨i,R,ag,ae⟩
  rcases Nat.lt_or_ge i L.length with h|h
  ·rw[List.getElem?_append_left h] at ag
   exact⟨0,vJ L,rfl,⟨i,R,ag,ae⟩⟩
  ·rw[List.getElem?_append_right h] at ag
   exact⟨i-L.length+1,R,ag,ae⟩
theorem c5.Pq {M M':Mem} {L L' N:List b0} (h:c5 M L M' (L'++N)):c5 M [vJ L] M' (vJ L'::N) where
 sp:=by
  refine⟨λi R ag=> ?_,λi j R S cO ag hj b ae jm=> ?_⟩
  ·cases i with
   |zero=>
    cases ag;exact⟨λi R ag=>h.sp.ok i R (by rw[List.getElem?_append_left (List.getElem?_eq_some_iff.1 ag).1];exact ag),λi j R S cO ag hj=>h.sp.two i j R S cO (by rw[List.getElem?_append_left (List.getElem?_eq_some_iff.1 ag).1];exact ag) (by rw[List.getElem?_append_left (List.getElem?_eq_some_iff.1 hj).1];exact hj)⟩
   |succ i=>exact h.sp.ok (L'.length+i) R (by rw[List.getElem?_append_right ar,Nat.add_sub_cancel_left];exact ag)
  ·have key:∀(j:Nat) (S:b0),N[j]? =some S->∀b,ik L' b->¬S.nL b:=λj S hj b ⟨i,R,ag,ae⟩=>h.sp.two i (L'.length+j) R S (by have:=(List.getElem?_eq_some_iff.1 ag).1;omega) (by rw[List.getElem?_append_left (List.getElem?_eq_some_iff.1 ag).1];exact ag) (by rw[List.getElem?_append_right ar,Nat.add_sub_cancel_left];exact hj) b ae
   cases i with
   |zero=>
    cases ag;cases j with
    |zero=>exact cO rfl
    |succ j=>exact key j S hj b ae jm
   |succ i=>
    cases j with
    |zero=>
     cases hj;exact key i R ag b jm ae
    |succ j=>exact h.sp.two (L'.length+i) (L'.length+j) R S ar (by rw[List.getElem?_append_right ar,Nat.add_sub_cancel_left];exact ag) (by rw[List.getElem?_append_right ar,Nat.add_sub_cancel_left];exact hj) b ae jm
 keeps i o ag av:=h.keeps i o ag λaf=>av (D8.2 af)
 fresh b ae:=(h.fresh b (ahP.1 ae)).imp D8.2 id
theorem KC {α:Type} {P:aR} {f:FuncId} {args:Array J} {w:ax} {e:aJ} {k:Nat} {enc:α->List J} {l:List α} {L:List b0} (aw:cv (aF w) L)
  (h:Calls P f args w λe' w'=>(∃a c,e'= .returned (.slice a l.length c)/\dm w.heap.size (aF w') e k enc (.slice a l.length c) l)/\cb w.heap.size w w'):
  Calls P f args w λe' w'=>(∃y:Option Addr×Nat,e'= .returned (.slice y.1 l.length y.2)/\c5 (aF w) L (aF w') (L++[h2 e k enc (.slice y.1 l.length y.2) l]))/\cb 0 w w':=
 (Gk h).mono λe' w' he=>by
   obtain⟨⟨y,ad,af⟩,ay⟩:=he;exact⟨⟨y,ad,(aw.own.new af).GL⟩,ay⟩
end AE
namespace AE
def p3:List (Nat×J)->Nat->Option J
 |[],_=>none
 |p::r,i=>bif Nat.beq p.1 i then some p.2 else p3 r i
def XK (o:Oper):Oper:={o with guard:=none}
def GM (jJ:Nat->J) (ahQ:List Nat) (ops:Array Oper) (N:Nat) (o:Oper):Bool:=
 match o.guard with
 |none=>true
 |some (j,b)=>ahQ.contains j&&(match jJ j with| .bool b'=>b==b'|_=>false)&&(match ft ops j with|some t=>Nat.blt t N|none=>false)
def BR (P:aR) (N m:Nat) (cd:List Nat) (cs kv:List (Nat×J)) (ops:Array Oper) (dj:aG) (A:a'):List Oper->Nat->List J->Option (List J)
 |[],_,vs=>some vs
 |o::r,i,vs=>bif GM (λj=>vs.getD j cp) (needs ops m o) ops N o then
   (bif cd.contains i then BR P N m cd cs kv ops dj A r (i+1) (vs++[(p3 cs i).getD cp]) else
     match p3 kv i with
     |some v=>BR P N m cd cs kv ops dj A r (i+1) (vs++[v])
     |none=>match hB N ops (λj=>vs.getD j cp) (needs ops m o) dj with
      |some sl=>match yC P (dB .nil sl) A (XK o) with
       |some v=>BR P N m cd cs kv ops dj A r (i+1) (vs++[v])
       |none=>none
      |none=>none)
  else none
def Pr (ops:Array Oper) (cd:List Nat):Bool:=(List.range cd.length).all λb=>(List.range b).all λa=>Dh (zw ops) (cd.getD b 0) (cd.getD a 0)
def BS (P:aR) (N m:Nat) (cd:List Nat) (cs kv:List (Nat×J)):Option bO->Option (aG×List J×aG)
 |some (.draw _ ops s _)=>
  bif uj ops [] m N&&Pr ops cd&&cd.all (λj=>Nat.blt j m) then
   match hB N ops (λ_=>cp) (List.range m) s.sl with
   |some dj=>match BR P N m cd cs kv ops dj s.A (ops.toList.take m) 0 [] with
    |some vs=>match hB N ops (λj=>vs.getD j cp) (List.range m) dj with
     |some Gr=>some (dj,vs,Gr)
     |none=>none
    |none=>none
   |none=>none
  else none
 |_=>none
def oS (P:aR) (N m:Nat) (cd:List Nat) (cs kv:List (Nat×J)) (o:Option bO) (i:Nat):aG:=
 match BS P N m cd cs kv o,(gH o)[i]? with
 |some (dj,vs,_),some op=>match hB N (gH o) (λj=>vs.getD j cp) (needs (gH o) m op) dj with
  |some sl=>sl
  |none=> .nil
 |_,_=> .nil
def BU (P:aR) (N m:Nat) (cd:List Nat) (cs kv:List (Nat×J)) (o:Option bO):b6:={b4 o with sl:=match BS P N m cd cs kv o with|some (_,_,sl)=>sl|none=> .nil}
def XL [a7] (P:aR) (M:Mem) (b3:List b0) (op:Oper) (sl:aG) (v:J):Prop:=
 ∀(a:Act) (w:ax),(∀x:Operand,aL (dB .nil sl x)=true->a.eval x=aI (dB .nil sl x))->(∀i o,M i=some o->¬ik b3 i->w.heap[i]? =some o)->(execOp a.eval op).run P w= .ok (.value (aI v)) w/\∀c,op.op≠.defer c
def xh [a7] {Y:Type} (P:aR) (B:Nat) (M:Mem) (b3:List b0) (ops:Array Oper) (cd:List Nat) (rv:Nat->Y->J) (k:Nat) (op:Oper) (sl:aG) (xi si:Y->List b0):Prop:=
 ∀(a:Act) (w:ax) (K:Act->ax->Prop) (Q:Exit->Act->ax->Prop) (y:Y),(∀x:Operand,aL (dB .nil sl x)=true->a.eval x=aI (dB .nil sl x))->
  (∀(idx i:Nat) (t:Tmp),idx<k->cd[idx]? =some i->ft ops i=some t->a.tmps.getD t undef=rv idx y)->(∀i o,M i=some o->¬ik b3 i->w.heap[i]? =some o)->B<=w.heap.size->cv (aF w) (xi y)->
  (∀fD w',c5 (aF w) (xi y) (aF w') (si fD)->cb 0 w w'->(∀idx,idx<k->rv idx fD=rv idx y)->K (a.put op.dst (rv k fD)) w')->Oper.wpIn (Fr none) 0 P op a w K Q
def KD (P:aR) (N m:Nat) (cd:List Nat) (cs kv:List (Nat×J)) (ops:Array Oper) (dj:aG) (A:a') (i:Nat) (o:Oper) (Jd:List J) (v:J):Prop:=
 GM (λj=>Jd.getD j cp) (needs ops m o) ops N o=true/\(cd.contains i=true->v=(p3 cs i).getD cp)/\(cd.contains i=false->∀u,p3 kv i=some u->v=u)/\
  (cd.contains i=false->p3 kv i=none->∃sl,hB N ops (λj=>Jd.getD j cp) (needs ops m o) dj=some sl/\yC P (dB .nil sl) A (XK o)=some v)
theorem XM {P:aR} {N m:Nat} {cd:List Nat} {cs kv:List (Nat×J)} {ops:Array Oper} {dj:aG} {A:a'}:∀(l:List Oper) (i0:Nat) (vs cF:List J),vs.length=i0->BR P N m cd cs kv ops dj A l i0 vs=some cF->
  cF.length=vs.length+l.length/\cF.take vs.length=vs/\∀i o,l[i]? =some o->KD P N m cd cs kv ops dj A (i0+i) o (cF.take (vs.length+i)) (cF.getD (vs.length+i) cp)
 |[],i0,vs,cF,_,h=>by
  cases h;exact⟨by simp,by simp,λi o ag=>by simp at ag⟩
 |o::r,i0,vs,cF,vl,h=>by
  unfold BR at h;have go:∀v,KD P N m cd cs kv ops dj A i0 o vs v->BR P N m cd cs kv ops dj A r (i0+1) (vs++[v])=some cF->
    cF.length=vs.length+(o::r).length/\cF.take vs.length=vs/\∀i o',(o::r)[i]? =some o'->KD P N m cd cs kv ops dj A (i0+i) o' (cF.take (vs.length+i)) (cF.getD (vs.length+i) cp):=by
   intro v aC h;obtain⟨af,ay,bD⟩:=XM r (i0+1) (vs++[v]) cF (by simp [vl]) h;have hlen:(vs++[v]).length=vs.length+1:=by simp
   rw[hlen] at af ay;have vm:cF.take vs.length=vs:=by
    have:=congrArg (List.take vs.length) ay;rw[List.take_take,Nat.min_eq_left ar] at this;simpa using this
   refine⟨by simp;omega,vm,?_⟩;intro i o' ag
   match i with
   |0=>
    simp only [List.getElem?_cons_zero,cE] at ag;subst ag;simp only [Nat.add_zero];rw[vm];have gF:cF.getD vs.length cp=v:=by
     have:=congrArg (λl=>l[vs.length]?) ay;simp at this;rw[dh,this];rfl
    rw[gF];exact aC
   |i+1=>
    have:=bD i o' (by simpa using ag);rw[hlen] at this;rw[show vs.length+(i+1)=vs.length+1+i by omega,show i0+(i+1)=i0+1+i by omega];exact this
  cases aA:GM (λj=>vs.getD j cp) (needs ops m o) ops N o with
  |false=>rw[aA] at h;cases h
  |true=>
   rw[aA,bx] at h;cases aq:cd.contains i0 with
   |true=>
    rw[aq,bx] at h;exact go _ ⟨aA,λ_=>rfl,λah=>(by rw[aq] at ah;cases ah),λah=>(by rw[aq] at ah;cases ah)⟩ h
   |false=>
    rw[aq,ek] at h;split at h
    ·rename_i v aC
     exact go v ⟨aA,λah=>(by rw[aq] at ah;cases ah),λ_ u hu=>(by rw[aC] at hu;cases hu;rfl),λ_ ah=>(by rw[aC] at ah;cases ah)⟩ h
    ·rename_i hd
     split at h
     ·rename_i sl gw
      split at h
      ·rename_i v aC
       exact go v ⟨aA,λah=>(by rw[aq] at ah;cases ah),λ_ u hu=>(by rw[hd] at hu;cases hu),λ_ _=>⟨sl,gw,aC⟩⟩ h
      ·cases h
     ·cases h
structure vK [a7] {Y:Type} (N:Nat) (ds:List Deferred) (ops:Array Oper) (m:Nat) (cd:List Nat) (vs:List J) (dj:aG) (φ:bV) (rv:Nat->Y->J) (k:Nat) (y:Y) (listed:Array Bool) (a:Act):Prop where
 size:listed.size=ops.size
 down:∀i j,listed.getD i false=true->direct ops i j=true->listed.getD j false=true
 sN:∀i,m<=i->listed.getD i false=false
 defers:a.defers=ds
 mf:a.tmps.size=N
 slot:∀t v,dj.get t=some v->aD φ v (a.tmps.getD t undef)
 val:∀j t,j<m->listed.getD j false=true->ft ops j=some t->aD φ (vs.getD j cp) (a.tmps.getD t undef)
 zX:∀(idx j:Nat) (t:Tmp),idx<k->cd[idx]? =some j->ft ops j=some t->a.tmps.getD t undef=rv idx y
 ord:∀(idx j:Nat),cd[idx]? =some j->(listed.getD j false=true↔idx<k)
section
variable [a7] {Y:Type} {N:Nat} {ds:List Deferred} {ops:Array Oper} {m:Nat} {cd:List Nat} {vs:List J} {dj:aG} {φ:bV} {rv:Nat->Y->J} {k:Nat} {y:Y} {listed:Array Bool} {a:Act}
theorem vK.D0 (h:vK N ds ops m cd vs dj φ rv k y listed a) {jJ:Nat->J} {ks:List Nat} {sl:aG} (Fh:∀j∈ks,j<m/\listed.getD j false=true/\jJ j=vs.getD j cp) (hp:hB N ops jJ ks dj=some sl):fw N ds φ sl a:=
 ⟨h.mf,h.defers,λt v aC=>by
   rcases oI _ _ _ hp t v aC with ⟨j,hj,bc,rfl⟩|⟨_,aA⟩
   ·obtain⟨ad,af,bD⟩:=Fh j hj
    rw[bD];exact h.val j t ad af bc
   ·exact h.slot t v aA⟩
theorem vK.put (h:vK N ds ops m cd vs dj φ rv k y listed a) {i:Nat} {o:Oper} {mg:aG} (eX:hB N ops (λ_=>cp) (List.range m) mg=some dj) (ag:i<m) (hm:m<=ops.size) (ho:ops[i]? =some o)
  (um:∀k,direct ops i k=true->listed.getD k false=true) (mj:∀i j,i<m->j<m->i≠j->∀t,ft ops i=some t->ft ops j≠some t) (b8:∀i t,i<m->ft ops i=some t->t<N)
  {aB:J} (aC:aD φ (vs.getD i cp) aB) {k':Nat} {fD:Y} (e6:∀(idx j:Nat),cd[idx]? =some j->j<m)
  (iY:∀(idx j:Nat) (t:Tmp),idx<k'->cd[idx]? =some j->ft ops j=some t->(if j=i then aB else a.tmps.getD t undef)=rv idx fD)
  (cn:∀(idx j:Nat),cd[idx]? =some j->((j=i\/listed.getD j false=true)↔idx<k')):vK N ds ops m cd vs dj φ rv k' fD (listed.setIfInBounds i true) (a.put o.dst aB):=by
 have kZ:ft ops i=o.dst:=by simp [ft,ho]
 have e9:=Kd (listed:=listed) (i:=i) (by have:=h.size;omega);refine⟨by simpa using h.size,?_,?_,by rw[Act.Dg];exact h.defers,by rw[Act.size_put];exact h.mf,?_,?_,?_,?_⟩
 ·intro j k hj bc
  rw[e9] at hj ⊢;rcases hj with rfl|hj
  ·exact .inr (um k bc)
  ·exact .inr (h.down j k hj bc)
 ·intro j hj
  rw[getD_set_ne false ar];exact h.sN j hj
 ·intro t v pN
  by_cases q8:o.dst=some t
  ·rcases oI _ _ _ eX t v pN with ⟨j,hj,bc,rfl⟩|⟨yb,_⟩
   ·exact .cp _
   ·exact absurd (kZ.trans q8) (yb i (List.mem_range.2 ag))
  ·rw[yE t q8]
   exact h.slot t v pN
 ·intro j t hj hl bc
  by_cases dT:j=i
  ·subst dT
   rw[Act.sM _ _ _ _ (by rw[h.mf];exact b8 j t hj bc),aQ (kZ.symm.trans bc)];exact aC
  ·rw[yE t λah=>mj i j ag hj (Ne.symm dT) t (kZ.trans ah) bc]
   exact h.val j t hj (((e9 j).1 hl).resolve_left dT) bc
 ·intro idx j t Ab hj bc
  have:=iY idx j t Ab hj bc;by_cases dT:j=i
  ·rw[aQ dT] at this
   rw[<-this];rw[dT] at bc;rw[Act.sM _ _ _ _ (by rw[h.mf];exact b8 i t ag bc),aQ (kZ.symm.trans bc)]
  ·rw[aU dT] at this
   rw[yE t λah=>mj i j ag (e6 idx j hj) (Ne.symm dT) t (kZ.trans ah) bc];exact this
 ·intro idx j hj
  rw[e9 j];exact cn idx j hj
end
theorem ahR [a7] {Y:Type} {N:Nat} {ds:List Deferred} {ops:Array Oper} {m:Nat} {cd:List Nat} {vs:List J} {dj:aG} {φ:bV} {rv:Nat->Y->J} {k:Nat} {y:Y} {listed:Array Bool} {a:Act} (h:vK N ds ops m cd vs dj φ rv k y listed a) {i:Nat} {o:Oper} (av:∀j∈needs ops m o,j<m/\listed.getD j false=true/\(vs.take i).getD j cp=vs.getD j cp)
  (aA:GM (λj=>(vs.take i).getD j cp) (needs ops m o) ops N o=true):Region.wanted o (yielded ops a.tmps)=true:=by
 unfold GM at aA;unfold Region.wanted;split at aA
 ·rename_i ahS
  rw[ahS]
 ·rename_i j b ahT
  rw[ahT];simp only [cV] at aA;obtain⟨⟨ad,af⟩,ay⟩:=aA;obtain⟨q1,aE,ca⟩:=av j (by simpa using ad);split at af
  ·rename_i b' vj
   split at ay
   ·rename_i t aK
    have aC:=h.val j t q1 aE aK;rw[<-ca,vj] at aC;have ae:a.tmps.getD t undef= .bool b':=by
     generalize a.tmps.getD t undef=u at aC;cases aC;rfl
    have b8:t<a.tmps.size:=by rw[h.mf];exact Nat.blt_eq.mp ay
    have jm:b=b':=by simpa using af
    have bq:yielded ops a.tmps j=some b':=by
     unfold yielded;have bc:((ops[j]?).bind (·.dst)).bind (a.tmps[·]?)=some (.bool b'):=by
      have:(ops[j]?).bind (·.dst)=some t:=aK;rw[this];simp only [Option.bind_some];rw[fb,Array.getElem?_eq_getElem b8] at ae;rw[Array.getElem?_eq_getElem b8];exact congrArg some ae
     rw[bc]
    dsimp only;rw[bq,jm];exact beq_self_eq_true _
   ·cases ay
  ·cases af
theorem ahU [cH] {P:aR} {N B:Nat} {w0:ax} {Q:Exit->Act->ax->Prop} {M:Mem} {bj:List J} {Y:Type} {bh:Y->List J} {o:Option bO} {m:Nat} {dp cs kv:List (Nat×J)} {L:Nat->Y->List b0} {rv:Nat->Y->J} {du dq:aG} {aV:List bw} {bG:eg} {dx:Mem} {az nO b3:List b0}
  (aN:bH B dx az M nO) (is:List Nat) (h3:jK nO.length is=true) (hp:AE.pick nO is=b3)
  (cK:P.follows .mixedOrders=true) (h:(BS P N m (dp.map (·.1)) cs kv o).isSome=true) (fa:(dp.map (·.1)).Nodup) (ud:Y) (Km:L 0 ud=b3)
  (fZ:∀k i v,(dp.map (·.1))[k]? =some i->p3 cs i=some v->plain v=true/\∀y,rv k y=v)
  (BV:∀i v,p3 kv i=some v->aL v=true/\∃op,(gH o)[i]? =some op/\ @XL (aS M bj) P M b3 op (oS P N m (dp.map (·.1)) cs kv o i) v)
  (iY:∀k i,(dp.map (·.1))[k]? =some i->∃op,(gH o)[i]? =some op/\ @xh (aS M bj) Y P B M b3 (gH o) (dp.map (·.1)) rv k op (oS P N m (dp.map (·.1)) cs kv o i) (L k) (L (k+1)))
  (cR:cq (BU P N m (dp.map (·.1)) cs kv o) du aV=some bG) (dU:uE N (gH o) dp du=some dq) (fV:dp.all (λp=>aL p.2)=true)
  (b1:∀y M' k p,dp[k]? =some p-> @aI (aS M' (bh y)) p.2=rv k y) (hm:∀y M',fj (aS M bj) (aS M' (bh y)) bG)
  (rest:∀y M',c5 M b3 M' (L dp.length y)->∀aW w,@Here (aS M' (bh y)) _ N {sl:=dq,ms:=[],A:=dd aV} B w0 aW w->wpListIn (Fr none) 0 P (gH o) (dK P (f_ o) Q) (yD m o) aW w)
  (av:cH.dV<=aV.length:=by first|exact Nat.zero_le _|exact gv rfl) (aq:hV (b4 o).A aV 0:=by exact gn rfl): @e_ (aS M bj) _ P N B w0 Q o:=by
 letI:=aS M bj;obtain⟨⟨dj,vs,Gr⟩,bc⟩:=Option.isSome_iff_exists.1 h;have eB:=bc;unfold BS at bc;split at bc
 ·rename_i id ops s ks
  cases ae:(uj ops [] m N&&Pr ops (dp.map (·.1))&&(dp.map (·.1)).all (λj=>Nat.blt j m)) with
  |false=>rw[ae] at bc;cases bc
  |true=>
   rw[ae,bx] at bc;simp only [cV] at ae;obtain⟨⟨hs,z1⟩,e6⟩:=ae;have e6:∀j∈dp.map (·.1),j<m:=λj hj=>Nat.blt_eq.mp (List.all_eq_true.1 e6 j hj)
   obtain⟨zx,oa,mj,b8,rV,oJ,vo⟩:=Di hs;have Ps:∀(idx j:Nat),(dp.map (·.1))[idx]? =some j->j<m:=λidx j hj=>e6 j (List.mem_of_getElem? hj)
   have ahV:∀b a Pt Pu,a<b->(dp.map (·.1))[b]? =some Pt->(dp.map (·.1))[a]? =some Pu->Dh (zw ops) Pt Pu=true:=λb a Pt Pu Pv ae ha=>by
    unfold Pr at z1;have ad:=List.all_eq_true.1 z1 b (List.mem_range.2 (List.getElem?_eq_some_iff.1 ae).1);have af:=List.all_eq_true.1 ad a (List.mem_range.2 Pv);rw[dh,dh,ae,ha] at af;exact af
   split at bc
   ·rename_i oP eX
    split at bc
    ·rename_i cF n0
     split at bc
     ·rename_i Gt FZ
      simp only [cE,Prod.mk.injEq] at bc;obtain⟨rfl,rfl,rfl⟩:=bc;have O1:∀i o,i<m->ops[i]? =some o->KD P N m (dp.map (·.1)) cs kv ops oP s.A i o (cF.take i) (cF.getD i cp):=by
       intro i o ag ho;have:=(XM _ 0 [] _ rfl n0).2.2 i o (by rw[List.getElem?_take,aQ ag];simpa using ho);simpa using this
      refine⟨_,rfl,λa w ah=> ?_⟩;have aZ:Here N s B w0 a {w with drawn:=w.drawn+1}:=ah.quiet ⟨⟨rfl,rfl,rfl,b2 _,λ_ _=>rfl⟩,b2 _⟩;refine wpIn_region_any cK ?_;have yF:∀i o,M i=some o->({w with drawn:=w.drawn+1}:ax).heap[i]? =some o:=aZ.mN;generalize ({w with drawn:=w.drawn+1}:ax)=iL at aZ yF;obtain⟨⟨φ,ds,q1,aE,ca,ey,hh⟩,kT,oG⟩:=aZ;have ahW:∀i,ik b3 i->M i≠none:=λi ag=>by
       subst hp;exact(aN.sp.pick is h3).known i ag
      have w6:∀{w:ax} {L':List b0},c5 (aF iL) b3 (aF w) L'->∀b e,φ b=some e->w.heap[e.bk]? =iL.heap[e.bk]? :=λ{w L'} hl b e ae=>by
       obtain⟨eK,_,_,q⟩:=ca.eo b e ae;have b8:=fL.lt q;have ay:aF iL e.bk=some (iL.heap[e.bk]):=Array.getElem?_eq_getElem b8;have bD:=hl.keeps e.bk _ ay λaO=>by
        cases Kg:M e.bk with
        |none=>exact ahW _ aO Kg
        |some tT=>
         obtain⟨_,dk⟩:=ca.df e.bk tT Kg;exact dk b e ae rfl
       rw[Array.getElem?_eq_getElem b8];exact bD
      have XO:∀{w:ax} {L':List b0},c5 (aF iL) b3 (aF w) L'->∀i o,M i=some o->¬ik b3 i->w.heap[i]? =some o:=λ{w L'} hl i o ag aO=>hl.keeps i o (yF i o ag) aO
      have uo:∀{k:Nat} {y:Y} {listed:Array Bool} {a:Act},vK N ds ops m (dp.map (·.1)) cF oP φ rv k y listed a->¬(∀i,i<m->listed.getD i false=true)->Region.ready .any ops listed≠[]/\∀i∈Region.ready .any ops listed,i<m/\listed.getD i false=false/\i<ops.size:=by
       intro k y listed a bg lB;obtain⟨i0,vl⟩:=Classical.not_forall.1 lB;obtain⟨Ds,q9⟩:=Classical.not_imp.1 vl;have q9:listed.getD i0 false=false:=by simpa using q9
       refine⟨?_,λi ag=> ?_⟩
       ·have key:∀n i,i<n->i<m->listed.getD i false=false->∃k,k∈Region.ready .any ops listed:=by
         intro n
         induction n with
         |zero=>intro i ag;omega
         |succ n FB=>
          intro i ag ml FC;by_cases hp:∀k,direct ops i k=true->listed.getD k false=true
          ·refine⟨i,mem_ready.2 ⟨by rw[qt (by have:=bg.size;omega)];exact FC,ops[i]'(by omega),Array.getElem?_eq_getElem _,λe he ae=>hp _ ?_⟩⟩
           have ho:ops[i]? =some (ops[i]'(by omega)):=Array.getElem?_eq_getElem _;simp only [direct,ho];exact Array.any_eq_true'.2 ⟨e,he,by simp [ae]⟩
          ·obtain⟨k,aj⟩:=Classical.not_forall.1 hp
           obtain⟨bc,x_⟩:=Classical.not_imp.1 aj;have:=oJ i k ar bc;exact FB k ar ar (by simpa using x_)
        obtain⟨k,aj⟩:=key (i0+1) i0 ar Ds q9;intro h;rw[h] at aj;cases aj
       ·obtain⟨sT,o,ho,_⟩:=mem_ready.1 ag
        have kR:i<ops.size:=(Array.getElem?_eq_some_iff.1 ho).1;have uq:listed.getD i false=false:=by rw[<-qt (by have:=bg.size;omega)];exact sT
        refine⟨?_,uq,kR⟩;rcases Nat.lt_or_ge i m with h|h
        ·exact h
        ·exfalso
         rcases vo i i0 kR h ar with ⟨ya,_⟩|ha
         ·cases ya
         ·have:=ha listed bg.down (qs ag)
          rw[q9] at this;cases this
      have tail:∀(bm:Nat) (listed:Array Bool) (a:Act) (w:ax) (k:Nat) (y:Y),vK N ds ops m (dp.map (·.1)) cF oP φ rv k y listed a->k<=dp.length->c5 (aF iL) b3 (aF w) (L k y)->cb 0 iL w->q6 listed<=bm->(∀i,i<m->listed.getD i false=true)->wpAnyIn (Fr none) 0 P .any ops (dK P ks Q) bm listed a w:=by
       intro bm listed a w k y bg hd jD mF aO lB;have aj:k=dp.length:=by
        rcases Nat.lt_or_ge k dp.length with b8|ko
        ·exfalso
         have Ac:k<(dp.map (·.1)).length:=by rw[List.length_map];exact b8
         have e:=fA Ac;have:=(bg.ord k _ e).1 (lB _ (Ps k _ e));omega
        ·omega
       subst aj;refine Ny oJ (λi j ag hj dT=>(vo i j ag ar dT).resolve_left ar) bm m listed a w (b2 _) bg.size (λi=> ?_) aO ?_
       ·by_cases ag:i<m
        ·rw[lB i ag];simp;omega
        ·rw[bg.sN i ar];simp;omega
       ·obtain⟨M',t1,t2⟩:=WR aN is h3 hp yF oG jD mF
        have yh:fw N ds φ Gt a:=bg.D0 (λj hj=>⟨List.mem_range.1 hj,lB j (List.mem_range.1 hj),rfl⟩) FZ;have cP:BU P N m (dp.map (·.1)) cs kv (some (.draw id ops s ks))={s with sl:=Gt}:=by
         unfold BU;rw[eB];rfl
        have lD:Here N (BU P N m (dp.map (·.1)) cs kv (some (.draw id ops s ks))) B w0 a iL:=by
         rw[cP];exact⟨⟨φ,ds,q1,yh,ca,ey,hh⟩,kT,oG⟩
        have gZ:=Here.OD (vals':=bh y) cR (hm y _) t2 av (by rw[cP];exact aq) lD;have aj:∀p∈dp,aL p.2=true/\∀t,ft ops p.1=some t->a.tmps.getD t undef= @aI (aS M' (bh y)) p.2:=λp hp=>⟨List.all_eq_true.1 fV p hp,λt aK=>by
         obtain⟨idx,Ab,e⟩:=List.mem_iff_getElem.1 hp;have e2:dp[idx]? =some p:=by rw[fA Ab,e]
         rw[b1 y _ idx p e2]
         exact bg.zX idx p.1 t Ab (by rw[List.getElem?_map,e2];rfl) aK⟩
        exact rest y M' t1 a w (@Here.O0 (aS M' (bh y)) _ N B w0 w a ops [] (dd aV) dp du dq gZ aj dU)
      have main:∀(bm:Nat) (listed:Array Bool) (a:Act) (w:ax) (k:Nat) (y:Y),vK N ds ops m (dp.map (·.1)) cF oP φ rv k y listed a->k<=dp.length->c5 (aF iL) b3 (aF w) (L k y)->cb 0 iL w->q6 listed<=bm->wpAnyIn (Fr none) 0 P .any ops (dK P ks Q) bm listed a w:=by
       intro bm
       induction bm with
       |zero=>
        intro listed a w k y bg hd jD mF aO;refine tail 0 listed a w k y bg hd jD mF aO λi ag=> ?_
        cases h:listed.getD i false with
        |true=>rfl
        |false=>
         exfalso;have:=x6 (i:=i) (listed:=listed) (by have:=bg.size;omega) (by rw[qt (by have:=bg.size;omega)];exact h);omega
       |succ bm ck=>
        intro listed a w k y bg hd jD mF aO;by_cases lB:∀i,i<m->listed.getD i false=true
        ·exact tail (bm+1) listed a w k y bg hd jD mF aO lB
        ·obtain⟨kV,yd⟩:=uo bg lB
         refine⟨λaM=>absurd aM kV,λi ag=> ?_⟩;obtain⟨ml,uq,kR⟩:=yd i ag;have ho:ops[i]? =some ops[i]:=Array.getElem?_eq_getElem kR;have Vr:=x6 (i:=i) (listed:=listed) (by have:=bg.size;omega) (mem_ready.1 ag).1;have ahX:∀j∈needs ops m ops[i],j<m/\listed.getD j false=true/\(cF.take i).getD j cp=cF.getD j cp:=λj hj=>by
          have r2:=rV i _ ml ho j hj;have dT:=oJ i j kR r2;exact⟨ar,qs ag j r2,by simp only [dh,List.getElem?_take,aQ dT]⟩
         have Gu:∀{jJ:Nat->J} {sl:aG},(∀j,j<i->jJ j=cF.getD j cp)->hB N ops jJ (needs ops m ops[i]) oP=some sl->fw N ds φ sl a:=λ{jJ sl} vj gw=>bg.D0 (λj hj=>by
          have r2:=rV i _ ml ho j hj;have dT:=oJ i j kR r2
          exact⟨ar,qs ag j r2,vj j dT⟩) gw
         obtain⟨aA,w4,ym,ahY⟩:=O1 i _ ml ho;have hw:=ahR bg ahX aA;have oK:∀x:Operand,aL (dB .nil (oS P N m (dp.map (·.1)) cs kv (some (.draw id ops s ks)) i) x)=true->a.eval x=aI (dB .nil (oS P N m (dp.map (·.1)) cs kv (some (.draw id ops s ks)) i) x):=λx k2=>by
          cases pW:hB N ops (λj=>cF.getD j cp) (needs ops m ops[i]) oP with
          |some sl=>
           have e:oS P N m (dp.map (·.1)) cs kv (some (.draw id ops s ks)) i=sl:=by
            unfold oS;rw[eB,show (gH (some (.draw id ops s ks)))[i]? =some ops[i] from ho];show (match hB N ops (λj=>cF.getD j cp) (needs ops m ops[i]) oP with|some sl=>sl|none=> .nil)=sl;rw[pW]
           rw[e] at k2 ⊢;exact aD.ig _ k2 (gq (hT φ) (Gu (λ_ _=>rfl) pW).get x)
          |none=>
           have e:oS P N m (dp.map (·.1)) cs kv (some (.draw id ops s ks)) i= .nil:=by
            unfold oS;rw[eB,show (gH (some (.draw id ops s ks)))[i]? =some ops[i] from ho];show (match hB N ops (λj=>cF.getD j cp) (needs ops m ops[i]) oP with|some sl=>sl|none=> .nil)= .nil;rw[pW]
           rw[e] at k2 ⊢;exact aD.ig (φ:=φ) _ k2 (gq (hT φ) (λt v h=>by cases h) x)
         unfold wpOpIn;simp only [ho];rw[aQ hw];cases ak:(dp.map (·.1)).contains i with
         |false=>
          have XP:∀(idx j:Nat),(dp.map (·.1))[idx]? =some j->j≠i:=λidx j hj e=>by
           have:(dp.map (·.1)).contains i=true:=by
            rw[List.contains_iff_mem,<-e];exact List.mem_of_getElem? hj
           rw[ak] at this;cases this
          have fM:∀aB,aD φ (cF.getD i cp) aB->vK N ds ops m (dp.map (·.1)) cF oP φ rv k y (listed.setIfInBounds i true) (a.put ops[i].dst aB):=λaB aC=>bg.put eX ml zx ho (qs ag) mj b8 aC Ps
           (λidx j t ad af ay=>by rw[aU (XP idx j af)];exact bg.zX idx j t ad af ay) (λidx j af=>⟨λah=>(bg.ord idx j af).1 (ah.resolve_left (XP idx j af)),λah=> .inr ((bg.ord idx j af).2 ah)⟩)
          cases Pw:p3 kv i with
          |some v=>
           obtain⟨qp,op,cm,Gv⟩:=BV i v Pw;have Gw:op=ops[i]:=by
            have e:(gH (some (.draw id ops s ks)))[i]? =ops[i]? :=rfl;rw[e,ho] at cm;exact(Option.some.inj cm).symm
           subst Gw;obtain⟨g1,g4⟩:=Gv a w oK (XO jD);refine⟨λ_ _=>trivial,?_⟩;rw[Oper.semAt_eq _ _ _ g4,g1,Oper.uponIn_value];exact ck _ _ w k y (fM _ (by rw[ym ak v Pw];exact aD.vg φ v qp)) hd jD mF ar
          |none=>
           obtain⟨sl,gw,aC⟩:=ahY ak Pw;have yh:=Gu (λj dT=>by simp only [dh,List.getElem?_take,aQ dT]) gw;obtain⟨aB,g1,g2,g3,g4⟩:=W5 (w2:=w) ca (w6 jD) (gq (hT φ) yh.get) aC;have g1:(execOp a.eval ops[i]).run P w= .ok (.value aB) w:=g1;have g4:∀c,ops[i].op≠.defer c:=g4;refine⟨λ_ _=>trivial,?_⟩;rw[Oper.semAt_eq _ _ _ g4,g1,Oper.uponIn_value];exact ck _ _ w k y (fM _ g2) hd jD mF ar
         |true=>
          have mG:i∈dp.map (·.1):=List.contains_iff_mem.1 ak;obtain⟨idx,Ab,e0⟩:=List.mem_iff_getElem.1 mG;have e1:(dp.map (·.1))[idx]? =some i:=by rw[fA Ab,e0]
          have r1:k=idx:=by
           rcases Nat.lt_trichotomy k idx with b8|heq|Dl
           ·exfalso
            have mr:k<(dp.map (·.1)).length:=by omega
            have e2:=fA mr;have ha:=ahV idx k i _ b8 e1 e2;have:=Vc i kR _ ha listed bg.down (qs ag);have:=(bg.ord k _ e2).1 this;omega
           ·exact heq
           ·exfalso
            have:=(bg.ord idx i e1).2 Dl;rw[uq] at this;cases this
          subst r1;obtain⟨op,cm,Gv⟩:=iY k i e1;have Gw:op=ops[i]:=by
           have e:(gH (some (.draw id ops s ks)))[i]? =ops[i]? :=rfl;rw[e,ho] at cm;exact(Option.some.inj cm).symm
          subst Gw;have mr:k<dp.length:=by rw[List.length_map] at Ab;exact Ab
          refine Gv a w _ _ y oK (λidx j t ad af ay=>bg.zX idx j t ad af ay) (XO jD) (Nat.le_trans oG mF.size) jD.sp λfD w' cJ dk fQ=> ?_
          have XQ:∀(qE:Nat),(dp.map (·.1))[qE]? =some i->qE=k:=λqE af=>(List.getElem?_inj (List.getElem?_eq_some_iff.1 af).1 fa).1 (af.trans e1.symm)
          have ahZ:vK N ds ops m (dp.map (·.1)) cF oP φ rv (k+1) fD (listed.setIfInBounds i true) (a.put ops[i].dst (rv k fD)):=by
           refine bg.put eX ml zx ho (qs ag) mj b8 ?_ Ps (λqE j t ad af ay=> ?_) (λqE j af=> ?_)
           ·rw[w4 ak]
            cases Bm:p3 cs i with
            |none=>exact .cp _
            |some v=>
             obtain⟨gV,gO⟩:=fZ k i v e1 Bm;rw[gO fD];exact aD.kb φ v gV
           ·by_cases dT:j=i
            ·rw[aQ dT]
             rw[dT] at af;rw[XQ qE af]
            ·rw[aU dT]
             have Ac:qE<k:=by
              rcases Nat.lt_or_ge qE k with aZ|aZ
              ·exact aZ
              ·exfalso
               have:qE=k:=by omega
               subst this;rw[e1] at af;cases af;exact dT rfl
             rw[fQ qE Ac];exact bg.zX qE j t Ac af ay
           ·constructor
            ·rintro (dT|hl)
             ·rw[dT] at af
              rw[XQ qE af];omega
             ·have:=(bg.ord qE j af).1 hl
              omega
            ·intro Ac
             rcases Nat.lt_or_ge qE k with aZ|aZ
             ·exact .inr ((bg.ord qE j af).2 aZ)
             ·have:qE=k:=by omega
              subst this;rw[e1] at af;cases af;exact .inl rfl
          exact ck _ _ w' (k+1) fD ahZ ar (jD.trans cJ) (mF.trans dk) ar
      have aO:∀i,(Array.replicate ops.size false).getD i false=false:=λi=>by
       rw[fb,Array.getElem?_replicate];split<;>rfl
      have yI:c5 (aF iL) b3 (aF iL) (L 0 ud):=by
       rw[Km];exact c5.refl (aN.at is h3 hp yF)
      refine main ops.size _ a iL 0 ud ⟨by simp,λi j ag=>absurd ag (by rw[aO];simp),λi _=>aO i,aE.defers,aE.size,λt v aC=> ?_,λj t _ hl=>absurd hl (by rw[aO];simp),λidx j t b8=>absurd b8 (Nat.not_lt_zero _),λidx j _=>⟨λhl=>absurd hl (by rw[aO];simp),λb8=>absurd b8 (Nat.not_lt_zero _)⟩⟩ (Nat.zero_le _) yI (cb.refl _ _) ?_
      ·rcases oI _ _ _ eX t v aC with ⟨j,hj,bc,rfl⟩|⟨_,aA⟩
       ·exact .cp _
       ·exact aE.get t v aA
      ·unfold q6
       exact Nat.le_trans List.count_le_length (by simp)
     ·cases bc
    ·cases bc
   ·cases bc
 ·cases bc
end AE
namespace AE
theorem XR {l:List J} {i:Nat} {d:J}:(⟨l⟩:Array J).getD i d=l.getD i d:=by
 simp [fb,dh]
def GN:List J->Nat->Nat->Bool
 |[],_,_=>true
 |v::r,lI,i=>(Nat.beq i lI||plain v)&&GN r lI (i+1)
theorem XS:∀(l:List J) (lI i0:Nat),GN l lI i0=true->∀i v,l[i]? =some v->i0+i≠lI->plain v=true
 |[],_,_,_,i,v,ag,_=>by simp at ag
 |x::r,lI,i0,h,i,v,ag,cO=>by
  unfold GN at h;simp only [cV,Bool.or_eq_true] at h
  match i with
  |0=>
   simp only [List.getElem?_cons_zero,cE] at ag;subst ag;exact h.1.resolve_left λe=>cO (by have:=cA e;omega)
  |i+1=>exact XS r lI (i0+1) h.2 i v (by simpa using ag) ar
def KE (o:Option bO) (b t lI:Nat):Option (List J×Nat×Nat×List J):=
 match o with
 |some (.oper _ _ _ s _)=>match s.A.bl.get b with
  |some k=>match k.obj with
   | .cells cs=>bif Nat.beq k.eF 0&&(Nat.beq k.cN b&& !k.ro) then match s.sl.get t with
     |some (.agg ⟨fT⟩)=>match fT[lI]? with
      |some (.slice (some ⟨b',0,none⟩) n c)=>bif Nat.beq b' b&&GN fT lI 0 then some (cs,n,c,fT) else none
      |_=>none
     |_=>none
     else none
   |_=>none
  |none=>none
 |_=>none
theorem Here.ah0 [cH] {α:Type} {M:Mem} {bj:List J} {bh:Nat->List J} {N B:Nat} {st:b6} {w0 w:ax} {a:Act} {sl dH:aG} {l:List bw} {bG:eg} {b t q n c eK:Nat} {k:hR} {cs:List J} {enc:α->List J} {xs:List α} {fT:List J} {lI:Nat}
  (x9:∀x,(enc x).length=eK) (BJ:xs.length=n) (fq:0<n) (h9:n<=c) (ah: @Here (aS M bj) _ N st B w0 a w) (aj:st.A.bl.get b=some k) (fo:k.obj= .cells cs) (Gg:k.eF=0) (nZ:k.cN=b) (fZ:dP cs=true) (pW: @ew (aS M bj) cs=xs.flatMap enc) (ae:l.length<=b)
  (yB:st.sl.get t=some (.agg ⟨fT⟩)) (mJ:fT[lI]? =some (.slice (some ⟨b,0,none⟩) n c)) (fV:∀i v,fT[i]? =some v->i≠lI->plain v=true) (cR:cq st sl l=some bG) (hm:∀M' g,fj (aS M bj) (aS M' (bh g)) bG) (e9:bR.set (.agg ⟨fT.set lI (al q)⟩) depth sl t=some dH) (aZ:∀g,lX (bh g) q= .slice (some ⟨g,0,none⟩) n c)
  (av:cH.dV<=l.length) (aq:hV st.A l 0):
  ∃g M',cu M' eK enc (.slice (some ⟨g,0,none⟩) n c) xs/\B<=g/\M' g≠none/\hk M M' none/\M g=none/\ @Here (aS M' (bh g)) _ N {sl:=dH,ms:=[],A:=dd l} B w0 a w:=by
 obtain⟨⟨φ,ds,ad,af,ay,bD,fK⟩,cD,cI⟩:=ah;have CV:= @fw.get (aS M bj) _ _ _ _ _ af t _ yB;generalize eS:a.tmps.getD t undef=ah1 at CV;obtain⟨GO,rfl,cl,XT⟩:∃GO,ah1= .agg GO/\fT.length=GO.size/\∀i,i<fT.length-> @aD (aS M bj) φ (fT.getD i undef) (GO.getD i undef):=by
  cases CV with
  |agg _ cs' g1 g2=>exact⟨cs',rfl,by simpa using g1,λi ag=>by simpa using g2 i (by simpa using ag)⟩
 have kp:lI<fT.length:=(List.getElem?_eq_some_iff.1 mJ).1;have aC:=XT lI kp;rw[getD_some mJ] at aC;generalize hp:GO.getD lI undef=WV at aC;cases aC with
 |iH _ _=>omega
 |ib _ _ _ he aw _ _=>
  obtain⟨db,cJ,dk,fQ⟩:= @bU.eo (aS M bj) _ _ _ ay b _ he;rw[aj] at cJ;cases cJ;omega
 |ia _ _ he=>
  rename_i e;obtain⟨db,cJ,dk,fQ⟩:= @bU.eo (aS M bj) _ _ _ ay b e he;rw[aj] at cJ;cases cJ;unfold fL at fQ;rw[fo] at fQ;obtain⟨c',iW,g1,g2,g3,g4,kS⟩:=fQ;obtain⟨g6,g7⟩:=g3.2 Gg;have sY:M e.bk=none:=by
   cases ag:M e.bk with
   |none=>rfl
   |some o=>exact absurd rfl ((@bU.df (aS M bj) _ _ _ ay e.bk o ag).2 b e he)
  let M':Mem:=λi=>if i=e.bk then some (.cells c' k.ty iW) else M i
  have qB:M' e.bk=some (.cells c' k.ty iW):=aQ rfl;have uA:∀i o,M i=some o->M' i=some o:=λi o ag=>by
   show (if i=e.bk then _ else M i)=some o;rw[aU (λh=>by rw[h,sY] at ag;cases ag)];exact ag
  have j4:c'.toList=xs.flatMap enc:=by
   rw[<-pW];refine @aD.x4 (aS M bj) φ cs c'.toList fZ (by simp [g7]) λi ag=> ?_
   have:=g4 i ag;rw[g6,Nat.zero_add] at this;simpa [fb] using this
  have mR:=cR;unfold cq at mR;have Gh:∀b' x,l[b']? =some x->∃eK,st.A.bl.get b'=some eK/\eK.cN=b':=λb' x ak=>by
   split at mR
   ·cases hs:zH l with
    |false=>rw[hs] at mR;cases mR
    |true=>
     rw[hs,bx] at mR;obtain⟨eA,vt,_,bq,_⟩:=uw mR;obtain⟨eK,o,cJ,dk,_⟩:=DH l 0 bq b' x ak;rw[Nat.zero_add] at cJ dk;exact⟨eK,cJ,dk⟩
   ·cases mR
  have aA:=Here.OQ (s2:=aS M' (bh e.bk)) cR (hm M' e.bk) ad af ay bD fK cD cI (λi o ag=>by
   by_cases ql:i=e.bk
   ·subst ql
    have:some (Obj.cells c' k.ty iW)=some o:=qB.symm.trans ag;cases this;refine⟨g1,λb' e' dR oH heq=> ?_⟩;obtain⟨eK,q1,aE⟩:=Gh b' _ (fA dR);exact @bU.apart (aS M bj) _ _ _ ay b' e' eK b e k oH he q1 aj (by rw[aE,nZ];omega) heq
   ·have lv:M i=some o:=by
     have:(if i=e.bk then some (Obj.cells c' k.ty iW) else M i)=some o:=ag
     rwa [aU ql] at this
    obtain⟨q1,aE⟩:= @bU.df (aS M bj) _ _ _ ay i o lv
    exact⟨q1,λb' e' _ oH=>aE b' e' oH⟩) av aq
  have lC:cu M' eK enc (.slice (some ⟨e.bk,0,none⟩) n c) xs:=by
   subst BJ;refine .mk qB h9 λi x ak j u hu=> ?_
   have:=zN x9 xs i x ak j u hu;rw[<-j4] at this;rw[Nat.zero_add];simpa using this
  refine⟨e.bk,M',lC,bD b e he,(by rw[qB];simp),λi o ag _=>uA i o ag,sY,?_⟩;obtain⟨⟨fh,DY,gV,gO,pc,q7,sR⟩,Dp,Bd⟩:=aA;letI:=aS M' (bh e.bk);refine⟨⟨fh,DY,gV,⟨gO.size,gO.defers,λda aB mh=> ?_⟩,pc,q7,sR⟩,Dp,Bd⟩;rw[bR.nY _ _ _ _ _ _ e9] at mh;split at mh
  ·rename_i aK
   cases mh;subst aK;rw[eS];refine .agg _ _ (by simpa using cl) λi ag=> ?_
   have D9:i<fT.length:=by simpa using ag
   by_cases n7:i=lI
   ·subst n7
    have p4:(⟨fT.set i (al q)⟩:Array J).getD i undef=al q:=by
     rw[XR,dh,List.getElem?_set_self D9];rfl
    rw[p4,hp];have:=aD.sym (φ:=fh) q;have o8:a7.σ q=Value.slice (some ⟨e.bk,0,none⟩) n c:=aZ e.bk;rw[o8] at this;rw[g6,Nat.zero_add];exact this
   ·have e:(⟨fT.set lI (al q)⟩:Array J).getD i undef=fT.getD i undef:=by
     rw[XR,dh,dh,List.getElem?_set_ne (Ne.symm n7)]
    rw[e];have BW:fT[i]? =some (fT.getD i undef):=by
     rw[fA D9,dh,fA D9];rfl
    have qp:=fV i _ BW n7;have xQ:=XT i D9;have XU:= @aD.kU (aS M bj) _ _ _ qp xQ;rw[XU];exact aD.kb fh _ qp
  ·exact gO.get da aB mh
theorem XV [cH] {α:Type} {P:aR} {N B:Nat} {w0:ax} {Q:Exit->Act->ax->Prop} {M:Mem} {bj:List J} {bh:Nat->List J} {o:Option bO} {sl dH:aG} {l:List bw} {bG:eg} {b t q n c eK:Nat} {cs:List J} {enc:α->List J} {xs:List α} {fT:List J} {lI:Nat}
  (h:KE o b t lI=some (cs,n,c,fT)) (x9:∀x,(enc x).length=eK) (BJ:xs.length=n) (fq:0<n) (h9:n<=c) (fZ:dP cs=true) (pW: @ew (aS M bj) cs=xs.flatMap enc) (ae:l.length<=b)
  (cR:cq (b4 o) sl l=some bG) (hm:∀M' g,fj (aS M bj) (aS M' (bh g)) bG) (e9:bR.set (.agg ⟨fT.set lI (al q)⟩) depth sl t=some dH) (aZ:∀g,lX (bh g) q= .slice (some ⟨g,0,none⟩) n c)
  (rest:∀M' g,cu M' eK enc (.slice (some ⟨g,0,none⟩) n c) xs->B<=g->M' g≠none->hk M M' none->M g=none-> @e_ (aS M' (bh g)) _ P N B w0 Q (mq {sl:=dH,ms:=[],A:=dd l} o))
  (av:cH.dV<=l.length:=by first|exact Nat.zero_le _|exact gv rfl) (aq:hV (b4 o).A l 0:=by exact gn rfl): @e_ (aS M bj) _ P N B w0 Q o:=by
 unfold KE at h;split at h
 ·rename_i op r ops s ks
  split at h
  ·rename_i k aj
   split at h
   ·rename_i cs' fo
    cases jm:(Nat.beq k.eF 0&&(Nat.beq k.cN b&& !k.ro)) with
    |false=>rw[jm] at h;cases h
    |true=>
     rw[jm,bx] at h;simp only [cV] at jm;split at h
     ·rename_i ah2 yB
      split at h
      ·rename_i b' fS c' mJ
       cases pa:(Nat.beq b' b&&GN ah2 lI 0) with
       |false=>rw[pa] at h;cases h
       |true=>
        rw[pa,bx] at h;simp only [cV] at pa;cases h;have Gi:=cA pa.1;subst Gi;refine⟨_,rfl,λa w ah=> ?_⟩;obtain⟨g,M',q1,aE,ca,ey,hh,kT⟩:=Here.ah0 x9 BJ fq h9 ah aj fo (cA jm.1) (cA jm.2.1) fZ pW ae yB mJ (λi v ag cO=>XS _ lI 0 pa.2 i v ag ar) cR hm e9 aZ av aq;obtain⟨agO,e',ok⟩:=rest M' g q1 aE ca ey hh;unfold mq at e';cases e';exact ok a w kT
      ·cases h
     ·cases h
   ·cases h
  ·cases h
 ·cases h
def XW (P:aR) (N m:Nat) (cd:List Nat) (cs kv:List (Nat×J)) (o:Option bO) (i:Nat):Option (FuncId×List J):=
 match (gH o)[i]? with
 |some op=>match op.op with
  | .call c=>match c.callee with
    | .value (.func f)=>bif enters P f then some (f,c.args.toList.map (dB .nil (oS P N m cd cs kv o i))) else none
    |_=>none
  |_=>none
 |none=>none
theorem xh.call [a7] {Y:Type} {P:aR} {M:Mem} {B N m k i:Nat} {cd:List Nat} {cs kv:List (Nat×J)} {o:Option bO} {f:FuncId} {args:List J} {b3:List b0} {rv:Nat->Y->J} {xi si:Y->List b0} (h:XW P N m cd cs kv o i=some (f,args)) (hp:dP args=true)
  (fI:∀(w:ax) (y:Y),(∀i o,M i=some o->¬ik b3 i->w.heap[i]? =some o)->B<=w.heap.size->cv (aF w) (xi y)->Calls P f ⟨ew args⟩ w λe' w'=>(∃fD,e'= .returned (rv k fD)/\c5 (aF w) (xi y) (aF w') (si fD)/\∀idx,idx<k->rv idx fD=rv idx y)/\cb 0 w w'):
  ∃op,(gH o)[i]? =some op/\xh P B M b3 (gH o) cd rv k op (oS P N m cd cs kv o i) xi si:=by
 unfold XW at h;split at h
 ·rename_i op cm
  split at h
  ·rename_i c vD
   split at h
   ·rename_i hv pL
    cases he:enters P hv with
    |false=>rw[he] at h;cases h
    |true=>
     rw[he,bx] at h;simp only [cE,Prod.mk.injEq] at h;obtain⟨rfl,rfl⟩:=h;refine⟨op,cm,λa w K Q y oK kr bn cC jD bS=> ?_⟩;have gy:c.args.map a.eval=⟨ew (c.args.toList.map (dB .nil (oS P N m cd cs kv o i)))⟩:=by
      have:=O2 oK c.args.toList hp;rw[<-this];apply Array.ext';simp
     have e8:(execOp a.eval op).run P w= .ok (.enter hv ⟨ew (c.args.toList.map (dB .nil (oS P N m cd cs kv o i)))⟩) w:=by
      unfold execOp;rw[vD];simp only;refine cQ (a:={target:= .fn (.func hv) #[],args:= #[]++c.args.map a.eval}) (by unfold resolve;rw[pL];rfl) ?_;simp only [Array.empty_append,gy];show (callFunc hv (_++ #[])).run P w=_;rw[Array.append_empty];exact jc (Fq he _) w
     have fa:∀c',op.op≠.defer c':=λc' h=>by rw[vD] at h;cases h
     refine⟨λ_ _=>trivial,?_⟩;rw[Oper.semAt_eq _ _ _ fa,e8,Oper.uponIn_enter];refine⟨λh=>absurd h (by simp [Fr,Fence.wide]),?_⟩;refine CallsIn.mono (Df (fI w y bn cC jD)) λe' w2 he=> ?_
     obtain⟨⟨fD,rfl,cJ,dk⟩,hl⟩:=he;exact bS fD w2 cJ hl dk
   ·cases h
  ·cases h
 ·cases h
end AE
namespace AE
mutual
theorem XX (s1 s2:a7) (h:s1.σ=s2.σ):∀v:J,@aI s1 v= @aI s2 v:=λv=>by
 unfold aI;split
 ·rw[h]
 ·rw[XX s1 s2 h]
 ·rw[GQ s1 s2 h]
 ·rw[GQ s1 s2 h]
 ·rw[GQ s1 s2 h,GQ s1 s2 h]
 ·rfl
theorem GQ (s1 s2:a7) (h:s1.σ=s2.σ):∀l:List J,@ew s1 l= @ew s2 l
 |[]=>rfl
 |v::r=>by
  unfold ew;rw[XX s1 s2 h v,GQ s1 s2 h r]
end
def apL (P:aR) (N m:Nat) (cd:List Nat) (cs kv:List (Nat×J)) (o:Option bO) (i:Nat):Option fW:=
 match (gH o)[i]? with
 |some op=>qq (dB .nil (oS P N m cd cs kv o i)) op
 |none=>none
def Px (ops:Array Oper) (cd:List Nat) (k:Nat) (x:Operand):J ⊕ Nat:=match x with
 | .tmp t=>match (List.range k).find? (λq=>match cd[q]? with|some j=>(match ft ops j with|some da=>Nat.beq da t|none=>false)|none=>false) with
   |some q=> .inr q
   |none=> .inl cp
 |_=> .inl cp
def yJ (ops:Array Oper) (cd:List Nat) (k:Nat) (sl:aG) (x:Operand):J ⊕ Nat:=
 bif aL (dB .nil sl x) then .inl (dB .nil sl x) else Px ops cd k x
def D':List (J ⊕ Nat)->Bool
 |[]=>true
 | .inl v::r=>aL v&&D' r
 | .inr _::r=>D' r
def Ad [a7] {Y:Type} (rv:Nat->Y->J) (y:Y):List (J ⊕ Nat)->List J
 |[]=>[]
 | .inl v::r=>aI v::Ad rv y r
 | .inr q::r=>rv q y::Ad rv y r
theorem XY [a7] {Y:Type} {ops:Array Oper} {cd:List Nat} {k:Nat} {sl:aG} {a:Act} {rv:Nat->Y->J} {y:Y} (oK:∀x:Operand,aL (dB .nil sl x)=true->a.eval x=aI (dB .nil sl x))
  (kr:∀(idx i:Nat) (t:Tmp),idx<k->cd[idx]? =some i->ft ops i=some t->a.tmps.getD t undef=rv idx y):∀(l:List Operand),D' (l.map (yJ ops cd k sl))=true->l.map a.eval=Ad rv y (l.map (yJ ops cd k sl))
 |[],_=>rfl
 |x::l,h=>by
  have ck:=XY (ops:=ops) (cd:=cd) (k:=k) (sl:=sl) oK kr l;rw[List.map_cons,List.map_cons];rw[List.map_cons] at h;cases ae:aL (dB .nil sl x) with
  |true=>
   have e:yJ ops cd k sl x= .inl (dB .nil sl x):=by unfold yJ;rw[ae];rfl
   rw[e] at h ⊢;unfold D' at h;simp only [cV] at h;unfold Ad;rw[oK x ae,ck h.2]
  |false=>
   have e0:yJ ops cd k sl x=Px ops cd k x:=by unfold yJ;rw[ae];rfl
   unfold Px at e0;cases x with
   |tmp t=>
    simp only at e0;split at e0
    ·rename_i q aZ
     rw[e0] at h ⊢;unfold D' at h;unfold Ad;have ad:=List.find?_some aZ;have af:=List.mem_range.1 (List.mem_of_find?_eq_some aZ);split at ad
     ·rename_i j hj
      split at ad
      ·rename_i da aK
       have:=cA ad;subst this;rw[ck h,<-kr q j da af hj aK];rfl
      ·cases ad
     ·cases ad
    ·rw[e0] at h;cases h
   |_=>rw[e0] at h;cases h
def D_ (P:aR) (N m:Nat) (cd:List Nat) (cs kv:List (Nat×J)) (o:Option bO) (k i:Nat):Option (FuncId×List (J ⊕ Nat)):=
 match (gH o)[i]? with
 |some op=>match op.op with
  | .call c=>match c.callee with
    | .value (.func f)=>bif enters P f then some (f,c.args.toList.map (yJ (gH o) cd k (oS P N m cd cs kv o i))) else none
    |_=>none
  |_=>none
 |none=>none
theorem xh.KF [a7] {Y:Type} {P:aR} {M:Mem} {B N m k i:Nat} {cd:List Nat} {cs kv:List (Nat×J)} {o:Option bO} {f:FuncId} {args:List (J ⊕ Nat)} {b3:List b0} {rv:Nat->Y->J} {xi si:Y->List b0} (h:D_ P N m cd cs kv o k i=some (f,args)) (hp:D' args=true)
  (fI:∀(w:ax) (y:Y),(∀i o,M i=some o->¬ik b3 i->w.heap[i]? =some o)->B<=w.heap.size->cv (aF w) (xi y)->Calls P f ⟨Ad rv y args⟩ w λe' w'=>(∃fD,e'= .returned (rv k fD)/\c5 (aF w) (xi y) (aF w') (si fD)/\∀idx,idx<k->rv idx fD=rv idx y)/\cb 0 w w'):
  ∃op,(gH o)[i]? =some op/\xh P B M b3 (gH o) cd rv k op (oS P N m cd cs kv o i) xi si:=by
 unfold D_ at h;split at h
 ·rename_i op cm
  split at h
  ·rename_i c vD
   split at h
   ·rename_i hv pL
    cases he:enters P hv with
    |false=>rw[he] at h;cases h
    |true=>
     rw[he,bx] at h;simp only [cE,Prod.mk.injEq] at h;obtain⟨rfl,rfl⟩:=h;refine⟨op,cm,λa w K Q y oK kr bn cC jD bS=> ?_⟩;have gy:c.args.map a.eval=⟨Ad rv y (c.args.toList.map (yJ (gH o) cd k (oS P N m cd cs kv o i)))⟩:=by
      have:=XY oK kr c.args.toList hp;rw[<-this];apply Array.ext';simp
     have e8:(execOp a.eval op).run P w= .ok (.enter hv ⟨Ad rv y (c.args.toList.map (yJ (gH o) cd k (oS P N m cd cs kv o i)))⟩) w:=by
      unfold execOp;rw[vD];simp only;refine cQ (a:={target:= .fn (.func hv) #[],args:= #[]++c.args.map a.eval}) (by unfold resolve;rw[pL];rfl) ?_;simp only [Array.empty_append,gy];show (callFunc hv (_++ #[])).run P w=_;rw[Array.append_empty];exact jc (Fq he _) w
     have fa:∀c',op.op≠.defer c':=λc' h=>by rw[vD] at h;cases h
     refine⟨λ_ _=>trivial,?_⟩;rw[Oper.semAt_eq _ _ _ fa,e8,Oper.uponIn_enter];refine⟨λh=>absurd h (by simp [Fr,Fence.wide]),?_⟩;refine CallsIn.mono (Df (fI w y bn cC jD)) λe' w2 he=> ?_
     obtain⟨⟨fD,rfl,cJ,dk⟩,hl⟩:=he;exact bS fD w2 cJ hl dk
   ·cases h
  ·cases h
 ·cases h
theorem KG {Y Z:Type} {P:aR} {f:FuncId} {args:Array J} {w:ax} {rv:Nat->Y->J} {k:Nat} {y:Y} {L nN:List b0} {si:Y->List b0} {r:Z->J} (aw:cv (aF w) L) (is:List Nat) (h3:jK L.length is=true) (hp:AE.pick L is=nN) (jE N xd:Z->List b0) (hl:∀z,(jE z).length=is.length) (bD:∀z,xd z=jE z++N z)
  (up:Z->Y) (ad:∀z,rv k (up z)=r z) (af:∀z,si (up z)=lj L is (jE z)++N z) (ay:∀z idx,idx<k->rv idx (up z)=rv idx y)
  (h:Calls P f args w λe' w'=>(∃z,e'= .returned (r z)/\c5 (aF w) nN (aF w') (xd z))/\cb 0 w w'):
  Calls P f args w λe' w'=>(∃fD,e'= .returned (rv k fD)/\c5 (aF w) L (aF w') (si fD)/\∀idx,idx<k->rv idx fD=rv idx y)/\cb 0 w w':=by
 refine h.mono λe w' he=> ?_
 obtain⟨⟨z,rfl,t⟩,tc⟩:=he;refine⟨⟨up z,by rw[ad],?_,ay z⟩,tc⟩;rw[af];rw[bD] at t;exact c5.lift aw is h3 hp (hl z) t
theorem KH {p:Nat->Prop} (idx:Nat) (h:idx<0):p idx:=absurd h (Nat.not_lt_zero _)
theorem XZ {p:Nat->Prop} {k:Nat} (ad:∀idx,idx<k->p idx) (af:p k) (idx:Nat) (h:idx<k+1):p idx:=by
 rcases Nat.lt_or_ge idx k with ay|ay
 ·exact ad idx ay
 ·have:idx=k:=by omega
  subst this;exact af
theorem ah3 {p:Nat->J->Prop} {j:Nat} {u:J} {l:List (Nat×J)} (h:p j u) (hl:∀i v,p3 l i=some v->p i v):∀i v,p3 ((j,u)::l) i=some v->p i v:=λi v ag=>by
 unfold p3 at ag;cases ae:Nat.beq j i with
 |true=>
  rw[ae,bx] at ag;cases ag;rw[<-cA ae];exact h
 |false=>
  rw[ae,ek] at ag;exact hl i v ag
theorem KI {Y:Type} {rv:Nat->Y->J} {cs:List (Nat×J)} {k i:Nat} {u:J} (h:p3 cs i=some u) (hp:plain u=true) (ao:∀y,rv k y=u):∀v,p3 cs i=some v->plain v=true/\∀y,rv k y=v:=λv aC=>by
 rw[h] at aC;cases aC;exact⟨hp,ao⟩
section
variable [a7] {P:aR}
theorem aT.X0 {t:aJ} {x:J} {a:Addr} (ak:aL x=true) (aK:P.underlying t=some (.pointer (P.pointee t))) (ex:aI x= .pointer (some a)):aT P (.bin .eql t x (.pointer none),.bool false):=
 uy (b:= .pointer none) ak U U ex rfl λdF dG w=>by unfold fF;simp [eqGuard,run_eql_pointer_nil w t (some a) aK];rfl
end
theorem Ea {P:aR} {f:FuncId} {args:Array J} {w:ax} {v:J} {L:List b0} (aw:cv (aF w) L) (h:Calls P f args w λe w'=>e= .returned v/\cb w.heap.size w w'):
  Calls P f args w λe w'=>(∃_:Unit,e= .returned v/\c5 (aF w) L (aF w') L)/\cb 0 w w':=
 h.mono λe w' he=>by
   obtain⟨rfl,hl⟩:=he;have aj:∀i o,aF w i=some o->aF w' i=some o:=λi o ag=>by
    rw[show aF w' i=aF w i from hl.block i (Array.getElem?_eq_some_iff.1 ag).1];exact ag
   exact⟨⟨(),rfl,aw.mono λb o _ h=>aj b o h,λi o ag _=>aj i o ag,λb ae=> .inl ae⟩,hl.zero⟩
def kg {α:Type} (p:Nat->α->Prop):Nat->List α->Prop
 |_,[]=>True
 |q,x::l=>p q x/\kg p (q+1) l
theorem kg.nil {α:Type} {p:Nat->α->Prop} {q:Nat}:kg p q []:=trivial
theorem kg.cons {α:Type} {p:Nat->α->Prop} {q:Nat} {x:α} {l:List α} (h:p q x) (t:kg p (q+1) l):kg p q (x::l):=⟨h,t⟩
theorem kg.get {α:Type} {p:Nat->α->Prop}:∀{q:Nat} {l:List α},kg p q l->∀k i,l[k]? =some i->p (q+k) i
 |q,[],_,k,i,ag=>by simp at ag
 |q,x::l,h,k,i,ag=>by
  match k with
  |0=>simp only [List.getElem?_cons_zero,cE] at ag;subst ag;exact h.1
  |k+1=>
   have:=kg.get h.2 k i (by simpa using ag);rw[show q+(k+1)=q+1+k by omega];exact this
def uI (p:Nat->J->Prop):List (Nat×J)->Prop
 |[]=>True
 |x::l=>p x.1 x.2/\uI p l
theorem uI.nil {p:Nat->J->Prop}:uI p []:=trivial
theorem uI.cons {p:Nat->J->Prop} {j:Nat} {u:J} {l:List (Nat×J)} (h:p j u) (t:uI p l):uI p ((j,u)::l):=⟨h,t⟩
theorem uI.get {p:Nat->J->Prop}:∀{l:List (Nat×J)},uI p l->∀i v,p3 l i=some v->p i v
 |[],_,i,v,h=>by cases h
 |(j,u)::l,h,i,v,ag=>ah3 (p:=p) h.1 (uI.get h.2) i v ag
theorem X1 [cH] {P:aR} {N B:Nat} {w0:ax} {Q:Exit->Act->ax->Prop} {M:Mem} {bj:List J} {Y:Type} {bh:Y->List J} {o:Option bO} {m:Nat} {dp cs kv:List (Nat×J)} {cd:List Nat} {L:Nat->Y->List b0} {rv:Nat->Y->J} {du dq:aG} {aV:List bw} {bG:eg} {dx:Mem} {az nO b3:List b0}
  (aN:bH B dx az M nO) (is:List Nat) (va:dp.map (·.1)=cd) (h3:jK nO.length is=true) (hp:AE.pick nO is=b3)
  (cK:P.follows .mixedOrders=true) (h:(BS P N m cd cs kv o).isSome=true) (fa:cd.Nodup) (ud:Y) (Km:L 0 ud=b3)
  (fZ:kg (λk i=>∀v,p3 cs i=some v->plain v=true/\∀y,rv k y=v) 0 cd)
  (BV:uI (λi v=>aL v=true/\∃op,(gH o)[i]? =some op/\ @XL (aS M bj) P M b3 op (oS P N m cd cs kv o i) v) kv)
  (iY:kg (λk i=>∃op,(gH o)[i]? =some op/\ @xh (aS M bj) Y P B M b3 (gH o) cd rv k op (oS P N m cd cs kv o i) (L k) (L (k+1))) 0 cd)
  (cR:cq (BU P N m cd cs kv o) du aV=some bG) (dU:uE N (gH o) dp du=some dq) (fV:dp.all (λp=>aL p.2)=true)
  (b1:∀y M',kg (λk (p:Nat×J)=> @aI (aS M' (bh y)) p.2=rv k y) 0 dp) (hm:∀y M',fj (aS M bj) (aS M' (bh y)) bG)
  (rest:∀y M',c5 M b3 M' (L dp.length y)->∀aW w,@Here (aS M' (bh y)) _ N {sl:=dq,ms:=[],A:=dd aV} B w0 aW w->wpListIn (Fr none) 0 P (gH o) (dK P (f_ o) Q) (yD m o) aW w)
  (av:cH.dV<=aV.length:=by first|exact Nat.zero_le _|exact gv rfl) (aq:hV (b4 o).A aV 0:=by exact gn rfl): @e_ (aS M bj) _ P N B w0 Q o:=by
 subst va;exact ahU aN is h3 hp cK h fa ud Km (λk i v aj aC=>by have:=fZ.get k i aj;rw[Nat.zero_add] at this;exact this v aC) BV.get
  (λk i aj=>by have:=iY.get k i aj;rw[Nat.zero_add] at this;exact this) cR dU fV (λy M' k p aj=>by have:=(b1 y M').get k p aj;rw[Nat.zero_add] at this;exact this) hm rest av aq
end AE
end Go.Proofs.YtepcfjbfkedlpaaDoor
namespace Go.Proofs.YtepcfjbfkedlpaaDoor
open Go Go.RowKit
namespace AE
def mx:Nat->List (J×J)->List MapEntry
 |_,[]=>[]
 |i,p::r=>{key:=p.1,val:=p.2,born:=i}::mx (i+1) r
theorem X2:∀(i:Nat) (l:List (J×J)) (p:J×J),mx i (l++[p])=mx i l++[{key:=p.1,val:=p.2,born:=i+l.length}]
 |i,[],n=>by simp [mx]
 |i,x::r,n=>by
  simp only [List.cons_append,mx,X2 (i+1) r n,List.length_cons];rw[show i+1+r.length=i+(r.length+1) by omega]
def js (g:Nat) (es:List (J×J)):b0 where
 nL b:=b=g
 ok M:=M g=some (.map ⟨mx 0 es⟩ es.length)
 w_ M h b ae:=by
  subst ae;rw[h];simp
 loc M M' h ho:=h g _ rfl ho
structure xj (P:aR) (eC:aJ) (K:J->Prop):Prop where
 KJ:∀k,K k->∀b,bd P (Instr.checkKey b 10000 eC k)=some ()
 desc:∃d,bd P (underlying eC)=some d/\∀x y,Instr.sameNow d x y=none
 same:∀k,K k->∀w,(Op.equal eC k k).run P w= .ok true w
 other:∀k k',K k->K k'->k≠k'->∀w,(Op.equal eC k k').run P w= .ok false w
def yK (K:J->Prop) (es:List (J×J)) (k:J):Prop:=∀p∈es,K p.1/\p.1≠k
def Py (K:J->Prop) (es:List (J×J)) (k v:J):Prop:=∃a b,es=a++(k,v)::b/\yK K a k
variable {P:aR} {eC:aJ} {K:J->Prop} {k v:J} {w:ax}
theorem X3 (bS:xj P eC K) (aj:K k):∀(es:List (J×J)) (i j:Nat),yK K es k->(Instr.findAsking eC k (mx i es) j).run P w= .ok none w
 |[],_,_,_=>rfl
 |p::r,i,j,h=>by
  obtain⟨ad,af⟩:=h p List.mem_cons_self;unfold mx Instr.findAsking;refine dc (bS.other k p.1 aj ad (λe=>af e.symm) w) ?_;exact X3 bS aj r _ _ λq aZ=>h q (List.mem_cons_of_mem _ aZ)
theorem X4 (bS:xj P eC K) (aj:K k) (b:List (J×J)):∀(a:List (J×J)) (i j:Nat),yK K a k->∃q,(Instr.findAsking eC k (mx i (a++(k,v)::b)) j).run P w= .ok (some (q,v)) w
 |[],i,j,_=>by
  refine⟨j,?_⟩;rw[List.nil_append];unfold mx Instr.findAsking;refine dc (bS.same k aj w) ?_;rfl
 |p::r,i,j,h=>by
  obtain⟨ad,af⟩:=h p List.mem_cons_self;obtain⟨q,aZ⟩:=X4 bS aj b r (i+1) (j+1) λq aZ=>h q (List.mem_cons_of_mem _ aZ)
  refine⟨q,?_⟩;rw[List.cons_append];unfold mx Instr.findAsking;refine dc (bS.other k p.1 aj ad (λe=>af e.symm) w) ?_;exact aZ
theorem X5 (bS:xj P eC K) (aj:K k) {es:List (J×J)} (h:yK K es k):(Instr.findKey eC k (mx 0 es)).run P w= .ok none w:=by
 obtain⟨d,ad,af⟩:=bS.desc;unfold Instr.findKey;refine cQ ad ?_;cases es with
 |nil=>rfl
 |cons p r=>
  have:Instr.findNow d k (mx 0 (p::r)) 0=none:=by
   unfold mx Instr.findNow;rw[af]
  rw[this];exact X3 bS aj _ _ _ h
theorem ah4 (bS:xj P eC K) (aj:K k) {es:List (J×J)} (h:Py K es k v):∃q,(Instr.findKey eC k (mx 0 es)).run P w= .ok (some (q,v)) w:=by
 obtain⟨d,ad,af⟩:=bS.desc;obtain⟨a,b,rfl,ha⟩:=h;obtain⟨q,aZ⟩:=X4 (w:=w) (v:=v) bS aj b a 0 0 ha;refine⟨q,?_⟩;unfold Instr.findKey;refine cQ ad ?_;have:Instr.findNow d k (mx 0 (a++(k,v)::b)) 0=none:=by
  cases a with
  |nil=>rw[List.nil_append];unfold mx Instr.findNow;rw[af]
  |cons p r=>rw[List.cons_append];unfold mx Instr.findNow;rw[af]
 rw[this];exact aZ
section
variable [a7]
theorem aT.ah5 {t pn:aJ} {x i r:J} {g:Nat} {es:List (J×J)} (bS:xj P eC K) (ak:aL x=true) (ag:aL i=true) (ao:aL r=true) (aK:bd P (underlying t)=some (.map eC pn)) (cn:a7.df g=some (.map ⟨mx 0 es⟩ es.length))
  (ex:aI x= .map (some g)) (gp:aI i=k) (b1:aI r=v) (aj:K k) (h:Py K es k v):aT P (.kX t x i false,r):=by
 refine zP (by simp [np,ak,ag]) ao rfl λdF dG w hw=> ?_
 show (fF dF dG (.kX t (aI x) (aI i) false)).run P w=_;obtain⟨q,aZ⟩:=ah4 (w:=w) bS aj h;have:=C8 (P:=P) (w:=w) (z:=undef) (ok:=false) (.inr ⟨g,es.length,rfl,hw _ _ cn⟩) aK (bS.KJ _ aj _) aZ (λh=>by cases h);rw[ex,gp,b1];unfold fF;simp only [Sem.run_bind,this,Result.andThen_ok];rfl
theorem aT.ah6 {t pn:aJ} {x i r:J} {g:Nat} {es:List (J×J)} (bS:xj P eC K) (ak:aL x=true) (ag:aL i=true) (ao:aL r=true) (aK:bd P (underlying t)=some (.map eC pn)) (bI:bd P (zeroValue pn)=some v) (cn:a7.df g=some (.map ⟨mx 0 es⟩ es.length))
  (ex:aI x= .map (some g)) (gp:aI i=k) (b1:aI r=v) (aj:K k) (h:yK K es k):aT P (.kX t x i false,r):=by
 refine zP (by simp [np,ak,ag]) ao rfl λdF dG w hw=> ?_
 show (fF dF dG (.kX t (aI x) (aI i) false)).run P w=_;have:=C8 (P:=P) (w:=w) (z:=v) (ok:=false) (.inr ⟨g,es.length,rfl,hw _ _ cn⟩) aK (bS.KJ _ aj _) (X5 (w:=w) bS aj h) (λ_=>bI);rw[ex,gp,b1];unfold fF;simp only [Sem.run_bind,this,Result.andThen_ok];rfl
end
theorem ah7 [cH] {P:aR} {N B:Nat} {w0:ax} {Q:Exit->Act->ax->Prop} {M:Mem} {bj:List J} {o:Option bO} {t:aJ} {ea:J} {bh:Nat->List J} {du dq:aG} {aV:List bw} {bG:eg}
  (h:DT o=some t) (cR:cq (b4 o) du aV=some bG) (dU:gX N du (je o) ea=some dq) (fV:aL ea=true)
  (hm:∀M' g,fj (aS M bj) (aS M' (bh g)) bG) (aC:∀M' g,@aI (aS M' (bh g)) ea= .map (some g))
  (rest:∀M' g,M g=none->B<=g->(js g []).ok M'->hk M M' none->∀aW w,@Here (aS M' (bh g)) _ N {sl:=dq,ms:=[],A:=dd aV} B w0 aW w->wpListIn (Fr none) 0 P (j7 o) (dK P (f_ o) Q) (j6 o) aW w)
  (av:cH.dV<=aV.length:=by first|exact Nat.zero_le _|exact gv rfl) (aq:hV (b4 o).A aV 0:=by exact gn rfl): @e_ (aS M bj) _ P N B w0 Q o:=by
 letI:=aS M bj;unfold DT at h;split at h
 ·rename_i op r ops s ks
  refine⟨_,rfl,λa w ah=> ?_⟩;split at h
  ·rename_i da cm
   split at h
   ·rename_i iJ
    cases h;have gA:=ah;obtain⟨⟨φ,ds,ad,af,ay,bD,_⟩,cD,cI⟩:=ah;unfold wpListIn;rw[n_ af.get iJ,aQ rfl];have hw:∀i o,M i=some o->w.heap[i]? =some o:=gA.mN
    let w':ax:={w with heap:=w.heap.push (.map #[] 0)}
    have e8:(execOp a.eval op).run P w= .ok (.value (.map (some w.heap.size))) w':=by
     unfold execOp;rw[cm];rfl
    have fa:∀c',op.op≠.defer c':=λc' h=>by rw[cm] at h;cases h
    refine⟨λ_ _=>trivial,?_⟩;rw[Oper.semAt_eq _ _ _ fa,e8,Oper.uponIn_value];obtain⟨q1,aE⟩:=ph (B:=B) (M:=M) (w:=w) (w':=w') (T:=none) (eN:=some w.heap.size) hw (λi h=>by cases h) (λi ag=> .inr (by cases ag;exact b2 _)) ⟨rfl,rfl,rfl⟩ (b2 _) (by simp [w']) (λi ag _=>by
     show (w.heap.push _)[i]? =_
     rw[Array.getElem?_push,aU ar])
    have cn:(js w.heap.size []).ok (gP M w' none (some w.heap.size)):=by
     show gP M w' none (some w.heap.size) w.heap.size=_;unfold gP;rw[aQ rfl];show (w.heap.push _)[w.heap.size]? =_;rw[Array.getElem?_push,aQ rfl];rfl
    have yL:M w.heap.size=none:=by
     cases aA:M w.heap.size with
     |none=>rfl
     |some o=>
      have:=(Array.getElem?_eq_some_iff.1 (hw _ _ aA)).1;omega
    have gZ:=Here.turns (vals':=bh w.heap.size) cR (hm _ _) q1 av aq gA;letI:=aS (gP M w' none (some w.heap.size)) (bh w.heap.size);have ku:=Here.put (d:=op.dst) gZ (v:=ea) fV dU;rw[aC] at ku;exact rest _ _ yL cI cn aE _ w' ku
   ·cases h
  ·cases h
 ·cases h
theorem ah8 [cH] {P:aR} {N B:Nat} {w0:ax} {Q:Exit->Act->ax->Prop} {M:Mem} {bj bh:List J} {o:Option bO} {t eC pn:aJ} {K:J->Prop} {m k x vM yM:J} {g:Nat} {es:List (J×J)} {du dq:aG} {aV:List bw} {bG:eg}
  (bS:xj P eC K) (h:DU o=some (t,m,k,x)) (aK:bd P (underlying t)=some (.map eC pn))
  (cR:cq (b4 o) du aV=some bG) (dU:gX N du (je o) undef=some dq) (hp:aL m=true) (ak:aL k=true) (aC:aL x=true) (em: @aI (aS M bj) m= .map (some g)) (F': @aI (aS M bj) k=vM) (bp: @aI (aS M bj) x=yM)
  (cn:(js g es).ok M) (cC:B<=g) (aj:K vM) (gm:yK K es vM) (hm:∀M',fj (aS M bj) (aS M' bh) bG)
  (rest:∀M',(js g (es++[(vM,yM)])).ok M'->hk M M' (some g)->∀aW w,@Here (aS M' bh) _ N {sl:=dq,ms:=[],A:=dd aV} B w0 aW w->wpListIn (Fr none) 0 P (j7 o) (dK P (f_ o) Q) (j6 o) aW w)
  (av:cH.dV<=aV.length:=by first|exact Nat.zero_le _|exact gv rfl) (aq:hV (b4 o).A aV 0:=by exact gn rfl): @e_ (aS M bj) _ P N B w0 Q o:=by
 letI:=aS M bj;unfold DU at h;split at h
 ·rename_i op r ops s ks
  refine⟨_,rfl,λa w ah=> ?_⟩;split at h
  ·rename_i da F_ pU gG cm
   split at h
   ·rename_i iJ
    simp only [cE,Prod.mk.injEq] at h;obtain⟨rfl,rfl,rfl,rfl⟩:=h;have gA:=ah;obtain⟨⟨φ,ds,ad,af,ay,bD,_⟩,cD,cI⟩:=ah;unfold wpListIn;rw[n_ af.get iJ,aQ rfl];have zs:a.eval F_= .map (some g):=(aD.ig _ hp (gq (hT φ) af.get F_)).trans em;have nI:a.eval pU=vM:=(aD.ig _ ak (gq (hT φ) af.get pU)).trans F';have OB:a.eval gG=yM:=(aD.ig _ aC (gq (hT φ) af.get gG)).trans bp;have hw:∀i o,M i=some o->w.heap[i]? =some o:=gA.mN;have ae:M g=some (.map ⟨mx 0 es⟩ es.length):=cn;have aA:=hw _ _ ae
    let o':Obj:= .map ⟨mx 0 (es++[(vM,yM)])⟩ (es++[(vM,yM)]).length
    let w':ax:={w with heap:=w.heap.setIfInBounds g o'}
    have fo:Obj.map ((⟨mx 0 es⟩:Array MapEntry).push {key:=vM,val:=yM,born:=es.length}) (es.length+1)=o':=by
     show _=Obj.map _ _;rw[X2,List.length_append,Nat.zero_add];simp
    have e8:(execOp a.eval op).run P w= .ok .skip w':=by
     unfold execOp;rw[cm];simp only [zs,nI,OB];show (do Instr.mapUpdate da (.map (some g)) vM yM;pure Next.skip:Sem Next).run P w=_;have cP:(Instr.mapUpdate da (.map (some g)) vM yM).run P w= .ok () w':=by
      unfold Instr.mapUpdate;refine cQ aK ?_;simp only;refine dc (q2 aA (by simp)) ?_;simp only;refine cQ (bS.KJ _ aj _) ?_;refine dc (X5 (w:=w) bS aj gm) ?_;simp only;rw[fo];exact wN aA (by simp)
     simp only [Sem.run_bind,cP,Result.andThen_ok];rfl
    have fa:∀c',op.op≠.defer c':=λc' h=>by rw[cm] at h;cases h
    refine⟨λ_ _=>trivial,?_⟩;rw[Oper.semAt_eq _ _ _ fa,e8,Oper.uponIn_skip];have OC:g<w.heap.size:=(Array.getElem?_eq_some_iff.1 aA).1;obtain⟨q1,aE⟩:=ph (B:=B) (M:=M) (w:=w) (w':=w') (T:=some g) (eN:=some g) hw (λi ag=>by cases ag;exact⟨by rw[ae];simp,cC⟩) (λi ag=> .inl ag) ⟨rfl,rfl,rfl⟩ (b2 _) (by simp [w']) (λi ag cO=>by
     show (w.heap.setIfInBounds g o')[i]? =_
     rw[Array.getElem?_setIfInBounds,aU (λe=>cO (by rw[e]))])
    have cn:(js g (es++[(vM,yM)])).ok (gP M w' (some g) (some g)):=by
     show gP M w' (some g) (some g) g=_;unfold gP;rw[aQ rfl];show (w.heap.setIfInBounds g o')[g]? =_;rw[Array.getElem?_setIfInBounds,aQ rfl,aQ OC]
    have gZ:=Here.turns (vals':=bh) cR (hm _) q1 av aq gA;letI:=aS (gP M w' (some g) (some g)) bh;exact rest _ cn aE _ w' (Here.put (d:=op.dst) gZ (v:=undef) rfl dU)
   ·cases h
  ·cases h
 ·cases h
section
variable {M M':Mem}
theorem ah9 {g:Nat} {es dg:List (J×J)} (cn:(js g dg).ok M') (bS:hk M M' (some g)):c5 M [js g es] M' [js g dg]:=
 ⟨cv.one cn,λi o ag av=>bS i o ag λe=>av (nM.2 (Option.some.inj e)),λb ae=> .inl (nM.2 (show b=g from nM.1 ae))⟩
theorem ah' {g:Nat} {es:List (J×J)} (cn:(js g es).ok M') (av:M g=none) (bS:hk M M' none):c5 M [] M' [js g es]:=
 ⟨cv.one cn,λi o ag _=>bS i o ag λe=>(by cases e),λb ae=> .inr (by rw[show b=g from nM.1 ae];exact av)⟩
end
end AE
end Go.Proofs.YtepcfjbfkedlpaaDoor
namespace Go.Proofs.YtepcfjbfkedlpaaDoor
open Go Go.Proofs Go.RowKit
namespace AE
def look:List J->Nat->Nat->J
 |[],_,_=> .bool false
 |v::r,n,k=>bif Nat.beq (n-1) k then v else look r (n-1) k
def fP:List J->Prop
 |[]=>True
 |v::r=>oc v=v/\fP r
theorem Eb:∀{l:List J},fP l->∀v∈l,oc v=v
 |[],_,v,aC=>by cases aC
 |x::r,h,v,aC=>by
  rcases List.mem_cons.1 aC with rfl|aC
  ·exact h.1
  ·exact Eb h.2 v aC
theorem KK:∀{l:List J},(∀v∈l,oc v=v)->fP l
 |[],_=>trivial
 |x::r,h=>⟨h x (by simp),KK λv aC=>h v (List.mem_cons_of_mem _ aC)⟩
theorem tf {a b:List J} (ha:fP a) (ae:fP b):fP (a++b):=KK λv aC=>by
 rcases List.mem_append.1 aC with h|h
 ·exact Eb ha v h
 ·exact Eb ae v h
theorem p5 {a:List J} (ha:fP a):fP a.reverse:=KK λv aC=>Eb ha v (by simpa using aC)
theorem KL:∀(env:List J) (n k:Nat),env.length=n->look env n k=env.reverse.getD k (.bool false)
 |[],n,k,_=>by simp [look]
 |v::r,n,k,h=>by
  simp only [List.length_cons] at h;unfold look;rw[List.reverse_cons,dh];by_cases aj:k=r.length
  ·subst aj
   rw[show Nat.beq (n-1) r.length=true by rw[show n-1=r.length by omega];exact Nat.beq_refl _,bx,List.getElem?_append_right (by simp)];simp
  ·rw[show Nat.beq (n-1) k=false by cases ae:Nat.beq (n-1) k with|false=>rfl|true=>exact absurd (cA ae) ar,ek,KL r (n-1) k ar,dh]
   by_cases b8:k<r.length
   ·rw[List.getElem?_append_left (by simpa using b8)]
   ·rw[List.getElem?_eq_none (by simpa using by omega),List.getElem?_eq_none (by simp;omega)]
mutual
def ex (env:List J) (n:Nat):J->J
 | .complex .f64 k b=>bif Nat.beq b 0 then (bif Nat.blt k eQ then look env n k else .pointer (some ⟨k-eQ,0,none⟩)) else .complex .f64 k b
 | .iface t v=> .iface t (ex env n v)
 | .agg ⟨l⟩=> .agg ⟨hF env n l⟩
 | .tuple ⟨l⟩=> .tuple ⟨hF env n l⟩
 | .func (.func f) ⟨a⟩ ⟨b⟩=> .func (.func f) ⟨hF env n a⟩ ⟨hF env n b⟩
 |v=>v
def hF (env:List J) (n:Nat):List J->List J
 |[]=>[]
 |v::r=>ex env n v::hF env n r
end
abbrev cM (M:Mem) (env:List J):a7:=aS M env.reverse
theorem ah_ (M:Mem) {env:List J} {n:Nat} (h:fP env) (av:env.length=n) (k:Nat):(cM M env).σ k=bif Nat.blt k eQ then look env n k else .pointer (some ⟨k-eQ,0,none⟩):=by
 show lX env.reverse k=_;unfold lX;cases aj:Nat.blt k eQ with
 |false=>rfl
 |true=>
  rw[bx,bx,KL env n k av];by_cases b8:k<env.length
  ·rw[dh,fA (by simpa using b8)]
   exact Eb (p5 h) _ (List.getElem_mem (by simpa using b8))
  ·rw[dh,List.getElem?_eq_none (by simpa using by omega)]
   rfl
mutual
theorem lJ (M:Mem) {env:List J} {n:Nat} (h:fP env) (av:env.length=n):∀v:J,@aI (cM M env) v=ex env n v:=by
 intro v;unfold aI ex;split
 ·rename_i k b
  dsimp only;cases Nat.beq b 0 with
  |true=>rw[bx,bx];exact ah_ M h av k
  |false=>rfl
 ·dsimp only;rw[lJ M h av]
 ·dsimp only;rw[ti M h av]
 ·dsimp only;rw[ti M h av]
 ·dsimp only;rw[ti M h av,ti M h av]
 ·rename_i ad af ay bD cD
  split
  ·exact absurd rfl (ad _ _)
  ·exact absurd rfl (af _ _)
  ·exact absurd rfl (ay _)
  ·exact absurd rfl (bD _)
  ·exact absurd rfl (cD _ _ _)
  ·rfl
theorem ti (M:Mem) {env:List J} {n:Nat} (h:fP env) (av:env.length=n):∀l:List J,@ew (cM M env) l=hF env n l
 |[]=>rfl
 |v::r=>by
  unfold ew hF;rw[lJ M h av,ti M h av]
end
mutual
def kA (n:Nat):J->Bool
 | .complex .f64 k b=>bif Nat.beq b 0 then Nat.blt k n|| !Nat.blt k eQ else true
 | .iface _ v=>kA n v
 | .agg ⟨l⟩=>oT n l
 | .tuple ⟨l⟩=>oT n l
 | .func (.func _) ⟨a⟩ ⟨b⟩=>oT n a&&oT n b
 |_=>true
def oT (n:Nat):List J->Bool
 |[]=>true
 |v::r=>kA n v&&oT n r
end
mutual
theorem mU {n m:Nat} (hle:n<=m):∀v:J,kA n v=true->kA m v=true:=by
 intro v h;unfold kA at h ⊢;split at h
 ·rename_i k b
  cases ae:Nat.beq b 0 with
  |true=>
   rw[ae,bx,Bool.or_eq_true] at h;rw[bx,Bool.or_eq_true];rcases h with h|h
   ·exact .inl (Nat.blt_eq.mpr (Nat.lt_of_lt_of_le (Nat.blt_eq.mp h) hle))
   ·exact .inr h
  |false=>rfl
 ·exact mU hle _ h
 ·exact Ec hle _ h
 ·exact Ec hle _ h
 ·rename_i a b
  simp only [cV] at h ⊢;exact⟨Ec hle _ h.1,Ec hle _ h.2⟩
 ·rfl
theorem Ec {n m:Nat} (hle:n<=m):∀l:List J,oT n l=true->oT m l=true
 |[],_=>rfl
 |v::r,h=>by
  unfold oT at h ⊢;simp only [cV] at h ⊢;exact⟨mU hle v h.1,Ec hle r h.2⟩
end
def nR (n:Nat) (s1 s2:a7):Prop:=∀k,k<n\/eQ<=k->s1.σ k=s2.σ k
mutual
theorem kB {n:Nat} {s1 s2:a7} (ha:nR n s1 s2):∀v:J,kA n v=true-> @aI s1 v= @aI s2 v:=by
 intro v h;unfold kA at h;unfold aI;split at h
 ·rename_i k b
  dsimp only;cases ae:Nat.beq b 0 with
  |true=>
   rw[ae,bx] at h;rw[bx,bx];refine ha k ?_;rw[Bool.or_eq_true] at h;rcases h with h|h
   ·exact .inl (Nat.blt_eq.mp h)
   ·refine .inr ?_
    have:¬k<eQ:=λaj=>by rw[Nat.blt_eq.mpr aj] at h;cases h
    omega
  |false=>rfl
 ·dsimp only;rw[kB ha _ h]
 ·dsimp only;rw[BX ha _ h]
 ·dsimp only;rw[BX ha _ h]
 ·rename_i a b
  dsimp only;simp only [cV] at h;rw[BX ha _ h.1,BX ha _ h.2]
 ·rename_i ad af ay bD cD
  split
  ·exact absurd rfl (ad _ _)
  ·exact absurd rfl (af _ _)
  ·exact absurd rfl (ay _)
  ·exact absurd rfl (bD _)
  ·exact absurd rfl (cD _ _ _)
  ·rfl
theorem BX {n:Nat} {s1 s2:a7} (ha:nR n s1 s2):∀l:List J,oT n l=true-> @ew s1 l= @ew s2 l
 |[],_=>rfl
 |v::r,h=>by
  unfold oT at h;simp only [cV] at h;unfold ew;rw[kB ha v h.1,BX ha r h.2]
end
theorem uJ (M M':Mem) {env c4:List J} {n:Nat} (av:env.length=n):nR n (cM M env) (cM M' (c4++env)):=by
 intro k aj;show lX env.reverse k=lX (c4++env).reverse k;unfold lX;cases ae:Nat.blt k eQ with
 |false=>rfl
 |true=>
  rw[bx,bx];have b8:=Nat.blt_eq.mp ae;have dt:k<env.length:=by omega
  congr 1;rw[List.reverse_append,dh,dh,List.getElem?_append_left (by simpa using dt)]
structure iR (P:aR) where
 α:Type
 KM:α
 e:aJ
 k:Nat
 bytes:Nat
 enc:α->List J
 len:∀x,(enc x).length=k
 one:∀x,∀u∈enc x,u.oneCell'=true
 pos:0<k
 size:bd P (sizeOf e)=some k
 info:∃i z,P.info? e=some i/\i.zero=some z/\i.size=k/\i.bytes=bytes/\z.cells.size=k
variable {P:aR}
structure iO (P:aR) where
 K:iR P
 v:J
 l:List K.α
def iO.ok (r:iO P) (M:Mem):Prop:=cu M r.K.k r.K.enc r.v r.l
inductive a1 (P:aR) where
 |box (g:Nat) (ty:aJ) (cs:List J)
 |arr (K:iR P) (v:J) (l:List K.α)
 |jq (K:iR P) (v:J) (l:List K.α)
 |red (K:iR P) (v:J) (l:List K.α)
 |any (R:b0)
def a1.res:a1 P->b0
 | .box g ty cs=>ij g ty cs
 | .arr K v l=>h2 K.e K.k K.enc v l
 | .jq K v l=>pV K.e K.k K.enc v l
 | .red K v l=>r' K.k K.enc v l
 | .any R=>R
abbrev ct (L:List (a1 P)):List b0:=L.map a1.res
def a1.X6:a1 P->Option (iO P)
 | .arr K v l=>some ⟨K,v,l⟩
 | .jq K v l=>some ⟨K,v,l⟩
 | .red K v l=>some ⟨K,v,l⟩
 |_=>none
theorem ll {L:List (a1 P)} {i:Nat} {r:a1 P} (h:L[i]? =some r):(ct L)[i]? =some r.res:=by
 rw[List.getElem?_map,h];rfl
def gB (ro:List (iO P)) (M:Mem):Prop:=∀(i:Nat) (r:iO P),ro[i]? =some r->r.ok M
def p6 (dx:Mem) (az:List b0) (M:Mem):Prop:=∀i o,dx i=some o->¬ik az i->M i=some o
theorem Pz {B:Nat} {dx M:Mem} {az:List b0} {L:List (a1 P)} (h:bH B dx az M (ct L)) {i:Nat} {d:a1 P} (ag:L[i]? =some d) {r:iO P} (ao:d.X6=some r):r.ok M:=by
 have aA:=ll ag;cases d<;>cases ao
 ·exact(h.arr i aA).arr (iR.len _)
 ·exact(h.jq i aA).arr (iR.len _)
 ·exact h.red i aA
theorem PA {M:Mem} {L:List (a1 P)} (h:cv M (ct L)) {i:Nat} {d:a1 P} (ag:L[i]? =some d) {r:iO P} (ao:d.X6=some r):r.ok M:=by
 have aA:=ll ag;cases d<;>cases ao
 ·exact(h.arr i aA).arr (iR.len _)
 ·exact(h.jq i aA).arr (iR.len _)
 ·exact h.red i aA
theorem GR {B:Nat} {dx M:Mem} {az L:List b0} (h:bH B dx az M L):p6 dx az M:=λ_ _ ag av=>h.kept ag av
end AE
namespace AE
def GU:List (Nat×Operand)->Nat->Bool
 |[],_=>true
 |p::r,i=>Nat.beq p.1 i&&GU r (i+1)
def PB:Option bO->Option (aJ×List J)
 |some (.oper o _ ops s _)=>match o.op with
  | .buildSlice t n ⟨ps⟩=>bif GU ps 0&&(Nat.beq ps.length n&&(Nat.blt 0 n&&Nat.ble n 1000)) then match q5 ops o s.sl with
    |some true=>some (t,ps.map λp=>dB .nil s.sl p.2)
    |_=>none
    else none
  |_=>none
 |_=>none
def GV:Nat->List J->List (Nat×J)
 |_,[]=>[]
 |i,u::r=>(i,u)::GV (i+1) r
theorem X7 {f:Operand->J}:∀(ps:List (Nat×Operand)) (i:Nat),GU ps i=true->ps.map (λp=>(p.1,f p.2))=GV i (ps.map λp=>f p.2)
 |[],_,_=>rfl
 |p::r,i,h=>by
  unfold GU at h;rw[cV] at h;rw[List.map_cons,List.map_cons,cA h.1,X7 r (i+1) h.2];rfl
theorem X8:∀(l:List J) (off k:Nat) (cs:Array J),off+k+l.length<=cs.size->((l.zipIdx k).foldl (λ(cs:Array J) (p:J×Nat)=>cs.setIfInBounds (off+p.2) p.1) cs).toList=cs.toList.take (off+k)++l++cs.toList.drop (off+k+l.length)
 |[],off,k,cs,h=>by simp
 |u::l,off,k,cs,h=>by
  simp only [List.zipIdx_cons,List.foldl_cons];simp only [List.length_cons] at h;rw[X8 l off (k+1) _ (by simp only [Array.size_setIfInBounds];omega)];have aj:off+k<cs.toList.length:=by rw[Array.length_toList];omega
  rw[Array.toList_setIfInBounds,List.take_set,List.drop_set,aQ ar,show off+(k+1)=off+k+1 by omega];rw[List.take_add_one,fA aj];rw[List.set_append_right _ _ (by rw[List.length_take];omega)];simp only [List.length_take,Option.toList_some];rw[show off+k-min (off+k) cs.toList.length=0 by omega];simp only [List.set_cons_zero,List.length_cons];rw[show off+k+1+l.length=off+k+(l.length+1) by omega];simp
theorem X9 {k:Nat}:∀(us:List J) (i0:Nat) (cs:Array J),(∀u∈us,u.cells.size=k)->cs.size=(i0+us.length)*k->∃r,Instr.fill (λi=>some (i*k,k)) cs (GV i0 us)=some r/\r.toList=cs.toList.take (i0*k)++us.flatMap (λu=>u.cells.toList)
 |[],i0,cs,_,aq=>⟨cs,rfl,by
  rw[List.flatMap_nil,List.append_nil,List.take_of_length_le];rw[Array.length_toList,aq]
  exact b2 _⟩
 |u::us,i0,cs,hu,aq=>by
  have aj:=hu u List.mem_cons_self;simp only [List.length_cons] at aq;have PC:cs.size=i0*k+k+us.length*k:=by
   rw[aq,Nat.add_mul,Nat.add_mul];omega
  unfold GV Instr.fill;dsimp only;rw[aU (by simp only [aj,PC];simp)];have aw:=X8 u.cells.toList (i0*k) 0 cs (by rw[Array.length_toList];omega);rw[Array.length_toList,aj,Nat.add_zero] at aw;generalize fZ:u.cells.zipIdx.foldl (λcs (x:J×Nat)=>cs.setIfInBounds (i0*k+x.2) x.1) cs=cs';have X':cs'.toList=cs.toList.take (i0*k)++u.cells.toList++cs.toList.drop (i0*k+k):=by
   rw[<-fZ,<-aw,<-Array.foldl_toList,Array.toList_zipIdx]
  have hl:cs'.size=(i0+1+us.length)*k:=by
   rw[<-Array.length_toList,X'];simp only [List.length_append,List.length_take,List.length_drop,Array.length_toList,aj,PC];rw[Nat.add_mul,Nat.add_mul];omega
  obtain⟨r,ad,af⟩:=X9 us (i0+1) cs' (λx ak=>hu x (List.mem_cons_of_mem _ ak)) hl;refine⟨r,ad,?_⟩;rw[af,X',List.flatMap_cons,<-List.append_assoc];congr 1;have hle:(cs.toList.take (i0*k)++u.cells.toList).length=(i0+1)*k:=by
   simp only [List.length_append,List.length_take,Array.length_toList,aj,PC];rw[Nat.add_mul];omega
  rw[List.take_append_of_le_length (Nat.le_of_eq hle.symm),List.take_of_length_le (Nat.le_of_eq hle)]
theorem X_ (env:List J) (n:Nat):∀l:List J,(hF env n l).length=l.length
 |[]=>rfl
 |_::r=>by unfold hF;rw[List.length_cons,List.length_cons,X_ env n r]
theorem Ya {α:Type} {k:Nat} {enc:α->List J} (aj:∀x,(enc x).length=k):∀(us:List J) (l:List α),us.map Value.cells=l.map (λy=>⟨enc y⟩)->(∀u∈us,u.cells.size=k)/\us.flatMap (λu=>u.cells.toList)=l.flatMap enc/\us.length=l.length
 |[],[],_=>⟨(λu hu=>by cases hu),rfl,rfl⟩
 |u::us,y::l,h=>by
  simp only [List.map_cons,List.cons.injEq] at h;obtain⟨ad,af,ay⟩:=Ya aj us l h.2;refine⟨λv aC=> ?_,by rw[List.flatMap_cons,List.flatMap_cons,af,h.1],by rw[List.length_cons,List.length_cons,ay]⟩;rcases List.mem_cons.1 aC with rfl|aC
  ·rw[h.1];simpa using aj y
  ·exact ad v aC
theorem Yb [a7] {N:Nat} {ds:List Deferred} {φ:bV} {sl:aG} {a:Act} (h:fw N ds φ sl a):∀(ps:List (Nat×Operand)),dP (ps.map λp=>dB .nil sl p.2)=true->ps.map (λp=>a.eval p.2)=ew (ps.map λp=>dB .nil sl p.2)
 |[],_=>rfl
 |p::r,hp=>by
  have CY:(aL (dB .nil sl p.2)&&dP (r.map λp=>dB .nil sl p.2))=true:=hp;rw[cV] at CY;rw[List.map_cons,List.map_cons];show _=aI (dB .nil sl p.2)::ew (r.map λp=>dB .nil sl p.2);rw[<-Yb h r CY.2,aD.ig _ CY.1 (gq (hT φ) h.get p.2)]
theorem aia [cH] {α:Type} {P:aR} {N B:Nat} {w0:ax} {Q:Exit->Act->ax->Prop} {M:Mem} {bj:List J} {o:Option bO} {t e:aJ} {k:Nat} {z ea:J} {xs us:List J} {enc:α->List J} {l:List α} {bh:Option Addr->Nat->List J} {du dq:aG} {aV:List bw} {bG:eg}
  (h:PB o=some (t,xs)) (aK:P.underlying t=some (.slice e)) (pM:bd P (sizeOf e)=some k) (J':bd P (zeroValue e)=some z) (hK:0<k) (n3:k<=1000) (aj:∀x,(enc x).length=k)
  (cR:cq (b4 o) du aV=some bG) (dU:gX N du (je o) ea=some dq) (fV:aL ea=true) (ak:dP xs=true) (ex: @ew (aS M bj) xs=us) (hu:us.map Value.cells=l.map λy=>⟨enc y⟩)
  (hm:∀M' a c,fj (aS M bj) (aS M' (bh a c)) bG) (aC:∀M' a c,@aI (aS M' (bh a c)) ea= .slice a l.length c)
  (rest:∀M' a c,dm B M' e k enc (.slice a l.length c) l->hk M M' none->(∀i,some i=eL (.slice a l.length c)->M i=none)->∀aW w,@Here (aS M' (bh a c)) _ N {sl:=dq,ms:=[],A:=dd aV} B w0 aW w->wpListIn (Fr none) 0 P (j7 o) (dK P (f_ o) Q) (j6 o) aW w)
  (av:cH.dV<=aV.length:=by first|exact Nat.zero_le _|exact gv rfl) (aq:hV (b4 o).A aV 0:=by exact gn rfl): @e_ (aS M bj) _ P N B w0 Q o:=by
 letI:=aS M bj;unfold PB at h;split at h
 ·rename_i op r ops s ks
  refine⟨_,rfl,λa w ah=> ?_⟩;split at h
  ·rename_i da fS ps cm
   cases ae:GU ps 0&&(Nat.beq ps.length fS&&(Nat.blt 0 fS&&Nat.ble fS 1000)) with
   |false=>rw[ae] at h;cases h
   |true=>
    rw[ae,bx] at h;simp only [cV] at ae;obtain⟨j3,kq,tW,wF⟩:=ae;have kq:=cA kq;have tW:=Nat.blt_eq.mp tW;have wF:=Nat.ble_eq.mp wF;split at h
    ·rename_i iJ
     cases h;have gA:=ah;obtain⟨⟨φ,ds,ad,af,ay,bD,_⟩,cD,cI⟩:=ah;unfold wpListIn;rw[n_ af.get iJ,aQ rfl];obtain⟨gM,c2,c3⟩:=Ya aj us l hu;have hlen:us.length=fS:=by
      rw[<-ex,Na,List.length_map,List.length_map,kq]
     have nI:ps.map (λp=>a.eval p.2)=us:=(Yb af ps ak).trans ex;have hw:∀i o,M i=some o->w.heap[i]? =some o:=gA.mN;obtain⟨row,f1,f2⟩:=X9 us 0 ((Array.range (fS*k)).map (z.cells[· %z.cells.size]!)) gM (by rw[Array.size_map,Array.size_range,Nat.zero_add,hlen]);have f2:row.toList=l.flatMap enc:=by rw[f2,Nat.zero_mul,List.take_zero,List.nil_append,c2]
     let w':ax:={w with heap:=w.heap.push (.cells row e)}
     have Kp:0<fS*k:=Nat.mul_pos tW hK;have apM:fS*k<=1000000:=Nat.le_trans (Nat.mul_le_mul wF n3) cz;have e8:(execOp a.eval op).run P w= .ok (.value (.slice (some ⟨w.heap.size,0,none⟩) fS fS)) w':=by
      unfold execOp;rw[cm];simp only [List.map_toArray];rw[X7 ps 0 j3,nI];have ae:(Instr.buildSlice t fS (GV 0 us).toArray).run P w= .ok (.slice (some ⟨w.heap.size,0,none⟩) fS fS) w':=by
       unfold Instr.buildSlice;refine dc (run_underlying aK w) ?_;simp only;refine cQ pM ?_;rw[aU ar];rw[aU ar];refine cQ J' ?_;refine cQ (a:=z.cells) rfl ?_;simp only [f1];simp [newRow,newObj,Sem.run,w']
      simp only [Sem.run_bind,ae,Result.andThen_ok];rfl
     have fa:∀c',op.op≠.defer c':=λc' h=>by rw[cm] at h;cases h
     refine⟨λ_ _=>trivial,?_⟩;rw[Oper.semAt_eq _ _ _ fa,e8,Oper.uponIn_value];obtain⟨q1,aE⟩:=ph (B:=B) (M:=M) (w:=w) (w':=w') (T:=none) (eN:=some w.heap.size) hw (λi h=>by cases h) (λi ag=> .inr (by cases ag;exact b2 _)) ⟨rfl,rfl,rfl⟩ (b2 _) (by simp [w']) (λi ag _=>by
      show (w.heap.push _)[i]? =_
      rw[Array.getElem?_push,aU ar])
     have lf:l.length=fS:=c3.symm.trans hlen;have yr:(l.flatMap enc).length=fS*k:=by rw[ri aj l,lf]
     have cn:dm B (gP M w' none (some w.heap.size)) e k enc (.slice (some ⟨w.heap.size,0,none⟩) l.length fS) l:=by
      refine .inr ⟨w.heap.size,fS,row,rfl,ar,cI,?_,Nat.le_of_eq lf,by simp only [maxLen];omega,by rw[<-Array.length_toList,f2,yr],by rw[f2,lf];exact List.take_of_length_le (Nat.le_of_eq yr)⟩;unfold gP;rw[aQ rfl];show (w.heap.push _)[w.heap.size]? =_;rw[Array.getElem?_push,aQ rfl]
     have gZ:=Here.turns (vals':=bh (some ⟨w.heap.size,0,none⟩) fS) cR (hm _ _ _) q1 av aq gA;letI:=aS (gP M w' none (some w.heap.size)) (bh (some ⟨w.heap.size,0,none⟩) fS);have ku:=Here.put (d:=op.dst) gZ (v:=ea) fV dU;rw[aC,lf] at ku;refine rest _ _ _ cn aE (λj hj=> ?_) _ w' ku;rw[nH _ _ ar] at hj;cases hj;exact zU hw (b2 _)
    ·cases h
  ·cases h
 ·cases h
end AE
namespace AE
inductive bL where
 |o (f:fW) (r:J) (m:Nat) (h:List Nat) (k:bL)
 |s (f:fW) (h:List Nat) (db dr:bL)
 |c (f:FuncId) (args:List J) (r:J) (m:Nat) (k:bL)
 |cs (f:FuncId) (args:List J) (db dr:bL)
 |eO (x:J) (db dr:bL)
 |vN (x:J) (db dr:bL) (m:Nat) (k:bL)
 |ret (v:J)
 |back (vs:List J)
 |loop (vs:List J) (m:Nat) (k:bL)
 |fT (k:bL)
 |st (t:aJ) (p x:J) (k:bL)
 |yN (t:aJ) (s:J) (c:List J) (k:bL)
 |vO (t:aJ) (s x:J) (k:bL)
 |mk (t:aJ) (x:J) (k:bL)
 |tj (c:List J) (m cap:Nat) (k:bL)
 |lt (t:aJ) (x:J) (k:bL)
 |p7 (t:aJ) (x:J) (k:bL)
 |qF (t:aJ) (k:bL)
 |call (f:FuncId) (args:List J) (r:J) (m:Nat) (k:bL)
 |no
 |Ae (t:aJ) (xs:List J) (k:bL)
 |alt (db dr:bL)
 |sa (t:aJ) (s:J) (c:List J) (k:bL)
 |tk (t:aJ) (x:J)
 |vP (t:aJ) (k:bL)
 |vQ (t:aJ) (m i x:J) (k:bL)
inductive iZ where
 |k (x:k0) (ks:List fc)
 |ops (r:List Oper) (ops:Array Oper) (ks:List fc)
 |any (bm:Nat) (os:Array Oper) (listed:Array Bool) (ks:List fc)
abbrev jM:=List (fW×J)
abbrev jX:=List (FuncId×List J×J)
def aib (P:aR) [Lib P] (F:jM) (T:jX) (N bm d:Nat) (ks:List fc) (x:k0) (s:b6):Option bO:= @resume P _ ⟨F⟩ (@sW P _ ⟨F⟩ ⟨T⟩ .nil bm d) N bm ks x s
def iZ.run (P:aR) [Lib P] (F:jM) (T:jX) (N d:Nat):iZ->b6->Option bO
 | .k x ks,s=>aib P F T N 1000 d ks x s
 | .ops r os ks,s=>Bs P F T N 1000 d r os ks s
 | .any ..,_=>none
def iZ.k3 (P:aR) (Q:Exit->Act->ax->Prop):iZ->Act->ax->Prop
 | .k x ks,a,w=>dK P ks Q x.exit' a w
 | .ops r os ks,a,w=>wpListIn (Fr none) 0 P os (dK P ks Q) r a w
 | .any bm os listed ks,a,w=>wpAnyIn (Fr none) 0 P .any os (dK P ks Q) bm listed a w
structure iS where
 sl:aG
 aV:List bw
 n:Nat
 m:Nat
 ks:List fc
structure BY where
 pw:List FuncId:=[]
 marks:List aJ:=[]
 cells:List (Nat×Nat×Nat):=[]
 aic:List (Nat×Nat):=[]
 KN:List (Nat×List Nat):=[]
 w_:List (Nat×Bool):=[]
 d:Nat:=0
structure iq extends BY where
 N:Nat
 fn:Func
def GX (l:List aJ):jM:=l.map λ(t:Nat)=>bif Nat.beq t 1000000 then (.ez (.bool true),.bool true) else (.ez (.int .i64 (t:Int)),.int .i64 (t:Int))
def kC:Nat->Nat->List J
 |0,_=>[]
 |m+1,n=>al n::kC m (n+1)
def GY (P:aR) (t:aJ) (n:Nat):Option (J×Nat):=
 match bd P (isAgg t) with
 |some true=>match bd P (sizeOf t) with
  |some m=>some (.agg ⟨kC m n⟩,m)
  |none=>none
 |_=>some (al n,1)
def Yc (P:aR):List aJ->Nat->Option (List J×Nat)
 |[],_=>some ([],0)
 |t::r,n=>match GY P t n with
  |some (v,m)=>match Yc P r (n+m) with
   |some (vs,m')=>some (v::vs,m+m')
   |none=>none
  |none=>none
def aid (P:aR) (t:aJ) (n:Nat):Option (J×Nat):=
 match P.underlying t with
 |some (.tuple cW)=>match Yc P cW.toList n with
  |some (vs,m)=>some (.tuple ⟨vs⟩,m)
  |none=>none
 |_=>GY P t n
def GZ (P:aR) (t:aJ):Bool:=match P.underlying t with|some .bool=>true|_=>false
def PD (ops:Array Oper) (d:Option Tmp):Bool:=
 match d with
 |none=>false
 |some d=>ops.any λo=>(match o.guard with
   |some (j,_)=>match ops[j]? with
    |some o'=>match o'.dst with
     |some t=>Nat.beq t d
     |none=>false
    |none=>false
   |none=>false)||(match o.op with
   | .pick (.tmp t) _ _=>Nat.beq t d
   |_=>false)
def aie:BinOp->Bool
 | .eql| .neq| .lss| .leq| .gtr| .geq=>true
 |_=>false
def Yd (P:aR) (t:aJ):aJ:=match P.underlying t with
 |some (.array _ e)=>e
 |some (.slice e)=>e
 |some (.map _ e)=>e
 |_=>0
def Ye (P:aR) (n:Nat):fW->Option (J×Nat×Bool)
 | .bin op _ _ _=>some (al n,1,aie op)
 | .un op _=>some (al n,1,decide (op= .not))
 | .bF t _=>(GY P t n).map λx=>(x.1,x.2,GZ P t)
 | .eD t _ _=>match P.underlying t with
   |some (.array _ e)=>(GY P e n).map λx=>(x.1,x.2,GZ P e)
   |_=>some (al n,1,false)
 | .kX t _ _ ok=>(GY P (Yd P t) n).map λx=>bif ok then (.tuple #[x.1,al (n+x.2)],x.2+1,false) else (x.1,x.2,GZ P (Yd P t))
 | .ez _=>none
 |_=>some (al n,1,false)
def Yf (P:aR):fW->List Nat
 | .cG t _ f=>match (P.fieldsOf t)[f]? with
   |some h7=>[h7.offset,h7.type,(bd P (sizeOf h7.type)).getD 0]
   |none=>[]
 | .dC t _ _=>match P.underlying t with
   |some (.array n e)=>[1,n,e,(bd P (sizeOf e)).getD 0]
   |some (.slice e)=>[0,e,(bd P (sizeOf e)).getD 0]
   |_=>[]
 | .bF t _=>[(bd P (sizeOf t)).getD 0]
 | .eD t _ _=>match P.underlying t with
   |some (.array n e)=>[1,n,e,(bd P (sizeOf e)).getD 0]
   |some .string=>[2]
   |_=>[]
 | .lV t _ _ _ _=>match P.underlying t with
   |some (.array n e)=>[1,n,e,(bd P (sizeOf e)).getD 0]
   |some (.slice e)=>[0,e,(bd P (sizeOf e)).getD 0]
   |some .string=>[2]
   |_=>[]
 | .len cW _ _=>match P.underlying (cW.getD 0 0) with
   |some (.slice e)=>[0,e]
   |some .string=>[2]
   |_=>[]
 |_=>[]
def sj (P:aR) (ops:Array Oper) (o:Oper) (sl:aG) (n:Nat):Option (fW×J×Nat×Bool):=
 match qq (dB .nil sl) o with
 |some f=>bif np f&&vR n f then match Ye P n f with
   |some (r,m,b)=>some (f,r,m,b&&PD ops o.dst)
   |none=>none
  else none
 |none=>none
where
 Ed (n:Nat):Option J->Bool
  |none=>true
  |some v=>kA n v
 vR (n:Nat):fW->Bool
  | .bin _ _ x y| .dC _ x y| .eD _ x y| .eR _ _ x y| .lz _ _ x y| .kX _ x y _=>kA n x&&kA n y
  | .un _ x| .ez x| .conv _ _ x| .bF _ x| .cG _ x _| .dQ x| .len _ _ x=>kA n x
  | .lV _ x fp ag eR=>kA n x&&(Ed n fp&&(Ed n ag&&Ed n eR))
def PE (P:aR) [Lib P] (o:Option bO) (ty:aJ) (n:Nat):Option (FuncId×List J×J×Nat):=
 match vy P o with
 |some (f,args,_)=>bif dP args&&oT n args then match aid P ty n with
   |some (r,m)=>some (f,args,r,m)
   |none=>none
  else none
 |none=>none
def bR.KO (f:J->J):bR J->bR J
 | .nil=> .nil
 | .node v l r=> .node (v.map f) (l.KO f) (r.KO f)
def oj (n:Nat) (bG:eg):Prop:=∀p∈bG,p.1=p.2/\kA n p.1=true
mutual
def okV (n m:Nat):J->Bool
 | .pointer (some ⟨b,_,none⟩)=>Nat.blt b n
 | .slice (some ⟨b,_,none⟩) _ _=>Nat.blt b n
 | .agg ⟨l⟩=>BZ n m l
 | .func (.func _) ⟨l⟩ ⟨k⟩=>BZ n m l&&BZ n m k
 | .func (.yield b) ⟨[]⟩ ⟨[]⟩=>Nat.blt b n
 |v=>yk v||(aL v&&kA m v)
def BZ (n m:Nat):List J->Bool
 |[]=>true
 |v::r=>okV n m v&&BZ n m r
end
def mV (n m:Nat):bR J->bR J
 | .nil=> .nil
 | .node none l r=> .node none (mV n m l) (mV n m r)
 | .node (some v) l r=>bif okV n m v then .node (some v) (mV n m l) (mV n m r) else .node none (mV n m l) (mV n m r)
def Yg (A:a') (i:Nat):Option bw:=match A.bl.get i with
 |some k=>some ⟨k.obj,k.ty,k.eF⟩
 |none=>none
def tl (A:a'):Nat->Nat->List bw
 |0,_=>[]
 |m+1,i=>match Yg A i with
  |some b=>b::tl A m (i+1)
  |none=>[]
def Af (s:b6):List bw:=tl s.A s.A.n 0
def Ag (m:Nat) (s:b6):aG×List bw:=(mV (Af s).length m s.sl,Af s)
def PF (n:Nat) (bG:eg):Bool:=bG.all λp=>fN p.1 p.2&&kA n p.1
def PG (n m:Nat):qT->Bool
 | .cells c=>BZ n m c
 | .gh .deferred=>true
 | .gh .gone=>true
 |_=>false
def Ee (n m:Nat):List bw->Bool
 |[]=>true
 |b::r=>PG n m b.obj&&Ee n m r
def sk (m:Nat) (aV:List bw):Bool:=zH aV&&Ee aV.length m aV
def KP (A:a'):List bw->Nat->Bool
 |[],_=>true
 |_::r,i=>(match A.bl.get i with|some k=>Nat.beq k.cN i&& !k.ro|none=>false)&&KP A r (i+1)
def Ah (s:b6):Bool:=(match s.ms with|[]=>true|_=>false)&&KP s.A (Af s) 0
def Ai (n:Nat) (s:b6) (sl:aG) (aV:List bw):Prop:=∃bG,cq s sl aV=some bG/\oj n bG/\rh aV=true
mutual
def PH (v u:J):J->J
 | .agg ⟨l⟩=> .agg ⟨G0 v u l⟩
 | .func (.func f) ⟨a⟩ ⟨b⟩=> .func (.func f) ⟨G0 v u a⟩ ⟨G0 v u b⟩
 |x=>bif fN x v then u else x
def G0 (v u:J):List J->List J
 |[]=>[]
 |x::r=>PH v u x::G0 v u r
end
def aif (v u:J):qT->qT
 | .cells c=> .cells (G0 v u c)
 |x=>x
def aih (v u:J) (b:bw):bw:={b with obj:=aif v u b.obj}
def Yh (n:Nat) (v u:J) (bG:eg):Bool:=bG.all λp=>(fN p.1 p.2&&kA n p.1)||(fN p.1 v&&fN p.2 u)
def uK (n:Nat) (v u:J) (s:b6) (sl:aG) (aV:List bw):Bool:=(match cq s sl aV with|some bG=>Yh n v u bG|none=>false)&&rh aV
def aii (t:Nat) (ops:Array Oper):Bool:=ops.any λo=>match o.dst with|some d=>Nat.beq d t|none=>false
def yO (t:Nat):Code->Bool
 | .region _ ops _=>aii t ops
 | .seq a b=>yO t a||yO t b
 | .cond _ a b=>yO t a||yO t b
 | .block _ b=>yO t b
 | .loop b=>yO t b
 | .rangeFunc _ ps a b=>ps.any (λd=>Nat.beq d t)||yO t a||yO t b
 |_=>false
mutual
def Yi (n:Nat):J->Option (J×List J)
 | .agg ⟨l⟩=>match Yj n l with
   |some (l',vs)=>some (.agg ⟨l'⟩,vs)
   |none=>none
 |v=>bif aL v then some (al n,[v]) else none
def Yj (n:Nat):List J->Option (List J×List J)
 |[]=>some ([],[])
 |v::r=>match Yi n v with
  |some (aB,vs)=>match Yj (n+vs.length) r with
   |some (dX,us)=>some (aB::dX,vs++us)
   |none=>none
  |none=>none
end
def KQ (c:Code):Nat->Nat->bR J->Nat->Option (bR J×List J)
 |_,_,.nil,_=>some (.nil,[])
 |pos,Aj,.node v l r,n=>
  match (match v with
   |none=>some (none,[])
   |some x=>bif yO pos c then (match Yi n x with|some (x',vs)=>some (some x',vs)|none=>some (none,[])) else some (some x,[])) with
  |none=>none
  |some (aB,vs)=>match KQ c (pos+Aj) (2*Aj) l (n+vs.length) with
   |none=>none
   |some (l',us)=>match KQ c (pos+2*Aj) (2*Aj) r (n+vs.length+us.length) with
    |none=>none
    |some (dX,iL)=>some (.node aB l' dX,vs++us++iL)
def PI (id:Nat) (cells:List (Nat×Nat×Nat)) (b:Nat):Nat->Nat->List J->List J×List J
 |_,_,[]=>([],[])
 |i,n,v::r=>bif cells.any (λp=>Nat.beq p.1 id&&(Nat.beq p.2.1 b&&Nat.beq p.2.2 i)) then
    let q:=PI id cells b (i+1) (n+1) r
    (al n::q.1,v::q.2)
  else
   let q:=PI id cells b (i+1) n r
   (v::q.1,q.2)
def G1 (id:Nat) (cells:List (Nat×Nat×Nat)):Nat->Nat->List bw->List bw×List J
 |_,_,[]=>([],[])
 |b,n,k::r=>match k.obj with
  | .cells c=>
    let q:=PI id cells b 0 n c
    let aE:=G1 id cells (b+1) (n+q.2.length) r
    ({k with obj:= .cells q.1}::aE.1,q.2++aE.2)
  |_=>let aE:=G1 id cells (b+1) n r
   (k::aE.1,aE.2)
def PJ:List fc->Nat
 | .vw id::_=>id
 |_::ks=>PJ ks
 |[]=>0
def aij (cf:iq) (body:Code) (ks:List fc) (s:b6) (n:Nat):Option (aG×List bw×List J):=
 let q:=Ag n s
 match KQ body 0 1 q.1 n with
 |none=>none
 |some (sl,vs)=>let aE:=G1 (PJ ks) cf.cells 0 (n+vs.length) q.2
  some (sl,aE.1,vs++aE.2)
def Yk (n:Nat) (vs:List J) (p:J×J):Bool:=(fN p.1 p.2&&kA n p.1)||(match p.2 with
 | .complex .f64 k 0=>Nat.ble n k&&(Nat.blt k eQ&&match vs[k-n]? with|some v=>fN v p.1|none=>false)
 |_=>false)
def Ef (n:Nat) (vs:List J) (bG:eg):Bool:=bG.all (Yk n vs)
def Yl (k:Nat):eg->Option J
 |[]=>none
 |p::r=>bif fN p.2 (al k) then some p.1 else Yl k r
def KR (bG:eg):Nat->Nat->List J
 |0,_=>[]
 |m+1,n=>(match Yl n bG with|some v=>v|none=>al n)::KR bG m (n+1)
def elemOf (P:aR) (t:aJ):Option aJ:=match P.underlying t with|some (.slice e)=>some e|_=>none
def yP:Option bO->aJ
 |some (.oper o _ _ _ _)=>match o.op with
  | .call c=>c.argTypes.getD 0 0
  |_=>0
 |_=>0
def aik:Option bO->aJ
 |some (.oper o _ _ _ _)=>o.type
 |_=>0
def sm (N n:Nat) (s:b6) (dst:Option Tmp) (r:J):Option (aG×List bw):=
 let q:=Ag n s
 bif Nat.blt n eQ&&(Ah s&&sk n q.2) then match gX N q.1 dst r with
  |some sl=>some (sl,q.2)
  |none=>none
 else none
def Ym (o:Option bO):iZ:= .ops (j6 o) (j7 o) (f_ o)
def Yn:Option bO->Option J
 |some (.oper op _ os s _)=>match op.guard with
  |some (j,_)=>match os[j]? with
   |some o'=>match o'.dst with
    |some t=>match s.sl.get t with
     |some (.complex .f64 k 0)=>some (al k)
     |_=>none
    |none=>none
   |none=>none
  |none=>match op.op with
   | .pick c _ _=>match dB .nil s.sl c with
     | .complex .f64 k 0=>some (al k)
     |_=>none
   |_=>none
 |_=>none
abbrev jY:=(bL->bL)×aG×List bw×Nat
def PK (cf:iq) (n:Nat) (o:Option bO):Option jY:=match oM o with
 |some (t,p,x)=>bif aL p&&aL x then (sm cf.N n (b4 o) (je o) undef).map λq=>(bL.st t p x,q.1,q.2,0) else none
 |none=>none
def PL (P:aR) (t:aJ):Nat:=match elemOf P t with
 |some e=>match bd P (sizeOf e) with
  |some k=>k
  |none=>0
 |none=>0
def PM (P:aR) (cf:iq) (n:Nat) (o:Option bO):Option jY:=match qy (yP o) o with
 |some (v,x)=>bif aL v then match Bx (b4 o).A (PL P (yP o)) x with
   |some c=>bif dP c then (sm cf.N n (b4 o) (je o) (al n)).map λq=>(bL.yN (yP o) v c,q.1,q.2,1) else none
   |none=>none
  else none
 |none=>none
def PN (cf:iq) (n:Nat) (o:Option bO):Option jY:=match qy (yP o) o with
 |some (v,x)=>bif aL v&&aL x then (sm cf.N n (b4 o) (je o) (al n)).map λq=>(bL.vO (yP o) v x,q.1,q.2,1) else none
 |none=>none
def PO (cf:iq) (n:Nat) (o:Option bO):Option jY:=match Ka o with
 |some (t,x)=>bif aL x then (sm cf.N n (b4 o) (je o) (al n)).map λq=>(bL.mk t x,q.1,q.2,1) else none
 |none=>none
def PQ (cf:iq) (n:Nat) (o:Option bO):Option jY:=match OS o with
 |some (t,x)=>bif aL x then (sm cf.N n (b4 o) (je o) (al n)).map λq=>(bL.lt t x,q.1,q.2,1) else none
 |none=>none
def PR (cf:iq) (n:Nat) (o:Option bO):Option jY:=match PB o with
 |some (t,xs)=>bif dP xs then (sm cf.N n (b4 o) (je o) (al n)).map λq=>(bL.Ae t xs,q.1,q.2,1) else none
 |none=>none
def ail:Option bO->aJ
 |some (.oper o _ _ _ _)=>match o.op with
  | .call c=>c.argTypes.getD 1 0
  |_=>0
 |_=>0
def PS (cf:iq) (n:Nat) (o:Option bO):Option jY:=match BK (yP o) (ail o) o with
 |some (v,x)=>bif aL v then match Bx (b4 o).A 1 x with
   |some c=>bif dP c then (sm cf.N n (b4 o) (je o) (.int .i64 c.length)).map λq=>(bL.sa (yP o) v c,q.1,q.2,0) else none
   |none=>none
  else none
 |none=>none
def PT (cf:iq) (n:Nat) (o:Option bO):Option jY:=match zV o with
 |some (t,x)=>bif aL x then (sm cf.N n (b4 o) (je o) (al n)).map λq=>(bL.p7 t x,q.1,q.2,1) else none
 |none=>none
def PU (cf:iq) (n:Nat) (o:Option bO):Option jY:=match Ga o with
 |some t=>(sm cf.N n (b4 o) (je o) (al n)).map λq=>(bL.qF t,q.1,q.2,1)
 |none=>none
def PV (cf:iq) (n:Nat) (o:Option bO):Option jY:=match DT o with
 |some t=>(sm cf.N n (b4 o) (je o) (al n)).map λq=>(bL.vP t,q.1,q.2,1)
 |none=>none
def PW (cf:iq) (n:Nat) (o:Option bO):Option jY:=match DU o with
 |some (t,m,i,x)=>bif aL m&&(aL i&&aL x) then (sm cf.N n (b4 o) (je o) undef).map λq=>(bL.vQ t m i x,q.1,q.2,0) else none
 |none=>none
def PX (P:aR) [Lib P] (cf:iq) (n:Nat) (o:Option bO):Option jY:=match PE P o (aik o) n with
 |some (f,args,r,m)=>bif aL r&&(oT n args&&dP args) then (sm cf.N n (kx P o) (je o) r).map λq=>(bL.call f args r m,q.1,q.2,m) else none
 |none=>none
def aim:Option bO->Option (Nat×Nat)
 |some (.oper op _ _ s _)=>match op.op with
  | .call c=>match c.callee with
    | .value _=>c.args.toList.findSome? λx=>match x with
      | .tmp t=>match s.sl.get t with
        |some (.slice (some ⟨b,0,none⟩) _ _)=>some (t,b)
        |_=>none
      |_=>none
    |_=>none
  |_=>none
 |_=>none
def PY (n:Nat) (o:Option bO):Option jY:=match aim o with
 |some (t,b)=>match uB o b t with
  |some (cs,m,c)=>match cq (b4 o) (mV (tl (b4 o).A b 0).length n (b4 o).sl) (tl (b4 o).A b 0) with
   |some bG=>bif PF n bG&&(rh (tl (b4 o).A b 0)&&(dP cs&&(Nat.blt n eQ&&(Nat.ble (tl (b4 o).A b 0).length b&&(Nat.blt 0 m&&Nat.ble m c))))) then
     (bR.set (al n) depth (mV (tl (b4 o).A b 0).length n (b4 o).sl) t).map λsl=>(bL.tj cs m c,sl,tl (b4 o).A b 0,1)
    else none
   |none=>none
  |none=>none
 |none=>none
def tm (a b:Option jY):Option jY:=match a with
 |some x=>some x
 |none=>b
def KS (P:aR) [Lib P] (cf:iq) (n:Nat) (o:Option bO):Option jY:=
 tm (PK cf n o) (tm (PM P cf n o) (tm (PN cf n o) (tm (PO cf n o) (tm (PQ cf n o) (tm (PR cf n o) (tm (PS cf n o) (tm (PT cf n o) (tm (PU cf n o) (tm (PV cf n o) (tm (PW cf n o) (PX P cf n o)))))))))))
abbrev ji:=Nat->List iS->iZ->Nat->aG->List bw->jM->jX->Option bO->Option bL
def PZ (P:aR) [Lib P] (cf:iq) (n:Nat) (q:Option bO):Option (Sum (fW×J×Nat×Bool) (FuncId×List J×J×Nat×Bool)):=
 match q with
 |some (.oper op _ os s _)=>match q5 os op s.sl with
  |some true=>match sj P os op s.sl n with
   |some x=>some (.inl x)
   |none=>match PE P q op.type n with
    |some (f,args,r,m)=>bif cf.pw.contains f then none else some (.inr (f,args,r,m,GZ P op.type&&PD os op.dst))
    |none=>none
  |_=>none
 |_=>none
def Yo (P:aR) [Lib P] (cf:iq) (F:jM) (T:jX):Option bO->Option bO
 |some (.oper op r os s ks)=>Bs P F T cf.N 1000 cf.d (op::r) os ks s
 |_=>none
section
variable {eY:Type}
def px (n:Nat) (k:Nat->eY):eY:=match n with
 |0=>k 0
 |m+1=>k (m+1)
def qG {α:Type} (f:α->(α->eY)->eY):List α->(List α->eY)->eY
 |[],k=>k []
 |v::l,k=>f v λaB=>qG f l λl'=>k (aB::l')
def G2 {α:Type} (f:α->(α->eY)->eY):Option α->(Option α->eY)->eY
 |none,k=>k none
 |some a,k=>f a λaW=>k (some aW)
def P0 (a:Addr) (k:Addr->eY):eY:=match a with
 |⟨b,o,m⟩=>px b λb'=>px o λo'=>G2 (λx k=>k x) m λm'=>k ⟨b',o',m'⟩
def Yp (i:Int) (k:Int->eY):eY:=match i with
 | .ofNat n=>px n λfS=>k (.ofNat fS)
 | .negSucc n=>px n λfS=>k (.negSucc fS)
def KT (b:Bool) (k:Bool->eY):eY:=match b with
 |true=>k true
 |false=>k false
def B0:Nat->J->(J->eY)->eY
 |0=>λv k=>k v
 |d+1=>λv k=>match v with
  | .bool b=>KT b λb'=>k (.bool b')
  | .agg ⟨l⟩=>qG (B0 d) l λl'=>k (.agg ⟨l'⟩)
  | .complex t x y=>px x λx'=>px y λfD=>k (.complex t x' fD)
  | .int t i=>Yp i λrT=>k (.int t rT)
  | .pointer p=>G2 P0 p λp'=>k (.pointer p')
  | .slice p n c=>G2 P0 p λp'=>px n λfS=>px c λc'=>k (.slice p' fS c')
  |v=>k v
def KU:bR J->(bR J->eY)->eY
 | .nil,k=>k .nil
 | .node none l r,k=>KU l λl'=>KU r λdX=>k (.node none l' dX)
 | .node (some v) l r,k=>B0 3 v λaB=>KU l λl'=>KU r λdX=>k (.node (some aB) l' dX)
def Yq (b:bw) (k:bw->eY):eY:=match b with
 |⟨.cells l,t,m⟩=>px t λda=>px m λm'=>qG (B0 3) l λl'=>k ⟨.cells l',da,m'⟩
 |⟨.map es c,t,m⟩=>k ⟨.map es c,t,m⟩
 |⟨.gh x,t,m⟩=>k ⟨.gh x,t,m⟩
def Eg (x:fc) (k:fc->eY):eY:=match x with
 | .mO y=>k (.mO y)
 | .vw i=>k (.vw i)
 | .sZ c m=>px m λm'=>k (.sZ c m')
def KV {α:Type} (f:α->(α->eY)->eY) (a:Array α) (k:Array α->eY):eY:=match a with
 |⟨l⟩=>qG f l λl'=>k ⟨l'⟩
def Yr:iZ->(iZ->eY)->eY
 | .k x ks,k=>qG Eg ks λB1=>k (.k x B1)
 | .ops r os ks,k=>qG (λx k=>k x) r λdX=>KV (λx k=>k x) os λain=>qG Eg ks λB1=>k (.ops dX ain B1)
 | .any f os l ks,k=>px f λhv=>KV KT l λl'=>qG Eg ks λB1=>k (.any hv os l' B1)
theorem tn (n:Nat) (k:Nat->eY):px n k=k n:=by cases n<;>rfl
theorem yQ {α:Type} {f:α->(α->eY)->eY} (aO:∀v k,f v k=k v):∀(l:List α) (k:List α->eY),qG f l k=k l
 |[],k=>rfl
 |v::l,k=>by
  show f v (λaB=>qG f l λl'=>k (aB::l'))=_;rw[aO,yQ aO l]
theorem P1 {α:Type} {f:α->(α->eY)->eY} (aO:∀v k,f v k=k v) (o:Option α) (k:Option α->eY):G2 f o k=k o:=by
 cases o with
 |none=>rfl
 |some a=>exact aO a λaW=>k (some aW)
theorem Ys (a:Addr) (k:Addr->eY):P0 a k=k a:=by
 obtain⟨b,o,m⟩:=a;show px b (λb'=>px o λo'=>G2 (λx k=>k x) m λm'=>k ⟨b',o',m'⟩)=_;rw[tn,tn,P1 λ_ _=>rfl]
theorem aio (i:Int) (k:Int->eY):Yp i k=k i:=by
 cases i with
 |ofNat n=>exact tn n λfS=>k (.ofNat fS)
 |negSucc n=>exact tn n λfS=>k (.negSucc fS)
theorem Yt (b:Bool) (k:Bool->eY):KT b k=k b:=by cases b<;>rfl
theorem P2:∀(d:Nat) (v:J) (k:J->eY),B0 d v k=k v
 |0,v,k=>rfl
 |d+1,v,k=>by
  unfold B0;split
  ·rw[Yt]
  ·rw[yQ (P2 d)]
  ·rw[tn,tn]
  ·rw[aio]
  ·rw[P1 Ys]
  ·rw[P1 Ys,tn,tn]
  ·rfl
theorem aip (b:bw) (k:bw->eY):Yq b k=k b:=by
 obtain⟨o,t,m⟩:=b;cases o with
 |cells l=>
  show px t (λda=>px m λm'=>qG (B0 3) l λl'=>k ⟨.cells l',da,m'⟩)=_;rw[tn,tn,yQ (P2 3)]
 |map es c=>rfl
 |gh x=>rfl
theorem P3 (x:fc) (k:fc->eY):Eg x k=k x:=by
 cases x with
 |sZ c m=>exact tn m λm'=>k (.sZ c m')
 |_=>rfl
theorem Yu {α:Type} {f:α->(α->eY)->eY} (aO:∀v k,f v k=k v) (a:Array α) (k:Array α->eY):KV f a k=k a:=by
 obtain⟨l⟩:=a;show qG f l (λl'=>k ⟨l'⟩)=_;rw[yQ aO]
theorem aiq (p:iZ) (k:iZ->eY):Yr p k=k p:=by
 cases p with
 |k x ks=>
  show qG Eg ks _=_;rw[yQ P3]
 |ops r os ks=>
  show qG (λx k=>k x) r _=_;rw[yQ (λ_ _=>rfl),Yu (λ_ _=>rfl),yQ P3]
 |any f os l ks=>
  refine(tn f λhv=>KV KT l λl'=>qG Eg ks λB1=>k (.any hv os l' B1)).trans ?_;rw[Yu Yt,yQ P3]
end
section
variable {eY:Type}
def vS (n m:Nat):bR J->(bR J->eY)->eY
 | .nil,k=>k .nil
 | .node none l r,k=>vS n m l λl'=>vS n m r λdX=>k (.node none l' dX)
 | .node (some v) l r,k=>bif okV n m v then B0 3 v λaB=>vS n m l λl'=>vS n m r λdX=>k (.node (some aB) l' dX) else vS n m l λl'=>vS n m r λdX=>k (.node none l' dX)
theorem B2 (n m:Nat):∀(t:bR J) (k:bR J->eY),vS n m t k=k (mV n m t)
 | .nil,k=>rfl
 | .node none l r,k=>by
   show vS n m l (λl'=>vS n m r λdX=>k (.node none l' dX))=_;rw[B2 n m l,B2 n m r];rfl
 | .node (some v) l r,k=>by
   unfold vS mV;cases okV n m v with
   |true=>rw[bx,bx,P2,B2 n m l,B2 n m r]
   |false=>rw[ek,ek,B2 n m l,B2 n m r]
end
def G3 (G:ji) (n:Nat) (cs:List iS) (dL:iZ) (F:jM) (T:jX) (sl:aG) (aV:List bw) (go:iZ->aG->List bw->Option bO):Option bL:=
 px n λn=>qG Yq aV λaV=>bif sk n aV then Yr dL λdL=>vS aV.length n sl λsl=>G n cs dL n sl aV F T (go dL sl aV) else none
theorem air (G:ji) (n:Nat) (cs:List iS) (dL:iZ) (F:jM) (T:jX) (sl:aG) (aV:List bw) (go:iZ->aG->List bw->Option bO):G3 G n cs dL F T sl aV go=bif sk n aV then G n cs dL n (mV aV.length n sl) aV F T (go dL (mV aV.length n sl) aV) else none:=by
 unfold G3;rw[tn,yQ aip,aiq,B2]
def rq (P:aR) [Lib P] (cf:iq) (G:ji) (n:Nat) (cs:List iS) (dL:iZ) (sl:aG) (aV:List bw):Option bL:=
 G3 G n cs dL (GX cf.marks) [] sl aV λdL sl aV=>dL.run P (GX cf.marks) [] cf.N cf.d (b7 sl aV)
def KW (P:aR) [Lib P] (cf:iq) (G:ji) (n:Nat) (cs:List iS) (dL:iZ) (s:b6):Option bL:=bif Ah s then rq P cf G n cs dL s.sl (Af s) else none
def two (a b:Option bL) (f:bL->bL->bL):Option bL:=match a with
 |some x=>match b with
  |some y=>some (f x y)
  |none=>none
 |none=>none
def G4 (P:aR) (G:ji) (n:Nat) (cs:List iS) (dL:iZ) (dV:Nat) (sl:aG) (aV:List bw) (F:jM) (T:jX) (go:jM->Option bO):fW×J×Nat×Bool->Option bL
 |(f,r,m,b)=>bif sj.vR n f then
    bif b then two (G n cs dL dV sl aV (F++[(f,.bool true)]) T (go [(f,.bool true)])) (G n cs dL dV sl aV (F++[(f,.bool false)]) T (go [(f,.bool false)])) (bL.s f (Yf P f))
    else bif kA (n+m) r then (G (n+m) cs dL dV sl aV (F++[(f,r)]) T (go [(f,r)])).map (bL.o f r m (Yf P f)) else none
  else none
def G5 (G:ji) (n:Nat) (cs:List iS) (dL:iZ) (dV:Nat) (sl:aG) (aV:List bw) (F:jM) (T:jX) (go:jX->Option bO):FuncId×List J×J×Nat×Bool->Option bL
 |(f,args,r,m,b)=>bif oT n args&&dP args then
    bif b then two (G n cs dL dV sl aV F (T++[(f,args,.bool true)]) (go [(f,args,.bool true)])) (G n cs dL dV sl aV F (T++[(f,args,.bool false)]) (go [(f,args,.bool false)])) (bL.cs f args)
    else bif kA (n+m) r&&aL r then (G (n+m) cs dL dV sl aV F (T++[(f,args,r)]) (go [(f,args,r)])).map (bL.c f args r m) else none
  else none
def P4 (P:aR) [Lib P] (cf:iq) (G:ji) (n:Nat) (cs:List iS) (x:k0) (s:b6):Option bL:=match cs with
 |[]=>match gk P cf.fn (some (.done x s)) with
  |some v=>some (.ret v)
  |none=>match endCell cf.fn (some (.done x s)) with
   |some (t,x)=>bif aL x then some (.tk t x) else none
   |none=>none
 |c::cs'=>match x with
  | .normal=>match cq s c.sl c.aV with
    |some bG=>bif Ef c.n (KR bG c.m c.n) bG&&rh c.aV then some (.back (KR bG c.m c.n)) else none
    |none=>none
  |x=>(KW P cf G n cs' (.k x c.ks) s).map bL.fT
def ais (cf:iq) (ks:List fc):Option Nat:=(cf.aic.find? λp=>Nat.beq p.1 (PJ ks)).map (·.2)
def P5 (P:aR) [Lib P] (cf:iq) (G:ji) (n:Nat) (cs:List iS) (body:Code) (s:b6) (ks:List fc):Option bL:=
 match ais cf ks with
 |some m=>KW P cf G n cs (.k .normal (.sZ body m::ks)) s
 |none=>match aij cf body ks s n with
 |some (p8,oU,vs)=>match cq s p8 oU with
  |some bG=>bif Ef n vs bG&&rh oU then (rq P cf G (n+vs.length) (⟨p8,oU,n,vs.length,ks⟩::cs) (.k .normal [.mO body]) p8 oU).map (bL.loop vs vs.length) else none
  |none=>none
 |none=>none
def Yv (n:Nat):List Nat->aG->Option aG
 |[],sl=>some sl
 |t::r,sl=>match bR.set (al n) depth sl t with
  |some dH=>Yv (n+1) r dH
  |none=>none
def ait (cf:iq) (c:Operand) (x y:Code) (s:b6) (n:Nat):Option (aG×List bw×Nat):=match c with
 | .tmp t=>match cf.KN.find? λp=>Nat.beq p.1 t with
   |some (_,ext)=>match KQ (.seq x y) 0 1 ((Ag n s).1.KO (PH (dB .nil s.sl c) cp)) n with
    |none=>none
    |some (sl,vs)=>match Yv (n+vs.length) ext sl with
     |none=>none
     |some du=>some (du,(G1 (1000+t) cf.cells 0 (n+vs.length+ext.length) (Ag n s).2).1,vs.length+ext.length+(G1 (1000+t) cf.cells 0 (n+vs.length+ext.length) (Ag n s).2).2.length)
   |none=>none
 |_=>none
def kh (n:Nat) (v u:J) (s:b6):aG×List bw:=((Ag n s).1.KO (PH v u),(Ag n s).2.map (aih v u))
def P6 (a b:List Nat):Bool:=decide (a=b)
def jF:bL->bL->Bool
 | .o f r m h k,.o hv dX m' fm k'=>Da f hv&&(fN r dX&&(Nat.beq m m'&&(P6 h fm&&jF k k')))
 | .s f h db dr,.s hv fm u7 yR=>Da f hv&&(P6 h fm&&(jF db u7&&jF dr yR))
 | .c f a r m k,.c hv aW dX m' k'=>Nat.beq f hv&&(n9 a aW&&(fN r dX&&(Nat.beq m m'&&jF k k')))
 | .cs f a db dr,.cs hv aW u7 yR=>Nat.beq f hv&&(n9 a aW&&(jF db u7&&jF dr yR))
 | .eO x db dr,.eO x' u7 yR=>fN x x'&&(jF db u7&&jF dr yR)
 | .vN x db dr m k,.vN x' u7 yR m' k'=>fN x x'&&(jF db u7&&(jF dr yR&&(Nat.beq m m'&&jF k k')))
 | .no,.no=>true
 | .Ae t xs k,.Ae da xs' k'=>Nat.beq t da&&(n9 xs xs'&&jF k k')
 | .alt db dr,.alt u7 yR=>jF db u7&&jF dr yR
 | .tk t x,.tk da x'=>Nat.beq t da&&fN x x'
 | .sa t s c k,.sa da fu c' k'=>Nat.beq t da&&(fN s fu&&(n9 c c'&&jF k k'))
 | .ret v,.ret aB=>fN v aB
 | .back vs,.back cF=>n9 vs cF
 | .loop vs m k,.loop cF m' k'=>n9 vs cF&&(Nat.beq m m'&&jF k k')
 | .fT k,.fT k'=>jF k k'
 | .st t p x k,.st da p' x' k'=>Nat.beq t da&&(fN p p'&&(fN x x'&&jF k k'))
 | .yN t s c k,.yN da fu c' k'=>Nat.beq t da&&(fN s fu&&(n9 c c'&&jF k k'))
 | .vO t s x k,.vO da fu x' k'=>Nat.beq t da&&(fN s fu&&(fN x x'&&jF k k'))
 | .mk t x k,.mk da x' k'=>Nat.beq t da&&(fN x x'&&jF k k')
 | .tj c m d k,.tj c' m' mI k'=>n9 c c'&&(Nat.beq m m'&&(Nat.beq d mI&&jF k k'))
 | .lt t x k,.lt da x' k'=>Nat.beq t da&&(fN x x'&&jF k k')
 | .p7 t x k,.p7 da x' k'=>Nat.beq t da&&(fN x x'&&jF k k')
 | .qF t k,.qF da k'=>Nat.beq t da&&jF k k'
 | .vP t k,.vP da k'=>Nat.beq t da&&jF k k'
 | .vQ t m i x k,.vQ da m' rT x' k'=>Nat.beq t da&&(fN m m'&&(fN i rT&&(fN x x'&&jF k k')))
 | .call f a r m k,.call hv aW dX m' k'=>Nat.beq f hv&&(n9 a aW&&(fN r dX&&(Nat.beq m m'&&jF k k')))
 |_,_=>false
def G6 (x:bL):bL->Bool
 | .alt a b=>jF x a||G6 x b
 |t=>jF x t
def KX:List (Option bL)->Option bL
 |[]=>none
 |[a]=>a
 |a::r=>match a,KX r with
  |some x,some y=>bif G6 x y then some y else some (.alt x y)
  |_,_=>none
def G7 (G:ji) (n:Nat) (cs:List iS) (dL:iZ) (F:jM) (T:jX) (sl:aG) (aV:List bw):Option bL:=G3 G n cs dL F T sl aV λ_ _ _=>none
def KY (G:ji) (n:Nat) (cs:List iS) (dL:iZ) (F:jM) (T:jX) (s:b6):Option bL:=bif Ah s then G7 G n cs dL F T s.sl (Af s) else none
def P7 (N:Nat) (os:Array Oper) (sl:aG) (o:Oper):Option Bool:=
 match o.guard with
 |none=>some true
 |some (j,b)=>match ft os j with
  |some t=>bif Nat.blt t N then match sl.get t with
   |some (.bool b')=>some (b==b')
   |_=>none else none
  |none=>none
def P8 (P:aR) [dS P] (bp:Operand->J) (o:Oper):Option J:=
 match o.op with
 | .pick c x y=>match bp c with
   | .bool b=>some (bif b then bp x else bp y)
   |_=>none
 | .extract t i=>Fa (bp t) i
 | .move _| .assign _| .binOp .. | .unOp .. | .fieldAddr .. | .indexAddr .. =>x8 P bp o
 | .call c=>match c.callee with
   | .builtin _=>match qq bp o with
     |some f=>bif Db f then ui P bp o else none
     |none=>none
   |_=>none
 | .nilCheck _=>ui P bp o
 |_=>none
def Eh (o:Oper):Bool:=match o.op with| .call c=>(match c.callee with| .builtin _=>true|_=>false)|_=>true
def KZ (P:aR) [dS P] (N:Nat) (os:Array Oper) (l:Array Bool) (sl:aG) (i:Nat):Option aG:=
 match os[i]? with
 |some o=>match P7 N os sl o with
  |some true=>match P8 P (dB .nil sl) o with
   |some v=>bif Region.free .any os l i then gX N sl o.dst v else none
   |none=>none
  |some false=>bif Eh o&&Region.free .any os l i then gX N sl o.dst undef else none
  |none=>none
 |none=>none
def G8 (P:aR) [dS P] (N:Nat) (os:Array Oper) (l:Array Bool) (sl:aG):List Nat->Option (Nat×aG)
 |[]=>none
 |i::r=>match KZ P N os l sl i with
  |some eE=>some (i,eE)
  |none=>G8 P N os l sl r
def Ei (P:aR) [dS P] (N:Nat) (os:Array Oper):Nat->Array Bool->aG->Nat×Array Bool×aG
 |0,l,sl=>(0,l,sl)
 |f+1,l,sl=>match G8 P N os l sl (Region.ready .any os l) with
  |some (i,eE)=>Ei P N os f (l.setIfInBounds i true) eE
  |none=>(f+1,l,sl)
def anyOp (P:aR) [Lib P] (cf:iq) (G:ji) (n:Nat) (cs:List iS) (bm:Nat) (os:Array Oper) (listed:Array Bool) (ks:List fc) (s:b6) (F:jM) (T:jX) (i:Nat):Option bL:=
 match os[i]? with
 |none=>none
 |some o=>match @wQ P _ ⟨F⟩ (@sW P _ ⟨F⟩ ⟨T⟩ .nil 1000 cf.d) .nil cf.N os o s.sl s.A with
  |some (eE,bB)=>KY G n cs (.any bm os (listed.setIfInBounds i true) ks) F T {s with sl:=eE,A:=bB}
  |none=>match KS P cf n (some (.oper o [] os s [])) with
   |some (pd,dH,Yw,m)=>(G7 G (n+m) cs (.any bm os (listed.setIfInBounds i true) ks) (GX cf.marks) [] dH Yw).map pd
   |none=>none
def P9 (P:aR) [Lib P] (cf:iq) (G:ji) (n:Nat) (cs:List iS) (bm:Nat) (os:Array Oper) (listed:Array Bool) (ks:List fc) (sl:aG) (aV:List bw) (F:jM) (T:jX):Option bL:=
 match Region.ready .any os listed with
 |[]=>rq P cf G n cs (.k .normal ks) sl aV
 |rY=>match bm with
  |0=>none
  |bm+1=>match @G8 P ⟨F⟩ cf.N os listed sl rY with
   |some (i,eE)=>bif Region.noSelect os then
     (let q:= @Ei P ⟨F⟩ cf.N os bm (listed.setIfInBounds i true) eE
     G7 G n cs (.any q.1 os q.2.1 ks) F T q.2.2 aV) else none
   |none=>KX (rY.map (anyOp P cf G n cs bm os listed ks (b7 sl aV) F T))
def P' (P:aR) [Lib P] (cf:iq) (G:ji) (n:Nat) (cs:List iS) (v:J) (s:b6) (x y:Code) (ks:List fc) (p8:aG) (oU:List bw) (m:Nat):Option bL:=
 bif uK n v (.bool true) s (kh n v (.bool true) s).1 (kh n v (.bool true) s).2&&uK n v (.bool false) s (kh n v (.bool false) s).1 (kh n v (.bool false) s).2 then
  match rq P cf G n (⟨p8,oU,n,m,ks⟩::cs) (.k .normal [.mO x]) (kh n v (.bool true) s).1 (kh n v (.bool true) s).2 with
  |some db=>match rq P cf G n (⟨p8,oU,n,m,ks⟩::cs) (.k .normal [.mO y]) (kh n v (.bool false) s).1 (kh n v (.bool false) s).2 with
   |some dr=>(rq P cf G (n+m) cs (.k .normal ks) p8 oU).map (bL.vN v db dr m)
   |none=>none
  |none=>none
 else none
def aiu (cf:iq) (v:J):Option Bool:=(cf.w_.find? λp=>fN v (al p.1)).map (·.2)
def G9 (P:aR) [Lib P] (cf:iq) (G:ji) (n:Nat) (cs:List iS) (v:J) (s:b6) (ki kj:iZ):Option bL:=match aiu cf v with
 |some b=>bif uK n v (.bool b) s (kh n v (.bool b) s).1 (kh n v (.bool b) s).2 then (rq P cf G n cs (bif b then ki else kj) (kh n v (.bool b) s).1 (kh n v (.bool b) s).2).map λk=>bif b then .eO v k .no else .eO v .no k else none
 |none=>bif uK n v (.bool true) s (kh n v (.bool true) s).1 (kh n v (.bool true) s).2&&uK n v (.bool false) s (kh n v (.bool false) s).1 (kh n v (.bool false) s).2 then
  two (rq P cf G n cs ki (kh n v (.bool true) s).1 (kh n v (.bool true) s).2) (rq P cf G n cs kj (kh n v (.bool false) s).1 (kh n v (.bool false) s).2) (bL.eO v)
 else none
def P_ (P:aR) [Lib P] (cf:iq) (G:ji) (n:Nat) (cs:List iS) (o:Option bO):Option bL:=match KS P cf n o with
 |some (pd,sl,aV,m)=>(rq P cf G (n+m) cs (Ym o) sl aV).map pd
 |none=>none
def Qa (P:aR) [Lib P] (cf:iq) (G:ji) (n:Nat) (cs:List iS) (Qb:Option J) (F:jM) (T:jX):Option bO->Option bL
 |some (.draw id os s ks)=>match Qb with
  |some v=>G9 P cf G n cs v s (.k .normal (.mO (.region id os true)::ks)) (.k .normal (.mO (.region id os true)::ks))
  |none=>KY G n cs (.any os.size os (Array.replicate os.size false) ks) F T s
 |some (.done x s)=>P4 P cf G n cs x s
 |some (.loop body s ks)=>P5 P cf G n cs body s ks
 |some (.cond c x y s ks)=>bif aL (dB .nil s.sl c) then match ait cf c x y s n with
  |some (p8,oU,m)=>P' P cf G n cs (dB .nil s.sl c) s x y ks p8 oU m
  |none=>G9 P cf G n cs (dB .nil s.sl c) s (.k .normal (.mO x::ks)) (.k .normal (.mO y::ks)) else none
 |some (.oper op r os s ks)=>match Yn (some (.oper op r os s ks)) with
  |some v=>G9 P cf G n cs v s (.ops (op::r) os ks) (.ops (op::r) os ks)
  |none=>match PY n (some (.oper op r os s ks)) with
   |some (pd,sl,aV,m)=>(rq P cf G (n+m) cs (.ops (op::r) os ks) sl aV).map pd
   |none=>P_ P cf G n cs (some (.oper op r os s ks))
 |_=>none
def G' (d:Tmp):Operand->Bool
 | .tmp t=>Nat.beq t d
 |_=>false
def Qc (ops:Array Oper):Nat->Option Tmp->Bool
 |0,_=>false
 |_,none=>false
 |k+1,some d=>PD ops (some d)||ops.any λo=>(match o.op with
   | .move x| .assign x=>G' d x
   | .pick c x y=>G' d c||(G' d x||G' d y)
   | .unOp _ _ x=>G' d x
   |_=>false)&&Qc ops k o.dst
def Yx (P:aR) (ops:Array Oper) (o:Oper):Sum (fW×J×Nat×Bool) (FuncId×List J×J×Nat×Bool)->Sum (fW×J×Nat×Bool) (FuncId×List J×J×Nat×Bool)
 | .inl (f,r,m,b)=> .inl (f,r,m,b||((match Ye P 0 f with|some (_,_,b')=>b'|none=>false)&&Qc ops 8 o.dst))
 | .inr (f,a,r,m,b)=> .inr (f,a,r,m,b||(GZ P o.type&&Qc ops 8 o.dst))
def Qd (P:aR) [Lib P] (cf:iq) (F:jM) (T:jX) (n:Nat) (os:Array Oper) (s:b6):List Oper->aG->a'->Option (Sum (fW×J×Nat×Bool) (FuncId×List J×J×Nat×Bool))×Option J
 |[],_,_=>(none,none)
 |o::r,sl,A=>match @wQ P _ ⟨F⟩ (@sW P _ ⟨F⟩ ⟨T⟩ .nil 1000 cf.d) .nil cf.N os o sl A with
  |some (eE,bB)=>Qd P cf F T n os s r eE bB
  |none=>match PZ P cf n (some (.oper o r os {s with sl:=sl,A:=A} [])) with
   |some x=>(some (Yx P os o x),none)
   |none=>match Yn (some (.oper o r os {s with sl:=sl,A:=A} [])) with
    |some v=>(none,some v)
    |none=>Qd P cf F T n os s r sl A
def Yy (P:aR) [Lib P] (cf:iq) (F:jM) (T:jX) (n:Nat):Option bO->Option (Sum (fW×J×Nat×Bool) (FuncId×List J×J×Nat×Bool))×Option J
 |some (.draw _ os s _)=>Qd P cf F T n os s os.toList s.sl s.A
 |_=>(none,none)
def Qe (P:aR) [Lib P] (cf:iq) (G:ji) (n:Nat) (cs:List iS) (dL:iZ) (dV:Nat) (sl:aG) (aV:List bw) (F:jM) (T:jX) (o:Option bO):Option bL:=
 match PZ P cf n o with
 |some (.inl x)=>G4 P G n cs dL dV sl aV F T (λQf=>Yo P cf (F++Qf) T o) x
 |some (.inr x)=>G5 G n cs dL dV sl aV F T (λQg=>Yo P cf F (T++Qg) o) x
 |none=>match (Yy P cf F T n (dL.run P F T cf.N cf.d (b7 sl aV))).1 with
  |some (.inl x)=>G4 P G n cs dL dV sl aV F T (λQf=>dL.run P (F++Qf) T cf.N cf.d (b7 sl aV)) x
  |some (.inr x)=>G5 G n cs dL dV sl aV F T (λQg=>dL.run P F (T++Qg) cf.N cf.d (b7 sl aV)) x
  |none=>Qa P cf G n cs (Yy P cf F T n (dL.run P F T cf.N cf.d (b7 sl aV))).2 F T (dL.run P F T cf.N cf.d (b7 sl aV))
def aiv (P:aR) [Lib P] (cf:iq) (F:jM) (T:jX) (n:Nat) (os:Array Oper) (listed:Array Bool) (s:b6):Option (Sum (fW×J×Nat×Bool) (FuncId×List J×J×Nat×Bool)):=
 (Region.ready .any os listed).findSome? λi=>match os[i]? with
   |none=>none
   |some o=>match @wQ P _ ⟨F⟩ (@sW P _ ⟨F⟩ ⟨T⟩ .nil 1000 cf.d) .nil cf.N os o s.sl s.A with
    |some _=>none
    |none=>(PZ P cf n (some (.oper o [] os s []))).map (Yx P os o)
def Qh (P:aR) [Lib P] (cf:iq) (G:ji) (n:Nat) (cs:List iS) (dL:iZ) (dV:Nat) (sl:aG) (aV:List bw) (F:jM) (T:jX) (o:Option bO):Option bL:=
 match dL with
 | .any bm os listed ks=>match aiv P cf F T n os listed (b7 sl aV) with
   |some (.inl x)=>G4 P G n cs dL dV sl aV F T (λ_=>none) x
   |some (.inr x)=>G5 G n cs dL dV sl aV F T (λ_=>none) x
   |none=>P9 P cf G n cs bm os listed ks sl aV F T
 |_=>Qe P cf G n cs dL dV sl aV F T o
def gen (P:aR) [Lib P] (cf:iq):Nat->ji
 |0=>λ_ _ _ _ _ _ _ _ _=>none
 |bm+1=>Qh P cf (gen P cf bm)
def jj (P:aR) [Lib P] (f:FuncId) (h:BY) (args:List J) (n:Nat):Option bL:=
 match P.funcs[f]? with
 |some fn=>match fn.body with
  |some c=>match setArgs 0 args .nil with
   |some sl=>
    let cf:iq:=⟨h,args.length+(fn.ntmps-args.length),fn⟩
    bif dP args then rq P cf (gen P cf 10000) n [] (.k .normal [.mO c]) sl [] else none
   |none=>none
  |none=>none
 |none=>none
end AE
end Go.Proofs.YtepcfjbfkedlpaaDoor
