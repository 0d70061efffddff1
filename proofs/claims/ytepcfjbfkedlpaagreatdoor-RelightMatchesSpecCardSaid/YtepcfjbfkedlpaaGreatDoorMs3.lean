/- Parts of the proof. -/
import Derived.Test.YtepcfjbfkedlpaaGreatDoorMs2
import Derived.Laws.OwnMore
import Derived.Laws.CopyRow
import Derived.Laws.Pointers
set_option maxRecDepth 100000
set_option maxHeartbeats 4000000
namespace Go.Proofs.YtepcfjbfkedlpaaGreatDoor
open Go Go.RowKit
namespace AE
theorem Uf {α:Type} {k:Nat} {enc:α->List J} (ag:∀x,(enc x).length=k) {j:Nat} (hj:j<k) {mf:J} {y:α}:∀(l:List α) (i:Nat),i<l.length->(∀x,l[i]? =some x->enc y=(enc x).set j mf)->(l.set i y).flatMap enc=(l.flatMap enc).set (i*k+j) mf
 |[],i,h,_=>by simp at h
 |x::r,0,_,a_=>by
  rw[List.set_cons_zero,List.flatMap_cons,List.flatMap_cons,a_ x rfl,List.set_append_left _ _ (by rw[ag];omega),Nat.zero_mul,Nat.zero_add]
 |x::r,i+1,h,a_=>by
  rw[List.set_cons_succ,List.flatMap_cons,List.flatMap_cons,Uf ag hj r i (by simpa using h) (λz bu=>a_ z (by simpa using bu)),List.set_append_right _ _ (by rw[ag,Nat.add_mul];omega),ag];congr 2;rw[Nat.add_mul];omega
theorem Ug [cK] {α:Type} {P:aQ} {N B:Nat} {w0:ao} {Q:Exit->Act->ao->Prop} {M:Mem} {bh bC:List J} {o:Option bQ} {t e:aK} {k:Nat} {p x u mf:J} {enc:α->List J} {l l':List α} {i j:Nat} {y:α} {dF du:a1} {aT:List bS} {bG:ec}
  (eT:l'=l.set i y) (h:oQ o=some (t,p,x)) (b5:a' P (sizeOf t)=some 1) (ag:∀x,(enc x).length=k) (hj:j<k) (a_:∀z,l[i]? =some z->enc y=(enc z).set j mf)
  (cY:d' (de o) dF aT=some bG) (dW:gG N dF (iq o) undef=some du) (hp:aP p=true) (ah:aP x=true) (lO: @aM (aY M bh) p=kt u (i*k+j)) (ex: @aM (aY M bh) x=mf) (hu:mf.cells= #[mf]) (je:mf.oneCell'=true)
  (cj:dt B M e k enc u l) (af:i<l.length) (hm:∀M',e8 (aY M bh) (aY M' bC) bG)
  (rest:∀M',dt B M' e k enc u l'->gR M M' (ek u)->∀aR w,@Here (aY M' bC) _ N {sl:=du,ms:=[],A:=ff aT} B w0 aR w->wpListIn (Fr none) 0 P (jq o) (dK P (hk o) Q) (jo o) aR w)
  (ak:cK.cU<=aT.length:=by first|exact Nat.zero_le _|exact hQ rfl) (ai:hT (de o).A aT 0:=by exact fR rfl): @eW (aY M bh) _ P N B w0 Q o:=by
 subst eT;letI:=aY M bh;unfold oQ at h;split at h
 ·rename_i op r ops s ks
  refine⟨_,rfl,λa w al=> ?_⟩;split at h
  ·rename_i c7 ni fT ca
   split at h
   ·rename_i h2
    cases h;have fJ:=al;obtain⟨⟨φ,ds,h1,ae,ar,bm,_⟩,cg,cu⟩:=al;unfold wpListIn;rw[nc ae.get h2,aI rfl];have es:a.eval ni=kt u (i*k+j):=(aD.hY _ hp (fZ (hE φ) ae.get ni)).trans lO;have mD:a.eval fT=mf:=(aD.hY _ ah (fZ (hE φ) ae.get fT)).trans ex;have hw:∀i o,M i=some o->w.heap[i]? =some o:=fJ.ma;rcases cj with ⟨gx,rfl,rfl⟩|⟨g,cap,cur,rfl,jC,dQ,aV,hle,v8,gv,wG⟩
    ·simp at af
    ·have aA:=hw _ _ aV
     have Ie:i*k+j<cur.size:=by
      rw[gv];have:=Nat.mul_le_mul_right k (show i+1<=cap by omega);rw[Nat.add_mul] at this;omega
     let eY:Array J:=(cur.toList.take (i*k+j)++[mf]++cur.toList.drop (i*k+j+1)).toArray
     have eN:eY=(cur.toList.set (i*k+j) mf).toArray:=by
      show (cur.toList.take (i*k+j)++[mf]++cur.toList.drop (i*k+j+1)).toArray=_;rw[List.set_eq_take_append_cons_drop,aI (by rw[Array.length_toList];exact Ie)];simp
     have vZ:(storeCells ⟨g,i*k+j,none⟩ [mf]).run P w= .ok () (w.setRow g eY):=by
      have:=run_storeCells_at P g (i*k+j) e [mf] 0 cur w aA (by simp only [List.length_cons,List.length_nil];omega) (λv ax=>by rw[List.mem_singleton.1 ax];exact je);simpa only [Nat.add_zero,List.length_cons,List.length_nil] using this
     have eH:(execOp a.eval op).run P w= .ok .skip (w.setRow g eY):=by
      unfold execOp;rw[ca];simp only [es,mD];show (do Instr.storeAt t (kt (.slice (some ⟨g,0,none⟩) l.length cap) (i*k+j)) mf;pure Next.skip:Sem Next).run P w=_;have cF:(Instr.storeAt t (kt (.slice (some ⟨g,0,none⟩) l.length cap) (i*k+j)) mf).run P w= .ok () (w.setRow g eY):=by
       unfold Instr.storeAt;refine cJ (a:=(⟨g,0+(i*k+j),none⟩:Addr)) rfl ?_;unfold storeVar;refine cJ b5 ?_;rw[aG (by rw[hu];simp),hu,Nat.zero_add];exact vZ
      simp only [Sem.run_bind,cF,Result.andThen_ok];rfl
     have eX:∀c',op.op≠.defer c':=λc' h=>by rw[ca] at h;cases h
     refine⟨λ_ _=>trivial,?_⟩;rw[Oper.semAt_eq _ _ _ eX,eH,Oper.uponIn_skip];have gN:ek (.slice (some ⟨g,0,none⟩) l.length cap)=some g:=mC ⟨g,0,none⟩ _ jC;obtain⟨q1,aB⟩:=oh (B:=B) (M:=M) (w':=w.setRow g eY) (T:=some g) (dD:=some g) hw (λi af=>by cases af;exact⟨by rw[aV];simp,dQ⟩) (λi af=> .inl af) ⟨rfl,rfl,rfl⟩ (bL _) (by simp [World.setRow]) (λj _ hj=>setRow_other w g j eY (λh=>hj (by rw[h])));have oj:dt B (gd M (w.setRow g eY) (some g) (some g)) e k enc (.slice (some ⟨g,0,none⟩) l.length cap) (l.set i y):=by
      refine .inr ⟨g,cap,eY,by rw[List.length_set],jC,dQ,?_,by rw[List.length_set];exact hle,v8,by rw[eN];simpa using gv,?_⟩
      ·unfold gd
       rw[aI rfl];exact setRow_heap w g cur eY e (0,0) aA
      ·rw[eN,List.length_set,Uf ag hj l i af a_,<-wG]
       exact List.take_set ..
     have gH:=Here.turns (vals':=bC) cY (hm _) q1 ak ai fJ;letI:=aY (gd M (w.setRow g eY) (some g) (some g)) bC;exact rest _ oj (by rw[gN];exact aB) _ _ (Here.put (d:=op.dst) gH (v:=undef) rfl dW)
   ·cases h
  ·cases h
 ·cases h
theorem aeW [cK] {P:aQ} {N B:Nat} {w0:ao} {Q:Exit->Act->ao->Prop} {M:Mem} {bh bC:List J} {o:Option bQ} {t ty:aK} {g j n:Nat} {p x:J} {us cs cs':List J} {dF du:a1} {aT:List bS} {bG:ec}
  (eT:cs'=cs.take j++us++cs.drop (j+n)) (h:oQ o=some (t,p,x)) (b5:a' P (sizeOf t)=some n)
  (cY:d' (de o) dF aT=some bG) (dW:gG N dF (iq o) undef=some du) (hp:aP p=true) (ah:aP x=true) (lO: @aM (aY M bh) p= .pointer (some ⟨g,j,none⟩)) (ex: @aM (aY M bh) x= .agg ⟨us⟩) (hu:us.length=n) (je:∀u∈us,u.oneCell'=true)
  (cj:iK B M (.pointer (some ⟨g,0,none⟩)) ty cs) (hj:j+n<=cs.length) (hm:∀M',e8 (aY M bh) (aY M' bC) bG)
  (rest:∀M',iK B M' (.pointer (some ⟨g,0,none⟩)) ty cs'->gR M M' (some g)->∀aR w,@Here (aY M' bC) _ N {sl:=du,ms:=[],A:=ff aT} B w0 aR w->wpListIn (Fr none) 0 P (jq o) (dK P (hk o) Q) (jo o) aR w)
  (ak:cK.cU<=aT.length:=by first|exact Nat.zero_le _|exact hQ rfl) (ai:hT (de o).A aT 0:=by exact fR rfl): @eW (aY M bh) _ P N B w0 Q o:=by
 subst eT;letI:=aY M bh;unfold oQ at h;split at h
 ·rename_i op r ops s ks
  refine⟨_,rfl,λa w al=> ?_⟩;split at h
  ·rename_i c7 ni fT ca
   split at h
   ·rename_i h2
    cases h;have fJ:=al;obtain⟨⟨φ,ds,h1,ae,ar,bm,_⟩,cg,cu⟩:=al;unfold wpListIn;rw[nc ae.get h2,aI rfl];have es:a.eval ni= .pointer (some ⟨g,j,none⟩):=(aD.hY _ hp (fZ (hE φ) ae.get ni)).trans lO;have mD:a.eval fT= .agg ⟨us⟩:=(aD.hY _ ah (fZ (hE φ) ae.get fT)).trans ex;have hw:∀i o,M i=some o->w.heap[i]? =some o:=fJ.ma;obtain⟨aV,dQ⟩:=cj.known;have aA:=hw _ _ aV
    let eY:Array J:=(cs.take j++us++cs.drop (j+n)).toArray
    have vZ:(storeCells ⟨g,j,none⟩ us).run P w= .ok () (w.setRow g eY):=by
     have:=run_storeCells_at P g j ty us 0 ⟨cs⟩ w aA (by simp only [List.size_toArray];omega) je;simp only [Nat.add_zero,hu] at this;exact this
    have eH:(execOp a.eval op).run P w= .ok .skip (w.setRow g eY):=by
     unfold execOp;rw[ca];simp only [es,mD];show (do Instr.storeAt t (.pointer (some ⟨g,j,none⟩)) (.agg ⟨us⟩);pure Next.skip:Sem Next).run P w=_;have cF:(Instr.storeAt t (.pointer (some ⟨g,j,none⟩)) (.agg ⟨us⟩)).run P w= .ok () (w.setRow g eY):=by
      unfold Instr.storeAt;refine cJ (a:=(⟨g,j,none⟩:Addr)) rfl ?_;unfold storeVar;refine cJ b5 ?_;rw[aG (by simp [Value.cells,hu])];exact vZ
     simp only [Sem.run_bind,cF,Result.andThen_ok];rfl
    have eX:∀c',op.op≠.defer c':=λc' h=>by rw[ca] at h;cases h
    refine⟨λ_ _=>trivial,?_⟩;rw[Oper.semAt_eq _ _ _ eX,eH,Oper.uponIn_skip];obtain⟨q1,aB⟩:=oh (B:=B) (M:=M) (w':=w.setRow g eY) (T:=some g) (dD:=some g) hw (λi af=>by cases af;exact⟨by rw[aV];simp,dQ⟩) (λi af=> .inl af) ⟨rfl,rfl,rfl⟩ (bL _) (by simp [World.setRow]) (λj _ hj=>setRow_other w g j eY (λh=>hj (by rw[h])));have oj:iK B (gd M (w.setRow g eY) (some g) (some g)) (.pointer (some ⟨g,0,none⟩)) ty (cs.take j++us++cs.drop (j+n)):=by
     refine⟨g,rfl,dQ,?_⟩;unfold gd;rw[aI rfl];exact setRow_heap w g ⟨cs⟩ eY ty (0,0) aA
    have gH:=Here.turns (vals':=bC) cY (hm _) q1 ak ai fJ;letI:=aY (gd M (w.setRow g eY) (some g) (some g)) bC;exact rest _ oj aB _ _ (Here.put (d:=op.dst) gH (v:=undef) rfl dW)
   ·cases h
  ·cases h
 ·cases h
section
variable [a6] {P:aQ}
theorem aZ.M0 {B g o n:Nat} {ty t:aK} {cs us:List J} {p r:J} (cj:iK B a6.dL (.pointer (some ⟨g,0,none⟩)) ty cs) (hu:us=(cs.drop o).take n) (hp:aP p=true) (hr:aP r=true) (ha:a' P (isAgg t)=some true) (ak:a' P (sizeOf t)=some n) (hl:us.length=n) (lO:aM p= .pointer (some ⟨g,o,none⟩)) (cd:aM r= .agg ⟨us⟩):aZ P (.bf t p,r):=
 aZ.bf hp hr ha ak lO hl (λw hw j u hj=>by
  rw[cell_of_row w g _ ⟨cs⟩ ty (0,0) (hw _ _ cj.known.1)];rw[hu,List.getElem?_take] at hj;split at hj
  ·rw[List.getElem?_drop] at hj
   simpa using hj
  ·cases hj) cd
end
theorem jQ.drop {α:Type} {B:Nat} {M:Mem} {e:aK} {k:Nat} {enc:α->List J} (ag:∀x,(enc x).length=k) {a:Option Addr} {n c:Nat} {l:List α} (h:jQ B M e k enc (.slice a n c) l) {j:Nat} (hj:j<=n):jQ B M e k enc (.slice (ke a c j k) (n-j) (c-j)) (l.drop j):=by
 rcases h with ⟨aR,h,rfl⟩|⟨g,off,qO,cur,h,ai,dQ,aV,hle,v8,gv,wG⟩
 ·cases h
  obtain rfl:j=0:=by omega
  exact .inl ⟨_,rfl,rfl⟩
 ·cases h
  by_cases Ie:c=j
  ·subst Ie
   have aJ:l.drop c=[]:=List.drop_eq_nil_of_le hle;rw[aJ];refine .inl ⟨ke (some ⟨g,off,none⟩) c c k,?_,rfl⟩;rw[show l.length-c=0 by omega,Nat.sub_self]
  ·have aeX:ke (some ⟨g,off,none⟩) c j k=some ⟨g,off+j*k,none⟩:=by
    unfold ke;rw[aG Ie];simp [Addr.jA]
   refine .inr ⟨g,off+j*k,c-j,cur,by rw[aeX,List.length_drop],aj,dQ,aV,by rw[List.length_drop];omega,aj,?_,?_⟩
   ·rw[gv,Nat.sub_mul]
    have:=Nat.mul_le_mul_right k (show j<=c by omega);omega
   ·rw[List.length_drop,Nat.sub_mul,<-List.drop_drop]
    have h1:=congrArg (List.drop (j*k)) wG;rw[List.drop_take] at h1;rw[h1,MA ag l j]
theorem aeY {α:Type} {P:aQ} {w:ao} {B:Nat} {M:Mem} {t ty e:aK} {i:TypeInfo} {z:J} {k bytes:Nat} (aF:P.underlying t=some (.slice e)) (af:P.info? e=some i) (bu:i.zero=some z) (fN:i.size=k) (iS:i.bytes=bytes) (k4:z.cells.size=k) (gV:0<k)
  {enc:α->List J} (ag:∀x,(enc x).length=k) (je:∀x,∀u∈enc x,u.oneCell'=true) {v x:J} {l lx:List α} (cj:jQ B M e k enc v l) (ah:qK w k enc x lx) (hw:∀i o,M i=some o->w.heap[i]? =some o) (dQ:B<=w.heap.size)
  (hd:l.length+lx.length<=maxLen) (kI:(l.length+lx.length)*bytes<=140737488355328):
  ∃aC w' M',(Builtin.append_ #[t,t] ty #[v,x]).run P w= .ok aC w'/\jQ B M' e k enc aC (l++lx)/\zZ B M M' (ek v) w w'/\gR M M' (ek v)/\∀j,some j=ek aC->some j=ek v\/M j=none:=by
 have Uh:∀{a:Option Addr},v= .slice a 0 0->l=[]->∃aC w' M',(Builtin.append_ #[t,t] ty #[v,x]).run P w= .ok aC w'/\jQ B M' e k enc aC (l++lx)/\zZ B M M' (ek v) w w'/\gR M M' (ek v)/\∀j,some j=ek aC->some j=ek v\/M j=none:=by
  intro a ha hl;subst hl;subst ha;have jf:dt B M e k enc (.slice a 0 0) []:= .inl ⟨a,rfl,rfl⟩;obtain⟨aC,w',M',q1,aB,b_,eB⟩:=Mx (ty:=ty) aF af bu fN iS k4 gV ag je jf ah hw dQ hd kI;refine⟨aC,w',M',q1,aB.queue,b_,eB,λj hj=> ?_⟩;rcases TE aF af bu fN iS k4 gV ag je jf ah hw hd kI q1 j hj with h|h
  ·exact .inl h
  ·exact .inr (yh hw h)
 rcases cj with ⟨a,rfl,rfl⟩|⟨g,off,cap,cur,rfl,jC,vj,aV,hle,v8,gv,wG⟩
 ·exact Uh U U
 clear Uh;obtain⟨vi,c,rfl,wC,jL⟩:=ah;have gN:ek (.slice (some ⟨g,off,none⟩) l.length cap)=some g:=mC ⟨g,off,none⟩ _ jC;have cj:jQ B M e k enc (.slice (some ⟨g,off,none⟩) l.length cap) l:= .inr ⟨g,off,cap,cur,rfl,jC,vj,aV,hle,v8,gv,wG⟩;by_cases hm:lx=[]
 ·subst hm
  refine⟨_,w,M,Mu aF af hle,by rw[List.append_nil];exact cj,⟨λi af=>cj.known i af,rfl,rfl,rfl,bL _,bL _,λ_ _ _=>rfl,λi o h=>⟨hw i o h,.inl (by rw[h];simp)⟩⟩,λi o h _=>h,λj h=> .inl h⟩
 ·cases vi with
  |none=>exact absurd (wC rfl) hm
  |some gx=>
   have hlen:=p3 ag lx;have qx:0<lx.length:=List.length_pos_iff.2 hm;have h1:∀u∈lx.flatMap enc,u.oneCell'=true:=λu hu=>by
    obtain⟨y,_,a_⟩:=List.mem_flatMap.1 hu;exact je y u a_
   have aA:=hw _ _ aV;subst fN;subst iS;have jr:∀i,some i=some g->M i≠none/\B<=i:=λi af=>by
    cases af;exact⟨by rw[aV];simp,vj⟩
   rw[gN];by_cases BY:l.length+lx.length<=cap
   ·have RV:=Nat.mul_le_mul_right i.size BY
    rw[Nat.add_mul] at RV;have pc:off+l.length*i.size+(lx.flatMap enc).length<=cur.size:=by rw[hlen,gv];omega
    let eY:Array J:=(cur.toList.take (off+l.length*i.size)++lx.flatMap enc++cur.toList.drop (off+l.length*i.size+(lx.flatMap enc).length)).toArray
    have eH:(Builtin.append_ #[t,t] ty #[.slice (some ⟨g,off,none⟩) l.length cap,.slice (some gx) lx.length c]).run P w= .ok (.slice (some ⟨g,off,none⟩) (l.length+lx.length) cap) (w.setRow g eY):=by
     have aO:=run_firstCells_some (P:=P) w i.size lx.length gx lx.length c _ hlen (jL gx rfl);have cF:=run_storeCells_at P g (off+l.length*i.size) e (lx.flatMap enc) 0 cur w aA (by simpa using pc) h1;simp only [Nat.add_zero] at cF;simp [Builtin.append_,run_underlying aF,sizeOf,typeInfo,af,Builtin.lenOf,BY,aO,Addr.jA,cF,eY]
    have Mi:eY.size=cur.size:=by
     simp only [eY,List.size_toArray,List.length_append,List.length_take,List.length_drop,Array.length_toList];omega
    obtain⟨q1,aB⟩:=oh (B:=B) (M:=M) (w':=w.setRow g eY) (T:=some g) (dD:=some g) hw jr (λi af=> .inl af) ⟨rfl,rfl,rfl⟩ (bL _) (by simp [World.setRow]) (λj _ hj=>setRow_other w g j eY (λh=>hj (by rw[h])));refine⟨_,_,_,eH,.inr ⟨g,off,cap,eY,by rw[List.length_append],jC,vj,?_,by rw[List.length_append];exact BY,v8,by rw[Mi,gv],?_⟩,q1,aB,λj hj=> ?_⟩
    ·unfold gd
     rw[aI rfl];exact setRow_heap w g cur eY e (0,0) aA
    ·have Ig:(cur.toList.drop off).length=cap*i.size:=by
      rw[List.length_drop,Array.length_toList (xs:=cur),gv];omega
     have aeZ:((cur.toList.drop off).take (l.length*i.size)).length=l.length*i.size:=by
      rw[List.length_take,Ig];omega
     have amB:(cur.toList.take (off+l.length*i.size)).length=off+l.length*i.size:=by
      rw[List.length_take,Array.length_toList (xs:=cur),gv];omega
     have e2:eY.toList.drop off=(cur.toList.drop off).take (l.length*i.size)++(lx.flatMap enc++cur.toList.drop (off+l.length*i.size+(lx.flatMap enc).length)):=by
      show ((cur.toList.take (off+l.length*i.size)++lx.flatMap enc++_)).drop off=_;rw[List.append_assoc,List.drop_append_of_le_length aj,List.drop_take,show off+l.length*i.size-off=l.length*i.size by omega]
     rw[e2,List.length_append,List.flatMap_append,<-wG,<-List.append_assoc];exact List.take_left' (by rw[List.length_append,aeZ,hlen,Nat.add_mul])
    ·exact .inl (by rw[mC ⟨g,off,none⟩ _ jC] at hj;exact hj)
   ·have holds:∀j u,(l.flatMap enc)[j]? =some u->w.cell? ((⟨g,off,none⟩:Addr).add j)=some u:=λj u hj=>by
     rw[Addr.jA,cell_of_row w _ _ _ _ _ aA];rw[<-wG,List.getElem?_take] at hj;split at hj
     ·rw[List.getElem?_drop] at hj
      simpa using hj
     ·cases hj
    have Mw:l.length+lx.length<=9223372036854775807:=by simp only [maxLen] at hd;omega
    have eH:=run_append_grow (P:=P) w t ty e i z aF af bu ⟨g,off,none⟩ l.length cap _ (p3 ag l) holds gx lx.length c _ hlen (jL gx rfl) aj aj (growslice_fits aj kI);have j':=grownCap_ge w (l.length+lx.length) cap e;have HO:=grownCap_le_maxLen w (l.length+lx.length) cap e hd;obtain⟨q1,aB⟩:=oh (B:=B) (M:=M) (w:=w) (w':=w.drew.alloc (.cells ((l.flatMap enc).toArray++(lx.flatMap enc).toArray++Builtin.zeroCells z.cells (grownCap w (l.length+lx.length) cap e-(l.length+lx.length))) e)) (T:=some g) (dD:=some w.heap.size) hw jr (λi af=>by cases af;exact .inr (bL _)) ⟨rfl,rfl,rfl⟩ (bL _) (by simp) (λj hj _=>heap_alloc_old w.drew _ hj);refine⟨_,_,_,eH,.inr ⟨w.heap.size,0,grownCap w (l.length+lx.length) cap e,(l.flatMap enc).toArray++(lx.flatMap enc).toArray++Builtin.zeroCells z.cells (grownCap w (l.length+lx.length) cap e-(l.length+lx.length)),by rw[List.length_append],aj,dQ,?_,by rw[List.length_append];exact j',HO,?_,?_⟩,q1,aB,λj hj=> ?_⟩
    ·unfold gd
     rw[aI rfl];exact heap_alloc_new w.drew _
    ·simp only [Array.size_append,List.size_toArray,size_zeroCells,k4,p3 ag,<-Nat.add_mul]
     rw[Nat.zero_add];congr 1;omega
    ·simp only [Array.toList_append,List.append_assoc,List.drop_zero]
     rw[List.length_append,List.flatMap_append,<-List.append_assoc];exact List.take_left' (by rw[List.length_append,p3 ag,p3 ag,Nat.add_mul])
    ·right
     have:j=w.heap.size:=by
      rw[mC _ _ (show 0<grownCap w (l.length+lx.length) cap e by omega)] at hj;exact Option.some.inj hj
     exact yh hw aj
theorem M1 [cK] {α:Type} {P:aQ} {N B:Nat} {w0:ao} {Q:Exit->Act->ao->Prop} {M:Mem} {bh:List J} {o:Option bQ} {t e:aK} {k bytes:Nat} {i:TypeInfo} {z vs js dV:J} {enc:α->List J} {l lx l':List α} {bC:Option Addr->Nat->List J} {dF du:a1} {aT:List bS} {bG:ec}
  (eT:l'=l++lx) (h:rJ t o=some (vs,js)) (aF:P.underlying t=some (.slice e)) (af:P.info? e=some i) (bu:i.zero=some z) (fN:i.size=k) (iS:i.bytes=bytes) (k4:z.cells.size=k) (gV:0<k) (ag:∀x,(enc x).length=k) (je:∀x,∀u∈enc x,u.oneCell'=true)
  (cY:d' (de o) dF aT=some bG) (dW:gG N dF (iq o) dV=some du) (fq:aP dV=true) (T:Option Nat)
  (cj:∀φ w v,@bN (aY M bh) φ (de o).A w-> @aD (aY M bh) φ vs v->jQ B M e k enc v l/\ek v=T)
  (fB:∀φ w x,@bN (aY M bh) φ (de o).A w-> @aD (aY M bh) φ js x->qK w k enc x lx)
  (hd:l.length+lx.length<=maxLen) (kI:(l.length+lx.length)*bytes<=140737488355328)
  (hm:∀M' a c,e8 (aY M bh) (aY M' (bC a c)) bG) (ax:∀M' a c,@aM (aY M' (bC a c)) dV= .slice a l'.length c)
  (rest:∀M' a c,jQ B M' e k enc (.slice a l'.length c) l'->gR M M' T->(∀i,some i=ek (.slice a l'.length c)->some i=T\/M i=none)->∀aR w,@Here (aY M' (bC a c)) _ N {sl:=du,ms:=[],A:=ff aT} B w0 aR w->wpListIn (Fr none) 0 P (jq o) (dK P (hk o) Q) (jo o) aR w)
  (ak:cK.cU<=aT.length:=by first|exact Nat.zero_le _|exact hQ rfl) (ai:hT (de o).A aT 0:=by exact fR rfl): @eW (aY M bh) _ P N B w0 Q o:=by
 subst eT;letI:=aY M bh;unfold rJ at h;split at h
 ·rename_i op r ops s ks
  refine⟨_,rfl,λa w al=> ?_⟩;split at h
  ·rename_i bZ ca
   split at h
   ·rename_i me fT pX fY
    cases M3:decide (bZ.argTypes= #[t,t]) with
    |false=>rw[M3] at h;cases h
    |true=>
     rw[M3,bs] at h;have wD:=of_decide_eq_true M3;split at h
     ·rename_i h2
      cases h;have fJ:=al;obtain⟨⟨φ,ds,h1,ae,ar,bm,_⟩,cg,cu⟩:=al;unfold wpListIn;rw[nc ae.get h2,aI rfl];have hw:∀i o,M i=some o->w.heap[i]? =some o:=fJ.ma;obtain⟨Eu,dE⟩:=cj φ w (a.eval me) ar (fZ (hE φ) ae.get me);have Ev:=fB φ w (a.eval fT) ar (fZ (hE φ) ae.get fT);obtain⟨aC,w',M',g1,g2,g3,g4,jJ⟩:=aeY (ty:=op.type) aF af bu fN iS k4 gV ag je Eu Ev hw cu hd kI;obtain⟨Ew,k5,rfl⟩:=g2.slice;rw[dE] at g3 g4 jJ;have eH:(execOp a.eval op).run P w= .ok (.value (.slice Ew (l++lx).length k5)) w':=by
       unfold execOp resolve;rw[ca];simp only [pX,fY,wD,List.map_toArray,List.map_cons,List.map_nil];show (do pure (Next.value (<-Builtin.append_ #[t,t] op.type #[a.eval me,a.eval fT])):Sem Next).run P w=_;simp only [Sem.run_bind,g1,Result.andThen_ok];rfl
      have eX:∀c',op.op≠.defer c':=λc' h=>by rw[ca] at h;cases h
      refine⟨λ_ _=>trivial,?_⟩;rw[Oper.semAt_eq _ _ _ eX,eH,Oper.uponIn_value];have gH:=Here.turns (vals':=bC Ew k5) cY (hm M' Ew k5) g3 ak ai fJ;letI:=aY M' (bC Ew k5);have jP:=Here.put (d:=op.dst) gH (v:=dV) fq dW;rw[ax] at jP;exact rest M' Ew k5 g2 g4 jJ _ w' jP
     ·cases h
   ·cases h
  ·cases h
 ·cases h
theorem M4 {α:Type} {B:Nat} {M:Mem} {bh:List J} {vs:J} {A:aW} {e:aK} {k:Nat} {enc:α->List J} {v:J} {l:List α} (hp:aP vs=true) (bj: @aM (aY M bh) vs=v) (cj:jQ B M e k enc v l):
  ∀φ w x,@bN (aY M bh) φ A w-> @aD (aY M bh) φ vs x->jQ B M e k enc x l/\ek x=ek v:=λφ w x _ ah=>by
 letI:=aY M bh;have e1:=(aD.hY vs hp ah).trans bj;subst e1;exact⟨cj,rfl⟩
end AE
end Go.Proofs.YtepcfjbfkedlpaaGreatDoor
namespace Go.Proofs.YtepcfjbfkedlpaaGreatDoor
open Go Go.Proofs Go.RowKit
namespace AE
theorem Here.Ui [cK] {s1 s2:a6} {N B:Nat} {st:cC} {w0 w:ao} {a:Act} {sl:a1} {l:List bS} {bG:ec} (cY:d' st sl l=some bG) (hm:e8 s1 s2 bG) {φ:bM} {ds:List Deferred}
  (h1:pZ φ st.ms ds) (ae: @fe s1 N ds φ st.sl a) (ar: @bN s1 φ st.A w) (bm:∀b e,φ b=some e->B<=e.bd) (e_:tJ φ st.A) (cg:cA B w0 w) (cu:B<=w.heap.size)
  (pj:∀i o,s2.dL i=some o->w.heap[i]? =some o/\∀b e,b<l.length->φ b=some e->e.bd≠i) (ak:cK.cU<=l.length) (ai:hT st.A l 0): @Here s2 _ N {sl,ms:=[],A:=ff l} B w0 a w:=by
 unfold d' at cY;split at cY
 ·rename_i tM
  cases hq:zR l with
  |false=>rw[hq] at cY;cases cY
  |true=>
   rw[hq,bs] at cY;obtain⟨x,y,ah,a_,rfl⟩:=tK cY;rw[tM] at h1;cases h1;have hold:∀b k,(ff l).bl.get b=some k->∃x fb o,l[b]? =some x/\k=x.bd b/\st.A.bl.get b=some fb/\fb.cD=b/\fb.ei=x.ei/\fb.ty=x.ty/\fb.ro=false/\zS l.length fb.obj x.obj=some o/\∀p∈o,p∈y:=λb k ag=>by
    obtain⟨x,q1,aB⟩:=x6 ag;obtain⟨fb,o,cQ,dr,fP⟩:=Ea l 0 a_ b x q1;rw[Nat.zero_add] at cQ dr;exact⟨x,fb,o,q1,aB,cQ,dr,fP⟩
   have x8:∀b e,φ b=some e->w.heap[e.bd]? =w.heap[e.bd]? :=λ_ _ _=>rfl
   have gi:∀b,b<l.length->∃k,(ff l).bl.get b=some k:=λb ad=>by
    have:=List.all_eq_true.1 hq b (by simpa using ad);simp only [cV] at this;obtain⟨_,hm⟩:=this;split at hm
    ·rename_i k ag;exact⟨k,ag⟩
    ·cases hm
   refine⟨⟨mB l.length φ,[],.nil,⟨@fe.size s1 _ _ _ _ _ ae,@fe.defers s1 _ _ _ _ _ ae,λt e0 zU=>BR st.sl sl ah hm.left t e0 _ zU λv1 x9=> @fe.get s1 _ _ _ _ _ ae t v1 x9⟩,⟨Tj hq,?_,?_,?_,λi o af=> ?_⟩,λb e ad=>bm b e (ph ad).2,ak,λb ad=>by unfold mB;rw[aI (Nat.lt_of_lt_of_le ad ak)];exact e_.2 b ad⟩,cg,cu⟩
   ·intro b e ad
    obtain⟨bt,hg⟩:=ph ad;obtain⟨k,ag⟩:=gi b bt;obtain⟨x,fb,o,q1,rfl,b_,eB,hh,ln,pR,gk,zB⟩:=hold b k ag;obtain⟨cB,cQ,dr,fP⟩:= @bN.ea s1 _ _ _ ar b e hg;rw[b_] at cQ;cases cQ;refine⟨_,ag,by rw[dr,hh];rfl,?_⟩;unfold fh at fP ⊢;show match x.obj with| .cells c=>_| .map es eo=>_| .fz x=>_
    cases fa:fb.obj with
    |cells c=>
     rw[fa] at gk;simp only [fa] at fP;cases hF:x.obj with
     |cells c2=>
      rw[hF] at gk;obtain⟨c',jb,g1,g2,g3,g4,jJ⟩:=fP;have mV:∀i,i<c.length->((List.range c.length).map λj=>c'.getD (e.sh+j) undef).getD i undef=c'.getD (e.sh+i) undef:=λi af=>by
       rw[c_,List.getElem?_map,List.getElem?_range af];rfl
      have:=BQ (s1:=s1) (s2:=s2) (φ:=φ) c c2 gk (λp hp=>hm.right p (zB p hp)) ((List.range c.length).map λj=>c'.getD (e.sh+j) undef) (by simp) λi af=>by
       rw[mV i af];exact g4 i af
      obtain⟨t1,t2⟩:=this;simp only [List.length_map,List.length_range] at t1;refine⟨c',jb,by rw[x8 b e hg,show (x.bd b).ty=fb.ty from ln.symm];exact g1,g2,by rw[<-t1,show (x.bd b).ei=fb.ei from hh.symm];exact g3,λj hj=> ?_,λ_=>jJ pR⟩;have:=t2 j hj;rw[mV j aj] at this;exact this
     |map es eo=>rw[hF] at gk;cases gk
     |fz z=>rw[hF] at gk;cases gk
    |map es eo=>
     rw[fa] at gk;cases hF:x.obj<;>rw[hF] at gk<;>cases gk
    |fz z=>
     rw[fa] at gk;simp only [fa] at fP;obtain⟨ng,o',g1,g2⟩:=fP;cases hF:x.obj with
     |cells c2=>rw[hF] at gk;cases z<;>cases gk
     |map es eo=>rw[hF] at gk;cases z<;>cases gk
     |fz z2=>
      rw[hF] at gk;refine⟨ng,o',(x8 b e hg).trans g1,?_⟩;cases z with
      |loop a=>
       cases z2 with
       |loop b=>
        unfold zS at gk;simp only at gk;cases hs:D_ l.length a b with
        |false=>rw[hs] at gk;cases gk
        |true=>
         rw[hs,bs] at gk;unfold D_ at hs;simp only [cV,decide_eq_true_eq,Option.isNone_iff_eq_none] at hs;obtain⟨cp,c2,c3,mx,Eb,HH,HI⟩:=hs;have oO:=Ml ai q1 hF;rw[Nat.zero_add] at oO;unfold HG at oO;rw[b_] at oO;simp only [fa,cz,Prod.mk.injEq] at oO;obtain⟨r,im,sE,wq,zL,zM,D1,D2,⟨e',Mm,u8⟩,Mn⟩:=g2;refine⟨r,im,sE.trans (Tl cp),by rw[wq,c2,c3],by rw[zL,cq mx],by rw[zM,Eb],by rw[D1,oO.1],by rw[D2,oO.2],⟨e',?_,u8⟩,λt v ax=> ?_⟩
         ·rw[<-cq HH]
          exact BP Mm (Nat.blt_eq.mp HI)
         ·exact BR (s1:=s1) a.sl b.sl gk (λp hp=>hm.right p (zB p hp)) t v _ ax λv1 x9=>Mn t v1 x9
       |_=>cases gk
      |_=>cases z2<;>first|(cases gk;done)|exact g2
   ·intro b e k b' e' k' ad dw ag dj cv
    obtain⟨_,hg⟩:=ph ad;obtain⟨_,rA⟩:=ph dw;obtain⟨x,fb,o,q1,rfl,b_,eB,_⟩:=hold b k ag;obtain⟨x',Ec,o',tn,rfl,rl,Ed,_⟩:=hold b' k' dj;exact @bN.apart s1 _ _ _ ar b e fb b' e' Ec hg rA b_ rl (by rw[eB,Ed];exact cv)
   ·intro b e k b' e' k' ad dw ag dj aO _
    obtain⟨_,hg⟩:=ph ad;obtain⟨_,rA⟩:=ph dw;obtain⟨x,fb,o,q1,rfl,b_,eB,_⟩:=hold b k ag;obtain⟨x',Ec,o',tn,rfl,rl,Ed,_⟩:=hold b' k' dj;have:b=b':=aO;subst this;rw[hg] at rA;cases rA;rfl
   ·obtain⟨g1,g2⟩:=pj i o af
    exact⟨g1,λb e ad=>g2 b e (ph ad).1 (ph ad).2⟩
 ·cases cY
def M5 {α:Type} (B:Nat) (M:Mem) (e:aK) (enc:α->List J) (g:Nat) (l:List α):Prop:=
 B<=g/\∃cur fr,M g=some (.cells cur e fr)/\(∀i,i<cur.size->¬(fr.1<=i/\i<fr.2))/\cur.toList=l.flatMap enc
theorem M5.arr {α:Type} {B:Nat} {M:Mem} {e:aK} {k:Nat} {enc:α->List J} {g:Nat} {l:List α} (h:M5 B M e enc g l) (ag:∀x,(enc x).length=k):bT M k enc (.slice (some ⟨g,0,none⟩) l.length l.length) l:=by
 obtain⟨_,cur,fr,h1,_,ar⟩:=h;refine .mk h1 (bL _) λi x ah j u hu=> ?_
 have:=zY ag l i x ah j u hu;rw[<-ar] at this;simpa using this
theorem Here.freeze [cK] {α:Type} {M:Mem} {bh:List J} {bC:Nat->List J} {N B:Nat} {st:cC} {w0 w:ao} {a:Act} {sl dJ:a1} {l:List bS} {bG:ec} {b t q:Nat} {k:hf} {cs:List J} {enc:α->List J} {xs:List α}
  (al: @Here (aY M bh) _ N st B w0 a w) (ag:st.A.bl.get b=some k) (fa:k.obj= .cells cs) (M6:k.ei=0) (n':k.cD=b) (da:k.ro=false) (gv:ev cs=true) (wH: @e4 (aY M bh) cs=xs.flatMap enc) (ad:l.length<=b)
  (Ex:st.sl.get t=some (.pointer (some ⟨b,0,none⟩))) (cY:d' st sl l=some bG) (hm:∀M' g,e8 (aY M bh) (aY M' (bC g)) bG) (eN:bW.set (aq q) depth sl t=some dJ) (aU:∀g,lN (bC g) q= .pointer (some ⟨g,0,none⟩))
  (ak:cK.cU<=l.length) (ai:hT st.A l 0):
  ∃g M',M5 B M' k.ty enc g xs/\(∀i o,M i=some o->M' i=some o)/\M g=none/\ @Here (aY M' (bC g)) _ N {sl:=dJ,ms:=[],A:=ff l} B w0 a w:=by
 obtain⟨⟨φ,ds,h1,ae,ar,bm,e_⟩,cg,cu⟩:=al;have ax:= @fe.get (aY M bh) _ _ _ _ _ ae t _ Ex;generalize hp:a.tmps.getD t undef=ae0 at ax;cases ax with
 |ptr he=>
  rename_i e;obtain⟨cB,cQ,dr,fP⟩:= @bN.ea (aY M bh) _ _ _ ar b e he;rw[ag] at cQ;cases cQ;unfold fh at fP;rw[fa] at fP;obtain⟨c',jb,g1,g2,g3,g4,jJ⟩:=fP;obtain⟨g6,g7⟩:=g3.2 M6;have vf:M e.bd=none:=by
   cases af:M e.bd with
   |none=>rfl
   |some o=>exact absurd rfl ((@bN.dL (aY M bh) _ _ _ ar e.bd o af).2 b e he)
  let M':Mem:=λi=>if i=e.bd then some (.cells c' k.ty jb) else M i
  have sM:M' e.bd=some (.cells c' k.ty jb):=aI rfl;have po:∀i o,M i=some o->M' i=some o:=λi o af=>by
   show (if i=e.bd then _ else M i)=some o;rw[aG (λh=>by rw[h,vf] at af;cases af)];exact af
  have jL:c'.toList=xs.flatMap enc:=by
   rw[<-wH];refine @aD.xR (aY M bh) φ cs c'.toList gv (by simp [g7]) λi af=> ?_
   have:=g4 i af;rw[g6,Nat.zero_add] at this;simpa [eO] using this
  have p8:=cY;unfold d' at p8;have M7:∀b' x,l[b']? =some x->∃fb,st.A.bl.get b'=some fb/\fb.cD=b':=λb' x ah=>by
   split at p8
   ·cases hq:zR l with
    |false=>rw[hq] at p8;cases p8
    |true=>
     rw[hq,bs] at p8;obtain⟨f_,ve,_,a_,_⟩:=tK p8;obtain⟨fb,o,cQ,dr,_⟩:=Ea l 0 a_ b' x ah;rw[Nat.zero_add] at cQ dr;exact⟨fb,cQ,dr⟩
   ·cases p8
  have aA:=Here.Ui (s2:=aY M' (bC e.bd)) cY (hm M' e.bd) h1 ae ar bm e_ cg cu (λi o af=>by
   by_cases rn:i=e.bd
   ·subst rn
    have:some (Obj.cells c' k.ty jb)=some o:=sM.symm.trans af;cases this;refine⟨g1,λb' e' dw pS heq=> ?_⟩;obtain⟨fb,q1,aB⟩:=M7 b' _ (fy dw);exact @bN.apart (aY M bh) _ _ _ ar b' e' fb b e k pS he q1 ag (by rw[aB,n'];omega) heq
   ·have kl:M i=some o:=by
     have:(if i=e.bd then some (Obj.cells c' k.ty jb) else M i)=some o:=af
     rwa [aG rn] at this
    obtain⟨q1,aB⟩:= @bN.dL (aY M bh) _ _ _ ar i o kl
    exact⟨q1,λb' e' _ pS=>aB b' e' pS⟩) ak ai
  refine⟨e.bd,M',⟨bm b e he,c',jb,sM,λi af=>jJ da i af,jL⟩,po,vf,?_⟩;obtain⟨⟨eS,Ih,hi,fQ,pe,nF,xU⟩,Hi,DS⟩:=aA;letI:=aY M' (bC e.bd);refine⟨⟨eS,Ih,hi,⟨fQ.size,fQ.defers,λc7 aC l8=> ?_⟩,pe,nF,xU⟩,Hi,DS⟩;rw[bW.nB _ _ _ _ _ _ eN] at l8;split at l8
  ·rename_i aF
   cases l8;subst aF;rw[hp];have:=aD.sym (φ:=eS) q;have oG:a6.σ q=Value.pointer (some ⟨e.bd,0,none⟩):=aU e.bd;rw[oG] at this;rw[g6,Nat.zero_add];exact this
  ·exact fQ.get c7 aC l8
end AE
end Go.Proofs.YtepcfjbfkedlpaaGreatDoor
namespace Go.Proofs.YtepcfjbfkedlpaaGreatDoor
open Go Go.RowKit
namespace AE
theorem Uj:∀(l:List J) (k:Nat) (cs:Array J),k+l.length<=cs.size->((l.zipIdx k).foldl (λ(cs:Array J) (p:J×Nat)=>cs.setIfInBounds p.2 p.1) cs).toList=cs.toList.take k++l++cs.toList.drop (k+l.length)
 |[],k,cs,h=>by simp
 |u::l,k,cs,h=>by
  simp only [List.zipIdx_cons,List.foldl_cons];simp only [List.length_cons] at h;rw[Uj l (k+1) _ (by simp only [Array.size_setIfInBounds];omega)];have ag:k<cs.toList.length:=by rw[Array.length_toList];omega
  rw[Array.toList_setIfInBounds,List.take_set,List.drop_set,aI aj];rw[List.take_add_one,fy ag];rw[List.set_append_right _ _ (by rw[List.length_take];omega)];simp only [List.length_take,Option.toList_some];rw[show k-min k cs.toList.length=0 by omega];simp only [List.set_cons_zero,List.length_cons];rw[show k+1+l.length=k+(l.length+1) by omega];simp
theorem ae1 {P:Nat->Option (Nat×Nat)} {v:J} {cs:Array J} {n:Nat} (hp:P 0=some (0,n)) (ak:v.cells.size=n) (ai:cs.size=n):Instr.fill P cs [(0,v)]=some v.cells:=by
 unfold Instr.fill;rw[hp];simp only;rw[aG (by simp only [Nat.zero_add,ak,ai];simp)];unfold Instr.fill;congr 1;apply Array.ext';rw[<-Array.foldl_toList];have:=Uj v.cells.toList 0 cs (by rw[Array.length_toList];omega);simp only [Array.toList_zipIdx,Nat.zero_add];rw[this];simp [ak,ai]
def M8:Option bQ->Option (aK×J)
 |some (.oper o _ ops s _)=>match o.op with
  | .buildSlice t 1 ⟨[(0,fT)]⟩=>match pW ops o s.sl with
    |some true=>some (t,dU .nil s.sl fT)
    |_=>none
  |_=>none
 |_=>none
theorem ae2 [cK] {α:Type} {P:aQ} {N B:Nat} {w0:ao} {Q:Exit->Act->ao->Prop} {M:Mem} {bh:List J} {o:Option bQ} {t e:aK} {k:Nat} {z x u dV:J} {enc:α->List J} {y:α} {l':List α} {bC:Option Addr->Nat->List J} {dF du:a1} {aT:List bS} {bG:ec}
  (eT:l'=[y]) (h:M8 o=some (t,x)) (aF:P.underlying t=some (.slice e)) (my:a' P (sizeOf e)=some k) (Ii:a' P (zeroValue e)=some z) (gV:0<k) (kH:k<=1000) (ag:∀x,(enc x).length=k)
  (cY:d' (de o) dF aT=some bG) (dW:gG N dF (iq o) dV=some du) (fq:aP dV=true) (ah:aP x=true) (ex: @aM (aY M bh) x=u) (hu:u.cells=⟨enc y⟩)
  (hm:∀M' a c,e8 (aY M bh) (aY M' (bC a c)) bG) (ax:∀M' a c,@aM (aY M' (bC a c)) dV= .slice a l'.length c)
  (rest:∀M' a c,dt B M' e k enc (.slice a l'.length c) l'->gR M M' none->(∀i,some i=ek (.slice a l'.length c)->M i=none)->∀aR w,@Here (aY M' (bC a c)) _ N {sl:=du,ms:=[],A:=ff aT} B w0 aR w->wpListIn (Fr none) 0 P (jq o) (dK P (hk o) Q) (jo o) aR w)
  (ak:cK.cU<=aT.length:=by first|exact Nat.zero_le _|exact hQ rfl) (ai:hT (de o).A aT 0:=by exact fR rfl): @eW (aY M bh) _ P N B w0 Q o:=by
 subst eT;letI:=aY M bh;unfold M8 at h;split at h
 ·rename_i op r ops s ks
  refine⟨_,rfl,λa w al=> ?_⟩;split at h
  ·rename_i c7 fT ca
   split at h
   ·rename_i h2
    cases h;have fJ:=al;obtain⟨⟨φ,ds,h1,ae,ar,bm,_⟩,cg,cu⟩:=al;unfold wpListIn;rw[nc ae.get h2,aI rfl];have mD:a.eval fT=u:=(aD.hY _ ah (fZ (hE φ) ae.get fT)).trans ex;have hw:∀i o,M i=some o->w.heap[i]? =some o:=fJ.ma
    let w':ao:={w with heap:=w.heap.push (.cells ⟨enc y⟩ e)}
    have Ij:u.cells.size=k:=by rw[hu];simpa using ag y
    have eH:(execOp a.eval op).run P w= .ok (.value (.slice (some ⟨w.heap.size,0,none⟩) 1 1)) w':=by
     unfold execOp;rw[ca];simp only [List.map_toArray,List.map_cons,List.map_nil,mD];show (do pure (Next.value (<-Instr.buildSlice t 1 #[(0,u)])):Sem Next).run P w=_;have ad:(Instr.buildSlice t 1 #[(0,u)]).run P w= .ok (.slice (some ⟨w.heap.size,0,none⟩) 1 1) w':=by
      unfold Instr.buildSlice;refine c6 (run_underlying aF w) ?_;simp only;refine cJ my ?_;rw[Nat.one_mul];rw[aG aj];rw[aG aj];refine cJ Ii ?_;refine cJ (a:=z.cells) rfl ?_;have aO:=ae1 (P:=λi=>some (i*k,k)) (v:=u) (cs:=(Array.range k).map (z.cells[· %z.cells.size]!)) (n:=k) (by simp) Ij (by simp);simp only [aO];simp [newRow,newObj,Sem.run,w',hu]
     simp only [Sem.run_bind,ad,Result.andThen_ok];rfl
    have eX:∀c',op.op≠.defer c':=λc' h=>by rw[ca] at h;cases h
    refine⟨λ_ _=>trivial,?_⟩;rw[Oper.semAt_eq _ _ _ eX,eH,Oper.uponIn_value];obtain⟨q1,aB⟩:=oh (B:=B) (M:=M) (w:=w) (w':=w') (T:=none) (dD:=some w.heap.size) hw (λi h=>by cases h) (λi af=> .inr (by cases af;exact bL _)) ⟨rfl,rfl,rfl⟩ (bL _) (by simp [w']) (λi af _=>by
     show (w.heap.push _)[i]? =_
     rw[Array.getElem?_push,aG aj])
    have cj:dt B (gd M w' none (some w.heap.size)) e k enc (.slice (some ⟨w.heap.size,0,none⟩) [y].length 1) [y]:=by
     refine .inr ⟨w.heap.size,1,⟨enc y⟩,rfl,Nat.one_pos,cu,?_,bL _,by simp [maxLen],by simpa using ag y,by simp only [List.length_cons,List.length_nil,Nat.zero_add,Nat.one_mul,List.flatMap_cons,List.flatMap_nil,List.append_nil];exact List.take_of_length_le (by rw[ag];exact bL _)⟩;unfold gd;rw[aI rfl];show (w.heap.push _)[w.heap.size]? =_;rw[Array.getElem?_push,aI rfl]
    have gH:=Here.turns (vals':=bC (some ⟨w.heap.size,0,none⟩) 1) cY (hm _ _ _) q1 ak ai fJ;letI:=aY (gd M w' none (some w.heap.size)) (bC (some ⟨w.heap.size,0,none⟩) 1);have jP:=Here.put (d:=op.dst) gH (v:=dV) fq dW;rw[ax] at jP;exact rest _ _ _ cj aB (λj hj=>by
     rw[mC _ _ Nat.one_pos] at hj;cases hj
     exact yh hw (bL _)) _ w' jP
   ·cases h
  ·cases h
 ·cases h
def Ik:Option bQ->Option (aK×J)
 |some (.oper o _ ops s _)=>match o.op with
  | .makeSlice t rM tU=>match pW ops o s.sl with
    |some true=>bif e3 (dU .nil s.sl rM) (dU .nil s.sl tU) then some (t,dU .nil s.sl rM) else none
    |_=>none
  |_=>none
 |_=>none
theorem Uk {α:Type} {k:Nat} {enc:α->List J} (ag:∀x,(enc x).length=k) {z:J} {zr:α} (bu:z.cells.toList=enc zr) (n:Nat):(madeCells z.cells (n*k)).toList=(List.replicate n zr).flatMap enc:=by
 have hs:z.cells.size=k:=by rw[<-Array.length_toList,bu,ag]
 apply List.ext_getElem?;intro j;unfold madeCells;rcases Nat.lt_or_ge j (n*k) with hj|hj
 ·have dS:0<k:=by
   rcases Nat.eq_zero_or_pos k with h|h
   ·subst h
    simp at hj
   ·exact h
  have af:j/k<(List.replicate n zr).length:=by rw[kX];exact Nat.div_lt_of_lt_mul (by rwa [Nat.mul_comm] at hj)
  have hr:j%k<k:=Nat.mod_lt _ dS;have ae:=zY ag (List.replicate n zr) (j/k) zr (by rw[fy af];simp) (j%k) ((enc zr)[j%k]'(by rw[ag];exact hr)) (fy _);rw[Nat.div_add_mod'] at ae;rw[ae,Array.getElem?_toList,Array.getElem?_map,hs,Array.getElem?_eq_getElem (by simpa using hj)];simp only [Array.getElem_range,Option.map_some];have zF:j%k<z.cells.size:=by omega
  rw[getElem!_pos z.cells _ zF];have:z.cells.toList[j%k]? =(enc zr)[j%k]? :=by rw[bu]
  rw[Array.getElem?_toList,Array.getElem?_eq_getElem zF,fy (by rw[ag];exact hr)] at this;exact this
 ·rw[Array.getElem?_toList,Array.getElem?_map,Array.getElem?_eq_none (by simpa using hj),List.getElem?_eq_none (by rw[p3 ag,kX];exact hj)]
  rfl
theorem Ul [cK] {α:Type} {P:aQ} {N B:Nat} {w0:ao} {Q:Exit->Act->ao->Prop} {M:Mem} {bh:List J} {o:Option bQ} {t e:aK} {k n bytes:Nat} {i:TypeInfo} {z x dV:J} {enc:α->List J} {zr:α} {l':List α} {bC:Option Addr->Nat->List J} {dF du:a1} {aT:List bS} {bG:ec}
  (eT:l'=List.replicate n zr) (h:Ik o=some (t,x)) (aF:P.underlying t=some (.slice e)) (af:P.info? e=some i) (bu:i.zero=some z) (fN:i.size=k) (iS:i.bytes=bytes) (pb:z.cells.toList=enc zr) (ag:∀x,(enc x).length=k)
  (cY:d' (de o) dF aT=some bG) (dW:gG N dF (iq o) dV=some du) (fq:aP dV=true) (ah:aP x=true) (ex: @aM (aY M bh) x= .int .i64 (n:Nat)) (ae3:n<=1000000) (kI:n*bytes<=140737488355328) (jL:n*k<=16777216)
  (hm:∀M' a c,e8 (aY M bh) (aY M' (bC a c)) bG) (ax:∀M' a c,@aM (aY M' (bC a c)) dV= .slice a l'.length c)
  (rest:∀M' a c,dt B M' e k enc (.slice a l'.length c) l'->gR M M' none->(∀i,some i=ek (.slice a l'.length c)->M i=none)->∀aR w,@Here (aY M' (bC a c)) _ N {sl:=du,ms:=[],A:=ff aT} B w0 aR w->wpListIn (Fr none) 0 P (jq o) (dK P (hk o) Q) (jo o) aR w)
  (ak:cK.cU<=aT.length:=by first|exact Nat.zero_le _|exact hQ rfl) (ai:hT (de o).A aT 0:=by exact fR rfl): @eW (aY M bh) _ P N B w0 Q o:=by
 subst eT;letI:=aY M bh;unfold Ik at h;split at h
 ·rename_i op r ops s ks
  refine⟨_,rfl,λa w al=> ?_⟩;split at h
  ·rename_i c7 rM tU ca
   split at h
   ·rename_i h2
    cases heq:e3 (dU .nil s.sl rM) (dU .nil s.sl tU) with
    |false=>rw[heq] at h;cases h
    |true=>
     rw[heq,bs] at h;have vk:=gw _ _ heq;cases h;have fJ:=al;obtain⟨⟨φ,ds,h1,ae,ar,bm,_⟩,cg,cu⟩:=al;unfold wpListIn;rw[nc ae.get h2,aI rfl];have mD:a.eval rM= .int .i64 (n:Nat):=(aD.hY _ ah (fZ (hE φ) ae.get rM)).trans ex;have M9:a.eval tU= .int .i64 (n:Nat):=(aD.hY _ (by rw[<-vk];exact ah) (fZ (hE φ) ae.get tU)).trans (by rw[<-vk];exact ex);have hw:∀i o,M i=some o->w.heap[i]? =some o:=fJ.ma;subst iS;obtain⟨w',g1,g2,g3⟩:=run_makeSlice_full (P:=P) w B t e i z k aF af bu fN .i64 .i64 n jL (by rw[Nat.mul_comm];omega) (by simp [maxLen];omega) cu;have eH:(execOp a.eval op).run P w= .ok (.value (.slice (some ⟨w.heap.size,0,none⟩) n n)) w':=by
      unfold execOp;rw[ca];simp only [mD,M9];show (do pure (Next.value (<-Instr.makeSlice t (.int .i64 (n:Nat)) (.int .i64 (n:Nat)))):Sem Next).run P w=_;simp only [Sem.run_bind,g1,Result.andThen_ok];rfl
     have eX:∀c',op.op≠.defer c':=λc' h=>by rw[ca] at h;cases h
     refine⟨λ_ _=>trivial,?_⟩;rw[Oper.semAt_eq _ _ _ eX,eH,Oper.uponIn_value];rw[Uk ag pb] at g2;obtain⟨q1,aB⟩:=oh (B:=B) (M:=M) (w:=w) (w':=w') (T:=none) (dD:=some w.heap.size) hw (λi h=>by cases h) (λi af=> .inr (by cases af;exact bL _)) ⟨g3.os,g3.tape,g3.output⟩ (bL _) g3.size (λi af cv=>g3.block i af cv);have hlen:(List.replicate n zr).length=n:=kX;have cj:dt B (gd M w' none (some w.heap.size)) e k enc (.slice (some ⟨w.heap.size,0,none⟩) (List.replicate n zr).length n) (List.replicate n zr):=by
      refine(dt.Ms (w:=w') (by rw[hlen];exact g2)).mono (bL _) λj hj o ho=> ?_
      have e1:=zX hj;unfold gd;rw[aI (by rw[e1];rfl)];exact ho
     have gH:=Here.turns (vals':=bC (some ⟨w.heap.size,0,none⟩) n) cY (hm _ _ _) q1 ak ai fJ;letI:=aY (gd M w' none (some w.heap.size)) (bC (some ⟨w.heap.size,0,none⟩) n);have jP:=Here.put (d:=op.dst) gH (v:=dV) fq dW;rw[ax,hlen] at jP;refine rest _ _ _ cj aB (λj hj=> ?_) _ w' jP;have e1:=zX hj;cases e1;exact yh hw (bL _)
   ·cases h
  ·cases h
 ·cases h
def Ey (o:Option bQ) (b t:Nat):Option (List J×Nat×Nat):=
 match o with
 |some (.oper _ _ _ s _)=>match s.A.bl.get b with
  |some k=>match k.obj with
   | .cells cs=>bif Nat.beq k.ei 0&&(Nat.beq k.cD b&& !k.ro) then match s.sl.get t with
     |some (.slice (some ⟨b',0,none⟩) n c)=>bif Nat.beq b' b then some (cs,n,c) else none
     |_=>none
     else none
   |_=>none
  |none=>none
 |_=>none
def B5 (st:cC):Option bQ->Option bQ
 |some (.oper op r ops _ ks)=>some (.oper op r ops st ks)
 |o=>o
theorem Here.ae4 [cK] {α:Type} {M:Mem} {bh:List J} {bC:Nat->List J} {N B:Nat} {st:cC} {w0 w:ao} {a:Act} {sl dJ:a1} {l:List bS} {bG:ec} {b t q n c fb:Nat} {k:hf} {cs:List J} {enc:α->List J} {xs:List α}
  (DV:∀x,(enc x).length=fb) (M_:xs.length=n) (fX:0<n) (kM:n<=c) (al: @Here (aY M bh) _ N st B w0 a w) (ag:st.A.bl.get b=some k) (fa:k.obj= .cells cs) (M6:k.ei=0) (n':k.cD=b) (gv:ev cs=true) (wH: @e4 (aY M bh) cs=xs.flatMap enc) (ad:l.length<=b)
  (Ex:st.sl.get t=some (.slice (some ⟨b,0,none⟩) n c)) (cY:d' st sl l=some bG) (hm:∀M' g,e8 (aY M bh) (aY M' (bC g)) bG) (eN:bW.set (aq q) depth sl t=some dJ) (aU:∀g,lN (bC g) q= .slice (some ⟨g,0,none⟩) n c)
  (ak:cK.cU<=l.length) (ai:hT st.A l 0):
  ∃g M',bT M' fb enc (.slice (some ⟨g,0,none⟩) n c) xs/\B<=g/\M' g≠none/\gR M M' none/\M g=none/\ @Here (aY M' (bC g)) _ N {sl:=dJ,ms:=[],A:=ff l} B w0 a w:=by
 obtain⟨⟨φ,ds,h1,ae,ar,bm,e_⟩,cg,cu⟩:=al;have ax:= @fe.get (aY M bh) _ _ _ _ _ ae t _ Ex;generalize hp:a.tmps.getD t undef=ae0 at ax;cases ax with
 |h7 _ _=>omega
 |hS _ _ _ he hs _ _=>
  obtain⟨cB,cQ,dr,fP⟩:= @bN.ea (aY M bh) _ _ _ ar b _ he;rw[ag] at cQ;cases cQ;omega
 |hR _ _ he=>
  rename_i e;obtain⟨cB,cQ,dr,fP⟩:= @bN.ea (aY M bh) _ _ _ ar b e he;rw[ag] at cQ;cases cQ;unfold fh at fP;rw[fa] at fP;obtain⟨c',jb,g1,g2,g3,g4,jJ⟩:=fP;obtain⟨g6,g7⟩:=g3.2 M6;have vf:M e.bd=none:=by
   cases af:M e.bd with
   |none=>rfl
   |some o=>exact absurd rfl ((@bN.dL (aY M bh) _ _ _ ar e.bd o af).2 b e he)
  let M':Mem:=λi=>if i=e.bd then some (.cells c' k.ty jb) else M i
  have sM:M' e.bd=some (.cells c' k.ty jb):=aI rfl;have po:∀i o,M i=some o->M' i=some o:=λi o af=>by
   show (if i=e.bd then _ else M i)=some o;rw[aG (λh=>by rw[h,vf] at af;cases af)];exact af
  have jL:c'.toList=xs.flatMap enc:=by
   rw[<-wH];refine @aD.xR (aY M bh) φ cs c'.toList gv (by simp [g7]) λi af=> ?_
   have:=g4 i af;rw[g6,Nat.zero_add] at this;simpa [eO] using this
  have p8:=cY;unfold d' at p8;have M7:∀b' x,l[b']? =some x->∃fb,st.A.bl.get b'=some fb/\fb.cD=b':=λb' x ah=>by
   split at p8
   ·cases hq:zR l with
    |false=>rw[hq] at p8;cases p8
    |true=>
     rw[hq,bs] at p8;obtain⟨f_,ve,_,a_,_⟩:=tK p8;obtain⟨fb,o,cQ,dr,_⟩:=Ea l 0 a_ b' x ah;rw[Nat.zero_add] at cQ dr;exact⟨fb,cQ,dr⟩
   ·cases p8
  have aA:=Here.Ui (s2:=aY M' (bC e.bd)) cY (hm M' e.bd) h1 ae ar bm e_ cg cu (λi o af=>by
   by_cases rn:i=e.bd
   ·subst rn
    have:some (Obj.cells c' k.ty jb)=some o:=sM.symm.trans af;cases this;refine⟨g1,λb' e' dw pS heq=> ?_⟩;obtain⟨fb,q1,aB⟩:=M7 b' _ (fy dw);exact @bN.apart (aY M bh) _ _ _ ar b' e' fb b e k pS he q1 ag (by rw[aB,n'];omega) heq
   ·have kl:M i=some o:=by
     have:(if i=e.bd then some (Obj.cells c' k.ty jb) else M i)=some o:=af
     rwa [aG rn] at this
    obtain⟨q1,aB⟩:= @bN.dL (aY M bh) _ _ _ ar i o kl
    exact⟨q1,λb' e' _ pS=>aB b' e' pS⟩) ak ai
  have jD:bT M' fb enc (.slice (some ⟨e.bd,0,none⟩) n c) xs:=by
   subst M_;refine .mk sM kM λi x ah j u hu=> ?_
   have:=zY DV xs i x ah j u hu;rw[<-jL] at this;rw[Nat.zero_add];simpa using this
  refine⟨e.bd,M',jD,bm b e he,(by rw[sM];simp),λi o af _=>po i o af,vf,?_⟩;obtain⟨⟨eS,Ih,hi,fQ,pe,nF,xU⟩,Hi,DS⟩:=aA;letI:=aY M' (bC e.bd);refine⟨⟨eS,Ih,hi,⟨fQ.size,fQ.defers,λc7 aC l8=> ?_⟩,pe,nF,xU⟩,Hi,DS⟩;rw[bW.nB _ _ _ _ _ _ eN] at l8;split at l8
  ·rename_i aF
   cases l8;subst aF;rw[hp];have:=aD.sym (φ:=eS) q;have oG:a6.σ q=Value.slice (some ⟨e.bd,0,none⟩) n c:=aU e.bd;rw[oG] at this;rw[g6,Nat.zero_add];exact this
  ·exact fQ.get c7 aC l8
theorem Na [cK] {α:Type} {P:aQ} {N B:Nat} {w0:ao} {Q:Exit->Act->ao->Prop} {M:Mem} {bh:List J} {bC:Nat->List J} {o:Option bQ} {sl dJ:a1} {l:List bS} {bG:ec} {b t q n c fb:Nat} {cs:List J} {enc:α->List J} {xs:List α}
  (h:Ey o b t=some (cs,n,c)) (DV:∀x,(enc x).length=fb) (M_:xs.length=n) (fX:0<n) (kM:n<=c) (gv:ev cs=true) (wH: @e4 (aY M bh) cs=xs.flatMap enc) (ad:l.length<=b)
  (cY:d' (de o) sl l=some bG) (hm:∀M' g,e8 (aY M bh) (aY M' (bC g)) bG) (eN:bW.set (aq q) depth sl t=some dJ) (aU:∀g,lN (bC g) q= .slice (some ⟨g,0,none⟩) n c)
  (rest:∀M' g,bT M' fb enc (.slice (some ⟨g,0,none⟩) n c) xs->B<=g->M' g≠none->gR M M' none->M g=none-> @eW (aY M' (bC g)) _ P N B w0 Q (B5 {sl:=dJ,ms:=[],A:=ff l} o))
  (ak:cK.cU<=l.length:=by first|exact Nat.zero_le _|exact hQ rfl) (ai:hT (de o).A l 0:=by exact fR rfl): @eW (aY M bh) _ P N B w0 Q o:=by
 unfold Ey at h;split at h
 ·rename_i op r ops s ks
  split at h
  ·rename_i k ag
   split at h
   ·rename_i cs' fa
    cases ka:(Nat.beq k.ei 0&&(Nat.beq k.cD b&& !k.ro)) with
    |false=>rw[ka] at h;cases h
    |true=>
     rw[ka,bs] at h;simp only [cV] at ka;split at h
     ·rename_i b' fi c' Ex
      cases tt:Nat.beq b' b with
      |false=>rw[tt] at h;cases h
      |true=>
       rw[tt,bs] at h;cases h;have Nb:=cq tt;subst Nb;refine⟨_,rfl,λa w al=> ?_⟩;obtain⟨g,M',q1,aB,b_,eB,hh,ln⟩:=Here.ae4 DV M_ fX kM al ag fa (cq ka.1) (cq ka.2.1) gv wH ad Ex cY hm eN aU ak ai;obtain⟨amC,e',ok⟩:=rest M' g q1 aB b_ eB hh;unfold B5 at e';cases e';exact ok a w ln
     ·cases h
   ·cases h
  ·cases h
 ·cases h
theorem Nc {α:Type} {M M':Mem} {g k n c:Nat} {enc:α->List J} {xs:List α} (jD:bT M' k enc (.slice (some ⟨g,0,none⟩) n c) xs) (h1:M' g≠none) (bU:gR M M' none) (ak:M g=none):ef M [] M' [qN k enc (.slice (some ⟨g,0,none⟩) n c) xs]:=
 ⟨bY.one ⟨jD,λb ad=>by cases ad;exact h1⟩,λi o af _=>bU i o af λe=>(by cases e),λb ad=>by
   have ae:some b=(Value.slice (some ⟨g,0,none⟩) n c).ownBlock:=lU.1 ad;cases ae
   exact .inr ak⟩
theorem ae5 {M M':Mem} {bh vals':List J} {a n:Nat} {i:Nat} (h1:lN bh a= .int .i64 ((i:Nat):Int)) (h:i=n): @aM (aY M bh) (aq a)= @aM (aY M' vals') (.int .i64 ((n:Nat):Int)):=by
 subst h;exact(@G' (aY M bh) a).trans h1
theorem iK.mk' {B g:Nat} {M:Mem} {ty:aK} {cs:List J} (h1:B<=g) (ae:M g=some (.cells ⟨cs⟩ ty (0,0))):iK B M (.pointer (some ⟨g,0,none⟩)) ty cs:=⟨g,rfl,h1,ae⟩
section
variable [a6] {P:aQ}
theorem aZ.quo {t:aK} {x y r:J} {a b:Int} (aJ:0<=a/\a<=9223372036854775807) (h1:1<=b) (ah:aP x=true) (a_:aP y=true) (hr:aP r=true) (ex:aM x= .int .i64 a) (gO:aM y= .int .i64 b) (cd:aM r= .int .i64 (a/b)):aZ P (.bin .quo t x y,r):=
 pn ah a_ hr ex gO λdx dy w=>by
  rw[cd];have e1:=IntWalk.i64_quo a b ⟨aJ.1,aJ.2,h1⟩;have e2:¬b=0:=by omega
  unfold fc;simp [eqGuard,binOp,Op.intDiv,e2,e1]
theorem aZ.rem {t:aK} {x y r:J} {a b:Int} (aJ:0<=a/\a<=9223372036854775807) (h1:1<=b) (ah:aP x=true) (a_:aP y=true) (hr:aP r=true) (ex:aM x= .int .i64 a) (gO:aM y= .int .i64 b) (cd:aM r= .int .i64 (a%b)):aZ P (.bin .rem t x y,r):=
 pn ah a_ hr ex gO λdx dy w=>by
  rw[cd];have e1:=IntWalk.rem_in a b aJ.1;have e2:¬b=0:=by omega
  unfold fc;simp [eqGuard,binOp,Op.intDiv,e2,e1]
end
theorem iK.up {W:ao} {M:Mem} {g:Nat} {ty:aK} {cs:List J} (h:iK 0 (aE W) (.pointer (some ⟨g,0,none⟩)) ty cs) (hm:∀i o,aE W i=some o->M i=some o):iK 0 M (.pointer (some ⟨g,0,none⟩)) ty cs:=iK.mk' (Nat.zero_le _) (hm _ _ h.known.1)
theorem Nd:∀u∈([]:List J),u.oneCell'=true:=λu h=>by cases h
theorem Nf {u:J} {l:List J} (h:u.oneCell'=true) (t:∀x∈l,x.oneCell'=true):∀x∈u::l,x.oneCell'=true:=λx ah=>by
 rcases List.mem_cons.1 ah with rfl|ah
 ·exact h
 ·exact t x ah
theorem getD_some {α:Type} {l:List α} {i:Nat} {z d:α} (h:l[i]? =some z):l.getD i d=z:=by
 rw[c_,h];rfl
theorem ae6 {a:Option Addr} {n m c j k i:Nat} (h:some i=ek (.slice (ke a c j k) m (c-j))):some i=ek (.slice a n c):=by
 cases a with
 |none=>
  unfold ke at h;split at h
  ·cases h
  ·cases h
 |some gx=>
  by_cases ai:c-j=0
  ·rw[ai,Eg] at h
   cases h
  ·unfold ke at h
   rw[aG aj] at h;have h1:(gx.add (j*k)).block=gx.block:=by
    unfold Addr.add;split<;>rfl
   rw[Option.map_some,mC _ _ aj,h1] at h;rw[mC _ _ aj];exact h
theorem cA.zero {B:Nat} {w w':ao} (h:cA B w w'):cA 0 w w':=h.mono (Nat.zero_le _)
theorem Ez {α:Type} {P:aQ} {f:FuncId} {args:Array J} {w:ao} {e:aK} {k:Nat} {enc:α->List J} {l:List α} (h:Calls P f args w λe' w'=>(∃a c,e'= .returned (.slice a l.length c)/\dt w.heap.size (aE w') e k enc (.slice a l.length c) l)/\cA w.heap.size w w'):
  Calls P f args w λe' w'=>(∃y:Option Addr×Nat,e'= .returned (.slice y.1 l.length y.2)/\ef (aE w) [] (aE w') [jt e k enc (.slice y.1 l.length y.2) l])/\cA 0 w w':=
 h.mono λe' w' he=>by
   obtain⟨⟨a,c,rfl,cj⟩,hl⟩:=he;refine⟨⟨(a,c),rfl,bY.one (p7 cj),λi o af _=> ?_,λb ad=> ?_⟩,hl.zero⟩
   ·rw[show aE w' i=aE w i from hl.block i (Array.getElem?_eq_some_iff.1 af).1]
    exact af
   ·exact .inr (Array.getElem?_eq_none_iff.2 (cj.known b (lU.1 ad)).2)
end AE
end Go.Proofs.YtepcfjbfkedlpaaGreatDoor
namespace Go.Proofs.YtepcfjbfkedlpaaGreatDoor
open Go Go.Proofs Go.RowKit
namespace AE
def Ah (t t2:aK):Option bQ->Option (J×J)
 |some (.oper o _ ops s _)=>match o.op with
  | .call c=>match c.callee,c.args with
    | .builtin .copy,⟨[me,fT]⟩=>bif decide (c.argTypes= #[t,t2]) then match pW ops o s.sl with
      |some true=>some (dU .nil s.sl me,dU .nil s.sl fT)
      |_=>none
      else none
    |_,_=>none
  |_=>none
 |_=>none
theorem ae7 [cK] {P:aQ} {N B:Nat} {w0:ao} {Q:Exit->Act->ao->Prop} {M:Mem} {bh bC:List J} {o:Option bQ} {t t2 e ty:aK} {g j m n uU:Nat} {vs js:J} {us cs cs':List J} {dF du:a1} {aT:List bS} {bG:ec}
  (eT:cs'=cs.take j++us++cs.drop (j+n)) (h:Ah t t2 o=some (vs,js)) (aF:P.underlying t=some (.slice e)) (hs:(P.info? e).map (·.size)=some 1)
  (cY:d' (de o) dF aT=some bG) (dW:gG N dF (iq o) (.int .i64 n)=some du) (hp:aP vs=true) (lO: @aM (aY M bh) vs= .slice (some ⟨g,j,none⟩) m uU)
  (fB:∀φ w x,@bN (aY M bh) φ (de o).A w-> @aD (aY M bh) φ js x->qK w 1 (λu:J=>[u]) x us) (hu:us.length=n) (fX:0<n) (Hl:n<=m) (je:∀u∈us,u.oneCell'=true)
  (cj:iK B M (.pointer (some ⟨g,0,none⟩)) ty cs) (hj:j+n<=cs.length) (hm:∀M',e8 (aY M bh) (aY M' bC) bG)
  (rest:∀M',iK B M' (.pointer (some ⟨g,0,none⟩)) ty cs'->gR M M' (some g)->∀aR w,@Here (aY M' bC) _ N {sl:=du,ms:=[],A:=ff aT} B w0 aR w->wpListIn (Fr none) 0 P (jq o) (dK P (hk o) Q) (jo o) aR w)
  (ak:cK.cU<=aT.length:=by first|exact Nat.zero_le _|exact hQ rfl) (ai:hT (de o).A aT 0:=by exact fR rfl): @eW (aY M bh) _ P N B w0 Q o:=by
 subst eT;subst hu;letI:=aY M bh;unfold Ah at h;split at h
 ·rename_i op r ops s ks
  refine⟨_,rfl,λa w al=> ?_⟩;split at h
  ·rename_i c ca
   split at h
   ·rename_i me fT pX fY
    cases hty:decide (c.argTypes= #[t,t2]) with
    |false=>rw[hty] at h;cases h
    |true=>
     rw[hty,bs] at h;have wD:c.argTypes= #[t,t2]:=of_decide_eq_true hty;split at h
     ·rename_i h2
      cases h;have fJ:=al;obtain⟨⟨φ,ds,h1,ae,ar,bm,_⟩,cg,cu⟩:=al;unfold wpListIn;rw[nc ae.get h2,aI rfl];have es:a.eval me= .slice (some ⟨g,j,none⟩) m uU:=(aD.hY _ hp (fZ (hE φ) ae.get me)).trans lO;obtain⟨vi,c2,ex,wC,jL⟩:=fB φ w _ ar (fZ (hE φ) ae.get fT);have hw:∀i o,M i=some o->w.heap[i]? =some o:=fJ.ma;obtain⟨aV,dQ⟩:=cj.known;have aA:=hw _ _ aV;cases vi with
      |none=>
       rw[wC rfl] at fX;exact absurd fX (Nat.lt_irrefl _)
      |some gx=>
       have Ai:us.flatMap (λu:J=>[u])=us:=by simp
       let eY:Array J:=(cs.take j++us++cs.drop (j+us.length)).toArray
       have EA:=run_copy_row (P:=P) w t t2 op.type e g j m uU gx us.length c2 ⟨cs⟩ ty us aF hs aA (Nat.min_eq_left aj).symm (λi v af=>jL gx rfl i v (by rw[Ai];exact af)) (by simp only [List.size_toArray];omega) je;have eH:(execOp a.eval op).run P w= .ok (.value (.int .i64 us.length)) (w.setRow g eY):=by
        unfold execOp resolve;rw[ca];simp only [pX,fY,wD,List.map_toArray,List.map_cons,List.map_nil];show (do pure (Next.value (<-Builtin.copy_ #[t,t2] op.type #[a.eval me,a.eval fT])):Sem Next).run P w=_;rw[es,ex];simp only [Sem.run_bind,EA,Result.andThen_ok];rfl
       have eX:∀c',op.op≠.defer c':=λc' h=>by rw[ca] at h;cases h
       refine⟨λ_ _=>trivial,?_⟩;rw[Oper.semAt_eq _ _ _ eX,eH,Oper.uponIn_value];obtain⟨q1,aB⟩:=oh (B:=B) (M:=M) (w':=w.setRow g eY) (T:=some g) (dD:=some g) hw (λi af=>by cases af;exact⟨by rw[aV];simp,dQ⟩) (λi af=> .inl af) ⟨rfl,rfl,rfl⟩ (bL _) (by simp [World.setRow]) (λj _ hj=>setRow_other w g j eY (λh=>hj (by rw[h])));have oj:iK B (gd M (w.setRow g eY) (some g) (some g)) (.pointer (some ⟨g,0,none⟩)) ty (cs.take j++us++cs.drop (j+us.length)):=by
        refine⟨g,rfl,dQ,?_⟩;unfold gd;rw[aI rfl];exact setRow_heap w g ⟨cs⟩ eY ty (0,0) aA
       have gH:=Here.turns (vals':=bC) cY (hm _) q1 ak ai fJ;letI:=aY (gd M (w.setRow g eY) (some g) (some g)) bC;exact rest _ oj aB _ _ (Here.put (d:=op.dst) gH (v:= .int .i64 us.length) rfl dW)
     ·cases h
   ·cases h
  ·cases h
 ·cases h
def endCell (fn:Func):Option bQ->Option (aK×J)
 |some (.done x s)=>bif BV x then match fn.results.toList,wm s.A s.ms with
  |[.cell a t],some _=>some (t,slot s.sl a)
  |_,_=>none
  else none
 |_=>none
theorem ae8 [cK] {P:aQ} {fn:Func} {N B:Nat} {w0:ao} {M:Mem} {bh:List J} {R:Ending->ao->Prop} {o:Option bQ} {t ty:aK} {g:Nat} {x v:J} {cs:List J} (h:endCell fn o=some (t,x)) (hp:aP x=true) (lO: @aM (aY M bh) x= .pointer (some ⟨g,0,none⟩))
  (cj:iK B M (.pointer (some ⟨g,0,none⟩)) ty cs) (ha:a' P (isAgg t)=some true) (hs:a' P (sizeOf t)=some cs.length) (ax:aP v=true) (bj: @aM (aY M bh) v= .agg ⟨cs⟩)
  (hb:∀w2,cA B w0 w2-> @nb (aY M bh) w2->R (.returned (.agg ⟨cs⟩)) w2): @eW (aY M bh) _ P N B w0 (p1 P fn N B w0 R) o:=by
 letI:=aY M bh;unfold endCell at h;split at h
 ·rename_i x s
  cases ah:BV x with
  |false=>rw[ah] at h;cases h
  |true=>
   rw[ah,bs] at h;split at h
   ·rename_i a c7 eD lq hl
    cases h;refine⟨_,rfl,λb2 w al=> ?_⟩;have main:D7 P fn N B w0 R b2 w:=by
     refine⟨inferInstance,s,eD,v,al,hl,λφ w1 tmps hr vX=>⟨.agg ⟨cs⟩,?_,?_⟩,λaC w2 gH=> ?_⟩
     ·have e1:tmps.getD a undef= .pointer (some ⟨g,0,none⟩):=(aD.hY _ hp (Hc (vX a))).trans lO
      have aA:w1.heap[g]? =some (.cells ⟨cs⟩ ty (0,0)):=(hr.dL g _ cj.known.1).1;have ae9:(loadVar t (⟨g,0,none⟩:Addr)).run P w1= .ok (.agg ⟨cs⟩) w1:=by
       unfold loadVar;refine cJ ha ?_;simp only [if_true];refine cJ hs (c6 (run_loadCells_list (P:=P) w1 ⟨g,0,none⟩ cs λj u hj=> ?_) rfl);rw[Addr.jA,cell_of_row w1 _ _ _ _ _ aA,Nat.zero_add];simpa using hj
      have e:results fn tmps=(fn.results.mapM (L7 tmps)) >>= λvs=>pure (if h:vs.size=1 then vs[0] else .tuple vs):=by
       unfold results;congr 1
      rw[e,Array.mapM_eq_mapM_toList,lq];refine c6 (a:=(⟨[.agg ⟨cs⟩]⟩:Array J)) (c6 (a:=[.agg ⟨cs⟩]) ?_ rfl) rfl;rw[List.mapM_cons];refine c6 (a:=Value.agg ⟨cs⟩) ?_ rfl;show (do loadVar t (<-asAddr (tmps.getD a undef)):Sem J).run P w1=_;rw[e1];exact cJ (a:=(⟨g,0,none⟩:Addr)) rfl ae9
     ·rw[<-bj]
      exact aD.uZ φ v ax
     ·have af:=gH.ma
      obtain⟨⟨φ,ds,q1,aB,b_,eB,_⟩,hh,ln⟩:=gH;have:=aB.get 0 v rfl;rw[show aC=aM v from aD.hY v ax this,bj];exact hb w2 hh af
    cases x with
    |normal=>exact main
    |ret=>exact main
    |exit id=>cases ah
    |goto l=>cases ah
   ·cases h
 ·cases h
end AE
namespace AE
def Ng [cK] {X:Type} (gY:X->a6) (eK:X->Prop) (gD:X->Nat) (m N:Nat) (head:a1) (aT:List bS) (B:Nat) (w0:ao):Act->ao->Prop:=λa w=>∃x',eK x'/\gD x'<m/\ @Here (gY x') _ N (eg head aT) B w0 a w
theorem Il [cK] {P:aQ} {N B:Nat} {w0:ao} {s1:a6} {X:Type} {gY:X->a6} (eK:X->Prop) (gD:X->Nat) {head:a1} {aT:List bS} {o:Option bQ} {bG:ec} {Q:Exit->Act->ao->Prop} (x:X) (ad:ya head aT o=some bG) (hm:e8 s1 (gY x) bG)
  (pj:∀i o,(gY x).dL i=some o->s1.dL i=some o) (ah:eK x)
  (round:∀x,eK x->∀a w,@Here (gY x) _ N (eg head aT) B w0 a w->(wB o).wpIn (Fr none) 0 P (Exit.then (Ng gY eK gD (gD x) N head aT B w0) (dK P (hk o) Q)) a w)
  (ak:cK.cU<=aT.length:=by first|exact Nat.zero_le _|exact hQ rfl) (ai:hT (de o).A aT 0:=by exact fR rfl): @eW s1 _ P N B w0 Q o:=
 adP eK gD x ad hm pj ah round ak ai
theorem ae' {s1:a6} [cK] {P:aQ} {N B:Nat} {w0:ao} {X:Type} {gY:X->a6} {eK:X->Prop} {gD:X->Nat} {m:Nat} {head:a1} {aT:List bS} {o:Option bQ} (x':X) {bG:ec} {Q:Exit->Act->ao->Prop} (ad:zV head aT o=some bG) (hm:e8 s1 (gY x') bG)
  (pj:∀i o,(gY x').dL i=some o->s1.dL i=some o) (bg:eK x') (wI:gD x'<m) (ak:cK.cU<=aT.length:=by first|exact Nat.zero_le _|exact hQ rfl) (ai:hT (de o).A aT 0:=by exact fR rfl):
  @eW s1 _ P N B w0 (Exit.then (Ng gY eK gD m N head aT B w0) Q) o:=by
 cases o with
 |none=>cases ad
 |some st=>
  refine⟨st,rfl,?_⟩;unfold zV at ad;split at ad
  ·rename_i s cF
   cases cF;intro a w al;exact⟨x',bg,wI,Here.move ad hm pj ak ai al⟩
  ·cases ad
theorem ae_ {M M':Nat->Option Obj} {bh vals':List J} {a b:Nat} {v:J} (h1:bh[a]? =some v) (ae:vals'[b]? =some v) (ha:Nat.blt a d_=true) (ad:Nat.blt b d_=true): @aM (aY M bh) (aq a)= @aM (aY M' vals') (aq b):=by
 have e1:lN bh a=lr v:=by unfold lN;rw[ha,bs,c_,h1];rfl
 have e2:lN vals' b=lr v:=by unfold lN;rw[ad,bs,c_,ae];rfl
 exact Tu (lr v) e1 e2
theorem Um [cK] {P:aQ} [Lib P] {N B:Nat} {w0:ao} {Q:Exit->Act->ao->Prop} {M:Mem} {bh:List J} {o:Option bQ} {f:FuncId} {args:List J} {dV:J} {Y:Type} {bC:Y->List J} {dF du:a1} {aT:List bS} {bG:ec} {ep:Mem} {au rN:List b4} {r:Y->J} {Aj:Y->List b4}
  (aH:b6 B ep au M rN) (is:List Nat) (ku B6:Y->List b4)
  (h:(tO P o).isSome=true) (aO:(qM P o).1=f) (ha:(qM P o).2.1=args) (cY:d' (lS P o) dF aT=some bG) (dW:gG N dF (iq o) dV=some du)
  (hU:ju rN.length is=true) (hr:∀M' y,@aM (aY M' (bC y)) dV=r y) (hL:∀y,Aj y=ku y++B6 y)
  (kN:∀w,(∀i o,M i=some o->w.heap[i]? =some o)->B<=w.heap.size->bY (aE w) (AE.pick rN is)->Calls P f ⟨@e4 (aY M bh) args⟩ w λe w'=>(∃y,e= .returned (r y)/\ef (aE w) (AE.pick rN is) (aE w') (Aj y))/\cA 0 w w')
  (hm:∀y M',e8 (aY M bh) (aY M' (bC y)) bG)
  (rest:∀M' y,b6 B ep au M' (ly rN is (ku y)++B6 y)->∀aR w,@Here (aY M' (bC y)) _ N {sl:=du,ms:=[],A:=ff aT} B w0 aR w->wpListIn (Fr none) 0 P (jq o) (dK P (hk o) Q) (jo o) aR w)
  (hlen:∀y,(ku y).length=is.length:=by exact λ_=>rfl)
  (hp:ev args=true:=by rfl) (fq:aP dV=true:=by rfl)
  (ak:cK.cU<=aT.length:=by first|exact Nat.zero_le _|exact hQ rfl) (ai:hT (lS P o).A aT 0:=by exact fR rfl): @eW (aY M bh) _ P N B w0 Q o:=
 aeQ (S:=gZ (AE.pick rN is)) (R:=λy M'=>ef M (AE.pick rN is) M' (Aj y)) h aO ha hp cY dW fq (λw hw dQ=>aeV aH is hU rfl hw dQ hr (kN w hw dQ (aH.at is hU rfl hw))) (λM' y _=>hm y M')
  (λM' y dE=>rest M' y (aH.put is hU (hlen y) (by rw[<-hL y];exact dE))) ak ai
end AE
namespace AE
def Nh (P:aQ) (A:aW) (t:aK):J->Option J
 | .pointer (some ⟨b,off,none⟩)=>match a' P (isAgg t) with
   |some false=>A.load b off
   |_=>none
 |_=>none
def EB (P:aQ) (bj:Operand->J) (A:aW) (o:Oper):Option J:=
 match o.guard with
 |some _=>none
 |none=>match o.op with
  | .load t x=>Nh P A t (bj x)
  |_=>bif wh o then @wi P ⟨[]⟩ bj o else none
section
variable [a6] {P:aQ} {φ:bM} {A:aW} {w w2:ao}
omit [a6] in
theorem Un {e:gP} {i:Nat} (h:w2.heap[e.bd]? =w.heap[e.bd]?):w2.cell? ⟨e.bd,i,none⟩=w.cell? ⟨e.bd,i,none⟩:=by
 unfold World.cell?;simp only [h]
theorem afa (hr:bN φ A w) (ag:∀b e,φ b=some e->w2.heap[e.bd]? =w.heap[e.bd]?) {t:aK} {p p' v:J} (hp:aD φ p p') (h:Nh P A t p=some v):∃aC,(Instr.loadAt t p').run P w2= .ok aC w2/\aD φ v aC:=by
 unfold Nh at h;split at h
 ·rename_i b off
  cases hp with
  |ptr he=>
   split at h
   ·rename_i pa
    obtain⟨aC,h1,ae⟩:=tl hr h he;rw[<-Un (ag _ _ he)] at h1;refine⟨aC,?_,ae⟩;unfold Instr.loadAt;refine cJ (a:=(⟨_,_,none⟩:Addr)) rfl ?_;unfold loadVar;refine cJ pa ?_;simp [Go.load,Sem.run,h1]
   ·cases h
 ·cases h
theorem Uo (hr:bN φ A w) (ag:∀b e,φ b=some e->w2.heap[e.bd]? =w.heap[e.bd]?) {ρ ρ':Operand->J} {o:Oper} {v:J} (cI:∀x,aD φ (ρ x) (ρ' x)) (h:EB P ρ A o=some v):
  ∃aC,(execOp ρ' o).run P w2= .ok (.value aC) w2/\aD φ v aC/\o.guard=none/\∀c,o.op≠.defer c:=by
 unfold EB at h;split at h
 ·cases h
 ·rename_i aA
  split at h
  ·rename_i t x ca
   obtain⟨aC,h1,ae⟩:=afa hr ag (cI x) h;refine⟨aC,?_,ae,aA,λc ai=>by rw[ca] at ai;cases ai⟩;unfold execOp;rw[ca];simp only [Sem.run_bind,h1,Result.andThen_ok];rfl
  ·cases mA:wh o with
   |false=>rw[mA] at h;cases h
   |true=>
    rw[mA,bs] at h;obtain⟨aC,h1,ae⟩:= @DN _ P ⟨[]⟩ (λ_ h=>by cases h) φ ρ ρ' o v cI h;refine⟨aC,h1 w2,ae,aA,λc ai=> ?_⟩;unfold wh at mA;rw[ai] at mA;simp at mA
end
def Im (P:aQ) [Lib P] [dO P] (C:ht) (N E m:Nat) (ops:Array Oper) (ms:List Nat) (dz:a1) (A:aW):List Oper->Nat->List J->Option (List J)
 |[],_,vs=>some vs
 |o::r,i,vs=>bif Nat.beq i E then Im P C N E m ops ms dz A r (i+1) (vs++[cL]) else
  match hD N ops (λj=>vs.getD j cL) (needs ops m o) dz with
  |some sl=>bif DO ms E i then
    match tB P C .nil ops o sl A with
    |some (v,br)=>bif Hp (.nil,br) (.nil,A) then Im P C N E m ops ms dz A r (i+1) (vs++[v]) else none
    |none=>none
   else match EB P (dU .nil sl) A o with
    |some v=>Im P C N E m ops ms dz A r (i+1) (vs++[v])
    |none=>none
  |none=>none
def afb (ops:Array Oper) (E:Nat):Option (aK×Operand×Operand):=
 match ops[E]? with
 |some o=>match o.guard,o.dst,o.op with
  |none,none,.store t p x=>some (t,p,x)
  |_,_,_=>none
 |none=>none
def lV (P:aQ) [Lib P] [dO P] (C:ht) (N E m:Nat):Option bQ->Option (aK×J×J×a1)
 |some (.draw _ ops s _)=>
  bif tE ops [] m N&&(Nat.blt E m&&(List.range m).all λi=> !direct ops i E) then
   match hD N ops (λ_=>cL) (List.range m) s.sl,afb ops E with
   |some dz,some (t,ni,fT)=>match Im P C N E m ops (zy ops) dz s.A (ops.toList.take m) 0 [] with
    |some vs=>match hD N ops (λj=>vs.getD j cL) (List.range m) dz,ops[E]? with
     |some eb,some o=>match hD N ops (λj=>vs.getD j cL) (needs ops m o) dz with
      |some Io=>bif aP (dU .nil Io ni)&&aP (dU .nil Io fT) then some (t,dU .nil Io ni,dU .nil Io fT,eb) else none
      |none=>none
     |_,_=>none
    |none=>none
   |_,_=>none
  else none
 |_=>none
section
variable {P:aQ} [Lib P] [dO P] {C:ht} {N E m:Nat} {ops:Array Oper} {ms:List Nat} {dz:a1} {A:aW}
end
structure EC [a6] [cK] (N:Nat) (ED:List Nat) (ds:List Deferred) (ops:Array Oper) (m:Nat) (vs:List J) (dz:a1) (A:aW) (B:Nat) (w0:ao) (φ:bM) (listed:Array Bool) (a:Act) (w:ao):Prop where
 afc:pZ φ ED ds
 size:listed.size=ops.size
 down:∀i j,listed.getD i false=true->direct ops i j=true->listed.getD j false=true
 sv:∀i,m<=i->listed.getD i false=false
 rel:bN φ A w
 own:∀b e,φ b=some e->B<=e.bd
 outs:tJ φ A
 below:cA B w0 w
 afd:B<=w.heap.size
 defers:a.defers=ds
 lI:a.tmps.size=N
 slot:∀t v,dz.get t=some v->aD φ v (a.tmps.getD t undef)
 val:∀j t,j<m->listed.getD j false=true->e7 ops j=some t->aD φ (vs.getD j cL) (a.tmps.getD t undef)
section
variable [a6] [cK] {N:Nat} {ED:List Nat} {ds:List Deferred} {ops:Array Oper} {m B:Nat} {vs:List J} {dz:a1} {A:aW} {w0 w:ao} {φ:bM} {listed:Array Bool} {a:Act}
theorem EC.Ip (h:EC N ED ds ops m vs dz A B w0 φ listed a w) {jM:Nat->J} {dq:List Nat} {sl:a1} (vW:∀j∈dq,j<m/\listed.getD j false=true/\jM j=vs.getD j cL) (hp:hD N ops jM dq dz=some sl):fe N ds φ sl a:=
 ⟨h.lI,h.defers,λt v ax=>by
   rcases ob _ _ _ hp t v ax with ⟨j,hj,a8,rfl⟩|⟨_,aA⟩
   ·obtain⟨h1,ae,ar⟩:=vW j hj
    rw[ar];exact h.val j t h1 ae a8
   ·exact h.slot t v aA⟩
omit [a6] [cK] in
theorem Iq {listed:Array Bool} {i:Nat} (af:i<listed.size) (j:Nat):(listed.setIfInBounds i true).getD j false=true↔j=i\/listed.getD j false=true:=by
 by_cases hj:j=i
 ·subst hj
  simp [eO,af]
 ·rw[getD_set_ne false (Ne.symm hj)]
  simp [hj]
theorem EC.put (h:EC N ED ds ops m vs dz A B w0 φ listed a w) {i:Nat} {o:Oper} {lp:a1} (hP:hD N ops (λ_=>cL) (List.range m) lp=some dz) (af:i<m) (hm:m<=ops.size) (ho:ops[i]? =some o)
  (sA:∀k,direct ops i k=true->listed.getD k false=true) (mz:∀i j,i<m->j<m->i≠j->∀t,e7 ops i=some t->e7 ops j≠some t) (bt:∀i t,i<m->e7 ops i=some t->t<N)
  {aC:J} (ax:o.dst≠none->aD φ (vs.getD i cL) aC):EC N ED ds ops m vs dz A B w0 φ (listed.setIfInBounds i true) (a.put o.dst aC) w:=by
 have kc:e7 ops i=o.dst:=by simp [e7,ho]
 have eN:=Iq (listed:=listed) (i:=i) (by have:=h.size;omega);have cv:∀t,o.dst≠some t->(a.put o.dst aC).tmps.getD t undef=a.tmps.getD t undef:=λt aF=>by
  rcases Nat.lt_or_ge t a.tmps.size with jN|jN
  ·rw[Act.rr _ _ _ _ jN,aG aF]
  ·simp [eO,Array.getElem?_eq_none jN,Array.getElem?_eq_none (show (a.put o.dst aC).tmps.size<=t by rw[Act.size_put];exact jN)]
 refine⟨h.afc,by simpa using h.size,?_,?_,h.rel,h.own,h.outs,h.below,h.afd,by rw[Act.BA];exact h.defers,by rw[Act.size_put];exact h.lI,?_,?_⟩
 ·intro j k hj a8
  rw[eN] at hj ⊢;rcases hj with rfl|hj
  ·exact .inr (sA k a8)
  ·exact .inr (h.down j k hj a8)
 ·intro j hj
  rw[getD_set_ne false aj];exact h.sv j hj
 ·intro t v oL
  by_cases pY:o.dst=some t
  ·rcases ob _ _ _ hP t v oL with ⟨j,hj,a8,rfl⟩|⟨wj,_⟩
   ·exact .cL _
   ·exact absurd (kc.trans pY) (wj i (List.mem_range.2 af))
  ·rw[cv t pY]
   exact h.slot t v oL
 ·intro j t hj hl a8
  by_cases et:j=i
  ·subst et
   have jN:t<N:=bt j t hj a8;have:(a.put o.dst aC).tmps.getD t undef=aC:=by
    rw[Act.rr _ _ _ _ (by rw[h.lI];exact jN),aI (kc.symm.trans a8)]
   rw[this];exact ax (by rw[<-kc,a8];simp)
  ·have oa:=((eN j).1 hl).resolve_left et
   rw[cv t λal=>mz i j af hj (Ne.symm et) t (kc.trans al) a8];exact h.val j t hj oa a8
end
section
variable [a6] [cK] {P:aQ} [Lib P] [dO P] {C:ht} {N E m B:Nat} {w0:ao} {Q:Exit->Act->ao->Prop}
end
end AE
namespace AE
theorem afe {P:aQ} (w:ao) (om aff ty elem:aK) (d:Option Addr) (afg:Nat) (a:Addr) (mU qD:Nat) (hu:P.underlying om=some (.slice elem)) (hs:(P.info? elem).map (·.size)=some 1):
  (Builtin.copy_ #[om,aff] ty #[.slice d 0 afg,.slice (some a) mU qD]).run P w= .ok (.int .i64 0) w:=by
 cases aU:P.info? elem with
 |none=>simp [aU] at hs
 |some i=>
  have af:i.size=1:=by simpa [aU] using hs
  cases d<;>simp [Builtin.copy_,run_underlying hu,Builtin.lenOf,Builtin.firstCells,sizeOf,typeInfo,aU,af,storeCells,loadCells,loadCellsFrom,Sem.run,pure,goInt]
theorem Ni {α:Type} {enc:α->List J} (ag:∀x,(enc x).length=1) (l:List α) (i:Nat):(l.take i).flatMap enc=(l.flatMap enc).take i/\(l.drop i).flatMap enc=(l.flatMap enc).drop i:=by
 have h:∀(l:List α) (i:Nat),(l.take i).flatMap enc=(l.flatMap enc).take i/\(l.drop i).flatMap enc=(l.flatMap enc).drop i:=by
  intro l
  induction l with
  |nil=>intro i;simp
  |cons x r b9=>
   intro i;cases i with
   |zero=>simp
   |succ i=>
    have ah:=ag x;obtain⟨v,ax⟩:=List.length_eq_one_iff.1 ah;obtain⟨h1,ae⟩:=b9 i;simp [ax,h1,ae]
 exact h l i
theorem Up [cK] {α:Type} {P:aQ} {N B:Nat} {w0:ao} {Q:Exit->Act->ao->Prop} {M:Mem} {bh bC:List J} {o:Option bQ} {t t2 e:aK} {vs js u rv jM:J} {a:Option Addr} {c i m:Nat} {enc:α->List J} {l ys l':List α} {dF du:a1} {aT:List bS} {bG:ec}
  (eT:l'=l.take i++ys.take m++l.drop (i+m)) (rk:m=min ys.length (l.length-i)) (h:Ah t t2 o=some (vs,js)) (aF:P.underlying t=some (.slice e)) (hs:(P.info? e).map (·.size)=some 1) (ag:∀x,(enc x).length=1) (je:∀x,∀v∈enc x,v.oneCell'=true)
  (cY:d' (de o) dF aT=some bG) (dW:gG N dF (iq o) rv=some du) (hp:aP vs=true) (Uq:aP rv=true) (hu:u= .slice a l.length c) (lO: @aM (aY M bh) vs=jM) (zw:jM= .slice (ke a c i 1) (l.length-i) (c-i))
  (fB:∀φ w x,(∀i o,M i=some o->w.heap[i]? =some o)-> @bN (aY M bh) φ (de o).A w-> @aD (aY M bh) φ js x->qK w 1 enc x ys) (Ak:ys≠[]) (af:i<=l.length)
  (cj:dt B M e 1 enc u l) (cd:∀M',@aM (aY M' bC) rv= .int .i64 ((m:Nat):Int)) (hm:∀M',e8 (aY M bh) (aY M' bC) bG)
  (rest:∀M',dt B M' e 1 enc u l'->gR M M' (ek u)->∀aR w,@Here (aY M' bC) _ N {sl:=du,ms:=[],A:=ff aT} B w0 aR w->wpListIn (Fr none) 0 P (jq o) (dK P (hk o) Q) (jo o) aR w)
  (ak:cK.cU<=aT.length:=by first|exact Nat.zero_le _|exact hQ rfl) (ai:hT (de o).A aT 0:=by exact fR rfl): @eW (aY M bh) _ P N B w0 Q o:=by
 subst zw;letI:=aY M bh;unfold Ah at h;split at h
 ·rename_i op r ops s ks
  refine⟨_,rfl,λb2 w al=> ?_⟩;split at h
  ·rename_i eo ca
   split at h
   ·rename_i me fT pX fY
    cases hty:decide (eo.argTypes= #[t,t2]) with
    |false=>rw[hty] at h;cases h
    |true=>
     rw[hty,bs] at h;have wD:eo.argTypes= #[t,t2]:=of_decide_eq_true hty;split at h
     ·rename_i h2
      cases h;have fJ:=al;obtain⟨⟨φ,ds,h1,ae,ar,bm,_⟩,cg,cu⟩:=al;unfold wpListIn;rw[nc ae.get h2,aI rfl];have es:b2.eval me= .slice (ke a c i 1) (l.length-i) (c-i):=(aD.hY _ hp (fZ (hE φ) ae.get me)).trans lO;have hw:∀i o,M i=some o->w.heap[i]? =some o:=fJ.ma;obtain⟨vi,c2,ex,wC,jL⟩:=fB φ w _ hw ar (fZ (hE φ) ae.get fT);have eX:∀c',op.op≠.defer c':=λc' h=>by rw[ca] at h;cases h
      cases vi with
      |none=>exact absurd (wC rfl) Ak
      |some gx=>
       have n_:∀(w2:ao),(Builtin.copy_ #[t,t2] op.type #[b2.eval me,b2.eval fT]).run P w= .ok (.int .i64 ((m:Nat):Int)) w2->(execOp b2.eval op).run P w= .ok (.value (.int .i64 ((m:Nat):Int))) w2:=by
        intro w2 EA;unfold execOp resolve;rw[ca];simp only [pX,fY,wD,List.map_toArray,List.map_cons,List.map_nil];show (do pure (Next.value (<-Builtin.copy_ #[t,t2] op.type #[b2.eval me,b2.eval fT])):Sem Next).run P w=_;simp only [Sem.run_bind,EA,Result.andThen_ok];rfl
       rcases Nat.eq_or_lt_of_le af with oi|oi
       ·
        have yk:m=0:=by omega
        subst yk;have iH:l'=l:=by rw[eT,oi];simp
        rw[iH] at rest;have eH:=n_ w (by rw[es,ex,show l.length-i=0 by omega];exact afe w t t2 op.type e _ _ gx _ c2 aF hs);refine⟨λ_ _=>trivial,?_⟩;rw[Oper.semAt_eq _ _ _ eX,eH,Oper.uponIn_value];have gH:=Here.move (s2:=aY M bC) cY (hm M) (λ_ _ h=>h) ak ai fJ;have:=rest M cj (λ_ _ h _=>h) _ _ (@Here.put (aY M bC) _ _ _ _ _ _ _ op.dst rv du gH Uq dW);rw[cd M] at this;exact this
       ·rcases cj with ⟨amD,rfl,rfl⟩|⟨g,cap,cur,he,jC,dQ,aV,hle,v8,gv,wG⟩
        ·simp at oi
        ·rw[he] at hu
         simp only [Value.slice.injEq] at hu;obtain⟨rfl,_,rfl⟩:=hu;have aA:=hw _ _ aV;have a8:ke (some (⟨g,0,none⟩:Addr)) cap i 1=some ⟨g,i,none⟩:=by
          unfold ke;rw[aG aj];show some ((⟨g,0,none⟩:Addr).add (i*1))=_;have:(⟨g,0,none⟩:Addr).add (i*1)=⟨g,0+i*1,none⟩:=by unfold Addr.add;split<;>simp_all
          rw[this,Nat.zero_add,Nat.mul_one]
         have amE:cur.size=cap:=by omega
         have Ai:((ys.take m).flatMap enc).length=m:=by
          rw[p3 ag,List.length_take];omega
         have EA:=run_copy_row (P:=P) w t t2 op.type e g i (l.length-i) (cap-i) gx ys.length c2 cur e ((ys.take m).flatMap enc) aF hs aA (by rw[Ai];exact rk) (λj v hj=>jL gx rfl j v (by
          rw[(Ni ag ys m).1] at hj;rw[List.getElem?_take] at hj;split at hj
          ·exact hj
          ·cases hj)) (by rw[Ai];omega) (λv ax=>by
          obtain⟨x,_,ah⟩:=List.mem_flatMap.1 ax
          exact je x v ah)
         let eY:Array J:=(cur.toList.take i++(ys.take m).flatMap enc++cur.toList.drop (i+m)).toArray
         have eH:=n_ (w.setRow g eY) (by rw[es,ex,a8,EA,Ai];rfl);refine⟨λ_ _=>trivial,?_⟩;rw[Oper.semAt_eq _ _ _ eX,eH,Oper.uponIn_value];have gN:ek u=some g:=by rw[he];exact mC ⟨g,0,none⟩ _ jC
         obtain⟨q1,aB⟩:=oh (B:=B) (M:=M) (w':=w.setRow g eY) (T:=some g) (dD:=some g) hw (λi af=>by cases af;exact⟨by rw[aV];simp,dQ⟩) (λi af=> .inl af) ⟨rfl,rfl,rfl⟩ (bL _) (by simp [World.setRow]) (λj _ hj=>setRow_other w g j eY (λh=>hj (by rw[h])));have iH:l'.length=l.length:=by rw[eT];simp;omega
         have oj:dt B (gd M (w.setRow g eY) (some g) (some g)) e 1 enc u l':=by
          refine .inr ⟨g,cap,eY,by rw[he,iH],jC,dQ,?_,by rw[iH];exact hle,v8,?_,?_⟩
          ·unfold gd
           rw[aI rfl];exact setRow_heap w g cur eY e (0,0) aA
          ·show (List.toArray _).size=_
           simp only [List.size_toArray,List.length_append,List.length_take,List.length_drop,Ai,Array.length_toList];omega
          ·show (cur.toList.take i++(ys.take m).flatMap enc++cur.toList.drop (i+m)).take (l'.length*1)=_
           rw[eT,List.flatMap_append,List.flatMap_append,(Ni ag l i).1,(Ni ag l (i+m)).2,<-wG,Nat.mul_one,Nat.mul_one,<-eT,iH];have h1:(cur.toList.take i++(ys.take m).flatMap enc).length=i+m:=by
            rw[List.length_append,Ai,List.length_take,Array.length_toList];omega
           rw[List.take_append,h1,List.take_of_length_le aj,List.take_drop,List.take_take,Nat.min_eq_left aj,List.drop_take];congr 1;have:i+m+(l.length-(i+m))=l.length:=by omega
           rw[this,List.drop_take]
         have gH:=Here.turns (vals':=bC) cY (hm _) q1 ak ai fJ;have:=rest _ oj (by rw[gN];exact aB) _ _ (@Here.put (aY (gd M (w.setRow g eY) (some g) (some g)) bC) _ _ _ _ _ _ _ op.dst rv du gH Uq dW);rw[cd _] at this;exact this
     ·cases h
   ·cases h
  ·cases h
 ·cases h
theorem afh (a:Option Addr) (n c:Nat):Value.slice a n c= .slice (ke a c 0 1) (n-0) (c-0):=by
 unfold ke;split
 ·rfl
 ·cases a with
  |none=>rfl
  |some a=>
   obtain⟨b,o,s⟩:=a;rw[Nat.sub_zero,Nat.sub_zero,Nat.zero_mul];cases s<;>rfl
theorem Ur {α:Type} {M:Mem} {bh:List J} {js jM:J} {A:aW} {k:Nat} {enc:α->List J} {l:List α} (hp:aP js=true) (bj: @aM (aY M bh) js=jM) (jD:bT M k enc jM l) (ag:∀x,(enc x).length=k):
  ∀φ w x,(∀i o,M i=some o->w.heap[i]? =some o)-> @bN (aY M bh) φ A w-> @aD (aY M bh) φ js x->qK w k enc x l:=λφ w x hw _ ax=>by
 have:x=jM:=(@aD.hY (aY M bh) φ js x hp ax).trans bj;rw[this];exact jD.reads ag hw
theorem Ir {n:Int} (h1:0<=n) (ae:n<=18446744073709551615):IntKind.u64.wrap n=n:=by rw[IntKind.wrap_u64];omega
end AE
namespace AE
abbrev cE:=Option Addr×Nat
def Nj (P:aQ) (A:aW) (t:aK):J->Option J
 | .pointer (some ⟨b,off,none⟩)=>match a' P (isAgg t) with
   |some true=>match a' P (sizeOf t) with
    |some n=>(A.qz b off n).map λl=> .agg ⟨l⟩
    |none=>none
   |_=>none
 |_=>none
theorem afi [a6] {φ:bM} {A:aW} {w w2:ao} {e:gP} (hr:bN φ A w) (ag:w2.heap[e.bd]? =w.heap[e.bd]?) (P:aQ) {b off n:Nat} {vs:List J} (h:A.qz b off n=some vs) (he:φ b=some e):
  ∃df:Array J,(loadCells ⟨e.bd,e.sh+off,none⟩ n).run P w2= .ok df w2/\df.size=vs.length/\∀j,j<vs.length->aD φ (vs.getD j undef) (df.getD j undef):=by
 obtain⟨hl,hj⟩:=zc h;have zd:∀j,j<n->∃aC,w2.cell? ⟨e.bd,e.sh+off+j,none⟩=some aC/\aD φ (vs.getD j undef) aC:=λj tq=>by
  obtain⟨aC,h1,ae⟩:=tl hr (hj j tq) he;exact⟨aC,by rw[show e.sh+off+j=e.sh+(off+j) by omega,Un ag];exact h1,ae⟩
 let f:Nat->J:=λj=>(w2.cell? ⟨e.bd,e.sh+off+j,none⟩).getD undef
 have aO:∀j,j<n->w2.cell? ((⟨e.bd,e.sh+off,none⟩:Addr).add j)=some (f j):=λj tq=>by
  obtain⟨aC,h1,_⟩:=zd j tq;rw[Addr.jA,h1];simp [f,h1]
 refine⟨_,run_loadCells _ _ n f aO,by simp [hl],λj tq=> ?_⟩;obtain⟨aC,h1,ae⟩:=zd j aj;have:f j=aC:=by simp [f,h1]
 have afj:j<n:=by omega
 simpa [afj,this] using ae
theorem afk [a6] {P:aQ} {φ:bM} {A:aW} {w w2:ao} (hr:bN φ A w) (ag:∀b e,φ b=some e->w2.heap[e.bd]? =w.heap[e.bd]?) {t:aK} {p p' v:J} (hp:aD φ p p') (h:Nj P A t p=some v):∃aC,(Instr.loadAt t p').run P w2= .ok aC w2/\aD φ v aC:=by
 unfold Nj at h;split at h
 ·rename_i b off
  cases hp with
  |ptr he=>
   split at h
   ·rename_i pa
    split at h
    ·rename_i n ak
     obtain⟨l,hl,rfl⟩:=Option.map_eq_some_iff.1 h;obtain⟨df,h1,ae,ar⟩:=afi hr (ag _ _ ct) P hl ct;refine⟨.agg df,?_,.agg _ _ (by simp [ae]) λi af=>by simpa using ar i (by simpa using af)⟩;unfold Instr.loadAt;refine cJ (a:=(⟨_,_,none⟩:Addr)) rfl ?_;unfold loadVar;refine cJ pa ?_;simp only [if_true];refine cJ ak ?_;simp only [Sem.run_bind,h1,Result.andThen_ok];rfl
    ·cases h
   ·cases h
 ·cases h
def yl (P:aQ) (bj:Operand->J) (A:aW) (o:Oper):Option J:=
 match o.op with
 | .build t ⟨[]⟩=>match o.guard with
   |none=>match a' P (Instr.build t #[]) with
    |some v=>bif plain v then some v else none
    |none=>none
   |some _=>none
 | .load t x=>match o.guard with
   |none=>match Nj P A t (bj x) with
    |some v=>some v
    |none=>EB P bj A o
   |some _=>none
 |_=>EB P bj A o
theorem afl [a6] {P:aQ} {φ:bM} {A:aW} {w w2:ao} (hr:bN φ A w) (ag:∀b e,φ b=some e->w2.heap[e.bd]? =w.heap[e.bd]?) {ρ ρ':Operand->J} {o:Oper} {v:J} (cI:∀x,aD φ (ρ x) (ρ' x)) (h:yl P ρ A o=some v):
  ∃aC,(execOp ρ' o).run P w2= .ok (.value aC) w2/\aD φ v aC/\o.guard=none/\∀c,o.op≠.defer c:=by
 unfold yl at h;split at h
 ·rename_i t ca
  split at h
  ·rename_i aA
   split at h
   ·rename_i u hu
    cases hp:plain u with
    |false=>rw[hp] at h;cases h
    |true=>
     rw[hp,bs] at h;cases h;refine⟨v,?_,aD.j8 φ v hp,aA,λc ai=>by rw[ca] at ai;cases ai⟩;unfold execOp;rw[ca];simp only [List.map_toArray,List.map_nil,Sem.run_bind,iF hu w2,Result.andThen_ok];rfl
   ·cases h
  ·cases h
 ·rename_i t x ca
  split at h
  ·rename_i aA
   split at h
   ·rename_i u hu
    cases h;obtain⟨aC,h1,ae⟩:=afk (w2:=w2) hr ag (cI x) hu;refine⟨aC,?_,ae,aA,λc ai=>by rw[ca] at ai;cases ai⟩;unfold execOp;rw[ca];simp only [Sem.run_bind,h1,Result.andThen_ok];rfl
   ·exact Uo hr ag cI h
  ·cases h
 ·exact Uo hr ag cI h
def B7 (P:aQ) (N m:Nat) (dq:List Nat) (ops:Array Oper) (dz:a1) (A:aW):List Oper->Nat->List J->Option (List J)
 |[],_,vs=>some vs
 |o::r,i,vs=>bif dq.contains i then B7 P N m dq ops dz A r (i+1) (vs++[cL]) else
  match hD N ops (λj=>vs.getD j cL) (needs ops m o) dz with
  |some sl=>match yl P (dU .nil sl) A o with
   |some v=>B7 P N m dq ops dz A r (i+1) (vs++[v])
   |none=>none
  |none=>none
def EE (P:aQ) (N m:Nat) (dq:List Nat):Option bQ->Option (a1×List J×a1)
 |some (.draw _ ops s _)=>
  bif tE ops [] m N&&((List.range m).all λi=>match ops[i]? with|some o=>(needs ops m o).all λj=> !dq.contains j|none=>false)&&dq.all (λj=>Nat.blt j m) then
   match hD N ops (λ_=>cL) (List.range m) s.sl with
   |some dz=>match B7 P N m dq ops dz s.A (ops.toList.take m) 0 [] with
    |some vs=>match hD N ops (λj=>vs.getD j cL) ((List.range m).filter λi=> !dq.contains i) dz with
     |some Is=>some (dz,vs,Is)
     |none=>none
    |none=>none
   |none=>none
  else none
 |_=>none
def p9 (P:aQ) (N m:Nat) (dq:List Nat) (o:Option bQ) (i:Nat):a1:=
 match EE P N m dq o,(lu o)[i]? with
 |some (dz,vs,_),some op=>match hD N (lu o) (λj=>vs.getD j cL) (needs (lu o) m op) dz with
  |some sl=>sl
  |none=> .nil
 |_,_=> .nil
def EF (P:aQ) (N m:Nat) (dq:List Nat) (o:Option bQ):cC:={de o with sl:=match EE P N m dq o with|some (_,_,sl)=>sl|none=> .nil}
def Nk (m:Nat) (o:Option bQ):List Oper:=(lu o).toList.drop m
def B8 (N:Nat) (ops:Array Oper):List (Nat×J)->a1->Option a1
 |[],sl=>some sl
 |p::r,sl=>match gG N sl (e7 ops p.1) p.2 with
  |some s=>B8 N ops r s
  |none=>none
def vn [a6] (P:aQ) (M:Mem) (B:Nat) (o:Oper) (sl:a1) (R:cE->b4) (rv:cE->J):Prop:=
 o.guard=none/\∀(a:Act) (w:ao) (K:Act->ao->Prop) (Q:Exit->Act->ao->Prop),(∀x:Operand,aP (dU .nil sl x)=true->a.eval x=aM (dU .nil sl x))->(∀b o,M b=some o->w.heap[b]? =some o)->B<=w.heap.size->
   (∀y w',(R y).ok (aE w')->(∀b,(R y).lT b->w.heap.size<=b)->cA w.heap.size w w'->K (a.put o.dst (rv y)) w')->Oper.wpIn (Fr none) 0 P o a w K Q
theorem Us {P:aQ} {N m:Nat} {dq:List Nat} {ops:Array Oper} {dz:a1} {A:aW}:∀(l:List Oper) (i0:Nat) (vs df:List J),vs.length=i0->B7 P N m dq ops dz A l i0 vs=some df->
  df.length=vs.length+l.length/\df.take vs.length=vs/\∀i o,l[i]? =some o->dq.contains (i0+i)=false->∃sl,hD N ops (λj=>(df.take (vs.length+i)).getD j cL) (needs ops m o) dz=some sl/\yl P (dU .nil sl) A o=some (df.getD (vs.length+i) cL)
 |[],i0,vs,df,_,h=>by
  cases h;exact⟨by simp,by simp,λi o af=>by simp at af⟩
 |o::r,i0,vs,df,zz,h=>by
  unfold B7 at h;have go:∀v,(dq.contains i0=false->∃sl,hD N ops (λj=>vs.getD j cL) (needs ops m o) dz=some sl/\yl P (dU .nil sl) A o=some v)->B7 P N m dq ops dz A r (i0+1) (vs++[v])=some df->
    df.length=vs.length+(o::r).length/\df.take vs.length=vs/\∀i o',(o::r)[i]? =some o'->dq.contains (i0+i)=false->∃sl,hD N ops (λj=>(df.take (vs.length+i)).getD j cL) (needs ops m o') dz=some sl/\yl P (dU .nil sl) A o'=some (df.getD (vs.length+i) cL):=by
   intro v ax h;obtain⟨ae,ar,bm⟩:=Us r (i0+1) (vs++[v]) df (by simp [zz]) h;have hlen:(vs++[v]).length=vs.length+1:=by simp
   rw[hlen] at ae ar;have xT:df.take vs.length=vs:=by
    have:=congrArg (List.take vs.length) ar;rw[List.take_take,Nat.min_eq_left aj] at this;simpa using this
   refine⟨by simp;omega,xT,?_⟩;intro i o' af
   match i with
   |0=>
    simp only [List.getElem?_cons_zero,cz] at af;subst af;simp only [Nat.add_zero];rw[xT];have gi:df.getD vs.length cL=v:=by
     have:=congrArg (λl=>l[vs.length]?) ar;simp at this;rw[c_,this];rfl
    rw[gi];exact ax
   |i+1=>
    have:=bm i o' (by simpa using af);rw[hlen] at this;rw[show vs.length+(i+1)=vs.length+1+i by omega,show i0+(i+1)=i0+1+i by omega];exact this
  cases ai:dq.contains i0 with
  |true=>
   rw[ai,bs] at h;exact go cL (λal=>by rw[ai] at al;cases al) h
  |false=>
   rw[ai,dZ] at h;split at h
   ·rename_i sl gC
    split at h
    ·rename_i v ax
     exact go v (λ_=>⟨sl,gC,ax⟩) h
    ·cases h
   ·cases h
structure tV [a6] (N:Nat) (ds:List Deferred) (ops:Array Oper) (m:Nat) (dq:List Nat) (vs:List J) (dz:a1) (k6:ao) (φ:bM) (R:Nat->cE->b4) (rv:Nat->cE->J) (ys:Nat->cE) (listed:Array Bool) (a:Act) (w:ao):Prop where
 size:listed.size=ops.size
 down:∀i j,listed.getD i false=true->direct ops i j=true->listed.getD j false=true
 sv:∀i,m<=i->listed.getD i false=false
 low:cA k6.heap.size k6 w
 defers:a.defers=ds
 lI:a.tmps.size=N
 slot:∀t v,dz.get t=some v->aD φ v (a.tmps.getD t undef)
 Nl:∀j t,j<m->listed.getD j false=true->dq.contains j=false->e7 ops j=some t->aD φ (vs.getD j cL) (a.tmps.getD t undef)
 Iu:∀j t,j<m->listed.getD j false=true->dq.contains j=true->e7 ops j=some t->a.tmps.getD t undef=rv j (ys j)
 ok:∀j,j<m->listed.getD j false=true->dq.contains j=true->(R j (ys j)).ok (aE w)/\∀b,(R j (ys j)).lT b->k6.heap.size<=b
 two:∀i j,i<m->j<m->i≠j->listed.getD i false=true->listed.getD j false=true->dq.contains i=true->dq.contains j=true->∀b,(R i (ys i)).lT b->¬(R j (ys j)).lT b
section
variable [a6] {N:Nat} {ds:List Deferred} {ops:Array Oper} {m:Nat} {dq:List Nat} {vs:List J} {dz:a1} {k6 w:ao} {φ:bM} {R:Nat->cE->b4} {rv:Nat->cE->J} {ys:Nat->cE} {listed:Array Bool} {a:Act}
omit [a6] in
theorem wJ {a:Act} {d:Option Tmp} {aC:J} (t:Tmp) (aF:d≠some t):(a.put d aC).tmps.getD t undef=a.tmps.getD t undef:=by
 rcases Nat.lt_or_ge t a.tmps.size with jN|jN
 ·rw[Act.rr _ _ _ _ jN,aG aF]
 ·simp [eO,Array.getElem?_eq_none jN,Array.getElem?_eq_none (show (a.put d aC).tmps.size<=t by rw[Act.size_put];exact jN)]
theorem tV.Ip (h:tV N ds ops m dq vs dz k6 φ R rv ys listed a w) {jM:Nat->J} {ks:List Nat} {sl:a1} (Dw:∀j∈ks,j<m/\listed.getD j false=true/\dq.contains j=false/\jM j=vs.getD j cL) (hp:hD N ops jM ks dz=some sl):fe N ds φ sl a:=
 ⟨h.lI,h.defers,λt v ax=>by
   rcases ob _ _ _ hp t v ax with ⟨j,hj,a8,rfl⟩|⟨_,aA⟩
   ·obtain⟨h1,ae,ar,bm⟩:=Dw j hj
    rw[bm];exact h.Nl j t h1 ae ar a8
   ·exact h.slot t v aA⟩
theorem tV.afm (h:tV N ds ops m dq vs dz k6 φ R rv ys listed a w) {i:Nat} {o:Oper} {lp:a1} (hP:hD N ops (λ_=>cL) (List.range m) lp=some dz) (af:i<m) (hm:m<=ops.size) (ho:ops[i]? =some o) (fB:dq.contains i=false)
  (sA:∀k,direct ops i k=true->listed.getD k false=true) (mz:∀i j,i<m->j<m->i≠j->∀t,e7 ops i=some t->e7 ops j≠some t) (bt:∀i t,i<m->e7 ops i=some t->t<N)
  {aC:J} (ax:aD φ (vs.getD i cL) aC):tV N ds ops m dq vs dz k6 φ R rv ys (listed.setIfInBounds i true) (a.put o.dst aC) w:=by
 have kc:e7 ops i=o.dst:=by simp [e7,ho]
 have eN:=Iq (listed:=listed) (i:=i) (by have:=h.size;omega);have Iv:∀{j},dq.contains j=true->j≠i:=λ{j} hj e=>by rw[e,fB] at hj;cases hj
 refine⟨by simpa using h.size,?_,?_,h.low,by rw[Act.BA];exact h.defers,by rw[Act.size_put];exact h.lI,?_,?_,?_,?_,?_⟩
 ·intro j k hj a8
  rw[eN] at hj ⊢;rcases hj with rfl|hj
  ·exact .inr (sA k a8)
  ·exact .inr (h.down j k hj a8)
 ·intro j hj
  rw[getD_set_ne false aj];exact h.sv j hj
 ·intro t v oL
  by_cases pY:o.dst=some t
  ·rcases ob _ _ _ hP t v oL with ⟨j,hj,a8,rfl⟩|⟨wj,_⟩
   ·exact .cL _
   ·exact absurd (kc.trans pY) (wj i (List.mem_range.2 af))
  ·rw[wJ t pY]
   exact h.slot t v oL
 ·intro j t hj hl ah a8
  by_cases et:j=i
  ·subst et
   rw[Act.rr _ _ _ _ (by rw[h.lI];exact bt j t hj a8),aI (kc.symm.trans a8)];exact ax
  ·rw[wJ t λal=>mz i j af hj (Ne.symm et) t (kc.trans al) a8]
   exact h.Nl j t hj (((eN j).1 hl).resolve_left et) ah a8
 ·intro j t hj hl ah a8
  have et:=Iv ah;rw[wJ t λal=>mz i j af hj (Ne.symm et) t (kc.trans al) a8];exact h.Iu j t hj (((eN j).1 hl).resolve_left et) ah a8
 ·intro j hj hl ah
  exact h.ok j hj (((eN j).1 hl).resolve_left (Iv ah)) ah
 ·intro j k hj ag cv hl kP ah hF
  exact h.two j k hj ag cv (((eN j).1 hl).resolve_left (Iv ah)) (((eN k).1 kP).resolve_left (Iv hF)) ah hF
theorem tV.afn (h:tV N ds ops m dq vs dz k6 φ R rv ys listed a w) {i:Nat} {o:Oper} {lp:a1} (hP:hD N ops (λ_=>cL) (List.range m) lp=some dz) (af:i<m) (hm:m<=ops.size) (ho:ops[i]? =some o) (fB:dq.contains i=true) (tF:listed.getD i false=false)
  (sA:∀k,direct ops i k=true->listed.getD k false=true) (mz:∀i j,i<m->j<m->i≠j->∀t,e7 ops i=some t->e7 ops j≠some t) (bt:∀i t,i<m->e7 ops i=some t->t<N)
  {y:cE} {w':ao} (hb:(R i y).ok (aE w')) (aO:∀b,(R i y).lT b->w.heap.size<=b) (ri:cA w.heap.size w w'):
  tV N ds ops m dq vs dz k6 φ R rv (λj=>if j=i then y else ys j) (listed.setIfInBounds i true) (a.put o.dst (rv i y)) w':=by
 have kc:e7 ops i=o.dst:=by simp [e7,ho]
 have eN:=Iq (listed:=listed) (i:=i) (by have:=h.size;omega);have Ak:∀{j},j≠i->(if j=i then y else ys j)=ys j:=λ{j} hj=>aG hj
 refine⟨by simpa using h.size,?_,?_,h.low.trans (ri.mono h.low.size),by rw[Act.BA];exact h.defers,by rw[Act.size_put];exact h.lI,?_,?_,?_,?_,?_⟩
 ·intro j k hj a8
  rw[eN] at hj ⊢;rcases hj with rfl|hj
  ·exact .inr (sA k a8)
  ·exact .inr (h.down j k hj a8)
 ·intro j hj
  rw[getD_set_ne false aj];exact h.sv j hj
 ·intro t v oL
  by_cases pY:o.dst=some t
  ·rcases ob _ _ _ hP t v oL with ⟨j,hj,a8,rfl⟩|⟨wj,_⟩
   ·exact .cL _
   ·exact absurd (kc.trans pY) (wj i (List.mem_range.2 af))
  ·rw[wJ t pY]
   exact h.slot t v oL
 ·intro j t hj hl ah a8
  have et:j≠i:=λe=>by rw[e,fB] at ah;cases ah
  rw[wJ t λal=>mz i j af hj (Ne.symm et) t (kc.trans al) a8];exact h.Nl j t hj (((eN j).1 hl).resolve_left et) ah a8
 ·intro j t hj hl ah a8
  by_cases et:j=i
  ·subst et
   rw[Act.rr _ _ _ _ (by rw[h.lI];exact bt j t hj a8),aI (kc.symm.trans a8),aI rfl]
  ·rw[wJ t λal=>mz i j af hj (Ne.symm et) t (kc.trans al) a8,Ak et]
   exact h.Iu j t hj (((eN j).1 hl).resolve_left et) ah a8
 ·intro j hj hl ah
  by_cases et:j=i
  ·subst et
   rw[aI rfl];exact⟨hb,λb ad=>Nat.le_trans h.low.size (aO b ad)⟩
  ·rw[Ak et]
   obtain⟨q1,aB⟩:=h.ok j hj (((eN j).1 hl).resolve_left et) ah;refine⟨(R j (ys j)).loc _ _ (λb o _ ad=> ?_) q1,aB⟩;rw[show aE w' b=aE w b from ri.block b (Array.getElem?_eq_some_iff.1 ad).1];exact ad
 ·intro j k hj ag cv hl kP ah hF b ad ka
  have old:∀j,j<m->j≠i->(listed.setIfInBounds i true).getD j false=true->dq.contains j=true->(R j (ys j)).lT b->¬w.heap.size<=b:=λj hj et hl ah ad hs=>by
   have:=(R j (ys j)).p6 _ (h.ok j hj (((eN j).1 hl).resolve_left et) ah).1 b ad;exact this (Array.getElem?_eq_none_iff.2 hs)
  by_cases et:j=i
  ·have sB:k≠i:=λe=>cv (et.trans e.symm)
   rw[Ak sB] at ka;rw[aI et] at ad;rw[et] at ad;exact old k ag sB kP hF ka (aO b ad)
  ·rw[Ak et] at ad
   by_cases sB:k=i
   ·rw[aI sB,sB] at ka
    exact old j hj et hl ah ad (aO b ka)
   ·rw[Ak sB] at ka
    exact h.two j k hj ag cv (((eN j).1 hl).resolve_left et) (((eN k).1 kP).resolve_left sB) ah hF b ad ka
end
theorem Here.know [a6] [cK] {N B:Nat} {s:cC} {w0 w:ao} {a:Act} {dJ:a1} {d:Option Tmp} {v:J} (al:Here N s B w0 a w) (hp:aP v=true) (aF:∀t,d=some t->a.tmps.getD t undef=aM v) (eN:gG N s.sl d v=some dJ):Here N {s with sl:=dJ} B w0 a w:=by
 obtain⟨⟨φ,ds,h1,ae,ar⟩,cg,cu⟩:=al;refine⟨⟨φ,ds,h1,⟨ae.size,ae.defers,λt u hu=> ?_⟩,ar⟩,cg,cu⟩;cases d with
 |none=>cases eN;exact ae.get t u hu
 |some d=>
  have:=ob (N:=N) (ops:= #[{(default:Oper) with dst:=some d}]) (jM:=λ_=>v) [0] s.sl dJ (by
   unfold hD;rw[show e7 #[{(default:Oper) with dst:=some d}] 0=some d from rfl,eN]
   rfl) t u hu
  rcases this with ⟨j,hj,a8,rfl⟩|⟨_,aA⟩
  ·rw[List.mem_singleton.1 hj] at a8
   rw[aF t a8];exact aD.uZ φ u hp
  ·exact ae.get t u aA
theorem Here.Ut [a6] [cK] {N B:Nat} {w0 w:ao} {a:Act} {ops:Array Oper} {ms:List Nat} {A:aW}:∀(g':List (Nat×J)) (sl dJ:a1),Here N {sl,ms,A} B w0 a w->(∀p∈g',aP p.2=true/\∀t,e7 ops p.1=some t->a.tmps.getD t undef=aM p.2)->B8 N ops g' sl=some dJ->Here N {sl:=dJ,ms,A} B w0 a w
 |[],sl,dJ,al,_,h=>by cases h;exact al
 |p::r,sl,dJ,al,hp,h=>by
  unfold B8 at h;split at h
  ·rename_i s1 hs
   obtain⟨h1,ae⟩:=hp p (by simp);exact Here.Ut r s1 dJ (Here.know al h1 ae hs) (λq aU=>hp q (by simp [aU])) h
  ·cases h
theorem afo [cK] {P:aQ} {N B:Nat} {w0:ao} {Q:Exit->Act->ao->Prop} {M:Mem} {bh:List J} {Y:Type} {bC:Y->List J} {o:Option bQ} {m:Nat} {g':List (Nat×J)} {R:Nat->cE->b4} {rv:Nat->cE->J} {pr:Nat->Y->cE} {mk:(Nat->cE)->Y} {dF du:a1} {aT:List bS} {bG:ec}
  (cH:P.follows .mixedOrders=true) (h:(EE P N m (g'.map (·.1)) o).isSome=true) (eX:(g'.map (·.1)).Nodup)
  (fB:∀i∈g'.map (·.1),∃op,(lu o)[i]? =some op/\ @vn (aY M bh) P M B op (p9 P N m (g'.map (·.1)) o i) (R i) (rv i))
  (rB:∀ys j,j∈g'.map (·.1)->pr j (mk ys)=ys j) (cY:d' (EF P N m (g'.map (·.1)) o) dF aT=some bG) (dW:B8 N (lu o) g' dF=some du) (fq:g'.all (λp=>aP p.2)=true)
  (cd:∀y M' p,p∈g'-> @aM (aY M' (bC y)) p.2=rv p.1 (pr p.1 y)) (hm:∀y M',e8 (aY M bh) (aY M' (bC y)) bG)
  (rest:∀y M',ef M [] M' (g'.map λp=>R p.1 (pr p.1 y))->∀aR w,@Here (aY M' (bC y)) _ N {sl:=du,ms:=[],A:=ff aT} B w0 aR w->wpListIn (Fr none) 0 P (lu o) (dK P (hk o) Q) (Nk m o) aR w)
  (ak:cK.cU<=aT.length:=by first|exact Nat.zero_le _|exact hQ rfl) (ai:hT (de o).A aT 0:=by exact fR rfl): @eW (aY M bh) _ P N B w0 Q o:=by
 letI:=aY M bh;obtain⟨⟨dz,vs,Is⟩,a8⟩:=Option.isSome_iff_exists.1 h;have ia:=a8;unfold EE at a8;split at a8
 ·rename_i id ops s ks
  cases ad:(tE ops [] m N&&((List.range m).all λi=>match ops[i]? with|some o=>(needs ops m o).all λj=> !(g'.map (·.1)).contains j|none=>false)&&(g'.map (·.1)).all (λj=>Nat.blt j m)) with
  |false=>rw[ad] at a8;cases a8
  |true=>
   rw[ad,bs] at a8;simp only [cV] at ad;obtain⟨⟨hq,Nn⟩,eM⟩:=ad;have eM:∀j∈g'.map (·.1),j<m:=λj hj=>Nat.blt_eq.mp (List.all_eq_true.1 eM j hj)
   obtain⟨DQ,nG,mz,bt,tr,qI,xW⟩:=DP hq;have Nn:∀i o,i<m->ops[i]? =some o->∀j∈needs ops m o,(g'.map (·.1)).contains j=false:=λi o af ho j hj=>by
    have:=List.all_eq_true.1 Nn i (List.mem_range.2 af);rw[ho] at this;simpa using List.all_eq_true.1 this j hj
   split at a8
   ·rename_i ym hP
    split at a8
    ·rename_i df n_
     split at a8
     ·rename_i Uu Mt
      simp only [cz,Prod.mk.injEq] at a8;obtain⟨rfl,rfl,rfl⟩:=a8;have afp:∀i o,i<m->ops[i]? =some o->(g'.map (·.1)).contains i=false->∃sl,hD N ops (λj=>(df.take i).getD j cL) (needs ops m o) ym=some sl/\yl P (dU .nil sl) s.A o=some (df.getD i cL):=by
       intro i o af ho ah;have:=(Us _ 0 [] _ rfl n_).2.2 i o (by rw[List.getElem?_take,aI af];simpa using ho) (by rw[Nat.zero_add];exact ah);simpa using this
      refine⟨_,rfl,λa w al=> ?_⟩;have aU:Here N s B w0 a {w with drawn:=w.drawn+1}:=al.quiet ⟨⟨rfl,rfl,rfl,bL _,λ_ _=>rfl⟩,bL _⟩;refine wpIn_region_any cH ?_;have Iw:∀i o,M i=some o->({w with drawn:=w.drawn+1}:ao).heap[i]? =some o:=aU.ma;generalize ({w with drawn:=w.drawn+1}:ao)=k6 at aU Iw;obtain⟨⟨φ,ds,q1,aB,b_,eB,hh⟩,ln,pR⟩:=aU;have va:∀{o:Oper} {a:Act},o.guard=none->Region.wanted o (yielded ops a.tmps)=true:=λ{o a} aA=>by unfold Region.wanted;rw[aA]
      have yb:∀{w:ao},cA k6.heap.size k6 w->∀b e,φ b=some e->w.heap[e.bd]? =k6.heap[e.bd]? :=λ{w} hl b e ad=>by
       obtain⟨k,_,_,q⟩:=b_.ea b e ad;exact hl.block e.bd (fh.lt q)
      have u9:∀{ys:Nat->cE} {listed:Array Bool} {a:Act} {w:ao},tV N ds ops m (g'.map (·.1)) df ym k6 φ R rv ys listed a w->¬(∀i,i<m->listed.getD i false=true)->Region.ready .any ops listed≠[]/\∀i∈Region.ready .any ops listed,i<m/\listed.getD i false=false/\i<ops.size:=by
       intro ys listed a w bg oM;obtain⟨i0,zz⟩:=Classical.not_forall.1 oM;obtain⟨Hk,u_⟩:=Classical.not_imp.1 zz;have u_:listed.getD i0 false=false:=by simpa using u_
       refine⟨?_,λi af=> ?_⟩
       ·have key:∀n i,i<n->i<m->listed.getD i false=false->∃k,k∈Region.ready .any ops listed:=by
         intro n
         induction n with
         |zero=>intro i af;omega
         |succ n LM=>
          intro i af oN LN;by_cases hp:∀k,direct ops i k=true->listed.getD k false=true
          ·refine⟨i,mem_ready.2 ⟨by rw[ru (by have:=bg.size;omega)];exact LN,ops[i]'(by omega),Array.getElem?_eq_getElem _,λe he ad=>hp _ ?_⟩⟩
           have ho:ops[i]? =some (ops[i]'(by omega)):=Array.getElem?_eq_getElem _;simp only [direct,ho];exact Array.any_eq_true'.2 ⟨e,he,by simp [ad]⟩
          ·obtain⟨k,ag⟩:=Classical.not_forall.1 hp
           obtain⟨a8,zC⟩:=Classical.not_imp.1 ag;have:=qI i k aj a8;exact LM k aj aj (by simpa using zC)
        obtain⟨k,ag⟩:=key (i0+1) i0 aj Hk u_;intro h;rw[h] at ag;cases ag
       ·obtain⟨tF,o,ho,_⟩:=mem_ready.1 af
        have mT:i<ops.size:=(Array.getElem?_eq_some_iff.1 ho).1;have xX:listed.getD i false=false:=by rw[<-ru (by have:=bg.size;omega)];exact tF
        refine⟨?_,xX,mT⟩;rcases Nat.lt_or_ge i m with h|h
        ·exact h
        ·exfalso
         rcases xW i i0 mT h aj with ⟨zD,_⟩|ha
         ·cases zD
         ·have:=ha listed bg.down (u2 af)
          rw[u_] at this;cases this
      have tail:∀(bk:Nat) (listed:Array Bool) (a:Act) (w:ao) (ys:Nat->cE),tV N ds ops m (g'.map (·.1)) df ym k6 φ R rv ys listed a w->sw listed<=bk->(∀i,i<m->listed.getD i false=true)->wpAnyIn (Fr none) 0 P .any ops (dK P ks Q) bk listed a w:=by
       intro bk listed a w ys bg aO oM;refine SI qI (λi j af hj et=>(xW i j af aj et).resolve_left aj) bk m listed a w (bL _) bg.size (λi=> ?_) aO ?_
       ·by_cases af:i<m
        ·rw[oM i af];simp;omega
        ·rw[bg.sv i aj];simp;omega
       ·obtain⟨t1,t2⟩:=T4 (B:=B) (M:=M) (S:=λ_=>False) (w:=k6) (w':=w) Iw (λ_ h=>h.elim) ⟨bg.low.1.os,bg.low.1.tape,bg.low.1.output⟩ bg.low.size (λi af _=>bg.low.block i af)
        have D3:fe N ds φ Uu a:=bg.Ip (λj hj=>by
         obtain⟨h1,ae⟩:=List.mem_filter.1 hj
         exact⟨List.mem_range.1 h1,oM j (List.mem_range.1 h1),by simpa using ae,rfl⟩) Mt
        have cF:EF P N m (g'.map (·.1)) (some (.draw id ops s ks))={s with sl:=Uu}:=by
         unfold EF;rw[ia];rfl
        have mb:Here N (EF P N m (g'.map (·.1)) (some (.draw id ops s ks))) B w0 a k6:=by
         rw[cF];exact⟨⟨φ,ds,q1,D3,b_,eB,hh⟩,ln,pR⟩
        have gH:=Here.T3 (vals':=bC (mk ys)) cY (hm (mk ys) _) t1 ak (by rw[cF];exact ai) mb;have sJ:ef M [] (wF B M k6 w) (g'.map λp=>R p.1 (pr p.1 (mk ys))):=by
         have mv:∀(i:Nat) (S:b4),(g'.map λp=>R p.1 (pr p.1 (mk ys)))[i]? =some S->∃p,g'[i]? =some p/\S=R p.1 (ys p.1):=λi S af=>by
          rw[List.getElem?_map] at af;obtain⟨p,hp,rfl⟩:=Option.map_eq_some_iff.1 af;exact⟨p,hp,by rw[rB ys p.1 (List.mem_map.2 ⟨p,List.mem_of_getElem? hp,rfl⟩)]⟩
         have hX:∀{i:Nat} {p:Nat×J},g'[i]? =some p->p.1∈g'.map (·.1):=λ{i p} hp=>List.mem_map.2 ⟨p,List.mem_of_getElem? hp,rfl⟩
         have Uv:∀{i:Nat} {p:Nat×J},g'[i]? =some p->(R p.1 (ys p.1)).ok (aE w)/\∀b,(R p.1 (ys p.1)).lT b->k6.heap.size<=b:=λ{i p} hp=>bg.ok p.1 (eM _ (hX hp)) (oM _ (eM _ (hX hp))) (by simpa using List.mem_of_getElem? hp |> λh=>(⟨p.2,h⟩:∃x,(p.1,x)∈g'))
         refine⟨⟨λi S af=> ?_,λi j S T cv af hj b ad ka=> ?_⟩,λi o af _=>t2 i o af (λh=>h),λb ad=> ?_⟩
         ·obtain⟨p,hp,rfl⟩:=mv i S af
          obtain⟨cQ,dr⟩:=Uv hp;refine(R p.1 (ys p.1)).loc _ _ (λb o ad ho=> ?_) cQ;rw[MQ (.inr (.inl (dr b ad)))];exact ho
         ·obtain⟨p,hp,rfl⟩:=mv i S af
          obtain⟨fQ,jO,rfl⟩:=mv j T hj;have afq:p.1≠fQ.1:=λe=>cv (by
           have e1:(g'.map (·.1))[i]? =some p.1:=by rw[List.getElem?_map,hp];rfl
           have e2:(g'.map (·.1))[j]? =some p.1:=by rw[List.getElem?_map,jO,e];rfl
           exact(List.getElem?_inj (List.getElem?_eq_some_iff.1 e1).1 eX).1 (e1.trans e2.symm))
          have cp:(g'.map (·.1)).contains p.1=true:=by simpa using (⟨p.2,List.mem_of_getElem? hp⟩:∃x,(p.1,x)∈g')
          have c2:(g'.map (·.1)).contains fQ.1=true:=by simpa using (⟨fQ.2,List.mem_of_getElem? jO⟩:∃x,(fQ.1,x)∈g')
          exact bg.two p.1 fQ.1 (eM _ (hX hp)) (eM _ (hX jO)) afq (oM _ (eM _ (hX hp))) (oM _ (eM _ (hX jO))) cp c2 b ad ka
         ·obtain⟨i,S,af,ad⟩:=ad
          obtain⟨p,hp,rfl⟩:=mv i S af
          right
          cases afr:M b with
          |none=>rfl
          |some o=>
           have h1:=(Array.getElem?_eq_some_iff.1 (Iw b o afr)).1;have ae:=(Uv hp).2 b ad;omega
        have ag:∀p∈g',aP p.2=true/\∀t,e7 ops p.1=some t->a.tmps.getD t undef= @aM (aY (wF B M k6 w) (bC (mk ys))) p.2:=λp hp=>⟨List.all_eq_true.1 fq p hp,λt aF=>by
         have hX:p.1∈g'.map (·.1):=List.mem_map.2 ⟨p,hp,rfl⟩;rw[cd (mk ys) _ p hp,rB ys p.1 hX]
         exact bg.Iu p.1 t (eM _ hX) (oM _ (eM _ hX)) (by simpa using (⟨p.2,hp⟩:∃x,(p.1,x)∈g')) aF⟩
        exact rest (mk ys) _ sJ a w (@Here.Ut (aY (wF B M k6 w) (bC (mk ys))) _ N B w0 w a ops [] (ff aT) g' dF du gH ag dW)
      have main:∀(bk:Nat) (listed:Array Bool) (a:Act) (w:ao) (ys:Nat->cE),tV N ds ops m (g'.map (·.1)) df ym k6 φ R rv ys listed a w->sw listed<=bk->wpAnyIn (Fr none) 0 P .any ops (dK P ks Q) bk listed a w:=by
       intro bk
       induction bk with
       |zero=>
        intro listed a w ys bg aO;refine tail 0 listed a w ys bg aO λi af=> ?_
        cases h:listed.getD i false with
        |true=>rfl
        |false=>
         exfalso;have:=zv (i:=i) (listed:=listed) (by have:=bg.size;omega) (by rw[ru (by have:=bg.size;omega)];exact h);omega
       |succ bk b9=>
        intro listed a w ys bg aO;by_cases oM:∀i,i<m->listed.getD i false=true
        ·exact tail (bk+1) listed a w ys bg aO oM
        ·obtain⟨kG,zF⟩:=u9 bg oM
         refine⟨λaJ=>absurd aJ kG,λi af=> ?_⟩;obtain⟨oN,xX,mT⟩:=zF i af;have ho:ops[i]? =some ops[i]:=Array.getElem?_eq_getElem mT;have acV:=zv (i:=i) (listed:=listed) (by have:=bg.size;omega) (mem_ready.1 af).1;have Uw:∀{jM:Nat->J} {sl:a1},(∀j,j<i->jM j=df.getD j cL)->hD N ops jM (needs ops m ops[i]) ym=some sl->fe N ds φ sl a:=λ{jM sl} zw gC=>bg.Ip (λj hj=>by
          have xY:=tr i _ oN ho j hj;have et:=qI i j mT xY
          exact⟨aj,u2 af j xY,Nn i _ oN ho j hj,zw j et⟩) gC
         unfold wpOpIn;simp only [ho];cases ah:(g'.map (·.1)).contains i with
         |false=>
          obtain⟨sl,gC,ax⟩:=afp i _ oN ho ah;have D3:=Uw (λj et=>by simp only [c_,List.getElem?_take,aI et]) gC;obtain⟨aC,g1,g2,g3,g4⟩:=afl (w2:=w) b_ (yb bg.low) (fZ (hE φ) D3.get) ax;rw[aI (va g3)];refine⟨λ_ _=>trivial,?_⟩;rw[Oper.semAt_eq _ _ _ g4,g1,Oper.uponIn_value];exact b9 _ _ w ys (bg.afm hP oN DQ ho ah (u2 af) mz bt g2) aj
         |true=>
          have mv:i∈g'.map (·.1):=by simpa using ah
          obtain⟨op,ca,aA,afs⟩:=fB i mv;have aft:op=ops[i]:=by
           have e:(lu (some (.draw id ops s ks)))[i]? =ops[i]? :=rfl;rw[e,ho] at ca;exact(Option.some.inj ca).symm
          subst aft;rw[aI (va aA)];refine afs a w _ _ (λx lW=> ?_) (λb o ad=> ?_) (Nat.le_trans pR bg.low.size) λy w' cQ dr fP=> ?_
          ·cases wH:hD N ops (λj=>df.getD j cL) (needs ops m ops[i]) ym with
           |some sl=>
            have e:p9 P N m (g'.map (·.1)) (some (.draw id ops s ks)) i=sl:=by
             unfold p9;rw[ia,show (lu (some (.draw id ops s ks)))[i]? =some ops[i] from ho];show (match hD N ops (λj=>df.getD j cL) (needs ops m ops[i]) ym with|some sl=>sl|none=> .nil)=sl;rw[wH]
            rw[e] at lW ⊢;exact aD.hY _ lW (fZ (hE φ) (Uw (λ_ _=>rfl) wH).get x)
           |none=>
            have e:p9 P N m (g'.map (·.1)) (some (.draw id ops s ks)) i= .nil:=by
             unfold p9;rw[ia,show (lu (some (.draw id ops s ks)))[i]? =some ops[i] from ho];show (match hD N ops (λj=>df.getD j cL) (needs ops m ops[i]) ym with|some sl=>sl|none=> .nil)= .nil;rw[wH]
            rw[e] at lW ⊢;exact aD.hY (φ:=φ) _ lW (fZ (hE φ) (λt v h=>by cases h) x)
          ·have h1:=Iw b o ad
           rw[bg.low.block b (Array.getElem?_eq_some_iff.1 h1).1];exact h1
          ·exact b9 _ _ w' _ (bg.afn hP oN DQ ho ah xX (u2 af) mz bt cQ dr fP) aj
      have aO:∀i,(Array.replicate ops.size false).getD i false=false:=λi=>by
       rw[eO,Array.getElem?_replicate];split<;>rfl
      refine main ops.size _ a k6 (λ_=>(none,0)) ⟨by simp,λi j af=>absurd af (by rw[aO];simp),λi _=>aO i,⟨⟨rfl,rfl,rfl,bL _,λ_ _=>rfl⟩,bL _⟩,aB.defers,aB.size,λt v ax=> ?_,λj t _ hl=>absurd hl (by rw[aO];simp),λj t _ hl=>absurd hl (by rw[aO];simp),λj _ hl=>absurd hl (by rw[aO];simp),λi j _ _ _ hl=>absurd hl (by rw[aO];simp)⟩ ?_
      ·rcases ob _ _ _ hP t v ax with ⟨j,hj,a8,rfl⟩|⟨_,aA⟩
       ·exact .cL _
       ·exact aB.get t v aA
      ·unfold sw
       exact Nat.le_trans List.count_le_length (by simp)
     ·cases a8
    ·cases a8
   ·cases a8
 ·cases a8
end AE
namespace AE
def EG (P:aQ) (N m:Nat) (dq:List Nat) (o:Option bQ) (i:Nat):Option (FuncId×List J):=
 match (lu o)[i]? with
 |some op=>match op.guard,op.op with
  |none,.call c=>match c.callee with
   | .value (.func f)=>bif enters P f then some (f,c.args.toList.map (dU .nil (p9 P N m dq o i))) else none
   |_=>none
  |_,_=>none
 |none=>none
def Ix (P:aQ) (N m:Nat) (dq:List Nat) (o:Option bQ) (i:Nat):Option (aK×J):=
 match (lu o)[i]? with
 |some op=>match op.guard,op.op with
  |none,.makeSlice t rM tU=>bif e3 (dU .nil (p9 P N m dq o i) rM) (dU .nil (p9 P N m dq o i) tU) then some (t,dU .nil (p9 P N m dq o i) rM) else none
  |_,_=>none
 |none=>none
theorem Np [a6] {sl:a1} {a:Act} (tG:∀x:Operand,aP (dU .nil sl x)=true->a.eval x=aM (dU .nil sl x)):∀(l:List Operand),ev (l.map (dU .nil sl))=true->l.map a.eval=e4 (l.map (dU .nil sl))
 |[],_=>rfl
 |x::l,h=>by
  simp only [List.map_cons,ev,cV] at h;simp only [List.map_cons,e4];rw[tG x h.1,Np tG l h.2]
theorem vn.arr [a6] {α:Type} {P:aQ} {M:Mem} {B N m:Nat} {dq:List Nat} {o:Option bQ} {i:Nat} {f:FuncId} {args:List J} {e:aK} {k:Nat} {enc:α->List J} {l:List α} {F:J->J} (h:EG P N m dq o i=some (f,args)) (hp:ev args=true)
  (kN:∀w,(∀i o,M i=some o->w.heap[i]? =some o)->B<=w.heap.size->Calls P f ⟨e4 args⟩ w λe' w'=>(∃a c,e'= .returned (F (.slice a l.length c))/\dt w.heap.size (aE w') e k enc (.slice a l.length c) l)/\cA w.heap.size w w'):
  ∃op,(lu o)[i]? =some op/\vn P M B op (p9 P N m dq o i) (λy=>jt e k enc (.slice y.1 l.length y.2) l) (λy=>F (.slice y.1 l.length y.2)):=by
 unfold EG at h;split at h
 ·rename_i op ca
  split at h
  ·rename_i c aA yn
   split at h
   ·rename_i iJ pX
    cases he:enters P iJ with
    |false=>rw[he] at h;cases h
    |true=>
     rw[he,bs] at h;simp only [cz,Prod.mk.injEq] at h;obtain⟨rfl,rfl⟩:=h;refine⟨op,ca,aA,λa w K Q tG aV dQ bU=> ?_⟩;have fY:c.args.map a.eval=⟨e4 (c.args.toList.map (dU .nil (p9 P N m dq o i)))⟩:=by
      have:=Np tG c.args.toList hp;rw[<-this];apply Array.ext';simp
     have eH:(execOp a.eval op).run P w= .ok (.enter iJ ⟨e4 (c.args.toList.map (dU .nil (p9 P N m dq o i)))⟩) w:=by
      unfold execOp;rw[yn];simp only;refine cJ (a:={target:= .fn (.func iJ) #[],args:= #[]++c.args.map a.eval}) (by unfold resolve;rw[pX];rfl) ?_;simp only [Array.empty_append,fY];show (callFunc iJ (_++ #[])).run P w=_;rw[Array.append_empty];exact iF (G6 he _) w
     have eX:∀c',op.op≠.defer c':=λc' h=>by rw[yn] at h;cases h
     refine⟨λ_ _=>trivial,?_⟩;rw[Oper.semAt_eq _ _ _ eX,eH,Oper.uponIn_enter];refine⟨λh=>absurd h (by simp [Fr,Fence.wide]),?_⟩;refine CallsIn.mono (DL (kN w aV dQ)) λe' w2 he=> ?_
     obtain⟨⟨gx,qO,rfl,cj⟩,hl⟩:=he;exact bU (gx,qO) w2 (p7 cj) (λb ad=>(cj.known b ad).2) hl
   ·cases h
  ·cases h
 ·cases h
theorem vn.Ux [a6] {α:Type} {P:aQ} {M:Mem} {B N m:Nat} {dq:List Nat} {o:Option bQ} {i:Nat} {t e:aK} {k n bytes:Nat} {EH:TypeInfo} {z x:J} {enc:α->List J} {zr:α} {l':List α} (eT:l'=List.replicate n zr) (h:Ix P N m dq o i=some (t,x))
  (aF:P.underlying t=some (.slice e)) (af:P.info? e=some EH) (bu:EH.zero=some z) (fN:EH.size=k) (iS:EH.bytes=bytes) (pb:z.cells.toList=enc zr) (ag:∀x,(enc x).length=k) (ah:aP x=true) (ex:aM x= .int .i64 (n:Nat)) (ae3:n<=1000000) (kI:n*bytes<=140737488355328) (jL:n*k<=16777216):
  ∃op,(lu o)[i]? =some op/\vn P M B op (p9 P N m dq o i) (λy=>jt e k enc (.slice y.1 l'.length y.2) l') (λy=> .slice y.1 l'.length y.2):=by
 subst eT;unfold Ix at h;split at h
 ·rename_i op ca
  split at h
  ·rename_i c7 rM tU aA yn
   cases heq:e3 (dU .nil (p9 P N m dq o i) rM) (dU .nil (p9 P N m dq o i) tU) with
   |false=>rw[heq] at h;cases h
   |true=>
    rw[heq,bs] at h;have vk:=gw _ _ heq;cases h;refine⟨op,ca,aA,λa w K Q tG aV dQ bU=> ?_⟩;have mD:a.eval rM= .int .i64 (n:Nat):=(tG rM ah).trans ex;have M9:a.eval tU= .int .i64 (n:Nat):=(tG tU (by rw[<-vk];exact ah)).trans (by rw[<-vk];exact ex);subst iS;obtain⟨w',g1,g2,g3⟩:=run_makeSlice_full (P:=P) w w.heap.size t e EH z k aF af bu fN .i64 .i64 n jL (by rw[Nat.mul_comm];omega) (by simp [maxLen];omega) (bL _);have eH:(execOp a.eval op).run P w= .ok (.value (.slice (some ⟨w.heap.size,0,none⟩) n n)) w':=by
     unfold execOp;rw[yn];simp only [mD,M9];show (do pure (Next.value (<-Instr.makeSlice t (.int .i64 (n:Nat)) (.int .i64 (n:Nat)))):Sem Next).run P w=_;simp only [Sem.run_bind,g1,Result.andThen_ok];rfl
    have eX:∀c',op.op≠.defer c':=λc' h=>by rw[yn] at h;cases h
    refine⟨λ_ _=>trivial,?_⟩;rw[Oper.semAt_eq _ _ _ eX,eH,Oper.uponIn_value];rw[Uk ag pb] at g2;have hlen:(List.replicate n zr).length=n:=kX;have cj:dt w.heap.size (aE w') e k enc (.slice (some ⟨w.heap.size,0,none⟩) (List.replicate n zr).length n) (List.replicate n zr):=dt.Ms (w:=w') (by rw[hlen];exact g2);have:=bU (some ⟨w.heap.size,0,none⟩,n) w' (p7 cj) (λb ad=>(cj.known b ad).2) ⟨⟨g3.os,g3.tape,g3.output,g3.size,λi af=>g3.block i af (by simp)⟩,bL _⟩;rw[hlen] at this;exact this
  ·cases h
 ·cases h
theorem Nq {α:Type} {p:α->Prop}:∀x,x∈([]:List α)->p x:=λ_ h=>by cases h
theorem p_ {α:Type} {p:α->Prop} {y:α} {l:List α} (h:p y) (hl:∀x,x∈l->p x):∀x,x∈y::l->p x:=λx ah=>by
 rcases List.mem_cons.1 ah with rfl|ah
 ·exact h
 ·exact hl x ah
end AE
namespace AE
def dk (l:List cc) (cell:Int):cc:=if 0<=cell/\cell<l.length then l.getD cell.toNat default else ([],false,false,false,16,0,0,0)
theorem Uy {l:List cc} {cell:Int} (aJ:0<=cell) (h1:cell<l.length):dk l cell=l.getD cell.toNat default:=by unfold dk;rw[aI ⟨aJ,h1⟩]
theorem Iy {l:List cc} {cell:Int} (h:¬(0<=cell/\cell<l.length)):dk l cell=([],false,false,false,16,0,0,0):=by unfold dk;rw[aG h]
def yo (l:List cc):Prop:=l.length<=300/\∀x∈l,x.1.length<=60
instance (l:List cc):Decidable (yo l):=by unfold yo;infer_instance
theorem afu {l:List cc} {i:Nat} (h:i<l.length):l.getD i default∈l:=by
 rw[c_,fy h];exact List.getElem_mem h
theorem afv {l:List cc} {x:cc} (h:x∈l):∃i,i<l.length/\l.getD i default=x:=by
 obtain⟨i,af,rfl⟩:=List.mem_iff_getElem.1 h;exact⟨i,af,by rw[c_,fy af];rfl⟩
theorem afw {l:List cc} (h:300<l.length):¬yo l:=λaO=>by have:=aO.1;omega
theorem afx {l:List cc} {i:Nat} (af:i<l.length) (h:60<(l.getD i default).1.length):¬yo l:=λaO=>by have:=aO.2 _ (afu af);omega
theorem afy {l:List cc} (h:l.length<=300) (ae:∀j,j<l.length->(l.getD j default).1.length<=60):yo l:=⟨h,λx ah=>by
 obtain⟨i,af,rfl⟩:=afv ah
 exact ae i af⟩
end AE
end Go.Proofs.YtepcfjbfkedlpaaGreatDoor
namespace Go.Proofs.YtepcfjbfkedlpaaGreatDoor
section
namespace AE
structure nm where
 N:Nat
 qP:Nat->List (Nat×Int)
 top:Nat->Bool
 aF:Nat->Nat
 qQ:∀k n d,k<N->(n,d)∈qP k->n<N
 Uz:∀k n d,k<N->(n,d)∈qP k->n≠k
 Nr:∀k n d,k<N->(n,d)∈qP k->(k,-d)∈qP n
 UA:∀k n d,k<N->(n,d)∈qP k->0<d->aF n<aF k
 UB:∀k,(qP k).length<=6
def given (c4 f:Int) (c:Nat) (up:Bool):Int:=if up=true/\c=3/\c4=15/\f=1 then 15 else max 0 (c4-f)
theorem UC (c4 f:Int) (c:Nat) (up:Bool):0<=given c4 f c up:=by
 unfold given;split<;>omega
theorem Ns {a b f:Int} (c:Nat) (up:Bool) (h:a<=b) (aO:1<=f):given a f c up<=given b f c up:=by
 unfold given;split
 ·rename_i h1
  obtain⟨ae,ar,bm,cg⟩:=h1;split
  ·omega
  ·rename_i cu
   have:¬b=15:=λe=>cu ⟨ae,ar,e,cg⟩
   omega
 ·split
  ·rename_i h1 cu
   obtain⟨ae,ar,bm,cg⟩:=cu;omega
  ·omega
theorem UD {a f:Int} (c:Nat) (up:Bool) (h:a<=15) (aO:1<=f):given a f c up<=15:=by
 unfold given;split<;>omega
theorem UE {f:Int} (c:Nat) (up:Bool) (aO:1<=f):given 0 f c up=0:=by
 unfold given;rw[aG (λh=>by omega)];omega
theorem afz {a f:Int} {c:Nat} {up:Bool} (aO:1<=f) (ha:a<=15) (h:0<given a f c up):given a f c up<a\/(given a f c up=a/\a=15/\up=true):=by
 unfold given at*
 split
 ·rename_i h1
  exact .inr ⟨aj,h1.2.2.1,h1.1⟩
 ·rename_i h1
  rw[aG h1] at h;omega
structure gy where
 iZ:Nat->Int
 emit:Nat->Nat->Int
 bO:Nat->Bool
abbrev k7:=Nat->Nat->Int
variable {G:nm}
def sN (G:nm) (S:gy) (k c:Nat):Int:=if c=3 then (if G.top k=true then given 15 (S.iZ k) 3 true else 0) else S.emit k c
def kv (G:nm) (S:gy) (k:Nat):List (Nat×Int):=(G.qP k).filter λp=>S.bO p.1
def rule (G:nm) (S:gy) (L:k7) (k c:Nat):Int:=
 if S.bO k=true then (kv G S k).foldl (λa p=>max a (given (L p.1 c) (S.iZ k) c (decide (0<p.2)))) (sN G S k c) else 0
theorem B9 {α:Type} (f:α->Int):∀(l:List α) (a v:Int),l.foldl (λa p=>max a (f p)) a<=v↔a<=v/\∀p∈l,f p<=v
 |[],a,v=>by simp
 |x::l,a,v=>by
  rw[List.foldl_cons,B9 f l];simp only [List.mem_cons,forall_eq_or_imp];constructor
  ·rintro ⟨h1,ae⟩
   exact⟨aj,aj,ae⟩
  ·rintro ⟨h1,ae,ar⟩
   exact⟨aj,ar⟩
theorem UF {α:Type} (f:α->Int):∀(l:List α) (a:Int),l.foldl (λa p=>max a (f p)) a=a\/∃p∈l,l.foldl (λa p=>max a (f p)) a=f p
 |[],a=> .inl rfl
 |x::l,a=>by
  rw[List.foldl_cons];rcases UF f l (max a (f x)) with h|⟨p,hp,h⟩
  ·rw[h]
   rcases Int.le_total a (f x) with h1|h1
   ·exact .inr ⟨x,by simp,aj⟩
   ·exact .inl aj
  ·exact .inr ⟨p,by simp [hp],h⟩
theorem tW {S:gy} {k n:Nat} {d:Int}:(n,d)∈kv G S k↔(n,d)∈G.qP k/\S.bO n=true:=by
 unfold kv;simp [List.mem_filter]
theorem qa {S:gy} {L:k7} {k c:Nat} {v:Int} (aJ:0<=v):
  rule G S L k c<=v↔(S.bO k=true->sN G S k c<=v/\∀n d,(n,d)∈G.qP k->S.bO n=true->given (L n c) (S.iZ k) c (decide (0<d))<=v):=by
 unfold rule;split
 ·rename_i hs
  rw[B9];constructor
  ·rintro ⟨h1,ae⟩ _
   exact⟨h1,λn d ak a8=>ae (n,d) (tW.2 ⟨ak,a8⟩)⟩
  ·intro h
   obtain⟨h1,ae⟩:=h hs;exact⟨h1,λp hp=>ae p.1 p.2 (tW.1 hp).1 (tW.1 hp).2⟩
 ·rename_i hs
  exact⟨λ_ h=>absurd h hs,λ_=>aJ⟩
structure gy.jR (S:gy) (N:Nat):Prop where
 iZ:∀k,k<N->1<=S.iZ k
 emit:∀k c,k<N->c<3->0<=S.emit k c/\S.emit k c<=15
theorem UG {S:gy} (aH:S.jR G.N) {k c:Nat} (ag:k<G.N) (ai:c<4):0<=sN G S k c/\sN G S k c<=15:=by
 unfold sN;split
 ·split
  ·exact⟨UC _ _ _ _,UD _ _ aj (aH.iZ k ag)⟩
  ·omega
 ·exact aH.emit k c ag aj
theorem tX {S:gy} (aH:S.jR G.N) {L:k7} {k c:Nat} (ag:k<G.N) (ai:c<4):0<=rule G S L k c:=by
 by_cases hs:S.bO k=true
 ·have h1:=(qa (G:=G) (S:=S) (L:=L) (k:=k) (c:=c) (v:=max 0 (rule G S L k c)) aj).1 aj hs
  have ae:=(UG aH ag ai).1;by_cases ar:0<=rule G S L k c
  ·exact ar
  ·unfold rule at*
   rw[aI hs] at*
   have bm:=(B9 (λp:Nat×Int=>given (L p.1 c) (S.iZ k) c (decide (0<p.2))) (kv G S k) (sN G S k c) _).1 (Int.le_refl _);omega
 ·unfold rule
  rw[aG hs];exact Int.le_refl _
theorem afA {S:gy} {L:k7} {k c:Nat} (hs:S.bO k=true):rule G S L k c=sN G S k c\/∃n d,(n,d)∈G.qP k/\S.bO n=true/\rule G S L k c=given (L n c) (S.iZ k) c (decide (0<d)):=by
 unfold rule;rw[aI hs];rcases UF (λp:Nat×Int=>given (L p.1 c) (S.iZ k) c (decide (0<p.2))) (kv G S k) (sN G S k c) with h|⟨p,hp,h⟩
 ·exact .inl h
 ·exact .inr ⟨p.1,p.2,(tW.1 hp).1,(tW.1 hp).2,h⟩
theorem Nt {S:gy} (aH:S.jR G.N) {L:k7} {k c:Nat} (ag:k<G.N) (ai:c<4) (hL:∀n,n<G.N->L n c<=15):rule G S L k c<=15:=
 (qa aj).2 λ_=>⟨(UG aH ag ai).2,λn _ ak _=>UD _ _ (hL n (G.qQ _ _ _ ag ak)) (aH.iZ k ag)⟩
theorem Iz {S:gy} (aH:S.jR G.N) {L P:k7} {k c:Nat} (ag:k<G.N) (ai:c<4) (h:∀n,n<G.N->L n c<=P n c):rule G S L k c<=rule G S P k c:=by
 refine(qa (tX aH ag ai)).2 λhs=> ?_
 obtain⟨h1,ae⟩:=(qa (G:=G) (S:=S) (L:=P) (k:=k) (c:=c) (tX aH ag ai)).1 (Int.le_refl _) hs;exact⟨h1,λn d ak a8=>Int.le_trans (Ns _ _ (h n (G.qQ _ _ _ ag ak)) (aH.iZ k ag)) (ae n d ak a8)⟩
def B' (G:nm) (S:gy) (P:k7):Prop:=∀k c,k<G.N->c<4->rule G S P k c<=P k c
structure oU (G:nm) (S:gy) (L:k7):Prop where
 fixed:∀k c,k<G.N->c<4->rule G S L k c=L k c
 least:∀P,B' G S P->∀k c,k<G.N->c<4->L k c<=P k c
theorem oU.unique {S:gy} {L M:k7} (h:oU G S L) (g:oU G S M):∀k c,k<G.N->c<4->L k c=M k c:=λk c ag ai=>
 Int.le_antisymm (h.least M (λk c ag ai=>Int.le_of_eq (g.fixed k c ag ai)) k c ag ai) (g.least L (λk c ag ai=>Int.le_of_eq (h.fixed k c ag ai)) k c ag ai)
theorem UH {S:gy} (aH:S.jR G.N) {L:k7} (h1:B' G S L) (ae:∀P,B' G S P->∀k c,k<G.N->c<4->L k c<=P k c):oU G S L:=by
 refine⟨λk c ag ai=>Int.le_antisymm (h1 k c ag ai) ?_,ae⟩;have hp:B' G S (rule G S L):=λk c ag ai=>Iz aH ag ai λn ak=>h1 n c ak ai
 exact ae _ hp k c ag ai
structure oo (G:nm) (S:gy) (L:k7) (W:Nat->Prop):Prop where
 low:∀P,B' G S P->∀k c,k<G.N->c<4->L k c<=P k c
 bound:∀k c,k<G.N->c<4->0<=L k c/\L k c<=15
 done:∀k c,k<G.N->c<4->¬W k->rule G S L k c<=L k c
theorem oo.full {S:gy} (aH:S.jR G.N) {L:k7} {W:Nat->Prop} (h:oo G S L W) (mc:∀k,k<G.N->¬W k):oU G S L:=
 UH aH (λk c ag ai=>h.done k c ag ai (mc k ag)) h.low
theorem oU.up {S:gy} {L:k7} (h:oU G S L) (ad:∀k c,k<G.N->c<4->0<=L k c/\L k c<=15) (W:Nat->Prop):oo G S L W:=
 ⟨h.least,ad,λk c ag ai _=>Int.le_of_eq (h.fixed k c ag ai)⟩
theorem oo.zero {S:gy} (aH:S.jR G.N) {W:Nat->Prop} (mc:∀k,k<G.N->W k):oo G S (λ_ _=>0) W where
 low P hP k c ag ai:=Int.le_trans (tX aH ag ai) (hP k c ag ai)
 bound _ _ _ _:=by omega
 done k _ ag _ ak:=absurd (mc k ag) ak
def raised (G:nm) (S:gy) (L:k7) (k:Nat):k7:=λm c=>if m=k then max (rule G S L k c) (L k c) else L m c
theorem oo.IA {S:gy} (aH:S.jR G.N) {L:k7} {W W':Nat->Prop} {k:Nat} (ag:k<G.N) (h:oo G S L W)
  (afB:∀m,m≠k->W m->W' m) (afC:(∃c,c<4/\L k c<rule G S L k c)->∀n d,(n,d)∈G.qP k->S.bO n=true->W' n):oo G S (raised G S L k) W' where
 low P hP m c hm ai:=by
  unfold raised;split
  ·rename_i e
   subst e;have:=Iz aH (c:=c) (L:=L) (P:=P) hm ai λn ak=>h.low P hP n c ak ai
   have:=hP m c hm ai;have:=h.low P hP m c hm ai;omega
  ·exact h.low P hP m c hm ai
 bound m c hm ai:=by
  unfold raised;split
  ·rename_i e
   subst e;have h1:=h.bound m c hm ai;have ae:=Nt aH (c:=c) (L:=L) hm ai λn ak=>(h.bound n c ak ai).2
   omega
  ·exact h.bound m c hm ai
 done m c hm ai ak:=by
  by_cases rB:m=k
  ·subst rB
   have h1:rule G S (raised G S L m) m c=rule G S L m c:=by
    have ah:∀n d,(n,d)∈G.qP m->raised G S L m n c=L n c:=λn d eX=>by
     unfold raised;rw[aG (G.Uz m n d hm eX)]
    refine Int.le_antisymm ?_ ?_
    ·refine(qa (tX aH hm ai)).2 λhs=> ?_
     obtain⟨h1,ae⟩:=(qa (G:=G) (S:=S) (L:=L) (k:=m) (c:=c) (tX aH hm ai)).1 (Int.le_refl _) hs;exact⟨h1,λn d eX a8=>by rw[ah n d eX];exact ae n d eX a8⟩
    ·refine(qa (tX aH hm ai)).2 λhs=> ?_
     obtain⟨h1,ae⟩:=(qa (G:=G) (S:=S) (L:=raised G S L m) (k:=m) (c:=c) (tX aH hm ai)).1 (Int.le_refl _) hs;exact⟨h1,λn d eX a8=>by rw[<-ah n d eX];exact ae n d eX a8⟩
   rw[h1];unfold raised;rw[aI rfl];omega
  ·have Nu:¬W m:=λhw=>ak (afB m rB hw)
   have aJ:=h.done m c hm ai Nu;have hr:raised G S L k m c=L m c:=by unfold raised;rw[aG rB]
   rw[hr];refine(qa (h.bound m c hm ai).1).2 λhs=> ?_
   obtain⟨h1,ae⟩:=(qa (h.bound m c hm ai).1).1 aJ hs;refine⟨h1,λn d eX a8=> ?_⟩;unfold raised;split
   ·rename_i e
    subst e;by_cases IB:L n c<rule G S L n c
    ·exfalso
     have afD:=G.Nr m n d hm eX;exact ak (afC ⟨c,ai,IB⟩ m (-d) afD hs)
    ·rw[show max (rule G S L n c) (L n c)=L n c by omega]
     exact ae n d eX a8
   ·exact ae n d eX a8
end AE
namespace AE
abbrev bq:=Int×Int×Int×Int
def bF (x:bq):Nat->Int
 |0=>x.1
 |1=>x.2.1
 |2=>x.2.2.1
 |_=>x.2.2.2
def pq (f:Nat->Int):bq:=(f 0,f 1,f 2,f 3)
theorem hG {f:Nat->Int} {c:Nat} (ai:c<4):bF (pq f) c=f c:=by
 match c,ai with
 |0,_=>rfl
 |1,_=>rfl
 |2,_=>rfl
 |3,_=>rfl
theorem bq.ext' {x y:bq} (h:∀c,c<4->bF x c=bF y c):x=y:=by
 obtain⟨a,b,c,d⟩:=x;obtain⟨aR,b',c',mX⟩:=y;have aJ:a=aR:=h 0 ck;have h1:b=b':=h 1 ck;have ae:c=c':=h 2 ck;have ar:d=mX:=h 3 ck;rw[aJ,h1,ae,ar]
abbrev z4:bq:=(0,0,0,0)
theorem yp (c:Nat):bF z4 c=0:=by
 match c with
 |0=>rfl
 |1=>rfl
 |2=>rfl
 |_+3=>rfl
def cw (l:List bq):k7:=λk c=>bF (l.getD k z4) c
theorem UI {l:List bq} {k m c:Nat} {x:bq} (ag:k<l.length):cw (l.set k x) m c=if m=k then bF x c else cw l m c:=by
 unfold cw;rw[c_,c_,List.getElem?_set];by_cases h:k=m
 ·subst h
  rw[aI rfl,aI ag,aI rfl];rfl
 ·rw[aG h,aG (λe=>h e.symm)]
structure fg where
 av:List bq
 bz:List (Nat×bq)
 gone:List Nat
 bp:List Nat
 waits:List Bool
def tY (old x:bq):bq:=pq λc=>if 0<bF old c then 0 else bF x c
def ib (w:fg) (k:Nat) (old:bq):fg:={w with bz:=w.bz++[(k,old)],gone:=w.gone++[k],av:=w.av.set k (tY old (w.av.getD k z4))}
def oq (S:gy) (old x:bq) (p:Nat×Int):bq:=pq λc=>if 0<bF old c/\0<bF x c/\bF x c=given (bF old c) (S.iZ p.1) c (decide (p.2<0)) then bF x c else 0
def gA (S:gy) (old:bq) (w:fg) (p:Nat×Int):fg:=if oq S old (w.av.getD p.1 z4) p=z4 then w else ib w p.1 (oq S old (w.av.getD p.1 z4) p)
variable {G:nm}
def B_ (G:nm) (S:gy) (cN L:k7) (m c:Nat) (rest:List (Nat×Int)):Prop:=∀n d,(n,d)∈G.qP m->S.bO n=true->(n,d)∈rest\/L n c=0\/L n c≠given (cN m c) (S.iZ n) c (decide (d<0))
structure oV (G:nm) (iu S:gy) (cN:k7) (dS:Nat) (cur:Nat×bq) (rest:List (Nat×Int)) (w:fg):Prop where
 len:w.av.length=G.N
 full:oU G iu cN
 bound:∀k c,k<G.N->c<4->0<=cN k c/\cN k c<=15
 same:∀n,n≠dS->S.iZ n=iu.iZ n/\(∀c,S.emit n c=iu.emit n c)/\S.bO n=iu.bO n
 two:∀k c,k<G.N->c<4->cw w.av k c=0\/cw w.av k c=cN k c
 Ca:∀c,c<4->cw w.av dS c=0
 yq:∀m c,m<G.N->c<4->cw w.av m c≠cN m c->(∃x∈w.bz,x.1=m/\bF x.2 c=cN m c)\/B_ G S cN (cw w.av) m c []\/(m=cur.1/\bF cur.2 c=cN m c/\B_ G S cN (cw w.av) m c rest)
 lost:∀x∈w.bz,x.1<G.N
 gone:∀m,m<G.N->((∃c,c<4/\cw w.av m c≠cN m c)\/m=dS)->m∈w.gone
 Cb:∀m∈w.gone,m<G.N
theorem B_.mono {S:gy} {cN L L':k7} {m c:Nat} {r dN:List (Nat×Int)} (hm:m<G.N) (h:B_ G S cN L m c r) (hr:∀p∈r,p∈dN) (hL:∀n,n<G.N->L' n c=0\/L' n c=L n c):B_ G S cN L' m c dN:=λn d ak hs=>by
 rcases h n d ak hs with h1|h1|h1
 ·exact .inl (hr _ h1)
 ·rcases hL n (G.qQ _ _ _ hm ak) with ae|ae
  ·exact .inr (.inl ae)
  ·exact .inr (.inl (by rw[ae,h1]))
 ·rcases hL n (G.qQ _ _ _ hm ak) with ae|ae
  ·exact .inr (.inl ae)
  ·exact .inr (.inr (by rw[ae];exact h1))
theorem Nv {w:fg} {k m c:Nat} {old:bq} (ag:k<w.av.length) (ai:c<4):cw (ib w k old).av m c=if m=k/\0<bF old c then 0 else cw w.av m c:=by
 unfold ib;rw[UI ag];by_cases h:m=k
 ·subst h
  rw[aI rfl];unfold tY;rw[hG ai];by_cases ae:0<bF old c
  ·rw[aI ae,aI ⟨rfl,ae⟩]
  ·rw[aG ae,aG (λh=>ae h.2)]
   rfl
 ·rw[aG h,aG (λe=>h e.1)]
theorem oV.step {iu S:gy} {cN:k7} {dS:Nat} {cur:Nat×bq} {p:Nat×Int} {rest:List (Nat×Int)} {w:fg} (Al:cur.1<G.N) (hp:p∈kv G S cur.1) (h:oV G iu S cN dS cur (p::rest) w):oV G iu S cN dS cur rest (gA S cur.2 w p):=by
 obtain⟨n,d⟩:=p;obtain⟨zg,zk⟩:=tW.1 hp;have ak:n<G.N:=G.qQ _ _ _ Al zg;have hB:n<w.av.length:=by rw[h.len];exact ak
 have qx:∀k c,k<G.N->c<4->0<=cw w.av k c:=λk c ag ai=>by
  rcases h.two k c ag ai with e|e
  ·omega
  ·rw[e];exact(h.bound k c ag ai).1
 have mw:∀m c,c<4->cw (gA S cur.2 w (n,d)).av m c=if m=n/\0<bF cur.2 c/\0<cw w.av n c/\cw w.av n c=given (bF cur.2 c) (S.iZ n) c (decide (d<0)) then 0 else cw w.av m c:=λm c ai=>by
  unfold gA;have EI:bF (oq S cur.2 (w.av.getD n z4) (n,d)) c=if 0<bF cur.2 c/\0<cw w.av n c/\cw w.av n c=given (bF cur.2 c) (S.iZ n) c (decide (d<0)) then cw w.av n c else 0:=by
   unfold oq;rw[hG ai];rfl
  split
  ·rename_i bu
   have Bm:bF (oq S cur.2 (w.av.getD n z4) (n,d)) c=0:=by rw[bu,yp]
   rw[EI] at Bm;split
   ·rename_i ae
    rw[aI ae.2] at Bm;rw[ae.1,Bm]
   ·rfl
  ·rw[Nv hB ai,EI]
   by_cases ae:0<bF cur.2 c/\0<cw w.av n c/\cw w.av n c=given (bF cur.2 c) (S.iZ n) c (decide (d<0))
   ·rw[aI ae]
    by_cases ar:m=n
    ·rw[aI ⟨ar,ae.2.1⟩,aI ⟨ar,ae⟩]
    ·rw[aG (λe=>ar e.1),aG (λe=>ar e.1)]
   ·rw[aG ae,aG (λe=>by omega),aG (λe=>ae e.2)]
 have Nw:∀m c,c<4->cw (gA S cur.2 w (n,d)).av m c=0\/cw (gA S cur.2 w (n,d)).av m c=cw w.av m c:=λm c ai=>by
  rw[mw m c ai];split
  ·exact .inl rfl
  ·exact .inr rfl
 have Hy:∀x,x∈w.bz->x∈(gA S cur.2 w (n,d)).bz:=λx ah=>by
  unfold gA;split
  ·exact ah
  ·unfold ib
   simp [ah]
 have n_:∀x,x∈w.gone->x∈(gA S cur.2 w (n,d)).gone:=λx ah=>by
  unfold gA;split
  ·exact ah
  ·unfold ib
   simp [ah]
 have fE:∀c,c<4->cw (gA S cur.2 w (n,d)).av n c≠cw w.av n c->n∈(gA S cur.2 w (n,d)).gone/\∃x∈(gA S cur.2 w (n,d)).bz,x.1=n/\bF x.2 c=cw w.av n c:=λc ai cv=>by
  rw[mw n c ai] at cv;have afE:0<bF cur.2 c/\0<cw w.av n c/\cw w.av n c=given (bF cur.2 c) (S.iZ n) c (decide (d<0)):=by
   by_cases ae:0<bF cur.2 c/\0<cw w.av n c/\cw w.av n c=given (bF cur.2 c) (S.iZ n) c (decide (d<0))
   ·exact ae
   ·rw[aG (λe=>ae e.2)] at cv
    exact absurd rfl cv
  have EI:bF (oq S cur.2 (w.av.getD n z4) (n,d)) c=cw w.av n c:=by
   unfold oq;rw[hG ai];exact aI afE
  unfold gA;rw[aG (λbu=>by rw[bu,yp] at EI;omega)];unfold ib;exact⟨by simp,(n,oq S cur.2 (w.av.getD n z4) (n,d)),by simp,rfl,EI⟩
 refine⟨?_,h.full,h.bound,h.same,λk c ag ai=> ?_,λc ai=> ?_,λm c hm ai cv=> ?_,λx ah=> ?_,λm hm ah=> ?_,λm ah=> ?_⟩
 ·unfold gA
  split
  ·exact h.len
  ·unfold ib
   simp [h.len]
 ·rcases Nw k c ai with e|e
  ·exact .inl e
  ·rw[e];exact h.two k c ag ai
 ·rcases Nw dS c ai with e|e
  ·exact e
  ·rw[e];exact h.Ca c ai
 ·by_cases hold:cw w.av m c=cN m c
  ·have IC:m=n:=by
    have:=mw m c ai;by_cases ah:m=n
    ·exact ah
    ·rw[aG (λe=>ah e.1)] at this
     exact absurd (this.trans hold) cv
   subst IC;obtain⟨_,x,qR,hF,Nx⟩:=fE c ai (λe=>cv (e.trans hold));exact .inl ⟨x,qR,hF,Nx.trans hold⟩
  ·have hL:∀q,q<G.N->cw (gA S cur.2 w (n,d)).av q c=0\/cw (gA S cur.2 w (n,d)).av q c=cw w.av q c:=λq _=>Nw q c ai
   rcases h.yq m c hm ai hold with ⟨x,qR,hF⟩|ah|⟨rfl,hF,Nx⟩
   ·exact .inl ⟨x,Hy x qR,hF⟩
   ·exact .inr (.inl (ah.mono hm (λ_ h=>h) hL))
   ·refine .inr (.inr ⟨rfl,hF,λq e aU afF=> ?_⟩)
    rcases Nx q e aU afF with h1|h1|h1
    ·rcases List.mem_cons.1 h1 with ae|ae
     ·obtain⟨rfl,rfl⟩:=Prod.mk.inj ae
      rw[mw q c ai];have ad:=h.two cur.1 c Al ai;have amF:0<cN cur.1 c:=by
       have:=(h.bound cur.1 c Al ai).1;rcases ad with e1|e1
       ·rw[e1] at hold;omega
       ·exact absurd e1 hold
      have ID:=qx q c ak ai;by_cases ar:cw w.av q c=0
      ·right;left
       rw[ar,aG (λe=>by omega)]
      ·by_cases bm:cw w.av q c=given (cN cur.1 c) (S.iZ q) c (decide (e<0))
       ·right;left
        rw[aI ⟨rfl,aj,aj,by rw[hF];exact bm⟩]
       ·right;right
        rw[aG (λe1=>bm (by rw[<-hF];exact e1.2.2.2))];exact bm
     ·exact .inl ae
    ·rcases hL q (G.qQ _ _ _ Al aU) with ae|ae
     ·exact .inr (.inl ae)
     ·exact .inr (.inl (by rw[ae,h1]))
    ·rcases hL q (G.qQ _ _ _ Al aU) with ae|ae
     ·exact .inr (.inl ae)
     ·exact .inr (.inr (by rw[ae];exact h1))
 ·unfold gA at ah
  split at ah
  ·exact h.lost x ah
  ·unfold ib at ah
   rcases List.mem_append.1 ah with h1|h1
   ·exact h.lost x h1
   ·rw[List.mem_singleton.1 h1]
    exact ak
 ·by_cases hold:∃c,c<4/\cw w.av m c≠cN m c
  ·exact n_ m (h.gone m hm (.inl hold))
  ·rcases ah with ⟨c,ai,cv⟩|ah
   ·have UJ:cw w.av m c=cN m c:=Classical.byContradiction λe=>hold ⟨c,ai,e⟩
    have IC:m=n:=by
     have:=mw m c ai;by_cases ah:m=n
     ·exact ah
     ·rw[aG (λe=>ah e.1)] at this
      exact absurd (this.trans UJ) cv
    subst IC;exact(fE c ai (λe=>cv (e.trans UJ))).1
   ·exact n_ m (h.gone m hm (.inr ah))
 ·unfold gA at ah
  split at ah
  ·exact h.Cb m ah
  ·unfold ib at ah
   rcases List.mem_append.1 ah with h1|h1
   ·exact h.Cb m h1
   ·rw[List.mem_singleton.1 h1]
    exact ak
theorem oV.steps {iu S:gy} {cN:k7} {dS:Nat} {cur:Nat×bq} (Al:cur.1<G.N):∀(l:List (Nat×Int)) (w:fg),(∀p∈l,p∈kv G S cur.1)->oV G iu S cN dS cur l w->oV G iu S cN dS cur [] (l.foldl (gA S cur.2) w):=by
 intro l
 induction l with
 |nil=>exact λ_ _ h=>h
 |cons p l b9=>exact λw hl h=>b9 _ (λq aU=>hl q (by simp [aU])) (h.step Al (hl _ (by simp)))
theorem oV.take {iu S:gy} {cN:k7} {dS:Nat} {cur:Nat×bq} {w:fg} {x:Nat×bq} {r:List (Nat×bq)} (h:oV G iu S cN dS cur [] w) (ah:w.bz=x::r):oV G iu S cN dS x (kv G S x.1) {w with bz:=r} where
 len:=h.len
 full:=h.full
 bound:=h.bound
 same:=h.same
 two:=h.two
 Ca:=h.Ca
 yq m c hm ai cv:=by
  rcases h.yq m c hm ai cv with ⟨y,IE,Ny,UK⟩|a_|⟨_,_,a_⟩
  ·rw[ah] at IE
   rcases List.mem_cons.1 IE with rfl|IE
   ·exact .inr (.inr ⟨Ny.symm,UK,λn d ak a8=> .inl (tW.2 ⟨Ny▸ak,a8⟩)⟩)
   ·exact .inl ⟨y,IE,Ny,UK⟩
  ·exact .inr (.inl a_)
  ·exact .inr (.inl a_)
 lost y a_:=h.lost y (by rw[ah];simp [show y∈r from a_])
 gone:=h.gone
 Cb:=h.Cb
theorem oV.up {iu S:gy} (yr:iu.jR G.N) (aH:S.jR G.N) {cN:k7} {dS:Nat} {cur:Nat×bq} {w:fg} (h:oV G iu S cN dS cur [] w) (ah:w.bz=[]) {W:Nat->Prop} (mc:∀m∈w.gone,W m):oo G S (cw w.av) W:=by
 have ad:∀k c,k<G.N->c<4->0<=cw w.av k c/\cw w.av k c<=15:=λk c ag ai=>by
  rcases h.two k c ag ai with e|e
  ·omega
  ·rw[e];exact h.bound k c ag ai
 have afG:∀m c,m<G.N->c<4->cw w.av m c≠cN m c->B_ G S cN (cw w.av) m c []:=λm c hm ai cv=>by
  rcases h.yq m c hm ai cv with ⟨y,a_,_⟩|a_|⟨_,_,a_⟩
  ·rw[ah] at a_
   cases a_
  ·exact a_
  ·exact a_
 have yb:∀k c,k≠dS->sN G S k c=sN G iu k c:=λk c ag=>by
  unfold sN;rw[(h.same k ag).1,(h.same k ag).2.1]
 refine⟨λP hP=> ?_,ad,λn c ak ai Nu=> ?_⟩
 ·have Nz:∀k c,k<G.N->c<4->0<=P k c:=λk c ag ai=>Int.le_trans (tX aH ag ai) (hP k c ag ai)
  have main:∀(a b:Nat) (k c:Nat),k<G.N->c<4->(15-cN k c).toNat<=a->G.aF k<=b->cw w.av k c<=P k c:=by
   intro a
   induction a using Nat.strongRecOn with
   |_ a afH=>
    intro b
    induction b using Nat.strongRecOn with
    |_ b afI=>
     intro k c ag ai ha Cc;rcases h.two k c ag ai with e|e
     ·rw[e];exact Nz k c ag ai
     by_cases bu:cN k c=0
     ·rw[e,bu];exact Nz k c ag ai
     have gV:k≠dS:=λAd=>by
      have:=h.Ca c ai;rw[<-Ad] at this;omega
     have qx:0<cN k c:=by have:=(h.bound k c ag ai).1;omega
     have Cd:=h.full.fixed k c ag ai;have UL:iu.bO k=true:=Classical.byContradiction λak=>by
      unfold rule at Cd;rw[aG ak] at Cd;omega
     have zk:S.bO k=true:=by rw[(h.same k gV).2.2];exact UL
     have UM:=(qa (Nz k c ag ai)).1 (hP k c ag ai) zk;rcases afA (G:=G) (S:=iu) (L:=cN) (c:=c) UL with h1|⟨m,d,hm,tM,h1⟩
     ·rw[e,<-Cd,h1,<-yb k c gV]
      exact UM.1
     ·have yt:=G.qQ _ _ _ ag hm
      have rC:cN k c=given (cN m c) (iu.iZ k) c (decide (0<d)):=by rw[<-Cd,h1]
      have UN:cw w.av m c=cN m c:=Classical.byContradiction λcv=>by
       rcases afG m c yt ai cv k (-d) (G.Nr _ _ _ ag hm) zk with ae|ae|ae
       ·cases ae
       ·omega
       ·apply ae
        rw[e,rC,(h.same k gV).1];congr 1;simp
      have yk:m≠dS:=λem=>by
       have ae:=h.Ca c ai;rw[<-em,UN] at ae;rw[ae,UE _ _ (yr.iZ k ag)] at rC;omega
      have afJ:S.bO m=true:=by rw[(h.same m yk).2.2];exact tM
      have LS:cN m c<=P m c:=by
       rw[<-UN];rcases afz (c:=c) (up:=decide (0<d)) (yr.iZ k ag) (h.bound m c yt ai).2 (by rw[<-rC];exact qx) with ae|⟨ae,ar,bm⟩
       ·rw[<-rC] at ae
        have:=(h.bound m c yt ai).2;exact afH ((15-cN m c).toNat) aj (G.aF m) m c yt ai (bL _) (bL _)
       ·rw[<-rC] at ae
        exact afI (G.aF m) (Nat.lt_of_lt_of_le (G.UA _ _ _ ag hm (by simpa using bm)) Cc) m c yt ai (by rw[<-ae];exact ha) (bL _)
      have cg:=UM.2 m d hm afJ;have cu:=Ns c (decide (0<d)) LS (aH.iZ k ag);rw[e,rC,<-(h.same k gV).1];exact Int.le_trans cu cg
  exact λk c ag ai=>main _ _ k c ag ai (bL _) (bL _)
 ·have UO:n∉w.gone:=λaA=>Nu (mc n aA)
  have IG:n≠dS:=λe=>UO (h.gone n ak (.inr e))
  have afK:cw w.av n c=cN n c:=Classical.byContradiction λe=>UO (h.gone n ak (.inl ⟨c,ai,e⟩))
  have Cd:=h.full.fixed n c ak ai;rw[afK];have hle:=(qa (h.bound n c ak ai).1).1 (Int.le_of_eq Cd);refine(qa (h.bound n c ak ai).1).2 λhs=> ?_
  obtain⟨h1,ae⟩:=hle (by rw[<-(h.same n IG).2.2];exact hs);refine⟨by rw[yb n c IG];exact h1,λm d hm tM=> ?_⟩;have yt:=G.qQ _ _ _ ak hm;rw[(h.same n IG).1];by_cases yk:m=dS
  ·rw[yk,h.Ca c ai,UE _ _ (yr.iZ n ak)]
   exact(h.bound n c ak ai).1
  ·have:=ae m d hm (by rw[<-(h.same m yk).2.2];exact tM)
   refine Int.le_trans (Ns _ _ ?_ (yr.iZ n ak)) this;rcases h.two m c yt ai with e|e
   ·rw[e];exact(h.bound m c yt ai).1
   ·rw[e];exact Int.le_refl _
theorem oV.begin {iu S:gy} {dS:Nat} {w:fg} {cur:Nat×bq} (ag:dS<G.N) (hlen:w.av.length=G.N) (aO:oU G iu (cw w.av)) (ad:∀k c,k<G.N->c<4->0<=cw w.av k c/\cw w.av k c<=15) (vV:∀n,n≠dS->S.iZ n=iu.iZ n/\(∀c,S.emit n c=iu.emit n c)/\S.bO n=iu.bO n) (hl:w.bz=[]) (aA:w.gone=[]):
  oV G iu S (cw w.av) dS cur [] (ib w dS (w.av.getD dS z4)):=by
 have mH:dS<w.av.length:=by rw[hlen];exact ag
 have mw:∀m c,c<4->cw (ib w dS (w.av.getD dS z4)).av m c=if m=dS/\0<cw w.av dS c then 0 else cw w.av m c:=λm c ai=>Nv mH ai
 refine⟨?_,aO,ad,vV,λk c ag ai=> ?_,λc ai=> ?_,λm c hm ai cv=> ?_,λx ah=> ?_,λm hm ah=> ?_,λm ah=> ?_⟩
 ·unfold ib
  simp [hlen]
 ·rw[mw k c ai]
  split
  ·exact .inl rfl
  ·exact .inr rfl
 ·rw[mw dS c ai]
  have:=(ad dS c ag ai).1;split
  ·rfl
  ·rename_i h1
   have:¬0<cw w.av dS c:=λae=>h1 ⟨rfl,ae⟩
   omega
 ·rw[mw m c ai] at cv
  have h1:m=dS/\0<cw w.av dS c:=Classical.byContradiction λh1=>by
   rw[aG h1] at cv;exact cv rfl
  refine .inl ⟨(dS,w.av.getD dS z4),?_,h1.1.symm,by rw[h1.1];rfl⟩;unfold ib;simp
 ·unfold ib at ah
  rw[hl] at ah;rw[List.mem_singleton.1 ah];exact ag
 ·have:m=dS:=by
   rcases ah with ⟨c,ai,cv⟩|ah
   ·rw[mw m c ai] at cv
    exact Classical.byContradiction λh1=>by
     rw[aG (λh=>h1 h.1)] at cv;exact cv rfl
   ·exact ah
  rw[this];unfold ib;simp
 ·unfold ib at ah
  rw[aA] at ah;rw[List.mem_singleton.1 ah];exact ag
end AE
namespace AE
variable {G:nm}
def h3 (w:fg) (k:Nat):fg:=if w.waits.getD k false=true then w else {w with bp:=w.bp++[k],waits:=w.waits.set k true}
def gS (G:nm) (S:gy) (w:fg) (x:Nat×bq) (r:List (Nat×bq)):fg:=(kv G S x.1).foldl (gA S x.2) {w with bz:=r}
def EJ (w:fg):fg:=if w.bz=[] then {w.gone.foldl h3 w with gone:=[]} else w
def ot (G:nm) (S:gy) (w:fg) (k:Nat):bq:=pq (rule G S (cw w.av) k)
def rO (x y:bq):bq:=pq λc=>max (bF x c) (bF y c)
def yu (x y:bq):Bool:=decide (bF y 0<bF x 0)||decide (bF y 1<bF x 1)||decide (bF y 2<bF x 2)||decide (bF y 3<bF x 3)
def EK (G:nm) (S:gy) (w:fg) (k:Nat) (r:List Nat):fg:=
 let w1:fg:={w with bp:=r,waits:=w.waits.set k false,av:=w.av.set k (rO (ot G S w k) (w.av.getD k z4))}
 if yu (ot G S w k) (w.av.getD k z4)=true then (kv G S k).foldl (λw p=>h3 w p.1) w1 else w1
def qS (G:nm) (S:gy) (w:fg):Option fg:=
 match w.bz with
 |x::r=>some (EJ (gS G S w x r))
 |[]=>match w.bp with
  |k::r=>some (EK G S w k r)
  |[]=>none
def kQ (f:bq->Nat) (l:List bq):Nat:=(l.map f).sum
theorem NA {f:bq->Nat}:∀{l:List bq} {k:Nat} {y:bq},k<l.length->kQ f (l.set k y)+f (l.getD k z4)=kQ f l+f y
 |[],_,_,h=>absurd h (Nat.not_lt_zero _)
 |x::l,0,y,_=>by simp [kQ];omega
 |x::l,k+1,y,h=>by
  have:=NA (f:=f) (l:=l) (k:=k) (y:=y) (by simpa using h);simp only [kQ,List.set_cons_succ,List.map_cons,List.sum_cons,List.getD_cons_succ] at*
  omega
theorem NB {f:bq->Nat} {b:Nat}:∀{l:List bq},(∀x∈l,f x<=b)->kQ f l<=b*l.length
 |[],_=>by simp [kQ]
 |x::l,h=>by
  have:=NB (f:=f) (b:=b) (l:=l) (λy a_=>h y (by simp [a_]));have:=h x (by simp);simp only [kQ,List.map_cons,List.sum_cons,List.length_cons,Nat.mul_add] at*
  omega
def qT (x:bq):Nat:=(15-x.1).toNat+(15-x.2.1).toNat+(15-x.2.2.1).toNat+(15-x.2.2.2).toNat
def nK (x:bq):Nat:=(if 0<x.1 then 1 else 0)+(if 0<x.2.1 then 1 else 0)+(if 0<x.2.2.1 then 1 else 0)+(if 0<x.2.2.2 then 1 else 0)
theorem afL (x:bq):nK x<=4:=by
 unfold nK
 (repeat' split)<;>omega
def pt (N:Nat):Nat:=365*N+2
def lz (N:Nat) (w:fg):Nat:=if w.bz=[] then w.bp.length+6*kQ qT w.av else w.bz.length+kQ nK w.av+361*N
structure tZ (N:Nat) (w:fg):Prop where
 len:w.waits.length=N
 nodup:w.bp.Nodup
 lt:∀k∈w.bp,k<N
 is:∀k,k<N->(w.waits.getD k false=true↔k∈w.bp)
theorem Am {α:Type} {l:List α} {k m:Nat} {x d:α} (ag:k<l.length):(l.set k x).getD m d=if m=k then x else l.getD m d:=by
 rw[c_,c_,List.getElem?_set];by_cases h:k=m
 ·subst h
  rw[aI rfl,aI ag,aI rfl];rfl
 ·rw[aG h,aG (λe=>h e.symm)]
theorem tZ.IA {N:Nat} {w:fg} {k:Nat} (ag:k<N) (h:tZ N w):tZ N (h3 w k):=by
 unfold h3;split
 ·exact h
 ·rename_i ak
  have jr:k∉w.bp:=λhm=>ak ((h.is k ag).2 hm)
  refine⟨by simp [h.len],?_,λm hm=> ?_,λm hm=> ?_⟩
  ·show (w.bp++[k]).Nodup
   rw[List.nodup_append];exact⟨h.nodup,by simp,λa ha b ad e=>by
    rw[List.mem_singleton.1 ad] at e
    exact jr (e▸ha)⟩
  ·rcases List.mem_append.1 hm with h1|h1
   ·exact h.lt m h1
   ·rw[List.mem_singleton.1 h1];exact ag
  ·show (w.waits.set k true).getD m false=true↔m∈w.bp++[k]
   rw[Am (by rw[h.len];exact ag)];by_cases e:m=k
   ·rw[aI e]
    simp [e]
   ·rw[aG e,h.is m hm]
    simp [e]
theorem afM (w:fg) (k:Nat):(h3 w k).av=w.av/\(h3 w k).bz=w.bz/\(h3 w k).gone=w.gone:=by
 unfold h3;split<;>exact⟨rfl,rfl,rfl⟩
theorem afN (w:fg) (k m:Nat) (h:m∈w.bp):m∈(h3 w k).bp:=by
 unfold h3;split
 ·exact h
 ·simp [h]
theorem afO {N:Nat} {w:fg} {k:Nat} (h:tZ N w) (ag:k<N):k∈(h3 w k).bp:=by
 unfold h3;split
 ·rename_i h1
  exact(h.is k ag).1 h1
 ·simp
theorem afP (w:fg) (k:Nat):(h3 w k).bp.length<=w.bp.length+1:=by
 unfold h3;split
 ·omega
 ·simp
theorem UP {N:Nat} {α:Type} (f:α->Nat):∀(l:List α) (w:fg),(∀p∈l,f p<N)->tZ N w->
  let w':=l.foldl (λw p=>h3 w (f p)) w
  tZ N w'/\w'.av=w.av/\w'.bz=w.bz/\w'.gone=w.gone/\(∀m∈w.bp,m∈w'.bp)/\(∀p∈l,f p∈w'.bp)/\w'.bp.length<=w.bp.length+l.length:=by
 intro l
 induction l with
 |nil=>exact λw _ h=>⟨h,rfl,rfl,rfl,λ_ h=>h,λ_ h=>(by cases h),bL _⟩
 |cons p l b9=>
  intro w hl h;have hp:=hl p (by simp);obtain⟨h1,ae,ar,bm,cg,cu,e_⟩:=b9 (h3 w (f p)) (λq aU=>hl q (by simp [aU])) (h.IA hp);obtain⟨g1,g2,g3⟩:=afM w (f p);refine⟨h1,ae.trans g1,ar.trans g2,bm.trans g3,λm hm=>cg m (afN w (f p) m hm),λq aU=> ?_,?_⟩
  ·rcases List.mem_cons.1 aU with rfl|aU
   ·exact cg _ (afO h hp)
   ·exact cu q aU
  ·have:=afP w (f p)
   simp only [List.length_cons,List.foldl_cons] at*
   omega
theorem afQ {N:Nat}:∀{l:List Nat},l.Nodup->(∀k∈l,k<N)->l.length<=N:=by
 induction N with
 |zero=>
  intro l _ h
  match l with
  |[]=>simp
  |x::_=>exact absurd (h x (by simp)) (Nat.not_lt_zero _)
 |succ N b9=>
  intro l ak h;have h1:(l.erase N).length<=N:=b9 (ak.erase N) λk ag=>by
   have l5:=h k (List.mem_of_mem_erase ag);have kH:k≠N:=λe=>by
    rw[e] at ag;exact(List.Nodup.not_mem_erase ak) ag
   omega
  have ae:l.length<=(l.erase N).length+1:=by
   rw[List.length_erase];split<;>omega
  omega
theorem tZ.count {N:Nat} {w:fg} (h:tZ N w):w.bp.length<=N:=afQ h.nodup h.lt
structure pv (G:nm) (S:gy) (w:fg):Prop where
 len:w.av.length=G.N
 wait:tZ G.N w
 up:w.bz=[]->w.gone=[]/\oo G S (cw w.av) (· ∈w.bp)
 down:w.bz≠[]->w.bp=[]/\∃iu cN dS cur,iu.jR G.N/\oV G iu S cN dS cur [] w
theorem pv.bound {S:gy} {w:fg} (h:pv G S w):∀k c,k<G.N->c<4->0<=cw w.av k c/\cw w.av k c<=15:=λk c ag ai=>by
 by_cases hl:w.bz=[]
 ·exact(h.up hl).2.bound k c ag ai
 ·obtain⟨_,iu,cN,dS,cur,_,a8⟩:=h.down hl
  rcases a8.two k c ag ai with e|e
  ·omega
  ·rw[e];exact a8.bound k c ag ai
theorem UQ {S:gy} {w:fg} (h:pv G S w):kQ qT w.av<=60*G.N:=by
 have:=NB (f:=qT) (b:=60) (l:=w.av) λx ah=>by
  obtain⟨k,ag,rfl⟩:=List.mem_iff_getElem.1 ah;have nL:k<G.N:=by rw[<-h.len];exact ag
  have ad:=λc (ai:c<4)=>h.bound k c nL ai
  have he:w.av.getD k z4=w.av[k]:=by rw[c_,fy ag];rfl
  have aJ:=ad 0 ck;have h1:=ad 1 ck;have ae:=ad 2 ck;have ar:=ad 3 ck;unfold cw at aJ h1 ae ar;rw[he] at aJ h1 ae ar;simp only [bF] at aJ h1 ae ar;unfold qT;omega
 rw[h.len] at this;exact this
theorem EL (w:fg):kQ nK w.av<=4*w.av.length:=NB λx _=>afL x
theorem afR {S:gy} {old:bq} {w:fg} {p:Nat×Int} (hp:p.1<w.av.length):(gA S old w p).bz.length+kQ nK (gA S old w p).av<=w.bz.length+kQ nK w.av/\(gA S old w p).av.length=w.av.length/\(gA S old w p).bp=w.bp/\(gA S old w p).waits=w.waits:=by
 unfold gA;split
 ·exact⟨bL _,rfl,rfl,rfl⟩
 ·rename_i cv
  refine⟨?_,by simp [ib],rfl,rfl⟩;unfold ib;have hs:=NA (f:=nK) (y:=tY (oq S old (w.av.getD p.1 z4) p) (w.av.getD p.1 z4)) hp;have bt:nK (tY (oq S old (w.av.getD p.1 z4) p) (w.av.getD p.1 z4))+1<=nK (w.av.getD p.1 z4):=by
   have bu:¬∀c,c<4->bF (oq S old (w.av.getD p.1 z4) p) c=0:=λh=>cv (bq.ext' λc ai=>by rw[h c ai,yp])
   have ah:∀c,c<4->bF (oq S old (w.av.getD p.1 z4) p) c=0\/(0<bF (w.av.getD p.1 z4) c/\bF (oq S old (w.av.getD p.1 z4) p) c=bF (w.av.getD p.1 z4) c):=λc ai=>by
    unfold oq;rw[hG ai];split
    ·rename_i h
     exact .inr ⟨h.2.1,rfl⟩
    ·exact .inl rfl
   generalize oq S old (w.av.getD p.1 z4) p=o at bu ah ⊢;generalize w.av.getD p.1 z4=x at ah ⊢;have aJ:=ah 0 ck;have h1:=ah 1 ck;have ae:=ah 2 ck;have ar:=ah 3 ck;have Ii:¬(bF o 0=0/\bF o 1=0/\bF o 2=0/\bF o 3=0):=λ⟨a,b,c,d⟩=>bu λk ag=>by
    match k,ag with
    |0,_=>exact a
    |1,_=>exact b
    |2,_=>exact c
    |3,_=>exact d
   unfold tY nK pq;simp only [bF] at*
   repeat' split
   all_goals omega
  simp only [List.length_append,List.length_cons,List.length_nil];omega
theorem UR {S:gy} {old:bq}:∀(l:List (Nat×Int)) (w:fg),(∀p∈l,p.1<w.av.length)->
  let w':=l.foldl (gA S old) w
  w'.bz.length+kQ nK w'.av<=w.bz.length+kQ nK w.av/\w'.av.length=w.av.length/\w'.bp=w.bp/\w'.waits=w.waits:=by
 intro l
 induction l with
 |nil=>exact λw _=>⟨bL _,rfl,rfl,rfl⟩
 |cons p l b9=>
  intro w hl;obtain⟨g1,g2,g3,g4⟩:=afR (S:=S) (old:=old) (w:=w) (hl p (by simp));obtain⟨h1,ae,ar,bm⟩:=b9 (gA S old w p) (λq aU=>by rw[g2];exact hl q (by simp [aU]));exact⟨Nat.le_trans h1 g1,ae.trans g2,ar.trans g3,bm.trans g4⟩
theorem afS {x y:bq}:yu x y=true↔∃c,c<4/\bF y c<bF x c:=by
 unfold yu;simp only [Bool.or_eq_true,decide_eq_true_eq];constructor
 ·rintro (((h|h)|h)|h)
  ·exact⟨0,ck,h⟩
  ·exact⟨1,ck,h⟩
  ·exact⟨2,ck,h⟩
  ·exact⟨3,ck,h⟩
 ·rintro ⟨c,ai,h⟩
  match c,ai with
  |0,_=>exact .inl (.inl (.inl h))
  |1,_=>exact .inl (.inl (.inr h))
  |2,_=>exact .inl (.inr h)
  |3,_=>exact .inr h
theorem oo.weaken {S:gy} {L L':k7} {W W':Nat->Prop} (h:oo G S L W) (hL:∀k c,k<G.N->c<4->L' k c=L k c) (mc:∀m,W m->W' m):oo G S L' W' where
 low P hP k c ag ai:=by rw[hL k c ag ai];exact h.low P hP k c ag ai
 bound k c ag ai:=by rw[hL k c ag ai];exact h.bound k c ag ai
 done k c ag ai ak:=by
  rw[hL k c ag ai];have aJ:=h.done k c ag ai (λhw=>ak (mc k hw));refine(qa (h.bound k c ag ai).1).2 λhs=> ?_
  obtain⟨h1,ae⟩:=(qa (h.bound k c ag ai).1).1 aJ hs;exact⟨h1,λn d eX a8=>by rw[hL n c (G.qQ _ _ _ ag eX) ai];exact ae n d eX a8⟩
theorem pv.unit {S:gy} (aH:S.jR G.N) {w w':fg} (h:pv G S w) (hu:qS G S w=some w'):pv G S w'/\lz G.N w'+1<=lz G.N w:=by
 unfold qS at hu;split at hu
 ·rename_i x r ah
  cases hu;have cv:w.bz≠[]:=by rw[ah];simp
  obtain⟨aA,iu,cN,dS,cur,yr,a8⟩:=h.down cv;have qR:x.1<G.N:=a8.lost x (by rw[ah];simp);have bt:∀p∈kv G S x.1,p.1<G.N:=λp hp=>G.qQ _ p.1 p.2 qR (tW.1 hp).1
  have k8:=oV.steps qR _ _ (λp hp=>hp) (a8.take ah);obtain⟨iY,jO,qb,Ao⟩:=UR (S:=S) (old:=x.2) (kv G S x.1) {w with bz:=r} (λp hp=>by rw[show ({w with bz:=r}:fg).av=w.av from rfl,h.len];exact bt p hp)
  change oV G iu S cN dS x [] (gS G S w x r) at k8
  change (gS G S w x r).bz.length+kQ nK (gS G S w x r).av<=r.length+kQ nK w.av at iY
  change (gS G S w x r).bp=w.bp at qb
  change (gS G S w x r).waits=w.waits at Ao
  have EM:tZ G.N (gS G S w x r):=⟨by rw[Ao];exact h.wait.len,by rw[qb];exact h.wait.nodup,by rw[qb];exact h.wait.lt,by rw[qb,Ao];exact h.wait.is⟩;have EN:lz G.N w=r.length+1+kQ nK w.av+361*G.N:=by
   unfold lz;rw[aG cv,ah];rfl
  unfold EJ;split
  ·rename_i he
   obtain⟨g1,g2,g3,g4,jJ,g6,g7⟩:=UP (N:=G.N) (λk=>k) (gS G S w x r).gone (gS G S w x r) (λk ag=>k8.Cb k ag) EM;have po:oo G S (cw (gS G S w x r).av) (· ∈((gS G S w x r).gone.foldl h3 (gS G S w x r)).bp):=k8.up yr aH he λm hm=>g6 m hm
   have NC:pv G S {(gS G S w x r).gone.foldl h3 (gS G S w x r) with gone:=[]}:=by
    refine⟨by show ((gS G S w x r).gone.foldl h3 (gS G S w x r)).av.length=_;rw[g2];exact k8.len,⟨g1.len,g1.nodup,g1.lt,g1.is⟩,λ_=>⟨rfl,?_⟩,λak=>absurd (g3.trans he) ak⟩;show oo G S (cw ((gS G S w x r).gone.foldl h3 (gS G S w x r)).av) _;rw[g2];exact po
   refine⟨NC,?_⟩;rw[EN];have hl:({(gS G S w x r).gone.foldl h3 (gS G S w x r) with gone:=[]}:fg).bz=[]:=g3.trans he;have h1:=NC.wait.count;have ae:=UQ NC;unfold lz;rw[aI hl];omega
  ·rename_i he
   refine⟨⟨k8.len,EM,λe=>absurd e he,λ_=>⟨qb.trans aA,iu,cN,dS,x,yr,k8⟩⟩,?_⟩;rw[EN];unfold lz;rw[aG he];omega
 ·rename_i ah
  split at hu
  ·rename_i k r ag
   cases hu;obtain⟨US,po⟩:=h.up ah;have nL:k<G.N:=h.wait.lt k (by rw[ag];simp);have mH:k<w.av.length:=by rw[h.len];exact nL
   have eX:k∉r/\r.Nodup:=by
    have:=h.wait.nodup;rw[ag] at this;exact⟨(List.nodup_cons.1 this).1,(List.nodup_cons.1 this).2⟩
   let w1:fg:={w with bp:=r,waits:=w.waits.set k false,av:=w.av.set k (rO (ot G S w k) (w.av.getD k z4))}
   have EM:tZ G.N w1:=by
    refine⟨by simp [w1,h.wait.len],eX.2,λm hm=>h.wait.lt m (by rw[ag];simp [show m∈r from hm]),λm hm=> ?_⟩;show (w.waits.set k false).getD m false=true↔m∈r;rw[Am (by rw[h.wait.len];exact nL)];by_cases e:m=k
    ·rw[aI e,e]
     simp [eX.1]
    ·rw[aG e,h.wait.is m hm,ag]
     simp [e]
   have mw:∀m c,m<G.N->c<4->cw w1.av m c=raised G S (cw w.av) k m c:=λm c _ ai=>by
    show cw (w.av.set k _) m c=_;rw[UI mH];unfold raised;split
    ·unfold rO ot
     rw[hG ai,hG ai];rfl
    ·rfl
   have IB:yu (ot G S w k) (w.av.getD k z4)=true↔∃c,c<4/\cw w.av k c<rule G S (cw w.av) k c:=by
    rw[afS];constructor
    ·rintro ⟨c,ai,h1⟩
     refine⟨c,ai,?_⟩;unfold ot at h1;rw[hG ai] at h1;exact h1
    ·rintro ⟨c,ai,h1⟩
     refine⟨c,ai,?_⟩;unfold ot;rw[hG ai];exact h1
   have KQ:=NA (f:=qT) (l:=w.av) (k:=k) (y:=rO (ot G S w k) (w.av.getD k z4)) mH;have EN:lz G.N w=r.length+1+6*kQ qT w.av:=by
    unfold lz;rw[aI ah,ag];rfl
   have Cc:=λc (ai:c<4)=>po.bound k c nL ai
   unfold EK;simp only;split
   ·rename_i hm
    obtain⟨bZ,lQ,KO⟩:=IB.1 hm;have bt:∀p∈kv G S k,p.1<G.N:=λp hp=>G.qQ _ p.1 p.2 nL (tW.1 hp).1
    obtain⟨g1,g2,g3,g4,jJ,g6,g7⟩:=UP (N:=G.N) (λp:Nat×Int=>p.1) (kv G S k) w1 bt EM;have cu:(kv G S k).length<=6:=Nat.le_trans (List.length_filter_le _ _) (G.UB k);have afT:oo G S (raised G S (cw w.av) k) (· ∈((kv G S k).foldl (λw p=>h3 w p.1) w1).bp):=po.IA aH nL (λm rB EO=>by
     refine jJ m ?_;rw[ag] at EO;rcases List.mem_cons.1 EO with e|e
     ·exact absurd e rB
     ·exact e) (λ_ n d ak hs=>g6 (n,d) (tW.2 ⟨ak,hs⟩))
    refine⟨⟨?_,g1,λ_=>⟨?_,?_⟩,λak=>absurd (g3.trans ah) ak⟩,?_⟩
    ·show ((kv G S k).foldl (λw p=>h3 w p.1) w1).av.length=_
     rw[g2];simp [w1,h.len]
    ·exact g4.trans US
    ·refine afT.weaken (λm c hm ai=> ?_) (λ_ h=>h)
     show cw ((kv G S k).foldl (λw p=>h3 w p.1) w1).av m c=_;rw[g2];exact mw m c hm ai
    ·rw[EN]
     unfold lz;rw[aI (g3.trans ah),show ((kv G S k).foldl (λw p=>h3 w p.1) w1).av=w1.av from g2];have amG:qT (rO (ot G S w k) (w.av.getD k z4))+1<=qT (w.av.getD k z4):=by
      have gL:=Cc 0 ck;have kZ:=Cc 1 ck;have ka:=Cc 2 ck;have Nb:=Cc 3 ck;have hr:∀c,c<4->rule G S (cw w.av) k c<=15:=λc ai=>Nt aH nL ai λn ak=>(po.bound n c ak ai).2
      have kb:=hr 0 ck;have kG:=hr 1 ck;have zF:=hr 2 ck;have S7:=hr 3 ck;unfold cw at KO gL kZ ka Nb;unfold rO ot qT pq;unfold cw at*
      simp only [bF] at*
      match bZ,lQ with
      |0,_=>simp only [bF] at *;omega
      |1,_=>simp only [bF] at *;omega
      |2,_=>simp only [bF] at *;omega
      |3,_=>simp only [bF] at *;omega
     have amH:(List.foldl (λ(w:fg) (p:Nat×Int)=>h3 w p.1) w1 (kv G S k)).bp.length<=r.length+(kv G S k).length:=g7;have amI:kQ qT w1.av+qT (w.av.getD k z4)=kQ qT w.av+qT (rO (ot G S w k) (w.av.getD k z4)):=KQ;show (List.foldl (λ(w:fg) (p:Nat×Int)=>h3 w p.1) w1 (kv G S k)).bp.length+6*kQ qT w1.av+1<=_
     clear_value w1
     omega
   ·rename_i hm
    have GU:∀c,c<4->rule G S (cw w.av) k c<=cw w.av k c:=λc ai=>by
     have:¬cw w.av k c<rule G S (cw w.av) k c:=λh=>hm (IB.2 ⟨c,ai,h⟩)
     omega
    refine⟨⟨by simp [h.len],EM,λ_=>⟨US,?_⟩,λak=>absurd ah ak⟩,?_⟩
    ·refine(po.IA (W':=(· ∈r)) aH nL (λm rB EO=> ?_) (λ⟨c,ai,h1⟩=>absurd (GU c ai) aj)).weaken (λm c hm ai=>mw m c hm ai) (λ_ h=>h)
     rw[ag] at EO;rcases List.mem_cons.1 EO with e|e
     ·exact absurd e rB
     ·exact e
    ·rw[EN]
     unfold lz;rw[aI ah];have Dx:rO (ot G S w k) (w.av.getD k z4)=w.av.getD k z4:=bq.ext' λc ai=>by
      unfold rO ot;rw[hG ai,hG ai];have:=GU c ai;show max (rule G S (cw w.av) k c) (cw w.av k c)=cw w.av k c;omega
     rw[Dx] at KQ;simp only;rw[Dx];omega
  ·cases hu
theorem pv.settled {S:gy} (aH:S.jR G.N) {w:fg} (h:pv G S w) (hu:qS G S w=none):w.bz=[]/\w.bp=[]/\w.gone=[]/\oU G S (cw w.av):=by
 unfold qS at hu;split at hu
 ·cases hu
 ·rename_i ah
  split at hu
  ·cases hu
  ·rename_i aA
   obtain⟨h1,ae⟩:=h.up ah;exact⟨ah,aA,h1,ae.full aH λk _ ag=>by
    rw[aA] at ag
    cases ag⟩
theorem pv.zT {S II:gy} (aH:S.jR G.N) {w:fg} (h:pv G S w) (hu:qS G S w=none) {k:Nat} (ag:k<G.N) (vV:∀n,n≠k->II.iZ n=S.iZ n/\(∀c,II.emit n c=S.emit n c)/\II.bO n=S.bO n):
  pv G II (ib w k (w.av.getD k z4))/\lz G.N (ib w k (w.av.getD k z4))+1<=pt G.N:=by
 obtain⟨h1,ae,ar,bm⟩:=h.settled aH hu;have hl:(ib w k (w.av.getD k z4)).bz≠[]:=by
  unfold ib;simp
 refine⟨⟨by simp [ib,h.len],⟨h.wait.len,h.wait.nodup,h.wait.lt,h.wait.is⟩,λe=>absurd e hl,λ_=>⟨ae,S,cw w.av,k,(0,z4),aH,oV.begin ag h.len bm h.bound vV h1 ar⟩⟩,?_⟩;unfold lz;rw[aG hl];have:=EL (ib w k (w.av.getD k z4));have iH:(ib w k (w.av.getD k z4)).av.length=G.N:=by simp [ib,h.len]
 rw[iH] at this;have Hy:(ib w k (w.av.getD k z4)).bz.length=1:=by
  unfold ib;simp [h1]
 unfold pt;omega
end AE
namespace AE
def lX (bn bH x y z:Nat):Nat:=(z*bH+y)*bn+x
def hH (bn k:Nat):Nat:=k%bn
def hI (bn bH k:Nat):Nat:=k/bn%bH
def gT (bn bH k:Nat):Nat:=k/bn/bH
section
variable {bn bH aX x y z k:Nat}
theorem UT (ah:x<bn):hH bn (lX bn bH x y z)=x:=by
 unfold hH lX;rw[Nat.add_comm,Nat.add_mul_mod_self_right,Nat.mod_eq_of_lt ah]
theorem UU (ah:x<bn):lX bn bH x y z/bn=z*bH+y:=by
 unfold lX;rw[Nat.add_comm,Nat.add_mul_div_right _ _ aj,Nat.div_eq_of_lt ah,Nat.zero_add]
theorem UW (ah:x<bn) (a_:y<bH):hI bn bH (lX bn bH x y z)=y:=by
 unfold hI;rw[UU ah,Nat.add_comm,Nat.add_mul_mod_self_right,Nat.mod_eq_of_lt a_]
theorem ND (ah:x<bn) (a_:y<bH):gT bn bH (lX bn bH x y z)=z:=by
 unfold gT;rw[UU ah,Nat.add_comm,Nat.add_mul_div_right _ _ aj,Nat.div_eq_of_lt a_,Nat.zero_add]
theorem UX (bn bH k:Nat):lX bn bH (hH bn k) (hI bn bH k) (gT bn bH k)=k:=by
 unfold lX hH hI gT;have h1:=Nat.div_add_mod (k/bn) bH;have ae:=Nat.div_add_mod k bn;have ar:k/bn/bH*bH+k/bn%bH=k/bn:=by rw[Nat.mul_comm];exact h1
 rw[ar,Nat.mul_comm];exact ae
theorem UY (ah:x<bn) (a_:y<bH) (bu:z<aX):lX bn bH x y z<bn*bH*aX:=by
 unfold lX;have h1:z*bH+y+1<=aX*bH:=by
  have:=Nat.mul_le_mul_right bH (show z+1<=aX from bu);rw[Nat.add_mul] at this;omega
 have ae:=Nat.mul_le_mul_right bn h1;rw[Nat.add_mul] at ae;have ar:aX*bH*bn=bn*bH*aX:=by rw[Nat.mul_comm aX bH,Nat.mul_assoc,Nat.mul_comm aX bn,<-Nat.mul_assoc,Nat.mul_comm bH bn]
 rw[<-ar];omega
theorem Ap (h:k<bn*bH*aX):hH bn k<bn/\hI bn bH k<bH/\gT bn bH k<aX:=by
 have afU:0<bn:=by
  rcases Nat.eq_zero_or_pos bn with e|e
  ·subst e;simp at h
  ·exact e
 have afV:0<bH:=by
  rcases Nat.eq_zero_or_pos bH with e|e
  ·subst e;simp at h
  ·exact e
 refine⟨Nat.mod_lt _ afU,Nat.mod_lt _ afV,?_⟩;unfold gT;rw[Nat.div_div_eq_div_mul];exact Nat.div_lt_of_lt_mul h
end
def rP (bn bH aX k:Nat):Nat->List (Nat×Int)
 |0=>if 0<hH bn k then [(lX bn bH (hH bn k-1) (hI bn bH k) (gT bn bH k),0)] else []
 |1=>if hH bn k+1<bn then [(lX bn bH (hH bn k+1) (hI bn bH k) (gT bn bH k),0)] else []
 |2=>if 0<hI bn bH k then [(lX bn bH (hH bn k) (hI bn bH k-1) (gT bn bH k),0)] else []
 |3=>if hI bn bH k+1<bH then [(lX bn bH (hH bn k) (hI bn bH k+1) (gT bn bH k),0)] else []
 |4=>if 0<gT bn bH k then [(lX bn bH (hH bn k) (hI bn bH k) (gT bn bH k-1),-1)] else []
 |5=>if gT bn bH k+1<aX then [(lX bn bH (hH bn k) (hI bn bH k) (gT bn bH k+1),1)] else []
 |_=>[]
def t' (bn bH aX k:Nat):Nat->List (Nat×Int)
 |0=>[]
 |j+1=>t' bn bH aX k j++rP bn bH aX k j
theorem afW (bn bH aX k j:Nat):(rP bn bH aX k j).length<=1:=by
 unfold rP;split
 all_goals first|(split<;>simp)|simp
theorem NF (bn bH aX k j:Nat):(t' bn bH aX k j).length<=j:=by
 induction j with
 |zero=>simp [t']
 |succ j b9=>
  have:=afW bn bH aX k j;simp only [t',List.length_append];omega
theorem UZ {bn bH aX k:Nat} {p:Nat×Int}:p∈t' bn bH aX k 6↔p∈rP bn bH aX k 0\/p∈rP bn bH aX k 1\/p∈rP bn bH aX k 2\/p∈rP bn bH aX k 3\/p∈rP bn bH aX k 4\/p∈rP bn bH aX k 5:=by
 simp only [t',List.mem_append,List.not_mem_nil,false_or,or_assoc]
theorem IJ {bn bH aX k n:Nat} {d:Int} (h:(n,d)∈t' bn bH aX k 6) (ag:k<bn*bH*aX):
  ∃x y z,x<bn/\y<bH/\z<aX/\n=lX bn bH x y z/\
   ((x+1=hH bn k/\y=hI bn bH k/\z=gT bn bH k/\d=0)\/(x=hH bn k+1/\y=hI bn bH k/\z=gT bn bH k/\d=0)\/
    (x=hH bn k/\y+1=hI bn bH k/\z=gT bn bH k/\d=0)\/(x=hH bn k/\y=hI bn bH k+1/\z=gT bn bH k/\d=0)\/
    (x=hH bn k/\y=hI bn bH k/\z+1=gT bn bH k/\d= -1)\/(x=hH bn k/\y=hI bn bH k/\z=gT bn bH k+1/\d=1)):=by
 obtain⟨h1,ae,ar⟩:=Ap ag;rw[UZ] at h;rcases h with h|h|h|h|h|h
 all_goals
  simp only [rP] at h;split at h
  ·rename_i ai
   rw[List.mem_singleton] at h;obtain⟨rfl,rfl⟩:=Prod.mk.inj h;refine⟨_,_,_,?_,?_,?_,rfl,?_⟩
   all_goals omega
  ·cases h
theorem afX {bn bH aX k x y z:Nat} {d:Int} (bu:z<aX) (ah:x<bn) (a_:y<bH)
  (h:(x+1=hH bn k/\y=hI bn bH k/\z=gT bn bH k/\d=0)\/(x=hH bn k+1/\y=hI bn bH k/\z=gT bn bH k/\d=0)\/
    (x=hH bn k/\y+1=hI bn bH k/\z=gT bn bH k/\d=0)\/(x=hH bn k/\y=hI bn bH k+1/\z=gT bn bH k/\d=0)\/
    (x=hH bn k/\y=hI bn bH k/\z+1=gT bn bH k/\d= -1)\/(x=hH bn k/\y=hI bn bH k/\z=gT bn bH k+1/\d=1)):(lX bn bH x y z,d)∈t' bn bH aX k 6:=by
 rw[UZ];simp only [rP];rcases h with ⟨h1,ae,ar,rfl⟩|⟨h1,ae,ar,rfl⟩|⟨h1,ae,ar,rfl⟩|⟨h1,ae,ar,rfl⟩|⟨h1,ae,ar,rfl⟩|⟨h1,ae,ar,rfl⟩
 ·left
  rw[aI aj,<-h1,<-ae,<-ar];simp
 ·right;left
  rw[aI aj,<-h1,<-ae,<-ar];simp
 ·right;right;left
  rw[aI aj,<-h1,<-ae,<-ar];simp
 ·right;right;right;left
  rw[aI aj,<-h1,<-ae,<-ar];simp
 ·right;right;right;right;left
  rw[aI aj,<-h1,<-ae,<-ar];simp
 ·right;right;right;right;right
  rw[aI aj,<-h1,<-ae,<-ar];simp
def afY (bn bH aX:Nat):nm where
 N:=bn*bH*aX
 qP k:=t' bn bH aX k 6
 top k:=decide (gT bn bH k+1=aX)
 aF k:=aX-1-gT bn bH k
 qQ k n d ag h:=by
  obtain⟨x,y,z,ah,a_,bu,rfl,_⟩:=IJ h ag;exact UY ah a_ bu
 Uz k n d ag h e:=by
  obtain⟨x,y,z,ah,a_,bu,ak,h⟩:=IJ h ag;rw[e] at ak;have h1:hH bn k=x:=by rw[ak];exact UT ah
  have ae:hI bn bH k=y:=by rw[ak];exact UW ah a_
  have ar:gT bn bH k=z:=by rw[ak];exact ND ah a_
  omega
 Nr k n d ag h:=by
  obtain⟨x,y,z,ah,a_,bu,rfl,aU⟩:=IJ h ag;clear h;obtain⟨cB,cW,p5⟩:=Ap ag;have al:=afX (k:=lX bn bH x y z) (d:= -d) p5 cB cW (by
   rw[UT ah,UW ah a_,ND ah a_];rcases aU with ⟨a,b,c,rfl⟩|⟨a,b,c,rfl⟩|⟨a,b,c,rfl⟩|⟨a,b,c,rfl⟩|⟨a,b,c,rfl⟩|⟨a,b,c,rfl⟩
   ·exact .inr (.inl ⟨a.symm,b.symm,c.symm,rfl⟩)
   ·exact .inl ⟨a.symm,b.symm,c.symm,rfl⟩
   ·exact .inr (.inr (.inr (.inl ⟨a.symm,b.symm,c.symm,rfl⟩)))
   ·exact .inr (.inr (.inl ⟨a.symm,b.symm,c.symm,rfl⟩))
   ·exact .inr (.inr (.inr (.inr (.inr ⟨a.symm,b.symm,c.symm,rfl⟩))))
   ·exact .inr (.inr (.inr (.inr (.inl ⟨a.symm,b.symm,c.symm,rfl⟩)))))
  rw[UX] at al;exact al
 UA k n d ag h a8:=by
  obtain⟨x,y,z,ah,a_,bu,rfl,h⟩:=IJ h ag;obtain⟨cB,cW,p5⟩:=Ap ag;rw[ND ah a_];omega
 UB k:=NF _ _ _ _ _
end AE
end
end Go.Proofs.YtepcfjbfkedlpaaGreatDoor
namespace Go.Proofs.YtepcfjbfkedlpaaGreatDoor
open Go Go.Proofs Go.RowKit
namespace AE
abbrev mg:aK:=4
theorem IK:a' Tryz.prog (sizeOf mg)=some 1:=az
theorem qc:Tryz.prog.underlying 30=some (.slice mg):=az
noncomputable def IL:TypeInfo:=(Tryz.prog.info? mg).getD default
theorem NG:Tryz.prog.info? mg=some IL:=az
theorem NH:IL.zero=some (.bool false):=az
theorem NI:IL.size=1:=az
abbrev EP:Nat:=1
theorem NJ:IL.bytes=EP:=az
theorem afZ:(.bool false:J).cells.size=1:=rfl
def hx (x:Bool):List J:=[.bool x]
theorem mh:∀x,(hx x).length=1:=λ_=>rfl
theorem NK:∀x,∀u∈hx x,u.oneCell'=true:=λx u hu=>by
 simp only [hx,List.mem_cons,List.not_mem_nil,or_false] at hu;subst hu;rfl
abbrev rQ:aK:=3
theorem af0:Tryz.prog.underlying 26=some (.slice rQ):=az
noncomputable def IM:TypeInfo:=(Tryz.prog.info? rQ).getD default
theorem af1:Tryz.prog.info? rQ=some IM:=az
theorem af2:IM.zero=some (.int .i64 0):=az
theorem af3:IM.size=1:=az
abbrev NL:Nat:=8
theorem af4:IM.bytes=NL:=az
theorem af5:(.int .i64 0:J).cells.size=1:=rfl
def oW (x:Nat):List J:=[.int .i64 ((x:Nat):Int)]
theorem nL:∀x,(oW x).length=1:=λ_=>rfl
theorem af6:∀x,∀u∈oW x,u.oneCell'=true:=λx u hu=>by
 simp only [oW,List.mem_cons,List.not_mem_nil,or_false] at hu;subst hu;rfl
abbrev vo:aK:=85
theorem IN:Tryz.prog.underlying 51=some (.slice vo):=az
noncomputable def ER:TypeInfo:=(Tryz.prog.info? vo).getD default
theorem NM:Tryz.prog.info? vo=some ER:=az
theorem NN:ER.zero=some (.agg ⟨[.int .i64 0,.int .i64 0,.int .i64 0,.int .i64 0]⟩):=az
theorem NO:ER.size=4:=az
abbrev IP:Nat:=32
theorem NP:ER.bytes=IP:=az
theorem af7:(.agg ⟨[.int .i64 0,.int .i64 0,.int .i64 0,.int .i64 0]⟩:J).cells.size=4:=rfl
def ch (x:bq):List J:=[.int .i64 x.1,.int .i64 x.2.1,.int .i64 x.2.2.1,.int .i64 x.2.2.2]
theorem NQ:∀x,(ch x).length=4:=λ_=>rfl
theorem af8:∀x,∀u∈ch x,u.oneCell'=true:=λx u hu=>by
 simp only [ch,List.mem_cons,List.not_mem_nil,or_false] at hu;rcases hu with rfl|rfl|rfl|rfl<;>rfl
abbrev L.val (x:bq):J:= .agg ⟨ch x⟩
abbrev Ce:aK:=89
def wK (x:Nat×Int×Bool):List J:=[.int .i64 ((x.1:Nat):Int),.int .i64 x.2.1,.bool x.2.2]
abbrev Q.val (x:Nat×Int×Bool):J:= .agg ⟨wK x⟩
abbrev Cf:aK:=87
def kx (x:Nat×bq):List J:=[.int .i64 ((x.1:Nat):Int),.int .i64 x.2.1,.int .i64 x.2.2.1,.int .i64 x.2.2.2.1,.int .i64 x.2.2.2.2]
abbrev O.val (x:Nat×bq):J:= .agg ⟨kx x⟩
abbrev t_:Bool:=false
abbrev yv:bq:=z4
end AE
namespace AE
abbrev iv:=Nat×Int×Bool
abbrev au:=Nat×bq
abbrev IQ:aK:=76
abbrev fj:aK:=34
abbrev IS (l:List J) (n:Nat):Nat->J:=λi=>l.getD (n+i) (.bool false)
def lA (g:List Nat) (w:List Bool) (k:Nat):List Nat:=if w.getD k default=true then g else g++[k]
def mi (w:List Bool) (k:Nat):List Bool:=if w.getD k default=true then w else w.set k true
section
variable {g:List Nat} {w:List Bool} {k:Nat}
theorem U0 (h:w.getD k default=true):lA g w k=g:=aI h
theorem U1 (h:¬w.getD k default=true):lA g w k=g++[k]:=aG h
theorem U2 (h:w.getD k default=true):mi w k=w:=aI h
theorem U3 (h:¬w.getD k default=true):mi w k=w.set k true:=aG h
theorem IT (w:List Bool) (k:Nat):(mi w k).length=w.length:=by
 unfold mi;split
 ·rfl
 ·exact List.length_set
theorem U4 (g:List Nat) (w:List Bool) (k:Nat):(lA g w k).length<=g.length+1:=by
 unfold lA;split
 ·omega
 ·simp
end
def qd (i:Nat) (old x:bq):bq:=pq λc=>if c<i/\0<bF old c then 0 else bF x c
section
variable {old x:bq} {k:Nat} {l:List bq}
theorem af9:qd 0 old x=x:=by
 refine bq.ext' λc ai=> ?_
 unfold qd;rw[hG ai,aG aj]
theorem af':qd 4 old x=tY old x:=by
 refine bq.ext' λc ai=> ?_
 unfold qd tY;rw[hG ai,hG ai];simp [ai]
theorem U5 {α:Type} [Inhabited α] {l:List α} {k:Nat} (ag:k<l.length):l.set k (l.getD k default)=l:=by
 rw[c_,fy ag];simp
end
end AE
namespace AE
theorem b6.IU {M M':Mem} {B:Nat} {L L':List b4} (h:b6 B M L M' L'):ef M L M' L':=⟨h.sp,h.keeps,h.fresh⟩
theorem bY.own {M:Mem} {L:List b4} (h:bY M L):b6 0 M L M L:=⟨h,λ_ _ h _=>h,λ_ h=> .inl h,λ_ _=>Nat.zero_le _⟩
theorem ef.trans {M qe pw:Mem} {L dm ku:List b4} (h:ef M L qe dm) (t:ef qe dm pw ku):ef M L pw ku where
 sp:=t.sp
 keeps i o af ak:=t.keeps i o (h.keeps i o af ak) λae=>by
  rcases h.fresh i ae with ar|ar
  ·exact ak ar
  ·rw[af] at ar;cases ar
 fresh b ad:=by
  rcases t.fresh b ad with h1|h1
  ·exact h.fresh b h1
  ·by_cases ae:gZ L b
   ·exact .inl ae
   ·right
    cases ar:M b with
    |none=>rfl
    |some o=>
     have:=h.keeps b o ar ae;rw[h1] at this;cases this
theorem ef.refl {M:Mem} {L:List b4} (h:bY M L):ef M L M L:=h.own.IU
def ua (L:List b4):b4:=⟨gZ L,λM=>bY M L,λ_ h b ad=>h.known b ad,λ_ _ hm h=>h.mono hm⟩
theorem Cg {L:List b4} {b:Nat}:gZ [ua L] b↔gZ L b:=lU
theorem bY.packed {M:Mem} {L:List b4} (h:bY M L):bY M [ua L]:=bY.one h
theorem bY.af_ {M:Mem} {L:List b4} (h:bY M [ua L]):bY M L:=h.ok 0 _ rfl
theorem ef.packed {M M':Mem} {L L':List b4} (h:ef M L M' L'):ef M [ua L] M' [ua L']:=
 ⟨h.sp.packed,λi o af ak=>h.keeps i o af λae=>ak (Cg.2 ae),λb ad=>(h.fresh b (Cg.1 ad)).imp Cg.2 id⟩
theorem aga {L N:List b4} {b:Nat}:gZ (ua L::N) b↔gZ (L++N) b:=by
 constructor
 ·rintro ⟨i,R,af,ad⟩
  cases i with
  |zero=>
   cases af;obtain⟨j,S,hj,ad⟩:=ad;exact⟨j,S,by rw[List.getElem?_append_left (List.getElem?_eq_some_iff.1 hj).1];exact hj,ad⟩
  |succ i=>exact⟨L.length+i,R,by rw[List.getElem?_append_right aj,Nat.add_sub_cancel_left];exact af,ad⟩
 ·rintro ⟨i,R,af,ad⟩
  rcases Nat.lt_or_ge i L.length with h|h
  ·rw[List.getElem?_append_left h] at af
   exact⟨0,ua L,rfl,⟨i,R,af,ad⟩⟩
  ·rw[List.getElem?_append_right h] at af
   exact⟨i-L.length+1,R,af,ad⟩
theorem ef.ES {M M':Mem} {L L' N:List b4} (h:ef M L M' (L'++N)):ef M [ua L] M' (ua L'::N) where
 sp:=by
  refine⟨λi R af=> ?_,λi j R S cv af hj b ad ka=> ?_⟩
  ·cases i with
   |zero=>
    cases af;exact⟨λi R af=>h.sp.ok i R (by rw[List.getElem?_append_left (List.getElem?_eq_some_iff.1 af).1];exact af),λi j R S cv af hj=>h.sp.two i j R S cv (by rw[List.getElem?_append_left (List.getElem?_eq_some_iff.1 af).1];exact af) (by rw[List.getElem?_append_left (List.getElem?_eq_some_iff.1 hj).1];exact hj)⟩
   |succ i=>exact h.sp.ok (L'.length+i) R (by rw[List.getElem?_append_right aj,Nat.add_sub_cancel_left];exact af)
  ·have key:∀(j:Nat) (S:b4),N[j]? =some S->∀b,gZ L' b->¬S.lT b:=λj S hj b ⟨i,R,af,ad⟩=>h.sp.two i (L'.length+j) R S (by have:=(List.getElem?_eq_some_iff.1 af).1;omega) (by rw[List.getElem?_append_left (List.getElem?_eq_some_iff.1 af).1];exact af) (by rw[List.getElem?_append_right aj,Nat.add_sub_cancel_left];exact hj) b ad
   cases i with
   |zero=>
    cases af;cases j with
    |zero=>exact cv rfl
    |succ j=>exact key j S hj b ad ka
   |succ i=>
    cases j with
    |zero=>
     cases hj;exact key i R af b ka ad
    |succ j=>exact h.sp.two (L'.length+i) (L'.length+j) R S aj (by rw[List.getElem?_append_right aj,Nat.add_sub_cancel_left];exact af) (by rw[List.getElem?_append_right aj,Nat.add_sub_cancel_left];exact hj) b ad ka
 keeps i o af ak:=h.keeps i o af λae=>ak (Cg.2 ae)
 fresh b ad:=(h.fresh b (aga.1 ad)).imp Cg.2 id
theorem U6 {α:Type} {P:aQ} {f:FuncId} {args:Array J} {w:ao} {e:aK} {k:Nat} {enc:α->List J} {l:List α} {L:List b4} (hs:bY (aE w) L)
  (h:Calls P f args w λe' w'=>(∃a c,e'= .returned (.slice a l.length c)/\dt w.heap.size (aE w') e k enc (.slice a l.length c) l)/\cA w.heap.size w w'):
  Calls P f args w λe' w'=>(∃y:Option Addr×Nat,e'= .returned (.slice y.1 l.length y.2)/\ef (aE w) L (aE w') (L++[jt e k enc (.slice y.1 l.length y.2) l]))/\cA 0 w w':=
 (Ez h).mono λe' w' he=>by
   obtain⟨⟨y,h1,ae⟩,ar⟩:=he;exact⟨⟨y,h1,(hs.own.new ae).IU⟩,ar⟩
end AE
namespace AE
def Aq:List (Nat×J)->Nat->Option J
 |[],_=>none
 |p::r,i=>bif Nat.beq p.1 i then some p.2 else Aq r i
def agb (o:Oper):Oper:={o with guard:=none}
def agc (jM:Nat->J) (agd:List Nat) (ops:Array Oper) (N:Nat) (o:Oper):Bool:=
 match o.guard with
 |none=>true
 |some (j,b)=>agd.contains j&&(match jM j with| .bool b'=>b==b'|_=>false)&&(match e7 ops j with|some t=>Nat.blt t N|none=>false)
def IV (P:aQ) (N m:Nat) (dq:List Nat) (cs qf:List (Nat×J)) (ops:Array Oper) (dz:a1) (A:aW):List Oper->Nat->List J->Option (List J)
 |[],_,vs=>some vs
 |o::r,i,vs=>bif agc (λj=>vs.getD j cL) (needs ops m o) ops N o then
   (bif dq.contains i then IV P N m dq cs qf ops dz A r (i+1) (vs++[(Aq cs i).getD cL]) else
     match Aq qf i with
     |some v=>IV P N m dq cs qf ops dz A r (i+1) (vs++[v])
     |none=>match hD N ops (λj=>vs.getD j cL) (needs ops m o) dz with
      |some sl=>match yl P (dU .nil sl) A (agb o) with
       |some v=>IV P N m dq cs qf ops dz A r (i+1) (vs++[v])
       |none=>none
      |none=>none)
  else none
def age (ops:Array Oper) (dq:List Nat):Bool:=(List.range dq.length).all λb=>(List.range b).all λa=>DO (zy ops) (dq.getD b 0) (dq.getD a 0)
def agf (P:aQ) (N m:Nat) (dq:List Nat) (cs qf:List (Nat×J)):Option bQ->Option (a1×List J×a1)
 |some (.draw _ ops s _)=>
  bif tE ops [] m N&&age ops dq&&dq.all (λj=>Nat.blt j m) then
   match hD N ops (λ_=>cL) (List.range m) s.sl with
   |some dz=>match IV P N m dq cs qf ops dz s.A (ops.toList.take m) 0 [] with
    |some vs=>match hD N ops (λj=>vs.getD j cL) (List.range m) dz with
     |some Is=>some (dz,vs,Is)
     |none=>none
    |none=>none
   |none=>none
  else none
 |_=>none
def IW (P:aQ) (N m:Nat) (dq:List Nat) (cs qf:List (Nat×J)) (o:Option bQ) (i:Nat):a1:=
 match agf P N m dq cs qf o,(lu o)[i]? with
 |some (dz,vs,_),some op=>match hD N (lu o) (λj=>vs.getD j cL) (needs (lu o) m op) dz with
  |some sl=>sl
  |none=> .nil
 |_,_=> .nil
def U7 [a6] {Y:Type} (P:aQ) (B:Nat) (M:Mem) (cN:List b4) (ops:Array Oper) (dq:List Nat) (rv:Nat->Y->J) (k:Nat) (op:Oper) (sl:a1) (Ch IX:Y->List b4):Prop:=
 ∀(a:Act) (w:ao) (K:Act->ao->Prop) (Q:Exit->Act->ao->Prop) (y:Y),(∀x:Operand,aP (dU .nil sl x)=true->a.eval x=aM (dU .nil sl x))->
  (∀(idx i:Nat) (t:Tmp),idx<k->dq[idx]? =some i->e7 ops i=some t->a.tmps.getD t undef=rv idx y)->(∀i o,M i=some o->¬gZ cN i->w.heap[i]? =some o)->B<=w.heap.size->bY (aE w) (Ch y)->
  (∀gM w',ef (aE w) (Ch y) (aE w') (IX gM)->cA 0 w w'->(∀idx,idx<k->rv idx gM=rv idx y)->K (a.put op.dst (rv k gM)) w')->Oper.wpIn (Fr none) 0 P op a w K Q
structure ET [a6] {Y:Type} (N:Nat) (ds:List Deferred) (ops:Array Oper) (m:Nat) (dq:List Nat) (vs:List J) (dz:a1) (φ:bM) (rv:Nat->Y->J) (k:Nat) (y:Y) (listed:Array Bool) (a:Act):Prop where
 size:listed.size=ops.size
 down:∀i j,listed.getD i false=true->direct ops i j=true->listed.getD j false=true
 sv:∀i,m<=i->listed.getD i false=false
 defers:a.defers=ds
 lI:a.tmps.size=N
 slot:∀t v,dz.get t=some v->aD φ v (a.tmps.getD t undef)
 val:∀j t,j<m->listed.getD j false=true->e7 ops j=some t->aD φ (vs.getD j cL) (a.tmps.getD t undef)
 Iu:∀(idx j:Nat) (t:Tmp),idx<k->dq[idx]? =some j->e7 ops j=some t->a.tmps.getD t undef=rv idx y
 ord:∀(idx j:Nat),dq[idx]? =some j->(listed.getD j false=true↔idx<k)
section
variable [a6] {Y:Type} {N:Nat} {ds:List Deferred} {ops:Array Oper} {m:Nat} {dq:List Nat} {vs:List J} {dz:a1} {φ:bM} {rv:Nat->Y->J} {k:Nat} {y:Y} {listed:Array Bool} {a:Act}
theorem ET.Ip (h:ET N ds ops m dq vs dz φ rv k y listed a) {jM:Nat->J} {ks:List Nat} {sl:a1} (Dw:∀j∈ks,j<m/\listed.getD j false=true/\jM j=vs.getD j cL) (hp:hD N ops jM ks dz=some sl):fe N ds φ sl a:=
 ⟨h.lI,h.defers,λt v ax=>by
   rcases ob _ _ _ hp t v ax with ⟨j,hj,a8,rfl⟩|⟨_,aA⟩
   ·obtain⟨h1,ae,bm⟩:=Dw j hj
    rw[bm];exact h.val j t h1 ae a8
   ·exact h.slot t v aA⟩
theorem ET.put (h:ET N ds ops m dq vs dz φ rv k y listed a) {i:Nat} {o:Oper} {lp:a1} (hP:hD N ops (λ_=>cL) (List.range m) lp=some dz) (af:i<m) (hm:m<=ops.size) (ho:ops[i]? =some o)
  (sA:∀k,direct ops i k=true->listed.getD k false=true) (mz:∀i j,i<m->j<m->i≠j->∀t,e7 ops i=some t->e7 ops j≠some t) (bt:∀i t,i<m->e7 ops i=some t->t<N)
  {aC:J} (ax:aD φ (vs.getD i cL) aC) {k':Nat} {gM:Y} (eM:∀(idx j:Nat),dq[idx]? =some j->j<m)
  (fB:∀(idx j:Nat) (t:Tmp),idx<k'->dq[idx]? =some j->e7 ops j=some t->(if j=i then aC else a.tmps.getD t undef)=rv idx gM)
  (cj:∀(idx j:Nat),dq[idx]? =some j->((j=i\/listed.getD j false=true)↔idx<k')):ET N ds ops m dq vs dz φ rv k' gM (listed.setIfInBounds i true) (a.put o.dst aC):=by
 have kc:e7 ops i=o.dst:=by simp [e7,ho]
 have eN:=Iq (listed:=listed) (i:=i) (by have:=h.size;omega);refine⟨by simpa using h.size,?_,?_,by rw[Act.BA];exact h.defers,by rw[Act.size_put];exact h.lI,?_,?_,?_,?_⟩
 ·intro j k hj a8
  rw[eN] at hj ⊢;rcases hj with rfl|hj
  ·exact .inr (sA k a8)
  ·exact .inr (h.down j k hj a8)
 ·intro j hj
  rw[getD_set_ne false aj];exact h.sv j hj
 ·intro t v oL
  by_cases pY:o.dst=some t
  ·rcases ob _ _ _ hP t v oL with ⟨j,hj,a8,rfl⟩|⟨wj,_⟩
   ·exact .cL _
   ·exact absurd (kc.trans pY) (wj i (List.mem_range.2 af))
  ·rw[wJ t pY]
   exact h.slot t v oL
 ·intro j t hj hl a8
  by_cases et:j=i
  ·subst et
   rw[Act.rr _ _ _ _ (by rw[h.lI];exact bt j t hj a8),aI (kc.symm.trans a8)];exact ax
  ·rw[wJ t λal=>mz i j af hj (Ne.symm et) t (kc.trans al) a8]
   exact h.val j t hj (((eN j).1 hl).resolve_left et) a8
 ·intro idx j t agh hj a8
  have:=fB idx j t agh hj a8;by_cases et:j=i
  ·rw[aI et] at this
   rw[<-this];rw[et] at a8;rw[Act.rr _ _ _ _ (by rw[h.lI];exact bt i t af a8),aI (kc.symm.trans a8)]
  ·rw[aG et] at this
   rw[wJ t λal=>mz i j af (eM idx j hj) (Ne.symm et) t (kc.trans al) a8];exact this
 ·intro idx j hj
  rw[eN j];exact cj idx j hj
end
end AE
namespace AE
def U8 (P:aQ) (N m:Nat) (dq:List Nat) (cs qf:List (Nat×J)) (o:Option bQ) (i:Nat):Option (FuncId×List J):=
 match (lu o)[i]? with
 |some op=>match op.op with
  | .call c=>match c.callee with
    | .value (.func f)=>bif enters P f then some (f,c.args.toList.map (dU .nil (IW P N m dq cs qf o i))) else none
    |_=>none
  |_=>none
 |none=>none
theorem U7.call [a6] {Y:Type} {P:aQ} {M:Mem} {B N m k i:Nat} {dq:List Nat} {cs qf:List (Nat×J)} {o:Option bQ} {f:FuncId} {args:List J} {cN:List b4} {rv:Nat->Y->J} {Ch IX:Y->List b4} (h:U8 P N m dq cs qf o i=some (f,args)) (hp:ev args=true)
  (kN:∀(w:ao) (y:Y),(∀i o,M i=some o->¬gZ cN i->w.heap[i]? =some o)->B<=w.heap.size->bY (aE w) (Ch y)->Calls P f ⟨e4 args⟩ w λe' w'=>(∃gM,e'= .returned (rv k gM)/\ef (aE w) (Ch y) (aE w') (IX gM)/\∀idx,idx<k->rv idx gM=rv idx y)/\cA 0 w w'):
  ∃op,(lu o)[i]? =some op/\U7 P B M cN (lu o) dq rv k op (IW P N m dq cs qf o i) Ch IX:=by
 unfold U8 at h;split at h
 ·rename_i op ca
  split at h
  ·rename_i c yn
   split at h
   ·rename_i iJ pX
    cases he:enters P iJ with
    |false=>rw[he] at h;cases h
    |true=>
     rw[he,bs] at h;simp only [cz,Prod.mk.injEq] at h;obtain⟨rfl,rfl⟩:=h;refine⟨op,ca,λa w K Q y tG lq aV dQ sJ bU=> ?_⟩;have fY:c.args.map a.eval=⟨e4 (c.args.toList.map (dU .nil (IW P N m dq cs qf o i)))⟩:=by
      have:=Np tG c.args.toList hp;rw[<-this];apply Array.ext';simp
     have eH:(execOp a.eval op).run P w= .ok (.enter iJ ⟨e4 (c.args.toList.map (dU .nil (IW P N m dq cs qf o i)))⟩) w:=by
      unfold execOp;rw[yn];simp only;refine cJ (a:={target:= .fn (.func iJ) #[],args:= #[]++c.args.map a.eval}) (by unfold resolve;rw[pX];rfl) ?_;simp only [Array.empty_append,fY];show (callFunc iJ (_++ #[])).run P w=_;rw[Array.append_empty];exact iF (G6 he _) w
     have eX:∀c',op.op≠.defer c':=λc' h=>by rw[yn] at h;cases h
     refine⟨λ_ _=>trivial,?_⟩;rw[Oper.semAt_eq _ _ _ eX,eH,Oper.uponIn_enter];refine⟨λh=>absurd h (by simp [Fr,Fence.wide]),?_⟩;refine CallsIn.mono (DL (kN w y aV dQ sJ)) λe' w2 he=> ?_
     obtain⟨⟨gM,rfl,cQ,dr⟩,hl⟩:=he;exact bU gM w2 cQ hl dr
   ·cases h
  ·cases h
 ·cases h
end AE
namespace AE
mutual
theorem U9 (s1 s2:a6) (h:s1.σ=s2.σ):∀v:J,@aM s1 v= @aM s2 v:=λv=>by
 unfold aM;split
 ·rw[h]
 ·rw[U9 s1 s2 h]
 ·rw[EU s1 s2 h]
 ·rw[EU s1 s2 h]
 ·rw[EU s1 s2 h,EU s1 s2 h]
 ·rfl
theorem EU (s1 s2:a6) (h:s1.σ=s2.σ):∀l:List J,@e4 s1 l= @e4 s2 l
 |[]=>rfl
 |v::r=>by
  unfold e4;rw[U9 s1 s2 h v,EU s1 s2 h r]
end
theorem agi {p:Nat->J->Prop} {j:Nat} {u:J} {l:List (Nat×J)} (h:p j u) (hl:∀i v,Aq l i=some v->p i v):∀i v,Aq ((j,u)::l) i=some v->p i v:=λi v af=>by
 unfold Aq at af;cases ad:Nat.beq j i with
 |true=>
  rw[ad,bs] at af;cases af;rw[<-cq ad];exact h
 |false=>
  rw[ad,dZ] at af;exact hl i v af
section
variable [a6] {P:aQ}
theorem aZ.agj {t:aK} {x:J} {a:Addr} (ah:aP x=true) (aF:P.underlying t=some (.pointer (P.pointee t))) (ex:aM x= .pointer (some a)):aZ P (.bin .eql t x (.pointer none),.bool false):=
 pn (b:= .pointer none) ah U U ex rfl λdx dy w=>by unfold fc;simp [eqGuard,run_eql_pointer_nil w t (some a) aF];rfl
theorem aZ.agk {t:aK} {x:J} {a:Addr} (ah:aP x=true) (aF:P.underlying t=some (.pointer (P.pointee t))) (ex:aM x= .pointer (some a)):aZ P (.bin .neq t x (.pointer none),.bool true):=
 pn (b:= .pointer none) ah U U ex rfl λdx dy w=>by unfold fc;simp [eqGuard,run_neq_pointer_nil w t (some a) aF];rfl
end
theorem agl {P:aQ} {f:FuncId} {args:Array J} {w:ao} {v:J} {L:List b4} (hs:bY (aE w) L) (h:Calls P f args w λe w'=>e= .returned v/\cA w.heap.size w w'):
  Calls P f args w λe w'=>(∃_:Unit,e= .returned v/\ef (aE w) L (aE w') L)/\cA 0 w w':=
 h.mono λe w' he=>by
   obtain⟨rfl,hl⟩:=he;have ag:∀i o,aE w i=some o->aE w' i=some o:=λi o af=>by
    rw[show aE w' i=aE w i from hl.block i (Array.getElem?_eq_some_iff.1 af).1];exact af
   exact⟨⟨(),rfl,hs.mono λb o _ h=>ag b o h,λi o af _=>ag i o af,λb ad=> .inl ad⟩,hl.zero⟩
def wL {α:Type} (p:Nat->α->Prop):Nat->List α->Prop
 |_,[]=>True
 |q,x::l=>p q x/\wL p (q+1) l
theorem wL.nil {α:Type} {p:Nat->α->Prop} {q:Nat}:wL p q []:=trivial
theorem wL.cons {α:Type} {p:Nat->α->Prop} {q:Nat} {x:α} {l:List α} (h:p q x) (t:wL p (q+1) l):wL p q (x::l):=⟨h,t⟩
theorem wL.get {α:Type} {p:Nat->α->Prop}:∀{q:Nat} {l:List α},wL p q l->∀k i,l[k]? =some i->p (q+k) i
 |q,[],_,k,i,af=>by simp at af
 |q,x::l,h,k,i,af=>by
  match k with
  |0=>simp only [List.getElem?_cons_zero,cz] at af;subst af;exact h.1
  |k+1=>
   have:=wL.get h.2 k i (by simpa using af);rw[show q+(k+1)=q+1+k by omega];exact this
def wM (p:Nat->J->Prop):List (Nat×J)->Prop
 |[]=>True
 |x::l=>p x.1 x.2/\wM p l
theorem wM.nil {p:Nat->J->Prop}:wM p []:=trivial
theorem wM.cons {p:Nat->J->Prop} {j:Nat} {u:J} {l:List (Nat×J)} (h:p j u) (t:wM p l):wM p ((j,u)::l):=⟨h,t⟩
theorem wM.get {p:Nat->J->Prop}:∀{l:List (Nat×J)},wM p l->∀i v,Aq l i=some v->p i v
 |[],_,i,v,h=>by cases h
 |(j,u)::l,h,i,v,af=>agi (p:=p) h.1 (wM.get h.2) i v af
end AE
end Go.Proofs.YtepcfjbfkedlpaaGreatDoor
namespace Go.Proofs.YtepcfjbfkedlpaaGreatDoor
open Go Go.RowKit
namespace AE
def qU:Nat->List (J×J)->List MapEntry
 |_,[]=>[]
 |i,p::r=>{key:=p.1,val:=p.2,born:=i}::qU (i+1) r
theorem U':∀(i:Nat) (l:List (J×J)) (p:J×J),qU i (l++[p])=qU i l++[{key:=p.1,val:=p.2,born:=i+l.length}]
 |i,[],n=>by simp [qU]
 |i,x::r,n=>by
  simp only [List.cons_append,qU,U' (i+1) r n,List.length_cons];rw[show i+1+r.length=i+(r.length+1) by omega]
def rR (g:Nat) (es:List (J×J)):b4 where
 lT b:=b=g
 ok M:=M g=some (.map ⟨qU 0 es⟩ es.length)
 p6 M h b ad:=by
  subst ad;rw[h];simp
 loc M M' h ho:=h g _ rfl ho
structure IY (P:aQ) (eI:aK) (K:J->Prop):Prop where
 NR:∀k,K k->∀b,a' P (Instr.checkKey b 10000 eI k)=some ()
 desc:∃d,a' P (underlying eI)=some d/\∀x y,Instr.sameNow d x y=none
 same:∀k,K k->∀w,(Op.equal eI k k).run P w= .ok true w
 other:∀k k',K k->K k'->k≠k'->∀w,(Op.equal eI k k').run P w= .ok false w
def IZ (K:J->Prop) (es:List (J×J)) (k:J):Prop:=∀p∈es,K p.1/\p.1≠k
variable {P:aQ} {eI:aK} {K:J->Prop} {k v:J} {w:ao}
theorem U_ (bU:IY P eI K) (ag:K k):∀(es:List (J×J)) (i j:Nat),IZ K es k->(Instr.findAsking eI k (qU i es) j).run P w= .ok none w
 |[],_,_,_=>rfl
 |p::r,i,j,h=>by
  obtain⟨h1,ae⟩:=h p List.mem_cons_self;unfold qU Instr.findAsking;refine c6 (bU.other k p.1 ag h1 (λe=>ae e.symm) w) ?_;exact U_ bU ag r _ _ λq aU=>h q (List.mem_cons_of_mem _ aU)
theorem agm (bU:IY P eI K) (ag:K k) {es:List (J×J)} (h:IZ K es k):(Instr.findKey eI k (qU 0 es)).run P w= .ok none w:=by
 obtain⟨d,h1,ae⟩:=bU.desc;unfold Instr.findKey;refine cJ h1 ?_;cases es with
 |nil=>rfl
 |cons p r=>
  have:Instr.findNow d k (qU 0 (p::r)) 0=none:=by
   unfold qU Instr.findNow;rw[ae]
  rw[this];exact U_ bU ag _ _ _ h
section
variable [a6]
end
theorem agn [cK] {P:aQ} {N B:Nat} {w0:ao} {Q:Exit->Act->ao->Prop} {M:Mem} {bh:List J} {o:Option bQ} {t:aK} {dV:J} {bC:Nat->List J} {dF du:a1} {aT:List bS} {bG:ec}
  (h:B2 o=some t) (cY:d' (de o) dF aT=some bG) (dW:gG N dF (iq o) dV=some du) (fq:aP dV=true)
  (hm:∀M' g,e8 (aY M bh) (aY M' (bC g)) bG) (ax:∀M' g,@aM (aY M' (bC g)) dV= .map (some g))
  (rest:∀M' g,M g=none->B<=g->(rR g []).ok M'->gR M M' none->∀aR w,@Here (aY M' (bC g)) _ N {sl:=du,ms:=[],A:=ff aT} B w0 aR w->wpListIn (Fr none) 0 P (jq o) (dK P (hk o) Q) (jo o) aR w)
  (ak:cK.cU<=aT.length:=by first|exact Nat.zero_le _|exact hQ rfl) (ai:hT (de o).A aT 0:=by exact fR rfl): @eW (aY M bh) _ P N B w0 Q o:=by
 letI:=aY M bh;unfold B2 at h;split at h
 ·rename_i op r ops s ks
  refine⟨_,rfl,λa w al=> ?_⟩;split at h
  ·rename_i c7 ca
   split at h
   ·rename_i h2
    cases h;have fJ:=al;obtain⟨⟨φ,ds,h1,ae,ar,bm,_⟩,cg,cu⟩:=al;unfold wpListIn;rw[nc ae.get h2,aI rfl];have hw:∀i o,M i=some o->w.heap[i]? =some o:=fJ.ma
    let w':ao:={w with heap:=w.heap.push (.map #[] 0)}
    have eH:(execOp a.eval op).run P w= .ok (.value (.map (some w.heap.size))) w':=by
     unfold execOp;rw[ca];rfl
    have eX:∀c',op.op≠.defer c':=λc' h=>by rw[ca] at h;cases h
    refine⟨λ_ _=>trivial,?_⟩;rw[Oper.semAt_eq _ _ _ eX,eH,Oper.uponIn_value];obtain⟨q1,aB⟩:=oh (B:=B) (M:=M) (w:=w) (w':=w') (T:=none) (dD:=some w.heap.size) hw (λi h=>by cases h) (λi af=> .inr (by cases af;exact bL _)) ⟨rfl,rfl,rfl⟩ (bL _) (by simp [w']) (λi af _=>by
     show (w.heap.push _)[i]? =_
     rw[Array.getElem?_push,aG aj])
    have cj:(rR w.heap.size []).ok (gd M w' none (some w.heap.size)):=by
     show gd M w' none (some w.heap.size) w.heap.size=_;unfold gd;rw[aI rfl];show (w.heap.push _)[w.heap.size]? =_;rw[Array.getElem?_push,aI rfl];rfl
    have wN:M w.heap.size=none:=by
     cases aA:M w.heap.size with
     |none=>rfl
     |some o=>
      have:=(Array.getElem?_eq_some_iff.1 (hw _ _ aA)).1;omega
    have gH:=Here.turns (vals':=bC w.heap.size) cY (hm _ _) q1 ak ai fJ;letI:=aY (gd M w' none (some w.heap.size)) (bC w.heap.size);have jP:=Here.put (d:=op.dst) gH (v:=dV) fq dW;rw[ax] at jP;exact rest _ _ wN cu cj aB _ w' jP
   ·cases h
  ·cases h
 ·cases h
theorem ago [cK] {P:aQ} {N B:Nat} {w0:ao} {Q:Exit->Act->ao->Prop} {M:Mem} {bh bC:List J} {o:Option bQ} {t eI tS:aK} {K:J->Prop} {m k x ub wO:J} {g:Nat} {es:List (J×J)} {dF du:a1} {aT:List bS} {bG:ec}
  (bU:IY P eI K) (h:B3 o=some (t,m,k,x)) (aF:a' P (underlying t)=some (.map eI tS))
  (cY:d' (de o) dF aT=some bG) (dW:gG N dF (iq o) undef=some du) (hp:aP m=true) (ah:aP k=true) (ax:aP x=true) (em: @aM (aY M bh) m= .map (some g)) (Ad: @aM (aY M bh) k=ub) (bj: @aM (aY M bh) x=wO)
  (cj:(rR g es).ok M) (dQ:B<=g) (ag:K ub) (fE:IZ K es ub) (hm:∀M',e8 (aY M bh) (aY M' bC) bG)
  (rest:∀M',(rR g (es++[(ub,wO)])).ok M'->gR M M' (some g)->∀aR w,@Here (aY M' bC) _ N {sl:=du,ms:=[],A:=ff aT} B w0 aR w->wpListIn (Fr none) 0 P (jq o) (dK P (hk o) Q) (jo o) aR w)
  (ak:cK.cU<=aT.length:=by first|exact Nat.zero_le _|exact hQ rfl) (ai:hT (de o).A aT 0:=by exact fR rfl): @eW (aY M bh) _ P N B w0 Q o:=by
 letI:=aY M bh;unfold B3 at h;split at h
 ·rename_i op r ops s ks
  refine⟨_,rfl,λa w al=> ?_⟩;split at h
  ·rename_i c7 Ep oS fT ca
   split at h
   ·rename_i h2
    simp only [cz,Prod.mk.injEq] at h;obtain⟨rfl,rfl,rfl,rfl⟩:=h;have fJ:=al;obtain⟨⟨φ,ds,h1,ae,ar,bm,_⟩,cg,cu⟩:=al;unfold wpListIn;rw[nc ae.get h2,aI rfl];have zm:a.eval Ep= .map (some g):=(aD.hY _ hp (fZ (hE φ) ae.get Ep)).trans em;have mD:a.eval oS=ub:=(aD.hY _ ah (fZ (hE φ) ae.get oS)).trans Ad;have MO:a.eval fT=wO:=(aD.hY _ ax (fZ (hE φ) ae.get fT)).trans bj;have hw:∀i o,M i=some o->w.heap[i]? =some o:=fJ.ma;have ad:M g=some (.map ⟨qU 0 es⟩ es.length):=cj;have aA:=hw _ _ ad
    let o':Obj:= .map ⟨qU 0 (es++[(ub,wO)])⟩ (es++[(ub,wO)]).length
    let w':ao:={w with heap:=w.heap.setIfInBounds g o'}
    have fa:Obj.map ((⟨qU 0 es⟩:Array MapEntry).push {key:=ub,val:=wO,born:=es.length}) (es.length+1)=o':=by
     show _=Obj.map _ _;rw[U',List.length_append,Nat.zero_add];simp
    have eH:(execOp a.eval op).run P w= .ok .skip w':=by
     unfold execOp;rw[ca];simp only [zm,mD,MO];show (do Instr.mapUpdate c7 (.map (some g)) ub wO;pure Next.skip:Sem Next).run P w=_;have cF:(Instr.mapUpdate c7 (.map (some g)) ub wO).run P w= .ok () w':=by
      unfold Instr.mapUpdate;refine cJ aF ?_;simp only;refine c6 (pQ aA (by simp)) ?_;simp only;refine cJ (bU.NR _ ag _) ?_;refine c6 (agm (w:=w) bU ag fE) ?_;simp only;rw[fa];exact uV aA (by simp)
     simp only [Sem.run_bind,cF,Result.andThen_ok];rfl
    have eX:∀c',op.op≠.defer c':=λc' h=>by rw[ca] at h;cases h
    refine⟨λ_ _=>trivial,?_⟩;rw[Oper.semAt_eq _ _ _ eX,eH,Oper.uponIn_skip];have MP:g<w.heap.size:=(Array.getElem?_eq_some_iff.1 aA).1;obtain⟨q1,aB⟩:=oh (B:=B) (M:=M) (w:=w) (w':=w') (T:=some g) (dD:=some g) hw (λi af=>by cases af;exact⟨by rw[ad];simp,dQ⟩) (λi af=> .inl af) ⟨rfl,rfl,rfl⟩ (bL _) (by simp [w']) (λi af cv=>by
     show (w.heap.setIfInBounds g o')[i]? =_
     rw[Array.getElem?_setIfInBounds,aG (λe=>cv (by rw[e]))])
    have cj:(rR g (es++[(ub,wO)])).ok (gd M w' (some g) (some g)):=by
     show gd M w' (some g) (some g) g=_;unfold gd;rw[aI rfl];show (w.heap.setIfInBounds g o')[g]? =_;rw[Array.getElem?_setIfInBounds,aI rfl,aI MP]
    have gH:=Here.turns (vals':=bC) cY (hm _) q1 ak ai fJ;letI:=aY (gd M w' (some g) (some g)) bC;exact rest _ cj aB _ w' (Here.put (d:=op.dst) gH (v:=undef) rfl dW)
   ·cases h
  ·cases h
 ·cases h
section
variable {M M':Mem}
theorem agp {g:Nat} {es c8:List (J×J)} (cj:(rR g c8).ok M') (bU:gR M M' (some g)):ef M [rR g es] M' [rR g c8]:=
 ⟨bY.one cj,λi o af ak=>bU i o af λe=>ak (lU.2 (Option.some.inj e)),λb ad=> .inl (lU.2 (show b=g from lU.1 ad))⟩
theorem agq {g:Nat} {es:List (J×J)} (cj:(rR g es).ok M') (ak:M g=none) (bU:gR M M' none):ef M [] M' [rR g es]:=
 ⟨bY.one cj,λi o af _=>bU i o af λe=>(by cases e),λb ad=> .inr (by rw[show b=g from lU.1 ad];exact ak)⟩
end
end AE
end Go.Proofs.YtepcfjbfkedlpaaGreatDoor
namespace Go.Proofs.YtepcfjbfkedlpaaGreatDoor
open Go Go.Proofs Go.RowKit
namespace AE
def look:List J->Nat->Nat->J
 |[],_,_=> .bool false
 |v::r,n,k=>bif Nat.beq (n-1) k then v else look r (n-1) k
def eJ:List J->Prop
 |[]=>True
 |v::r=>lr v=v/\eJ r
theorem Ci:∀{l:List J},eJ l->∀v∈l,lr v=v
 |[],_,v,ax=>by cases ax
 |x::r,h,v,ax=>by
  rcases List.mem_cons.1 ax with rfl|ax
  ·exact h.1
  ·exact Ci h.2 v ax
theorem I0:∀{l:List J},(∀v∈l,lr v=v)->eJ l
 |[],_=>trivial
 |x::r,h=>⟨h x (by simp),I0 λv ax=>h v (List.mem_cons_of_mem _ ax)⟩
theorem qV {a b:List J} (ha:eJ a) (ad:eJ b):eJ (a++b):=I0 λv ax=>by
 rcases List.mem_append.1 ax with h|h
 ·exact Ci ha v h
 ·exact Ci ad v h
theorem nM {a:List J} (ha:eJ a):eJ a.reverse:=I0 λv ax=>Ci ha v (by simpa using ax)
theorem I1:∀(env:List J) (n k:Nat),env.length=n->look env n k=env.reverse.getD k (.bool false)
 |[],n,k,_=>by simp [look]
 |v::r,n,k,h=>by
  simp only [List.length_cons] at h;unfold look;rw[List.reverse_cons,c_];by_cases ag:k=r.length
  ·subst ag
   rw[show Nat.beq (n-1) r.length=true by rw[show n-1=r.length by omega];exact Nat.beq_refl _,bs,List.getElem?_append_right (by simp)];simp
  ·rw[show Nat.beq (n-1) k=false by cases ad:Nat.beq (n-1) k with|false=>rfl|true=>exact absurd (cq ad) aj,dZ,I1 r (n-1) k aj,c_]
   by_cases bt:k<r.length
   ·rw[List.getElem?_append_left (by simpa using bt)]
   ·rw[List.getElem?_eq_none (by simpa using by omega),List.getElem?_eq_none (by simp;omega)]
mutual
def ex (env:List J) (n:Nat):J->J
 | .complex .f64 k b=>bif Nat.beq b 0 then (bif Nat.blt k d_ then look env n k else .pointer (some ⟨k-d_,0,none⟩)) else .complex .f64 k b
 | .iface t v=> .iface t (ex env n v)
 | .agg ⟨l⟩=> .agg ⟨fG env n l⟩
 | .tuple ⟨l⟩=> .tuple ⟨fG env n l⟩
 | .func (.func f) ⟨a⟩ ⟨b⟩=> .func (.func f) ⟨fG env n a⟩ ⟨fG env n b⟩
 |v=>v
def fG (env:List J) (n:Nat):List J->List J
 |[]=>[]
 |v::r=>ex env n v::fG env n r
end
abbrev cn (M:Mem) (env:List J):a6:=aY M env.reverse
theorem agr (M:Mem) {env:List J} {n:Nat} (h:eJ env) (ak:env.length=n) (k:Nat):(cn M env).σ k=bif Nat.blt k d_ then look env n k else .pointer (some ⟨k-d_,0,none⟩):=by
 show lN env.reverse k=_;unfold lN;cases ag:Nat.blt k d_ with
 |false=>rfl
 |true=>
  rw[bs,bs,I1 env n k ak];by_cases bt:k<env.length
  ·rw[c_,fy (by simpa using bt)]
   exact Ci (nM h) _ (List.getElem_mem (by simpa using bt))
  ·rw[c_,List.getElem?_eq_none (by simpa using by omega)]
   rfl
mutual
theorem jS (M:Mem) {env:List J} {n:Nat} (h:eJ env) (ak:env.length=n):∀v:J,@aM (cn M env) v=ex env n v:=by
 intro v;unfold aM ex;split
 ·rename_i k b
  dsimp only;cases Nat.beq b 0 with
  |true=>rw[bs,bs];exact agr M h ak k
  |false=>rfl
 ·dsimp only;rw[jS M h ak]
 ·dsimp only;rw[rS M h ak]
 ·dsimp only;rw[rS M h ak]
 ·dsimp only;rw[rS M h ak,rS M h ak]
 ·rename_i h1 ae ar bm cg
  split
  ·exact absurd rfl (h1 _ _)
  ·exact absurd rfl (ae _ _)
  ·exact absurd rfl (ar _)
  ·exact absurd rfl (bm _)
  ·exact absurd rfl (cg _ _ _)
  ·rfl
theorem rS (M:Mem) {env:List J} {n:Nat} (h:eJ env) (ak:env.length=n):∀l:List J,@e4 (cn M env) l=fG env n l
 |[]=>rfl
 |v::r=>by
  unfold e4 fG;rw[jS M h ak,rS M h ak]
end
mutual
def jT (n:Nat):J->Bool
 | .complex .f64 k b=>bif Nat.beq b 0 then Nat.blt k n|| !Nat.blt k d_ else true
 | .iface _ v=>jT n v
 | .agg ⟨l⟩=>nN n l
 | .tuple ⟨l⟩=>nN n l
 | .func (.func _) ⟨a⟩ ⟨b⟩=>nN n a&&nN n b
 |_=>true
def nN (n:Nat):List J->Bool
 |[]=>true
 |v::r=>jT n v&&nN n r
end
mutual
theorem lY {n m:Nat} (hle:n<=m):∀v:J,jT n v=true->jT m v=true:=by
 intro v h;unfold jT at h ⊢;split at h
 ·rename_i k b
  cases ad:Nat.beq b 0 with
  |true=>
   rw[ad,bs,Bool.or_eq_true] at h;rw[bs,Bool.or_eq_true];rcases h with h|h
   ·exact .inl (Nat.blt_eq.mpr (Nat.lt_of_lt_of_le (Nat.blt_eq.mp h) hle))
   ·exact .inr h
  |false=>rfl
 ·exact lY hle _ h
 ·exact Cj hle _ h
 ·exact Cj hle _ h
 ·rename_i a b
  simp only [cV] at h ⊢;exact⟨Cj hle _ h.1,Cj hle _ h.2⟩
 ·rfl
theorem Cj {n m:Nat} (hle:n<=m):∀l:List J,nN n l=true->nN m l=true
 |[],_=>rfl
 |v::r,h=>by
  unfold nN at h ⊢;simp only [cV] at h ⊢;exact⟨lY hle v h.1,Cj hle r h.2⟩
end
def mI (n:Nat) (s1 s2:a6):Prop:=∀k,k<n\/d_<=k->s1.σ k=s2.σ k
mutual
theorem jU {n:Nat} {s1 s2:a6} (ha:mI n s1 s2):∀v:J,jT n v=true-> @aM s1 v= @aM s2 v:=by
 intro v h;unfold jT at h;unfold aM;split at h
 ·rename_i k b
  dsimp only;cases ad:Nat.beq b 0 with
  |true=>
   rw[ad,bs] at h;rw[bs,bs];refine ha k ?_;rw[Bool.or_eq_true] at h;rcases h with h|h
   ·exact .inl (Nat.blt_eq.mp h)
   ·refine .inr ?_
    have:¬k<d_:=λag=>by rw[Nat.blt_eq.mpr ag] at h;cases h
    omega
  |false=>rfl
 ·dsimp only;rw[jU ha _ h]
 ·dsimp only;rw[Ar ha _ h]
 ·dsimp only;rw[Ar ha _ h]
 ·rename_i a b
  dsimp only;simp only [cV] at h;rw[Ar ha _ h.1,Ar ha _ h.2]
 ·rename_i h1 ae ar bm cg
  split
  ·exact absurd rfl (h1 _ _)
  ·exact absurd rfl (ae _ _)
  ·exact absurd rfl (ar _)
  ·exact absurd rfl (bm _)
  ·exact absurd rfl (cg _ _ _)
  ·rfl
theorem Ar {n:Nat} {s1 s2:a6} (ha:mI n s1 s2):∀l:List J,nN n l=true-> @e4 s1 l= @e4 s2 l
 |[],_=>rfl
 |v::r,h=>by
  unfold nN at h;simp only [cV] at h;unfold e4;rw[jU ha v h.1,Ar ha r h.2]
end
theorem sO (M M':Mem) {env cR:List J} {n:Nat} (ak:env.length=n):mI n (cn M env) (cn M' (cR++env)):=by
 intro k ag;show lN env.reverse k=lN (cR++env).reverse k;unfold lN;cases ad:Nat.blt k d_ with
 |false=>rfl
 |true=>
  rw[bs,bs];have bt:=Nat.blt_eq.mp ad;have dj:k<env.length:=by omega
  congr 1;rw[List.reverse_append,c_,c_,List.getElem?_append_left (by simpa using dj)]
structure gE (P:aQ) where
 α:Type
 I2:α
 e:aK
 k:Nat
 bytes:Nat
 enc:α->List J
 len:∀x,(enc x).length=k
 one:∀x,∀u∈enc x,u.oneCell'=true
 pos:0<k
 size:a' P (sizeOf e)=some k
 info:∃i z,P.info? e=some i/\i.zero=some z/\i.size=k/\i.bytes=bytes/\z.cells.size=k
variable {P:aQ}
structure fk (P:aQ) where
 K:gE P
 v:J
 l:List K.α
def fk.ok (r:fk P) (M:Mem):Prop:=bT M r.K.k r.K.enc r.v r.l
inductive aw (P:aQ) where
 |box (g:Nat) (ty:aK) (cs:List J)
 |arr (K:gE P) (v:J) (l:List K.α)
 |kO (K:gE P) (v:J) (l:List K.α)
 |red (K:gE P) (v:J) (l:List K.α)
 |any (R:b4)
def aw.res:aw P->b4
 | .box g ty cs=>nJ g ty cs
 | .arr K v l=>jt K.e K.k K.enc v l
 | .kO K v l=>oT K.e K.k K.enc v l
 | .red K v l=>qN K.k K.enc v l
 | .any R=>R
abbrev bD (L:List (aw P)):List b4:=L.map aw.res
def aw.Va:aw P->Option (fk P)
 | .arr K v l=>some ⟨K,v,l⟩
 | .kO K v l=>some ⟨K,v,l⟩
 | .red K v l=>some ⟨K,v,l⟩
 |_=>none
theorem kf {L:List (aw P)} {i:Nat} {r:aw P} (h:L[i]? =some r):(bD L)[i]? =some r.res:=by
 rw[List.getElem?_map,h];rfl
def dR (ro:List (fk P)) (M:Mem):Prop:=∀(i:Nat) (r:fk P),ro[i]? =some r->r.ok M
def kR (ep:Mem) (au:List b4) (M:Mem):Prop:=∀i o,ep i=some o->¬gZ au i->M i=some o
theorem NS {B:Nat} {ep M:Mem} {au:List b4} {L:List (aw P)} (h:b6 B ep au M (bD L)) {i:Nat} {d:aw P} (af:L[i]? =some d) {r:fk P} (hr:d.Va=some r):r.ok M:=by
 have aA:=kf af;cases d<;>cases hr
 ·exact(h.arr i aA).arr (gE.len _)
 ·exact(h.kO i aA).arr (gE.len _)
 ·exact h.red i aA
theorem NT {M:Mem} {L:List (aw P)} (h:bY M (bD L)) {i:Nat} {d:aw P} (af:L[i]? =some d) {r:fk P} (hr:d.Va=some r):r.ok M:=by
 have aA:=kf af;cases d<;>cases hr
 ·exact(h.arr i aA).arr (gE.len _)
 ·exact(h.kO i aA).arr (gE.len _)
 ·exact h.red i aA
theorem EV {B:Nat} {ep M:Mem} {au L:List b4} (h:b6 B ep au M L):kR ep au M:=λ_ _ af ak=>h.kept af ak
end AE
namespace AE
def EW:List (Nat×Operand)->Nat->Bool
 |[],_=>true
 |p::r,i=>Nat.beq p.1 i&&EW r (i+1)
def NU:Option bQ->Option (aK×List J)
 |some (.oper o _ ops s _)=>match o.op with
  | .buildSlice t n ⟨ps⟩=>bif EW ps 0&&(Nat.beq ps.length n&&(Nat.blt 0 n&&Nat.ble n 1000)) then match pW ops o s.sl with
    |some true=>some (t,ps.map λp=>dU .nil s.sl p.2)
    |_=>none
    else none
  |_=>none
 |_=>none
def EX:Nat->List J->List (Nat×J)
 |_,[]=>[]
 |i,u::r=>(i,u)::EX (i+1) r
theorem Vb {f:Operand->J}:∀(ps:List (Nat×Operand)) (i:Nat),EW ps i=true->ps.map (λp=>(p.1,f p.2))=EX i (ps.map λp=>f p.2)
 |[],_,_=>rfl
 |p::r,i,h=>by
  unfold EW at h;rw[cV] at h;rw[List.map_cons,List.map_cons,cq h.1,Vb r (i+1) h.2];rfl
theorem Vc:∀(l:List J) (off k:Nat) (cs:Array J),off+k+l.length<=cs.size->((l.zipIdx k).foldl (λ(cs:Array J) (p:J×Nat)=>cs.setIfInBounds (off+p.2) p.1) cs).toList=cs.toList.take (off+k)++l++cs.toList.drop (off+k+l.length)
 |[],off,k,cs,h=>by simp
 |u::l,off,k,cs,h=>by
  simp only [List.zipIdx_cons,List.foldl_cons];simp only [List.length_cons] at h;rw[Vc l off (k+1) _ (by simp only [Array.size_setIfInBounds];omega)];have ag:off+k<cs.toList.length:=by rw[Array.length_toList];omega
  rw[Array.toList_setIfInBounds,List.take_set,List.drop_set,aI aj,show off+(k+1)=off+k+1 by omega];rw[List.take_add_one,fy ag];rw[List.set_append_right _ _ (by rw[List.length_take];omega)];simp only [List.length_take,Option.toList_some];rw[show off+k-min (off+k) cs.toList.length=0 by omega];simp only [List.set_cons_zero,List.length_cons];rw[show off+k+1+l.length=off+k+(l.length+1) by omega];simp
theorem Vd {k:Nat}:∀(us:List J) (i0:Nat) (cs:Array J),(∀u∈us,u.cells.size=k)->cs.size=(i0+us.length)*k->∃r,Instr.fill (λi=>some (i*k,k)) cs (EX i0 us)=some r/\r.toList=cs.toList.take (i0*k)++us.flatMap (λu=>u.cells.toList)
 |[],i0,cs,_,ai=>⟨cs,rfl,by
  rw[List.flatMap_nil,List.append_nil,List.take_of_length_le];rw[Array.length_toList,ai]
  exact bL _⟩
 |u::us,i0,cs,hu,ai=>by
  have ag:=hu u List.mem_cons_self;simp only [List.length_cons] at ai;have NV:cs.size=i0*k+k+us.length*k:=by
   rw[ai,Nat.add_mul,Nat.add_mul];omega
  unfold EX Instr.fill;dsimp only;rw[aG (by simp only [ag,NV];simp)];have hs:=Vc u.cells.toList (i0*k) 0 cs (by rw[Array.length_toList];omega);rw[Array.length_toList,ag,Nat.add_zero] at hs;generalize gv:u.cells.zipIdx.foldl (λcs (x:J×Nat)=>cs.setIfInBounds (i0*k+x.2) x.1) cs=cs';have Ve:cs'.toList=cs.toList.take (i0*k)++u.cells.toList++cs.toList.drop (i0*k+k):=by
   rw[<-gv,<-hs,<-Array.foldl_toList,Array.toList_zipIdx]
  have hl:cs'.size=(i0+1+us.length)*k:=by
   rw[<-Array.length_toList,Ve];simp only [List.length_append,List.length_take,List.length_drop,Array.length_toList,ag,NV];rw[Nat.add_mul,Nat.add_mul];omega
  obtain⟨r,h1,ae⟩:=Vd us (i0+1) cs' (λx ah=>hu x (List.mem_cons_of_mem _ ah)) hl;refine⟨r,h1,?_⟩;rw[ae,Ve,List.flatMap_cons,<-List.append_assoc];congr 1;have hle:(cs.toList.take (i0*k)++u.cells.toList).length=(i0+1)*k:=by
   simp only [List.length_append,List.length_take,Array.length_toList,ag,NV];rw[Nat.add_mul];omega
  rw[List.take_append_of_le_length (Nat.le_of_eq hle.symm),List.take_of_length_le (Nat.le_of_eq hle)]
theorem Vf (env:List J) (n:Nat):∀l:List J,(fG env n l).length=l.length
 |[]=>rfl
 |_::r=>by unfold fG;rw[List.length_cons,List.length_cons,Vf env n r]
theorem Vg {α:Type} {k:Nat} {enc:α->List J} (ag:∀x,(enc x).length=k):∀(us:List J) (l:List α),us.map Value.cells=l.map (λy=>⟨enc y⟩)->(∀u∈us,u.cells.size=k)/\us.flatMap (λu=>u.cells.toList)=l.flatMap enc/\us.length=l.length
 |[],[],_=>⟨(λu hu=>by cases hu),rfl,rfl⟩
 |u::us,y::l,h=>by
  simp only [List.map_cons,List.cons.injEq] at h;obtain⟨h1,ae,ar⟩:=Vg ag us l h.2;refine⟨λv ax=> ?_,by rw[List.flatMap_cons,List.flatMap_cons,ae,h.1],by rw[List.length_cons,List.length_cons,ar]⟩;rcases List.mem_cons.1 ax with rfl|ax
  ·rw[h.1];simpa using ag y
  ·exact h1 v ax
theorem Vh [a6] {N:Nat} {ds:List Deferred} {φ:bM} {sl:a1} {a:Act} (h:fe N ds φ sl a):∀(ps:List (Nat×Operand)),ev (ps.map λp=>dU .nil sl p.2)=true->ps.map (λp=>a.eval p.2)=e4 (ps.map λp=>dU .nil sl p.2)
 |[],_=>rfl
 |p::r,hp=>by
  have Bk:(aP (dU .nil sl p.2)&&ev (r.map λp=>dU .nil sl p.2))=true:=hp;rw[cV] at Bk;rw[List.map_cons,List.map_cons];show _=aM (dU .nil sl p.2)::e4 (r.map λp=>dU .nil sl p.2);rw[<-Vh h r Bk.2,aD.hY _ Bk.1 (fZ (hE φ) h.get p.2)]
theorem ags [cK] {α:Type} {P:aQ} {N B:Nat} {w0:ao} {Q:Exit->Act->ao->Prop} {M:Mem} {bh:List J} {o:Option bQ} {t e:aK} {k:Nat} {z dV:J} {xs us:List J} {enc:α->List J} {l:List α} {bC:Option Addr->Nat->List J} {dF du:a1} {aT:List bS} {bG:ec}
  (h:NU o=some (t,xs)) (aF:P.underlying t=some (.slice e)) (my:a' P (sizeOf e)=some k) (Ii:a' P (zeroValue e)=some z) (gV:0<k) (kH:k<=1000) (ag:∀x,(enc x).length=k)
  (cY:d' (de o) dF aT=some bG) (dW:gG N dF (iq o) dV=some du) (fq:aP dV=true) (ah:ev xs=true) (ex: @e4 (aY M bh) xs=us) (hu:us.map Value.cells=l.map λy=>⟨enc y⟩)
  (hm:∀M' a c,e8 (aY M bh) (aY M' (bC a c)) bG) (ax:∀M' a c,@aM (aY M' (bC a c)) dV= .slice a l.length c)
  (rest:∀M' a c,dt B M' e k enc (.slice a l.length c) l->gR M M' none->(∀i,some i=ek (.slice a l.length c)->M i=none)->∀aR w,@Here (aY M' (bC a c)) _ N {sl:=du,ms:=[],A:=ff aT} B w0 aR w->wpListIn (Fr none) 0 P (jq o) (dK P (hk o) Q) (jo o) aR w)
  (ak:cK.cU<=aT.length:=by first|exact Nat.zero_le _|exact hQ rfl) (ai:hT (de o).A aT 0:=by exact fR rfl): @eW (aY M bh) _ P N B w0 Q o:=by
 letI:=aY M bh;unfold NU at h;split at h
 ·rename_i op r ops s ks
  refine⟨_,rfl,λa w al=> ?_⟩;split at h
  ·rename_i c7 fi ps ca
   cases ad:EW ps 0&&(Nat.beq ps.length fi&&(Nat.blt 0 fi&&Nat.ble fi 1000)) with
   |false=>rw[ad] at h;cases h
   |true=>
    rw[ad,bs] at h;simp only [cV] at ad;obtain⟨jc,jz,rm,tp⟩:=ad;have jz:=cq jz;have rm:=Nat.blt_eq.mp rm;have tp:=Nat.ble_eq.mp tp;split at h
    ·rename_i h2
     cases h;have fJ:=al;obtain⟨⟨φ,ds,h1,ae,ar,bm,_⟩,cg,cu⟩:=al;unfold wpListIn;rw[nc ae.get h2,aI rfl];obtain⟨cp,c2,c3⟩:=Vg ag us l hu;have hlen:us.length=fi:=by
      rw[<-ex,Lp,List.length_map,List.length_map,jz]
     have mD:ps.map (λp=>a.eval p.2)=us:=(Vh ae ps ah).trans ex;have hw:∀i o,M i=some o->w.heap[i]? =some o:=fJ.ma;obtain⟨row,f1,f2⟩:=Vd us 0 ((Array.range (fi*k)).map (z.cells[· %z.cells.size]!)) cp (by rw[Array.size_map,Array.size_range,Nat.zero_add,hlen]);have f2:row.toList=l.flatMap enc:=by rw[f2,Nat.zero_mul,List.take_zero,List.nil_append,c2]
     let w':ao:={w with heap:=w.heap.push (.cells row e)}
     have IG:0<fi*k:=Nat.mul_pos rm gV;have amJ:fi*k<=1000000:=Nat.le_trans (Nat.mul_le_mul tp kH) ck;have eH:(execOp a.eval op).run P w= .ok (.value (.slice (some ⟨w.heap.size,0,none⟩) fi fi)) w':=by
      unfold execOp;rw[ca];simp only [List.map_toArray];rw[Vb ps 0 jc,mD];have ad:(Instr.buildSlice t fi (EX 0 us).toArray).run P w= .ok (.slice (some ⟨w.heap.size,0,none⟩) fi fi) w':=by
       unfold Instr.buildSlice;refine c6 (run_underlying aF w) ?_;simp only;refine cJ my ?_;rw[aG aj];rw[aG aj];refine cJ Ii ?_;refine cJ (a:=z.cells) rfl ?_;simp only [f1];simp [newRow,newObj,Sem.run,w']
      simp only [Sem.run_bind,ad,Result.andThen_ok];rfl
     have eX:∀c',op.op≠.defer c':=λc' h=>by rw[ca] at h;cases h
     refine⟨λ_ _=>trivial,?_⟩;rw[Oper.semAt_eq _ _ _ eX,eH,Oper.uponIn_value];obtain⟨q1,aB⟩:=oh (B:=B) (M:=M) (w:=w) (w':=w') (T:=none) (dD:=some w.heap.size) hw (λi h=>by cases h) (λi af=> .inr (by cases af;exact bL _)) ⟨rfl,rfl,rfl⟩ (bL _) (by simp [w']) (λi af _=>by
      show (w.heap.push _)[i]? =_
      rw[Array.getElem?_push,aG aj])
     have iH:l.length=fi:=c3.symm.trans hlen;have tP:(l.flatMap enc).length=fi*k:=by rw[p3 ag l,iH]
     have cj:dt B (gd M w' none (some w.heap.size)) e k enc (.slice (some ⟨w.heap.size,0,none⟩) l.length fi) l:=by
      refine .inr ⟨w.heap.size,fi,row,rfl,aj,cu,?_,Nat.le_of_eq iH,by simp only [maxLen];omega,by rw[<-Array.length_toList,f2,tP],by rw[f2,iH];exact List.take_of_length_le (Nat.le_of_eq tP)⟩;unfold gd;rw[aI rfl];show (w.heap.push _)[w.heap.size]? =_;rw[Array.getElem?_push,aI rfl]
     have gH:=Here.turns (vals':=bC (some ⟨w.heap.size,0,none⟩) fi) cY (hm _ _ _) q1 ak ai fJ;letI:=aY (gd M w' none (some w.heap.size)) (bC (some ⟨w.heap.size,0,none⟩) fi);have jP:=Here.put (d:=op.dst) gH (v:=dV) fq dW;rw[ax,iH] at jP;refine rest _ _ _ cj aB (λj hj=> ?_) _ w' jP;rw[mC _ _ aj] at hj;cases hj;exact yh hw (bL _)
    ·cases h
  ·cases h
 ·cases h
end AE
namespace AE
inductive a7 where
 |o (f:fF) (r:J) (m:Nat) (h:List Nat) (k:a7)
 |s (f:fF) (h:List Nat) (cB cW:a7)
 |c (f:FuncId) (args:List J) (r:J) (m:Nat) (k:a7)
 |cs (f:FuncId) (args:List J) (cB cW:a7)
 |bb (x:J) (cB cW:a7)
 |qW (x:J) (cB cW:a7) (m:Nat) (k:a7)
 |ret (v:J)
 |back (vs:List J)
 |loop (vs:List J) (m:Nat) (k:a7)
 |c4 (k:a7)
 |st (t:aK) (p x:J) (k:a7)
 |rT (t:aK) (s:J) (c:List J) (k:a7)
 |qX (t:aK) (s x:J) (k:a7)
 |mk (t:aK) (x:J) (k:a7)
 |rU (c:List J) (m cap:Nat) (k:a7)
 |lt (t:aK) (x:J) (k:a7)
 |nn (t:aK) (x:J) (k:a7)
 |mJ (t:aK) (k:a7)
 |call (f:FuncId) (args:List J) (r:J) (m:Nat) (k:a7)
 |no
 |ou (t:aK) (xs:List J) (k:a7)
 |alt (cB cW:a7)
 |qO (t:aK) (s:J) (c:List J) (k:a7)
 |nO (t:aK) (x:J)
 |yw (t:aK) (k:a7)
 |yx (t:aK) (m i x:J) (k:a7)
abbrev a7.px (x:J) (k:a7):a7:= .bb x k .no
abbrev a7.NW (x:J) (k:a7):a7:= .bb x .no k
inductive h' where
 |k (x:kd) (ks:List fu)
 |ops (r:List Oper) (ops:Array Oper) (ks:List fu)
 |any (bk:Nat) (os:Array Oper) (listed:Array Bool) (ks:List fu)
abbrev i':=List (fF×J)
abbrev jg:=List (FuncId×List J×J)
def agt (P:aQ) [Lib P] (F:i') (T:jg) (N bk d:Nat) (ks:List fu) (x:kd) (s:cC):Option bQ:= @resume P _ ⟨F⟩ (@tI P _ ⟨F⟩ ⟨T⟩ .nil bk d) N bk ks x s
def h'.run (P:aQ) [Lib P] (F:i') (T:jg) (N d:Nat):h'->cC->Option bQ
 | .k x ks,s=>agt P F T N 1000 d ks x s
 | .ops r os ks,s=>zW P F T N 1000 d r os ks s
 | .any ..,_=>none
def h'.jR (P:aQ) (Q:Exit->Act->ao->Prop):h'->Act->ao->Prop
 | .k x ks,a,w=>dK P ks Q x.exit' a w
 | .ops r os ks,a,w=>wpListIn (Fr none) 0 P os (dK P ks Q) r a w
 | .any bk os listed ks,a,w=>wpAnyIn (Fr none) 0 P .any os (dK P ks Q) bk listed a w
structure h8 where
 sl:a1
 aT:List bS
 n:Nat
 m:Nat
 ks:List fu
structure yy where
 iT:List FuncId:=[]
 marks:List aK:=[]
 cells:List (Nat×Nat×Nat):=[]
 NY:List (Nat×Nat):=[]
 EY:List (Nat×List Nat):=[]
 p6:List (Nat×Bool):=[]
 d:Nat:=0
structure hJ extends yy where
 N:Nat
 fn:Func
def EZ (l:List aK):i':=l.map λ(t:Nat)=>bif Nat.beq t 1000000 then (.e5 (.bool true),.bool true) else (.e5 (.int .i64 (t:Int)),.int .i64 (t:Int))
def fC:Nat->Nat->List J
 |0,_=>[]
 |m+1,n=>aq n::fC m (n+1)
def E0 (P:aQ) (t:aK) (n:Nat):Option (J×Nat):=
 match a' P (isAgg t) with
 |some true=>match a' P (sizeOf t) with
  |some m=>some (.agg ⟨fC m n⟩,m)
  |none=>none
 |_=>some (aq n,1)
def Vi (P:aQ):List aK->Nat->Option (List J×Nat)
 |[],_=>some ([],0)
 |t::r,n=>match E0 P t n with
  |some (v,m)=>match Vi P r (n+m) with
   |some (vs,m')=>some (v::vs,m+m')
   |none=>none
  |none=>none
def agu (P:aQ) (t:aK) (n:Nat):Option (J×Nat):=
 match P.underlying t with
 |some (.tuple cM)=>match Vi P cM.toList n with
  |some (vs,m)=>some (.tuple ⟨vs⟩,m)
  |none=>none
 |_=>E0 P t n
def E1 (P:aQ) (t:aK):Bool:=match P.underlying t with|some .bool=>true|_=>false
def NZ (ops:Array Oper) (d:Option Tmp):Bool:=
 match d with
 |none=>false
 |some d=>ops.any λo=>(match o.guard with
   |some (j,_)=>match ops[j]? with
    |some o'=>match o'.dst with
     |some t=>Nat.beq t d
     |none=>false
    |none=>false
   |none=>false)||(match o.op with
   | .pick (.tmp t) _ _=>Nat.beq t d
   |_=>false)
def agv:BinOp->Bool
 | .eql| .neq| .lss| .leq| .gtr| .geq=>true
 |_=>false
def Vj (P:aQ) (t:aK):aK:=match P.underlying t with
 |some (.array _ e)=>e
 |some (.slice e)=>e
 |some (.map _ e)=>e
 |_=>0
def Vk (P:aQ) (n:Nat):fF->Option (J×Nat×Bool)
 | .bin op _ _ _=>some (aq n,1,agv op)
 | .un op _=>some (aq n,1,decide (op= .not))
 | .bf t _=>(E0 P t n).map λx=>(x.1,x.2,E1 P t)
 | .dP t _ _=>match P.underlying t with
   |some (.array _ e)=>(E0 P e n).map λx=>(x.1,x.2,E1 P e)
   |_=>some (aq n,1,false)
 | .l7 t _ _ ok=>(E0 P (Vj P t) n).map λx=>bif ok then (.tuple #[x.1,aq (n+x.2)],x.2+1,false) else (x.1,x.2,E1 P (Vj P t))
 | .e5 _=>none
 |_=>some (aq n,1,false)
def Vl (P:aQ):fF->List Nat
 | .b7 t _ f=>match (P.fieldsOf t)[f]? with
   |some gX=>[gX.offset,gX.type,(a' P (sizeOf gX.type)).getD 0]
   |none=>[]
 | .cm t _ _=>match P.underlying t with
   |some (.array n e)=>[1,n,e,(a' P (sizeOf e)).getD 0]
   |some (.slice e)=>[0,e,(a' P (sizeOf e)).getD 0]
   |_=>[]
 | .bf t _=>[(a' P (sizeOf t)).getD 0]
 | .dP t _ _=>match P.underlying t with
   |some (.array n e)=>[1,n,e,(a' P (sizeOf e)).getD 0]
   |some .string=>[2]
   |_=>[]
 | .k3 t _ _ _ _=>match P.underlying t with
   |some (.array n e)=>[1,n,e,(a' P (sizeOf e)).getD 0]
   |some (.slice e)=>[0,e,(a' P (sizeOf e)).getD 0]
   |some .string=>[2]
   |_=>[]
 | .len cM _ _=>match P.underlying (cM.getD 0 0) with
   |some (.slice e)=>[0,e]
   |some .string=>[2]
   |_=>[]
 |_=>[]
def qY (P:aQ) (ops:Array Oper) (o:Oper) (sl:a1) (n:Nat):Option (fF×J×Nat×Bool):=
 match pU (dU .nil sl) o with
 |some f=>bif na f&&uc n f then match Vk P n f with
   |some (r,m,b)=>some (f,r,m,b&&NZ ops o.dst)
   |none=>none
  else none
 |none=>none
where
 Ck (n:Nat):Option J->Bool
  |none=>true
  |some v=>jT n v
 uc (n:Nat):fF->Bool
  | .bin _ _ x y| .cm _ x y| .dP _ x y| .dT _ _ x y| .kJ _ _ x y| .l7 _ x y _=>jT n x&&jT n y
  | .un _ x| .e5 x| .conv _ _ x| .bf _ x| .b7 _ x _| .dp x| .len _ _ x=>jT n x
  | .k3 _ x gj af dT=>jT n x&&(Ck n gj&&(Ck n af&&Ck n dT))
def N0 (P:aQ) [Lib P] (o:Option bQ) (ty:aK) (n:Nat):Option (FuncId×List J×J×Nat):=
 match tO P o with
 |some (f,args,_)=>bif ev args&&nN n args then match agu P ty n with
   |some (r,m)=>some (f,args,r,m)
   |none=>none
  else none
 |none=>none
def bW.I3 (f:J->J):bW J->bW J
 | .nil=> .nil
 | .node v l r=> .node (v.map f) (l.I3 f) (r.I3 f)
def np (n:Nat) (bG:ec):Prop:=∀p∈bG,p.1=p.2/\jT n p.1=true
mutual
def okV (n m:Nat):J->Bool
 | .pointer (some ⟨b,_,none⟩)=>Nat.blt b n
 | .slice (some ⟨b,_,none⟩) _ _=>Nat.blt b n
 | .agg ⟨l⟩=>As n m l
 | .func (.func _) ⟨l⟩ ⟨k⟩=>As n m l&&As n m k
 | .func (.yield b) ⟨[]⟩ ⟨[]⟩=>Nat.blt b n
 |v=>wx v||(aP v&&jT m v)
def As (n m:Nat):List J->Bool
 |[]=>true
 |v::r=>okV n m v&&As n m r
end
def lZ (n m:Nat):bW J->bW J
 | .nil=> .nil
 | .node none l r=> .node none (lZ n m l) (lZ n m r)
 | .node (some v) l r=>bif okV n m v then .node (some v) (lZ n m l) (lZ n m r) else .node none (lZ n m l) (lZ n m r)
def Vm (A:aW) (i:Nat):Option bS:=match A.bl.get i with
 |some k=>some ⟨k.obj,k.ty,k.ei⟩
 |none=>none
def rV (A:aW):Nat->Nat->List bS
 |0,_=>[]
 |m+1,i=>match Vm A i with
  |some b=>b::rV A m (i+1)
  |none=>[]
def yz (s:cC):List bS:=rV s.A s.A.n 0
def yA (m:Nat) (s:cC):a1×List bS:=(lZ (yz s).length m s.sl,yz s)
def N1 (n:Nat) (bG:ec):Bool:=bG.all λp=>e3 p.1 p.2&&jT n p.1
def N2 (n m:Nat):pJ->Bool
 | .cells c=>As n m c
 | .fz .deferred=>true
 | .fz .gone=>true
 |_=>false
def Cl (n m:Nat):List bS->Bool
 |[]=>true
 |b::r=>N2 n m b.obj&&Cl n m r
def qZ (m:Nat) (aT:List bS):Bool:=zR aT&&Cl aT.length m aT
def I4 (A:aW):List bS->Nat->Bool
 |[],_=>true
 |_::r,i=>(match A.bl.get i with|some k=>Nat.beq k.cD i&& !k.ro|none=>false)&&I4 A r (i+1)
def yB (s:cC):Bool:=(match s.ms with|[]=>true|_=>false)&&I4 s.A (yz s) 0
def yC (n:Nat) (s:cC) (sl:a1) (aT:List bS):Prop:=∃bG,d' s sl aT=some bG/\np n bG/\p2 aT=true
mutual
def N3 (v u:J):J->J
 | .agg ⟨l⟩=> .agg ⟨E2 v u l⟩
 | .func (.func f) ⟨a⟩ ⟨b⟩=> .func (.func f) ⟨E2 v u a⟩ ⟨E2 v u b⟩
 |x=>bif e3 x v then u else x
def E2 (v u:J):List J->List J
 |[]=>[]
 |x::r=>N3 v u x::E2 v u r
end
def agw (v u:J):pJ->pJ
 | .cells c=> .cells (E2 v u c)
 |x=>x
def agx (v u:J) (b:bS):bS:={b with obj:=agw v u b.obj}
def Vn (n:Nat) (v u:J) (bG:ec):Bool:=bG.all λp=>(e3 p.1 p.2&&jT n p.1)||(e3 p.1 v&&e3 p.2 u)
def sP (n:Nat) (v u:J) (s:cC) (sl:a1) (aT:List bS):Bool:=(match d' s sl aT with|some bG=>Vn n v u bG|none=>false)&&p2 aT
def agy (t:Nat) (ops:Array Oper):Bool:=ops.any λo=>match o.dst with|some d=>Nat.beq d t|none=>false
def wP (t:Nat):Code->Bool
 | .region _ ops _=>agy t ops
 | .seq a b=>wP t a||wP t b
 | .cond _ a b=>wP t a||wP t b
 | .block _ b=>wP t b
 | .loop b=>wP t b
 | .rangeFunc _ ps a b=>ps.any (λd=>Nat.beq d t)||wP t a||wP t b
 |_=>false
mutual
def Vo (n:Nat):J->Option (J×List J)
 | .agg ⟨l⟩=>match Vp n l with
   |some (l',vs)=>some (.agg ⟨l'⟩,vs)
   |none=>none
 |v=>bif aP v then some (aq n,[v]) else none
def Vp (n:Nat):List J->Option (List J×List J)
 |[]=>some ([],[])
 |v::r=>match Vo n v with
  |some (aC,vs)=>match Vp (n+vs.length) r with
   |some (dN,us)=>some (aC::dN,vs++us)
   |none=>none
  |none=>none
end
def I5 (c:Code):Nat->Nat->bW J->Nat->Option (bW J×List J)
 |_,_,.nil,_=>some (.nil,[])
 |pos,wQ,.node v l r,n=>
  match (match v with
   |none=>some (none,[])
   |some x=>bif wP pos c then (match Vo n x with|some (x',vs)=>some (some x',vs)|none=>some (none,[])) else some (some x,[])) with
  |none=>none
  |some (aC,vs)=>match I5 c (pos+wQ) (2*wQ) l (n+vs.length) with
   |none=>none
   |some (l',us)=>match I5 c (pos+2*wQ) (2*wQ) r (n+vs.length+us.length) with
    |none=>none
    |some (dN,k6)=>some (.node aC l' dN,vs++us++k6)
def N4 (id:Nat) (cells:List (Nat×Nat×Nat)) (b:Nat):Nat->Nat->List J->List J×List J
 |_,_,[]=>([],[])
 |i,n,v::r=>bif cells.any (λp=>Nat.beq p.1 id&&(Nat.beq p.2.1 b&&Nat.beq p.2.2 i)) then
    let q:=N4 id cells b (i+1) (n+1) r
    (aq n::q.1,v::q.2)
  else
   let q:=N4 id cells b (i+1) n r
   (v::q.1,q.2)
def E3 (id:Nat) (cells:List (Nat×Nat×Nat)):Nat->Nat->List bS->List bS×List J
 |_,_,[]=>([],[])
 |b,n,k::r=>match k.obj with
  | .cells c=>
    let q:=N4 id cells b 0 n c
    let aB:=E3 id cells (b+1) (n+q.2.length) r
    ({k with obj:= .cells q.1}::aB.1,q.2++aB.2)
  |_=>let aB:=E3 id cells (b+1) n r
   (k::aB.1,aB.2)
def N5:List fu->Nat
 | .tN id::_=>id
 |_::ks=>N5 ks
 |[]=>0
def agz (cf:hJ) (body:Code) (ks:List fu) (s:cC) (n:Nat):Option (a1×List bS×List J):=
 let q:=yA n s
 match I5 body 0 1 q.1 n with
 |none=>none
 |some (sl,vs)=>let aB:=E3 (N5 ks) cf.cells 0 (n+vs.length) q.2
  some (sl,aB.1,vs++aB.2)
def Vq (n:Nat) (vs:List J) (p:J×J):Bool:=(e3 p.1 p.2&&jT n p.1)||(match p.2 with
 | .complex .f64 k 0=>Nat.ble n k&&(Nat.blt k d_&&match vs[k-n]? with|some v=>e3 v p.1|none=>false)
 |_=>false)
def Cm (n:Nat) (vs:List J) (bG:ec):Bool:=bG.all (Vq n vs)
def Vr (k:Nat):ec->Option J
 |[]=>none
 |p::r=>bif e3 p.2 (aq k) then some p.1 else Vr k r
def I6 (bG:ec):Nat->Nat->List J
 |0,_=>[]
 |m+1,n=>(match Vr n bG with|some v=>v|none=>aq n)::I6 bG m (n+1)
def elemOf (P:aQ) (t:aK):Option aK:=match P.underlying t with|some (.slice e)=>some e|_=>none
def wR:Option bQ->aK
 |some (.oper o _ _ _ _)=>match o.op with
  | .call c=>c.argTypes.getD 0 0
  |_=>0
 |_=>0
def agA:Option bQ->aK
 |some (.oper o _ _ _ _)=>o.type
 |_=>0
def q0 (N n:Nat) (s:cC) (dst:Option Tmp) (r:J):Option (a1×List bS):=
 let q:=yA n s
 bif Nat.blt n d_&&(yB s&&qZ n q.2) then match gG N q.1 dst r with
  |some sl=>some (sl,q.2)
  |none=>none
 else none
def Vs (o:Option bQ):h':= .ops (jo o) (jq o) (hk o)
def Vt:Option bQ->Option J
 |some (.oper op _ os s _)=>match op.guard with
  |some (j,_)=>match os[j]? with
   |some o'=>match o'.dst with
    |some t=>match s.sl.get t with
     |some (.complex .f64 k 0)=>some (aq k)
     |_=>none
    |none=>none
   |none=>none
  |none=>match op.op with
   | .pick c _ _=>match dU .nil s.sl c with
     | .complex .f64 k 0=>some (aq k)
     |_=>none
   |_=>none
 |_=>none
abbrev jh:=(a7->a7)×a1×List bS×Nat
def N6 (cf:hJ) (n:Nat) (o:Option bQ):Option jh:=match oQ o with
 |some (t,p,x)=>bif aP p&&aP x then (q0 cf.N n (de o) (iq o) undef).map λq=>(a7.st t p x,q.1,q.2,0) else none
 |none=>none
def N7 (P:aQ) (t:aK):Nat:=match elemOf P t with
 |some e=>match a' P (sizeOf e) with
  |some k=>k
  |none=>0
 |none=>0
def N8 (P:aQ) (cf:hJ) (n:Nat) (o:Option bQ):Option jh:=match rJ (wR o) o with
 |some (v,x)=>bif aP v then match HS (de o).A (N7 P (wR o)) x with
   |some c=>bif ev c then (q0 cf.N n (de o) (iq o) (aq n)).map λq=>(a7.rT (wR o) v c,q.1,q.2,1) else none
   |none=>none
  else none
 |none=>none
def N9 (cf:hJ) (n:Nat) (o:Option bQ):Option jh:=match rJ (wR o) o with
 |some (v,x)=>bif aP v&&aP x then (q0 cf.N n (de o) (iq o) (aq n)).map λq=>(a7.qX (wR o) v x,q.1,q.2,1) else none
 |none=>none
def N' (cf:hJ) (n:Nat) (o:Option bQ):Option jh:=match Ik o with
 |some (t,x)=>bif aP x then (q0 cf.N n (de o) (iq o) (aq n)).map λq=>(a7.mk t x,q.1,q.2,1) else none
 |none=>none
def N_ (cf:hJ) (n:Nat) (o:Option bQ):Option jh:=match M8 o with
 |some (t,x)=>bif aP x then (q0 cf.N n (de o) (iq o) (aq n)).map λq=>(a7.lt t x,q.1,q.2,1) else none
 |none=>none
def Oa (cf:hJ) (n:Nat) (o:Option bQ):Option jh:=match NU o with
 |some (t,xs)=>bif ev xs then (q0 cf.N n (de o) (iq o) (aq n)).map λq=>(a7.ou t xs,q.1,q.2,1) else none
 |none=>none
def agB:Option bQ->aK
 |some (.oper o _ _ _ _)=>match o.op with
  | .call c=>c.argTypes.getD 1 0
  |_=>0
 |_=>0
def Ob (cf:hJ) (n:Nat) (o:Option bQ):Option jh:=match Ah (wR o) (agB o) o with
 |some (v,x)=>bif aP v then match HS (de o).A 1 x with
   |some c=>bif ev c then (q0 cf.N n (de o) (iq o) (.int .i64 c.length)).map λq=>(a7.qO (wR o) v c,q.1,q.2,0) else none
   |none=>none
  else none
 |none=>none
def Oc (cf:hJ) (n:Nat) (o:Option bQ):Option jh:=match H8 o with
 |some (t,x)=>bif aP x then (q0 cf.N n (de o) (iq o) (aq n)).map λq=>(a7.nn t x,q.1,q.2,1) else none
 |none=>none
def Od (cf:hJ) (n:Nat) (o:Option bQ):Option jh:=match MR o with
 |some t=>(q0 cf.N n (de o) (iq o) (aq n)).map λq=>(a7.mJ t,q.1,q.2,1)
 |none=>none
def Oe (cf:hJ) (n:Nat) (o:Option bQ):Option jh:=match B2 o with
 |some t=>(q0 cf.N n (de o) (iq o) (aq n)).map λq=>(a7.yw t,q.1,q.2,1)
 |none=>none
def Og (cf:hJ) (n:Nat) (o:Option bQ):Option jh:=match B3 o with
 |some (t,m,i,x)=>bif aP m&&(aP i&&aP x) then (q0 cf.N n (de o) (iq o) undef).map λq=>(a7.yx t m i x,q.1,q.2,0) else none
 |none=>none
def Oh (P:aQ) [Lib P] (cf:hJ) (n:Nat) (o:Option bQ):Option jh:=match N0 P o (agA o) n with
 |some (f,args,r,m)=>bif aP r&&(nN n args&&ev args) then (q0 cf.N n (lS P o) (iq o) r).map λq=>(a7.call f args r m,q.1,q.2,m) else none
 |none=>none
def agC:Option bQ->Option (Nat×Nat)
 |some (.oper op _ _ s _)=>match op.op with
  | .call c=>match c.callee with
    | .value _=>c.args.toList.findSome? λx=>match x with
      | .tmp t=>match s.sl.get t with
        |some (.slice (some ⟨b,0,none⟩) _ _)=>some (t,b)
        |_=>none
      |_=>none
    |_=>none
  |_=>none
 |_=>none
def Oi (n:Nat) (o:Option bQ):Option jh:=match agC o with
 |some (t,b)=>match Ey o b t with
  |some (cs,m,c)=>match d' (de o) (lZ (rV (de o).A b 0).length n (de o).sl) (rV (de o).A b 0) with
   |some bG=>bif N1 n bG&&(p2 (rV (de o).A b 0)&&(ev cs&&(Nat.blt n d_&&(Nat.ble (rV (de o).A b 0).length b&&(Nat.blt 0 m&&Nat.ble m c))))) then
     (bW.set (aq n) depth (lZ (rV (de o).A b 0).length n (de o).sl) t).map λsl=>(a7.rU cs m c,sl,rV (de o).A b 0,1)
    else none
   |none=>none
  |none=>none
 |none=>none
def rW (a b:Option jh):Option jh:=match a with
 |some x=>some x
 |none=>b
def I7 (P:aQ) [Lib P] (cf:hJ) (n:Nat) (o:Option bQ):Option jh:=
 rW (N6 cf n o) (rW (N8 P cf n o) (rW (N9 cf n o) (rW (N' cf n o) (rW (N_ cf n o) (rW (Oa cf n o) (rW (Ob cf n o) (rW (Oc cf n o) (rW (Od cf n o) (rW (Oe cf n o) (rW (Og cf n o) (Oh P cf n o)))))))))))
abbrev iw:=Nat->List h8->h'->Nat->a1->List bS->i'->jg->Option bQ->Option a7
def Oj (P:aQ) [Lib P] (cf:hJ) (n:Nat) (q:Option bQ):Option (Sum (fF×J×Nat×Bool) (FuncId×List J×J×Nat×Bool)):=
 match q with
 |some (.oper op _ os s _)=>match pW os op s.sl with
  |some true=>match qY P os op s.sl n with
   |some x=>some (.inl x)
   |none=>match N0 P q op.type n with
    |some (f,args,r,m)=>bif cf.iT.contains f then none else some (.inr (f,args,r,m,E1 P op.type&&NZ os op.dst))
    |none=>none
  |_=>none
 |_=>none
def Vu (P:aQ) [Lib P] (cf:hJ) (F:i') (T:jg):Option bQ->Option bQ
 |some (.oper op r os s ks)=>zW P F T cf.N 1000 cf.d (op::r) os ks s
 |_=>none
section
variable {eC:Type}
def ov (n:Nat) (k:Nat->eC):eC:=match n with
 |0=>k 0
 |m+1=>k (m+1)
def py {α:Type} (f:α->(α->eC)->eC):List α->(List α->eC)->eC
 |[],k=>k []
 |v::l,k=>f v λaC=>py f l λl'=>k (aC::l')
def E4 {α:Type} (f:α->(α->eC)->eC):Option α->(Option α->eC)->eC
 |none,k=>k none
 |some a,k=>f a λaR=>k (some aR)
def Ok (a:Addr) (k:Addr->eC):eC:=match a with
 |⟨b,o,m⟩=>ov b λb'=>ov o λo'=>E4 (λx k=>k x) m λm'=>k ⟨b',o',m'⟩
def Vv (i:Int) (k:Int->eC):eC:=match i with
 | .ofNat n=>ov n λfi=>k (.ofNat fi)
 | .negSucc n=>ov n λfi=>k (.negSucc fi)
def I8 (b:Bool) (k:Bool->eC):eC:=match b with
 |true=>k true
 |false=>k false
def At:Nat->J->(J->eC)->eC
 |0=>λv k=>k v
 |d+1=>λv k=>match v with
  | .bool b=>I8 b λb'=>k (.bool b')
  | .agg ⟨l⟩=>py (At d) l λl'=>k (.agg ⟨l'⟩)
  | .complex t x y=>ov x λx'=>ov y λgM=>k (.complex t x' gM)
  | .int t i=>Vv i λqB=>k (.int t qB)
  | .pointer p=>E4 Ok p λp'=>k (.pointer p')
  | .slice p n c=>E4 Ok p λp'=>ov n λfi=>ov c λc'=>k (.slice p' fi c')
  |v=>k v
def I9:bW J->(bW J->eC)->eC
 | .nil,k=>k .nil
 | .node none l r,k=>I9 l λl'=>I9 r λdN=>k (.node none l' dN)
 | .node (some v) l r,k=>At 3 v λaC=>I9 l λl'=>I9 r λdN=>k (.node (some aC) l' dN)
def Vw (b:bS) (k:bS->eC):eC:=match b with
 |⟨.cells l,t,m⟩=>ov t λc7=>ov m λm'=>py (At 3) l λl'=>k ⟨.cells l',c7,m'⟩
 |⟨.map es c,t,m⟩=>k ⟨.map es c,t,m⟩
 |⟨.fz x,t,m⟩=>k ⟨.fz x,t,m⟩
def Cn (x:fu) (k:fu->eC):eC:=match x with
 | .lL y=>k (.lL y)
 | .tN i=>k (.tN i)
 | .rE c m=>ov m λm'=>k (.rE c m')
def I' {α:Type} (f:α->(α->eC)->eC) (a:Array α) (k:Array α->eC):eC:=match a with
 |⟨l⟩=>py f l λl'=>k ⟨l'⟩
def Vx:h'->(h'->eC)->eC
 | .k x ks,k=>py Cn ks λAu=>k (.k x Au)
 | .ops r os ks,k=>py (λx k=>k x) r λdN=>I' (λx k=>k x) os λagD=>py Cn ks λAu=>k (.ops dN agD Au)
 | .any f os l ks,k=>ov f λiJ=>I' I8 l λl'=>py Cn ks λAu=>k (.any iJ os l' Au)
theorem rX (n:Nat) (k:Nat->eC):ov n k=k n:=by cases n<;>rfl
theorem wS {α:Type} {f:α->(α->eC)->eC} (aO:∀v k,f v k=k v):∀(l:List α) (k:List α->eC),py f l k=k l
 |[],k=>rfl
 |v::l,k=>by
  show f v (λaC=>py f l λl'=>k (aC::l'))=_;rw[aO,wS aO l]
theorem Ol {α:Type} {f:α->(α->eC)->eC} (aO:∀v k,f v k=k v) (o:Option α) (k:Option α->eC):E4 f o k=k o:=by
 cases o with
 |none=>rfl
 |some a=>exact aO a λaR=>k (some aR)
theorem Vy (a:Addr) (k:Addr->eC):Ok a k=k a:=by
 obtain⟨b,o,m⟩:=a;show ov b (λb'=>ov o λo'=>E4 (λx k=>k x) m λm'=>k ⟨b',o',m'⟩)=_;rw[rX,rX,Ol λ_ _=>rfl]
theorem agE (i:Int) (k:Int->eC):Vv i k=k i:=by
 cases i with
 |ofNat n=>exact rX n λfi=>k (.ofNat fi)
 |negSucc n=>exact rX n λfi=>k (.negSucc fi)
theorem Vz (b:Bool) (k:Bool->eC):I8 b k=k b:=by cases b<;>rfl
theorem Om:∀(d:Nat) (v:J) (k:J->eC),At d v k=k v
 |0,v,k=>rfl
 |d+1,v,k=>by
  unfold At;split
  ·rw[Vz]
  ·rw[wS (Om d)]
  ·rw[rX,rX]
  ·rw[agE]
  ·rw[Ol Vy]
  ·rw[Ol Vy,rX,rX]
  ·rfl
theorem agF (b:bS) (k:bS->eC):Vw b k=k b:=by
 obtain⟨o,t,m⟩:=b;cases o with
 |cells l=>
  show ov t (λc7=>ov m λm'=>py (At 3) l λl'=>k ⟨.cells l',c7,m'⟩)=_;rw[rX,rX,wS (Om 3)]
 |map es c=>rfl
 |fz x=>rfl
theorem On (x:fu) (k:fu->eC):Cn x k=k x:=by
 cases x with
 |rE c m=>exact rX m λm'=>k (.rE c m')
 |_=>rfl
theorem VA {α:Type} {f:α->(α->eC)->eC} (aO:∀v k,f v k=k v) (a:Array α) (k:Array α->eC):I' f a k=k a:=by
 obtain⟨l⟩:=a;show py f l (λl'=>k ⟨l'⟩)=_;rw[wS aO]
theorem agG (p:h') (k:h'->eC):Vx p k=k p:=by
 cases p with
 |k x ks=>
  show py Cn ks _=_;rw[wS On]
 |ops r os ks=>
  show py (λx k=>k x) r _=_;rw[wS (λ_ _=>rfl),VA (λ_ _=>rfl),wS On]
 |any f os l ks=>
  refine(rX f λiJ=>I' I8 l λl'=>py Cn ks λAu=>k (.any iJ os l' Au)).trans ?_;rw[VA Vz,wS On]
end
section
variable {eC:Type}
def ud (n m:Nat):bW J->(bW J->eC)->eC
 | .nil,k=>k .nil
 | .node none l r,k=>ud n m l λl'=>ud n m r λdN=>k (.node none l' dN)
 | .node (some v) l r,k=>bif okV n m v then At 3 v λaC=>ud n m l λl'=>ud n m r λdN=>k (.node (some aC) l' dN) else ud n m l λl'=>ud n m r λdN=>k (.node none l' dN)
theorem Av (n m:Nat):∀(t:bW J) (k:bW J->eC),ud n m t k=k (lZ n m t)
 | .nil,k=>rfl
 | .node none l r,k=>by
   show ud n m l (λl'=>ud n m r λdN=>k (.node none l' dN))=_;rw[Av n m l,Av n m r];rfl
 | .node (some v) l r,k=>by
   unfold ud lZ;cases okV n m v with
   |true=>rw[bs,bs,Om,Av n m l,Av n m r]
   |false=>rw[dZ,dZ,Av n m l,Av n m r]
end
def E5 (G:iw) (n:Nat) (cs:List h8) (dC:h') (F:i') (T:jg) (sl:a1) (aT:List bS) (go:h'->a1->List bS->Option bQ):Option a7:=
 ov n λn=>py Vw aT λaT=>bif qZ n aT then Vx dC λdC=>ud aT.length n sl λsl=>G n cs dC n sl aT F T (go dC sl aT) else none
theorem agH (G:iw) (n:Nat) (cs:List h8) (dC:h') (F:i') (T:jg) (sl:a1) (aT:List bS) (go:h'->a1->List bS->Option bQ):E5 G n cs dC F T sl aT go=bif qZ n aT then G n cs dC n (lZ aT.length n sl) aT F T (go dC (lZ aT.length n sl) aT) else none:=by
 unfold E5;rw[rX,wS agF,agG,Av]
def qg (P:aQ) [Lib P] (cf:hJ) (G:iw) (n:Nat) (cs:List h8) (dC:h') (sl:a1) (aT:List bS):Option a7:=
 E5 G n cs dC (EZ cf.marks) [] sl aT λdC sl aT=>dC.run P (EZ cf.marks) [] cf.N cf.d (eg sl aT)
def I_ (P:aQ) [Lib P] (cf:hJ) (G:iw) (n:Nat) (cs:List h8) (dC:h') (s:cC):Option a7:=bif yB s then qg P cf G n cs dC s.sl (yz s) else none
def two (a b:Option a7) (f:a7->a7->a7):Option a7:=match a with
 |some x=>match b with
  |some y=>some (f x y)
  |none=>none
 |none=>none
def E6 (P:aQ) (G:iw) (n:Nat) (cs:List h8) (dC:h') (cU:Nat) (sl:a1) (aT:List bS) (F:i') (T:jg) (go:i'->Option bQ):fF×J×Nat×Bool->Option a7
 |(f,r,m,b)=>bif qY.uc n f then
    bif b then two (G n cs dC cU sl aT (F++[(f,.bool true)]) T (go [(f,.bool true)])) (G n cs dC cU sl aT (F++[(f,.bool false)]) T (go [(f,.bool false)])) (a7.s f (Vl P f))
    else bif jT (n+m) r then (G (n+m) cs dC cU sl aT (F++[(f,r)]) T (go [(f,r)])).map (a7.o f r m (Vl P f)) else none
  else none
def E7 (G:iw) (n:Nat) (cs:List h8) (dC:h') (cU:Nat) (sl:a1) (aT:List bS) (F:i') (T:jg) (go:jg->Option bQ):FuncId×List J×J×Nat×Bool->Option a7
 |(f,args,r,m,b)=>bif nN n args&&ev args then
    bif b then two (G n cs dC cU sl aT F (T++[(f,args,.bool true)]) (go [(f,args,.bool true)])) (G n cs dC cU sl aT F (T++[(f,args,.bool false)]) (go [(f,args,.bool false)])) (a7.cs f args)
    else bif jT (n+m) r&&aP r then (G (n+m) cs dC cU sl aT F (T++[(f,args,r)]) (go [(f,args,r)])).map (a7.c f args r m) else none
  else none
def Oo (P:aQ) [Lib P] (cf:hJ) (G:iw) (n:Nat) (cs:List h8) (x:kd) (s:cC):Option a7:=match cs with
 |[]=>match kL P cf.fn (some (.done x s)) with
  |some v=>some (.ret v)
  |none=>match endCell cf.fn (some (.done x s)) with
   |some (t,x)=>bif aP x then some (.nO t x) else none
   |none=>none
 |c::cs'=>match x with
  | .normal=>match d' s c.sl c.aT with
    |some bG=>bif Cm c.n (I6 bG c.m c.n) bG&&p2 c.aT then some (.back (I6 bG c.m c.n)) else none
    |none=>none
  |x=>(I_ P cf G n cs' (.k x c.ks) s).map a7.c4
def agI (cf:hJ) (ks:List fu):Option Nat:=(cf.NY.find? λp=>Nat.beq p.1 (N5 ks)).map (·.2)
def Oq (P:aQ) [Lib P] (cf:hJ) (G:iw) (n:Nat) (cs:List h8) (body:Code) (s:cC) (ks:List fu):Option a7:=
 match agI cf ks with
 |some m=>I_ P cf G n cs (.k .normal (.rE body m::ks)) s
 |none=>match agz cf body ks s n with
 |some (oX,nP,vs)=>match d' s oX nP with
  |some bG=>bif Cm n vs bG&&p2 nP then (qg P cf G (n+vs.length) (⟨oX,nP,n,vs.length,ks⟩::cs) (.k .normal [.lL body]) oX nP).map (a7.loop vs vs.length) else none
  |none=>none
 |none=>none
def VB (n:Nat):List Nat->a1->Option a1
 |[],sl=>some sl
 |t::r,sl=>match bW.set (aq n) depth sl t with
  |some dJ=>VB (n+1) r dJ
  |none=>none
def agJ (cf:hJ) (c:Operand) (x y:Code) (s:cC) (n:Nat):Option (a1×List bS×Nat):=match c with
 | .tmp t=>match cf.EY.find? λp=>Nat.beq p.1 t with
   |some (_,ext)=>match I5 (.seq x y) 0 1 ((yA n s).1.I3 (N3 (dU .nil s.sl c) cL)) n with
    |none=>none
    |some (sl,vs)=>match VB (n+vs.length) ext sl with
     |none=>none
     |some dF=>some (dF,(E3 (1000+t) cf.cells 0 (n+vs.length+ext.length) (yA n s).2).1,vs.length+ext.length+(E3 (1000+t) cf.cells 0 (n+vs.length+ext.length) (yA n s).2).2.length)
   |none=>none
 |_=>none
def jF (n:Nat) (v u:J) (s:cC):a1×List bS:=((yA n s).1.I3 (N3 v u),(yA n s).2.map (agx v u))
def Ot (a b:List Nat):Bool:=decide (a=b)
def iU:a7->a7->Bool
 | .o f r m h k,.o iJ dN m' gu k'=>Bv f iJ&&(e3 r dN&&(Nat.beq m m'&&(Ot h gu&&iU k k')))
 | .s f h cB cW,.s iJ gu tm wT=>Bv f iJ&&(Ot h gu&&(iU cB tm&&iU cW wT))
 | .c f a r m k,.c iJ aR dN m' k'=>Nat.beq f iJ&&(mZ a aR&&(e3 r dN&&(Nat.beq m m'&&iU k k')))
 | .cs f a cB cW,.cs iJ aR tm wT=>Nat.beq f iJ&&(mZ a aR&&(iU cB tm&&iU cW wT))
 | .bb x cB cW,.bb x' tm wT=>e3 x x'&&(iU cB tm&&iU cW wT)
 | .qW x cB cW m k,.qW x' tm wT m' k'=>e3 x x'&&(iU cB tm&&(iU cW wT&&(Nat.beq m m'&&iU k k')))
 | .no,.no=>true
 | .ou t xs k,.ou c7 xs' k'=>Nat.beq t c7&&(mZ xs xs'&&iU k k')
 | .alt cB cW,.alt tm wT=>iU cB tm&&iU cW wT
 | .nO t x,.nO c7 x'=>Nat.beq t c7&&e3 x x'
 | .qO t s c k,.qO c7 eZ c' k'=>Nat.beq t c7&&(e3 s eZ&&(mZ c c'&&iU k k'))
 | .ret v,.ret aC=>e3 v aC
 | .back vs,.back df=>mZ vs df
 | .loop vs m k,.loop df m' k'=>mZ vs df&&(Nat.beq m m'&&iU k k')
 | .c4 k,.c4 k'=>iU k k'
 | .st t p x k,.st c7 p' x' k'=>Nat.beq t c7&&(e3 p p'&&(e3 x x'&&iU k k'))
 | .rT t s c k,.rT c7 eZ c' k'=>Nat.beq t c7&&(e3 s eZ&&(mZ c c'&&iU k k'))
 | .qX t s x k,.qX c7 eZ x' k'=>Nat.beq t c7&&(e3 s eZ&&(e3 x x'&&iU k k'))
 | .mk t x k,.mk c7 x' k'=>Nat.beq t c7&&(e3 x x'&&iU k k')
 | .rU c m d k,.rU c' m' mX k'=>mZ c c'&&(Nat.beq m m'&&(Nat.beq d mX&&iU k k'))
 | .lt t x k,.lt c7 x' k'=>Nat.beq t c7&&(e3 x x'&&iU k k')
 | .nn t x k,.nn c7 x' k'=>Nat.beq t c7&&(e3 x x'&&iU k k')
 | .mJ t k,.mJ c7 k'=>Nat.beq t c7&&iU k k'
 | .yw t k,.yw c7 k'=>Nat.beq t c7&&iU k k'
 | .yx t m i x k,.yx c7 m' qB x' k'=>Nat.beq t c7&&(e3 m m'&&(e3 i qB&&(e3 x x'&&iU k k')))
 | .call f a r m k,.call iJ aR dN m' k'=>Nat.beq f iJ&&(mZ a aR&&(e3 r dN&&(Nat.beq m m'&&iU k k')))
 |_,_=>false
def E8 (x:a7):a7->Bool
 | .alt a b=>iU x a||E8 x b
 |t=>iU x t
def Ja:List (Option a7)->Option a7
 |[]=>none
 |[a]=>a
 |a::r=>match a,Ja r with
  |some x,some y=>bif E8 x y then some y else some (.alt x y)
  |_,_=>none
def E9 (G:iw) (n:Nat) (cs:List h8) (dC:h') (F:i') (T:jg) (sl:a1) (aT:List bS):Option a7:=E5 G n cs dC F T sl aT λ_ _ _=>none
def Jb (G:iw) (n:Nat) (cs:List h8) (dC:h') (F:i') (T:jg) (s:cC):Option a7:=bif yB s then E9 G n cs dC F T s.sl (yz s) else none
def Ou (N:Nat) (os:Array Oper) (sl:a1) (o:Oper):Option Bool:=
 match o.guard with
 |none=>some true
 |some (j,b)=>match e7 os j with
  |some t=>bif Nat.blt t N then match sl.get t with
   |some (.bool b')=>some (b==b')
   |_=>none else none
  |none=>none
def Ov (P:aQ) [dO P] (bj:Operand->J) (o:Oper):Option J:=
 match o.op with
 | .pick c x y=>match bj c with
   | .bool b=>some (bif b then bj x else bj y)
   |_=>none
 | .extract t i=>Dq (bj t) i
 | .move _| .assign _| .binOp .. | .unOp .. | .fieldAddr .. | .indexAddr .. =>wi P bj o
 | .call c=>match c.callee with
   | .builtin _=>match pU bj o with
     |some f=>bif Bw f then su P bj o else none
     |none=>none
   |_=>none
 | .nilCheck _=>su P bj o
 |_=>none
def Co (o:Oper):Bool:=match o.op with| .call c=>(match c.callee with| .builtin _=>true|_=>false)|_=>true
def Jc (P:aQ) [dO P] (N:Nat) (os:Array Oper) (l:Array Bool) (sl:a1) (i:Nat):Option a1:=
 match os[i]? with
 |some o=>match Ou N os sl o with
  |some true=>match Ov P (dU .nil sl) o with
   |some v=>bif Region.free .any os l i then gG N sl o.dst v else none
   |none=>none
  |some false=>bif Co o&&Region.free .any os l i then gG N sl o.dst undef else none
  |none=>none
 |none=>none
def E' (P:aQ) [dO P] (N:Nat) (os:Array Oper) (l:Array Bool) (sl:a1):List Nat->Option (Nat×a1)
 |[]=>none
 |i::r=>match Jc P N os l sl i with
  |some eb=>some (i,eb)
  |none=>E' P N os l sl r
def Cp (P:aQ) [dO P] (N:Nat) (os:Array Oper):Nat->Array Bool->a1->Nat×Array Bool×a1
 |0,l,sl=>(0,l,sl)
 |f+1,l,sl=>match E' P N os l sl (Region.ready .any os l) with
  |some (i,eb)=>Cp P N os f (l.setIfInBounds i true) eb
  |none=>(f+1,l,sl)
def anyOp (P:aQ) [Lib P] (cf:hJ) (G:iw) (n:Nat) (cs:List h8) (bk:Nat) (os:Array Oper) (listed:Array Bool) (ks:List fu) (s:cC) (F:i') (T:jg) (i:Nat):Option a7:=
 match os[i]? with
 |none=>none
 |some o=>match @u0 P _ ⟨F⟩ (@tI P _ ⟨F⟩ ⟨T⟩ .nil 1000 cf.d) .nil cf.N os o s.sl s.A with
  |some (eb,br)=>Jb G n cs (.any bk os (listed.setIfInBounds i true) ks) F T {s with sl:=eb,A:=br}
  |none=>match I7 P cf n (some (.oper o [] os s [])) with
   |some (og,dJ,VC,m)=>(E9 G (n+m) cs (.any bk os (listed.setIfInBounds i true) ks) (EZ cf.marks) [] dJ VC).map og
   |none=>none
def Ow (P:aQ) [Lib P] (cf:hJ) (G:iw) (n:Nat) (cs:List h8) (bk:Nat) (os:Array Oper) (listed:Array Bool) (ks:List fu) (sl:a1) (aT:List bS) (F:i') (T:jg):Option a7:=
 match Region.ready .any os listed with
 |[]=>qg P cf G n cs (.k .normal ks) sl aT
 |qF=>match bk with
  |0=>none
  |bk+1=>match @E' P ⟨F⟩ cf.N os listed sl qF with
   |some (i,eb)=>bif Region.noSelect os then
     (let q:= @Cp P ⟨F⟩ cf.N os bk (listed.setIfInBounds i true) eb
     E9 G n cs (.any q.1 os q.2.1 ks) F T q.2.2 aT) else none
   |none=>Ja (qF.map (anyOp P cf G n cs bk os listed ks (eg sl aT) F T))
def Ox (P:aQ) [Lib P] (cf:hJ) (G:iw) (n:Nat) (cs:List h8) (v:J) (s:cC) (x y:Code) (ks:List fu) (oX:a1) (nP:List bS) (m:Nat):Option a7:=
 bif sP n v (.bool true) s (jF n v (.bool true) s).1 (jF n v (.bool true) s).2&&sP n v (.bool false) s (jF n v (.bool false) s).1 (jF n v (.bool false) s).2 then
  match qg P cf G n (⟨oX,nP,n,m,ks⟩::cs) (.k .normal [.lL x]) (jF n v (.bool true) s).1 (jF n v (.bool true) s).2 with
  |some cB=>match qg P cf G n (⟨oX,nP,n,m,ks⟩::cs) (.k .normal [.lL y]) (jF n v (.bool false) s).1 (jF n v (.bool false) s).2 with
   |some cW=>(qg P cf G (n+m) cs (.k .normal ks) oX nP).map (a7.qW v cB cW m)
   |none=>none
  |none=>none
 else none
def agK (cf:hJ) (v:J):Option Bool:=(cf.p6.find? λp=>e3 v (aq p.1)).map (·.2)
def E_ (P:aQ) [Lib P] (cf:hJ) (G:iw) (n:Nat) (cs:List h8) (v:J) (s:cC) (mj nQ:h'):Option a7:=match agK cf v with
 |some b=>bif sP n v (.bool b) s (jF n v (.bool b) s).1 (jF n v (.bool b) s).2 then (qg P cf G n cs (bif b then mj else nQ) (jF n v (.bool b) s).1 (jF n v (.bool b) s).2).map λk=>bif b then .bb v k .no else .bb v .no k else none
 |none=>bif sP n v (.bool true) s (jF n v (.bool true) s).1 (jF n v (.bool true) s).2&&sP n v (.bool false) s (jF n v (.bool false) s).1 (jF n v (.bool false) s).2 then
  two (qg P cf G n cs mj (jF n v (.bool true) s).1 (jF n v (.bool true) s).2) (qg P cf G n cs nQ (jF n v (.bool false) s).1 (jF n v (.bool false) s).2) (a7.bb v)
 else none
def Oy (P:aQ) [Lib P] (cf:hJ) (G:iw) (n:Nat) (cs:List h8) (o:Option bQ):Option a7:=match I7 P cf n o with
 |some (og,sl,aT,m)=>(qg P cf G (n+m) cs (Vs o) sl aT).map og
 |none=>none
def Oz (P:aQ) [Lib P] (cf:hJ) (G:iw) (n:Nat) (cs:List h8) (OA:Option J) (F:i') (T:jg):Option bQ->Option a7
 |some (.draw id os s ks)=>match OA with
  |some v=>E_ P cf G n cs v s (.k .normal (.lL (.region id os true)::ks)) (.k .normal (.lL (.region id os true)::ks))
  |none=>Jb G n cs (.any os.size os (Array.replicate os.size false) ks) F T s
 |some (.done x s)=>Oo P cf G n cs x s
 |some (.loop body s ks)=>Oq P cf G n cs body s ks
 |some (.cond c x y s ks)=>bif aP (dU .nil s.sl c) then match agJ cf c x y s n with
  |some (oX,nP,m)=>Ox P cf G n cs (dU .nil s.sl c) s x y ks oX nP m
  |none=>E_ P cf G n cs (dU .nil s.sl c) s (.k .normal (.lL x::ks)) (.k .normal (.lL y::ks)) else none
 |some (.oper op r os s ks)=>match Vt (some (.oper op r os s ks)) with
  |some v=>E_ P cf G n cs v s (.ops (op::r) os ks) (.ops (op::r) os ks)
  |none=>match Oi n (some (.oper op r os s ks)) with
   |some (og,sl,aT,m)=>(qg P cf G (n+m) cs (.ops (op::r) os ks) sl aT).map og
   |none=>Oy P cf G n cs (some (.oper op r os s ks))
 |_=>none
def Fa (d:Tmp):Operand->Bool
 | .tmp t=>Nat.beq t d
 |_=>false
def OB (ops:Array Oper):Nat->Option Tmp->Bool
 |0,_=>false
 |_,none=>false
 |k+1,some d=>NZ ops (some d)||ops.any λo=>(match o.op with
   | .move x| .assign x=>Fa d x
   | .pick c x y=>Fa d c||(Fa d x||Fa d y)
   | .unOp _ _ x=>Fa d x
   |_=>false)&&OB ops k o.dst
def VD (P:aQ) (ops:Array Oper) (o:Oper):Sum (fF×J×Nat×Bool) (FuncId×List J×J×Nat×Bool)->Sum (fF×J×Nat×Bool) (FuncId×List J×J×Nat×Bool)
 | .inl (f,r,m,b)=> .inl (f,r,m,b||((match Vk P 0 f with|some (_,_,b')=>b'|none=>false)&&OB ops 8 o.dst))
 | .inr (f,a,r,m,b)=> .inr (f,a,r,m,b||(E1 P o.type&&OB ops 8 o.dst))
def OC (P:aQ) [Lib P] (cf:hJ) (F:i') (T:jg) (n:Nat) (os:Array Oper) (s:cC):List Oper->a1->aW->Option (Sum (fF×J×Nat×Bool) (FuncId×List J×J×Nat×Bool))×Option J
 |[],_,_=>(none,none)
 |o::r,sl,A=>match @u0 P _ ⟨F⟩ (@tI P _ ⟨F⟩ ⟨T⟩ .nil 1000 cf.d) .nil cf.N os o sl A with
  |some (eb,br)=>OC P cf F T n os s r eb br
  |none=>match Oj P cf n (some (.oper o r os {s with sl:=sl,A:=A} [])) with
   |some x=>(some (VD P os o x),none)
   |none=>match Vt (some (.oper o r os {s with sl:=sl,A:=A} [])) with
    |some v=>(none,some v)
    |none=>OC P cf F T n os s r sl A
def VE (P:aQ) [Lib P] (cf:hJ) (F:i') (T:jg) (n:Nat):Option bQ->Option (Sum (fF×J×Nat×Bool) (FuncId×List J×J×Nat×Bool))×Option J
 |some (.draw _ os s _)=>OC P cf F T n os s os.toList s.sl s.A
 |_=>(none,none)
def OD (P:aQ) [Lib P] (cf:hJ) (G:iw) (n:Nat) (cs:List h8) (dC:h') (cU:Nat) (sl:a1) (aT:List bS) (F:i') (T:jg) (o:Option bQ):Option a7:=
 match Oj P cf n o with
 |some (.inl x)=>E6 P G n cs dC cU sl aT F T (λOE=>Vu P cf (F++OE) T o) x
 |some (.inr x)=>E7 G n cs dC cU sl aT F T (λOF=>Vu P cf F (T++OF) o) x
 |none=>match (VE P cf F T n (dC.run P F T cf.N cf.d (eg sl aT))).1 with
  |some (.inl x)=>E6 P G n cs dC cU sl aT F T (λOE=>dC.run P (F++OE) T cf.N cf.d (eg sl aT)) x
  |some (.inr x)=>E7 G n cs dC cU sl aT F T (λOF=>dC.run P F (T++OF) cf.N cf.d (eg sl aT)) x
  |none=>Oz P cf G n cs (VE P cf F T n (dC.run P F T cf.N cf.d (eg sl aT))).2 F T (dC.run P F T cf.N cf.d (eg sl aT))
def agL (P:aQ) [Lib P] (cf:hJ) (F:i') (T:jg) (n:Nat) (os:Array Oper) (listed:Array Bool) (s:cC):Option (Sum (fF×J×Nat×Bool) (FuncId×List J×J×Nat×Bool)):=
 (Region.ready .any os listed).findSome? λi=>match os[i]? with
   |none=>none
   |some o=>match @u0 P _ ⟨F⟩ (@tI P _ ⟨F⟩ ⟨T⟩ .nil 1000 cf.d) .nil cf.N os o s.sl s.A with
    |some _=>none
    |none=>(Oj P cf n (some (.oper o [] os s []))).map (VD P os o)
def OG (P:aQ) [Lib P] (cf:hJ) (G:iw) (n:Nat) (cs:List h8) (dC:h') (cU:Nat) (sl:a1) (aT:List bS) (F:i') (T:jg) (o:Option bQ):Option a7:=
 match dC with
 | .any bk os listed ks=>match agL P cf F T n os listed (eg sl aT) with
   |some (.inl x)=>E6 P G n cs dC cU sl aT F T (λ_=>none) x
   |some (.inr x)=>E7 G n cs dC cU sl aT F T (λ_=>none) x
   |none=>Ow P cf G n cs bk os listed ks sl aT F T
 |_=>OD P cf G n cs dC cU sl aT F T o
def gen (P:aQ) [Lib P] (cf:hJ):Nat->iw
 |0=>λ_ _ _ _ _ _ _ _ _=>none
 |bk+1=>OG P cf (gen P cf bk)
def cZ (P:aQ) [Lib P] (f:FuncId) (h:yy) (args:List J) (n:Nat):Option a7:=
 match P.funcs[f]? with
 |some fn=>match fn.body with
  |some c=>match setArgs 0 args .nil with
   |some sl=>
    let cf:hJ:=⟨h,args.length+(fn.ntmps-args.length),fn⟩
    bif ev args then qg P cf (gen P cf 10000) n [] (.k .normal [.lL c]) sl [] else none
   |none=>none
  |none=>none
 |none=>none
end AE
namespace AE
variable {P:aQ}
def uf.{u} {α:Type u}:List α->List Nat->List α->List α
 |L,i::is,R::h_=>uf (L.set i R) is h_
 |L,_,_=>L
theorem VF:∀(is:List Nat) (L h_:List (aw P)),bD (uf L is h_)=ly (bD L) is (bD h_)
 |[],L,h_=>by unfold uf ly;cases h_<;>rfl
 |i::is,L,[]=>by unfold uf ly;rfl
 |i::is,L,R::h_=>by
  unfold uf;rw[VF is];show ly (bD (L.set i R)) is (bD h_)=ly ((bD L).set i R.res) is (bD h_);rw[show bD (L.set i R)=(bD L).set i R.res from List.map_set]
structure ji (W:ao) (au:List b4) (ro:List (fk P)) (L:List (aw P)) (w:ao):Prop where
 own:bY (aE w) (bD L)
 ro:dR ro (aE w)
 ext:kR (aE W) au (aE w)
 fresh:∀b,gZ (bD L) b->gZ au b\/aE W b=none
theorem ji.on {W:ao} {au:List b4} {ro:List (fk P)} {L dm:List (aw P)} {w:ao} (h:ji W au ro L w) (h1:∀b,gZ (bD dm) b->gZ (bD L) b) {M:Mem} (aV:kR (aE w) (bD dm) M):kR (aE W) au M:=λi o af ak=>
 aV i o (h.ext i o af ak) λq=>(h.fresh i (h1 i q)).elim ak λe=>by rw[af] at e;cases e
abbrev eu (P:aQ):=List J->List (aw P)->Prop
def h4 (B:Nat) (W:ao) (au:List b4) (L L':List (aw P)):Prop:=∀M,b6 B (aE W) au M (bD L)->b6 B (aE W) au M (bD L')
theorem h4.refl {B:Nat} {W:ao} {au:List b4} (L:List (aw P)):h4 B W au L L:=λ_ h=>h
inductive db (B:Nat) (W:ao) (au:List b4) (ro:List (fk P)) (post:J->List (aw P)->Prop):Nat->List J->List (aw P)->List (eu P)->a7->Prop
 |o {n:Nat} {env:List J} {L:List (aw P)} {aL:List (eu P)} {f:fF} {r:J} {m:Nat} {al:List Nat} {k:a7} (vs:List J) (hm:vs.length=m) (h1:eJ vs)
   (aO:∀M,b6 B (aE W) au M (bD L)->dR ro M-> @aZ (cn M (vs.reverse++env)) P (f,r)) (h:db B W au ro post (n+m) (vs.reverse++env) L aL k):db B W au ro post n env L aL (.o f r m al k)
 |s {n:Nat} {env:List J} {L:List (aw P)} {aL:List (eu P)} {f:fF} {al:List Nat} {cB cW:a7} (b:Bool) (aO:∀M,b6 B (aE W) au M (bD L)->dR ro M-> @aZ (cn M env) P (f,.bool b))
   (h1:b=true->db B W au ro post n env L aL cB) (ae:b=false->db B W au ro post n env L aL cW):db B W au ro post n env L aL (.s f al cB cW)
 |c {n:Nat} {env:List J} {L:List (aw P)} {aL:List (eu P)} {f:FuncId} {args:List J} {r:J} {m:Nat} {k:a7} (vs:List J) (hm:vs.length=m) (h1:eJ vs)
   (ai:∀w,ji W au ro L w->Calls P f ⟨fG env n args⟩ w λe w'=>e= .returned (ex (vs.reverse++env) (n+m) r)/\cA w.heap.size w w') (h:db B W au ro post (n+m) (vs.reverse++env) L aL k):db B W au ro post n env L aL (.c f args r m k)
 |cs {n:Nat} {env:List J} {L:List (aw P)} {aL:List (eu P)} {f:FuncId} {args:List J} {cB cW:a7} (b:Bool) (ai:∀w,ji W au ro L w->Calls P f ⟨fG env n args⟩ w λe w'=>e= .returned (.bool b)/\cA w.heap.size w w')
   (h1:b=true->db B W au ro post n env L aL cB) (ae:b=false->db B W au ro post n env L aL cW):db B W au ro post n env L aL (.cs f args cB cW)
 |bb {n:Nat} {env:List J} {L:List (aw P)} {aL:List (eu P)} {x:J} {cB cW:a7} (b:Bool) (ah:ex env n x= .bool b)
   (h1:b=true->db B W au ro post n env L aL cB) (ae:b=false->db B W au ro post n env L aL cW):db B W au ro post n env L aL (.bb x cB cW)
 |qW {n:Nat} {env:List J} {L:List (aw P)} {aL:List (eu P)} {x:J} {cB cW:a7} {m:Nat} {k:a7} (b:Bool) (ah:ex env n x= .bool b) (dD:Type) (bj:dD->List J) (cd:dD->List (aw P)) (eK:dD->Prop) (hm:∀u,(bj u).length=m) (ho:∀u,eJ (bj u))
   (h1:b=true->db B W au ro post n env L ((λdf L'=>∃u',eK u'/\df=bj u'/\h4 B W au L' (cd u'))::aL) cB) (ae:b=false->db B W au ro post n env L ((λdf L'=>∃u',eK u'/\df=bj u'/\h4 B W au L' (cd u'))::aL) cW)
   (h:∀u,eK u->db B W au ro post (n+m) ((bj u).reverse++env) (cd u) aL k):db B W au ro post n env L aL (.qW x cB cW m k)
 |ret {n:Nat} {env:List J} {L:List (aw P)} {aL:List (eu P)} {v:J} (L':List (aw P)) (hL:h4 B W au L L') (h:post (ex env n v) L'):db B W au ro post n env L aL (.ret v)
 |back {n:Nat} {env:List J} {L:List (aw P)} {vp:eu P} {aL:List (eu P)} {vs:List J} (h:vp (fG env n vs) L):db B W au ro post n env L (vp::aL) (.back vs)
 |c4 {n:Nat} {env:List J} {L:List (aw P)} {vp:eu P} {aL:List (eu P)} {k:a7} (h:db B W au ro post n env L aL k):db B W au ro post n env L (vp::aL) (.c4 k)
 |loop {n:Nat} {env:List J} {L:List (aw P)} {aL:List (eu P)} {vs:List J} {m:Nat} {k:a7} (dD:Type) (bj:dD->List J) (cd:dD->List (aw P)) (eK:dD->Prop) (gD:dD->Nat) (im:dD)
   (hm:∀u,(bj u).length=m) (h1:∀u,eJ (bj u)) (aJ:fG env n vs=bj im) (hL:h4 B W au L (cd im)) (bg:eK im)
   (h:∀u,eK u->db B W au ro post (n+m) ((bj u).reverse++env) (cd u) ((λdf L'=>∃u',eK u'/\gD u'<gD u/\df=bj u'/\h4 B W au L' (cd u'))::aL) k):db B W au ro post n env L aL (.loop vs m k)
 |OH {n:Nat} {env:List J} {L:List (aw P)} {aL:List (eu P)} {t:aK} {p x:J} {k:a7} (i:Nat) {g:Nat} {ty:aK} {cs:List J} {j:Nat} {u:J} (hL:L[i]? =some (.box g ty cs)) (hp:ex env n p= .pointer (some ⟨g,j,none⟩)) (ah:ex env n x=u) (hj:j<cs.length)
   (hu:u.cells= #[u]) (h1:u.oneCell'=true) (b5:a' P (sizeOf t)=some 1) (h:db B W au ro post n env (L.set i (.box g ty (cs.set j u))) aL k):db B W au ro post n env L aL (.st t p x k)
 |VG {n:Nat} {env:List J} {L:List (aw P)} {aL:List (eu P)} {t:aK} {p x:J} {k:a7} (i:Nat) {g:Nat} {ty:aK} {cs:List J} {j m:Nat} {us:List J} (hL:L[i]? =some (.box g ty cs)) (hp:ex env n p= .pointer (some ⟨g,j,none⟩)) (ah:ex env n x= .agg ⟨us⟩) (hj:j+m<=cs.length)
   (hu:us.length=m) (h1:∀u∈us,u.oneCell'=true) (b5:a' P (sizeOf t)=some m) (h:db B W au ro post n env (L.set i (.box g ty (cs.take j++us++cs.drop (j+m)))) aL k):db B W au ro post n env L aL (.st t p x k)
 |VH {n:Nat} {env:List J} {L:List (aw P)} {aL:List (eu P)} {t:aK} {p x:J} {k:a7} (d:Nat) {K:gE P} {v:J} {l:List K.α} (i j:Nat) (y:K.α) {u:J} (hL:L[d]? =some (.arr K v l)) (hp:ex env n p=kt v (i*K.k+j)) (af:i<l.length) (ah:ex env n x=u) (hj:j<K.k)
   (hu:u.cells= #[u]) (h1:u.oneCell'=true) (a_:∀z,l[i]? =some z->K.enc y=(K.enc z).set j u) (b5:a' P (sizeOf t)=some 1) (h:db B W au ro post n env (L.set d (.arr K v (l.set i y))) aL k):db B W au ro post n env L aL (.st t p x k)
 |agM {n:Nat} {env:List J} {L:List (aw P)} {aL:List (eu P)} {t:aK} {p x:J} {k:a7} (d:Nat) {K:gE P} {v:J} {l:List K.α} (i:Nat) (y:K.α) (hL:L[d]? =some (.arr K v l)) (hp:ex env n p=kt v (i*K.k)) (af:i<l.length) (ah:ex env n x= .agg ⟨K.enc y⟩)
   (b5:a' P (sizeOf t)=some K.k) (h:db B W au ro post n env (L.set d (.arr K v (l.set i y))) aL k):db B W au ro post n env L aL (.st t p x k)
 |VI {n:Nat} {env:List J} {L:List (aw P)} {aL:List (eu P)} {t:aK} {s:J} {c:List J} {k:a7} (d:Nat) {K:gE P} {v:J} {l:List K.α} (lx:List K.α) (hL:L[d]? =some (.arr K v l)) (hs:ex env n s=v) (ah:fG env n c=lx.flatMap K.enc) (aF:P.underlying t=some (.slice K.e))
   (hd:l.length+lx.length<=maxLen) (ad:(l.length+lx.length)*K.bytes<=140737488355328) (h:∀a c,db B W au ro post (n+1) (.slice a (l++lx).length c::env) (L.set d (.arr K (.slice a (l++lx).length c) (l++lx))) aL k):db B W au ro post n env L aL (.rT t s c k)
 |agN {n:Nat} {env:List J} {L:List (aw P)} {aL:List (eu P)} {t:aK} {s:J} {c:List J} {k:a7} (d:Nat) {K:gE P} {v:J} {l:List K.α} (lx:List K.α) (hL:L[d]? =some (.kO K v l)) (hs:ex env n s=v) (ah:fG env n c=lx.flatMap K.enc) (aF:P.underlying t=some (.slice K.e))
   (hd:l.length+lx.length<=maxLen) (ad:(l.length+lx.length)*K.bytes<=140737488355328) (h:∀a c,db B W au ro post (n+1) (.slice a (l++lx).length c::env) (L.set d (.kO K (.slice a (l++lx).length c) (l++lx))) aL k):db B W au ro post n env L aL (.rT t s c k)
 |VJ {n:Nat} {env:List J} {L:List (aw P)} {aL:List (eu P)} {t:aK} {s x:J} {k:a7} (d:Nat) {K:gE P} {v:J} {l:List K.α} (vx:J) (lx:List K.α) (hL:L[d]? =some (.arr K v l)) (hs:ex env n s=v) (ah:ex env n x=vx) (aF:P.underlying t=some (.slice K.e))
   (fB:∀M,b6 B (aE W) au M (bD L)->dR ro M->bT M K.k K.enc vx lx)
   (hd:l.length+lx.length<=maxLen) (ad:(l.length+lx.length)*K.bytes<=140737488355328) (h:∀a c,db B W au ro post (n+1) (.slice a (l++lx).length c::env) (L.set d (.arr K (.slice a (l++lx).length c) (l++lx))) aL k):db B W au ro post n env L aL (.qX t s x k)
 |VK {n:Nat} {env:List J} {L:List (aw P)} {aL:List (eu P)} {t:aK} {s x:J} {k:a7} (d:Nat) {K:gE P} {v:J} {l:List K.α} (vx:J) (lx:List K.α) (hL:L[d]? =some (.kO K v l)) (hs:ex env n s=v) (ah:ex env n x=vx) (aF:P.underlying t=some (.slice K.e))
   (fB:∀M,b6 B (aE W) au M (bD L)->dR ro M->bT M K.k K.enc vx lx)
   (hd:l.length+lx.length<=maxLen) (ad:(l.length+lx.length)*K.bytes<=140737488355328) (h:∀a c,db B W au ro post (n+1) (.slice a (l++lx).length c::env) (L.set d (.kO K (.slice a (l++lx).length c) (l++lx))) aL k):db B W au ro post n env L aL (.qX t s x k)
 |mk {n:Nat} {env:List J} {L:List (aw P)} {aL:List (eu P)} {t:aK} {x:J} {k:a7} (K:gE P) (z:K.α) (m:Nat) (aF:P.underlying t=some (.slice K.e)) (bu:∃i v,P.info? K.e=some i/\i.zero=some v/\i.size=K.k/\i.bytes=K.bytes/\v.cells.toList=K.enc z) (ah:ex env n x= .int .i64 (m:Nat)) (hd:m<=1000000) (ad:m*K.bytes<=140737488355328) (ai:m*K.k<=16777216)
   (h:∀a c,db B W au ro post (n+1) (.slice a (List.replicate m z).length c::env) (L++[.arr K (.slice a (List.replicate m z).length c) (List.replicate m z)]) aL k):db B W au ro post n env L aL (.mk t x k)
 |lt {n:Nat} {env:List J} {L:List (aw P)} {aL:List (eu P)} {t:aK} {x:J} {k:a7} (K:gE P) (y:K.α) {u:J} (aF:P.underlying t=some (.slice K.e)) (bu:∃z,a' P (zeroValue K.e)=some z) (ag:K.k<=1000) (ah:ex env n x=u) (hu:u.cells=⟨K.enc y⟩)
   (h:∀a c,db B W au ro post (n+1) (.slice a [y].length c::env) (L++[.arr K (.slice a [y].length c) [y]]) aL k):db B W au ro post n env L aL (.lt t x k)
 |ou {n:Nat} {env:List J} {L:List (aw P)} {aL:List (eu P)} {t:aK} {xs:List J} {k:a7} (K:gE P) (l:List K.α) {us:List J} (aF:P.underlying t=some (.slice K.e)) (bu:∃z,a' P (zeroValue K.e)=some z) (ag:K.k<=1000) (ah:fG env n xs=us) (hu:us.map Value.cells=l.map λy=>⟨K.enc y⟩)
   (h:∀a c,db B W au ro post (n+1) (.slice a l.length c::env) (L++[.arr K (.slice a l.length c) l]) aL k):db B W au ro post n env L aL (.ou t xs k)
 |alt {n:Nat} {env:List J} {L:List (aw P)} {aL:List (eu P)} {cB cW:a7} (h1:db B W au ro post n env L aL cB) (ae:db B W au ro post n env L aL cW):db B W au ro post n env L aL (.alt cB cW)
 |nO {n:Nat} {env:List J} {L:List (aw P)} {aL:List (eu P)} {t:aK} {x:J} (i:Nat) {g:Nat} {ty:aK} {cs:List J} (hL:L[i]? =some (.box g ty cs)) (ah:ex env n x= .pointer (some ⟨g,0,none⟩)) (ha:a' P (isAgg t)=some true) (hs:a' P (sizeOf t)=some cs.length)
   {v:J} (ax:aP v=true) (af:ex env n v= .agg ⟨cs⟩) (L':List (aw P)) (dE:h4 B W au L L') (h:post (.agg ⟨cs⟩) L'):db B W au ro post n env L aL (.nO t x)
 |qO {n:Nat} {env:List J} {L:List (aw P)} {aL:List (eu P)} {t:aK} {s:J} {c:List J} {k:a7} (i:Nat) {g:Nat} {ty e:aK} {cs us:List J} {j m uU:Nat} (hL:L[i]? =some (.box g ty cs)) (hs:ex env n s= .slice (some ⟨g,j,none⟩) m uU) (ah:fG env n c=us) (aF:P.underlying t=some (.slice e)) (bu:(P.info? e).map (·.size)=some 1)
   (aJ:0<us.length) (hm:us.length<=m) (h1:∀u∈us,u.oneCell'=true) (hj:j+us.length<=cs.length) (h:db B W au ro post n env (L.set i (.box g ty (cs.take j++us++cs.drop (j+us.length)))) aL k):db B W au ro post n env L aL (.qO t s c k)
 |rU {n:Nat} {env:List J} {L:List (aw P)} {aL:List (eu P)} {c:List J} {m cap:Nat} {k:a7} (K:gE P) (xs:List K.α) (ah:fG env n c=xs.flatMap K.enc) (hm:xs.length=m)
   (h:∀g,db B W au ro post (n+1) (.slice (some ⟨g,0,none⟩) m cap::env) (L++[.red K (.slice (some ⟨g,0,none⟩) m cap) xs]) aL k):db B W au ro post n env L aL (.rU c m cap k)
 |nn {n:Nat} {env:List J} {L:List (aw P)} {aL:List (eu P)} {t:aK} {x:J} {k:a7} {u:J} {cs:List J} (ah:ex env n x=u) (hu:u.cells=⟨cs⟩) (h:∀g,db B W au ro post (n+1) (.pointer (some ⟨g,0,none⟩)::env) (L++[.box g t cs]) aL k):db B W au ro post n env L aL (.nn t x k)
 |mJ {n:Nat} {env:List J} {L:List (aw P)} {aL:List (eu P)} {t:aK} {k:a7} {z:J} {cs:List J} (bu:a' P (zeroValue t)=some z) (hu:z.cells=⟨cs⟩) (h:∀g,db B W au ro post (n+1) (.pointer (some ⟨g,0,none⟩)::env) (L++[.box g t cs]) aL k):db B W au ro post n env L aL (.mJ t k)
 |yw {n:Nat} {env:List J} {L:List (aw P)} {aL:List (eu P)} {t:aK} {k:a7} (h:∀g,db B W au ro post (n+1) (.map (some g)::env) (L++[.any (rR g [])]) aL k):db B W au ro post n env L aL (.yw t k)
 |yx {n:Nat} {env:List J} {L:List (aw P)} {aL:List (eu P)} {t eI tS:aK} {m i x Fb js:J} {k:a7} (d:Nat) {g:Nat} {es:List (J×J)} {K:J->Prop} (bU:IY P eI K) (aF:a' P (underlying t)=some (.map eI tS)) (hL:L[d]? =some (.any (rR g es)))
   (hm:ex env n m= .map (some g)) (af:ex env n i=Fb) (ah:ex env n x=js) (ag:K Fb) (aO:IZ K es Fb) (h:db B W au ro post n env (L.set d (.any (rR g (es++[(Fb,js)])))) aL k):db B W au ro post n env L aL (.yx t m i x k)
 |call {n:Nat} {env:List J} {L:List (aw P)} {aL:List (eu P)} {f:FuncId} {args:List J} {r:J} {m:Nat} {k:a7} (Y:Type) (is:List Nat) (hU:ju L.length is=true) (vs:Y->List J) (ku ug:Y->List (aw P)) (hl:∀y,(ku y).length=is.length) (hm:∀y,(vs y).length=m) (h1:∀y,eJ (vs y))
   (ai:∀w,ji W au ro L w->B<=w.heap.size->bY (aE w) (pick (bD L) is)->Calls P f ⟨fG env n args⟩ w λe w'=>(∃y,e= .returned (ex ((vs y).reverse++env) (n+m) r)/\ef (aE w) (pick (bD L) is) (aE w') (bD (ku y++ug y)))/\cA 0 w w')
   (h:∀y,db B W au ro post (n+m) ((vs y).reverse++env) (uf L is (ku y)++ug y) aL k):db B W au ro post n env L aL (.call f args r m k)
theorem VL {n:Nat} {s1 s2:a6} (ha:mI n s1 s2) {p:J×J} (h:(e3 p.1 p.2&&jT n p.1)=true): @aM s1 p.1= @aM s2 p.2:=by
 simp only [cV] at h;rw[<-gw _ _ h.1];exact jU ha _ h.2
theorem agO {n:Nat} {bG:ec} (h:N1 n bG=true):np n bG:=λp hp=>by
 have:=List.all_eq_true.1 h p hp;simp only [cV] at this;exact⟨gw _ _ this.1,this.2⟩
theorem Cq {n:Nat} {s1 s2:a6} (ha:mI n s1 s2) {bG:ec} (h:np n bG):e8 s1 s2 bG:=λp hp=>by
 obtain⟨h1,ae⟩:=h p hp;rw[<-h1];exact jU ha _ ae
theorem np.nil (n:Nat):np n []:=λ_ h=>by cases h
theorem pz {n:Nat} {a b:Option ec} (ha:∃o,a=some o/\np n o) (ad:∃o,b=some o/\np n o):∃o,both a b=some o/\np n o:=by
 obtain⟨x,rfl,ah⟩:=ha;obtain⟨y,rfl,a_⟩:=ad;exact⟨x++y,rfl,λp hp=>(List.mem_append.1 hp).elim (ah p) (a_ p)⟩
theorem agP {m:Nat} {v:J} (h:(wx v||(aP v&&jT m v))=true):∃o,BO v v=some o/\np m o:=by
 unfold BO;cases hp:wx v with
 |true=>exact⟨[],rfl,.nil m⟩
 |false=>
  rw[hp,Bool.false_or,cV] at h;rw[dZ,h.1,Bool.and_self,bs];cases (e3 v v&&plain v) with
  |true=>exact⟨[],rfl,.nil m⟩
  |false=>exact⟨[(v,v)],rfl,λp hp=>by rw[List.mem_singleton] at hp;subst hp;exact⟨rfl,h.2⟩⟩
mutual
theorem OI {n m:Nat}:∀v:J,okV n m v=true->∃o,tL n v v=some o/\np m o:=by
 intro v h;unfold okV at h;split at h
 ·exact⟨[],by unfold tL;rw[h,Nat.beq_refl,Nat.beq_refl];rfl,.nil m⟩
 ·exact⟨[],by unfold tL;rw[h];simp only [Nat.beq_refl];rfl,.nil m⟩
 ·exact Fc _ h
 ·rename_i f l k
  simp only [cV] at h;obtain⟨o,h1,ae⟩:=pz (Fc _ h.1) (Fc _ h.2);exact⟨o,by unfold tL;rw[Nat.beq_refl,bs];exact h1,ae⟩
 ·exact⟨[],by unfold tL;rw[h,Nat.beq_refl];rfl,.nil m⟩
 ·rename_i h1 ae ar bm cg
  have e:tL n v v=BO v v:=by
   unfold tL;split
   ·exact(h1 _ _ rfl).elim
   ·exact(ae _ _ _ _ rfl).elim
   ·exact(ar _ rfl).elim
   ·exact(bm _ _ _ rfl).elim
   ·exact(cg _ rfl).elim
   ·rfl
  rw[e];exact agP h
theorem Fc {n m:Nat}:∀l:List J,As n m l=true->∃o,wy n l l=some o/\np m o
 |[],_=>⟨[],rfl,.nil m⟩
 |v::r,h=>by
  unfold As at h;rw[cV] at h;unfold wy;exact pz (OI v h.1) (Fc r h.2)
end
theorem Aw {n m:Nat}:∀t:bW J,(∃o,rD n t (lZ n m t)=some o/\np m o)/\(∃o,rD n (lZ n m t) (lZ n m t)=some o/\np m o)
 | .nil=>⟨⟨[],rfl,.nil m⟩,⟨[],rfl,.nil m⟩⟩
 | .node none l r=>by
   obtain⟨b2,cr⟩:=Aw (n:=n) (m:=m) l;obtain⟨jc,jz⟩:=Aw (n:=n) (m:=m) r;unfold lZ rD;exact⟨pz ⟨[],rfl,.nil m⟩ (pz b2 jc),pz ⟨[],rfl,.nil m⟩ (pz cr jz)⟩
 | .node (some v) l r=>by
   obtain⟨b2,cr⟩:=Aw (n:=n) (m:=m) l;obtain⟨jc,jz⟩:=Aw (n:=n) (m:=m) r;unfold lZ;cases ax:okV n m v with
   |true=>
    rw[bs];unfold rD;exact⟨pz (OI v ax) (pz b2 jc),pz (OI v ax) (pz cr jz)⟩
   |false=>
    rw[dZ];unfold rD;exact⟨pz ⟨[],rfl,.nil m⟩ (pz b2 jc),pz ⟨[],rfl,.nil m⟩ (pz cr jz)⟩
theorem agQ {n m:Nat} {o:pJ} (h:N2 n m o=true):∃x,zS n o o=some x/\np m x:=by
 unfold N2 at h;split at h
 ·exact Fc _ h
 ·exact⟨[],rfl,.nil m⟩
 ·exact⟨[],rfl,.nil m⟩
 ·cases h
theorem VM {n m:Nat}:∀{l:List bS},Cl n m l=true->p2 l=true
 |[],_=>rfl
 |x::r,h=>by
  unfold Cl at h;rw[cV] at h;unfold p2;rw[cV];refine⟨?_,VM h.2⟩;have h1:=h.1;split
  ·rename_i e6 ah
   rw[ah] at h1;cases h1
  ·rfl
theorem OJ {n m:Nat} {A:aW}:∀(l:List bS) (i:Nat),Cl n m l=true->(∀j x,l[j]? =some x->∃k,A.bl.get (i+j)=some k/\k.cD=i+j/\k.ro=false/\k.ei=x.ei/\k.ty=x.ty/\k.obj=x.obj)->∃o,x7 n A l i=some o/\np m o
 |[],i,_,_=>⟨[],rfl,.nil m⟩
 |x::r,i,h,ag=>by
  unfold Cl at h;rw[cV] at h;obtain⟨k,q1,aB,b_,eB,hh,ln⟩:=ag 0 x rfl;rw[Nat.add_zero] at q1 aB;unfold x7;rw[q1];dsimp only;rw[aB,b_,eB,hh,ln];simp only [Nat.beq_refl,Bool.not_false,Bool.and_self,bs];exact pz (agQ h.1) (OJ r (i+1) h.2 λj y hj=>by
   obtain⟨k,hi,fQ⟩:=ag (j+1) y (by simpa using hj);rw[show i+(j+1)=i+1+j by omega] at hi fQ
   exact⟨k,hi,fQ⟩)
theorem VN {m:Nat} {aT:List bS} (h:qZ m aT=true):∃o,x7 aT.length (ff aT) aT 0=some o/\np m o:=by
 unfold qZ at h;rw[cV] at h;refine OJ aT 0 h.2 λj x hj=> ?_
 have bt:=(List.getElem?_eq_some_iff.1 hj).1;have:=List.all_eq_true.1 h.1 j (by simpa using bt);rw[cV] at this;have ae:=this.2;cases aA:(BS aT 0 .nil).get j with
 |none=>rw[aA] at ae;cases ae
 |some k=>
  obtain⟨y,q1,aB⟩:=x6 (l:=aT) (b:=j) (k:=k) aA;rw[hj,cz] at q1;subst q1;subst aB;rw[Nat.zero_add];exact⟨_,aA,rfl,rfl,rfl,rfl,rfl⟩
theorem VO {A:aW}:∀(m i:Nat) {j:Nat} {x:bS},(rV A m i)[j]? =some x->∃k,A.bl.get (i+j)=some k/\k.ei=x.ei/\k.ty=x.ty/\k.obj=x.obj
 |0,i,j,x,h=>by simp [rV] at h
 |m+1,i,j,x,h=>by
  unfold rV at h;split at h
  ·rename_i b ad
   cases j with
   |zero=>
    simp only [List.getElem?_cons_zero,cz] at h;subst h;unfold Vm at ad;split at ad
    ·rename_i k ag
     cases ad;exact⟨k,ag,rfl,rfl,rfl⟩
    ·cases ad
   |succ j=>
    obtain⟨k,q1,aB⟩:=VO m (i+1) (j:=j) (by simpa using h);exact⟨k,by rw[show i+(j+1)=i+1+j by omega];exact q1,aB⟩
  ·simp at h
theorem VP {A:aW}:∀(l:List bS) (i:Nat),I4 A l i=true->∀j x,l[j]? =some x->∃k,A.bl.get (i+j)=some k/\k.cD=i+j/\k.ro=false
 |[],i,_,j,x,h=>by simp at h
 |y::r,i,aO,j,x,h=>by
  unfold I4 at aO;rw[cV] at aO;cases j with
  |zero=>
   have h1:=aO.1;split at h1
   ·rename_i k ag
    simp only [cV,Bool.not_eq_true'] at h1;exact⟨k,ag,cq h1.1,h1.2⟩
   ·cases h1
  |succ j=>
   obtain⟨k,q1,aB⟩:=VP r (i+1) aO.2 j x (by simpa using h);rw[show i+(j+1)=i+1+j by omega];exact⟨k,q1,aB⟩
theorem OK {m:Nat} {s:cC} {sl:a1} {aT:List bS} (tM:s.ms=[]) (ad:qZ m aT=true) (h1:∃o,rD aT.length s.sl sl=some o/\np m o) (ae:∃o,x7 aT.length s.A aT 0=some o/\np m o):yC m s sl aT:=by
 obtain⟨o,e,ho⟩:=pz h1 ae;have dw:=ad;unfold qZ at dw;rw[cV] at dw;refine⟨o,?_,ho,VM dw.2⟩;unfold d';rw[tM];dsimp only;rw[dw.1,bs];exact e
theorem VQ {m:Nat} {sl:a1} {aT:List bS} (ad:qZ m aT=true):yC m (eg sl aT) (lZ aT.length m sl) aT:=OK rfl ad (Aw sl).1 (VN ad)
theorem agR {m:Nat} {sl:a1} {aT:List bS} (ad:qZ m aT=true):yC m (eg (lZ aT.length m sl) aT) (lZ aT.length m sl) aT:=OK rfl ad (Aw sl).2 (VN ad)
theorem OL {m:Nat} {s:cC} (hs:yB s=true) (ad:qZ m (yz s)=true):yC m s (lZ (yz s).length m s.sl) (yz s):=by
 unfold yB at hs;rw[cV] at hs;have tM:s.ms=[]:=by
  have h1:=hs.1;split at h1
  ·assumption
  ·cases h1
 refine OK tM ad (Aw s.sl).1 (OJ _ 0 (by unfold qZ at ad;rw[cV] at ad;exact ad.2) λj x hj=> ?_);obtain⟨k,q1,aB,b_⟩:=VP _ 0 hs.2 j x hj;obtain⟨k',hi,fQ,pe,nF⟩:=VO _ 0 hj;rw[q1,cz] at hi;subst hi;exact⟨k,q1,aB,b_,fQ,pe,nF⟩
theorem agS {n:Nat} {s1 s2:a6} (ha:mI n s1 s2) {v u:J} (ax: @aM s1 v= @aM s2 u) {bG:ec} (h:Vn n v u bG=true):e8 s1 s2 bG:=λp hp=>by
 have:=List.all_eq_true.1 h p hp;rw[Bool.or_eq_true] at this;rcases this with h|h
 ·exact VL ha h
 ·simp only [cV] at h
  rw[gw _ _ h.1,gw _ _ h.2];exact ax
theorem OM {n:Nat} {M M':Mem} {ml n2 nR us vs:List J} {bG:ec} (he:ml=n2++nR) (ak:nR.length=n) (ho:eJ ml) (hu:eJ us) (Ij:us=fG ml ml.length vs) (h:Cm n vs bG=true):e8 (cn M ml) (cn M' (us.reverse++nR)) bG:=by
 have ha:mI n (cn M ml) (cn M' (us.reverse++nR)):=by
  subst he;have q1:=sO M M (cR:=n2) ak;have aB:=sO M M' (cR:=us.reverse) ak;exact λk ag=>(q1 k ag).symm.trans (aB k ag)
 intro p hp;have:=List.all_eq_true.1 h p hp;unfold Vq at this;rw[Bool.or_eq_true] at this;rcases this with h|h
 ·exact VL ha h
 ·obtain⟨hi,fQ⟩:=p
  simp only at h ⊢;split at h
  ·rename_i k
   simp only [cV] at h;obtain⟨h1,ae,ar⟩:=h;have ag:=Nat.ble_eq.mp h1;split at ar
   ·rename_i v ax
    rw[<-gw _ _ ar,jS M ho rfl];have hlen:(us.reverse++nR).length=us.length+n:=by simp [ak]
    have agT:eJ nR:=by
     subst he;exact I0 λv ax=>Ci ho v (List.mem_append_right _ ax)
    rw[show (Value.complex .f64 k 0)=aq k from rfl,jS M' (qV (nM hu) agT) rfl];show _=bif Nat.beq 0 0 then (bif Nat.blt k d_ then look (us.reverse++nR) (us.reverse++nR).length k else .pointer (some ⟨k-d_,0,none⟩)) else .complex .f64 k 0
    rw[show Nat.beq 0 0=true from rfl,bs,ae,bs,I1 _ _ _ rfl,List.reverse_append,List.reverse_reverse,c_,List.getElem?_append_right (by simpa [ak] using ag)];have agU:us[k-n]? =some (ex ml ml.length v):=by
     rw[Ij];clear Ij;have:∀(l:List J) (i:Nat) (v:J),l[i]? =some v->(fG ml ml.length l)[i]? =some (ex ml ml.length v):=by
      intro l
      induction l with
      |nil=>intro i v h;simp at h
      |cons x r b9=>
       intro i v h;unfold fG;cases i with
       |zero=>simp only [List.getElem?_cons_zero,cz] at h ⊢;rw[h]
       |succ i=>simp only [List.getElem?_cons_succ] at h ⊢;exact b9 i v h
     exact this _ _ _ ax
    rw[show nR.reverse.length=n by simpa using ak,agU];rfl
   ·cases ar
  ·cases h
end AE
namespace AE
variable {P:aQ}
theorem ON {n:Nat} {s1 s2:a6} (ha:mI n s1 s2):∀o:Option J,qY.Ck n o=true->o.map (@aM s1)=o.map (@aM s2)
 |none,_=>rfl
 |some v,h=>congrArg some (jU ha v h)
theorem agV {n:Nat} {s1 s2:a6} (ha:mI n s1 s2) (f:fF) (h:qY.uc n f=true): @wg s1 f= @wg s2 f:=by
 cases f<;>simp only [qY.uc,cV] at h<;>unfold wg<;>dsimp only
 case bin=>rw[jU ha _ h.1,jU ha _ h.2]
 case un=>rw[jU ha _ h]
 case conv=>rw[jU ha _ h]
 case k3=>rw[jU ha _ h.1,ON ha _ h.2.1,ON ha _ h.2.2.1,ON ha _ h.2.2.2]
 case cm=>rw[jU ha _ h.1,jU ha _ h.2]
 case dP=>rw[jU ha _ h.1,jU ha _ h.2]
 case bf=>rw[jU ha _ h]
 case b7=>rw[jU ha _ h]
 case dp=>rw[jU ha _ h]
 case len=>rw[jU ha _ h]
 case dT=>rw[jU ha _ h.1,jU ha _ h.2]
 case kJ=>rw[jU ha _ h.1,jU ha _ h.2]
 case e5=>rw[jU ha _ h]
 case l7=>rw[jU ha _ h.1,jU ha _ h.2]
theorem OO {n m:Nat} (hle:n<=m):∀o:Option J,qY.Ck n o=true->qY.Ck m o=true
 |none,_=>rfl
 |some v,h=>lY hle v h
theorem agW {n m:Nat} (hle:n<=m) {f:fF} (h:qY.uc n f=true):qY.uc m f=true:=by
 cases f<;>simp only [qY.uc,cV] at h ⊢
 case bin=>exact⟨lY hle _ h.1,lY hle _ h.2⟩
 case un=>exact lY hle _ h
 case conv=>exact lY hle _ h
 case k3=>exact⟨lY hle _ h.1,OO hle _ h.2.1,OO hle _ h.2.2.1,OO hle _ h.2.2.2⟩
 case cm=>exact⟨lY hle _ h.1,lY hle _ h.2⟩
 case dP=>exact⟨lY hle _ h.1,lY hle _ h.2⟩
 case bf=>exact lY hle _ h
 case b7=>exact lY hle _ h
 case dp=>exact lY hle _ h
 case len=>exact lY hle _ h
 case dT=>exact⟨lY hle _ h.1,lY hle _ h.2⟩
 case kJ=>exact⟨lY hle _ h.1,lY hle _ h.2⟩
 case e5=>exact lY hle _ h
 case l7=>exact⟨lY hle _ h.1,lY hle _ h.2⟩
theorem agX {n:Nat} {M:Mem} {e1 e2:List J} (ha:mI n (cn M e1) (cn M e2)) {f:fF} {r:J} (aO:qY.uc n f=true) (hr:jT n r=true) (h: @aZ (cn M e1) P (f,r)): @aZ (cn M e2) P (f,r):=by
 obtain⟨h1,ae,ar⟩:=h;refine⟨h1,ae,?_⟩;simp only at ar ⊢;rw[<-agV ha f aO,<-jU ha r hr];exact ar
theorem agY {n:Nat} {M:Mem} {e1 e2:List J} (ha:mI n (cn M e1) (cn M e2)) {f:FuncId} {args:List J} {r:J} (aO:nN n args=true) (hr:jT n r=true) (h: @oe (cn M e1) P (f,args,r)): @oe (cn M e2) P (f,args,r):=by
 obtain⟨h1,ae,ar⟩:=h;refine⟨h1,ae,?_⟩;simp only at ar ⊢;rw[<-Ar ha args aO,<-jU ha r hr];exact ar
theorem mI.mono {n m:Nat} {s1 s2:a6} (h:mI n s1 s2) (hm:m<=n):mI m s1 s2:=λk ag=>h k aj
theorem mI.trans {n:Nat} {s1 s2 od:a6} (h:mI n s1 s2) (ae:mI n s2 od):mI n s1 od:=λk ag=>(h k ag).trans (ae k ag)
section
variable {B:Nat} {W:ao} {au:List b4} {ro:List (fk P)}
def mK (B:Nat) (W:ao) (au:List b4) (L:List (aw P)) (env:List J) (F:i'):Prop:=∀M,b6 B (aE W) au M (bD L)->∀ext,@sI (cn M (ext++env)) P F
def mL (B:Nat) (W:ao) (au:List b4) (L:List (aw P)) (env:List J) (T:jg):Prop:=∀M,b6 B (aE W) au M (bD L)->∀ext,∀p∈T,@oe (cn M (ext++env)) P p
theorem mK.ext {L:List (aw P)} {env:List J} {F:i'} (h:mK B W au L env F) (vs:List J):mK B W au L (vs++env) F:=λM aV ext=>by
 have:=h M aV (ext++vs)
 rwa [List.append_assoc] at this
theorem mL.ext {L:List (aw P)} {env:List J} {T:jg} (h:mL B W au L env T) (vs:List J):mL B W au L (vs++env) T:=λM aV ext=>by
 have:=h M aV (ext++vs)
 rwa [List.append_assoc] at this
theorem mK.snoc {L:List (aw P)} {env:List J} {n:Nat} {F:i'} (ak:env.length=n) (h:mK B W au L env F) {f:fF} {r:J} (aO:∀M,b6 B (aE W) au M (bD L)-> @aZ (cn M env) P (f,r)) (h1:qY.uc n f=true) (ae:jT n r=true):mK B W au L env (F++[(f,r)]):=λM aV ext p hp=>by
 rcases List.mem_append.1 hp with hp|hp
 ·exact h M aV ext p hp
 ·rw[List.mem_singleton] at hp
  subst hp;exact agX (sO M M ak) h1 ae (aO M aV)
theorem mL.snoc {L:List (aw P)} {env:List J} {n:Nat} {T:jg} (ak:env.length=n) (h:mL B W au L env T) {f:FuncId} {args:List J} {r:J} (aO:∀M,b6 B (aE W) au M (bD L)-> @oe (cn M env) P (f,args,r)) (h1:nN n args=true) (ae:jT n r=true):mL B W au L env (T++[(f,args,r)]):=λM aV ext p hp=>by
 rcases List.mem_append.1 hp with hp|hp
 ·exact h M aV ext p hp
 ·rw[List.mem_singleton] at hp
  subst hp;exact agY (sO M M ak) h1 ae (aO M aV)
theorem mK.marks (L:List (aw P)) (env:List J) (l:List aK):mK B W au L env (EZ l):=λM _ ext p hp=>by
 obtain⟨t,_,rfl⟩:=List.mem_map.1 hp;cases Nat.beq t 1000000
 ·exact @lv (cn M (ext++env)) P (t:Int)
 ·exact @Ei (cn M (ext++env)) P (.e5 (.bool true)) (.bool true) U U U λ_ _ _=>rfl
theorem mL.nil (L:List (aw P)) (env:List J):mL B W au L env []:=λ_ _ _ _ h=>by cases h
theorem VR {L:List (aw P)} (da:∀M,kR (aE W) au M->dR ro M) {M:Mem} (cj:b6 B (aE W) au M (bD L)) {w:ao} (hw:∀i o,M i=some o->w.heap[i]? =some o):ji W au ro L w:=by
 have he:kR (aE W) au (aE w):=λi o h1 ae=>hw i o (EV cj i o h1 ae)
 exact⟨cj.sp.mono λb o _ ho=>hw b o ho,da _ he,he,cj.fresh⟩
theorem VS {L:List (aw P)} (da:∀M,kR (aE W) au M->dR ro M) {n m:Nat} {env vs:List J} {f:FuncId} {args:List J} {r:J} (ak:env.length=n) (h1:eJ (vs.reverse++env)) (aJ:eJ env) (hm:vs.length=m) (ha:nN n args=true) (hp:ev args=true) (hr:aP r=true)
  (ai:∀w,ji W au ro L w->Calls P f ⟨fG env n args⟩ w λe w'=>e= .returned (ex (vs.reverse++env) (n+m) r)/\cA w.heap.size w w') (M:Mem) (cj:b6 B (aE W) au M (bD L)): @oe (cn M (vs.reverse++env)) P (f,args,r):=by
 refine⟨hp,hr,λw hw=> ?_⟩;have fY: @e4 (cn M (vs.reverse++env)) args=fG env n args:=by
  rw[<-Ar (sO M M ak) args ha];exact rS M aJ ak args
 have lq: @aM (cn M (vs.reverse++env)) r=ex (vs.reverse++env) (n+m) r:=jS M h1 (by simp [ak,hm,Nat.add_comm]) r;simp only;rw[fY,lq];exact ai w (VR da cj hw)
end
theorem h'.agZ [a6] [cK] [Lib P] {F:i'} {T:jg} {N d B:Nat} {w0 w:ao} {a:Act} {s:cC} {Q:Exit->Act->ao->Prop} (aU:nI Q) (cH:P.follows .mixedOrders=true) (cl:sI P F) (dE:rI P T) (dC:h') (h:eW P N B w0 Q (dC.run P F T N d s)) (al:Here N s B w0 a w):dC.jR P Q a w:=by
 cases dC with
 |k x ks=>
  obtain⟨st,h1,ae⟩:=h;letI:dO P:=⟨F⟩;letI:sG P:=⟨T⟩;have ai:=zQ (gl:= .nil) (bk:=1000) cH cl dE d;exact pk cH ai ks x s st Q a w aU h1 ae al
 |ops r os ks=>
  haveI:nh Q:=⟨aU⟩
  exact Mr cH cl dE h al
 |any bk os listed ks=>
  obtain⟨st,h1,_⟩:=h;cases h1
section
variable [Lib P] (cf:hJ) (B:Nat) (W:ao) (au:List b4) (post:J->List (aw P)->Prop)
def Jd (e:Ending) (w:ao):Prop:=∃v L',e= .returned v/\post v L'/\ef (aE W) au (aE w) (bD L')
abbrev k9 (M:Mem) (env:List J) (s:cC) (a:Act) (w:ao):Prop:= @Here (cn M env) eV cf.N s B W a w
inductive l0:List h8->List (eu P)->(Exit->Act->ao->Prop)->List J->Prop
 |nil (env:List J):l0 [] [] (@p1 eV P cf.fn cf.N B W λe w=>Jd W au post e w/\cA B W w) env
 |cons {c:h8} {cs:List h8} {vp:eu P} {aL:List (eu P)} {Q:Exit->Act->ao->Prop} {env cR nR:List J} {R:Act->ao->Prop} (dd:env=cR++nR) (ak:nR.length=c.n) (h:l0 cs aL Q env)
   (hb:∀M ml L vs bG s a w,b6 B (aE W) au M (bD L)->(∃n2,ml=n2++nR)->eJ ml->vp (fG ml ml.length vs) L->d' s c.sl c.aT=some bG->Cm c.n vs bG=true->p2 c.aT=true->k9 cf B W M ml s a w->R a w):l0 (c::cs) (vp::aL) (Exit.then R (dK P c.ks Q)) env
variable {cf B W au post}
omit [Lib P] in
theorem l0.ext {cs:List h8} {aL:List (eu P)} {Q:Exit->Act->ao->Prop} {env:List J} (h:l0 cf B W au post cs aL Q env) (cR:List J):l0 cf B W au post cs aL Q (cR++env):=by
 induction h with
 |nil env=>exact .nil _
 |cons dd ak _ hb b9=>exact .cons (cR:=cR++_) (by rw[dd,List.append_assoc]) ak b9 hb
omit [Lib P] in
theorem l0.calm {cs:List h8} {aL:List (eu P)} {Q:Exit->Act->ao->Prop} {env:List J} (h:l0 cf B W au post cs aL Q env):nI Q:=by
 induction h with
 |nil env=>exact(inferInstance:nh _).calm
 |cons dd ak _ hb b9=>exact(b9.vg _).then _
def ow (cf:hJ) (B:Nat) (W:ao) (au:List b4) (ro:List (fk P)) (post:J->List (aw P)->Prop) (G:iw):Prop:=
 ∀n cs dC cU sl aT F T o t,G n cs dC cU sl aT F T o=some t->yC cU (eg sl aT) sl aT->∀gU cR L aL Q,db B W au ro post n (cR++gU) L aL t->(cR++gU).length=n->gU.length=cU->eJ (cR++gU)->l0 cf B W au post cs aL Q gU->
  mK B W au L (cR++gU) F->mL B W au L (cR++gU) T->∀M,b6 B (aE W) au M (bD L)->∀a w,k9 cf B W M gU (eg sl aT) a w->dC.jR P Q a w
theorem Fe (n:Nat) (s:a6):mI n s s:=λ_ _=>rfl
theorem Cr {M:Mem} {n:Nat} {e1 e2:List J} {s:cC} {sl:a1} {aT:List bS} {a:Act} {w:ao} (ha:mI n (cn M e1) (cn M e2)) (h:yC n s sl aT) (al:k9 cf B W M e1 s a w):k9 cf B W M e2 (eg sl aT) a w:=by
 obtain⟨bG,ho,h1,ae⟩:=h;exact @Here.move eV (cn M e1) (cn M e2) _ _ _ _ _ _ _ _ _ ho (Cq ha h1) (λ_ _ h=>h) (Nat.zero_le _) (fR ae) al
omit [Lib P] in
theorem Je {ro:List (fk P)} {G:iw} (eE:ow cf B W au ro post G) {n:Nat} {cs:List h8} {dC:h'} {F:i'} {T:jg} {sl:a1} {aT:List bS} {go:h'->a1->List bS->Option bQ} {t:a7} (h:E5 G n cs dC F T sl aT go=some t) {env:List J} {L:List (aw P)} {aL:List (eu P)} {Q:Exit->Act->ao->Prop} (hw:db B W au ro post n env L aL t) (ak:env.length=n) (ho:eJ env)
  (ai:l0 cf B W au post cs aL Q env) (cl:mK B W au L env F) (dE:mL B W au L env T) {M:Mem} (aV:b6 B (aE W) au M (bD L)) {a:Act} {w:ao} (al:qZ n aT=true->k9 cf B W M env (eg (lZ aT.length n sl) aT) a w):dC.jR P Q a w:=by
 rw[agH] at h;cases ad:qZ n aT with
 |false=>rw[ad] at h;cases h
 |true=>
  rw[ad,bs] at h;exact eE n cs dC n _ aT _ _ _ t h (agR ad) env [] L aL Q hw ak ak ho ai cl dE M aV a w (al ad)
theorem sQ {ro:List (fk P)} {G:iw} (eE:ow cf B W au ro post G) {n:Nat} {cs:List h8} {dC:h'} {sl:a1} {aT:List bS} {t:a7} (h:qg P cf G n cs dC sl aT=some t) {env:List J} {L:List (aw P)} {aL:List (eu P)} {Q:Exit->Act->ao->Prop} (hw:db B W au ro post n env L aL t) (ak:env.length=n) (ho:eJ env)
  (ai:l0 cf B W au post cs aL Q env) {M:Mem} (aV:b6 B (aE W) au M (bD L)) {a:Act} {w:ao} (al:k9 cf B W M env (eg sl aT) a w):dC.jR P Q a w:=
 Je eE h hw ak ho ai (mK.marks _ _ _) (mL.nil _ _) aV λad=>Cr (Fe n _) (VQ ad) al
theorem VT {ro:List (fk P)} {G:iw} (eE:ow cf B W au ro post G) {n:Nat} {cs:List h8} {dC:h'} {s:cC} {t:a7} (h:I_ P cf G n cs dC s=some t) {env:List J} {L:List (aw P)} {aL:List (eu P)} {Q:Exit->Act->ao->Prop} (hw:db B W au ro post n env L aL t) (ak:env.length=n) (ho:eJ env)
  (ai:l0 cf B W au post cs aL Q env) {M:Mem} (aV:b6 B (aE W) au M (bD L)) {a:Act} {w:ao} (al:k9 cf B W M env s a w):dC.jR P Q a w:=by
 unfold I_ at h;cases hs:yB s with
 |false=>rw[hs] at h;cases h
 |true=>
  rw[hs,bs] at h;exact Je eE h hw ak ho ai (mK.marks _ _ _) (mL.nil _ _) aV λad=>Cr (Fe n _) (OL hs ad) al
theorem OP {a b:Option a7} {f:a7->a7->a7} {t:a7} (h:two a b f=some t):∃x y,a=some x/\b=some y/\t=f x y:=by
 unfold two at h;split at h
 ·split at h
  ·cases h;exact⟨_,_,rfl,rfl,rfl⟩
  ·cases h
 ·cases h
omit [Lib P] in
theorem OQ {ro:List (fk P)} (da:∀M,kR (aE W) au M->dR ro M) {G:iw} (eE:ow cf B W au ro post G) {n:Nat} {cs:List h8} {dC:h'} {cU:Nat} {sl:a1} {aT:List bS} {F:i'} {T:jg} {go:i'->Option bQ} {x:fF×J×Nat×Bool} {t:a7} (h:E6 P G n cs dC cU sl aT F T go x=some t) (l6:yC cU (eg sl aT) sl aT)
  {gU cR:List J} {L:List (aw P)} {aL:List (eu P)} {Q:Exit->Act->ao->Prop} (hw:db B W au ro post n (cR++gU) L aL t) (ak:(cR++gU).length=n) (fX:gU.length=cU) (ho:eJ (cR++gU)) (ai:l0 cf B W au post cs aL Q gU) (cl:mK B W au L (cR++gU) F) (dE:mL B W au L (cR++gU) T)
  (M:Mem) (aV:b6 B (aE W) au M (bD L)) (a:Act) (w:ao) (al:k9 cf B W M gU (eg sl aT) a w):dC.jR P Q a w:=by
 obtain⟨f,r,m,b⟩:=x;unfold E6 at h;simp only at h;cases hu:qY.uc n f with
 |false=>rw[hu] at h;cases h
 |true=>
  rw[hu,bs] at h;cases b with
  |true=>
   rw[bs] at h;obtain⟨cB,cW,e1,e2,rfl⟩:=OP h;cases hw with
   |s b aO h1 ae=>
    have mY:∀M,b6 B (aE W) au M (bD L)-> @aZ (cn M (cR++gU)) P (f,.bool b):=λM aV=>aO M aV (da M (EV aV))
    cases b with
    |true=>exact eE n cs dC cU sl aT _ T _ cB e1 l6 gU cR L aL Q (h1 rfl) ak fX ho ai (cl.snoc ak mY hu rfl) dE M aV a w al
    |false=>exact eE n cs dC cU sl aT _ T _ cW e2 l6 gU cR L aL Q (ae rfl) ak fX ho ai (cl.snoc ak mY hu rfl) dE M aV a w al
  |false=>
   rw[dZ] at h;cases hr:jT (n+m) r with
   |false=>rw[hr] at h;cases h
   |true=>
    rw[hr,bs] at h;obtain⟨k,e,rfl⟩:=Option.map_eq_some_iff.1 h;cases hw with
    |o vs hm h1 aO ag=>
     have hl:(vs.reverse++(cR++gU)).length=n+m:=by simp only [List.length_append,List.length_reverse] at ak ⊢;omega
     rw[<-List.append_assoc] at ag hl;have ag0:qY.uc (n+m) f=true:=agW (Nat.le_add_right n m) hu;refine eE (n+m) cs dC cU sl aT _ T _ k e l6 gU (vs.reverse++cR) L aL Q ag hl fX ?_ ai ?_ ?_ M aV a w al
     ·rw[List.append_assoc];exact qV (nM h1) ho
     ·refine mK.snoc hl ?_ (λM aV=> ?_) ag0 hr
      ·rw[List.append_assoc];exact cl.ext _
      ·rw[List.append_assoc];exact aO M aV (da M (EV aV))
     ·rw[List.append_assoc];exact dE.ext _
omit [Lib P] in
theorem OR {ro:List (fk P)} (da:∀M,kR (aE W) au M->dR ro M) {G:iw} (eE:ow cf B W au ro post G) {n:Nat} {cs:List h8} {dC:h'} {cU:Nat} {sl:a1} {aT:List bS} {F:i'} {T:jg} {go:jg->Option bQ} {x:FuncId×List J×J×Nat×Bool} {t:a7} (h:E7 G n cs dC cU sl aT F T go x=some t) (l6:yC cU (eg sl aT) sl aT)
  {gU cR:List J} {L:List (aw P)} {aL:List (eu P)} {Q:Exit->Act->ao->Prop} (hw:db B W au ro post n (cR++gU) L aL t) (ak:(cR++gU).length=n) (fX:gU.length=cU) (ho:eJ (cR++gU)) (ai:l0 cf B W au post cs aL Q gU) (cl:mK B W au L (cR++gU) F) (dE:mL B W au L (cR++gU) T)
  (M:Mem) (aV:b6 B (aE W) au M (bD L)) (a:Act) (w:ao) (al:k9 cf B W M gU (eg sl aT) a w):dC.jR P Q a w:=by
 obtain⟨f,args,r,m,b⟩:=x;unfold E7 at h;simp only at h;cases hu:nN n args&&ev args with
 |false=>rw[hu] at h;cases h
 |true=>
  rw[hu,bs] at h;simp only [cV] at hu;obtain⟨hu,hp⟩:=hu;cases b with
  |true=>
   rw[bs] at h;obtain⟨cB,cW,e1,e2,rfl⟩:=OP h;cases hw with
   |cs b zN h1 ae=>
    have mY:∀M,b6 B (aE W) au M (bD L)-> @oe (cn M (cR++gU)) P (f,args,.bool b):=λM aV=>VS (vs:=[]) (m:=0) da ak ho ho rfl hu hp rfl zN M aV
    cases b with
    |true=>exact eE n cs dC cU sl aT F _ _ cB e1 l6 gU cR L aL Q (h1 rfl) ak fX ho ai cl (dE.snoc ak mY hu rfl) M aV a w al
    |false=>exact eE n cs dC cU sl aT F _ _ cW e2 l6 gU cR L aL Q (ae rfl) ak fX ho ai cl (dE.snoc ak mY hu rfl) M aV a w al
  |false=>
   rw[dZ] at h;cases hr:jT (n+m) r&&aP r with
   |false=>rw[hr] at h;cases h
   |true=>
    rw[hr,bs] at h;simp only [cV] at hr;obtain⟨hr,zq⟩:=hr;obtain⟨k,e,rfl⟩:=Option.map_eq_some_iff.1 h;cases hw with
    |c vs hm h1 zN ag=>
     have hl:(vs.reverse++(cR++gU)).length=n+m:=by simp only [List.length_append,List.length_reverse] at ak ⊢;omega
     have kY:eJ (vs.reverse++(cR++gU)):=qV (nM h1) ho;rw[<-List.append_assoc] at ag hl;refine eE (n+m) cs dC cU sl aT F _ _ k e l6 gU (vs.reverse++cR) L aL Q ag hl fX ?_ ai ?_ ?_ M aV a w al
     ·rw[List.append_assoc];exact kY
     ·rw[List.append_assoc];exact cl.ext _
     ·refine mL.snoc hl ?_ (λM aV=> ?_) (Cj (Nat.le_add_right n m) _ hu) hr
      ·rw[List.append_assoc];exact dE.ext _
      ·rw[List.append_assoc];exact VS da ak kY ho hm hu hp zq zN M aV
theorem ag1 {ro:List (fk P)} {G:iw} (eE:ow cf B W au ro post G) {n:Nat} {cs:List h8} {x:kd} {s:cC} {t:a7} (h:Oo P cf G n cs x s=some t) {env:List J} {L:List (aw P)} {aL:List (eu P)} {Q:Exit->Act->ao->Prop} (hw:db B W au ro post n env L aL t) (ak:env.length=n) (ho:eJ env)
  (ai:l0 cf B W au post cs aL Q env) {M:Mem} (aV:b6 B (aE W) au M (bD L)) {a:Act} {w:ao} (al:k9 cf B W M env s a w):Q x.exit' a w:=by
 unfold Oo at h;split at h
 ·split at h
  ·rename_i v ax
   cases h;cases ai;cases hw with
   |ret L' hL hp=>
    letI:=cn M env;letI:=eV;refine Tq ax (λw2 hl af=> ?_) a w al;refine⟨⟨_,L',?_,hp,(hL M aV).done af⟩,hl⟩;rw[jS M ho ak v]
  ·split at h
   ·rename_i t x tw
    cases hp:aP x with
    |false=>rw[hp] at h;cases h
    |true=>
     rw[hp,bs,cz] at h;subst h;cases ai;cases hw with
     |nO i hL ah ha hs ax af L' dE ag2=>
      letI:=cn M env;letI:=eV;obtain⟨st,e,cF⟩:=ae8 (R:=λe w=>Jd W au post e w/\cA B W w) tw hp ((jS M ho ak x).trans ah) (aV.box i (kf hL)) ha hs ax ((jS M ho ak _).trans af) (λw2 hl ag3=>⟨⟨_,L',rfl,ag2,(dE M aV).done ag3⟩,hl⟩);cases e;exact cF a w al
   ·cases h
 ·rename_i c cs'
  cases ai with
  | @cons _ _ vp amK amL _ cR nR R dd kM zp hb=>
    split at h
    ·split at h
     ·rename_i bG gN
      cases ad:Cm c.n (I6 bG c.m c.n) bG&&p2 c.aT with
      |false=>rw[ad] at h;cases h
      |true=>
       rw[ad,bs,cz] at h;subst h;simp only [cV] at ad;cases hw with
       |back Ff=>exact hb M env L _ bG s a w aV ⟨cR,dd⟩ ho (by rw[ak];exact Ff) gN ad.1 ad.2 al
     ·cases h
    ·rename_i ah
     obtain⟨k,e,rfl⟩:=Option.map_eq_some_iff.1 h;cases hw with
     |c4 ag=>
      have:=VT eE e ag ak ho zp aV al;exact HK (P:=P) (y:= .skip) (λh=>ah h) this _
theorem ag4 {ro:List (fk P)} {G:iw} (eE:ow cf B W au ro post G) {n:Nat} {cs:List h8} {body:Code} {s:cC} {ks:List fu} {t:a7} (h:Oq P cf G n cs body s ks=some t) {env:List J} {L:List (aw P)} {aL:List (eu P)} {Q:Exit->Act->ao->Prop} (hw:db B W au ro post n env L aL t) (ak:env.length=n) (ho:eJ env)
  (ai:l0 cf B W au post cs aL Q env) {M:Mem} (aV:b6 B (aE W) au M (bD L)) {a:Act} {w:ao} (al:k9 cf B W M env s a w):(Code.loop body).wpIn (Fr none) 0 P (dK P ks Q) a w:=by
 unfold Oq at h;split at h
 ·rename_i m hm
  exact wpIn_loop_rounds m (VT eE h hw ak ho ai aV al)
 split at h
 ·rename_i oX nP vs rB
  split at h
  ·rename_i bG gN
   cases ad:Cm n vs bG&&p2 nP with
   |false=>rw[ad] at h;cases h
   |true=>
    rw[ad,bs] at h;simp only [cV] at ad;obtain⟨k,e,rfl⟩:=Option.map_eq_some_iff.1 h;cases hw with
    |loop dD bj cd eK gD im hm h1 aJ hL bg ag=>
     letI:=eV;refine Te (N:=cf.N) (B:=B) (w0:=W) (X:=Mem×dD) (λx=>cn x.1 ((bj x.2).reverse++env)) (eg oX nP) (λx=>b6 B (aE W) au x.1 (bD (cd x.2))/\eK x.2) (λx=>gD x.2) (λx ah b2 w1 mb=> ?_) (M,im) ⟨hL M aV,bg⟩ ?_
     ·obtain⟨qe,u⟩:=x
      obtain⟨qR,hF⟩:=ah;refine sQ (dC:= .k .normal [.lL body]) (cs:=⟨oX,nP,n,vs.length,ks⟩::cs) (Q:=Exit.then (λaR w'=>∃x':Mem×dD,(b6 B (aE W) au x'.1 (bD (cd x'.2))/\eK x'.2)/\gD x'.2<gD u/\k9 cf B W x'.1 ((bj x'.2).reverse++env) (eg oX nP) aR w') (dK P ks Q)) eE e (ag u hF) (by simp [ak,hm,Nat.add_comm]) (qV (nM (h1 u)) ho) ?_ qR mb;refine .cons (cR:=(bj u).reverse) (nR:=env) rfl ak (ai.ext _) ?_;intro pw ml ku VU ag5 s2 cr w2 OS Ax zh Ff cY OT hB gH;obtain⟨n2,Ax⟩:=Ax;obtain⟨u',OU,wI,l8,dE⟩:=Ff;exact⟨(pw,u'),⟨dE pw OS,OU⟩,wI,@Here.move eV (cn pw ml) (cn pw ((bj u').reverse++env)) _ _ _ _ _ _ _ _ _ cY (OM Ax ak zh (h1 u') l8.symm OT) (λ_ _ h=>h) (Nat.zero_le _) (fR hB) gH⟩
     ·exact @Here.move eV (cn M env) (cn M ((bj im).reverse++env)) _ _ _ _ _ _ _ _ _ gN (OM (n2:=[]) rfl ak ho (h1 im) (by rw[ak];exact aJ.symm) ad.1) (λ_ _ h=>h) (Nat.zero_le _) (fR ad.2) al
  ·cases h
 ·cases h
theorem Fg {M:Mem} {n:Nat} {env:List J} {v u:J} {s:cC} {sl:a1} {aT:List bS} {a:Act} {w:ao} (ax: @aM (cn M env) v= @aM (cn M env) u) (h:sP n v u s sl aT=true) (al:k9 cf B W M env s a w):k9 cf B W M env (eg sl aT) a w:=by
 unfold sP at h;simp only [cV] at h;obtain⟨h1,ae⟩:=h;split at h1
 ·rename_i bG ho
  exact @Here.move eV (cn M env) (cn M env) _ _ _ _ _ _ _ _ _ ho (agS (Fe n _) ax h1) (λ_ _ h=>h) (Nat.zero_le _) (fR ae) al
 ·cases h1
theorem OV {ro:List (fk P)} {G:iw} (eE:ow cf B W au ro post G) {n:Nat} {cs:List h8} {v:J} {s:cC} {mj nQ:h'} {t:a7} (h:E_ P cf G n cs v s mj nQ=some t) {env:List J} {L:List (aw P)} {aL:List (eu P)} {Q:Exit->Act->ao->Prop} (hw:db B W au ro post n env L aL t) (ak:env.length=n) (ho:eJ env)
  (ai:l0 cf B W au post cs aL Q env) {M:Mem} (aV:b6 B (aE W) au M (bD L)) {a:Act} {w:ao} (al:k9 cf B W M env s a w):∃b,@aM (cn M env) v= .bool b/\(bif b then mj else nQ).jR P Q a w:=by
 unfold E_ at h;split at h
 ·rename_i b jr
  cases ad:sP n v (.bool b) s (jF n v (.bool b) s).1 (jF n v (.bool b) s).2 with
  |false=>rw[ad] at h;cases h
  |true=>
   rw[ad,bs] at h;obtain⟨k,e,rfl⟩:=Option.map_eq_some_iff.1 h;have key:∀b',ex env n v= .bool b'->b'=b->db B W au ro post n env L aL k->∃b,@aM (cn M env) v= .bool b/\(bif b then mj else nQ).jR P Q a w:=λb' ah dw ag=>by
    subst dw;have af: @aM (cn M env) v= .bool b':=(jS M ho ak v).trans ah;exact⟨b',af,sQ eE e ag ak ho ai aV (Fg (by rw[af];rfl) ad al)⟩
   cases b with
   |true=>
    rw[bs] at hw;cases hw with
    |bb b ah h1 ae=>
     cases b with
     |true=>exact key _ ah rfl (h1 rfl)
     |false=>cases ae rfl
   |false=>
    rw[dZ] at hw;cases hw with
    |bb b ah h1 ae=>
     cases b with
     |true=>cases h1 rfl
     |false=>exact key _ ah rfl (ae rfl)
 cases ad:sP n v (.bool true) s (jF n v (.bool true) s).1 (jF n v (.bool true) s).2&&sP n v (.bool false) s (jF n v (.bool false) s).1 (jF n v (.bool false) s).2 with
 |false=>rw[ad] at h;cases h
 |true=>
  rw[ad,bs] at h;simp only [cV] at ad;obtain⟨cB,cW,e1,e2,rfl⟩:=OP h;cases hw with
  |bb b ah h1 ae=>
   have af: @aM (cn M env) v= .bool b:=(jS M ho ak v).trans ah;refine⟨b,af,?_⟩;cases b with
   |true=>exact sQ eE e1 (h1 rfl) ak ho ai aV (Fg (by rw[af];rfl) ad.1 al)
   |false=>exact sQ eE e2 (ae rfl) ak ho ai aV (Fg (by rw[af];rfl) ad.2 al)
theorem ag6 {ro:List (fk P)} {G:iw} (eE:ow cf B W au ro post G) {n:Nat} {cs:List h8} {v:J} {s:cC} {x y:Code} {ks:List fu} {oX:a1} {nP:List bS} {m:Nat} {t:a7} (h:Ox P cf G n cs v s x y ks oX nP m=some t) {env:List J} {L:List (aw P)} {aL:List (eu P)} {Q:Exit->Act->ao->Prop} (hw:db B W au ro post n env L aL t) (ak:env.length=n) (ho:eJ env)
  (ai:l0 cf B W au post cs aL Q env) {M:Mem} (aV:b6 B (aE W) au M (bD L)) {a:Act} {w:ao} (al:k9 cf B W M env s a w):∃b,@aM (cn M env) v= .bool b/\(if b then x else y).wpIn (Fr none) 0 P (dK P ks Q) a w:=by
 unfold Ox at h;cases ad:sP n v (.bool true) s (jF n v (.bool true) s).1 (jF n v (.bool true) s).2&&sP n v (.bool false) s (jF n v (.bool false) s).1 (jF n v (.bool false) s).2 with
 |false=>rw[ad] at h;cases h
 |true=>
  rw[ad,bs] at h;simp only [cV] at ad;split at h
  ·rename_i cB e1
   split at h
   ·rename_i cW e2
    obtain⟨k,fI,rfl⟩:=Option.map_eq_some_iff.1 h;cases hw with
    |qW b ah dD bj cd eK hm GL h1 ae ag=>
     have af: @aM (cn M env) v= .bool b:=(jS M ho ak v).trans ah;refine⟨b,af,?_⟩
     let R:Act->ao->Prop:=λaR w'=>∃x':Mem×dD,(b6 B (aE W) au x'.1 (bD (cd x'.2))/\eK x'.2)/\k9 cf B W x'.1 ((bj x'.2).reverse++env) (eg oX nP) aR w'
     have VV:l0 cf B W au post (⟨oX,nP,n,m,ks⟩::cs) ((λdf L'=>∃u',eK u'/\df=bj u'/\h4 B W au L' (cd u'))::aL) (Exit.then R (dK P ks Q)) env:=by
      refine .cons (cR:=[]) (nR:=env) rfl ak ai ?_;intro pw ml ku VU ag5 s2 cr w2 OS Ax zh Ff cY OT hB gH;obtain⟨n2,Ax⟩:=Ax;obtain⟨u',OU,l8,dE⟩:=Ff;exact⟨(pw,u'),⟨dE pw OS,OU⟩,@Here.move eV (cn pw ml) (cn pw ((bj u').reverse++env)) _ _ _ _ _ _ _ _ _ cY (OM Ax ak zh (GL u') l8.symm OT) (λ_ _ h=>h) (Nat.zero_le _) (fR hB) gH⟩
     have ft:∀e aR w',Exit.then R (dK P ks Q) e aR w'->dK P ks Q e aR w':=λe aR w' hp=>by
      cases e with
      |normal=>
       obtain⟨⟨qe,u⟩,⟨qR,hF⟩,mb⟩:=hp;exact sQ (dC:= .k .normal ks) eE fI (ag u hF) (by simp [ak,hm,Nat.add_comm]) (qV (nM (GL u)) ho) (ai.ext _) qR mb
      |_=>exact hp
     cases b with
     |true=>exact wpIn_mono (sQ (dC:= .k .normal [.lL x]) eE e1 (h1 rfl) ak ho VV aV (Fg (by rw[af];rfl) ad.1 al)) ft
     |false=>exact wpIn_mono (sQ (dC:= .k .normal [.lL y]) eE e2 (ae rfl) ak ho VV aV (Fg (by rw[af];rfl) ad.2 al)) ft
   ·cases h
  ·cases h
theorem VW {M:Mem} {env:List J} {s:cC} {a:Act} {w:ao} {c:Operand} (hp:aP (dU .nil s.sl c)=true) (al:k9 cf B W M env s a w):a.eval c= @aM (cn M env) (dU .nil s.sl c):=by
 letI:=cn M env;obtain⟨⟨φ,ds,h1,ae,ar,bm,_⟩,cg,cu⟩:=al;exact aD.hY _ hp (fZ (hE φ) ae.get c)
end
end AE
end Go.Proofs.YtepcfjbfkedlpaaGreatDoor
