/- Parts of the proof. -/
import Derived.Test.YtepcfjbfkedlpaaGreatDoorIf2
import Derived.Laws.OwnMore
import Derived.Laws.CopyRow
import Derived.Laws.Pointers
set_option maxRecDepth 100000
set_option maxHeartbeats 4000000
namespace Go.Proofs.YtepcfjbfkedlpaaGreatDoor
open Go Go.RowKit
namespace AE
theorem Ug {α:Type} {k:Nat} {enc:α->List U} (ag:∀x,(enc x).length=k) {j:Nat} (hj:j<k) {mD:U} {y:α}:∀(l:List α) (i:Nat),i<l.length->(∀x,l[i]? =some x->enc y=(enc x).set j mD)->(l.set i y).flatMap enc=(l.flatMap enc).set (i*k+j) mD
 |[],i,h,_=>by simp at h
 |x::r,0,_,bg=>by
  rw[List.set_cons_zero,List.flatMap_cons,List.flatMap_cons,bg x rfl,List.set_append_left _ _ (by rw[ag];omega),Nat.zero_mul,Nat.zero_add]
 |x::r,i+1,h,bg=>by
  rw[List.set_cons_succ,List.flatMap_cons,List.flatMap_cons,Ug ag hj r i (by simpa using h) (λz bG=>bg z (by simpa using bG)),List.set_append_right _ _ (by rw[ag,Nat.add_mul];omega),ag];congr 2;rw[Nat.add_mul];omega
theorem Uh [cI] {α:Type} {P:aQ} {N B:Nat} {w0:au} {Q:Exit->Act->au->Prop} {M:Mem} {bh bx:List U} {o:Option bP} {t e:aH} {k:Nat} {p x u mD:U} {enc:α->List U} {l l':List α} {i j:Nat} {y:α} {dM dF:aT} {aU:List bM} {bH:ev}
  (fa:l'=l.set i y) (h:nY o=some (t,p,x)) (cb:a7 P (sizeOf t)=some 1) (ag:∀x,(enc x).length=k) (hj:j<k) (bg:∀z,l[i]? =some z->enc y=(enc z).set j mD)
  (c1:dy (cW o) dM aU=some bH) (eg:gy N dM (iT o) undef=some dF) (hp:aM p=true) (ak:aM x=true) (lv: @aK (aX M bh) p=iS u (i*k+j)) (ex: @aK (aX M bh) x=mD) (hu:mD.cells= #[mD]) (jL:mD.oneCell'=true)
  (cm:dJ B M e k enc u l) (af:i<l.length) (hm:∀M',fm (aX M bh) (aX M' bx) bH)
  (rest:∀M',dJ B M' e k enc u l'->g_ M M' (eF u)->∀aS w,@Here (aX M' bx) _ N {sl:=dF,ms:=[],A:=eJ aU} B w0 aS w->wpListIn (Fr none) 0 P (jS o) (dS P (gX o) Q) (jR o) aS w)
  (aq:cI.dt<=aU.length:=by first|exact Nat.zero_le _|exact hJ rfl) (al:ic (cW o).A aU 0:=by exact f_ rfl): @e0 (aX M bh) _ P N B w0 Q o:=by
 subst fa;letI:=aX M bh;unfold nY at h;split at h
 ·rename_i op r ops s ks
  refine⟨_,rfl,λa w ai=> ?_⟩;split at h
  ·rename_i da nz ga cj
   split at h
   ·rename_i iv
    cases h;have fT:=ai;obtain⟨⟨φ,ds,h1,ae,ay,bE,_⟩,cn,cy⟩:=ai;unfold wpListIn;rw[nx ae.get iv,aN rfl];have es:a.eval nz=iS u (i*k+j):=(aD.iq _ hp (gg (hX φ) ae.get nz)).trans lv;have mV:a.eval ga=mD:=(aD.iq _ ak (gg (hX φ) ae.get ga)).trans ex;have hw:∀i o,M i=some o->w.heap[i]? =some o:=fT.mz;rcases cm with ⟨gB,rfl,rfl⟩|⟨g,cap,cur,rfl,j1,dI,bj,hle,wX,gv,xr⟩
    ·simp at af
    ·have az:=hw _ _ bj
     have Iq:i*k+j<cur.size:=by
      rw[gv];have:=Nat.mul_le_mul_right k (show i+1<=cap by omega);rw[Nat.add_mul] at this;omega
     let fg:Array U:=(cur.toList.take (i*k+j)++[mD]++cur.toList.drop (i*k+j+1)).toArray
     have eZ:fg=(cur.toList.set (i*k+j) mD).toArray:=by
      show (cur.toList.take (i*k+j)++[mD]++cur.toList.drop (i*k+j+1)).toArray=_;rw[List.set_eq_take_append_cons_drop,aN (by rw[Array.length_toList];exact Iq)];simp
     have wV:(storeCells ⟨g,i*k+j,none⟩ [mD]).run P w= .ok () (w.setRow g fg):=by
      have:=run_storeCells_at P g (i*k+j) e [mD] 0 cur w az (by simp only [List.length_cons,List.length_nil];omega) (λv aC=>by rw[List.mem_singleton.1 aC];exact jL);simpa only [Nat.add_zero,List.length_cons,List.length_nil] using this
     have eQ:(execOp a.eval op).run P w= .ok .skip (w.setRow g fg):=by
      unfold execOp;rw[cj];simp only [es,mV];show (do Instr.storeAt t (iS (.slice (some ⟨g,0,none⟩) l.length cap) (i*k+j)) mD;pure Next.skip:Sem Next).run P w=_;have cB:(Instr.storeAt t (iS (.slice (some ⟨g,0,none⟩) l.length cap) (i*k+j)) mD).run P w= .ok () (w.setRow g fg):=by
       unfold Instr.storeAt;refine cK (a:=(⟨g,0+(i*k+j),none⟩:Addr)) rfl ?_;unfold storeVar;refine cK cb ?_;rw[aO (by rw[hu];simp),hu,Nat.zero_add];exact wV
      simp only [Sem.run_bind,cB,Result.andThen_ok];rfl
     have ff:∀c',op.op≠.defer c':=λc' h=>by rw[cj] at h;cases h
     refine⟨λ_ _=>trivial,?_⟩;rw[Oper.semAt_eq _ _ _ ff,eQ,Oper.uponIn_skip];have gW:eF (.slice (some ⟨g,0,none⟩) l.length cap)=some g:=mU ⟨g,0,none⟩ _ j1;obtain⟨q1,aE⟩:=oA (B:=B) (M:=M) (w':=w.setRow g fg) (T:=some g) (dQ:=some g) hw (λi af=>by cases af;exact⟨by rw[bj];simp,dI⟩) (λi af=> .inl af) ⟨rfl,rfl,rfl⟩ (bY _) (by simp [World.setRow]) (λj _ hj=>setRow_other w g j fg (λh=>hj (by rw[h])));have oD:dJ B (gk M (w.setRow g fg) (some g) (some g)) e k enc (.slice (some ⟨g,0,none⟩) l.length cap) (l.set i y):=by
      refine .inr ⟨g,cap,fg,by rw[List.length_set],j1,dI,?_,by rw[List.length_set];exact hle,wX,by rw[eZ];simpa using gv,?_⟩
      ·unfold gk
       rw[aN rfl];exact setRow_heap w g cur fg e (0,0) az
      ·rw[eZ,List.length_set,Ug ag hj l i af bg,<-xr]
       exact List.take_set ..
     have gN:=Here.turns (vals':=bx) c1 (hm _) q1 aq al fT;letI:=aX (gk M (w.setRow g fg) (some g) (some g)) bx;exact rest _ oD (by rw[gW];exact aE) _ _ (Here.put (d:=op.dst) gN (v:=undef) rfl eg)
   ·cases h
  ·cases h
 ·cases h
theorem M9 [cI] {P:aQ} {N B:Nat} {w0:au} {Q:Exit->Act->au->Prop} {M:Mem} {bh bx:List U} {o:Option bP} {t ty:aH} {g j n:Nat} {p x:U} {us cs cs':List U} {dM dF:aT} {aU:List bM} {bH:ev}
  (fa:cs'=cs.take j++us++cs.drop (j+n)) (h:nY o=some (t,p,x)) (cb:a7 P (sizeOf t)=some n)
  (c1:dy (cW o) dM aU=some bH) (eg:gy N dM (iT o) undef=some dF) (hp:aM p=true) (ak:aM x=true) (lv: @aK (aX M bh) p= .pointer (some ⟨g,j,none⟩)) (ex: @aK (aX M bh) x= .agg ⟨us⟩) (hu:us.length=n) (jL:∀u∈us,u.oneCell'=true)
  (cm:iJ B M (.pointer (some ⟨g,0,none⟩)) ty cs) (hj:j+n<=cs.length) (hm:∀M',fm (aX M bh) (aX M' bx) bH)
  (rest:∀M',iJ B M' (.pointer (some ⟨g,0,none⟩)) ty cs'->g_ M M' (some g)->∀aS w,@Here (aX M' bx) _ N {sl:=dF,ms:=[],A:=eJ aU} B w0 aS w->wpListIn (Fr none) 0 P (jS o) (dS P (gX o) Q) (jR o) aS w)
  (aq:cI.dt<=aU.length:=by first|exact Nat.zero_le _|exact hJ rfl) (al:ic (cW o).A aU 0:=by exact f_ rfl): @e0 (aX M bh) _ P N B w0 Q o:=by
 subst fa;letI:=aX M bh;unfold nY at h;split at h
 ·rename_i op r ops s ks
  refine⟨_,rfl,λa w ai=> ?_⟩;split at h
  ·rename_i da nz ga cj
   split at h
   ·rename_i iv
    cases h;have fT:=ai;obtain⟨⟨φ,ds,h1,ae,ay,bE,_⟩,cn,cy⟩:=ai;unfold wpListIn;rw[nx ae.get iv,aN rfl];have es:a.eval nz= .pointer (some ⟨g,j,none⟩):=(aD.iq _ hp (gg (hX φ) ae.get nz)).trans lv;have mV:a.eval ga= .agg ⟨us⟩:=(aD.iq _ ak (gg (hX φ) ae.get ga)).trans ex;have hw:∀i o,M i=some o->w.heap[i]? =some o:=fT.mz;obtain⟨bj,dI⟩:=cm.known;have az:=hw _ _ bj
    let fg:Array U:=(cs.take j++us++cs.drop (j+n)).toArray
    have wV:(storeCells ⟨g,j,none⟩ us).run P w= .ok () (w.setRow g fg):=by
     have:=run_storeCells_at P g j ty us 0 ⟨cs⟩ w az (by simp only [List.size_toArray];omega) jL;simp only [Nat.add_zero,hu] at this;exact this
    have eQ:(execOp a.eval op).run P w= .ok .skip (w.setRow g fg):=by
     unfold execOp;rw[cj];simp only [es,mV];show (do Instr.storeAt t (.pointer (some ⟨g,j,none⟩)) (.agg ⟨us⟩);pure Next.skip:Sem Next).run P w=_;have cB:(Instr.storeAt t (.pointer (some ⟨g,j,none⟩)) (.agg ⟨us⟩)).run P w= .ok () (w.setRow g fg):=by
      unfold Instr.storeAt;refine cK (a:=(⟨g,j,none⟩:Addr)) rfl ?_;unfold storeVar;refine cK cb ?_;rw[aO (by simp [Value.cells,hu])];exact wV
     simp only [Sem.run_bind,cB,Result.andThen_ok];rfl
    have ff:∀c',op.op≠.defer c':=λc' h=>by rw[cj] at h;cases h
    refine⟨λ_ _=>trivial,?_⟩;rw[Oper.semAt_eq _ _ _ ff,eQ,Oper.uponIn_skip];obtain⟨q1,aE⟩:=oA (B:=B) (M:=M) (w':=w.setRow g fg) (T:=some g) (dQ:=some g) hw (λi af=>by cases af;exact⟨by rw[bj];simp,dI⟩) (λi af=> .inl af) ⟨rfl,rfl,rfl⟩ (bY _) (by simp [World.setRow]) (λj _ hj=>setRow_other w g j fg (λh=>hj (by rw[h])));have oD:iJ B (gk M (w.setRow g fg) (some g) (some g)) (.pointer (some ⟨g,0,none⟩)) ty (cs.take j++us++cs.drop (j+n)):=by
     refine⟨g,rfl,dI,?_⟩;unfold gk;rw[aN rfl];exact setRow_heap w g ⟨cs⟩ fg ty (0,0) az
    have gN:=Here.turns (vals':=bx) c1 (hm _) q1 aq al fT;letI:=aX (gk M (w.setRow g fg) (some g) (some g)) bx;exact rest _ oD aE _ _ (Here.put (d:=op.dst) gN (v:=undef) rfl eg)
   ·cases h
  ·cases h
 ·cases h
section
variable [aY] {P:aQ}
theorem aR.Ir {B g o n:Nat} {ty t:aH} {cs us:List U} {p r:U} (cm:iJ B aY.dg (.pointer (some ⟨g,0,none⟩)) ty cs) (hu:us=(cs.drop o).take n) (hp:aM p=true) (hr:aM r=true) (ha:a7 P (isAgg t)=some true) (aq:a7 P (sizeOf t)=some n) (hl:us.length=n) (lv:aK p= .pointer (some ⟨g,o,none⟩)) (bX:aK r= .agg ⟨us⟩):aR P (.bp t p,r):=
 aR.bp hp hr ha aq lv hl (λw hw j u hj=>by
  rw[cell_of_row w g _ ⟨cs⟩ ty (0,0) (hw _ _ cm.known.1)];rw[hu,List.getElem?_take] at hj;split at hj
  ·rw[List.getElem?_drop] at hj
   simpa using hj
  ·cases hj) bX
end
theorem kf.drop {α:Type} {B:Nat} {M:Mem} {e:aH} {k:Nat} {enc:α->List U} (ag:∀x,(enc x).length=k) {a:Option Addr} {n c:Nat} {l:List α} (h:kf B M e k enc (.slice a n c) l) {j:Nat} (hj:j<=n):kf B M e k enc (.slice (kD a c j k) (n-j) (c-j)) (l.drop j):=by
 rcases h with ⟨aS,h,rfl⟩|⟨g,off,rq,cur,h,al,dI,bj,hle,wX,gv,xr⟩
 ·cases h
  obtain rfl:j=0:=by omega
  exact .inl ⟨_,rfl,rfl⟩
 ·cases h
  by_cases Iq:c=j
  ·subst Iq
   have aJ:l.drop c=[]:=List.drop_eq_nil_of_le hle;rw[aJ];refine .inl ⟨kD (some ⟨g,off,none⟩) c c k,?_,rfl⟩;rw[show l.length-c=0 by omega,Nat.sub_self]
  ·have aee:kD (some ⟨g,off,none⟩) c j k=some ⟨g,off+j*k,none⟩:=by
    unfold kD;rw[aO Iq];simp [Addr.jZ]
   refine .inr ⟨g,off+j*k,c-j,cur,by rw[aee,List.length_drop],ao,dI,bj,by rw[List.length_drop];omega,ao,?_,?_⟩
   ·rw[gv,Nat.sub_mul]
    have:=Nat.mul_le_mul_right k (show j<=c by omega);omega
   ·rw[List.length_drop,Nat.sub_mul,<-List.drop_drop]
    have h1:=congrArg (List.drop (j*k)) xr;rw[List.drop_take] at h1;rw[h1,MG ag l j]
theorem aef {α:Type} {P:aQ} {w:au} {B:Nat} {M:Mem} {t ty e:aH} {i:TypeInfo} {z:U} {k bytes:Nat} (aI:P.underlying t=some (.slice e)) (af:P.info? e=some i) (bG:i.zero=some z) (fX:i.size=k) (jv:i.bytes=bytes) (lu:z.cells.size=k) (hg:0<k)
  {enc:α->List U} (ag:∀x,(enc x).length=k) (jL:∀x,∀u∈enc x,u.oneCell'=true) {v x:U} {l lx:List α} (cm:kf B M e k enc v l) (ak:rj w k enc x lx) (hw:∀i o,M i=some o->w.heap[i]? =some o) (dI:B<=w.heap.size)
  (ie:l.length+lx.length<=maxLen) (k6:(l.length+lx.length)*bytes<=140737488355328):
  ∃aB w' M',(Builtin.append_ #[t,t] ty #[v,x]).run P w= .ok aB w'/\kf B M' e k enc aB (l++lx)/\AR B M M' (eF v) w w'/\g_ M M' (eF v)/\∀j,some j=eF aB->some j=eF v\/M j=none:=by
 have Ui:∀{a:Option Addr},v= .slice a 0 0->l=[]->∃aB w' M',(Builtin.append_ #[t,t] ty #[v,x]).run P w= .ok aB w'/\kf B M' e k enc aB (l++lx)/\AR B M M' (eF v) w w'/\g_ M M' (eF v)/\∀j,some j=eF aB->some j=eF v\/M j=none:=by
  intro a ha hl;subst hl;subst ha;have jM:dJ B M e k enc (.slice a 0 0) []:= .inl ⟨a,rfl,rfl⟩;obtain⟨aB,w',M',q1,aE,b9,ey⟩:=MD (ty:=ty) aI af bG fX jv lu hg ag jL jM ak hw dI ie k6;refine⟨aB,w',M',q1,aE.queue,b9,ey,λj hj=> ?_⟩;rcases TJ aI af bG fX jv lu hg ag jL jM ak hw ie k6 q1 j hj with h|h
  ·exact .inl h
  ·exact .inr (y4 hw h)
 rcases cm with ⟨a,rfl,rfl⟩|⟨g,off,cap,cur,rfl,j1,vZ,bj,hle,wX,gv,xr⟩
 ·exact Ui J J
 clear Ui;obtain⟨vY,c,rfl,xl,ka⟩:=ak;have gW:eF (.slice (some ⟨g,off,none⟩) l.length cap)=some g:=mU ⟨g,off,none⟩ _ j1;have cm:kf B M e k enc (.slice (some ⟨g,off,none⟩) l.length cap) l:= .inr ⟨g,off,cap,cur,rfl,j1,vZ,bj,hle,wX,gv,xr⟩;by_cases hm:lx=[]
 ·subst hm
  refine⟨_,w,M,MA aI af hle,by rw[List.append_nil];exact cm,⟨λi af=>cm.known i af,rfl,rfl,rfl,bY _,bY _,λ_ _ _=>rfl,λi o h=>⟨hw i o h,.inl (by rw[h];simp)⟩⟩,λi o h _=>h,λj h=> .inl h⟩
 ·cases vY with
  |none=>exact absurd (xl rfl) hm
  |some gB=>
   have hlen:=qm ag lx;have qY:0<lx.length:=List.length_pos_iff.2 hm;have h1:∀u∈lx.flatMap enc,u.oneCell'=true:=λu hu=>by
    obtain⟨y,_,bg⟩:=List.mem_flatMap.1 hu;exact jL y u bg
   have az:=hw _ _ bj;subst fX;subst jv;have ig:∀i,some i=some g->M i≠none/\B<=i:=λi af=>by
    cases af;exact⟨by rw[bj];simp,vZ⟩
   rw[gW];by_cases CC:l.length+lx.length<=cap
   ·have RZ:=Nat.mul_le_mul_right i.size CC
    rw[Nat.add_mul] at RZ;have pC:off+l.length*i.size+(lx.flatMap enc).length<=cur.size:=by rw[hlen,gv];omega
    let fg:Array U:=(cur.toList.take (off+l.length*i.size)++lx.flatMap enc++cur.toList.drop (off+l.length*i.size+(lx.flatMap enc).length)).toArray
    have eQ:(Builtin.append_ #[t,t] ty #[.slice (some ⟨g,off,none⟩) l.length cap,.slice (some gB) lx.length c]).run P w= .ok (.slice (some ⟨g,off,none⟩) (l.length+lx.length) cap) (w.setRow g fg):=by
     have aP:=run_firstCells_some (P:=P) w i.size lx.length gB lx.length c _ hlen (ka gB rfl);have cB:=run_storeCells_at P g (off+l.length*i.size) e (lx.flatMap enc) 0 cur w az (by simpa using pC) h1;simp only [Nat.add_zero] at cB;simp [Builtin.append_,run_underlying aI,sizeOf,typeInfo,af,Builtin.lenOf,CC,aP,Addr.jZ,cB,fg]
    have Mp:fg.size=cur.size:=by
     simp only [fg,List.size_toArray,List.length_append,List.length_take,List.length_drop,Array.length_toList];omega
    obtain⟨q1,aE⟩:=oA (B:=B) (M:=M) (w':=w.setRow g fg) (T:=some g) (dQ:=some g) hw ig (λi af=> .inl af) ⟨rfl,rfl,rfl⟩ (bY _) (by simp [World.setRow]) (λj _ hj=>setRow_other w g j fg (λh=>hj (by rw[h])));refine⟨_,_,_,eQ,.inr ⟨g,off,cap,fg,by rw[List.length_append],j1,vZ,?_,by rw[List.length_append];exact CC,wX,by rw[Mp,gv],?_⟩,q1,aE,λj hj=> ?_⟩
    ·unfold gk
     rw[aN rfl];exact setRow_heap w g cur fg e (0,0) az
    ·have Is:(cur.toList.drop off).length=cap*i.size:=by
      rw[List.length_drop,Array.length_toList (xs:=cur),gv];omega
     have aeg:((cur.toList.drop off).take (l.length*i.size)).length=l.length*i.size:=by
      rw[List.length_take,Is];omega
     have alx:(cur.toList.take (off+l.length*i.size)).length=off+l.length*i.size:=by
      rw[List.length_take,Array.length_toList (xs:=cur),gv];omega
     have e2:fg.toList.drop off=(cur.toList.drop off).take (l.length*i.size)++(lx.flatMap enc++cur.toList.drop (off+l.length*i.size+(lx.flatMap enc).length)):=by
      show ((cur.toList.take (off+l.length*i.size)++lx.flatMap enc++_)).drop off=_;rw[List.append_assoc,List.drop_append_of_le_length ao,List.drop_take,show off+l.length*i.size-off=l.length*i.size by omega]
     rw[e2,List.length_append,List.flatMap_append,<-xr,<-List.append_assoc];exact List.take_left' (by rw[List.length_append,aeg,hlen,Nat.add_mul])
    ·exact .inl (by rw[mU ⟨g,off,none⟩ _ j1] at hj;exact hj)
   ·have holds:∀j u,(l.flatMap enc)[j]? =some u->w.cell? ((⟨g,off,none⟩:Addr).add j)=some u:=λj u hj=>by
     rw[Addr.jZ,cell_of_row w _ _ _ _ _ az];rw[<-xr,List.getElem?_take] at hj;split at hj
     ·rw[List.getElem?_drop] at hj
      simpa using hj
     ·cases hj
    have MC:l.length+lx.length<=9223372036854775807:=by simp only [maxLen] at ie;omega
    have eQ:=run_append_grow (P:=P) w t ty e i z aI af bG ⟨g,off,none⟩ l.length cap _ (qm ag l) holds gB lx.length c _ hlen (ka gB rfl) ao ao (growslice_fits ao k6);have kx:=grownCap_ge w (l.length+lx.length) cap e;have H3:=grownCap_le_maxLen w (l.length+lx.length) cap e ie;obtain⟨q1,aE⟩:=oA (B:=B) (M:=M) (w:=w) (w':=w.drew.alloc (.cells ((l.flatMap enc).toArray++(lx.flatMap enc).toArray++Builtin.zeroCells z.cells (grownCap w (l.length+lx.length) cap e-(l.length+lx.length))) e)) (T:=some g) (dQ:=some w.heap.size) hw ig (λi af=>by cases af;exact .inr (bY _)) ⟨rfl,rfl,rfl⟩ (bY _) (by simp) (λj hj _=>heap_alloc_old w.drew _ hj);refine⟨_,_,_,eQ,.inr ⟨w.heap.size,0,grownCap w (l.length+lx.length) cap e,(l.flatMap enc).toArray++(lx.flatMap enc).toArray++Builtin.zeroCells z.cells (grownCap w (l.length+lx.length) cap e-(l.length+lx.length)),by rw[List.length_append],ao,dI,?_,by rw[List.length_append];exact kx,H3,?_,?_⟩,q1,aE,λj hj=> ?_⟩
    ·unfold gk
     rw[aN rfl];exact heap_alloc_new w.drew _
    ·simp only [Array.size_append,List.size_toArray,size_zeroCells,lu,qm ag,<-Nat.add_mul]
     rw[Nat.zero_add];congr 1;omega
    ·simp only [Array.toList_append,List.append_assoc,List.drop_zero]
     rw[List.length_append,List.flatMap_append,<-List.append_assoc];exact List.take_left' (by rw[List.length_append,qm ag,qm ag,Nat.add_mul])
    ·right
     have:j=w.heap.size:=by
      rw[mU _ _ (show 0<grownCap w (l.length+lx.length) cap e by omega)] at hj;exact Option.some.inj hj
     exact y4 hw ao
theorem M_ [cI] {α:Type} {P:aQ} {N B:Nat} {w0:au} {Q:Exit->Act->au->Prop} {M:Mem} {bh:List U} {o:Option bP} {t e:aH} {k bytes:Nat} {i:TypeInfo} {z vs jT ec:U} {enc:α->List U} {l lx l':List α} {bx:Option Addr->Nat->List U} {dM dF:aT} {aU:List bM} {bH:ev}
  (fa:l'=l++lx) (h:si t o=some (vs,jT)) (aI:P.underlying t=some (.slice e)) (af:P.info? e=some i) (bG:i.zero=some z) (fX:i.size=k) (jv:i.bytes=bytes) (lu:z.cells.size=k) (hg:0<k) (ag:∀x,(enc x).length=k) (jL:∀x,∀u∈enc x,u.oneCell'=true)
  (c1:dy (cW o) dM aU=some bH) (eg:gy N dM (iT o) ec=some dF) (fF:aM ec=true) (T:Option Nat)
  (cm:∀φ w v,@bR (aX M bh) φ (cW o).A w-> @aD (aX M bh) φ vs v->kf B M e k enc v l/\eF v=T)
  (iU:∀φ w x,@bR (aX M bh) φ (cW o).A w-> @aD (aX M bh) φ jT x->rj w k enc x lx)
  (ie:l.length+lx.length<=maxLen) (k6:(l.length+lx.length)*bytes<=140737488355328)
  (hm:∀M' a c,fm (aX M bh) (aX M' (bx a c)) bH) (aC:∀M' a c,@aK (aX M' (bx a c)) ec= .slice a l'.length c)
  (rest:∀M' a c,kf B M' e k enc (.slice a l'.length c) l'->g_ M M' T->(∀i,some i=eF (.slice a l'.length c)->some i=T\/M i=none)->∀aS w,@Here (aX M' (bx a c)) _ N {sl:=dF,ms:=[],A:=eJ aU} B w0 aS w->wpListIn (Fr none) 0 P (jS o) (dS P (gX o) Q) (jR o) aS w)
  (aq:cI.dt<=aU.length:=by first|exact Nat.zero_le _|exact hJ rfl) (al:ic (cW o).A aU 0:=by exact f_ rfl): @e0 (aX M bh) _ P N B w0 Q o:=by
 subst fa;letI:=aX M bh;unfold si at h;split at h
 ·rename_i op r ops s ks
  refine⟨_,rfl,λa w ai=> ?_⟩;split at h
  ·rename_i dc cj
   split at h
   ·rename_i mB ga qg gf
    cases Na:decide (dc.argTypes= #[t,t]) with
    |false=>rw[Na] at h;cases h
    |true=>
     rw[Na,bw] at h;have xm:=of_decide_eq_true Na;split at h
     ·rename_i iv
      cases h;have fT:=ai;obtain⟨⟨φ,ds,h1,ae,ay,bE,_⟩,cn,cy⟩:=ai;unfold wpListIn;rw[nx ae.get iv,aN rfl];have hw:∀i o,M i=some o->w.heap[i]? =some o:=fT.mz;obtain⟨EY,eb⟩:=cm φ w (a.eval mB) ay (gg (hX φ) ae.get mB);have xt:=iU φ w (a.eval ga) ay (gg (hX φ) ae.get ga);obtain⟨aB,w',M',g1,g2,g3,g4,jQ⟩:=aef (ty:=op.type) aI af bG fX jv lu hg ag jL EY xt hw cy ie k6;obtain⟨EZ,lz,rfl⟩:=g2.slice;rw[eb] at g3 g4 jQ;have eQ:(execOp a.eval op).run P w= .ok (.value (.slice EZ (l++lx).length lz)) w':=by
       unfold execOp resolve;rw[cj];simp only [qg,gf,xm,List.map_toArray,List.map_cons,List.map_nil];show (do pure (Next.value (<-Builtin.append_ #[t,t] op.type #[a.eval mB,a.eval ga])):Sem Next).run P w=_;simp only [Sem.run_bind,g1,Result.andThen_ok];rfl
      have ff:∀c',op.op≠.defer c':=λc' h=>by rw[cj] at h;cases h
      refine⟨λ_ _=>trivial,?_⟩;rw[Oper.semAt_eq _ _ _ ff,eQ,Oper.uponIn_value];have gN:=Here.turns (vals':=bx EZ lz) c1 (hm M' EZ lz) g3 aq al fT;letI:=aX M' (bx EZ lz);have kd:=Here.put (d:=op.dst) gN (v:=ec) fF eg;rw[aC] at kd;exact rest M' EZ lz g2 g4 jQ _ w' kd
     ·cases h
   ·cases h
  ·cases h
 ·cases h
theorem Nb {α:Type} {B:Nat} {M:Mem} {bh:List U} {vs:U} {A:aW} {e:aH} {k:Nat} {enc:α->List U} {v:U} {l:List α} (hp:aM vs=true) (a': @aK (aX M bh) vs=v) (cm:kf B M e k enc v l):
  ∀φ w x,@bR (aX M bh) φ A w-> @aD (aX M bh) φ vs x->kf B M e k enc x l/\eF x=eF v:=λφ w x _ ak=>by
 letI:=aX M bh;have e1:=(aD.iq vs hp ak).trans a';subst e1;exact⟨cm,rfl⟩
end AE
end Go.Proofs.YtepcfjbfkedlpaaGreatDoor
namespace Go.Proofs.YtepcfjbfkedlpaaGreatDoor
open Go Go.Proofs Go.RowKit
namespace AE
theorem Here.Uj [cI] {s1 s2:aY} {N B:Nat} {st:b6} {w0 w:au} {a:Act} {sl:aT} {l:List bM} {bH:ev} (c1:dy st sl l=some bH) (hm:fm s1 s2 bH) {φ:bQ} {ds:List Deferred}
  (h1:qi φ st.ms ds) (ae: @fu s1 N ds φ st.sl a) (ay: @bR s1 φ st.A w) (bE:∀b e,φ b=some e->B<=e.bf) (fx:ux φ st.A) (cn:ch B w0 w) (cy:B<=w.heap.size)
  (pG:∀i o,s2.dg i=some o->w.heap[i]? =some o/\∀b e,b<l.length->φ b=some e->e.bf≠i) (aq:cI.dt<=l.length) (al:ic st.A l 0): @Here s2 _ N {sl,ms:=[],A:=eJ l} B w0 a w:=by
 unfold dy at c1;split at c1
 ·rename_i uA
  cases hM:AI l with
  |false=>rw[hM] at c1;cases c1
  |true=>
   rw[hM,bw] at c1;obtain⟨x,y,ak,bg,rfl⟩:=uy c1;rw[uA] at h1;cases h1;have hold:∀b k,(eJ l).bl.get b=some k->∃x ft o,l[b]? =some x/\k=x.bf b/\st.A.bl.get b=some ft/\ft.cE=b/\ft.eB=x.eB/\ft.ty=x.ty/\ft.ro=false/\AJ l.length ft.obj x.obj=some o/\∀p∈o,p∈y:=λb k ag=>by
    obtain⟨x,q1,aE⟩:=yV ag;obtain⟨ft,o,cS,dL,fZ⟩:=EB l 0 bg b x q1;rw[Nat.zero_add] at cS dL;exact⟨x,ft,o,q1,aE,cS,dL,fZ⟩
   have yX:∀b e,φ b=some e->w.heap[e.bf]? =w.heap[e.bf]? :=λ_ _ _=>rfl
   have gp:∀b,b<l.length->∃k,(eJ l).bl.get b=some k:=λb ad=>by
    have:=List.all_eq_true.1 hM b (by simpa using ad);simp only [c0] at this;obtain⟨_,hm⟩:=this;split at hm
    ·rename_i k ag;exact⟨k,ag⟩
    ·cases hm
   refine⟨⟨mT l.length φ,[],.nil,⟨@fu.size s1 _ _ _ _ _ ae,@fu.defers s1 _ _ _ _ _ ae,λt fi AL=>Cw st.sl sl ak hm.left t fi _ AL λv1 vW=> @fu.get s1 _ _ _ _ _ ae t v1 vW⟩,⟨Tn hM,?_,?_,?_,λi o af=> ?_⟩,λb e ad=>bE b e (pF ad).2,aq,λb ad=>by unfold mT;rw[aN (Nat.lt_of_lt_of_le ad aq)];exact fx.2 b ad⟩,cn,cy⟩
   ·intro b e ad
    obtain⟨b8,hF⟩:=pF ad;obtain⟨k,ag⟩:=gp b b8;obtain⟨x,ft,o,q1,rfl,b9,ey,hv,lJ,qa,gq,As⟩:=hold b k ag;obtain⟨cV,cS,dL,fZ⟩:= @bR.ep s1 _ _ _ ay b e hF;rw[b9] at cS;cases cS;refine⟨_,ag,by rw[dL,hv];rfl,?_⟩;unfold fy at fZ ⊢;show match x.obj with| .cells c=>_| .map es eE=>_| .fL x=>_
    cases fq:ft.obj with
    |cells c=>
     rw[fq] at gq;simp only [fq] at fZ;cases hY:x.obj with
     |cells c2=>
      rw[hY] at gq;obtain⟨c',jJ,g1,g2,g3,g4,jQ⟩:=fZ;have np:∀i,i<c.length->((List.range c.length).map λj=>c'.getD (e.sh+j) undef).getD i undef=c'.getD (e.sh+i) undef:=λi af=>by
       rw[dr,List.getElem?_map,List.getElem?_range af];rfl
      have:=Cv (s1:=s1) (s2:=s2) (φ:=φ) c c2 gq (λp hp=>hm.right p (As p hp)) ((List.range c.length).map λj=>c'.getD (e.sh+j) undef) (by simp) λi af=>by
       rw[np i af];exact g4 i af
      obtain⟨t1,t2⟩:=this;simp only [List.length_map,List.length_range] at t1;refine⟨c',jJ,by rw[yX b e hF,show (x.bf b).ty=ft.ty from lJ.symm];exact g1,g2,by rw[<-t1,show (x.bf b).eB=ft.eB from hv.symm];exact g3,λj hj=> ?_,λ_=>jQ qa⟩;have:=t2 j hj;rw[np j ao] at this;exact this
     |map es eE=>rw[hY] at gq;cases gq
     |fL z=>rw[hY] at gq;cases gq
    |map es eE=>
     rw[fq] at gq;cases hY:x.obj<;>rw[hY] at gq<;>cases gq
    |fL z=>
     rw[fq] at gq;simp only [fq] at fZ;obtain⟨j4,o',g1,g2⟩:=fZ;cases hY:x.obj with
     |cells c2=>rw[hY] at gq;cases z<;>cases gq
     |map es eE=>rw[hY] at gq;cases z<;>cases gq
     |fL z2=>
      rw[hY] at gq;refine⟨j4,o',(yX b e hF).trans g1,?_⟩;cases z with
      |loop a=>
       cases z2 with
       |loop b=>
        unfold AJ at gq;simp only at gq;cases av:EA l.length a b with
        |false=>rw[av] at gq;cases gq
        |true=>
         rw[av,bw] at gq;unfold EA at av;simp only [c0,decide_eq_true_eq,Option.isNone_iff_eq_none] at av;obtain⟨ez,c2,c3,p8,EC,HW,HX⟩:=av;have o2:=Ms al q1 hY;rw[Nat.zero_add] at o2;unfold HV at o2;rw[b9] at o2;simp only [fq,cx,Prod.mk.injEq] at o2;obtain⟨r,iR,tr,xd,AB,AD,Ep,Er,⟨e',Mt,u8⟩,Mu⟩:=g2;refine⟨r,iR,tr.trans (Tq ez),by rw[xd,c2,c3],by rw[AB,ct p8],by rw[AD,EC],by rw[Ep,o2.1],by rw[Er,o2.2],⟨e',?_,u8⟩,λt v aC=> ?_⟩
         ·rw[<-ct HW]
          exact Cu Mt (Nat.blt_eq.mp HX)
         ·exact Cw (s1:=s1) a.sl b.sl gq (λp hp=>hm.right p (As p hp)) t v _ aC λv1 vW=>Mu t v1 vW
       |_=>cases gq
      |_=>cases z2<;>first|(cases gq;done)|exact g2
   ·intro b e k b' e' k' ad dN ag dm cC
    obtain⟨_,hF⟩:=pF ad;obtain⟨_,r7⟩:=pF dN;obtain⟨x,ft,o,q1,rfl,b9,ey,_⟩:=hold b k ag;obtain⟨x',ED,o',t',rfl,rX,EE,_⟩:=hold b' k' dm;exact @bR.apart s1 _ _ _ ay b e ft b' e' ED hF r7 b9 rX (by rw[ey,EE];exact cC)
   ·intro b e k b' e' k' ad dN ag dm aP _
    obtain⟨_,hF⟩:=pF ad;obtain⟨_,r7⟩:=pF dN;obtain⟨x,ft,o,q1,rfl,b9,ey,_⟩:=hold b k ag;obtain⟨x',ED,o',t',rfl,rX,EE,_⟩:=hold b' k' dm;have:b=b':=aP;subst this;rw[hF] at r7;cases r7;rfl
   ·obtain⟨g1,g2⟩:=pG i o af
    exact⟨g1,λb e ad=>g2 b e (pF ad).1 (pF ad).2⟩
 ·cases c1
def Nc {α:Type} (B:Nat) (M:Mem) (e:aH) (enc:α->List U) (g:Nat) (l:List α):Prop:=
 B<=g/\∃cur fr,M g=some (.cells cur e fr)/\(∀i,i<cur.size->¬(fr.1<=i/\i<fr.2))/\cur.toList=l.flatMap enc
theorem Nc.arr {α:Type} {B:Nat} {M:Mem} {e:aH} {k:Nat} {enc:α->List U} {g:Nat} {l:List α} (h:Nc B M e enc g l) (ag:∀x,(enc x).length=k):b7 M k enc (.slice (some ⟨g,0,none⟩) l.length l.length) l:=by
 obtain⟨_,cur,fr,h1,_,ay⟩:=h;refine .mk h1 (bY _) λi x ak j u hu=> ?_
 have:=AQ ag l i x ak j u hu;rw[<-ay] at this;simpa using this
theorem Here.freeze [cI] {α:Type} {M:Mem} {bh:List U} {bx:Nat->List U} {N B:Nat} {st:b6} {w0 w:au} {a:Act} {sl dT:aT} {l:List bM} {bH:ev} {b t q:Nat} {k:hE} {cs:List U} {enc:α->List U} {xs:List α}
  (ai: @Here (aX M bh) _ N st B w0 a w) (ag:st.A.bl.get b=some k) (fq:k.obj= .cells cs) (Nd:k.eB=0) (oo:k.cE=b) (dC:k.ro=false) (gv:dW cs=true) (xu: @et (aX M bh) cs=xs.flatMap enc) (ad:l.length<=b)
  (E0:st.sl.get t=some (.pointer (some ⟨b,0,none⟩))) (c1:dy st sl l=some bH) (hm:∀M' g,fm (aX M bh) (aX M' (bx g)) bH) (eZ:b4.set (aj q) depth sl t=some dT) (a1:∀g,l6 (bx g) q= .pointer (some ⟨g,0,none⟩))
  (aq:cI.dt<=l.length) (al:ic st.A l 0):
  ∃g M',Nc B M' k.ty enc g xs/\(∀i o,M i=some o->M' i=some o)/\M g=none/\ @Here (aX M' (bx g)) _ N {sl:=dT,ms:=[],A:=eJ l} B w0 a w:=by
 obtain⟨⟨φ,ds,h1,ae,ay,bE,fx⟩,cn,cy⟩:=ai;have aC:= @fu.get (aX M bh) _ _ _ _ _ ae t _ E0;generalize hp:a.tmps.getD t undef=aeh at aC;cases aC with
 |ptr he=>
  rename_i e;obtain⟨cV,cS,dL,fZ⟩:= @bR.ep (aX M bh) _ _ _ ay b e he;rw[ag] at cS;cases cS;unfold fy at fZ;rw[fq] at fZ;obtain⟨c',jJ,g1,g2,g3,g4,jQ⟩:=fZ;obtain⟨g6,g7⟩:=g3.2 Nd;have vV:M e.bf=none:=by
   cases af:M e.bf with
   |none=>rfl
   |some o=>exact absurd rfl ((@bR.dg (aX M bh) _ _ _ ay e.bf o af).2 b e he)
  let M':Mem:=λi=>if i=e.bf then some (.cells c' k.ty jJ) else M i
  have tA:M' e.bf=some (.cells c' k.ty jJ):=aN rfl;have pI:∀i o,M i=some o->M' i=some o:=λi o af=>by
   show (if i=e.bf then _ else M i)=some o;rw[aO (λh=>by rw[h,vV] at af;cases af)];exact af
  have ka:c'.toList=xs.flatMap enc:=by
   rw[<-xu];refine @aD.yF (aX M bh) φ cs c'.toList gv (by simp [g7]) λi af=> ?_
   have:=g4 i af;rw[g6,Nat.zero_add] at this;simpa [e5] using this
  have qt:=c1;unfold dy at qt;have Nf:∀b' x,l[b']? =some x->∃ft,st.A.bl.get b'=some ft/\ft.cE=b':=λb' x ak=>by
   split at qt
   ·cases hM:AI l with
    |false=>rw[hM] at qt;cases qt
    |true=>
     rw[hM,bw] at qt;obtain⟨gA,xi,_,bg,_⟩:=uy qt;obtain⟨ft,o,cS,dL,_⟩:=EB l 0 bg b' x ak;rw[Nat.zero_add] at cS dL;exact⟨ft,cS,dL⟩
   ·cases qt
  have az:=Here.Uj (s2:=aX M' (bx e.bf)) c1 (hm M' e.bf) h1 ae ay bE fx cn cy (λi o af=>by
   by_cases rZ:i=e.bf
   ·subst rZ
    have:some (Obj.cells c' k.ty jJ)=some o:=tA.symm.trans af;cases this;refine⟨g1,λb' e' dN qb heq=> ?_⟩;obtain⟨ft,q1,aE⟩:=Nf b' _ (fP dN);exact @bR.apart (aX M bh) _ _ _ ay b' e' ft b e k qb he q1 ag (by rw[aE,oo];omega) heq
   ·have lH:M i=some o:=by
     have:(if i=e.bf then some (Obj.cells c' k.ty jJ) else M i)=some o:=af
     rwa [aO rZ] at this
    obtain⟨q1,aE⟩:= @bR.dg (aX M bh) _ _ _ ay i o lH
    exact⟨q1,λb' e' _ qb=>aE b' e' qb⟩) aq al
  refine⟨e.bf,M',⟨bE b e he,c',jJ,tA,λi af=>jQ dC i af,ka⟩,pI,vV,?_⟩;obtain⟨⟨e_,Iu,hi,gi,q',yI,Ch⟩,Hz,Eg⟩:=az;letI:=aX M' (bx e.bf);refine⟨⟨e_,Iu,hi,⟨gi.size,gi.defers,λda aB mx=> ?_⟩,q',yI,Ch⟩,Hz,Eg⟩;rw[b4.nS _ _ _ _ _ _ eZ] at mx;split at mx
  ·rename_i aI
   cases mx;subst aI;rw[hp];have:=aD.sym (φ:=e_) q;have px:aY.σ q=Value.pointer (some ⟨e.bf,0,none⟩):=a1 e.bf;rw[px] at this;rw[g6,Nat.zero_add];exact this
  ·exact gi.get da aB mx
end AE
end Go.Proofs.YtepcfjbfkedlpaaGreatDoor
namespace Go.Proofs.YtepcfjbfkedlpaaGreatDoor
open Go Go.RowKit
namespace AE
theorem Uk:∀(l:List U) (k:Nat) (cs:Array U),k+l.length<=cs.size->((l.zipIdx k).foldl (λ(cs:Array U) (p:U×Nat)=>cs.setIfInBounds p.2 p.1) cs).toList=cs.toList.take k++l++cs.toList.drop (k+l.length)
 |[],k,cs,h=>by simp
 |u::l,k,cs,h=>by
  simp only [List.zipIdx_cons,List.foldl_cons];simp only [List.length_cons] at h;rw[Uk l (k+1) _ (by simp only [Array.size_setIfInBounds];omega)];have ag:k<cs.toList.length:=by rw[Array.length_toList];omega
  rw[Array.toList_setIfInBounds,List.take_set,List.drop_set,aN ao];rw[List.take_add_one,fP ag];rw[List.set_append_right _ _ (by rw[List.length_take];omega)];simp only [List.length_take,Option.toList_some];rw[show k-min k cs.toList.length=0 by omega];simp only [List.set_cons_zero,List.length_cons];rw[show k+1+l.length=k+(l.length+1) by omega];simp
theorem aei {P:Nat->Option (Nat×Nat)} {v:U} {cs:Array U} {n:Nat} (hp:P 0=some (0,n)) (aq:v.cells.size=n) (al:cs.size=n):Instr.fill P cs [(0,v)]=some v.cells:=by
 unfold Instr.fill;rw[hp];simp only;rw[aO (by simp only [Nat.zero_add,aq,al];simp)];unfold Instr.fill;congr 1;apply Array.ext';rw[<-Array.foldl_toList];have:=Uk v.cells.toList 0 cs (by rw[Array.length_toList];omega);simp only [Array.toList_zipIdx,Nat.zero_add];rw[this];simp [aq,al]
def Ng:Option bP->Option (aH×U)
 |some (.oper o _ ops s _)=>match o.op with
  | .buildSlice t 1 ⟨[(0,ga)]⟩=>match qf ops o s.sl with
    |some true=>some (t,ea .nil s.sl ga)
    |_=>none
  |_=>none
 |_=>none
theorem aej [cI] {α:Type} {P:aQ} {N B:Nat} {w0:au} {Q:Exit->Act->au->Prop} {M:Mem} {bh:List U} {o:Option bP} {t e:aH} {k:Nat} {z x u ec:U} {enc:α->List U} {y:α} {l':List α} {bx:Option Addr->Nat->List U} {dM dF:aT} {aU:List bM} {bH:ev}
  (fa:l'=[y]) (h:Ng o=some (t,x)) (aI:P.underlying t=some (.slice e)) (mQ:a7 P (sizeOf e)=some k) (Iv:a7 P (zeroValue e)=some z) (hg:0<k) (nn:k<=1000) (ag:∀x,(enc x).length=k)
  (c1:dy (cW o) dM aU=some bH) (eg:gy N dM (iT o) ec=some dF) (fF:aM ec=true) (ak:aM x=true) (ex: @aK (aX M bh) x=u) (hu:u.cells=⟨enc y⟩)
  (hm:∀M' a c,fm (aX M bh) (aX M' (bx a c)) bH) (aC:∀M' a c,@aK (aX M' (bx a c)) ec= .slice a l'.length c)
  (rest:∀M' a c,dJ B M' e k enc (.slice a l'.length c) l'->g_ M M' none->(∀i,some i=eF (.slice a l'.length c)->M i=none)->∀aS w,@Here (aX M' (bx a c)) _ N {sl:=dF,ms:=[],A:=eJ aU} B w0 aS w->wpListIn (Fr none) 0 P (jS o) (dS P (gX o) Q) (jR o) aS w)
  (aq:cI.dt<=aU.length:=by first|exact Nat.zero_le _|exact hJ rfl) (al:ic (cW o).A aU 0:=by exact f_ rfl): @e0 (aX M bh) _ P N B w0 Q o:=by
 subst fa;letI:=aX M bh;unfold Ng at h;split at h
 ·rename_i op r ops s ks
  refine⟨_,rfl,λa w ai=> ?_⟩;split at h
  ·rename_i da ga cj
   split at h
   ·rename_i iv
    cases h;have fT:=ai;obtain⟨⟨φ,ds,h1,ae,ay,bE,_⟩,cn,cy⟩:=ai;unfold wpListIn;rw[nx ae.get iv,aN rfl];have mV:a.eval ga=u:=(aD.iq _ ak (gg (hX φ) ae.get ga)).trans ex;have hw:∀i o,M i=some o->w.heap[i]? =some o:=fT.mz
    let w':au:={w with heap:=w.heap.push (.cells ⟨enc y⟩ e)}
    have Iw:u.cells.size=k:=by rw[hu];simpa using ag y
    have eQ:(execOp a.eval op).run P w= .ok (.value (.slice (some ⟨w.heap.size,0,none⟩) 1 1)) w':=by
     unfold execOp;rw[cj];simp only [List.map_toArray,List.map_cons,List.map_nil,mV];show (do pure (Next.value (<-Instr.buildSlice t 1 #[(0,u)])):Sem Next).run P w=_;have ad:(Instr.buildSlice t 1 #[(0,u)]).run P w= .ok (.slice (some ⟨w.heap.size,0,none⟩) 1 1) w':=by
      unfold Instr.buildSlice;refine c8 (run_underlying aI w) ?_;simp only;refine cK mQ ?_;rw[Nat.one_mul];rw[aO ao];rw[aO ao];refine cK Iv ?_;refine cK (a:=z.cells) rfl ?_;have aP:=aei (P:=λi=>some (i*k,k)) (v:=u) (cs:=(Array.range k).map (z.cells[· %z.cells.size]!)) (n:=k) (by simp) Iw (by simp);simp only [aP];simp [newRow,newObj,Sem.run,w',hu]
     simp only [Sem.run_bind,ad,Result.andThen_ok];rfl
    have ff:∀c',op.op≠.defer c':=λc' h=>by rw[cj] at h;cases h
    refine⟨λ_ _=>trivial,?_⟩;rw[Oper.semAt_eq _ _ _ ff,eQ,Oper.uponIn_value];obtain⟨q1,aE⟩:=oA (B:=B) (M:=M) (w:=w) (w':=w') (T:=none) (dQ:=some w.heap.size) hw (λi h=>by cases h) (λi af=> .inr (by cases af;exact bY _)) ⟨rfl,rfl,rfl⟩ (bY _) (by simp [w']) (λi af _=>by
     show (w.heap.push _)[i]? =_
     rw[Array.getElem?_push,aO ao])
    have cm:dJ B (gk M w' none (some w.heap.size)) e k enc (.slice (some ⟨w.heap.size,0,none⟩) [y].length 1) [y]:=by
     refine .inr ⟨w.heap.size,1,⟨enc y⟩,rfl,Nat.one_pos,cy,?_,bY _,by simp [maxLen],by simpa using ag y,by simp only [List.length_cons,List.length_nil,Nat.zero_add,Nat.one_mul,List.flatMap_cons,List.flatMap_nil,List.append_nil];exact List.take_of_length_le (by rw[ag];exact bY _)⟩;unfold gk;rw[aN rfl];show (w.heap.push _)[w.heap.size]? =_;rw[Array.getElem?_push,aN rfl]
    have gN:=Here.turns (vals':=bx (some ⟨w.heap.size,0,none⟩) 1) c1 (hm _ _ _) q1 aq al fT;letI:=aX (gk M w' none (some w.heap.size)) (bx (some ⟨w.heap.size,0,none⟩) 1);have kd:=Here.put (d:=op.dst) gN (v:=ec) fF eg;rw[aC] at kd;exact rest _ _ _ cm aE (λj hj=>by
     rw[mU _ _ Nat.one_pos] at hj;cases hj
     exact y4 hw (bY _)) _ w' kd
   ·cases h
  ·cases h
 ·cases h
def Ix:Option bP->Option (aH×U)
 |some (.oper o _ ops s _)=>match o.op with
  | .makeSlice t sk uH=>match qf ops o s.sl with
    |some true=>bif fj (ea .nil s.sl sk) (ea .nil s.sl uH) then some (t,ea .nil s.sl sk) else none
    |_=>none
  |_=>none
 |_=>none
theorem Ul {α:Type} {k:Nat} {enc:α->List U} (ag:∀x,(enc x).length=k) {z:U} {zr:α} (bG:z.cells.toList=enc zr) (n:Nat):(madeCells z.cells (n*k)).toList=(List.replicate n zr).flatMap enc:=by
 have av:z.cells.size=k:=by rw[<-Array.length_toList,bG,ag]
 apply List.ext_getElem?;intro j;unfold madeCells;rcases Nat.lt_or_ge j (n*k) with hj|hj
 ·have d':0<k:=by
   rcases Nat.eq_zero_or_pos k with h|h
   ·subst h
    simp at hj
   ·exact h
  have af:j/k<(List.replicate n zr).length:=by rw[lG];exact Nat.div_lt_of_lt_mul (by rwa [Nat.mul_comm] at hj)
  have hr:j%k<k:=Nat.mod_lt _ d';have ae:=AQ ag (List.replicate n zr) (j/k) zr (by rw[fP af];simp) (j%k) ((enc zr)[j%k]'(by rw[ag];exact hr)) (fP _);rw[Nat.div_add_mod'] at ae;rw[ae,Array.getElem?_toList,Array.getElem?_map,av,Array.getElem?_eq_getElem (by simpa using hj)];simp only [Array.getElem_range,Option.map_some];have Aw:j%k<z.cells.size:=by omega
  rw[getElem!_pos z.cells _ Aw];have:z.cells.toList[j%k]? =(enc zr)[j%k]? :=by rw[bG]
  rw[Array.getElem?_toList,Array.getElem?_eq_getElem Aw,fP (by rw[ag];exact hr)] at this;exact this
 ·rw[Array.getElem?_toList,Array.getElem?_map,Array.getElem?_eq_none (by simpa using hj),List.getElem?_eq_none (by rw[qm ag,lG];exact hj)]
  rfl
theorem Um [cI] {α:Type} {P:aQ} {N B:Nat} {w0:au} {Q:Exit->Act->au->Prop} {M:Mem} {bh:List U} {o:Option bP} {t e:aH} {k n bytes:Nat} {i:TypeInfo} {z x ec:U} {enc:α->List U} {zr:α} {l':List α} {bx:Option Addr->Nat->List U} {dM dF:aT} {aU:List bM} {bH:ev}
  (fa:l'=List.replicate n zr) (h:Ix o=some (t,x)) (aI:P.underlying t=some (.slice e)) (af:P.info? e=some i) (bG:i.zero=some z) (fX:i.size=k) (jv:i.bytes=bytes) (pB:z.cells.toList=enc zr) (ag:∀x,(enc x).length=k)
  (c1:dy (cW o) dM aU=some bH) (eg:gy N dM (iT o) ec=some dF) (fF:aM ec=true) (ak:aM x=true) (ex: @aK (aX M bh) x= .int .i64 (n:Nat)) (aek:n<=1000000) (k6:n*bytes<=140737488355328) (ka:n*k<=16777216)
  (hm:∀M' a c,fm (aX M bh) (aX M' (bx a c)) bH) (aC:∀M' a c,@aK (aX M' (bx a c)) ec= .slice a l'.length c)
  (rest:∀M' a c,dJ B M' e k enc (.slice a l'.length c) l'->g_ M M' none->(∀i,some i=eF (.slice a l'.length c)->M i=none)->∀aS w,@Here (aX M' (bx a c)) _ N {sl:=dF,ms:=[],A:=eJ aU} B w0 aS w->wpListIn (Fr none) 0 P (jS o) (dS P (gX o) Q) (jR o) aS w)
  (aq:cI.dt<=aU.length:=by first|exact Nat.zero_le _|exact hJ rfl) (al:ic (cW o).A aU 0:=by exact f_ rfl): @e0 (aX M bh) _ P N B w0 Q o:=by
 subst fa;letI:=aX M bh;unfold Ix at h;split at h
 ·rename_i op r ops s ks
  refine⟨_,rfl,λa w ai=> ?_⟩;split at h
  ·rename_i da sk uH cj
   split at h
   ·rename_i iv
    cases heq:fj (ea .nil s.sl sk) (ea .nil s.sl uH) with
    |false=>rw[heq] at h;cases h
    |true=>
     rw[heq,bw] at h;have v7:=gx _ _ heq;cases h;have fT:=ai;obtain⟨⟨φ,ds,h1,ae,ay,bE,_⟩,cn,cy⟩:=ai;unfold wpListIn;rw[nx ae.get iv,aN rfl];have mV:a.eval sk= .int .i64 (n:Nat):=(aD.iq _ ak (gg (hX φ) ae.get sk)).trans ex;have Nh:a.eval uH= .int .i64 (n:Nat):=(aD.iq _ (by rw[<-v7];exact ak) (gg (hX φ) ae.get uH)).trans (by rw[<-v7];exact ex);have hw:∀i o,M i=some o->w.heap[i]? =some o:=fT.mz;subst jv;obtain⟨w',g1,g2,g3⟩:=run_makeSlice_full (P:=P) w B t e i z k aI af bG fX .i64 .i64 n ka (by rw[Nat.mul_comm];omega) (by simp [maxLen];omega) cy;have eQ:(execOp a.eval op).run P w= .ok (.value (.slice (some ⟨w.heap.size,0,none⟩) n n)) w':=by
      unfold execOp;rw[cj];simp only [mV,Nh];show (do pure (Next.value (<-Instr.makeSlice t (.int .i64 (n:Nat)) (.int .i64 (n:Nat)))):Sem Next).run P w=_;simp only [Sem.run_bind,g1,Result.andThen_ok];rfl
     have ff:∀c',op.op≠.defer c':=λc' h=>by rw[cj] at h;cases h
     refine⟨λ_ _=>trivial,?_⟩;rw[Oper.semAt_eq _ _ _ ff,eQ,Oper.uponIn_value];rw[Ul ag pB] at g2;obtain⟨q1,aE⟩:=oA (B:=B) (M:=M) (w:=w) (w':=w') (T:=none) (dQ:=some w.heap.size) hw (λi h=>by cases h) (λi af=> .inr (by cases af;exact bY _)) ⟨g3.os,g3.tape,g3.output⟩ (bY _) g3.size (λi af cC=>g3.block i af cC);have hlen:(List.replicate n zr).length=n:=lG;have cm:dJ B (gk M w' none (some w.heap.size)) e k enc (.slice (some ⟨w.heap.size,0,none⟩) (List.replicate n zr).length n) (List.replicate n zr):=by
      refine(dJ.My (w:=w') (by rw[hlen];exact g2)).mono (bY _) λj hj o ho=> ?_
      have e1:=AP hj;unfold gk;rw[aN (by rw[e1];rfl)];exact ho
     have gN:=Here.turns (vals':=bx (some ⟨w.heap.size,0,none⟩) n) c1 (hm _ _ _) q1 aq al fT;letI:=aX (gk M w' none (some w.heap.size)) (bx (some ⟨w.heap.size,0,none⟩) n);have kd:=Here.put (d:=op.dst) gN (v:=ec) fF eg;rw[aC,hlen] at kd;refine rest _ _ _ cm aE (λj hj=> ?_) _ w' kd;have e1:=AP hj;cases e1;exact y4 hw (bY _)
   ·cases h
  ·cases h
 ·cases h
def E1 (o:Option bP) (b t:Nat):Option (List U×Nat×Nat):=
 match o with
 |some (.oper _ _ _ s _)=>match s.A.bl.get b with
  |some k=>match k.obj with
   | .cells cs=>bif Nat.beq k.eB 0&&(Nat.beq k.cE b&& !k.ro) then match s.sl.get t with
     |some (.slice (some ⟨b',0,none⟩) n c)=>bif Nat.beq b' b then some (cs,n,c) else none
     |_=>none
     else none
   |_=>none
  |none=>none
 |_=>none
def CM (st:b6):Option bP->Option bP
 |some (.oper op r ops _ ks)=>some (.oper op r ops st ks)
 |o=>o
theorem Here.ael [cI] {α:Type} {M:Mem} {bh:List U} {bx:Nat->List U} {N B:Nat} {st:b6} {w0 w:au} {a:Act} {sl dT:aT} {l:List bM} {bH:ev} {b t q n c ft:Nat} {k:hE} {cs:List U} {enc:α->List U} {xs:List α}
  (Ej:∀x,(enc x).length=ft) (Ni:xs.length=n) (fO:0<n) (iD:n<=c) (ai: @Here (aX M bh) _ N st B w0 a w) (ag:st.A.bl.get b=some k) (fq:k.obj= .cells cs) (Nd:k.eB=0) (oo:k.cE=b) (gv:dW cs=true) (xu: @et (aX M bh) cs=xs.flatMap enc) (ad:l.length<=b)
  (E0:st.sl.get t=some (.slice (some ⟨b,0,none⟩) n c)) (c1:dy st sl l=some bH) (hm:∀M' g,fm (aX M bh) (aX M' (bx g)) bH) (eZ:b4.set (aj q) depth sl t=some dT) (a1:∀g,l6 (bx g) q= .slice (some ⟨g,0,none⟩) n c)
  (aq:cI.dt<=l.length) (al:ic st.A l 0):
  ∃g M',b7 M' ft enc (.slice (some ⟨g,0,none⟩) n c) xs/\B<=g/\M' g≠none/\g_ M M' none/\M g=none/\ @Here (aX M' (bx g)) _ N {sl:=dT,ms:=[],A:=eJ l} B w0 a w:=by
 obtain⟨⟨φ,ds,h1,ae,ay,bE,fx⟩,cn,cy⟩:=ai;have aC:= @fu.get (aX M bh) _ _ _ _ _ ae t _ E0;generalize hp:a.tmps.getD t undef=aeh at aC;cases aC with
 |iB _ _=>omega
 |ia _ _ _ he av _ _=>
  obtain⟨cV,cS,dL,fZ⟩:= @bR.ep (aX M bh) _ _ _ ay b _ he;rw[ag] at cS;cases cS;omega
 |h_ _ _ he=>
  rename_i e;obtain⟨cV,cS,dL,fZ⟩:= @bR.ep (aX M bh) _ _ _ ay b e he;rw[ag] at cS;cases cS;unfold fy at fZ;rw[fq] at fZ;obtain⟨c',jJ,g1,g2,g3,g4,jQ⟩:=fZ;obtain⟨g6,g7⟩:=g3.2 Nd;have vV:M e.bf=none:=by
   cases af:M e.bf with
   |none=>rfl
   |some o=>exact absurd rfl ((@bR.dg (aX M bh) _ _ _ ay e.bf o af).2 b e he)
  let M':Mem:=λi=>if i=e.bf then some (.cells c' k.ty jJ) else M i
  have tA:M' e.bf=some (.cells c' k.ty jJ):=aN rfl;have pI:∀i o,M i=some o->M' i=some o:=λi o af=>by
   show (if i=e.bf then _ else M i)=some o;rw[aO (λh=>by rw[h,vV] at af;cases af)];exact af
  have ka:c'.toList=xs.flatMap enc:=by
   rw[<-xu];refine @aD.yF (aX M bh) φ cs c'.toList gv (by simp [g7]) λi af=> ?_
   have:=g4 i af;rw[g6,Nat.zero_add] at this;simpa [e5] using this
  have qt:=c1;unfold dy at qt;have Nf:∀b' x,l[b']? =some x->∃ft,st.A.bl.get b'=some ft/\ft.cE=b':=λb' x ak=>by
   split at qt
   ·cases hM:AI l with
    |false=>rw[hM] at qt;cases qt
    |true=>
     rw[hM,bw] at qt;obtain⟨gA,xi,_,bg,_⟩:=uy qt;obtain⟨ft,o,cS,dL,_⟩:=EB l 0 bg b' x ak;rw[Nat.zero_add] at cS dL;exact⟨ft,cS,dL⟩
   ·cases qt
  have az:=Here.Uj (s2:=aX M' (bx e.bf)) c1 (hm M' e.bf) h1 ae ay bE fx cn cy (λi o af=>by
   by_cases rZ:i=e.bf
   ·subst rZ
    have:some (Obj.cells c' k.ty jJ)=some o:=tA.symm.trans af;cases this;refine⟨g1,λb' e' dN qb heq=> ?_⟩;obtain⟨ft,q1,aE⟩:=Nf b' _ (fP dN);exact @bR.apart (aX M bh) _ _ _ ay b' e' ft b e k qb he q1 ag (by rw[aE,oo];omega) heq
   ·have lH:M i=some o:=by
     have:(if i=e.bf then some (Obj.cells c' k.ty jJ) else M i)=some o:=af
     rwa [aO rZ] at this
    obtain⟨q1,aE⟩:= @bR.dg (aX M bh) _ _ _ ay i o lH
    exact⟨q1,λb' e' _ qb=>aE b' e' qb⟩) aq al
  have j3:b7 M' ft enc (.slice (some ⟨e.bf,0,none⟩) n c) xs:=by
   subst Ni;refine .mk tA iD λi x ak j u hu=> ?_
   have:=AQ Ej xs i x ak j u hu;rw[<-ka] at this;rw[Nat.zero_add];simpa using this
  refine⟨e.bf,M',j3,bE b e he,(by rw[tA];simp),λi o af _=>pI i o af,vV,?_⟩;obtain⟨⟨e_,Iu,hi,gi,q',yI,Ch⟩,Hz,Eg⟩:=az;letI:=aX M' (bx e.bf);refine⟨⟨e_,Iu,hi,⟨gi.size,gi.defers,λda aB mx=> ?_⟩,q',yI,Ch⟩,Hz,Eg⟩;rw[b4.nS _ _ _ _ _ _ eZ] at mx;split at mx
  ·rename_i aI
   cases mx;subst aI;rw[hp];have:=aD.sym (φ:=e_) q;have px:aY.σ q=Value.slice (some ⟨e.bf,0,none⟩) n c:=a1 e.bf;rw[px] at this;rw[g6,Nat.zero_add];exact this
  ·exact gi.get da aB mx
theorem Nj [cI] {α:Type} {P:aQ} {N B:Nat} {w0:au} {Q:Exit->Act->au->Prop} {M:Mem} {bh:List U} {bx:Nat->List U} {o:Option bP} {sl dT:aT} {l:List bM} {bH:ev} {b t q n c ft:Nat} {cs:List U} {enc:α->List U} {xs:List α}
  (h:E1 o b t=some (cs,n,c)) (Ej:∀x,(enc x).length=ft) (Ni:xs.length=n) (fO:0<n) (iD:n<=c) (gv:dW cs=true) (xu: @et (aX M bh) cs=xs.flatMap enc) (ad:l.length<=b)
  (c1:dy (cW o) sl l=some bH) (hm:∀M' g,fm (aX M bh) (aX M' (bx g)) bH) (eZ:b4.set (aj q) depth sl t=some dT) (a1:∀g,l6 (bx g) q= .slice (some ⟨g,0,none⟩) n c)
  (rest:∀M' g,b7 M' ft enc (.slice (some ⟨g,0,none⟩) n c) xs->B<=g->M' g≠none->g_ M M' none->M g=none-> @e0 (aX M' (bx g)) _ P N B w0 Q (CM {sl:=dT,ms:=[],A:=eJ l} o))
  (aq:cI.dt<=l.length:=by first|exact Nat.zero_le _|exact hJ rfl) (al:ic (cW o).A l 0:=by exact f_ rfl): @e0 (aX M bh) _ P N B w0 Q o:=by
 unfold E1 at h;split at h
 ·rename_i op r ops s ks
  split at h
  ·rename_i k ag
   split at h
   ·rename_i cs' fq
    cases kP:(Nat.beq k.eB 0&&(Nat.beq k.cE b&& !k.ro)) with
    |false=>rw[kP] at h;cases h
    |true=>
     rw[kP,bw] at h;simp only [c0] at kP;split at h
     ·rename_i b' fz c' E0
      cases td:Nat.beq b' b with
      |false=>rw[td] at h;cases h
      |true=>
       rw[td,bw] at h;cases h;have Nk:=ct td;subst Nk;refine⟨_,rfl,λa w ai=> ?_⟩;obtain⟨g,M',q1,aE,b9,ey,hv,lJ⟩:=Here.ael Ej Ni fO iD ai ag fq (ct kP.1) (ct kP.2.1) gv xu ad E0 c1 hm eZ a1 aq al;obtain⟨aly,e',ok⟩:=rest M' g q1 aE b9 ey hv;unfold CM at e';cases e';exact ok a w lJ
     ·cases h
   ·cases h
  ·cases h
 ·cases h
theorem Nl {α:Type} {M M':Mem} {g k n c:Nat} {enc:α->List U} {xs:List α} (j3:b7 M' k enc (.slice (some ⟨g,0,none⟩) n c) xs) (h1:M' g≠none) (b0:g_ M M' none) (aq:M g=none):dp M [] M' [rn k enc (.slice (some ⟨g,0,none⟩) n c) xs]:=
 ⟨b_.one ⟨j3,λb ad=>by cases ad;exact h1⟩,λi o af _=>b0 i o af λe=>(by cases e),λb ad=>by
   have ae:some b=(Value.slice (some ⟨g,0,none⟩) n c).ownBlock:=mZ.1 ad;cases ae
   exact .inr aq⟩
theorem aem {M M':Mem} {bh vals':List U} {a n:Nat} {i:Nat} (h1:l6 bh a= .int .i64 ((i:Nat):Int)) (h:i=n): @aK (aX M bh) (aj a)= @aK (aX M' vals') (.int .i64 ((n:Nat):Int)):=by
 subst h;exact(@Hp (aX M bh) a).trans h1
theorem iJ.mk' {B g:Nat} {M:Mem} {ty:aH} {cs:List U} (h1:B<=g) (ae:M g=some (.cells ⟨cs⟩ ty (0,0))):iJ B M (.pointer (some ⟨g,0,none⟩)) ty cs:=⟨g,rfl,h1,ae⟩
section
variable [aY] {P:aQ}
theorem aR.quo {t:aH} {x y r:U} {a b:Int} (aJ:0<=a/\a<=9223372036854775807) (h1:1<=b) (ak:aM x=true) (bg:aM y=true) (hr:aM r=true) (ex:aK x= .int .i64 a) (hk:aK y= .int .i64 b) (bX:aK r= .int .i64 (a/b)):aR P (.bin .quo t x y,r):=
 tu ak bg hr ex hk λdO dP w=>by
  rw[bX];have e1:=IntWalk.i64_quo a b ⟨aJ.1,aJ.2,h1⟩;have e2:¬b=0:=by omega
  unfold fI;simp [eqGuard,binOp,Op.intDiv,e2,e1]
theorem aR.rem {t:aH} {x y r:U} {a b:Int} (aJ:0<=a/\a<=9223372036854775807) (h1:1<=b) (ak:aM x=true) (bg:aM y=true) (hr:aM r=true) (ex:aK x= .int .i64 a) (hk:aK y= .int .i64 b) (bX:aK r= .int .i64 (a%b)):aR P (.bin .rem t x y,r):=
 tu ak bg hr ex hk λdO dP w=>by
  rw[bX];have e1:=IntWalk.rem_in a b aJ.1;have e2:¬b=0:=by omega
  unfold fI;simp [eqGuard,binOp,Op.intDiv,e2,e1]
end
theorem iJ.up {W:au} {M:Mem} {g:Nat} {ty:aH} {cs:List U} (h:iJ 0 (aG W) (.pointer (some ⟨g,0,none⟩)) ty cs) (hm:∀i o,aG W i=some o->M i=some o):iJ 0 M (.pointer (some ⟨g,0,none⟩)) ty cs:=iJ.mk' (Nat.zero_le _) (hm _ _ h.known.1)
theorem E2:∀u∈([]:List U),u.oneCell'=true:=λu h=>by cases h
theorem o8 {u:U} {l:List U} (h:u.oneCell'=true) (t:∀x∈l,x.oneCell'=true):∀x∈u::l,x.oneCell'=true:=λx ak=>by
 rcases List.mem_cons.1 ak with rfl|ak
 ·exact h
 ·exact t x ak
theorem getD_some {α:Type} {l:List α} {i:Nat} {z d:α} (h:l[i]? =some z):l.getD i d=z:=by
 rw[dr,h];rfl
theorem aen {a:Option Addr} {n m c j k i:Nat} (h:some i=eF (.slice (kD a c j k) m (c-j))):some i=eF (.slice a n c):=by
 cases a with
 |none=>
  unfold kD at h;split at h
  ·cases h
  ·cases h
 |some gB=>
  by_cases al:c-j=0
  ·rw[al,EI] at h
   cases h
  ·unfold kD at h
   rw[aO ao] at h;have h1:(gB.add (j*k)).block=gB.block:=by
    unfold Addr.add;split<;>rfl
   rw[Option.map_some,mU _ _ ao,h1] at h;rw[mU _ _ ao];exact h
theorem ch.zero {B:Nat} {w w':au} (h:ch B w w'):ch 0 w w':=h.mono (Nat.zero_le _)
theorem E3 {α:Type} {P:aQ} {f:FuncId} {args:Array U} {w:au} {e:aH} {k:Nat} {enc:α->List U} {l:List α} (h:Calls P f args w λe' w'=>(∃a c,e'= .returned (.slice a l.length c)/\dJ w.heap.size (aG w') e k enc (.slice a l.length c) l)/\ch w.heap.size w w'):
  Calls P f args w λe' w'=>(∃y:Option Addr×Nat,e'= .returned (.slice y.1 l.length y.2)/\dp (aG w) [] (aG w') [iK e k enc (.slice y.1 l.length y.2) l])/\ch 0 w w':=
 h.mono λe' w' he=>by
   obtain⟨⟨a,c,rfl,cm⟩,hl⟩:=he;refine⟨⟨(a,c),rfl,b_.one (rp cm),λi o af _=> ?_,λb ad=> ?_⟩,hl.zero⟩
   ·rw[show aG w' i=aG w i from hl.block i (Array.getElem?_eq_some_iff.1 af).1]
    exact af
   ·exact .inr (Array.getElem?_eq_none_iff.2 (cm.known b (mZ.1 ad)).2)
end AE
end Go.Proofs.YtepcfjbfkedlpaaGreatDoor
namespace Go.Proofs.YtepcfjbfkedlpaaGreatDoor
open Go Go.Proofs Go.RowKit
namespace AE
def A4 (t t2:aH):Option bP->Option (U×U)
 |some (.oper o _ ops s _)=>match o.op with
  | .call c=>match c.callee,c.args with
    | .builtin .copy,⟨[mB,ga]⟩=>bif decide (c.argTypes= #[t,t2]) then match qf ops o s.sl with
      |some true=>some (ea .nil s.sl mB,ea .nil s.sl ga)
      |_=>none
      else none
    |_,_=>none
  |_=>none
 |_=>none
theorem aeo [cI] {P:aQ} {N B:Nat} {w0:au} {Q:Exit->Act->au->Prop} {M:Mem} {bh bx:List U} {o:Option bP} {t t2 e ty:aH} {g j m n vB:Nat} {vs jT:U} {us cs cs':List U} {dM dF:aT} {aU:List bM} {bH:ev}
  (fa:cs'=cs.take j++us++cs.drop (j+n)) (h:A4 t t2 o=some (vs,jT)) (aI:P.underlying t=some (.slice e)) (av:(P.info? e).map (·.size)=some 1)
  (c1:dy (cW o) dM aU=some bH) (eg:gy N dM (iT o) (.int .i64 n)=some dF) (hp:aM vs=true) (lv: @aK (aX M bh) vs= .slice (some ⟨g,j,none⟩) m vB)
  (iU:∀φ w x,@bR (aX M bh) φ (cW o).A w-> @aD (aX M bh) φ jT x->rj w 1 (λu:U=>[u]) x us) (hu:us.length=n) (fO:0<n) (HC:n<=m) (jL:∀u∈us,u.oneCell'=true)
  (cm:iJ B M (.pointer (some ⟨g,0,none⟩)) ty cs) (hj:j+n<=cs.length) (hm:∀M',fm (aX M bh) (aX M' bx) bH)
  (rest:∀M',iJ B M' (.pointer (some ⟨g,0,none⟩)) ty cs'->g_ M M' (some g)->∀aS w,@Here (aX M' bx) _ N {sl:=dF,ms:=[],A:=eJ aU} B w0 aS w->wpListIn (Fr none) 0 P (jS o) (dS P (gX o) Q) (jR o) aS w)
  (aq:cI.dt<=aU.length:=by first|exact Nat.zero_le _|exact hJ rfl) (al:ic (cW o).A aU 0:=by exact f_ rfl): @e0 (aX M bh) _ P N B w0 Q o:=by
 subst fa;subst hu;letI:=aX M bh;unfold A4 at h;split at h
 ·rename_i op r ops s ks
  refine⟨_,rfl,λa w ai=> ?_⟩;split at h
  ·rename_i c cj
   split at h
   ·rename_i mB ga qg gf
    cases hty:decide (c.argTypes= #[t,t2]) with
    |false=>rw[hty] at h;cases h
    |true=>
     rw[hty,bw] at h;have xm:c.argTypes= #[t,t2]:=of_decide_eq_true hty;split at h
     ·rename_i iv
      cases h;have fT:=ai;obtain⟨⟨φ,ds,h1,ae,ay,bE,_⟩,cn,cy⟩:=ai;unfold wpListIn;rw[nx ae.get iv,aN rfl];have es:a.eval mB= .slice (some ⟨g,j,none⟩) m vB:=(aD.iq _ hp (gg (hX φ) ae.get mB)).trans lv;obtain⟨vY,c2,ex,xl,ka⟩:=iU φ w _ ay (gg (hX φ) ae.get ga);have hw:∀i o,M i=some o->w.heap[i]? =some o:=fT.mz;obtain⟨bj,dI⟩:=cm.known;have az:=hw _ _ bj;cases vY with
      |none=>
       rw[xl rfl] at fO;exact absurd fO (Nat.lt_irrefl _)
      |some gB=>
       have A5:us.flatMap (λu:U=>[u])=us:=by simp
       let fg:Array U:=(cs.take j++us++cs.drop (j+us.length)).toArray
       have E4:=run_copy_row (P:=P) w t t2 op.type e g j m vB gB us.length c2 ⟨cs⟩ ty us aI av az (Nat.min_eq_left ao).symm (λi v af=>ka gB rfl i v (by rw[A5];exact af)) (by simp only [List.size_toArray];omega) jL;have eQ:(execOp a.eval op).run P w= .ok (.value (.int .i64 us.length)) (w.setRow g fg):=by
        unfold execOp resolve;rw[cj];simp only [qg,gf,xm,List.map_toArray,List.map_cons,List.map_nil];show (do pure (Next.value (<-Builtin.copy_ #[t,t2] op.type #[a.eval mB,a.eval ga])):Sem Next).run P w=_;rw[es,ex];simp only [Sem.run_bind,E4,Result.andThen_ok];rfl
       have ff:∀c',op.op≠.defer c':=λc' h=>by rw[cj] at h;cases h
       refine⟨λ_ _=>trivial,?_⟩;rw[Oper.semAt_eq _ _ _ ff,eQ,Oper.uponIn_value];obtain⟨q1,aE⟩:=oA (B:=B) (M:=M) (w':=w.setRow g fg) (T:=some g) (dQ:=some g) hw (λi af=>by cases af;exact⟨by rw[bj];simp,dI⟩) (λi af=> .inl af) ⟨rfl,rfl,rfl⟩ (bY _) (by simp [World.setRow]) (λj _ hj=>setRow_other w g j fg (λh=>hj (by rw[h])));have oD:iJ B (gk M (w.setRow g fg) (some g) (some g)) (.pointer (some ⟨g,0,none⟩)) ty (cs.take j++us++cs.drop (j+us.length)):=by
        refine⟨g,rfl,dI,?_⟩;unfold gk;rw[aN rfl];exact setRow_heap w g ⟨cs⟩ fg ty (0,0) az
       have gN:=Here.turns (vals':=bx) c1 (hm _) q1 aq al fT;letI:=aX (gk M (w.setRow g fg) (some g) (some g)) bx;exact rest _ oD aE _ _ (Here.put (d:=op.dst) gN (v:= .int .i64 us.length) rfl eg)
     ·cases h
   ·cases h
  ·cases h
 ·cases h
def endCell (fn:Func):Option bP->Option (aH×U)
 |some (.done x s)=>bif Cz x then match fn.results.toList,xb s.A s.ms with
  |[.cell a t],some _=>some (t,slot s.sl a)
  |_,_=>none
  else none
 |_=>none
theorem Nn [cI] {P:aQ} {fn:Func} {N B:Nat} {w0:au} {M:Mem} {bh:List U} {R:Ending->au->Prop} {o:Option bP} {t ty:aH} {g:Nat} {x v:U} {cs:List U} (h:endCell fn o=some (t,x)) (hp:aM x=true) (lv: @aK (aX M bh) x= .pointer (some ⟨g,0,none⟩))
  (cm:iJ B M (.pointer (some ⟨g,0,none⟩)) ty cs) (ha:a7 P (isAgg t)=some true) (av:a7 P (sizeOf t)=some cs.length) (aC:aM v=true) (a': @aK (aX M bh) v= .agg ⟨cs⟩)
  (hx:∀w2,ch B w0 w2-> @nw (aX M bh) w2->R (.returned (.agg ⟨cs⟩)) w2): @e0 (aX M bh) _ P N B w0 (qk P fn N B w0 R) o:=by
 letI:=aX M bh;unfold endCell at h;split at h
 ·rename_i x s
  cases ak:Cz x with
  |false=>rw[ak] at h;cases h
  |true=>
   rw[ak,bw] at h;split at h
   ·rename_i a da eH lM hl
    cases h;refine⟨_,rfl,λdD w ai=> ?_⟩;have main:Ew P fn N B w0 R dD w:=by
     refine⟨inferInstance,s,eH,v,ai,hl,λφ w1 tmps hr wT=>⟨.agg ⟨cs⟩,?_,?_⟩,λaB w2 gN=> ?_⟩
     ·have e1:tmps.getD a undef= .pointer (some ⟨g,0,none⟩):=(aD.iq _ hp (Ht (wT a))).trans lv
      have az:w1.heap[g]? =some (.cells ⟨cs⟩ ty (0,0)):=(hr.dg g _ cm.known.1).1;have aep:(loadVar t (⟨g,0,none⟩:Addr)).run P w1= .ok (.agg ⟨cs⟩) w1:=by
       unfold loadVar;refine cK ha ?_;simp only [if_true];refine cK av (c8 (run_loadCells_list (P:=P) w1 ⟨g,0,none⟩ cs λj u hj=> ?_) rfl);rw[Addr.jZ,cell_of_row w1 _ _ _ _ _ az,Nat.zero_add];simpa using hj
      have e:results fn tmps=(fn.results.mapM (Md tmps)) >>= λvs=>pure (if h:vs.size=1 then vs[0] else .tuple vs):=by
       unfold results;congr 1
      rw[e,Array.mapM_eq_mapM_toList,lM];refine c8 (a:=(⟨[.agg ⟨cs⟩]⟩:Array U)) (c8 (a:=[.agg ⟨cs⟩]) ?_ rfl) rfl;rw[List.mapM_cons];refine c8 (a:=Value.agg ⟨cs⟩) ?_ rfl;show (do loadVar t (<-asAddr (tmps.getD a undef)):Sem U).run P w1=_;rw[e1];exact cK (a:=(⟨g,0,none⟩:Addr)) rfl aep
     ·rw[<-a']
      exact aD.vG φ v aC
     ·have af:=gN.mz
      obtain⟨⟨φ,ds,q1,aE,b9,ey,_⟩,hv,lJ⟩:=gN;have:=aE.get 0 v rfl;rw[show aB=aK v from aD.iq v aC this,a'];exact hx w2 hv af
    cases x with
    |normal=>exact main
    |ret=>exact main
    |exit id=>cases ak
    |goto l=>cases ak
   ·cases h
 ·cases h
end AE
namespace AE
def Np [cI] {X:Type} (f':X->aY) (eU:X->Prop) (gI:X->Nat) (m N:Nat) (head:aT) (aU:List bM) (B:Nat) (w0:au):Act->au->Prop:=λa w=>∃x',eU x'/\gI x'<m/\ @Here (f' x') _ N (db head aU) B w0 a w
theorem y9 [cI] {P:aQ} {N B:Nat} {w0:au} {s1:aY} {X:Type} {f':X->aY} (eU:X->Prop) (gI:X->Nat) {head:aT} {aU:List bM} {o:Option bP} {bH:ev} {Q:Exit->Act->au->Prop} (x:X) (ad:tv head aU o=some bH) (hm:fm s1 (f' x) bH)
  (pG:∀i o,(f' x).dg i=some o->s1.dg i=some o) (ak:eU x)
  (round:∀x,eU x->∀a w,@Here (f' x) _ N (db head aU) B w0 a w->(se o).wpIn (Fr none) 0 P (Exit.then (Np f' eU gI (gI x) N head aU B w0) (dS P (gX o) Q)) a w)
  (aq:cI.dt<=aU.length:=by first|exact Nat.zero_le _|exact hJ rfl) (al:ic (cW o).A aU 0:=by exact f_ rfl): @e0 s1 _ P N B w0 Q o:=
 ac6 eU gI x ad hm pG ak round aq al
theorem aeq {s1:aY} [cI] {P:aQ} {N B:Nat} {w0:au} {X:Type} {f':X->aY} {eU:X->Prop} {gI:X->Nat} {m:Nat} {head:aT} {aU:List bM} {o:Option bP} (x':X) {bH:ev} {Q:Exit->Act->au->Prop} (ad:uD head aU o=some bH) (hm:fm s1 (f' x') bH)
  (pG:∀i o,(f' x').dg i=some o->s1.dg i=some o) (bn:eU x') (xv:gI x'<m) (aq:cI.dt<=aU.length:=by first|exact Nat.zero_le _|exact hJ rfl) (al:ic (cW o).A aU 0:=by exact f_ rfl):
  @e0 s1 _ P N B w0 (Exit.then (Np f' eU gI m N head aU B w0) Q) o:=by
 cases o with
 |none=>cases ad
 |some st=>
  refine⟨st,rfl,?_⟩;unfold uD at ad;split at ad
  ·rename_i s cB
   cases cB;intro a w ai;exact⟨x',bn,xv,Here.move ad hm pG aq al ai⟩
  ·cases ad
theorem aer {M M':Nat->Option Obj} {bh vals':List U} {a b:Nat} {v:U} (h1:bh[a]? =some v) (ae:vals'[b]? =some v) (ha:Nat.blt a eD=true) (ad:Nat.blt b eD=true): @aK (aX M bh) (aj a)= @aK (aX M' vals') (aj b):=by
 have e1:l6 bh a=mA v:=by unfold l6;rw[ha,bw,dr,h1];rfl
 have e2:l6 vals' b=mA v:=by unfold l6;rw[ad,bw,dr,ae];rfl
 exact Tz (mA v) e1 e2
theorem Un [cI] {P:aQ} [Lib P] {N B:Nat} {w0:au} {Q:Exit->Act->au->Prop} {M:Mem} {bh:List U} {o:Option bP} {f:FuncId} {args:List U} {ec:U} {Y:Type} {bx:Y->List U} {dM dF:aT} {aU:List bM} {bH:ev} {eC:Mem} {ax sm:List ca} {r:Y->U} {A6:Y->List ca}
  (aA:bW B eC ax M sm) (is:List Nat) (kS CN:Y->List ca)
  (h:(uE P o).isSome=true) (aP:(rm P o).1=f) (ha:(rm P o).2.1=args) (c1:dy (ke P o) dM aU=some bH) (eg:gy N dM (iT o) ec=some dF)
  (ij:jU sm.length is=true) (hr:∀M' y,@aK (aX M' (bx y)) ec=r y) (hL:∀y,A6 y=kS y++CN y)
  (jw:∀w,(∀i o,M i=some o->w.heap[i]? =some o)->B<=w.heap.size->b_ (aG w) (AE.pick sm is)->Calls P f ⟨@et (aX M bh) args⟩ w λe w'=>(∃y,e= .returned (r y)/\dp (aG w) (AE.pick sm is) (aG w') (A6 y))/\ch 0 w w')
  (hm:∀y M',fm (aX M bh) (aX M' (bx y)) bH)
  (rest:∀M' y,bW B eC ax M' (la sm is (kS y)++CN y)->∀aS w,@Here (aX M' (bx y)) _ N {sl:=dF,ms:=[],A:=eJ aU} B w0 aS w->wpListIn (Fr none) 0 P (jS o) (dS P (gX o) Q) (jR o) aS w)
  (hlen:∀y,(kS y).length=is.length:=by exact λ_=>rfl)
  (hp:dW args=true:=by rfl) (fF:aM ec=true:=by rfl)
  (aq:cI.dt<=aU.length:=by first|exact Nat.zero_le _|exact hJ rfl) (al:ic (ke P o).A aU 0:=by exact f_ rfl): @e0 (aX M bh) _ P N B w0 Q o:=
 ad9 (S:=iL (AE.pick sm is)) (R:=λy M'=>dp M (AE.pick sm is) M' (A6 y)) h aP ha hp c1 eg fF (λw hw dI=>aed aA is ij rfl hw dI hr (jw w hw dI (aA.at is ij rfl hw))) (λM' y _=>hm y M')
  (λM' y eb=>rest M' y (aA.put is ij (hlen y) (by rw[<-hL y];exact eb))) aq al
end AE
namespace AE
def Nq (P:aQ) (A:aW) (t:aH):U->Option U
 | .pointer (some ⟨b,off,none⟩)=>match a7 P (isAgg t) with
   |some false=>A.load b off
   |_=>none
 |_=>none
def E5 (P:aQ) (a':Operand->U) (A:aW) (o:Oper):Option U:=
 match o.guard with
 |some _=>none
 |none=>match o.op with
  | .load t x=>Nq P A t (a' x)
  |_=>bif w7 o then @w8 P ⟨[]⟩ a' o else none
section
variable [aY] {P:aQ} {φ:bQ} {A:aW} {w w2:au}
omit [aY] in
theorem Uo {e:gZ} {i:Nat} (h:w2.heap[e.bf]? =w.heap[e.bf]?):w2.cell? ⟨e.bf,i,none⟩=w.cell? ⟨e.bf,i,none⟩:=by
 unfold World.cell?;simp only [h]
theorem aes (hr:bR φ A w) (ag:∀b e,φ b=some e->w2.heap[e.bf]? =w.heap[e.bf]?) {t:aH} {p p' v:U} (hp:aD φ p p') (h:Nq P A t p=some v):∃aB,(Instr.loadAt t p').run P w2= .ok aB w2/\aD φ v aB:=by
 unfold Nq at h;split at h
 ·rename_i b off
  cases hp with
  |ptr he=>
   split at h
   ·rename_i pA
    obtain⟨aB,h1,ae⟩:=tY hr h he;rw[<-Uo (ag _ _ he)] at h1;refine⟨aB,?_,ae⟩;unfold Instr.loadAt;refine cK (a:=(⟨_,_,none⟩:Addr)) rfl ?_;unfold loadVar;refine cK pA ?_;simp [Go.load,Sem.run,h1]
   ·cases h
 ·cases h
theorem Up (hr:bR φ A w) (ag:∀b e,φ b=some e->w2.heap[e.bf]? =w.heap[e.bf]?) {ρ ρ':Operand->U} {o:Oper} {v:U} (cJ:∀x,aD φ (ρ x) (ρ' x)) (h:E5 P ρ A o=some v):
  ∃aB,(execOp ρ' o).run P w2= .ok (.value aB) w2/\aD φ v aB/\o.guard=none/\∀c,o.op≠.defer c:=by
 unfold E5 at h;split at h
 ·cases h
 ·rename_i az
  split at h
  ·rename_i t x cj
   obtain⟨aB,h1,ae⟩:=aes hr ag (cJ x) h;refine⟨aB,?_,ae,az,λc al=>by rw[cj] at al;cases al⟩;unfold execOp;rw[cj];simp only [Sem.run_bind,h1,Result.andThen_ok];rfl
  ·cases mS:w7 o with
   |false=>rw[mS] at h;cases h
   |true=>
    rw[mS,bw] at h;obtain⟨aB,h1,ae⟩:= @Eb _ P ⟨[]⟩ (λ_ h=>by cases h) φ ρ ρ' o v cJ h;refine⟨aB,h1 w2,ae,az,λc al=> ?_⟩;unfold w7 at mS;rw[al] at mS;simp at mS
end
def Iy (P:aQ) [Lib P] [dX P] (C:hN) (N E m:Nat) (ops:Array Oper) (ms:List Nat) (dE:aT) (A:aW):List Oper->Nat->List U->Option (List U)
 |[],_,vs=>some vs
 |o::r,i,vs=>bif Nat.beq i E then Iy P C N E m ops ms dE A r (i+1) (vs++[cL]) else
  match hW N ops (λj=>vs.getD j cL) (needs ops m o) dE with
  |some sl=>bif Ec ms E i then
    match uk P C .nil ops o sl A with
    |some (v,bt)=>bif HF (.nil,bt) (.nil,A) then Iy P C N E m ops ms dE A r (i+1) (vs++[v]) else none
    |none=>none
   else match E5 P (ea .nil sl) A o with
    |some v=>Iy P C N E m ops ms dE A r (i+1) (vs++[v])
    |none=>none
  |none=>none
def aeu (ops:Array Oper) (E:Nat):Option (aH×Operand×Operand):=
 match ops[E]? with
 |some o=>match o.guard,o.dst,o.op with
  |none,none,.store t p x=>some (t,p,x)
  |_,_,_=>none
 |none=>none
def ma (P:aQ) [Lib P] [dX P] (C:hN) (N E m:Nat):Option bP->Option (aH×U×U×aT)
 |some (.draw _ ops s _)=>
  bif uq ops [] m N&&(Nat.blt E m&&(List.range m).all λi=> !direct ops i E) then
   match hW N ops (λ_=>cL) (List.range m) s.sl,aeu ops E with
   |some dE,some (t,nz,ga)=>match Iy P C N E m ops (Aq ops) dE s.A (ops.toList.take m) 0 [] with
    |some vs=>match hW N ops (λj=>vs.getD j cL) (List.range m) dE,ops[E]? with
     |some eu,some o=>match hW N ops (λj=>vs.getD j cL) (needs ops m o) dE with
      |some Iz=>bif aM (ea .nil Iz nz)&&aM (ea .nil Iz ga) then some (t,ea .nil Iz nz,ea .nil Iz ga,eu) else none
      |none=>none
     |_,_=>none
    |none=>none
   |_,_=>none
  else none
 |_=>none
section
variable {P:aQ} [Lib P] [dX P] {C:hN} {N E m:Nat} {ops:Array Oper} {ms:List Nat} {dE:aT} {A:aW}
end
structure E6 [aY] [cI] (N:Nat) (E7:List Nat) (ds:List Deferred) (ops:Array Oper) (m:Nat) (vs:List U) (dE:aT) (A:aW) (B:Nat) (w0:au) (φ:bQ) (listed:Array Bool) (a:Act) (w:au):Prop where
 aev:qi φ E7 ds
 size:listed.size=ops.size
 down:∀i j,listed.getD i false=true->direct ops i j=true->listed.getD j false=true
 tj:∀i,m<=i->listed.getD i false=false
 rel:bR φ A w
 own:∀b e,φ b=some e->B<=e.bf
 outs:ux φ A
 below:ch B w0 w
 aew:B<=w.heap.size
 defers:a.defers=ds
 l0:a.tmps.size=N
 slot:∀t v,dE.get t=some v->aD φ v (a.tmps.getD t undef)
 val:∀j t,j<m->listed.getD j false=true->fl ops j=some t->aD φ (vs.getD j cL) (a.tmps.getD t undef)
section
variable [aY] [cI] {N:Nat} {E7:List Nat} {ds:List Deferred} {ops:Array Oper} {m B:Nat} {vs:List U} {dE:aT} {A:aW} {w0 w:au} {φ:bQ} {listed:Array Bool} {a:Act}
theorem E6.IA (h:E6 N E7 ds ops m vs dE A B w0 φ listed a w) {kb:Nat->U} {dx:List Nat} {sl:aT} (wS:∀j∈dx,j<m/\listed.getD j false=true/\kb j=vs.getD j cL) (hp:hW N ops kb dx dE=some sl):fu N ds φ sl a:=
 ⟨h.l0,h.defers,λt v aC=>by
   rcases ow _ _ _ hp t v aC with ⟨j,hj,a_,rfl⟩|⟨_,az⟩
   ·obtain⟨h1,ae,ay⟩:=wS j hj
    rw[ay];exact h.val j t h1 ae a_
   ·exact h.slot t v az⟩
omit [aY] [cI] in
theorem IB {listed:Array Bool} {i:Nat} (af:i<listed.size) (j:Nat):(listed.setIfInBounds i true).getD j false=true↔j=i\/listed.getD j false=true:=by
 by_cases hj:j=i
 ·subst hj
  simp [e5,af]
 ·rw[getD_set_ne false (Ne.symm hj)]
  simp [hj]
theorem E6.put (h:E6 N E7 ds ops m vs dE A B w0 φ listed a w) {i:Nat} {o:Oper} {lL:aT} (ek:hW N ops (λ_=>cL) (List.range m) lL=some dE) (af:i<m) (hm:m<=ops.size) (ho:ops[i]? =some o)
  (tn:∀k,direct ops i k=true->listed.getD k false=true) (mR:∀i j,i<m->j<m->i≠j->∀t,fl ops i=some t->fl ops j≠some t) (b8:∀i t,i<m->fl ops i=some t->t<N)
  {aB:U} (aC:o.dst≠none->aD φ (vs.getD i cL) aB):E6 N E7 ds ops m vs dE A B w0 φ (listed.setIfInBounds i true) (a.put o.dst aB) w:=by
 have kB:fl ops i=o.dst:=by simp [fl,ho]
 have eZ:=IB (listed:=listed) (i:=i) (by have:=h.size;omega);have cC:∀t,o.dst≠some t->(a.put o.dst aB).tmps.getD t undef=a.tmps.getD t undef:=λt aI=>by
  rcases Nat.lt_or_ge t a.tmps.size with kc|kc
  ·rw[Act.r3 _ _ _ _ kc,aO aI]
  ·simp [e5,Array.getElem?_eq_none kc,Array.getElem?_eq_none (show (a.put o.dst aB).tmps.size<=t by rw[Act.size_put];exact kc)]
 refine⟨h.aev,by simpa using h.size,?_,?_,h.rel,h.own,h.outs,h.below,h.aew,by rw[Act.Cd];exact h.defers,by rw[Act.size_put];exact h.l0,?_,?_⟩
 ·intro j k hj a_
  rw[eZ] at hj ⊢;rcases hj with rfl|hj
  ·exact .inr (tn k a_)
  ·exact .inr (h.down j k hj a_)
 ·intro j hj
  rw[getD_set_ne false ao];exact h.tj j hj
 ·intro t v oZ
  by_cases qh:o.dst=some t
  ·rcases ow _ _ _ ek t v oZ with ⟨j,hj,a_,rfl⟩|⟨w9,_⟩
   ·exact .cL _
   ·exact absurd (kB.trans qh) (w9 i (List.mem_range.2 af))
  ·rw[cC t qh]
   exact h.slot t v oZ
 ·intro j t hj hl a_
  by_cases eG:j=i
  ·subst eG
   have kc:t<N:=b8 j t hj a_;have:(a.put o.dst aB).tmps.getD t undef=aB:=by
    rw[Act.r3 _ _ _ _ (by rw[h.l0];exact kc),aN (kB.symm.trans a_)]
   rw[this];exact aC (by rw[<-kB,a_];simp)
  ·have ov:=((eZ j).1 hl).resolve_left eG
   rw[cC t λai=>mR i j af hj (Ne.symm eG) t (kB.trans ai) a_];exact h.val j t hj ov a_
end
section
variable [aY] [cI] {P:aQ} [Lib P] [dX P] {C:hN} {N E m B:Nat} {w0:au} {Q:Exit->Act->au->Prop}
end
end AE
namespace AE
theorem aex {P:aQ} (w:au) (oF aey ty elem:aH) (d:Option Addr) (aez:Nat) (a:Addr) (nm q5:Nat) (hu:P.underlying oF=some (.slice elem)) (av:(P.info? elem).map (·.size)=some 1):
  (Builtin.copy_ #[oF,aey] ty #[.slice d 0 aez,.slice (some a) nm q5]).run P w= .ok (.int .i64 0) w:=by
 cases a1:P.info? elem with
 |none=>simp [a1] at av
 |some i=>
  have af:i.size=1:=by simpa [a1] using av
  cases d<;>simp [Builtin.copy_,run_underlying hu,Builtin.lenOf,Builtin.firstCells,sizeOf,typeInfo,a1,af,storeCells,loadCells,loadCellsFrom,Sem.run,pure,goInt]
theorem Nr {α:Type} {enc:α->List U} (ag:∀x,(enc x).length=1) (l:List α) (i:Nat):(l.take i).flatMap enc=(l.flatMap enc).take i/\(l.drop i).flatMap enc=(l.flatMap enc).drop i:=by
 have h:∀(l:List α) (i:Nat),(l.take i).flatMap enc=(l.flatMap enc).take i/\(l.drop i).flatMap enc=(l.flatMap enc).drop i:=by
  intro l
  induction l with
  |nil=>intro i;simp
  |cons x r cd=>
   intro i;cases i with
   |zero=>simp
   |succ i=>
    have ak:=ag x;obtain⟨v,aC⟩:=List.length_eq_one_iff.1 ak;obtain⟨h1,ae⟩:=cd i;simp [aC,h1,ae]
 exact h l i
theorem Uq [cI] {α:Type} {P:aQ} {N B:Nat} {w0:au} {Q:Exit->Act->au->Prop} {M:Mem} {bh bx:List U} {o:Option bP} {t t2 e:aH} {vs jT u rv kb:U} {a:Option Addr} {c i m:Nat} {enc:α->List U} {l ys l':List α} {dM dF:aT} {aU:List bM} {bH:ev}
  (fa:l'=l.take i++ys.take m++l.drop (i+m)) (rW:m=min ys.length (l.length-i)) (h:A4 t t2 o=some (vs,jT)) (aI:P.underlying t=some (.slice e)) (av:(P.info? e).map (·.size)=some 1) (ag:∀x,(enc x).length=1) (jL:∀x,∀v∈enc x,v.oneCell'=true)
  (c1:dy (cW o) dM aU=some bH) (eg:gy N dM (iT o) rv=some dF) (hp:aM vs=true) (Ur:aM rv=true) (hu:u= .slice a l.length c) (lv: @aK (aX M bh) vs=kb) (Ao:kb= .slice (kD a c i 1) (l.length-i) (c-i))
  (iU:∀φ w x,(∀i o,M i=some o->w.heap[i]? =some o)-> @bR (aX M bh) φ (cW o).A w-> @aD (aX M bh) φ jT x->rj w 1 enc x ys) (A7:ys≠[]) (af:i<=l.length)
  (cm:dJ B M e 1 enc u l) (bX:∀M',@aK (aX M' bx) rv= .int .i64 ((m:Nat):Int)) (hm:∀M',fm (aX M bh) (aX M' bx) bH)
  (rest:∀M',dJ B M' e 1 enc u l'->g_ M M' (eF u)->∀aS w,@Here (aX M' bx) _ N {sl:=dF,ms:=[],A:=eJ aU} B w0 aS w->wpListIn (Fr none) 0 P (jS o) (dS P (gX o) Q) (jR o) aS w)
  (aq:cI.dt<=aU.length:=by first|exact Nat.zero_le _|exact hJ rfl) (al:ic (cW o).A aU 0:=by exact f_ rfl): @e0 (aX M bh) _ P N B w0 Q o:=by
 subst Ao;letI:=aX M bh;unfold A4 at h;split at h
 ·rename_i op r ops s ks
  refine⟨_,rfl,λdD w ai=> ?_⟩;split at h
  ·rename_i eE cj
   split at h
   ·rename_i mB ga qg gf
    cases hty:decide (eE.argTypes= #[t,t2]) with
    |false=>rw[hty] at h;cases h
    |true=>
     rw[hty,bw] at h;have xm:eE.argTypes= #[t,t2]:=of_decide_eq_true hty;split at h
     ·rename_i iv
      cases h;have fT:=ai;obtain⟨⟨φ,ds,h1,ae,ay,bE,_⟩,cn,cy⟩:=ai;unfold wpListIn;rw[nx ae.get iv,aN rfl];have es:dD.eval mB= .slice (kD a c i 1) (l.length-i) (c-i):=(aD.iq _ hp (gg (hX φ) ae.get mB)).trans lv;have hw:∀i o,M i=some o->w.heap[i]? =some o:=fT.mz;obtain⟨vY,c2,ex,xl,ka⟩:=iU φ w _ hw ay (gg (hX φ) ae.get ga);have ff:∀c',op.op≠.defer c':=λc' h=>by rw[cj] at h;cases h
      cases vY with
      |none=>exact absurd (xl rfl) A7
      |some gB=>
       have oq:∀(w2:au),(Builtin.copy_ #[t,t2] op.type #[dD.eval mB,dD.eval ga]).run P w= .ok (.int .i64 ((m:Nat):Int)) w2->(execOp dD.eval op).run P w= .ok (.value (.int .i64 ((m:Nat):Int))) w2:=by
        intro w2 E4;unfold execOp resolve;rw[cj];simp only [qg,gf,xm,List.map_toArray,List.map_cons,List.map_nil];show (do pure (Next.value (<-Builtin.copy_ #[t,t2] op.type #[dD.eval mB,dD.eval ga])):Sem Next).run P w=_;simp only [Sem.run_bind,E4,Result.andThen_ok];rfl
       rcases Nat.eq_or_lt_of_le af with oC|oC
       ·
        have v_:m=0:=by omega
        subst v_;have jf:l'=l:=by rw[fa,oC];simp
        rw[jf] at rest;have eQ:=oq w (by rw[es,ex,show l.length-i=0 by omega];exact aex w t t2 op.type e _ _ gB _ c2 aI av);refine⟨λ_ _=>trivial,?_⟩;rw[Oper.semAt_eq _ _ _ ff,eQ,Oper.uponIn_value];have gN:=Here.move (s2:=aX M bx) c1 (hm M) (λ_ _ h=>h) aq al fT;have:=rest M cm (λ_ _ h _=>h) _ _ (@Here.put (aX M bx) _ _ _ _ _ _ _ op.dst rv dF gN Ur eg);rw[bX M] at this;exact this
       ·rcases cm with ⟨alz,rfl,rfl⟩|⟨g,cap,cur,he,j1,dI,bj,hle,wX,gv,xr⟩
        ·simp at oC
        ·rw[he] at hu
         simp only [Value.slice.injEq] at hu;obtain⟨rfl,_,rfl⟩:=hu;have az:=hw _ _ bj;have a_:kD (some (⟨g,0,none⟩:Addr)) cap i 1=some ⟨g,i,none⟩:=by
          unfold kD;rw[aO ao];show some ((⟨g,0,none⟩:Addr).add (i*1))=_;have:(⟨g,0,none⟩:Addr).add (i*1)=⟨g,0+i*1,none⟩:=by unfold Addr.add;split<;>simp_all
          rw[this,Nat.zero_add,Nat.mul_one]
         have alA:cur.size=cap:=by omega
         have A5:((ys.take m).flatMap enc).length=m:=by
          rw[qm ag,List.length_take];omega
         have E4:=run_copy_row (P:=P) w t t2 op.type e g i (l.length-i) (cap-i) gB ys.length c2 cur e ((ys.take m).flatMap enc) aI av az (by rw[A5];exact rW) (λj v hj=>ka gB rfl j v (by
          rw[(Nr ag ys m).1] at hj;rw[List.getElem?_take] at hj;split at hj
          ·exact hj
          ·cases hj)) (by rw[A5];omega) (λv aC=>by
          obtain⟨x,_,ak⟩:=List.mem_flatMap.1 aC
          exact jL x v ak)
         let fg:Array U:=(cur.toList.take i++(ys.take m).flatMap enc++cur.toList.drop (i+m)).toArray
         have eQ:=oq (w.setRow g fg) (by rw[es,ex,a_,E4,A5];rfl);refine⟨λ_ _=>trivial,?_⟩;rw[Oper.semAt_eq _ _ _ ff,eQ,Oper.uponIn_value];have gW:eF u=some g:=by rw[he];exact mU ⟨g,0,none⟩ _ j1
         obtain⟨q1,aE⟩:=oA (B:=B) (M:=M) (w':=w.setRow g fg) (T:=some g) (dQ:=some g) hw (λi af=>by cases af;exact⟨by rw[bj];simp,dI⟩) (λi af=> .inl af) ⟨rfl,rfl,rfl⟩ (bY _) (by simp [World.setRow]) (λj _ hj=>setRow_other w g j fg (λh=>hj (by rw[h])));have jf:l'.length=l.length:=by rw[fa];simp;omega
         have oD:dJ B (gk M (w.setRow g fg) (some g) (some g)) e 1 enc u l':=by
          refine .inr ⟨g,cap,fg,by rw[he,jf],j1,dI,?_,by rw[jf];exact hle,wX,?_,?_⟩
          ·unfold gk
           rw[aN rfl];exact setRow_heap w g cur fg e (0,0) az
          ·show (List.toArray _).size=_
           simp only [List.size_toArray,List.length_append,List.length_take,List.length_drop,A5,Array.length_toList];omega
          ·show (cur.toList.take i++(ys.take m).flatMap enc++cur.toList.drop (i+m)).take (l'.length*1)=_
           rw[fa,List.flatMap_append,List.flatMap_append,(Nr ag l i).1,(Nr ag l (i+m)).2,<-xr,Nat.mul_one,Nat.mul_one,<-fa,jf];have h1:(cur.toList.take i++(ys.take m).flatMap enc).length=i+m:=by
            rw[List.length_append,A5,List.length_take,Array.length_toList];omega
           rw[List.take_append,h1,List.take_of_length_le ao,List.take_drop,List.take_take,Nat.min_eq_left ao,List.drop_take];congr 1;have:i+m+(l.length-(i+m))=l.length:=by omega
           rw[this,List.drop_take]
         have gN:=Here.turns (vals':=bx) c1 (hm _) q1 aq al fT;have:=rest _ oD (by rw[gW];exact aE) _ _ (@Here.put (aX (gk M (w.setRow g fg) (some g) (some g)) bx) _ _ _ _ _ _ _ op.dst rv dF gN Ur eg);rw[bX _] at this;exact this
     ·cases h
   ·cases h
  ·cases h
 ·cases h
theorem aeA (a:Option Addr) (n c:Nat):Value.slice a n c= .slice (kD a c 0 1) (n-0) (c-0):=by
 unfold kD;split
 ·rfl
 ·cases a with
  |none=>rfl
  |some a=>
   obtain⟨b,o,s⟩:=a;rw[Nat.sub_zero,Nat.sub_zero,Nat.zero_mul];cases s<;>rfl
theorem Us {α:Type} {M:Mem} {bh:List U} {jT kb:U} {A:aW} {k:Nat} {enc:α->List U} {l:List α} (hp:aM jT=true) (a': @aK (aX M bh) jT=kb) (j3:b7 M k enc kb l) (ag:∀x,(enc x).length=k):
  ∀φ w x,(∀i o,M i=some o->w.heap[i]? =some o)-> @bR (aX M bh) φ A w-> @aD (aX M bh) φ jT x->rj w k enc x l:=λφ w x hw _ aC=>by
 have:x=kb:=(@aD.iq (aX M bh) φ jT x hp aC).trans a';rw[this];exact j3.reads ag hw
theorem IC {n:Int} (h1:0<=n) (ae:n<=18446744073709551615):IntKind.u64.wrap n=n:=by rw[IntKind.wrap_u64];omega
end AE
namespace AE
abbrev c_:=Option Addr×Nat
def Ns (P:aQ) (A:aW) (t:aH):U->Option U
 | .pointer (some ⟨b,off,none⟩)=>match a7 P (isAgg t) with
   |some true=>match a7 P (sizeOf t) with
    |some n=>(A.q0 b off n).map λl=> .agg ⟨l⟩
    |none=>none
   |_=>none
 |_=>none
theorem aeB [aY] {φ:bQ} {A:aW} {w w2:au} {e:gZ} (hr:bR φ A w) (ag:w2.heap[e.bf]? =w.heap[e.bf]?) (P:aQ) {b off n:Nat} {vs:List U} (h:A.q0 b off n=some vs) (he:φ b=some e):
  ∃de:Array U,(loadCells ⟨e.bf,e.sh+off,none⟩ n).run P w2= .ok de w2/\de.size=vs.length/\∀j,j<vs.length->aD φ (vs.getD j undef) (de.getD j undef):=by
 obtain⟨hl,hj⟩:=z6 h;have z7:∀j,j<n->∃aB,w2.cell? ⟨e.bf,e.sh+off+j,none⟩=some aB/\aD φ (vs.getD j undef) aB:=λj ua=>by
  obtain⟨aB,h1,ae⟩:=tY hr (hj j ua) he;exact⟨aB,by rw[show e.sh+off+j=e.sh+(off+j) by omega,Uo ag];exact h1,ae⟩
 let f:Nat->U:=λj=>(w2.cell? ⟨e.bf,e.sh+off+j,none⟩).getD undef
 have aP:∀j,j<n->w2.cell? ((⟨e.bf,e.sh+off,none⟩:Addr).add j)=some (f j):=λj ua=>by
  obtain⟨aB,h1,_⟩:=z7 j ua;rw[Addr.jZ,h1];simp [f,h1]
 refine⟨_,run_loadCells _ _ n f aP,by simp [hl],λj ua=> ?_⟩;obtain⟨aB,h1,ae⟩:=z7 j ao;have:f j=aB:=by simp [f,h1]
 have aeC:j<n:=by omega
 simpa [aeC,this] using ae
theorem aeD [aY] {P:aQ} {φ:bQ} {A:aW} {w w2:au} (hr:bR φ A w) (ag:∀b e,φ b=some e->w2.heap[e.bf]? =w.heap[e.bf]?) {t:aH} {p p' v:U} (hp:aD φ p p') (h:Ns P A t p=some v):∃aB,(Instr.loadAt t p').run P w2= .ok aB w2/\aD φ v aB:=by
 unfold Ns at h;split at h
 ·rename_i b off
  cases hp with
  |ptr he=>
   split at h
   ·rename_i pA
    split at h
    ·rename_i n aq
     obtain⟨l,hl,rfl⟩:=Option.map_eq_some_iff.1 h;obtain⟨de,h1,ae,ay⟩:=aeB hr (ag _ _ bB) P hl bB;refine⟨.agg de,?_,.agg _ _ (by simp [ae]) λi af=>by simpa using ay i (by simpa using af)⟩;unfold Instr.loadAt;refine cK (a:=(⟨_,_,none⟩:Addr)) rfl ?_;unfold loadVar;refine cK pA ?_;simp only [if_true];refine cK aq ?_;simp only [Sem.run_bind,h1,Result.andThen_ok];rfl
    ·cases h
   ·cases h
 ·cases h
def y' (P:aQ) (a':Operand->U) (A:aW) (o:Oper):Option U:=
 match o.op with
 | .build t ⟨[]⟩=>match o.guard with
   |none=>match a7 P (Instr.build t #[]) with
    |some v=>bif plain v then some v else none
    |none=>none
   |some _=>none
 | .load t x=>match o.guard with
   |none=>match Ns P A t (a' x) with
    |some v=>some v
    |none=>E5 P a' A o
   |some _=>none
 |_=>E5 P a' A o
theorem aeE [aY] {P:aQ} {φ:bQ} {A:aW} {w w2:au} (hr:bR φ A w) (ag:∀b e,φ b=some e->w2.heap[e.bf]? =w.heap[e.bf]?) {ρ ρ':Operand->U} {o:Oper} {v:U} (cJ:∀x,aD φ (ρ x) (ρ' x)) (h:y' P ρ A o=some v):
  ∃aB,(execOp ρ' o).run P w2= .ok (.value aB) w2/\aD φ v aB/\o.guard=none/\∀c,o.op≠.defer c:=by
 unfold y' at h;split at h
 ·rename_i t cj
  split at h
  ·rename_i az
   split at h
   ·rename_i u hu
    cases hp:plain u with
    |false=>rw[hp] at h;cases h
    |true=>
     rw[hp,bw] at h;cases h;refine⟨v,?_,aD.ku φ v hp,az,λc al=>by rw[cj] at al;cases al⟩;unfold execOp;rw[cj];simp only [List.map_toArray,List.map_nil,Sem.run_bind,jc hu w2,Result.andThen_ok];rfl
   ·cases h
  ·cases h
 ·rename_i t x cj
  split at h
  ·rename_i az
   split at h
   ·rename_i u hu
    cases h;obtain⟨aB,h1,ae⟩:=aeD (w2:=w2) hr ag (cJ x) hu;refine⟨aB,?_,ae,az,λc al=>by rw[cj] at al;cases al⟩;unfold execOp;rw[cj];simp only [Sem.run_bind,h1,Result.andThen_ok];rfl
   ·exact Up hr ag cJ h
  ·cases h
 ·exact Up hr ag cJ h
def CO (P:aQ) (N m:Nat) (dx:List Nat) (ops:Array Oper) (dE:aT) (A:aW):List Oper->Nat->List U->Option (List U)
 |[],_,vs=>some vs
 |o::r,i,vs=>bif dx.contains i then CO P N m dx ops dE A r (i+1) (vs++[cL]) else
  match hW N ops (λj=>vs.getD j cL) (needs ops m o) dE with
  |some sl=>match y' P (ea .nil sl) A o with
   |some v=>CO P N m dx ops dE A r (i+1) (vs++[v])
   |none=>none
  |none=>none
def E8 (P:aQ) (N m:Nat) (dx:List Nat):Option bP->Option (aT×List U×aT)
 |some (.draw _ ops s _)=>
  bif uq ops [] m N&&((List.range m).all λi=>match ops[i]? with|some o=>(needs ops m o).all λj=> !dx.contains j|none=>false)&&dx.all (λj=>Nat.blt j m) then
   match hW N ops (λ_=>cL) (List.range m) s.sl with
   |some dE=>match CO P N m dx ops dE s.A (ops.toList.take m) 0 [] with
    |some vs=>match hW N ops (λj=>vs.getD j cL) ((List.range m).filter λi=> !dx.contains i) dE with
     |some ID=>some (dE,vs,ID)
     |none=>none
    |none=>none
   |none=>none
  else none
 |_=>none
def qu (P:aQ) (N m:Nat) (dx:List Nat) (o:Option bP) (i:Nat):aT:=
 match E8 P N m dx o,(lQ o)[i]? with
 |some (dE,vs,_),some op=>match hW N (lQ o) (λj=>vs.getD j cL) (needs (lQ o) m op) dE with
  |some sl=>sl
  |none=> .nil
 |_,_=> .nil
def E9 (P:aQ) (N m:Nat) (dx:List Nat) (o:Option bP):b6:={cW o with sl:=match E8 P N m dx o with|some (_,_,sl)=>sl|none=> .nil}
def Nt (m:Nat) (o:Option bP):List Oper:=(lQ o).toList.drop m
def CP (N:Nat) (ops:Array Oper):List (Nat×U)->aT->Option aT
 |[],sl=>some sl
 |p::r,sl=>match gy N sl (fl ops p.1) p.2 with
  |some s=>CP N ops r s
  |none=>none
def wa [aY] (P:aQ) (M:Mem) (B:Nat) (o:Oper) (sl:aT) (R:c_->ca) (rv:c_->U):Prop:=
 o.guard=none/\∀(a:Act) (w:au) (K:Act->au->Prop) (Q:Exit->Act->au->Prop),(∀x:Operand,aM (ea .nil sl x)=true->a.eval x=aK (ea .nil sl x))->(∀b o,M b=some o->w.heap[b]? =some o)->B<=w.heap.size->
   (∀y w',(R y).ok (aG w')->(∀b,(R y).mY b->w.heap.size<=b)->ch w.heap.size w w'->K (a.put o.dst (rv y)) w')->Oper.wpIn (Fr none) 0 P o a w K Q
theorem Ut {P:aQ} {N m:Nat} {dx:List Nat} {ops:Array Oper} {dE:aT} {A:aW}:∀(l:List Oper) (i0:Nat) (vs de:List U),vs.length=i0->CO P N m dx ops dE A l i0 vs=some de->
  de.length=vs.length+l.length/\de.take vs.length=vs/\∀i o,l[i]? =some o->dx.contains (i0+i)=false->∃sl,hW N ops (λj=>(de.take (vs.length+i)).getD j cL) (needs ops m o) dE=some sl/\y' P (ea .nil sl) A o=some (de.getD (vs.length+i) cL)
 |[],i0,vs,de,_,h=>by
  cases h;exact⟨by simp,by simp,λi o af=>by simp at af⟩
 |o::r,i0,vs,de,Ar,h=>by
  unfold CO at h;have go:∀v,(dx.contains i0=false->∃sl,hW N ops (λj=>vs.getD j cL) (needs ops m o) dE=some sl/\y' P (ea .nil sl) A o=some v)->CO P N m dx ops dE A r (i0+1) (vs++[v])=some de->
    de.length=vs.length+(o::r).length/\de.take vs.length=vs/\∀i o',(o::r)[i]? =some o'->dx.contains (i0+i)=false->∃sl,hW N ops (λj=>(de.take (vs.length+i)).getD j cL) (needs ops m o') dE=some sl/\y' P (ea .nil sl) A o'=some (de.getD (vs.length+i) cL):=by
   intro v aC h;obtain⟨ae,ay,bE⟩:=Ut r (i0+1) (vs++[v]) de (by simp [Ar]) h;have hlen:(vs++[v]).length=vs.length+1:=by simp
   rw[hlen] at ae ay;have yH:de.take vs.length=vs:=by
    have:=congrArg (List.take vs.length) ay;rw[List.take_take,Nat.min_eq_left ao] at this;simpa using this
   refine⟨by simp;omega,yH,?_⟩;intro i o' af
   match i with
   |0=>
    simp only [List.getElem?_cons_zero,cx] at af;subst af;simp only [Nat.add_zero];rw[yH];have gp:de.getD vs.length cL=v:=by
     have:=congrArg (λl=>l[vs.length]?) ay;simp at this;rw[dr,this];rfl
    rw[gp];exact aC
   |i+1=>
    have:=bE i o' (by simpa using af);rw[hlen] at this;rw[show vs.length+(i+1)=vs.length+1+i by omega,show i0+(i+1)=i0+1+i by omega];exact this
  cases al:dx.contains i0 with
  |true=>
   rw[al,bw] at h;exact go cL (λai=>by rw[al] at ai;cases ai) h
  |false=>
   rw[al,ei] at h;split at h
   ·rename_i sl gH
    split at h
    ·rename_i v aC
     exact go v (λ_=>⟨sl,gH,aC⟩) h
    ·cases h
   ·cases h
structure uI [aY] (N:Nat) (ds:List Deferred) (ops:Array Oper) (m:Nat) (dx:List Nat) (vs:List U) (dE:aT) (lA:au) (φ:bQ) (R:Nat->c_->ca) (rv:Nat->c_->U) (ys:Nat->c_) (listed:Array Bool) (a:Act) (w:au):Prop where
 size:listed.size=ops.size
 down:∀i j,listed.getD i false=true->direct ops i j=true->listed.getD j false=true
 tj:∀i,m<=i->listed.getD i false=false
 low:ch lA.heap.size lA w
 defers:a.defers=ds
 l0:a.tmps.size=N
 slot:∀t v,dE.get t=some v->aD φ v (a.tmps.getD t undef)
 Nu:∀j t,j<m->listed.getD j false=true->dx.contains j=false->fl ops j=some t->aD φ (vs.getD j cL) (a.tmps.getD t undef)
 IE:∀j t,j<m->listed.getD j false=true->dx.contains j=true->fl ops j=some t->a.tmps.getD t undef=rv j (ys j)
 ok:∀j,j<m->listed.getD j false=true->dx.contains j=true->(R j (ys j)).ok (aG w)/\∀b,(R j (ys j)).mY b->lA.heap.size<=b
 two:∀i j,i<m->j<m->i≠j->listed.getD i false=true->listed.getD j false=true->dx.contains i=true->dx.contains j=true->∀b,(R i (ys i)).mY b->¬(R j (ys j)).mY b
section
variable [aY] {N:Nat} {ds:List Deferred} {ops:Array Oper} {m:Nat} {dx:List Nat} {vs:List U} {dE:aT} {lA w:au} {φ:bQ} {R:Nat->c_->ca} {rv:Nat->c_->U} {ys:Nat->c_} {listed:Array Bool} {a:Act}
omit [aY] in
theorem xw {a:Act} {d:Option Tmp} {aB:U} (t:Tmp) (aI:d≠some t):(a.put d aB).tmps.getD t undef=a.tmps.getD t undef:=by
 rcases Nat.lt_or_ge t a.tmps.size with kc|kc
 ·rw[Act.r3 _ _ _ _ kc,aO aI]
 ·simp [e5,Array.getElem?_eq_none kc,Array.getElem?_eq_none (show (a.put d aB).tmps.size<=t by rw[Act.size_put];exact kc)]
theorem uI.IA (h:uI N ds ops m dx vs dE lA φ R rv ys listed a w) {kb:Nat->U} {ks:List Nat} {sl:aT} (DY:∀j∈ks,j<m/\listed.getD j false=true/\dx.contains j=false/\kb j=vs.getD j cL) (hp:hW N ops kb ks dE=some sl):fu N ds φ sl a:=
 ⟨h.l0,h.defers,λt v aC=>by
   rcases ow _ _ _ hp t v aC with ⟨j,hj,a_,rfl⟩|⟨_,az⟩
   ·obtain⟨h1,ae,ay,bE⟩:=DY j hj
    rw[bE];exact h.Nu j t h1 ae ay a_
   ·exact h.slot t v az⟩
theorem uI.aeF (h:uI N ds ops m dx vs dE lA φ R rv ys listed a w) {i:Nat} {o:Oper} {lL:aT} (ek:hW N ops (λ_=>cL) (List.range m) lL=some dE) (af:i<m) (hm:m<=ops.size) (ho:ops[i]? =some o) (iU:dx.contains i=false)
  (tn:∀k,direct ops i k=true->listed.getD k false=true) (mR:∀i j,i<m->j<m->i≠j->∀t,fl ops i=some t->fl ops j≠some t) (b8:∀i t,i<m->fl ops i=some t->t<N)
  {aB:U} (aC:aD φ (vs.getD i cL) aB):uI N ds ops m dx vs dE lA φ R rv ys (listed.setIfInBounds i true) (a.put o.dst aB) w:=by
 have kB:fl ops i=o.dst:=by simp [fl,ho]
 have eZ:=IB (listed:=listed) (i:=i) (by have:=h.size;omega);have IG:∀{j},dx.contains j=true->j≠i:=λ{j} hj e=>by rw[e,iU] at hj;cases hj
 refine⟨by simpa using h.size,?_,?_,h.low,by rw[Act.Cd];exact h.defers,by rw[Act.size_put];exact h.l0,?_,?_,?_,?_,?_⟩
 ·intro j k hj a_
  rw[eZ] at hj ⊢;rcases hj with rfl|hj
  ·exact .inr (tn k a_)
  ·exact .inr (h.down j k hj a_)
 ·intro j hj
  rw[getD_set_ne false ao];exact h.tj j hj
 ·intro t v oZ
  by_cases qh:o.dst=some t
  ·rcases ow _ _ _ ek t v oZ with ⟨j,hj,a_,rfl⟩|⟨w9,_⟩
   ·exact .cL _
   ·exact absurd (kB.trans qh) (w9 i (List.mem_range.2 af))
  ·rw[xw t qh]
   exact h.slot t v oZ
 ·intro j t hj hl ak a_
  by_cases eG:j=i
  ·subst eG
   rw[Act.r3 _ _ _ _ (by rw[h.l0];exact b8 j t hj a_),aN (kB.symm.trans a_)];exact aC
  ·rw[xw t λai=>mR i j af hj (Ne.symm eG) t (kB.trans ai) a_]
   exact h.Nu j t hj (((eZ j).1 hl).resolve_left eG) ak a_
 ·intro j t hj hl ak a_
  have eG:=IG ak;rw[xw t λai=>mR i j af hj (Ne.symm eG) t (kB.trans ai) a_];exact h.IE j t hj (((eZ j).1 hl).resolve_left eG) ak a_
 ·intro j hj hl ak
  exact h.ok j hj (((eZ j).1 hl).resolve_left (IG ak)) ak
 ·intro j k hj ag cC hl sn ak hY
  exact h.two j k hj ag cC (((eZ j).1 hl).resolve_left (IG ak)) (((eZ k).1 sn).resolve_left (IG hY)) ak hY
theorem uI.aeG (h:uI N ds ops m dx vs dE lA φ R rv ys listed a w) {i:Nat} {o:Oper} {lL:aT} (ek:hW N ops (λ_=>cL) (List.range m) lL=some dE) (af:i<m) (hm:m<=ops.size) (ho:ops[i]? =some o) (iU:dx.contains i=true) (uu:listed.getD i false=false)
  (tn:∀k,direct ops i k=true->listed.getD k false=true) (mR:∀i j,i<m->j<m->i≠j->∀t,fl ops i=some t->fl ops j≠some t) (b8:∀i t,i<m->fl ops i=some t->t<N)
  {y:c_} {w':au} (hx:(R i y).ok (aG w')) (aP:∀b,(R i y).mY b->w.heap.size<=b) (rU:ch w.heap.size w w'):
  uI N ds ops m dx vs dE lA φ R rv (λj=>if j=i then y else ys j) (listed.setIfInBounds i true) (a.put o.dst (rv i y)) w':=by
 have kB:fl ops i=o.dst:=by simp [fl,ho]
 have eZ:=IB (listed:=listed) (i:=i) (by have:=h.size;omega);have A7:∀{j},j≠i->(if j=i then y else ys j)=ys j:=λ{j} hj=>aO hj
 refine⟨by simpa using h.size,?_,?_,h.low.trans (rU.mono h.low.size),by rw[Act.Cd];exact h.defers,by rw[Act.size_put];exact h.l0,?_,?_,?_,?_,?_⟩
 ·intro j k hj a_
  rw[eZ] at hj ⊢;rcases hj with rfl|hj
  ·exact .inr (tn k a_)
  ·exact .inr (h.down j k hj a_)
 ·intro j hj
  rw[getD_set_ne false ao];exact h.tj j hj
 ·intro t v oZ
  by_cases qh:o.dst=some t
  ·rcases ow _ _ _ ek t v oZ with ⟨j,hj,a_,rfl⟩|⟨w9,_⟩
   ·exact .cL _
   ·exact absurd (kB.trans qh) (w9 i (List.mem_range.2 af))
  ·rw[xw t qh]
   exact h.slot t v oZ
 ·intro j t hj hl ak a_
  have eG:j≠i:=λe=>by rw[e,iU] at ak;cases ak
  rw[xw t λai=>mR i j af hj (Ne.symm eG) t (kB.trans ai) a_];exact h.Nu j t hj (((eZ j).1 hl).resolve_left eG) ak a_
 ·intro j t hj hl ak a_
  by_cases eG:j=i
  ·subst eG
   rw[Act.r3 _ _ _ _ (by rw[h.l0];exact b8 j t hj a_),aN (kB.symm.trans a_),aN rfl]
  ·rw[xw t λai=>mR i j af hj (Ne.symm eG) t (kB.trans ai) a_,A7 eG]
   exact h.IE j t hj (((eZ j).1 hl).resolve_left eG) ak a_
 ·intro j hj hl ak
  by_cases eG:j=i
  ·subst eG
   rw[aN rfl];exact⟨hx,λb ad=>Nat.le_trans h.low.size (aP b ad)⟩
  ·rw[A7 eG]
   obtain⟨q1,aE⟩:=h.ok j hj (((eZ j).1 hl).resolve_left eG) ak;refine⟨(R j (ys j)).loc _ _ (λb o _ ad=> ?_) q1,aE⟩;rw[show aG w' b=aG w b from rU.block b (Array.getElem?_eq_some_iff.1 ad).1];exact ad
 ·intro j k hj ag cC hl sn ak hY b ad kP
  have old:∀j,j<m->j≠i->(listed.setIfInBounds i true).getD j false=true->dx.contains j=true->(R j (ys j)).mY b->¬w.heap.size<=b:=λj hj eG hl ak ad av=>by
   have:=(R j (ys j)).qq _ (h.ok j hj (((eZ j).1 hl).resolve_left eG) ak).1 b ad;exact this (Array.getElem?_eq_none_iff.2 av)
  by_cases eG:j=i
  ·have tp:k≠i:=λe=>cC (eG.trans e.symm)
   rw[A7 tp] at kP;rw[aN eG] at ad;rw[eG] at ad;exact old k ag tp sn hY kP (aP b ad)
  ·rw[A7 eG] at ad
   by_cases tp:k=i
   ·rw[aN tp,tp] at kP
    exact old j hj eG hl ak ad (aP b kP)
   ·rw[A7 tp] at kP
    exact h.two j k hj ag cC (((eZ j).1 hl).resolve_left eG) (((eZ k).1 sn).resolve_left tp) ak hY b ad kP
end
theorem Here.know [aY] [cI] {N B:Nat} {s:b6} {w0 w:au} {a:Act} {dT:aT} {d:Option Tmp} {v:U} (ai:Here N s B w0 a w) (hp:aM v=true) (aI:∀t,d=some t->a.tmps.getD t undef=aK v) (eZ:gy N s.sl d v=some dT):Here N {s with sl:=dT} B w0 a w:=by
 obtain⟨⟨φ,ds,h1,ae,ay⟩,cn,cy⟩:=ai;refine⟨⟨φ,ds,h1,⟨ae.size,ae.defers,λt u hu=> ?_⟩,ay⟩,cn,cy⟩;cases d with
 |none=>cases eZ;exact ae.get t u hu
 |some d=>
  have:=ow (N:=N) (ops:= #[{(default:Oper) with dst:=some d}]) (kb:=λ_=>v) [0] s.sl dT (by
   unfold hW;rw[show fl #[{(default:Oper) with dst:=some d}] 0=some d from rfl,eZ]
   rfl) t u hu
  rcases this with ⟨j,hj,a_,rfl⟩|⟨_,az⟩
  ·rw[List.mem_singleton.1 hj] at a_
   rw[aI t a_];exact aD.vG φ u hp
  ·exact ae.get t u az
theorem Here.Uu [aY] [cI] {N B:Nat} {w0 w:au} {a:Act} {ops:Array Oper} {ms:List Nat} {A:aW}:∀(hq:List (Nat×U)) (sl dT:aT),Here N {sl,ms,A} B w0 a w->(∀p∈hq,aM p.2=true/\∀t,fl ops p.1=some t->a.tmps.getD t undef=aK p.2)->CP N ops hq sl=some dT->Here N {sl:=dT,ms,A} B w0 a w
 |[],sl,dT,ai,_,h=>by cases h;exact ai
 |p::r,sl,dT,ai,hp,h=>by
  unfold CP at h;split at h
  ·rename_i s1 av
   obtain⟨h1,ae⟩:=hp p (by simp);exact Here.Uu r s1 dT (Here.know ai h1 ae av) (λq a1=>hp q (by simp [a1])) h
  ·cases h
theorem aeH [cI] {P:aQ} {N B:Nat} {w0:au} {Q:Exit->Act->au->Prop} {M:Mem} {bh:List U} {Y:Type} {bx:Y->List U} {o:Option bP} {m:Nat} {hq:List (Nat×U)} {R:Nat->c_->ca} {rv:Nat->c_->U} {pr:Nat->Y->c_} {mk:(Nat->c_)->Y} {dM dF:aT} {aU:List bM} {bH:ev}
  (cD:P.follows .mixedOrders=true) (h:(E8 P N m (hq.map (·.1)) o).isSome=true) (ff:(hq.map (·.1)).Nodup)
  (iU:∀i∈hq.map (·.1),∃op,(lQ o)[i]? =some op/\ @wa (aX M bh) P M B op (qu P N m (hq.map (·.1)) o i) (R i) (rv i))
  (r8:∀ys j,j∈hq.map (·.1)->pr j (mk ys)=ys j) (c1:dy (E9 P N m (hq.map (·.1)) o) dM aU=some bH) (eg:CP N (lQ o) hq dM=some dF) (fF:hq.all (λp=>aM p.2)=true)
  (bX:∀y M' p,p∈hq-> @aK (aX M' (bx y)) p.2=rv p.1 (pr p.1 y)) (hm:∀y M',fm (aX M bh) (aX M' (bx y)) bH)
  (rest:∀y M',dp M [] M' (hq.map λp=>R p.1 (pr p.1 y))->∀aS w,@Here (aX M' (bx y)) _ N {sl:=dF,ms:=[],A:=eJ aU} B w0 aS w->wpListIn (Fr none) 0 P (lQ o) (dS P (gX o) Q) (Nt m o) aS w)
  (aq:cI.dt<=aU.length:=by first|exact Nat.zero_le _|exact hJ rfl) (al:ic (cW o).A aU 0:=by exact f_ rfl): @e0 (aX M bh) _ P N B w0 Q o:=by
 letI:=aX M bh;obtain⟨⟨dE,vs,ID⟩,a_⟩:=Option.isSome_iff_exists.1 h;have fo:=a_;unfold E8 at a_;split at a_
 ·rename_i id ops s ks
  cases ad:(uq ops [] m N&&((List.range m).all λi=>match ops[i]? with|some o=>(needs ops m o).all λj=> !(hq.map (·.1)).contains j|none=>false)&&(hq.map (·.1)).all (λj=>Nat.blt j m)) with
  |false=>rw[ad] at a_;cases a_
  |true=>
   rw[ad,bw] at a_;simp only [c0] at ad;obtain⟨⟨hM,Nv⟩,eX⟩:=ad;have eX:∀j∈hq.map (·.1),j<m:=λj hj=>Nat.blt_eq.mp (List.all_eq_true.1 eX j hj)
   obtain⟨Ee,nW,mR,b8,ub,ra,yK⟩:=Ed hM;have Nv:∀i o,i<m->ops[i]? =some o->∀j∈needs ops m o,(hq.map (·.1)).contains j=false:=λi o af ho j hj=>by
    have:=List.all_eq_true.1 Nv i (List.mem_range.2 af);rw[ho] at this;simpa using List.all_eq_true.1 this j hj
   split at a_
   ·rename_i y_ ek
    split at a_
    ·rename_i de oq
     split at a_
     ·rename_i Uv Mz
      simp only [cx,Prod.mk.injEq] at a_;obtain⟨rfl,rfl,rfl⟩:=a_;have aeI:∀i o,i<m->ops[i]? =some o->(hq.map (·.1)).contains i=false->∃sl,hW N ops (λj=>(de.take i).getD j cL) (needs ops m o) y_=some sl/\y' P (ea .nil sl) s.A o=some (de.getD i cL):=by
       intro i o af ho ak;have:=(Ut _ 0 [] _ rfl oq).2.2 i o (by rw[List.getElem?_take,aN af];simpa using ho) (by rw[Nat.zero_add];exact ak);simpa using this
      refine⟨_,rfl,λa w ai=> ?_⟩;have a1:Here N s B w0 a {w with drawn:=w.drawn+1}:=ai.quiet ⟨⟨rfl,rfl,rfl,bY _,λ_ _=>rfl⟩,bY _⟩;refine wpIn_region_any cD ?_;have II:∀i o,M i=some o->({w with drawn:=w.drawn+1}:au).heap[i]? =some o:=a1.mz;generalize ({w with drawn:=w.drawn+1}:au)=lA at a1 II;obtain⟨⟨φ,ds,q1,aE,b9,ey,hv⟩,lJ,qa⟩:=a1;have vR:∀{o:Oper} {a:Act},o.guard=none->Region.wanted o (yielded ops a.tmps)=true:=λ{o a} az=>by unfold Region.wanted;rw[az]
      have yZ:∀{w:au},ch lA.heap.size lA w->∀b e,φ b=some e->w.heap[e.bf]? =lA.heap[e.bf]? :=λ{w} hl b e ad=>by
       obtain⟨k,_,_,q⟩:=b9.ep b e ad;exact hl.block e.bf (fy.lt q)
      have vP:∀{ys:Nat->c_} {listed:Array Bool} {a:Act} {w:au},uI N ds ops m (hq.map (·.1)) de y_ lA φ R rv ys listed a w->¬(∀i,i<m->listed.getD i false=true)->Region.ready .any ops listed≠[]/\∀i∈Region.ready .any ops listed,i<m/\listed.getD i false=false/\i<ops.size:=by
       intro ys listed a w bn o0;obtain⟨i0,Ar⟩:=Classical.not_forall.1 o0;obtain⟨HB,vQ⟩:=Classical.not_imp.1 Ar;have vQ:listed.getD i0 false=false:=by simpa using vQ
       refine⟨?_,λi af=> ?_⟩
       ·have key:∀n i,i<n->i<m->listed.getD i false=false->∃k,k∈Region.ready .any ops listed:=by
         intro n
         induction n with
         |zero=>intro i af;omega
         |succ n LR=>
          intro i af o1 LS;by_cases hp:∀k,direct ops i k=true->listed.getD k false=true
          ·refine⟨i,mem_ready.2 ⟨by rw[r4 (by have:=bn.size;omega)];exact LS,ops[i]'(by omega),Array.getElem?_eq_getElem _,λe he ad=>hp _ ?_⟩⟩
           have ho:ops[i]? =some (ops[i]'(by omega)):=Array.getElem?_eq_getElem _;simp only [direct,ho];exact Array.any_eq_true'.2 ⟨e,he,by simp [ad]⟩
          ·obtain⟨k,ag⟩:=Classical.not_forall.1 hp
           obtain⟨a_,At⟩:=Classical.not_imp.1 ag;have:=ra i k ao a_;exact LR k ao ao (by simpa using At)
        obtain⟨k,ag⟩:=key (i0+1) i0 ao HB vQ;intro h;rw[h] at ag;cases ag
       ·obtain⟨uu,o,ho,_⟩:=mem_ready.1 af
        have nk:i<ops.size:=(Array.getElem?_eq_some_iff.1 ho).1;have yL:listed.getD i false=false:=by rw[<-r4 (by have:=bn.size;omega)];exact uu
        refine⟨?_,yL,nk⟩;rcases Nat.lt_or_ge i m with h|h
        ·exact h
        ·exfalso
         rcases yK i i0 nk h ao with ⟨Au,_⟩|ha
         ·cases Au
         ·have:=ha listed bn.down (vJ af)
          rw[vQ] at this;cases this
      have tail:∀(bb:Nat) (listed:Array Bool) (a:Act) (w:au) (ys:Nat->c_),uI N ds ops m (hq.map (·.1)) de y_ lA φ R rv ys listed a w->tk listed<=bb->(∀i,i<m->listed.getD i false=true)->wpAnyIn (Fr none) 0 P .any ops (dS P ks Q) bb listed a w:=by
       intro bb listed a w ys bn aP o0;refine SM ra (λi j af hj eG=>(yK i j af ao eG).resolve_left ao) bb m listed a w (bY _) bn.size (λi=> ?_) aP ?_
       ·by_cases af:i<m
        ·rw[o0 i af];simp;omega
        ·rw[bn.tj i ao];simp;omega
       ·obtain⟨t1,t2⟩:=T7 (B:=B) (M:=M) (S:=λ_=>False) (w:=lA) (w':=w) II (λ_ h=>h.elim) ⟨bn.low.1.os,bn.low.1.tape,bn.low.1.output⟩ bn.low.size (λi af _=>bn.low.block i af)
        have Es:fu N ds φ Uv a:=bn.IA (λj hj=>by
         obtain⟨h1,ae⟩:=List.mem_filter.1 hj
         exact⟨List.mem_range.1 h1,o0 j (List.mem_range.1 h1),by simpa using ae,rfl⟩) Mz
        have cB:E9 P N m (hq.map (·.1)) (some (.draw id ops s ks))={s with sl:=Uv}:=by
         unfold E9;rw[fo];rfl
        have lP:Here N (E9 P N m (hq.map (·.1)) (some (.draw id ops s ks))) B w0 a lA:=by
         rw[cB];exact⟨⟨φ,ds,q1,Es,b9,ey,hv⟩,lJ,qa⟩
        have gN:=Here.T6 (vals':=bx (mk ys)) c1 (hm (mk ys) _) t1 aq (by rw[cB];exact al) lP;have tw:dp M [] (xp B M lA w) (hq.map λp=>R p.1 (pr p.1 (mk ys))):=by
         have mP:∀(i:Nat) (S:ca),(hq.map λp=>R p.1 (pr p.1 (mk ys)))[i]? =some S->∃p,hq[i]? =some p/\S=R p.1 (ys p.1):=λi S af=>by
          rw[List.getElem?_map] at af;obtain⟨p,hp,rfl⟩:=Option.map_eq_some_iff.1 af;exact⟨p,hp,by rw[r8 ys p.1 (List.mem_map.2 ⟨p,List.mem_of_getElem? hp,rfl⟩)]⟩
         have im:∀{i:Nat} {p:Nat×U},hq[i]? =some p->p.1∈hq.map (·.1):=λ{i p} hp=>List.mem_map.2 ⟨p,List.mem_of_getElem? hp,rfl⟩
         have Uw:∀{i:Nat} {p:Nat×U},hq[i]? =some p->(R p.1 (ys p.1)).ok (aG w)/\∀b,(R p.1 (ys p.1)).mY b->lA.heap.size<=b:=λ{i p} hp=>bn.ok p.1 (eX _ (im hp)) (o0 _ (eX _ (im hp))) (by simpa using List.mem_of_getElem? hp |> λh=>(⟨p.2,h⟩:∃x,(p.1,x)∈hq))
         refine⟨⟨λi S af=> ?_,λi j S T cC af hj b ad kP=> ?_⟩,λi o af _=>t2 i o af (λh=>h),λb ad=> ?_⟩
         ·obtain⟨p,hp,rfl⟩:=mP i S af
          obtain⟨cS,dL⟩:=Uw hp;refine(R p.1 (ys p.1)).loc _ _ (λb o ad ho=> ?_) cS;rw[M0 (.inr (.inl (dL b ad)))];exact ho
         ·obtain⟨p,hp,rfl⟩:=mP i S af
          obtain⟨gi,iH,rfl⟩:=mP j T hj;have aeJ:p.1≠gi.1:=λe=>cC (by
           have e1:(hq.map (·.1))[i]? =some p.1:=by rw[List.getElem?_map,hp];rfl
           have e2:(hq.map (·.1))[j]? =some p.1:=by rw[List.getElem?_map,iH,e];rfl
           exact(List.getElem?_inj (List.getElem?_eq_some_iff.1 e1).1 ff).1 (e1.trans e2.symm))
          have ez:(hq.map (·.1)).contains p.1=true:=by simpa using (⟨p.2,List.mem_of_getElem? hp⟩:∃x,(p.1,x)∈hq)
          have c2:(hq.map (·.1)).contains gi.1=true:=by simpa using (⟨gi.2,List.mem_of_getElem? iH⟩:∃x,(gi.1,x)∈hq)
          exact bn.two p.1 gi.1 (eX _ (im hp)) (eX _ (im iH)) aeJ (o0 _ (eX _ (im hp))) (o0 _ (eX _ (im iH))) ez c2 b ad kP
         ·obtain⟨i,S,af,ad⟩:=ad
          obtain⟨p,hp,rfl⟩:=mP i S af
          right
          cases aeK:M b with
          |none=>rfl
          |some o=>
           have h1:=(Array.getElem?_eq_some_iff.1 (II b o aeK)).1;have ae:=(Uw hp).2 b ad;omega
        have ag:∀p∈hq,aM p.2=true/\∀t,fl ops p.1=some t->a.tmps.getD t undef= @aK (aX (xp B M lA w) (bx (mk ys))) p.2:=λp hp=>⟨List.all_eq_true.1 fF p hp,λt aI=>by
         have im:p.1∈hq.map (·.1):=List.mem_map.2 ⟨p,hp,rfl⟩;rw[bX (mk ys) _ p hp,r8 ys p.1 im]
         exact bn.IE p.1 t (eX _ im) (o0 _ (eX _ im)) (by simpa using (⟨p.2,hp⟩:∃x,(p.1,x)∈hq)) aI⟩
        exact rest (mk ys) _ tw a w (@Here.Uu (aX (xp B M lA w) (bx (mk ys))) _ N B w0 w a ops [] (eJ aU) hq dM dF gN ag eg)
      have main:∀(bb:Nat) (listed:Array Bool) (a:Act) (w:au) (ys:Nat->c_),uI N ds ops m (hq.map (·.1)) de y_ lA φ R rv ys listed a w->tk listed<=bb->wpAnyIn (Fr none) 0 P .any ops (dS P ks Q) bb listed a w:=by
       intro bb
       induction bb with
       |zero=>
        intro listed a w ys bn aP;refine tail 0 listed a w ys bn aP λi af=> ?_
        cases h:listed.getD i false with
        |true=>rfl
        |false=>
         exfalso;have:=Am (i:=i) (listed:=listed) (by have:=bn.size;omega) (by rw[r4 (by have:=bn.size;omega)];exact h);omega
       |succ bb cd=>
        intro listed a w ys bn aP;by_cases o0:∀i,i<m->listed.getD i false=true
        ·exact tail (bb+1) listed a w ys bn aP o0
        ·obtain⟨k5,Aw⟩:=vP bn o0
         refine⟨λaJ=>absurd aJ k5,λi af=> ?_⟩;obtain⟨o1,yL,nk⟩:=Aw i af;have ho:ops[i]? =some ops[i]:=Array.getElem?_eq_getElem nk;have acd:=Am (i:=i) (listed:=listed) (by have:=bn.size;omega) (mem_ready.1 af).1;have Ux:∀{kb:Nat->U} {sl:aT},(∀j,j<i->kb j=de.getD j cL)->hW N ops kb (needs ops m ops[i]) y_=some sl->fu N ds φ sl a:=λ{kb sl} Ao gH=>bn.IA (λj hj=>by
          have yM:=ub i _ o1 ho j hj;have eG:=ra i j nk yM
          exact⟨ao,vJ af j yM,Nv i _ o1 ho j hj,Ao j eG⟩) gH
         unfold wpOpIn;simp only [ho];cases ak:(hq.map (·.1)).contains i with
         |false=>
          obtain⟨sl,gH,aC⟩:=aeI i _ o1 ho ak;have Es:=Ux (λj eG=>by simp only [dr,List.getElem?_take,aN eG]) gH;obtain⟨aB,g1,g2,g3,g4⟩:=aeE (w2:=w) b9 (yZ bn.low) (gg (hX φ) Es.get) aC;rw[aN (vR g3)];refine⟨λ_ _=>trivial,?_⟩;rw[Oper.semAt_eq _ _ _ g4,g1,Oper.uponIn_value];exact cd _ _ w ys (bn.aeF ek o1 Ee ho ak (vJ af) mR b8 g2) ao
         |true=>
          have mP:i∈hq.map (·.1):=by simpa using ak
          obtain⟨op,cj,az,aeL⟩:=iU i mP;have aeM:op=ops[i]:=by
           have e:(lQ (some (.draw id ops s ks)))[i]? =ops[i]? :=rfl;rw[e,ho] at cj;exact(Option.some.inj cj).symm
          subst aeM;rw[aN (vR az)];refine aeL a w _ _ (λx mb=> ?_) (λb o ad=> ?_) (Nat.le_trans qa bn.low.size) λy w' cS dL fZ=> ?_
          ·cases xu:hW N ops (λj=>de.getD j cL) (needs ops m ops[i]) y_ with
           |some sl=>
            have e:qu P N m (hq.map (·.1)) (some (.draw id ops s ks)) i=sl:=by
             unfold qu;rw[fo,show (lQ (some (.draw id ops s ks)))[i]? =some ops[i] from ho];show (match hW N ops (λj=>de.getD j cL) (needs ops m ops[i]) y_ with|some sl=>sl|none=> .nil)=sl;rw[xu]
            rw[e] at mb ⊢;exact aD.iq _ mb (gg (hX φ) (Ux (λ_ _=>rfl) xu).get x)
           |none=>
            have e:qu P N m (hq.map (·.1)) (some (.draw id ops s ks)) i= .nil:=by
             unfold qu;rw[fo,show (lQ (some (.draw id ops s ks)))[i]? =some ops[i] from ho];show (match hW N ops (λj=>de.getD j cL) (needs ops m ops[i]) y_ with|some sl=>sl|none=> .nil)= .nil;rw[xu]
            rw[e] at mb ⊢;exact aD.iq (φ:=φ) _ mb (gg (hX φ) (λt v h=>by cases h) x)
          ·have h1:=II b o ad
           rw[bn.low.block b (Array.getElem?_eq_some_iff.1 h1).1];exact h1
          ·exact cd _ _ w' _ (bn.aeG ek o1 Ee ho ak yL (vJ af) mR b8 cS dL fZ) ao
      have aP:∀i,(Array.replicate ops.size false).getD i false=false:=λi=>by
       rw[e5,Array.getElem?_replicate];split<;>rfl
      refine main ops.size _ a lA (λ_=>(none,0)) ⟨by simp,λi j af=>absurd af (by rw[aP];simp),λi _=>aP i,⟨⟨rfl,rfl,rfl,bY _,λ_ _=>rfl⟩,bY _⟩,aE.defers,aE.size,λt v aC=> ?_,λj t _ hl=>absurd hl (by rw[aP];simp),λj t _ hl=>absurd hl (by rw[aP];simp),λj _ hl=>absurd hl (by rw[aP];simp),λi j _ _ _ hl=>absurd hl (by rw[aP];simp)⟩ ?_
      ·rcases ow _ _ _ ek t v aC with ⟨j,hj,a_,rfl⟩|⟨_,az⟩
       ·exact .cL _
       ·exact aE.get t v az
      ·unfold tk
       exact Nat.le_trans List.count_le_length (by simp)
     ·cases a_
    ·cases a_
   ·cases a_
 ·cases a_
end AE
namespace AE
def E' (P:aQ) (N m:Nat) (dx:List Nat) (o:Option bP) (i:Nat):Option (FuncId×List U):=
 match (lQ o)[i]? with
 |some op=>match op.guard,op.op with
  |none,.call c=>match c.callee with
   | .value (.func f)=>bif enters P f then some (f,c.args.toList.map (ea .nil (qu P N m dx o i))) else none
   |_=>none
  |_,_=>none
 |none=>none
def IJ (P:aQ) (N m:Nat) (dx:List Nat) (o:Option bP) (i:Nat):Option (aH×U):=
 match (lQ o)[i]? with
 |some op=>match op.guard,op.op with
  |none,.makeSlice t sk uH=>bif fj (ea .nil (qu P N m dx o i) sk) (ea .nil (qu P N m dx o i) uH) then some (t,ea .nil (qu P N m dx o i) sk) else none
  |_,_=>none
 |none=>none
theorem Nw [aY] {sl:aT} {a:Act} (uv:∀x:Operand,aM (ea .nil sl x)=true->a.eval x=aK (ea .nil sl x)):∀(l:List Operand),dW (l.map (ea .nil sl))=true->l.map a.eval=et (l.map (ea .nil sl))
 |[],_=>rfl
 |x::l,h=>by
  simp only [List.map_cons,dW,c0] at h;simp only [List.map_cons,et];rw[uv x h.1,Nw uv l h.2]
theorem wa.arr [aY] {α:Type} {P:aQ} {M:Mem} {B N m:Nat} {dx:List Nat} {o:Option bP} {i:Nat} {f:FuncId} {args:List U} {e:aH} {k:Nat} {enc:α->List U} {l:List α} {F:U->U} (h:E' P N m dx o i=some (f,args)) (hp:dW args=true)
  (jw:∀w,(∀i o,M i=some o->w.heap[i]? =some o)->B<=w.heap.size->Calls P f ⟨et args⟩ w λe' w'=>(∃a c,e'= .returned (F (.slice a l.length c))/\dJ w.heap.size (aG w') e k enc (.slice a l.length c) l)/\ch w.heap.size w w'):
  ∃op,(lQ o)[i]? =some op/\wa P M B op (qu P N m dx o i) (λy=>iK e k enc (.slice y.1 l.length y.2) l) (λy=>F (.slice y.1 l.length y.2)):=by
 unfold E' at h;split at h
 ·rename_i op cj
  split at h
  ·rename_i c az za
   split at h
   ·rename_i iC qg
    cases he:enters P iC with
    |false=>rw[he] at h;cases h
    |true=>
     rw[he,bw] at h;simp only [cx,Prod.mk.injEq] at h;obtain⟨rfl,rfl⟩:=h;refine⟨op,cj,az,λa w K Q uv bj dI b0=> ?_⟩;have gf:c.args.map a.eval=⟨et (c.args.toList.map (ea .nil (qu P N m dx o i)))⟩:=by
      have:=Nw uv c.args.toList hp;rw[<-this];apply Array.ext';simp
     have eQ:(execOp a.eval op).run P w= .ok (.enter iC ⟨et (c.args.toList.map (ea .nil (qu P N m dx o i)))⟩) w:=by
      unfold execOp;rw[za];simp only;refine cK (a:={target:= .fn (.func iC) #[],args:= #[]++c.args.map a.eval}) (by unfold resolve;rw[qg];rfl) ?_;simp only [Array.empty_append,gf];show (callFunc iC (_++ #[])).run P w=_;rw[Array.append_empty];exact jc (Hl he _) w
     have ff:∀c',op.op≠.defer c':=λc' h=>by rw[za] at h;cases h
     refine⟨λ_ _=>trivial,?_⟩;rw[Oper.semAt_eq _ _ _ ff,eQ,Oper.uponIn_enter];refine⟨λh=>absurd h (by simp [Fr,Fence.wide]),?_⟩;refine CallsIn.mono (D_ (jw w bj dI)) λe' w2 he=> ?_
     obtain⟨⟨gB,rq,rfl,cm⟩,hl⟩:=he;exact b0 (gB,rq) w2 (rp cm) (λb ad=>(cm.known b ad).2) hl
   ·cases h
  ·cases h
 ·cases h
theorem wa.Uy [aY] {α:Type} {P:aQ} {M:Mem} {B N m:Nat} {dx:List Nat} {o:Option bP} {i:Nat} {t e:aH} {k n bytes:Nat} {E_:TypeInfo} {z x:U} {enc:α->List U} {zr:α} {l':List α} (fa:l'=List.replicate n zr) (h:IJ P N m dx o i=some (t,x))
  (aI:P.underlying t=some (.slice e)) (af:P.info? e=some E_) (bG:E_.zero=some z) (fX:E_.size=k) (jv:E_.bytes=bytes) (pB:z.cells.toList=enc zr) (ag:∀x,(enc x).length=k) (ak:aM x=true) (ex:aK x= .int .i64 (n:Nat)) (aek:n<=1000000) (k6:n*bytes<=140737488355328) (ka:n*k<=16777216):
  ∃op,(lQ o)[i]? =some op/\wa P M B op (qu P N m dx o i) (λy=>iK e k enc (.slice y.1 l'.length y.2) l') (λy=> .slice y.1 l'.length y.2):=by
 subst fa;unfold IJ at h;split at h
 ·rename_i op cj
  split at h
  ·rename_i da sk uH az za
   cases heq:fj (ea .nil (qu P N m dx o i) sk) (ea .nil (qu P N m dx o i) uH) with
   |false=>rw[heq] at h;cases h
   |true=>
    rw[heq,bw] at h;have v7:=gx _ _ heq;cases h;refine⟨op,cj,az,λa w K Q uv bj dI b0=> ?_⟩;have mV:a.eval sk= .int .i64 (n:Nat):=(uv sk ak).trans ex;have Nh:a.eval uH= .int .i64 (n:Nat):=(uv uH (by rw[<-v7];exact ak)).trans (by rw[<-v7];exact ex);subst jv;obtain⟨w',g1,g2,g3⟩:=run_makeSlice_full (P:=P) w w.heap.size t e E_ z k aI af bG fX .i64 .i64 n ka (by rw[Nat.mul_comm];omega) (by simp [maxLen];omega) (bY _);have eQ:(execOp a.eval op).run P w= .ok (.value (.slice (some ⟨w.heap.size,0,none⟩) n n)) w':=by
     unfold execOp;rw[za];simp only [mV,Nh];show (do pure (Next.value (<-Instr.makeSlice t (.int .i64 (n:Nat)) (.int .i64 (n:Nat)))):Sem Next).run P w=_;simp only [Sem.run_bind,g1,Result.andThen_ok];rfl
    have ff:∀c',op.op≠.defer c':=λc' h=>by rw[za] at h;cases h
    refine⟨λ_ _=>trivial,?_⟩;rw[Oper.semAt_eq _ _ _ ff,eQ,Oper.uponIn_value];rw[Ul ag pB] at g2;have hlen:(List.replicate n zr).length=n:=lG;have cm:dJ w.heap.size (aG w') e k enc (.slice (some ⟨w.heap.size,0,none⟩) (List.replicate n zr).length n) (List.replicate n zr):=dJ.My (w:=w') (by rw[hlen];exact g2);have:=b0 (some ⟨w.heap.size,0,none⟩,n) w' (rp cm) (λb ad=>(cm.known b ad).2) ⟨⟨g3.os,g3.tape,g3.output,g3.size,λi af=>g3.block i af (by simp)⟩,bY _⟩;rw[hlen] at this;exact this
  ·cases h
 ·cases h
theorem Nx {α:Type} {p:α->Prop}:∀x,x∈([]:List α)->p x:=λ_ h=>by cases h
theorem qv {α:Type} {p:α->Prop} {y:α} {l:List α} (h:p y) (hl:∀x,x∈l->p x):∀x,x∈y::l->p x:=λx ak=>by
 rcases List.mem_cons.1 ak with rfl|ak
 ·exact h
 ·exact hl x ak
end AE
namespace AE
def dz (l:List cr) (cell:Int):cr:=if 0<=cell/\cell<l.length then l.getD cell.toNat default else ([],false,false,false,16,0,0,0)
theorem Ny {l:List cr} {cell:Int} (aJ:0<=cell) (h1:cell<l.length):dz l cell=l.getD cell.toNat default:=by unfold dz;rw[aN ⟨aJ,h1⟩]
theorem CQ {l:List cr} {cell:Int} (h:¬(0<=cell/\cell<l.length)):dz l cell=([],false,false,false,16,0,0,0):=by unfold dz;rw[aO h]
def na (l:List cr):Prop:=l.length<=300/\∀x∈l,x.1.length<=60
instance (l:List cr):Decidable (na l):=by unfold na;infer_instance
theorem aeN {l:List cr} {i:Nat} (h:i<l.length):l.getD i default∈l:=by
 rw[dr,fP h];exact List.getElem_mem h
theorem aeO {l:List cr} {x:cr} (h:x∈l):∃i,i<l.length/\l.getD i default=x:=by
 obtain⟨i,af,rfl⟩:=List.mem_iff_getElem.1 h;exact⟨i,af,by rw[dr,fP af];rfl⟩
theorem Nz {l:List cr} (h:300<l.length):¬na l:=λaP=>by have:=aP.1;omega
theorem NA {l:List cr} {i:Nat} (af:i<l.length) (h:60<(l.getD i default).1.length):¬na l:=λaP=>by have:=aP.2 _ (aeN af);omega
theorem NB {l:List cr} (h:l.length<=300) (ae:∀j,j<l.length->(l.getD j default).1.length<=60):na l:=⟨h,λx ak=>by
 obtain⟨i,af,rfl⟩:=aeO ak
 exact ae i af⟩
end AE
end Go.Proofs.YtepcfjbfkedlpaaGreatDoor
namespace Go.Proofs.YtepcfjbfkedlpaaGreatDoor
section
namespace AE
structure nB where
 N:Nat
 rr:Nat->List (Nat×Int)
 top:Nat->Bool
 aI:Nat->Nat
 ru:∀k n d,k<N->(n,d)∈rr k->n<N
 Uz:∀k n d,k<N->(n,d)∈rr k->n≠k
 NC:∀k n d,k<N->(n,d)∈rr k->(k,-d)∈rr n
 UA:∀k n d,k<N->(n,d)∈rr k->0<d->aI n<aI k
 UB:∀k,(rr k).length<=6
def given (gJ f:Int) (c:Nat) (up:Bool):Int:=if up=true/\c=3/\gJ=15/\f=1 then 15 else max 0 (gJ-f)
theorem UC (gJ f:Int) (c:Nat) (up:Bool):0<=given gJ f c up:=by
 unfold given;split<;>omega
theorem ND {a b f:Int} (c:Nat) (up:Bool) (h:a<=b) (aP:1<=f):given a f c up<=given b f c up:=by
 unfold given;split
 ·rename_i h1
  obtain⟨ae,ay,bE,cn⟩:=h1;split
  ·omega
  ·rename_i cy
   have:¬b=15:=λe=>cy ⟨ae,ay,e,cn⟩
   omega
 ·split
  ·rename_i h1 cy
   obtain⟨ae,ay,bE,cn⟩:=cy;omega
  ·omega
theorem UD {a f:Int} (c:Nat) (up:Bool) (h:a<=15) (aP:1<=f):given a f c up<=15:=by
 unfold given;split<;>omega
theorem UE {f:Int} (c:Nat) (up:Bool) (aP:1<=f):given 0 f c up=0:=by
 unfold given;rw[aO (λh=>by omega)];omega
theorem aeP {a f:Int} {c:Nat} {up:Bool} (aP:1<=f) (ha:a<=15) (h:0<given a f c up):given a f c up<a\/(given a f c up=a/\a=15/\up=true):=by
 unfold given at*
 split
 ·rename_i h1
  exact .inr ⟨ao,h1.2.2.1,h1.1⟩
 ·rename_i h1
  rw[aO h1] at h;omega
structure gC where
 jE:Nat->Int
 emit:Nat->Nat->Int
 bS:Nat->Bool
abbrev lB:=Nat->Nat->Int
variable {G:nB}
def tB (G:nB) (S:gC) (k c:Nat):Int:=if c=3 then (if G.top k=true then given 15 (S.jE k) 3 true else 0) else S.emit k c
def kT (G:nB) (S:gC) (k:Nat):List (Nat×Int):=(G.rr k).filter λp=>S.bS p.1
def rule (G:nB) (S:gC) (L:lB) (k c:Nat):Int:=
 if S.bS k=true then (kT G S k).foldl (λa p=>max a (given (L p.1 c) (S.jE k) c (decide (0<p.2)))) (tB G S k c) else 0
theorem CR {α:Type} (f:α->Int):∀(l:List α) (a v:Int),l.foldl (λa p=>max a (f p)) a<=v↔a<=v/\∀p∈l,f p<=v
 |[],a,v=>by simp
 |x::l,a,v=>by
  rw[List.foldl_cons,CR f l];simp only [List.mem_cons,forall_eq_or_imp];constructor
  ·rintro ⟨h1,ae⟩
   exact⟨ao,ao,ae⟩
  ·rintro ⟨h1,ae,ay⟩
   exact⟨ao,ay⟩
theorem UF {α:Type} (f:α->Int):∀(l:List α) (a:Int),l.foldl (λa p=>max a (f p)) a=a\/∃p∈l,l.foldl (λa p=>max a (f p)) a=f p
 |[],a=> .inl rfl
 |x::l,a=>by
  rw[List.foldl_cons];rcases UF f l (max a (f x)) with h|⟨p,hp,h⟩
  ·rw[h]
   rcases Int.le_total a (f x) with h1|h1
   ·exact .inr ⟨x,by simp,ao⟩
   ·exact .inl ao
  ·exact .inr ⟨p,by simp [hp],h⟩
theorem uJ {S:gC} {k n:Nat} {d:Int}:(n,d)∈kT G S k↔(n,d)∈G.rr k/\S.bS n=true:=by
 unfold kT;simp [List.mem_filter]
theorem qw {S:gC} {L:lB} {k c:Nat} {v:Int} (aJ:0<=v):
  rule G S L k c<=v↔(S.bS k=true->tB G S k c<=v/\∀n d,(n,d)∈G.rr k->S.bS n=true->given (L n c) (S.jE k) c (decide (0<d))<=v):=by
 unfold rule;split
 ·rename_i av
  rw[CR];constructor
  ·rintro ⟨h1,ae⟩ _
   exact⟨h1,λn d aq a_=>ae (n,d) (uJ.2 ⟨aq,a_⟩)⟩
  ·intro h
   obtain⟨h1,ae⟩:=h av;exact⟨h1,λp hp=>ae p.1 p.2 (uJ.1 hp).1 (uJ.1 hp).2⟩
 ·rename_i av
  exact⟨λ_ h=>absurd h av,λ_=>aJ⟩
structure gC.kE (S:gC) (N:Nat):Prop where
 jE:∀k,k<N->1<=S.jE k
 emit:∀k c,k<N->c<3->0<=S.emit k c/\S.emit k c<=15
theorem UG {S:gC} (aA:S.kE G.N) {k c:Nat} (ag:k<G.N) (al:c<4):0<=tB G S k c/\tB G S k c<=15:=by
 unfold tB;split
 ·split
  ·exact⟨UC _ _ _ _,UD _ _ ao (aA.jE k ag)⟩
  ·omega
 ·exact aA.emit k c ag ao
theorem zb {S:gC} (aA:S.kE G.N) {L:lB} {k c:Nat} (ag:k<G.N) (al:c<4):0<=rule G S L k c:=by
 by_cases av:S.bS k=true
 ·have h1:=(qw (G:=G) (S:=S) (L:=L) (k:=k) (c:=c) (v:=max 0 (rule G S L k c)) ao).1 ao av
  have ae:=(UG aA ag al).1;by_cases ay:0<=rule G S L k c
  ·exact ay
  ·unfold rule at*
   rw[aN av] at*
   have bE:=(CR (λp:Nat×Int=>given (L p.1 c) (S.jE k) c (decide (0<p.2))) (kT G S k) (tB G S k c) _).1 (Int.le_refl _);omega
 ·unfold rule
  rw[aO av];exact Int.le_refl _
theorem aeQ {S:gC} {L:lB} {k c:Nat} (av:S.bS k=true):rule G S L k c=tB G S k c\/∃n d,(n,d)∈G.rr k/\S.bS n=true/\rule G S L k c=given (L n c) (S.jE k) c (decide (0<d)):=by
 unfold rule;rw[aN av];rcases UF (λp:Nat×Int=>given (L p.1 c) (S.jE k) c (decide (0<p.2))) (kT G S k) (tB G S k c) with h|⟨p,hp,h⟩
 ·exact .inl h
 ·exact .inr ⟨p.1,p.2,(uJ.1 hp).1,(uJ.1 hp).2,h⟩
theorem UH {S:gC} (aA:S.kE G.N) {L:lB} {k c:Nat} (ag:k<G.N) (al:c<4) (hL:∀n,n<G.N->L n c<=15):rule G S L k c<=15:=
 (qw ao).2 λ_=>⟨(UG aA ag al).2,λn _ aq _=>UD _ _ (hL n (G.ru _ _ _ ag aq)) (aA.jE k ag)⟩
theorem UI {S:gC} (aA:S.kE G.N) {L P:lB} {k c:Nat} (ag:k<G.N) (al:c<4) (h:∀n,n<G.N->L n c<=P n c):rule G S L k c<=rule G S P k c:=by
 refine(qw (zb aA ag al)).2 λav=> ?_
 obtain⟨h1,ae⟩:=(qw (G:=G) (S:=S) (L:=P) (k:=k) (c:=c) (zb aA ag al)).1 (Int.le_refl _) av;exact⟨h1,λn d aq a_=>Int.le_trans (ND _ _ (h n (G.ru _ _ _ ag aq)) (aA.jE k ag)) (ae n d aq a_)⟩
def Fa (G:nB) (S:gC) (P:lB):Prop:=∀k c,k<G.N->c<4->rule G S P k c<=P k c
structure sq (G:nB) (S:gC) (L:lB):Prop where
 fixed:∀k c,k<G.N->c<4->rule G S L k c=L k c
 least:∀P,Fa G S P->∀k c,k<G.N->c<4->L k c<=P k c
theorem sq.unique {S:gC} {L M:lB} (h:sq G S L) (g:sq G S M):∀k c,k<G.N->c<4->L k c=M k c:=λk c ag al=>
 Int.le_antisymm (h.least M (λk c ag al=>Int.le_of_eq (g.fixed k c ag al)) k c ag al) (g.least L (λk c ag al=>Int.le_of_eq (h.fixed k c ag al)) k c ag al)
theorem aeR {S:gC} (aA:S.kE G.N) {L:lB} (h1:Fa G S L) (ae:∀P,Fa G S P->∀k c,k<G.N->c<4->L k c<=P k c):sq G S L:=by
 refine⟨λk c ag al=>Int.le_antisymm (h1 k c ag al) ?_,ae⟩;have hp:Fa G S (rule G S L):=λk c ag al=>UI aA ag al λn aq=>h1 n c aq al
 exact ae _ hp k c ag al
structure oG (G:nB) (S:gC) (L:lB) (W:Nat->Prop):Prop where
 low:∀P,Fa G S P->∀k c,k<G.N->c<4->L k c<=P k c
 bound:∀k c,k<G.N->c<4->0<=L k c/\L k c<=15
 done:∀k c,k<G.N->c<4->¬W k->rule G S L k c<=L k c
theorem oG.full {S:gC} (aA:S.kE G.N) {L:lB} {W:Nat->Prop} (h:oG G S L W) (oz:∀k,k<G.N->¬W k):sq G S L:=
 aeR aA (λk c ag al=>h.done k c ag al (oz k ag)) h.low
theorem sq.up {S:gC} {L:lB} (h:sq G S L) (ad:∀k c,k<G.N->c<4->0<=L k c/\L k c<=15) (W:Nat->Prop):oG G S L W:=
 ⟨h.least,ad,λk c ag al _=>Int.le_of_eq (h.fixed k c ag al)⟩
theorem oG.zero {S:gC} (aA:S.kE G.N) {W:Nat->Prop} (oz:∀k,k<G.N->W k):oG G S (λ_ _=>0) W where
 low P ek k c ag al:=Int.le_trans (zb aA ag al) (ek k c ag al)
 bound _ _ _ _:=by omega
 done k _ ag _ aq:=absurd (oz k ag) aq
def raised (G:nB) (S:gC) (L:lB) (k:Nat):lB:=λm c=>if m=k then max (rule G S L k c) (L k c) else L m c
theorem oG.IK {S:gC} (aA:S.kE G.N) {L:lB} {W W':Nat->Prop} {k:Nat} (ag:k<G.N) (h:oG G S L W)
  (aeS:∀m,m≠k->W m->W' m) (aeT:(∃c,c<4/\L k c<rule G S L k c)->∀n d,(n,d)∈G.rr k->S.bS n=true->W' n):oG G S (raised G S L k) W' where
 low P ek m c hm al:=by
  unfold raised;split
  ·rename_i e
   subst e;have:=UI aA (c:=c) (L:=L) (P:=P) hm al λn aq=>h.low P ek n c aq al
   have:=ek m c hm al;have:=h.low P ek m c hm al;omega
  ·exact h.low P ek m c hm al
 bound m c hm al:=by
  unfold raised;split
  ·rename_i e
   subst e;have h1:=h.bound m c hm al;have ae:=UH aA (c:=c) (L:=L) hm al λn aq=>(h.bound n c aq al).2
   omega
  ·exact h.bound m c hm al
 done m c hm al aq:=by
  by_cases r8:m=k
  ·subst r8
   have h1:rule G S (raised G S L m) m c=rule G S L m c:=by
    have ak:∀n d,(n,d)∈G.rr m->raised G S L m n c=L n c:=λn d ff=>by
     unfold raised;rw[aO (G.Uz m n d hm ff)]
    refine Int.le_antisymm ?_ ?_
    ·refine(qw (zb aA hm al)).2 λav=> ?_
     obtain⟨h1,ae⟩:=(qw (G:=G) (S:=S) (L:=L) (k:=m) (c:=c) (zb aA hm al)).1 (Int.le_refl _) av;exact⟨h1,λn d ff a_=>by rw[ak n d ff];exact ae n d ff a_⟩
    ·refine(qw (zb aA hm al)).2 λav=> ?_
     obtain⟨h1,ae⟩:=(qw (G:=G) (S:=S) (L:=raised G S L m) (k:=m) (c:=c) (zb aA hm al)).1 (Int.le_refl _) av;exact⟨h1,λn d ff a_=>by rw[<-ak n d ff];exact ae n d ff a_⟩
   rw[h1];unfold raised;rw[aN rfl];omega
  ·have NF:¬W m:=λhw=>aq (aeS m r8 hw)
   have aJ:=h.done m c hm al NF;have hr:raised G S L k m c=L m c:=by unfold raised;rw[aO r8]
   rw[hr];refine(qw (h.bound m c hm al).1).2 λav=> ?_
   obtain⟨h1,ae⟩:=(qw (h.bound m c hm al).1).1 aJ av;refine⟨h1,λn d ff a_=> ?_⟩;unfold raised;split
   ·rename_i e
    subst e;by_cases IL:L n c<rule G S L n c
    ·exfalso
     have aeU:=G.NC m n d hm ff;exact aq (aeT ⟨c,al,IL⟩ m (-d) aeU av)
    ·rw[show max (rule G S L n c) (L n c)=L n c by omega]
     exact ae n d ff a_
   ·exact ae n d ff a_
end AE
namespace AE
abbrev bA:=Int×Int×Int×Int
def bL (x:bA):Nat->Int
 |0=>x.1
 |1=>x.2.1
 |2=>x.2.2.1
 |_=>x.2.2.2
def pJ (f:Nat->Int):bA:=(f 0,f 1,f 2,f 3)
theorem h0 {f:Nat->Int} {c:Nat} (al:c<4):bL (pJ f) c=f c:=by
 match c,al with
 |0,_=>rfl
 |1,_=>rfl
 |2,_=>rfl
 |3,_=>rfl
theorem bA.ext' {x y:bA} (h:∀c,c<4->bL x c=bL y c):x=y:=by
 obtain⟨a,b,c,d⟩:=x;obtain⟨aS,b',c',nr⟩:=y;have aJ:a=aS:=h 0 cv;have h1:b=b':=h 1 cv;have ae:c=c':=h 2 cv;have ay:d=nr:=h 3 cv;rw[aJ,h1,ae,ay]
abbrev z4:bA:=(0,0,0,0)
theorem CS (c:Nat):bL z4 c=0:=by
 match c with
 |0=>rfl
 |1=>rfl
 |2=>rfl
 |_+3=>rfl
def cU (l:List bA):lB:=λk c=>bL (l.getD k z4) c
theorem UJ {l:List bA} {k m c:Nat} {x:bA} (ag:k<l.length):cU (l.set k x) m c=if m=k then bL x c else cU l m c:=by
 unfold cU;rw[dr,dr,List.getElem?_set];by_cases h:k=m
 ·subst h
  rw[aN rfl,aN ag,aN rfl];rfl
 ·rw[aO h,aO (λe=>h e.symm)]
structure fw where
 ar:List bA
 bz:List (Nat×bA)
 gone:List Nat
 bm:List Nat
 waits:List Bool
def uK (old x:bA):bA:=pJ λc=>if 0<bL old c then 0 else bL x c
def iN (w:fw) (k:Nat) (old:bA):fw:={w with bz:=w.bz++[(k,old)],gone:=w.gone++[k],ar:=w.ar.set k (uK old (w.ar.getD k z4))}
def oH (S:gC) (old x:bA) (p:Nat×Int):bA:=pJ λc=>if 0<bL old c/\0<bL x c/\bL x c=given (bL old c) (S.jE p.1) c (decide (p.2<0)) then bL x c else 0
def gD (S:gC) (old:bA) (w:fw) (p:Nat×Int):fw:=if oH S old (w.ar.getD p.1 z4) p=z4 then w else iN w p.1 (oH S old (w.ar.getD p.1 z4) p)
variable {G:nB}
def CT (G:nB) (S:gC) (cN L:lB) (m c:Nat) (rest:List (Nat×Int)):Prop:=∀n d,(n,d)∈G.rr m->S.bS n=true->(n,d)∈rest\/L n c=0\/L n c≠given (cN m c) (S.jE n) c (decide (d<0))
structure o9 (G:nB) (iW S:gC) (cN:lB) (d':Nat) (cur:Nat×bA) (rest:List (Nat×Int)) (w:fw):Prop where
 len:w.ar.length=G.N
 full:sq G iW cN
 bound:∀k c,k<G.N->c<4->0<=cN k c/\cN k c<=15
 same:∀n,n≠d'->S.jE n=iW.jE n/\(∀c,S.emit n c=iW.emit n c)/\S.bS n=iW.bS n
 two:∀k c,k<G.N->c<4->cU w.ar k c=0\/cU w.ar k c=cN k c
 CU:∀c,c<4->cU w.ar d' c=0
 zc:∀m c,m<G.N->c<4->cU w.ar m c≠cN m c->(∃x∈w.bz,x.1=m/\bL x.2 c=cN m c)\/CT G S cN (cU w.ar) m c []\/(m=cur.1/\bL cur.2 c=cN m c/\CT G S cN (cU w.ar) m c rest)
 lost:∀x∈w.bz,x.1<G.N
 gone:∀m,m<G.N->((∃c,c<4/\cU w.ar m c≠cN m c)\/m=d')->m∈w.gone
 CV:∀m∈w.gone,m<G.N
theorem CT.mono {S:gC} {cN L L':lB} {m c:Nat} {r dY:List (Nat×Int)} (hm:m<G.N) (h:CT G S cN L m c r) (hr:∀p∈r,p∈dY) (hL:∀n,n<G.N->L' n c=0\/L' n c=L n c):CT G S cN L' m c dY:=λn d aq av=>by
 rcases h n d aq av with h1|h1|h1
 ·exact .inl (hr _ h1)
 ·rcases hL n (G.ru _ _ _ hm aq) with ae|ae
  ·exact .inr (.inl ae)
  ·exact .inr (.inl (by rw[ae,h1]))
 ·rcases hL n (G.ru _ _ _ hm aq) with ae|ae
  ·exact .inr (.inl ae)
  ·exact .inr (.inr (by rw[ae];exact h1))
theorem NG {w:fw} {k m c:Nat} {old:bA} (ag:k<w.ar.length) (al:c<4):cU (iN w k old).ar m c=if m=k/\0<bL old c then 0 else cU w.ar m c:=by
 unfold iN;rw[UJ ag];by_cases h:m=k
 ·subst h
  rw[aN rfl];unfold uK;rw[h0 al];by_cases ae:0<bL old c
  ·rw[aN ae,aN ⟨rfl,ae⟩]
  ·rw[aO ae,aO (λh=>ae h.2)]
   rfl
 ·rw[aO h,aO (λe=>h e.1)]
theorem o9.step {iW S:gC} {cN:lB} {d':Nat} {cur:Nat×bA} {p:Nat×Int} {rest:List (Nat×Int)} {w:fw} (A8:cur.1<G.N) (hp:p∈kT G S cur.1) (h:o9 G iW S cN d' cur (p::rest) w):o9 G iW S cN d' cur rest (gD S cur.2 w p):=by
 obtain⟨n,d⟩:=p;obtain⟨z_,Ac⟩:=uJ.1 hp;have aq:n<G.N:=G.ru _ _ _ A8 z_;have hU:n<w.ar.length:=by rw[h.len];exact aq
 have qY:∀k c,k<G.N->c<4->0<=cU w.ar k c:=λk c ag al=>by
  rcases h.two k c ag al with e|e
  ·omega
  ·rw[e];exact(h.bound k c ag al).1
 have lK:∀m c,c<4->cU (gD S cur.2 w (n,d)).ar m c=if m=n/\0<bL cur.2 c/\0<cU w.ar n c/\cU w.ar n c=given (bL cur.2 c) (S.jE n) c (decide (d<0)) then 0 else cU w.ar m c:=λm c al=>by
  unfold gD;have Fb:bL (oH S cur.2 (w.ar.getD n z4) (n,d)) c=if 0<bL cur.2 c/\0<cU w.ar n c/\cU w.ar n c=given (bL cur.2 c) (S.jE n) c (decide (d<0)) then cU w.ar n c else 0:=by
   unfold oH;rw[h0 al];rfl
  split
  ·rename_i bG
   have nq:bL (oH S cur.2 (w.ar.getD n z4) (n,d)) c=0:=by rw[bG,CS]
   rw[Fb] at nq;split
   ·rename_i ae
    rw[aN ae.2] at nq;rw[ae.1,nq]
   ·rfl
  ·rw[NG hU al,Fb]
   by_cases ae:0<bL cur.2 c/\0<cU w.ar n c/\cU w.ar n c=given (bL cur.2 c) (S.jE n) c (decide (d<0))
   ·rw[aN ae]
    by_cases ay:m=n
    ·rw[aN ⟨ay,ae.2.1⟩,aN ⟨ay,ae⟩]
    ·rw[aO (λe=>ay e.1),aO (λe=>ay e.1)]
   ·rw[aO ae,aO (λe=>by omega),aO (λe=>ae e.2)]
 have NH:∀m c,c<4->cU (gD S cur.2 w (n,d)).ar m c=0\/cU (gD S cur.2 w (n,d)).ar m c=cU w.ar m c:=λm c al=>by
  rw[lK m c al];split
  ·exact .inl rfl
  ·exact .inr rfl
 have HO:∀x,x∈w.bz->x∈(gD S cur.2 w (n,d)).bz:=λx ak=>by
  unfold gD;split
  ·exact ak
  ·unfold iN
   simp [ak]
 have oq:∀x,x∈w.gone->x∈(gD S cur.2 w (n,d)).gone:=λx ak=>by
  unfold gD;split
  ·exact ak
  ·unfold iN
   simp [ak]
 have fN:∀c,c<4->cU (gD S cur.2 w (n,d)).ar n c≠cU w.ar n c->n∈(gD S cur.2 w (n,d)).gone/\∃x∈(gD S cur.2 w (n,d)).bz,x.1=n/\bL x.2 c=cU w.ar n c:=λc al cC=>by
  rw[lK n c al] at cC;have aeV:0<bL cur.2 c/\0<cU w.ar n c/\cU w.ar n c=given (bL cur.2 c) (S.jE n) c (decide (d<0)):=by
   by_cases ae:0<bL cur.2 c/\0<cU w.ar n c/\cU w.ar n c=given (bL cur.2 c) (S.jE n) c (decide (d<0))
   ·exact ae
   ·rw[aO (λe=>ae e.2)] at cC
    exact absurd rfl cC
  have Fb:bL (oH S cur.2 (w.ar.getD n z4) (n,d)) c=cU w.ar n c:=by
   unfold oH;rw[h0 al];exact aN aeV
  unfold gD;rw[aO (λbG=>by rw[bG,CS] at Fb;omega)];unfold iN;exact⟨by simp,(n,oH S cur.2 (w.ar.getD n z4) (n,d)),by simp,rfl,Fb⟩
 refine⟨?_,h.full,h.bound,h.same,λk c ag al=> ?_,λc al=> ?_,λm c hm al cC=> ?_,λx ak=> ?_,λm hm ak=> ?_,λm ak=> ?_⟩
 ·unfold gD
  split
  ·exact h.len
  ·unfold iN
   simp [h.len]
 ·rcases NH k c al with e|e
  ·exact .inl e
  ·rw[e];exact h.two k c ag al
 ·rcases NH d' c al with e|e
  ·exact e
  ·rw[e];exact h.CU c al
 ·by_cases hold:cU w.ar m c=cN m c
  ·have IM:m=n:=by
    have:=lK m c al;by_cases ak:m=n
    ·exact ak
    ·rw[aO (λe=>ak e.1)] at this
     exact absurd (this.trans hold) cC
   subst IM;obtain⟨_,x,ry,hY,NI⟩:=fN c al (λe=>cC (e.trans hold));exact .inl ⟨x,ry,hY,NI.trans hold⟩
  ·have hL:∀q,q<G.N->cU (gD S cur.2 w (n,d)).ar q c=0\/cU (gD S cur.2 w (n,d)).ar q c=cU w.ar q c:=λq _=>NH q c al
   rcases h.zc m c hm al hold with ⟨x,ry,hY⟩|ak|⟨rfl,hY,NI⟩
   ·exact .inl ⟨x,HO x ry,hY⟩
   ·exact .inr (.inl (ak.mono hm (λ_ h=>h) hL))
   ·refine .inr (.inr ⟨rfl,hY,λq e a1 aeW=> ?_⟩)
    rcases NI q e a1 aeW with h1|h1|h1
    ·rcases List.mem_cons.1 h1 with ae|ae
     ·obtain⟨rfl,rfl⟩:=Prod.mk.inj ae
      rw[lK q c al];have ad:=h.two cur.1 c A8 al;have alB:0<cN cur.1 c:=by
       have:=(h.bound cur.1 c A8 al).1;rcases ad with e1|e1
       ·rw[e1] at hold;omega
       ·exact absurd e1 hold
      have IN:=qY q c aq al;by_cases ay:cU w.ar q c=0
      ·right;left
       rw[ay,aO (λe=>by omega)]
      ·by_cases bE:cU w.ar q c=given (cN cur.1 c) (S.jE q) c (decide (e<0))
       ·right;left
        rw[aN ⟨rfl,ao,ao,by rw[hY];exact bE⟩]
       ·right;right
        rw[aO (λe1=>bE (by rw[<-hY];exact e1.2.2.2))];exact bE
     ·exact .inl ae
    ·rcases hL q (G.ru _ _ _ A8 a1) with ae|ae
     ·exact .inr (.inl ae)
     ·exact .inr (.inl (by rw[ae,h1]))
    ·rcases hL q (G.ru _ _ _ A8 a1) with ae|ae
     ·exact .inr (.inl ae)
     ·exact .inr (.inr (by rw[ae];exact h1))
 ·unfold gD at ak
  split at ak
  ·exact h.lost x ak
  ·unfold iN at ak
   rcases List.mem_append.1 ak with h1|h1
   ·exact h.lost x h1
   ·rw[List.mem_singleton.1 h1]
    exact aq
 ·by_cases hold:∃c,c<4/\cU w.ar m c≠cN m c
  ·exact oq m (h.gone m hm (.inl hold))
  ·rcases ak with ⟨c,al,cC⟩|ak
   ·have UK:cU w.ar m c=cN m c:=Classical.byContradiction λe=>hold ⟨c,al,e⟩
    have IM:m=n:=by
     have:=lK m c al;by_cases ak:m=n
     ·exact ak
     ·rw[aO (λe=>ak e.1)] at this
      exact absurd (this.trans UK) cC
    subst IM;exact(fN c al (λe=>cC (e.trans UK))).1
   ·exact oq m (h.gone m hm (.inr ak))
 ·unfold gD at ak
  split at ak
  ·exact h.CV m ak
  ·unfold iN at ak
   rcases List.mem_append.1 ak with h1|h1
   ·exact h.CV m h1
   ·rw[List.mem_singleton.1 h1]
    exact aq
theorem o9.steps {iW S:gC} {cN:lB} {d':Nat} {cur:Nat×bA} (A8:cur.1<G.N):∀(l:List (Nat×Int)) (w:fw),(∀p∈l,p∈kT G S cur.1)->o9 G iW S cN d' cur l w->o9 G iW S cN d' cur [] (l.foldl (gD S cur.2) w):=by
 intro l
 induction l with
 |nil=>exact λ_ _ h=>h
 |cons p l cd=>exact λw hl h=>cd _ (λq a1=>hl q (by simp [a1])) (h.step A8 (hl _ (by simp)))
theorem o9.take {iW S:gC} {cN:lB} {d':Nat} {cur:Nat×bA} {w:fw} {x:Nat×bA} {r:List (Nat×bA)} (h:o9 G iW S cN d' cur [] w) (ak:w.bz=x::r):o9 G iW S cN d' x (kT G S x.1) {w with bz:=r} where
 len:=h.len
 full:=h.full
 bound:=h.bound
 same:=h.same
 two:=h.two
 CU:=h.CU
 zc m c hm al cC:=by
  rcases h.zc m c hm al cC with ⟨y,IP,NJ,UL⟩|bg|⟨_,_,bg⟩
  ·rw[ak] at IP
   rcases List.mem_cons.1 IP with rfl|IP
   ·exact .inr (.inr ⟨NJ.symm,UL,λn d aq a_=> .inl (uJ.2 ⟨NJ▸aq,a_⟩)⟩)
   ·exact .inl ⟨y,IP,NJ,UL⟩
  ·exact .inr (.inl bg)
  ·exact .inr (.inl bg)
 lost y bg:=h.lost y (by rw[ak];simp [show y∈r from bg])
 gone:=h.gone
 CV:=h.CV
theorem o9.up {iW S:gC} (zd:iW.kE G.N) (aA:S.kE G.N) {cN:lB} {d':Nat} {cur:Nat×bA} {w:fw} (h:o9 G iW S cN d' cur [] w) (ak:w.bz=[]) {W:Nat->Prop} (oz:∀m∈w.gone,W m):oG G S (cU w.ar) W:=by
 have ad:∀k c,k<G.N->c<4->0<=cU w.ar k c/\cU w.ar k c<=15:=λk c ag al=>by
  rcases h.two k c ag al with e|e
  ·omega
  ·rw[e];exact h.bound k c ag al
 have aeX:∀m c,m<G.N->c<4->cU w.ar m c≠cN m c->CT G S cN (cU w.ar) m c []:=λm c hm al cC=>by
  rcases h.zc m c hm al cC with ⟨y,bg,_⟩|bg|⟨_,_,bg⟩
  ·rw[ak] at bg
   cases bg
  ·exact bg
  ·exact bg
 have yZ:∀k c,k≠d'->tB G S k c=tB G iW k c:=λk c ag=>by
  unfold tB;rw[(h.same k ag).1,(h.same k ag).2.1]
 refine⟨λP ek=> ?_,ad,λn c aq al NF=> ?_⟩
 ·have NK:∀k c,k<G.N->c<4->0<=P k c:=λk c ag al=>Int.le_trans (zb aA ag al) (ek k c ag al)
  have main:∀(a b:Nat) (k c:Nat),k<G.N->c<4->(15-cN k c).toNat<=a->G.aI k<=b->cU w.ar k c<=P k c:=by
   intro a
   induction a using Nat.strongRecOn with
   |_ a aeY=>
    intro b
    induction b using Nat.strongRecOn with
    |_ b aeZ=>
     intro k c ag al ha CW;rcases h.two k c ag al with e|e
     ·rw[e];exact NK k c ag al
     by_cases bG:cN k c=0
     ·rw[e,bG];exact NK k c ag al
     have hg:k≠d':=λES=>by
      have:=h.CU c al;rw[<-ES] at this;omega
     have qY:0<cN k c:=by have:=(h.bound k c ag al).1;omega
     have CX:=h.full.fixed k c ag al;have UM:iW.bS k=true:=Classical.byContradiction λaq=>by
      unfold rule at CX;rw[aO aq] at CX;omega
     have Ac:S.bS k=true:=by rw[(h.same k hg).2.2];exact UM
     have UN:=(qw (NK k c ag al)).1 (ek k c ag al) Ac;rcases aeQ (G:=G) (S:=iW) (L:=cN) (c:=c) UM with h1|⟨m,d,hm,uA,h1⟩
     ·rw[e,<-CX,h1,<-yZ k c hg]
      exact UN.1
     ·have ze:=G.ru _ _ _ ag hm
      have r9:cN k c=given (cN m c) (iW.jE k) c (decide (0<d)):=by rw[<-CX,h1]
      have UO:cU w.ar m c=cN m c:=Classical.byContradiction λcC=>by
       rcases aeX m c ze al cC k (-d) (G.NC _ _ _ ag hm) Ac with ae|ae|ae
       ·cases ae
       ·omega
       ·apply ae
        rw[e,r9,(h.same k hg).1];congr 1;simp
      have v_:m≠d':=λem=>by
       have ae:=h.CU c al;rw[<-em,UO] at ae;rw[ae,UE _ _ (zd.jE k ag)] at r9;omega
      have ae0:S.bS m=true:=by rw[(h.same m v_).2.2];exact uA
      have LY:cN m c<=P m c:=by
       rw[<-UO];rcases aeP (c:=c) (up:=decide (0<d)) (zd.jE k ag) (h.bound m c ze al).2 (by rw[<-r9];exact qY) with ae|⟨ae,ay,bE⟩
       ·rw[<-r9] at ae
        have:=(h.bound m c ze al).2;exact aeY ((15-cN m c).toNat) ao (G.aI m) m c ze al (bY _) (bY _)
       ·rw[<-r9] at ae
        exact aeZ (G.aI m) (Nat.lt_of_lt_of_le (G.UA _ _ _ ag hm (by simpa using bE)) CW) m c ze al (by rw[<-ae];exact ha) (bY _)
      have cn:=UN.2 m d hm ae0;have cy:=ND c (decide (0<d)) LY (aA.jE k ag);rw[e,r9,<-(h.same k hg).1];exact Int.le_trans cy cn
  exact λk c ag al=>main _ _ k c ag al (bY _) (bY _)
 ·have UP:n∉w.gone:=λaz=>NF (oz n az)
  have IQ:n≠d':=λe=>UP (h.gone n aq (.inr e))
  have ae1:cU w.ar n c=cN n c:=Classical.byContradiction λe=>UP (h.gone n aq (.inl ⟨c,al,e⟩))
  have CX:=h.full.fixed n c aq al;rw[ae1];have hle:=(qw (h.bound n c aq al).1).1 (Int.le_of_eq CX);refine(qw (h.bound n c aq al).1).2 λav=> ?_
  obtain⟨h1,ae⟩:=hle (by rw[<-(h.same n IQ).2.2];exact av);refine⟨by rw[yZ n c IQ];exact h1,λm d hm uA=> ?_⟩;have ze:=G.ru _ _ _ aq hm;rw[(h.same n IQ).1];by_cases v_:m=d'
  ·rw[v_,h.CU c al,UE _ _ (zd.jE n aq)]
   exact(h.bound n c aq al).1
  ·have:=ae m d hm (by rw[<-(h.same m v_).2.2];exact uA)
   refine Int.le_trans (ND _ _ ?_ (zd.jE n aq)) this;rcases h.two m c ze al with e|e
   ·rw[e];exact(h.bound m c ze al).1
   ·rw[e];exact Int.le_refl _
theorem o9.begin {iW S:gC} {d':Nat} {w:fw} {cur:Nat×bA} (ag:d'<G.N) (hlen:w.ar.length=G.N) (aP:sq G iW (cU w.ar)) (ad:∀k c,k<G.N->c<4->0<=cU w.ar k c/\cU w.ar k c<=15) (wR:∀n,n≠d'->S.jE n=iW.jE n/\(∀c,S.emit n c=iW.emit n c)/\S.bS n=iW.bS n) (hl:w.bz=[]) (az:w.gone=[]):
  o9 G iW S (cU w.ar) d' cur [] (iN w d' (w.ar.getD d' z4)):=by
 have nC:d'<w.ar.length:=by rw[hlen];exact ag
 have lK:∀m c,c<4->cU (iN w d' (w.ar.getD d' z4)).ar m c=if m=d'/\0<cU w.ar d' c then 0 else cU w.ar m c:=λm c al=>NG nC al
 refine⟨?_,aP,ad,wR,λk c ag al=> ?_,λc al=> ?_,λm c hm al cC=> ?_,λx ak=> ?_,λm hm ak=> ?_,λm ak=> ?_⟩
 ·unfold iN
  simp [hlen]
 ·rw[lK k c al]
  split
  ·exact .inl rfl
  ·exact .inr rfl
 ·rw[lK d' c al]
  have:=(ad d' c ag al).1;split
  ·rfl
  ·rename_i h1
   have:¬0<cU w.ar d' c:=λae=>h1 ⟨rfl,ae⟩
   omega
 ·rw[lK m c al] at cC
  have h1:m=d'/\0<cU w.ar d' c:=Classical.byContradiction λh1=>by
   rw[aO h1] at cC;exact cC rfl
  refine .inl ⟨(d',w.ar.getD d' z4),?_,h1.1.symm,by rw[h1.1];rfl⟩;unfold iN;simp
 ·unfold iN at ak
  rw[hl] at ak;rw[List.mem_singleton.1 ak];exact ag
 ·have:m=d':=by
   rcases ak with ⟨c,al,cC⟩|ak
   ·rw[lK m c al] at cC
    exact Classical.byContradiction λh1=>by
     rw[aO (λh=>h1 h.1)] at cC;exact cC rfl
   ·exact ak
  rw[this];unfold iN;simp
 ·unfold iN at ak
  rw[az] at ak;rw[List.mem_singleton.1 ak];exact ag
end AE
namespace AE
variable {G:nB}
def iw (w:fw) (k:Nat):fw:=if w.waits.getD k false=true then w else {w with bm:=w.bm++[k],waits:=w.waits.set k true}
def hb (G:nB) (S:gC) (w:fw) (x:Nat×bA) (r:List (Nat×bA)):fw:=(kT G S x.1).foldl (gD S x.2) {w with bz:=r}
def Fc (w:fw):fw:=if w.bz=[] then {w.gone.foldl iw w with gone:=[]} else w
def oI (G:nB) (S:gC) (w:fw) (k:Nat):bA:=pJ (rule G S (cU w.ar) k)
def sr (x y:bA):bA:=pJ λc=>max (bL x c) (bL y c)
def zf (x y:bA):Bool:=decide (bL y 0<bL x 0)||decide (bL y 1<bL x 1)||decide (bL y 2<bL x 2)||decide (bL y 3<bL x 3)
def Fe (G:nB) (S:gC) (w:fw) (k:Nat) (r:List Nat):fw:=
 let w1:fw:={w with bm:=r,waits:=w.waits.set k false,ar:=w.ar.set k (sr (oI G S w k) (w.ar.getD k z4))}
 if zf (oI G S w k) (w.ar.getD k z4)=true then (kT G S k).foldl (λw p=>iw w p.1) w1 else w1
def rz (G:nB) (S:gC) (w:fw):Option fw:=
 match w.bz with
 |x::r=>some (Fc (hb G S w x r))
 |[]=>match w.bm with
  |k::r=>some (Fe G S w k r)
  |[]=>none
def lb (f:bA->Nat) (l:List bA):Nat:=(l.map f).sum
theorem NL {f:bA->Nat}:∀{l:List bA} {k:Nat} {y:bA},k<l.length->lb f (l.set k y)+f (l.getD k z4)=lb f l+f y
 |[],_,_,h=>absurd h (Nat.not_lt_zero _)
 |x::l,0,y,_=>by simp [lb];omega
 |x::l,k+1,y,h=>by
  have:=NL (f:=f) (l:=l) (k:=k) (y:=y) (by simpa using h);simp only [lb,List.set_cons_succ,List.map_cons,List.sum_cons,List.getD_cons_succ] at*
  omega
theorem NM {f:bA->Nat} {b:Nat}:∀{l:List bA},(∀x∈l,f x<=b)->lb f l<=b*l.length
 |[],_=>by simp [lb]
 |x::l,h=>by
  have:=NM (f:=f) (b:=b) (l:=l) (λy bg=>h y (by simp [bg]));have:=h x (by simp);simp only [lb,List.map_cons,List.sum_cons,List.length_cons,Nat.mul_add] at*
  omega
def rA (x:bA):Nat:=(15-x.1).toNat+(15-x.2.1).toNat+(15-x.2.2.1).toNat+(15-x.2.2.2).toNat
def n1 (x:bA):Nat:=(if 0<x.1 then 1 else 0)+(if 0<x.2.1 then 1 else 0)+(if 0<x.2.2.1 then 1 else 0)+(if 0<x.2.2.2 then 1 else 0)
theorem ae2 (x:bA):n1 x<=4:=by
 unfold n1
 (repeat' split)<;>omega
def pK (N:Nat):Nat:=365*N+2
def lS (N:Nat) (w:fw):Nat:=if w.bz=[] then w.bm.length+6*lb rA w.ar else w.bz.length+lb n1 w.ar+361*N
structure uL (N:Nat) (w:fw):Prop where
 len:w.waits.length=N
 nodup:w.bm.Nodup
 lt:∀k∈w.bm,k<N
 is:∀k,k<N->(w.waits.getD k false=true↔k∈w.bm)
theorem A9 {α:Type} {l:List α} {k m:Nat} {x d:α} (ag:k<l.length):(l.set k x).getD m d=if m=k then x else l.getD m d:=by
 rw[dr,dr,List.getElem?_set];by_cases h:k=m
 ·subst h
  rw[aN rfl,aN ag,aN rfl];rfl
 ·rw[aO h,aO (λe=>h e.symm)]
theorem uL.IK {N:Nat} {w:fw} {k:Nat} (ag:k<N) (h:uL N w):uL N (iw w k):=by
 unfold iw;split
 ·exact h
 ·rename_i aq
  have ig:k∉w.bm:=λhm=>aq ((h.is k ag).2 hm)
  refine⟨by simp [h.len],?_,λm hm=> ?_,λm hm=> ?_⟩
  ·show (w.bm++[k]).Nodup
   rw[List.nodup_append];exact⟨h.nodup,by simp,λa ha b ad e=>by
    rw[List.mem_singleton.1 ad] at e
    exact ig (e▸ha)⟩
  ·rcases List.mem_append.1 hm with h1|h1
   ·exact h.lt m h1
   ·rw[List.mem_singleton.1 h1];exact ag
  ·show (w.waits.set k true).getD m false=true↔m∈w.bm++[k]
   rw[A9 (by rw[h.len];exact ag)];by_cases e:m=k
   ·rw[aN e]
    simp [e]
   ·rw[aO e,h.is m hm]
    simp [e]
theorem ae3 (w:fw) (k:Nat):(iw w k).ar=w.ar/\(iw w k).bz=w.bz/\(iw w k).gone=w.gone:=by
 unfold iw;split<;>exact⟨rfl,rfl,rfl⟩
theorem ae4 (w:fw) (k m:Nat) (h:m∈w.bm):m∈(iw w k).bm:=by
 unfold iw;split
 ·exact h
 ·simp [h]
theorem ae5 {N:Nat} {w:fw} {k:Nat} (h:uL N w) (ag:k<N):k∈(iw w k).bm:=by
 unfold iw;split
 ·rename_i h1
  exact(h.is k ag).1 h1
 ·simp
theorem ae6 (w:fw) (k:Nat):(iw w k).bm.length<=w.bm.length+1:=by
 unfold iw;split
 ·omega
 ·simp
theorem UQ {N:Nat} {α:Type} (f:α->Nat):∀(l:List α) (w:fw),(∀p∈l,f p<N)->uL N w->
  let w':=l.foldl (λw p=>iw w (f p)) w
  uL N w'/\w'.ar=w.ar/\w'.bz=w.bz/\w'.gone=w.gone/\(∀m∈w.bm,m∈w'.bm)/\(∀p∈l,f p∈w'.bm)/\w'.bm.length<=w.bm.length+l.length:=by
 intro l
 induction l with
 |nil=>exact λw _ h=>⟨h,rfl,rfl,rfl,λ_ h=>h,λ_ h=>(by cases h),bY _⟩
 |cons p l cd=>
  intro w hl h;have hp:=hl p (by simp);obtain⟨h1,ae,ay,bE,cn,cy,fx⟩:=cd (iw w (f p)) (λq a1=>hl q (by simp [a1])) (h.IK hp);obtain⟨g1,g2,g3⟩:=ae3 w (f p);refine⟨h1,ae.trans g1,ay.trans g2,bE.trans g3,λm hm=>cn m (ae4 w (f p) m hm),λq a1=> ?_,?_⟩
  ·rcases List.mem_cons.1 a1 with rfl|a1
   ·exact cn _ (ae5 h hp)
   ·exact cy q a1
  ·have:=ae6 w (f p)
   simp only [List.length_cons,List.foldl_cons] at*
   omega
theorem ae7 {N:Nat}:∀{l:List Nat},l.Nodup->(∀k∈l,k<N)->l.length<=N:=by
 induction N with
 |zero=>
  intro l _ h
  match l with
  |[]=>simp
  |x::_=>exact absurd (h x (by simp)) (Nat.not_lt_zero _)
 |succ N cd=>
  intro l aq h;have h1:(l.erase N).length<=N:=cd (aq.erase N) λk ag=>by
   have mr:=h k (List.mem_of_mem_erase ag);have nn:k≠N:=λe=>by
    rw[e] at ag;exact(List.Nodup.not_mem_erase aq) ag
   omega
  have ae:l.length<=(l.erase N).length+1:=by
   rw[List.length_erase];split<;>omega
  omega
theorem uL.count {N:Nat} {w:fw} (h:uL N w):w.bm.length<=N:=ae7 h.nodup h.lt
structure pL (G:nB) (S:gC) (w:fw):Prop where
 len:w.ar.length=G.N
 wait:uL G.N w
 up:w.bz=[]->w.gone=[]/\oG G S (cU w.ar) (· ∈w.bm)
 down:w.bz≠[]->w.bm=[]/\∃iW cN d' cur,iW.kE G.N/\o9 G iW S cN d' cur [] w
theorem pL.bound {S:gC} {w:fw} (h:pL G S w):∀k c,k<G.N->c<4->0<=cU w.ar k c/\cU w.ar k c<=15:=λk c ag al=>by
 by_cases hl:w.bz=[]
 ·exact(h.up hl).2.bound k c ag al
 ·obtain⟨_,iW,cN,d',cur,_,a_⟩:=h.down hl
  rcases a_.two k c ag al with e|e
  ·omega
  ·rw[e];exact a_.bound k c ag al
theorem UR {S:gC} {w:fw} (h:pL G S w):lb rA w.ar<=60*G.N:=by
 have:=NM (f:=rA) (b:=60) (l:=w.ar) λx ak=>by
  obtain⟨k,ag,rfl⟩:=List.mem_iff_getElem.1 ak;have mE:k<G.N:=by rw[<-h.len];exact ag
  have ad:=λc (al:c<4)=>h.bound k c mE al
  have he:w.ar.getD k z4=w.ar[k]:=by rw[dr,fP ag];rfl
  have aJ:=ad 0 cv;have h1:=ad 1 cv;have ae:=ad 2 cv;have ay:=ad 3 cv;unfold cU at aJ h1 ae ay;rw[he] at aJ h1 ae ay;simp only [bL] at aJ h1 ae ay;unfold rA;omega
 rw[h.len] at this;exact this
theorem Ff (w:fw):lb n1 w.ar<=4*w.ar.length:=NM λx _=>ae2 x
theorem ae8 {S:gC} {old:bA} {w:fw} {p:Nat×Int} (hp:p.1<w.ar.length):(gD S old w p).bz.length+lb n1 (gD S old w p).ar<=w.bz.length+lb n1 w.ar/\(gD S old w p).ar.length=w.ar.length/\(gD S old w p).bm=w.bm/\(gD S old w p).waits=w.waits:=by
 unfold gD;split
 ·exact⟨bY _,rfl,rfl,rfl⟩
 ·rename_i cC
  refine⟨?_,by simp [iN],rfl,rfl⟩;unfold iN;have av:=NL (f:=n1) (y:=uK (oH S old (w.ar.getD p.1 z4) p) (w.ar.getD p.1 z4)) hp;have b8:n1 (uK (oH S old (w.ar.getD p.1 z4) p) (w.ar.getD p.1 z4))+1<=n1 (w.ar.getD p.1 z4):=by
   have bG:¬∀c,c<4->bL (oH S old (w.ar.getD p.1 z4) p) c=0:=λh=>cC (bA.ext' λc al=>by rw[h c al,CS])
   have ak:∀c,c<4->bL (oH S old (w.ar.getD p.1 z4) p) c=0\/(0<bL (w.ar.getD p.1 z4) c/\bL (oH S old (w.ar.getD p.1 z4) p) c=bL (w.ar.getD p.1 z4) c):=λc al=>by
    unfold oH;rw[h0 al];split
    ·rename_i h
     exact .inr ⟨h.2.1,rfl⟩
    ·exact .inl rfl
   generalize oH S old (w.ar.getD p.1 z4) p=o at bG ak ⊢;generalize w.ar.getD p.1 z4=x at ak ⊢;have aJ:=ak 0 cv;have h1:=ak 1 cv;have ae:=ak 2 cv;have ay:=ak 3 cv;have Iv:¬(bL o 0=0/\bL o 1=0/\bL o 2=0/\bL o 3=0):=λ⟨a,b,c,d⟩=>bG λk ag=>by
    match k,ag with
    |0,_=>exact a
    |1,_=>exact b
    |2,_=>exact c
    |3,_=>exact d
   unfold uK n1 pJ;simp only [bL] at*
   repeat' split
   all_goals omega
  simp only [List.length_append,List.length_cons,List.length_nil];omega
theorem US {S:gC} {old:bA}:∀(l:List (Nat×Int)) (w:fw),(∀p∈l,p.1<w.ar.length)->
  let w':=l.foldl (gD S old) w
  w'.bz.length+lb n1 w'.ar<=w.bz.length+lb n1 w.ar/\w'.ar.length=w.ar.length/\w'.bm=w.bm/\w'.waits=w.waits:=by
 intro l
 induction l with
 |nil=>exact λw _=>⟨bY _,rfl,rfl,rfl⟩
 |cons p l cd=>
  intro w hl;obtain⟨g1,g2,g3,g4⟩:=ae8 (S:=S) (old:=old) (w:=w) (hl p (by simp));obtain⟨h1,ae,ay,bE⟩:=cd (gD S old w p) (λq a1=>by rw[g2];exact hl q (by simp [a1]));exact⟨Nat.le_trans h1 g1,ae.trans g2,ay.trans g3,bE.trans g4⟩
theorem ae9 {x y:bA}:zf x y=true↔∃c,c<4/\bL y c<bL x c:=by
 unfold zf;simp only [Bool.or_eq_true,decide_eq_true_eq];constructor
 ·rintro (((h|h)|h)|h)
  ·exact⟨0,cv,h⟩
  ·exact⟨1,cv,h⟩
  ·exact⟨2,cv,h⟩
  ·exact⟨3,cv,h⟩
 ·rintro ⟨c,al,h⟩
  match c,al with
  |0,_=>exact .inl (.inl (.inl h))
  |1,_=>exact .inl (.inl (.inr h))
  |2,_=>exact .inl (.inr h)
  |3,_=>exact .inr h
theorem oG.weaken {S:gC} {L L':lB} {W W':Nat->Prop} (h:oG G S L W) (hL:∀k c,k<G.N->c<4->L' k c=L k c) (oz:∀m,W m->W' m):oG G S L' W' where
 low P ek k c ag al:=by rw[hL k c ag al];exact h.low P ek k c ag al
 bound k c ag al:=by rw[hL k c ag al];exact h.bound k c ag al
 done k c ag al aq:=by
  rw[hL k c ag al];have aJ:=h.done k c ag al (λhw=>aq (oz k hw));refine(qw (h.bound k c ag al).1).2 λav=> ?_
  obtain⟨h1,ae⟩:=(qw (h.bound k c ag al).1).1 aJ av;exact⟨h1,λn d ff a_=>by rw[hL n c (G.ru _ _ _ ag ff) al];exact ae n d ff a_⟩
theorem pL.unit {S:gC} (aA:S.kE G.N) {w w':fw} (h:pL G S w) (hu:rz G S w=some w'):pL G S w'/\lS G.N w'+1<=lS G.N w:=by
 unfold rz at hu;split at hu
 ·rename_i x r ak
  cases hu;have cC:w.bz≠[]:=by rw[ak];simp
  obtain⟨az,iW,cN,d',cur,zd,a_⟩:=h.down cC;have ry:x.1<G.N:=a_.lost x (by rw[ak];simp);have b8:∀p∈kT G S x.1,p.1<G.N:=λp hp=>G.ru _ p.1 p.2 ry (uJ.1 hp).1
  have jV:=o9.steps ry _ _ (λp hp=>hp) (a_.take ak);obtain⟨hV,iH,mc,ss⟩:=US (S:=S) (old:=x.2) (kT G S x.1) {w with bz:=r} (λp hp=>by rw[show ({w with bz:=r}:fw).ar=w.ar from rfl,h.len];exact b8 p hp)
  change o9 G iW S cN d' x [] (hb G S w x r) at jV
  change (hb G S w x r).bz.length+lb n1 (hb G S w x r).ar<=r.length+lb n1 w.ar at hV
  change (hb G S w x r).bm=w.bm at mc
  change (hb G S w x r).waits=w.waits at ss
  have Fg:uL G.N (hb G S w x r):=⟨by rw[ss];exact h.wait.len,by rw[mc];exact h.wait.nodup,by rw[mc];exact h.wait.lt,by rw[mc,ss];exact h.wait.is⟩;have Fh:lS G.N w=r.length+1+lb n1 w.ar+361*G.N:=by
   unfold lS;rw[aO cC,ak];rfl
  unfold Fc;split
  ·rename_i he
   obtain⟨g1,g2,g3,g4,jQ,g6,g7⟩:=UQ (N:=G.N) (λk=>k) (hb G S w x r).gone (hb G S w x r) (λk ag=>jV.CV k ag) Fg;have pI:oG G S (cU (hb G S w x r).ar) (· ∈((hb G S w x r).gone.foldl iw (hb G S w x r)).bm):=jV.up zd aA he λm hm=>g6 m hm
   have NN:pL G S {(hb G S w x r).gone.foldl iw (hb G S w x r) with gone:=[]}:=by
    refine⟨by show ((hb G S w x r).gone.foldl iw (hb G S w x r)).ar.length=_;rw[g2];exact jV.len,⟨g1.len,g1.nodup,g1.lt,g1.is⟩,λ_=>⟨rfl,?_⟩,λaq=>absurd (g3.trans he) aq⟩;show oG G S (cU ((hb G S w x r).gone.foldl iw (hb G S w x r)).ar) _;rw[g2];exact pI
   refine⟨NN,?_⟩;rw[Fh];have hl:({(hb G S w x r).gone.foldl iw (hb G S w x r) with gone:=[]}:fw).bz=[]:=g3.trans he;have h1:=NN.wait.count;have ae:=UR NN;unfold lS;rw[aN hl];omega
  ·rename_i he
   refine⟨⟨jV.len,Fg,λe=>absurd e he,λ_=>⟨mc.trans az,iW,cN,d',x,zd,jV⟩⟩,?_⟩;rw[Fh];unfold lS;rw[aO he];omega
 ·rename_i ak
  split at hu
  ·rename_i k r ag
   cases hu;obtain⟨UT,pI⟩:=h.up ak;have mE:k<G.N:=h.wait.lt k (by rw[ag];simp);have nC:k<w.ar.length:=by rw[h.len];exact mE
   have ff:k∉r/\r.Nodup:=by
    have:=h.wait.nodup;rw[ag] at this;exact⟨(List.nodup_cons.1 this).1,(List.nodup_cons.1 this).2⟩
   let w1:fw:={w with bm:=r,waits:=w.waits.set k false,ar:=w.ar.set k (sr (oI G S w k) (w.ar.getD k z4))}
   have Fg:uL G.N w1:=by
    refine⟨by simp [w1,h.wait.len],ff.2,λm hm=>h.wait.lt m (by rw[ag];simp [show m∈r from hm]),λm hm=> ?_⟩;show (w.waits.set k false).getD m false=true↔m∈r;rw[A9 (by rw[h.wait.len];exact mE)];by_cases e:m=k
    ·rw[aN e,e]
     simp [ff.1]
    ·rw[aO e,h.wait.is m hm,ag]
     simp [e]
   have lK:∀m c,m<G.N->c<4->cU w1.ar m c=raised G S (cU w.ar) k m c:=λm c _ al=>by
    show cU (w.ar.set k _) m c=_;rw[UJ nC];unfold raised;split
    ·unfold sr oI
     rw[h0 al,h0 al];rfl
    ·rfl
   have IL:zf (oI G S w k) (w.ar.getD k z4)=true↔∃c,c<4/\cU w.ar k c<rule G S (cU w.ar) k c:=by
    rw[ae9];constructor
    ·rintro ⟨c,al,h1⟩
     refine⟨c,al,?_⟩;unfold oI at h1;rw[h0 al] at h1;exact h1
    ·rintro ⟨c,al,h1⟩
     refine⟨c,al,?_⟩;unfold oI;rw[h0 al];exact h1
   have KV:=NL (f:=rA) (l:=w.ar) (k:=k) (y:=sr (oI G S w k) (w.ar.getD k z4)) nC;have Fh:lS G.N w=r.length+1+6*lb rA w.ar:=by
    unfold lS;rw[aN ak,ag];rfl
   have CW:=λc (al:c<4)=>pI.bound k c mE al
   unfold Fe;simp only;split
   ·rename_i hm
    obtain⟨dc,mC,KT⟩:=IL.1 hm;have b8:∀p∈kT G S k,p.1<G.N:=λp hp=>G.ru _ p.1 p.2 mE (uJ.1 hp).1
    obtain⟨g1,g2,g3,g4,jQ,g6,g7⟩:=UQ (N:=G.N) (λp:Nat×Int=>p.1) (kT G S k) w1 b8 Fg;have cy:(kT G S k).length<=6:=Nat.le_trans (List.length_filter_le _ _) (G.UB k);have ae':oG G S (raised G S (cU w.ar) k) (· ∈((kT G S k).foldl (λw p=>iw w p.1) w1).bm):=pI.IK aA mE (λm r8 Fi=>by
     refine jQ m ?_;rw[ag] at Fi;rcases List.mem_cons.1 Fi with e|e
     ·exact absurd e r8
     ·exact e) (λ_ n d aq av=>g6 (n,d) (uJ.2 ⟨aq,av⟩))
    refine⟨⟨?_,g1,λ_=>⟨?_,?_⟩,λaq=>absurd (g3.trans ak) aq⟩,?_⟩
    ·show ((kT G S k).foldl (λw p=>iw w p.1) w1).ar.length=_
     rw[g2];simp [w1,h.len]
    ·exact g4.trans UT
    ·refine ae'.weaken (λm c hm al=> ?_) (λ_ h=>h)
     show cU ((kT G S k).foldl (λw p=>iw w p.1) w1).ar m c=_;rw[g2];exact lK m c hm al
    ·rw[Fh]
     unfold lS;rw[aN (g3.trans ak),show ((kT G S k).foldl (λw p=>iw w p.1) w1).ar=w1.ar from g2];have alC:rA (sr (oI G S w k) (w.ar.getD k z4))+1<=rA (w.ar.getD k z4):=by
      have gw:=CW 0 cv;have lo:=CW 1 cv;have kP:=CW 2 cv;have Nk:=CW 3 cv;have hr:∀c,c<4->rule G S (cU w.ar) k c<=15:=λc al=>UH aA mE al λn aq=>(pI.bound n c aq al).2
      have kA:=hr 0 cv;have k5:=hr 1 cv;have Aw:=hr 2 cv;have S_:=hr 3 cv;unfold cU at KT gw lo kP Nk;unfold sr oI rA pJ;unfold cU at*
      simp only [bL] at*
      match dc,mC with
      |0,_=>simp only [bL] at *;omega
      |1,_=>simp only [bL] at *;omega
      |2,_=>simp only [bL] at *;omega
      |3,_=>simp only [bL] at *;omega
     have g8:(List.foldl (λ(w:fw) (p:Nat×Int)=>iw w p.1) w1 (kT G S k)).bm.length<=r.length+(kT G S k).length:=g7;have alD:lb rA w1.ar+rA (w.ar.getD k z4)=lb rA w.ar+rA (sr (oI G S w k) (w.ar.getD k z4)):=KV;show (List.foldl (λ(w:fw) (p:Nat×Int)=>iw w p.1) w1 (kT G S k)).bm.length+6*lb rA w1.ar+1<=_
     clear_value w1
     omega
   ·rename_i hm
    have Ha:∀c,c<4->rule G S (cU w.ar) k c<=cU w.ar k c:=λc al=>by
     have:¬cU w.ar k c<rule G S (cU w.ar) k c:=λh=>hm (IL.2 ⟨c,al,h⟩)
     omega
    refine⟨⟨by simp [h.len],Fg,λ_=>⟨UT,?_⟩,λaq=>absurd ak aq⟩,?_⟩
    ·refine(pI.IK (W':=(· ∈r)) aA mE (λm r8 Fi=> ?_) (λ⟨c,al,h1⟩=>absurd (Ha c al) ao)).weaken (λm c hm al=>lK m c hm al) (λ_ h=>h)
     rw[ag] at Fi;rcases List.mem_cons.1 Fi with e|e
     ·exact absurd e r8
     ·exact e
    ·rw[Fh]
     unfold lS;rw[aN ak];have DZ:sr (oI G S w k) (w.ar.getD k z4)=w.ar.getD k z4:=bA.ext' λc al=>by
      unfold sr oI;rw[h0 al,h0 al];have:=Ha c al;show max (rule G S (cU w.ar) k c) (cU w.ar k c)=cU w.ar k c;omega
     rw[DZ] at KV;simp only;rw[DZ];omega
  ·cases hu
theorem pL.settled {S:gC} (aA:S.kE G.N) {w:fw} (h:pL G S w) (hu:rz G S w=none):w.bz=[]/\w.bm=[]/\w.gone=[]/\sq G S (cU w.ar):=by
 unfold rz at hu;split at hu
 ·cases hu
 ·rename_i ak
  split at hu
  ·cases hu
  ·rename_i az
   obtain⟨h1,ae⟩:=h.up ak;exact⟨ak,az,h1,ae.full aA λk _ ag=>by
    rw[az] at ag
    cases ag⟩
theorem pL.AK {S IS:gC} (aA:S.kE G.N) {w:fw} (h:pL G S w) (hu:rz G S w=none) {k:Nat} (ag:k<G.N) (wR:∀n,n≠k->IS.jE n=S.jE n/\(∀c,IS.emit n c=S.emit n c)/\IS.bS n=S.bS n):
  pL G IS (iN w k (w.ar.getD k z4))/\lS G.N (iN w k (w.ar.getD k z4))+1<=pK G.N:=by
 obtain⟨h1,ae,ay,bE⟩:=h.settled aA hu;have hl:(iN w k (w.ar.getD k z4)).bz≠[]:=by
  unfold iN;simp
 refine⟨⟨by simp [iN,h.len],⟨h.wait.len,h.wait.nodup,h.wait.lt,h.wait.is⟩,λe=>absurd e hl,λ_=>⟨ae,S,cU w.ar,k,(0,z4),aA,o9.begin ag h.len bE h.bound wR h1 ay⟩⟩,?_⟩;unfold lS;rw[aO hl];have:=Ff (iN w k (w.ar.getD k z4));have jf:(iN w k (w.ar.getD k z4)).ar.length=G.N:=by simp [iN,h.len]
 rw[jf] at this;have HO:(iN w k (w.ar.getD k z4)).bz.length=1:=by
  unfold iN;simp [h1]
 unfold pK;omega
end AE
namespace AE
def me (bq bJ x y z:Nat):Nat:=(z*bJ+y)*bq+x
def h2 (bq k:Nat):Nat:=k%bq
def h3 (bq bJ k:Nat):Nat:=k/bq%bJ
def hc (bq bJ k:Nat):Nat:=k/bq/bJ
section
variable {bq bJ aZ x y z k:Nat}
theorem UU (ak:x<bq):h2 bq (me bq bJ x y z)=x:=by
 unfold h2 me;rw[Nat.add_comm,Nat.add_mul_mod_self_right,Nat.mod_eq_of_lt ak]
theorem UW (ak:x<bq):me bq bJ x y z/bq=z*bJ+y:=by
 unfold me;rw[Nat.add_comm,Nat.add_mul_div_right _ _ ao,Nat.div_eq_of_lt ak,Nat.zero_add]
theorem UX (ak:x<bq) (bg:y<bJ):h3 bq bJ (me bq bJ x y z)=y:=by
 unfold h3;rw[UW ak,Nat.add_comm,Nat.add_mul_mod_self_right,Nat.mod_eq_of_lt bg]
theorem NO (ak:x<bq) (bg:y<bJ):hc bq bJ (me bq bJ x y z)=z:=by
 unfold hc;rw[UW ak,Nat.add_comm,Nat.add_mul_div_right _ _ ao,Nat.div_eq_of_lt bg,Nat.zero_add]
theorem UY (bq bJ k:Nat):me bq bJ (h2 bq k) (h3 bq bJ k) (hc bq bJ k)=k:=by
 unfold me h2 h3 hc;have h1:=Nat.div_add_mod (k/bq) bJ;have ae:=Nat.div_add_mod k bq;have ay:k/bq/bJ*bJ+k/bq%bJ=k/bq:=by rw[Nat.mul_comm];exact h1
 rw[ay,Nat.mul_comm];exact ae
theorem UZ (ak:x<bq) (bg:y<bJ) (bG:z<aZ):me bq bJ x y z<bq*bJ*aZ:=by
 unfold me;have h1:z*bJ+y+1<=aZ*bJ:=by
  have:=Nat.mul_le_mul_right bJ (show z+1<=aZ from bG);rw[Nat.add_mul] at this;omega
 have ae:=Nat.mul_le_mul_right bq h1;rw[Nat.add_mul] at ae;have ay:aZ*bJ*bq=bq*bJ*aZ:=by rw[Nat.mul_comm aZ bJ,Nat.mul_assoc,Nat.mul_comm aZ bq,<-Nat.mul_assoc,Nat.mul_comm bJ bq]
 rw[<-ay];omega
theorem CY (h:k<bq*bJ*aZ):h2 bq k<bq/\h3 bq bJ k<bJ/\hc bq bJ k<aZ:=by
 have ae_:0<bq:=by
  rcases Nat.eq_zero_or_pos bq with e|e
  ·subst e;simp at h
  ·exact e
 have afa:0<bJ:=by
  rcases Nat.eq_zero_or_pos bJ with e|e
  ·subst e;simp at h
  ·exact e
 refine⟨Nat.mod_lt _ ae_,Nat.mod_lt _ afa,?_⟩;unfold hc;rw[Nat.div_div_eq_div_mul];exact Nat.div_lt_of_lt_mul h
end
def su (bq bJ aZ k:Nat):Nat->List (Nat×Int)
 |0=>if 0<h2 bq k then [(me bq bJ (h2 bq k-1) (h3 bq bJ k) (hc bq bJ k),0)] else []
 |1=>if h2 bq k+1<bq then [(me bq bJ (h2 bq k+1) (h3 bq bJ k) (hc bq bJ k),0)] else []
 |2=>if 0<h3 bq bJ k then [(me bq bJ (h2 bq k) (h3 bq bJ k-1) (hc bq bJ k),0)] else []
 |3=>if h3 bq bJ k+1<bJ then [(me bq bJ (h2 bq k) (h3 bq bJ k+1) (hc bq bJ k),0)] else []
 |4=>if 0<hc bq bJ k then [(me bq bJ (h2 bq k) (h3 bq bJ k) (hc bq bJ k-1),-1)] else []
 |5=>if hc bq bJ k+1<aZ then [(me bq bJ (h2 bq k) (h3 bq bJ k) (hc bq bJ k+1),1)] else []
 |_=>[]
def uM (bq bJ aZ k:Nat):Nat->List (Nat×Int)
 |0=>[]
 |j+1=>uM bq bJ aZ k j++su bq bJ aZ k j
theorem afb (bq bJ aZ k j:Nat):(su bq bJ aZ k j).length<=1:=by
 unfold su;split
 all_goals first|(split<;>simp)|simp
theorem NP (bq bJ aZ k j:Nat):(uM bq bJ aZ k j).length<=j:=by
 induction j with
 |zero=>simp [uM]
 |succ j cd=>
  have:=afb bq bJ aZ k j;simp only [uM,List.length_append];omega
theorem U0 {bq bJ aZ k:Nat} {p:Nat×Int}:p∈uM bq bJ aZ k 6↔p∈su bq bJ aZ k 0\/p∈su bq bJ aZ k 1\/p∈su bq bJ aZ k 2\/p∈su bq bJ aZ k 3\/p∈su bq bJ aZ k 4\/p∈su bq bJ aZ k 5:=by
 simp only [uM,List.mem_append,List.not_mem_nil,false_or,or_assoc]
theorem IT {bq bJ aZ k n:Nat} {d:Int} (h:(n,d)∈uM bq bJ aZ k 6) (ag:k<bq*bJ*aZ):
  ∃x y z,x<bq/\y<bJ/\z<aZ/\n=me bq bJ x y z/\
   ((x+1=h2 bq k/\y=h3 bq bJ k/\z=hc bq bJ k/\d=0)\/(x=h2 bq k+1/\y=h3 bq bJ k/\z=hc bq bJ k/\d=0)\/
    (x=h2 bq k/\y+1=h3 bq bJ k/\z=hc bq bJ k/\d=0)\/(x=h2 bq k/\y=h3 bq bJ k+1/\z=hc bq bJ k/\d=0)\/
    (x=h2 bq k/\y=h3 bq bJ k/\z+1=hc bq bJ k/\d= -1)\/(x=h2 bq k/\y=h3 bq bJ k/\z=hc bq bJ k+1/\d=1)):=by
 obtain⟨h1,ae,ay⟩:=CY ag;rw[U0] at h;rcases h with h|h|h|h|h|h
 all_goals
  simp only [su] at h;split at h
  ·rename_i al
   rw[List.mem_singleton] at h;obtain⟨rfl,rfl⟩:=Prod.mk.inj h;refine⟨_,_,_,?_,?_,?_,rfl,?_⟩
   all_goals omega
  ·cases h
theorem afc {bq bJ aZ k x y z:Nat} {d:Int} (bG:z<aZ) (ak:x<bq) (bg:y<bJ)
  (h:(x+1=h2 bq k/\y=h3 bq bJ k/\z=hc bq bJ k/\d=0)\/(x=h2 bq k+1/\y=h3 bq bJ k/\z=hc bq bJ k/\d=0)\/
    (x=h2 bq k/\y+1=h3 bq bJ k/\z=hc bq bJ k/\d=0)\/(x=h2 bq k/\y=h3 bq bJ k+1/\z=hc bq bJ k/\d=0)\/
    (x=h2 bq k/\y=h3 bq bJ k/\z+1=hc bq bJ k/\d= -1)\/(x=h2 bq k/\y=h3 bq bJ k/\z=hc bq bJ k+1/\d=1)):(me bq bJ x y z,d)∈uM bq bJ aZ k 6:=by
 rw[U0];simp only [su];rcases h with ⟨h1,ae,ay,rfl⟩|⟨h1,ae,ay,rfl⟩|⟨h1,ae,ay,rfl⟩|⟨h1,ae,ay,rfl⟩|⟨h1,ae,ay,rfl⟩|⟨h1,ae,ay,rfl⟩
 ·left
  rw[aN ao,<-h1,<-ae,<-ay];simp
 ·right;left
  rw[aN ao,<-h1,<-ae,<-ay];simp
 ·right;right;left
  rw[aN ao,<-h1,<-ae,<-ay];simp
 ·right;right;right;left
  rw[aN ao,<-h1,<-ae,<-ay];simp
 ·right;right;right;right;left
  rw[aN ao,<-h1,<-ae,<-ay];simp
 ·right;right;right;right;right
  rw[aN ao,<-h1,<-ae,<-ay];simp
def afd (bq bJ aZ:Nat):nB where
 N:=bq*bJ*aZ
 rr k:=uM bq bJ aZ k 6
 top k:=decide (hc bq bJ k+1=aZ)
 aI k:=aZ-1-hc bq bJ k
 ru k n d ag h:=by
  obtain⟨x,y,z,ak,bg,bG,rfl,_⟩:=IT h ag;exact UZ ak bg bG
 Uz k n d ag h e:=by
  obtain⟨x,y,z,ak,bg,bG,aq,h⟩:=IT h ag;rw[e] at aq;have h1:h2 bq k=x:=by rw[aq];exact UU ak
  have ae:h3 bq bJ k=y:=by rw[aq];exact UX ak bg
  have ay:hc bq bJ k=z:=by rw[aq];exact NO ak bg
  omega
 NC k n d ag h:=by
  obtain⟨x,y,z,ak,bg,bG,rfl,a1⟩:=IT h ag;clear h;obtain⟨cV,df,qo⟩:=CY ag;have ai:=afc (k:=me bq bJ x y z) (d:= -d) qo cV df (by
   rw[UU ak,UX ak bg,NO ak bg];rcases a1 with ⟨a,b,c,rfl⟩|⟨a,b,c,rfl⟩|⟨a,b,c,rfl⟩|⟨a,b,c,rfl⟩|⟨a,b,c,rfl⟩|⟨a,b,c,rfl⟩
   ·exact .inr (.inl ⟨a.symm,b.symm,c.symm,rfl⟩)
   ·exact .inl ⟨a.symm,b.symm,c.symm,rfl⟩
   ·exact .inr (.inr (.inr (.inl ⟨a.symm,b.symm,c.symm,rfl⟩)))
   ·exact .inr (.inr (.inl ⟨a.symm,b.symm,c.symm,rfl⟩))
   ·exact .inr (.inr (.inr (.inr (.inr ⟨a.symm,b.symm,c.symm,rfl⟩))))
   ·exact .inr (.inr (.inr (.inr (.inl ⟨a.symm,b.symm,c.symm,rfl⟩)))))
  rw[UY] at ai;exact ai
 UA k n d ag h a_:=by
  obtain⟨x,y,z,ak,bg,bG,rfl,h⟩:=IT h ag;obtain⟨cV,df,qo⟩:=CY ag;rw[NO ak bg];omega
 UB k:=NP _ _ _ _ _
end AE
end
end Go.Proofs.YtepcfjbfkedlpaaGreatDoor
namespace Go.Proofs.YtepcfjbfkedlpaaGreatDoor
open Go Go.Proofs Go.RowKit
namespace AE
abbrev lT:aH:=4
theorem IU:a7 Tryz.prog (sizeOf lT)=some 1:=aw
theorem nD:Tryz.prog.underlying 30=some (.slice lT):=aw
noncomputable def IV:TypeInfo:=(Tryz.prog.info? lT).getD default
theorem NQ:Tryz.prog.info? lT=some IV:=aw
theorem NR:IV.zero=some (.bool false):=aw
theorem NS:IV.size=1:=aw
abbrev Fj:Nat:=1
theorem NT:IV.bytes=Fj:=aw
theorem afe:(.bool false:U).cells.size=1:=rfl
def hO (x:Bool):List U:=[.bool x]
theorem mf:∀x,(hO x).length=1:=λ_=>rfl
theorem NU:∀x,∀u∈hO x,u.oneCell'=true:=λx u hu=>by
 simp only [hO,List.mem_cons,List.not_mem_nil,or_false] at hu;subst hu;rfl
abbrev sv:aH:=3
theorem IW:Tryz.prog.underlying 26=some (.slice sv):=aw
noncomputable def IX:TypeInfo:=(Tryz.prog.info? sv).getD default
theorem aff:Tryz.prog.info? sv=some IX:=aw
theorem afg:IX.zero=some (.int .i64 0):=aw
theorem afh:IX.size=1:=aw
abbrev NV:Nat:=8
theorem afi:IX.bytes=NV:=aw
theorem afj:(.int .i64 0:U).cells.size=1:=rfl
def o_ (x:Nat):List U:=[.int .i64 ((x:Nat):Int)]
theorem mE:∀x,(o_ x).length=1:=λ_=>rfl
theorem afk:∀x,∀u∈o_ x,u.oneCell'=true:=λx u hu=>by
 simp only [o_,List.mem_cons,List.not_mem_nil,or_false] at hu;subst hu;rfl
abbrev sw:aH:=85
theorem IY:Tryz.prog.underlying 51=some (.slice sw):=aw
noncomputable def IZ:TypeInfo:=(Tryz.prog.info? sw).getD default
theorem U1:Tryz.prog.info? sw=some IZ:=aw
theorem U2:IZ.zero=some (.agg ⟨[.int .i64 0,.int .i64 0,.int .i64 0,.int .i64 0]⟩):=aw
theorem U3:IZ.size=4:=aw
abbrev I0:Nat:=32
theorem U4:IZ.bytes=I0:=aw
theorem afl:(.agg ⟨[.int .i64 0,.int .i64 0,.int .i64 0,.int .i64 0]⟩:U).cells.size=4:=rfl
def ck (x:bA):List U:=[.int .i64 x.1,.int .i64 x.2.1,.int .i64 x.2.2.1,.int .i64 x.2.2.2]
theorem I1:∀x,(ck x).length=4:=λ_=>rfl
theorem afm:∀x,∀u∈ck x,u.oneCell'=true:=λx u hu=>by
 simp only [ck,List.mem_cons,List.not_mem_nil,or_false] at hu;rcases hu with rfl|rfl|rfl|rfl<;>rfl
abbrev L.val (x:bA):U:= .agg ⟨ck x⟩
abbrev zg:aH:=89
theorem U5:Tryz.prog.underlying 67=some (.slice zg):=aw
def uN (x:Nat×Int×Bool):List U:=[.int .i64 ((x.1:Nat):Int),.int .i64 x.2.1,.bool x.2.2]
theorem U6:∀x,(uN x).length=3:=λ_=>rfl
abbrev Q.val (x:Nat×Int×Bool):U:= .agg ⟨uN x⟩
abbrev zh:aH:=87
theorem I2:Tryz.prog.underlying 70=some (.slice zh):=aw
def kg (x:Nat×bA):List U:=[.int .i64 ((x.1:Nat):Int),.int .i64 x.2.1,.int .i64 x.2.2.1,.int .i64 x.2.2.2.1,.int .i64 x.2.2.2.2]
theorem I3:∀x,(kg x).length=5:=λ_=>rfl
abbrev O.val (x:Nat×bA):U:= .agg ⟨kg x⟩
abbrev uO:Bool:=false
abbrev zi:bA:=z4
end AE
namespace AE
abbrev ix:=Nat×Int×Bool
abbrev ax:=Nat×bA
abbrev xx:aH:=76
abbrev fA:aH:=34
abbrev wb (l:List U) (n:Nat):Nat->U:=λi=>l.getD (n+i) (.bool false)
def lU (g:List Nat) (w:List Bool) (k:Nat):List Nat:=if w.getD k default=true then g else g++[k]
def mF (w:List Bool) (k:Nat):List Bool:=if w.getD k default=true then w else w.set k true
section
variable {g:List Nat} {w:List Bool} {k:Nat}
theorem U7 (h:w.getD k default=true):lU g w k=g:=aN h
theorem U8 (h:¬w.getD k default=true):lU g w k=g++[k]:=aO h
theorem U9 (h:w.getD k default=true):mF w k=w:=aN h
theorem U' (h:¬w.getD k default=true):mF w k=w.set k true:=aO h
theorem I4 (w:List Bool) (k:Nat):(mF w k).length=w.length:=by
 unfold mF;split
 ·rfl
 ·exact List.length_set
theorem U_ (g:List Nat) (w:List Bool) (k:Nat):(lU g w k).length<=g.length+1:=by
 unfold lU;split
 ·omega
 ·simp
end
def qx (i:Nat) (old x:bA):bA:=pJ λc=>if c<i/\0<bL old c then 0 else bL x c
section
variable {old x:bA} {k:Nat} {l:List bA}
theorem afn:qx 0 old x=x:=by
 refine bA.ext' λc al=> ?_
 unfold qx;rw[h0 al,aO ao]
theorem afo:qx 4 old x=uK old x:=by
 refine bA.ext' λc al=> ?_
 unfold qx uK;rw[h0 al,h0 al];simp [al]
theorem Va {α:Type} [Inhabited α] {l:List α} {k:Nat} (ag:k<l.length):l.set k (l.getD k default)=l:=by
 rw[dr,fP ag];simp
end
end AE
namespace AE
theorem bW.Fk {M M':Mem} {B:Nat} {L L':List ca} (h:bW B M L M' L'):dp M L M' L':=⟨h.sp,h.keeps,h.fresh⟩
theorem b_.own {M:Mem} {L:List ca} (h:b_ M L):bW 0 M L M L:=⟨h,λ_ _ h _=>h,λ_ h=> .inl h,λ_ _=>Nat.zero_le _⟩
theorem dp.lift {M M':Mem} {L oE L' N:List ca} (av:b_ M L) (is:List Nat) (ij:jU L.length is=true) (hp:AE.pick L is=oE) (hl:L'.length=is.length) (t:dp M oE M' (L'++N)):dp M L M' (la L is L'++N):=by
 subst hp;exact(av.own.put is ij hl t).Fk
theorem dp.trans {M pa oJ:Mem} {L dq kS:List ca} (h:dp M L pa dq) (t:dp pa dq oJ kS):dp M L oJ kS where
 sp:=t.sp
 keeps i o af aq:=t.keeps i o (h.keeps i o af aq) λae=>by
  rcases h.fresh i ae with ay|ay
  ·exact aq ay
  ·rw[af] at ay;cases ay
 fresh b ad:=by
  rcases t.fresh b ad with h1|h1
  ·exact h.fresh b h1
  ·by_cases ae:iL L b
   ·exact .inl ae
   ·right
    cases ay:M b with
    |none=>rfl
    |some o=>
     have:=h.keeps b o ay ae;rw[h1] at this;cases this
theorem dp.refl {M:Mem} {L:List ca} (h:b_ M L):dp M L M L:=h.own.Fk
def uP (L:List ca):ca:=⟨iL L,λM=>b_ M L,λ_ h b ad=>h.known b ad,λ_ _ hm h=>h.mono hm⟩
theorem CZ {L:List ca} {b:Nat}:iL [uP L] b↔iL L b:=mZ
theorem b_.packed {M:Mem} {L:List ca} (h:b_ M L):b_ M [uP L]:=b_.one h
theorem b_.afp {M:Mem} {L:List ca} (h:b_ M [uP L]):b_ M L:=h.ok 0 _ rfl
theorem dp.packed {M M':Mem} {L L':List ca} (h:dp M L M' L'):dp M [uP L] M' [uP L']:=
 ⟨h.sp.packed,λi o af aq=>h.keeps i o af λae=>aq (CZ.2 ae),λb ad=>(h.fresh b (CZ.1 ad)).imp CZ.2 id⟩
theorem afq {L N:List ca} {b:Nat}:iL (uP L::N) b↔iL (L++N) b:=by
 constructor
 ·rintro ⟨i,R,af,ad⟩
  cases i with
  |zero=>
   cases af;obtain⟨j,S,hj,ad⟩:=ad;exact⟨j,S,by rw[List.getElem?_append_left (List.getElem?_eq_some_iff.1 hj).1];exact hj,ad⟩
  |succ i=>exact⟨L.length+i,R,by rw[List.getElem?_append_right ao,Nat.add_sub_cancel_left];exact af,ad⟩
 ·rintro ⟨i,R,af,ad⟩
  rcases Nat.lt_or_ge i L.length with h|h
  ·rw[List.getElem?_append_left h] at af
   exact⟨0,uP L,rfl,⟨i,R,af,ad⟩⟩
  ·rw[List.getElem?_append_right h] at af
   exact⟨i-L.length+1,R,af,ad⟩
theorem dp.NW {M M':Mem} {L L' N:List ca} (h:dp M L M' (L'++N)):dp M [uP L] M' (uP L'::N) where
 sp:=by
  refine⟨λi R af=> ?_,λi j R S cC af hj b ad kP=> ?_⟩
  ·cases i with
   |zero=>
    cases af;exact⟨λi R af=>h.sp.ok i R (by rw[List.getElem?_append_left (List.getElem?_eq_some_iff.1 af).1];exact af),λi j R S cC af hj=>h.sp.two i j R S cC (by rw[List.getElem?_append_left (List.getElem?_eq_some_iff.1 af).1];exact af) (by rw[List.getElem?_append_left (List.getElem?_eq_some_iff.1 hj).1];exact hj)⟩
   |succ i=>exact h.sp.ok (L'.length+i) R (by rw[List.getElem?_append_right ao,Nat.add_sub_cancel_left];exact af)
  ·have key:∀(j:Nat) (S:ca),N[j]? =some S->∀b,iL L' b->¬S.mY b:=λj S hj b ⟨i,R,af,ad⟩=>h.sp.two i (L'.length+j) R S (by have:=(List.getElem?_eq_some_iff.1 af).1;omega) (by rw[List.getElem?_append_left (List.getElem?_eq_some_iff.1 af).1];exact af) (by rw[List.getElem?_append_right ao,Nat.add_sub_cancel_left];exact hj) b ad
   cases i with
   |zero=>
    cases af;cases j with
    |zero=>exact cC rfl
    |succ j=>exact key j S hj b ad kP
   |succ i=>
    cases j with
    |zero=>
     cases hj;exact key i R af b kP ad
    |succ j=>exact h.sp.two (L'.length+i) (L'.length+j) R S ao (by rw[List.getElem?_append_right ao,Nat.add_sub_cancel_left];exact af) (by rw[List.getElem?_append_right ao,Nat.add_sub_cancel_left];exact hj) b ad kP
 keeps i o af aq:=h.keeps i o af λae=>aq (CZ.2 ae)
 fresh b ad:=(h.fresh b (afq.1 ad)).imp CZ.2 id
theorem NY {α:Type} {P:aQ} {f:FuncId} {args:Array U} {w:au} {e:aH} {k:Nat} {enc:α->List U} {l:List α} {L:List ca} (av:b_ (aG w) L)
  (h:Calls P f args w λe' w'=>(∃a c,e'= .returned (.slice a l.length c)/\dJ w.heap.size (aG w') e k enc (.slice a l.length c) l)/\ch w.heap.size w w'):
  Calls P f args w λe' w'=>(∃y:Option Addr×Nat,e'= .returned (.slice y.1 l.length y.2)/\dp (aG w) L (aG w') (L++[iK e k enc (.slice y.1 l.length y.2) l]))/\ch 0 w w':=
 (E3 h).mono λe' w' he=>by
   obtain⟨⟨y,h1,ae⟩,ay⟩:=he;exact⟨⟨y,h1,(av.own.new ae).Fk⟩,ay⟩
end AE
namespace AE
def A':List (Nat×U)->Nat->Option U
 |[],_=>none
 |p::r,i=>bif Nat.beq p.1 i then some p.2 else A' r i
def afr (o:Oper):Oper:={o with guard:=none}
def afs (kb:Nat->U) (aft:List Nat) (ops:Array Oper) (N:Nat) (o:Oper):Bool:=
 match o.guard with
 |none=>true
 |some (j,b)=>aft.contains j&&(match kb j with| .bool b'=>b==b'|_=>false)&&(match fl ops j with|some t=>Nat.blt t N|none=>false)
def I5 (P:aQ) (N m:Nat) (dx:List Nat) (cs qy:List (Nat×U)) (ops:Array Oper) (dE:aT) (A:aW):List Oper->Nat->List U->Option (List U)
 |[],_,vs=>some vs
 |o::r,i,vs=>bif afs (λj=>vs.getD j cL) (needs ops m o) ops N o then
   (bif dx.contains i then I5 P N m dx cs qy ops dE A r (i+1) (vs++[(A' cs i).getD cL]) else
     match A' qy i with
     |some v=>I5 P N m dx cs qy ops dE A r (i+1) (vs++[v])
     |none=>match hW N ops (λj=>vs.getD j cL) (needs ops m o) dE with
      |some sl=>match y' P (ea .nil sl) A (afr o) with
       |some v=>I5 P N m dx cs qy ops dE A r (i+1) (vs++[v])
       |none=>none
      |none=>none)
  else none
def afu (ops:Array Oper) (dx:List Nat):Bool:=(List.range dx.length).all λb=>(List.range b).all λa=>Ec (Aq ops) (dx.getD b 0) (dx.getD a 0)
def afv (P:aQ) (N m:Nat) (dx:List Nat) (cs qy:List (Nat×U)):Option bP->Option (aT×List U×aT)
 |some (.draw _ ops s _)=>
  bif uq ops [] m N&&afu ops dx&&dx.all (λj=>Nat.blt j m) then
   match hW N ops (λ_=>cL) (List.range m) s.sl with
   |some dE=>match I5 P N m dx cs qy ops dE s.A (ops.toList.take m) 0 [] with
    |some vs=>match hW N ops (λj=>vs.getD j cL) (List.range m) dE with
     |some ID=>some (dE,vs,ID)
     |none=>none
    |none=>none
   |none=>none
  else none
 |_=>none
def I6 (P:aQ) (N m:Nat) (dx:List Nat) (cs qy:List (Nat×U)) (o:Option bP) (i:Nat):aT:=
 match afv P N m dx cs qy o,(lQ o)[i]? with
 |some (dE,vs,_),some op=>match hW N (lQ o) (λj=>vs.getD j cL) (needs (lQ o) m op) dE with
  |some sl=>sl
  |none=> .nil
 |_,_=> .nil
def Vb [aY] {Y:Type} (P:aQ) (B:Nat) (M:Mem) (cN:List ca) (ops:Array Oper) (dx:List Nat) (rv:Nat->Y->U) (k:Nat) (op:Oper) (sl:aT) (C0 I7:Y->List ca):Prop:=
 ∀(a:Act) (w:au) (K:Act->au->Prop) (Q:Exit->Act->au->Prop) (y:Y),(∀x:Operand,aM (ea .nil sl x)=true->a.eval x=aK (ea .nil sl x))->
  (∀(idx i:Nat) (t:Tmp),idx<k->dx[idx]? =some i->fl ops i=some t->a.tmps.getD t undef=rv idx y)->(∀i o,M i=some o->¬iL cN i->w.heap[i]? =some o)->B<=w.heap.size->b_ (aG w) (C0 y)->
  (∀gV w',dp (aG w) (C0 y) (aG w') (I7 gV)->ch 0 w w'->(∀idx,idx<k->rv idx gV=rv idx y)->K (a.put op.dst (rv k gV)) w')->Oper.wpIn (Fr none) 0 P op a w K Q
structure Fl [aY] {Y:Type} (N:Nat) (ds:List Deferred) (ops:Array Oper) (m:Nat) (dx:List Nat) (vs:List U) (dE:aT) (φ:bQ) (rv:Nat->Y->U) (k:Nat) (y:Y) (listed:Array Bool) (a:Act):Prop where
 size:listed.size=ops.size
 down:∀i j,listed.getD i false=true->direct ops i j=true->listed.getD j false=true
 tj:∀i,m<=i->listed.getD i false=false
 defers:a.defers=ds
 l0:a.tmps.size=N
 slot:∀t v,dE.get t=some v->aD φ v (a.tmps.getD t undef)
 val:∀j t,j<m->listed.getD j false=true->fl ops j=some t->aD φ (vs.getD j cL) (a.tmps.getD t undef)
 IE:∀(idx j:Nat) (t:Tmp),idx<k->dx[idx]? =some j->fl ops j=some t->a.tmps.getD t undef=rv idx y
 ord:∀(idx j:Nat),dx[idx]? =some j->(listed.getD j false=true↔idx<k)
section
variable [aY] {Y:Type} {N:Nat} {ds:List Deferred} {ops:Array Oper} {m:Nat} {dx:List Nat} {vs:List U} {dE:aT} {φ:bQ} {rv:Nat->Y->U} {k:Nat} {y:Y} {listed:Array Bool} {a:Act}
theorem Fl.IA (h:Fl N ds ops m dx vs dE φ rv k y listed a) {kb:Nat->U} {ks:List Nat} {sl:aT} (DY:∀j∈ks,j<m/\listed.getD j false=true/\kb j=vs.getD j cL) (hp:hW N ops kb ks dE=some sl):fu N ds φ sl a:=
 ⟨h.l0,h.defers,λt v aC=>by
   rcases ow _ _ _ hp t v aC with ⟨j,hj,a_,rfl⟩|⟨_,az⟩
   ·obtain⟨h1,ae,bE⟩:=DY j hj
    rw[bE];exact h.val j t h1 ae a_
   ·exact h.slot t v az⟩
theorem Fl.put (h:Fl N ds ops m dx vs dE φ rv k y listed a) {i:Nat} {o:Oper} {lL:aT} (ek:hW N ops (λ_=>cL) (List.range m) lL=some dE) (af:i<m) (hm:m<=ops.size) (ho:ops[i]? =some o)
  (tn:∀k,direct ops i k=true->listed.getD k false=true) (mR:∀i j,i<m->j<m->i≠j->∀t,fl ops i=some t->fl ops j≠some t) (b8:∀i t,i<m->fl ops i=some t->t<N)
  {aB:U} (aC:aD φ (vs.getD i cL) aB) {k':Nat} {gV:Y} (eX:∀(idx j:Nat),dx[idx]? =some j->j<m)
  (iU:∀(idx j:Nat) (t:Tmp),idx<k'->dx[idx]? =some j->fl ops j=some t->(if j=i then aB else a.tmps.getD t undef)=rv idx gV)
  (cm:∀(idx j:Nat),dx[idx]? =some j->((j=i\/listed.getD j false=true)↔idx<k')):Fl N ds ops m dx vs dE φ rv k' gV (listed.setIfInBounds i true) (a.put o.dst aB):=by
 have kB:fl ops i=o.dst:=by simp [fl,ho]
 have eZ:=IB (listed:=listed) (i:=i) (by have:=h.size;omega);refine⟨by simpa using h.size,?_,?_,by rw[Act.Cd];exact h.defers,by rw[Act.size_put];exact h.l0,?_,?_,?_,?_⟩
 ·intro j k hj a_
  rw[eZ] at hj ⊢;rcases hj with rfl|hj
  ·exact .inr (tn k a_)
  ·exact .inr (h.down j k hj a_)
 ·intro j hj
  rw[getD_set_ne false ao];exact h.tj j hj
 ·intro t v oZ
  by_cases qh:o.dst=some t
  ·rcases ow _ _ _ ek t v oZ with ⟨j,hj,a_,rfl⟩|⟨w9,_⟩
   ·exact .cL _
   ·exact absurd (kB.trans qh) (w9 i (List.mem_range.2 af))
  ·rw[xw t qh]
   exact h.slot t v oZ
 ·intro j t hj hl a_
  by_cases eG:j=i
  ·subst eG
   rw[Act.r3 _ _ _ _ (by rw[h.l0];exact b8 j t hj a_),aN (kB.symm.trans a_)];exact aC
  ·rw[xw t λai=>mR i j af hj (Ne.symm eG) t (kB.trans ai) a_]
   exact h.val j t hj (((eZ j).1 hl).resolve_left eG) a_
 ·intro idx j t afw hj a_
  have:=iU idx j t afw hj a_;by_cases eG:j=i
  ·rw[aN eG] at this
   rw[<-this];rw[eG] at a_;rw[Act.r3 _ _ _ _ (by rw[h.l0];exact b8 i t af a_),aN (kB.symm.trans a_)]
  ·rw[aO eG] at this
   rw[xw t λai=>mR i j af (eX idx j hj) (Ne.symm eG) t (kB.trans ai) a_];exact this
 ·intro idx j hj
  rw[eZ j];exact cm idx j hj
end
end AE
namespace AE
def Vc (P:aQ) (N m:Nat) (dx:List Nat) (cs qy:List (Nat×U)) (o:Option bP) (i:Nat):Option (FuncId×List U):=
 match (lQ o)[i]? with
 |some op=>match op.op with
  | .call c=>match c.callee with
    | .value (.func f)=>bif enters P f then some (f,c.args.toList.map (ea .nil (I6 P N m dx cs qy o i))) else none
    |_=>none
  |_=>none
 |none=>none
theorem Vb.call [aY] {Y:Type} {P:aQ} {M:Mem} {B N m k i:Nat} {dx:List Nat} {cs qy:List (Nat×U)} {o:Option bP} {f:FuncId} {args:List U} {cN:List ca} {rv:Nat->Y->U} {C0 I7:Y->List ca} (h:Vc P N m dx cs qy o i=some (f,args)) (hp:dW args=true)
  (jw:∀(w:au) (y:Y),(∀i o,M i=some o->¬iL cN i->w.heap[i]? =some o)->B<=w.heap.size->b_ (aG w) (C0 y)->Calls P f ⟨et args⟩ w λe' w'=>(∃gV,e'= .returned (rv k gV)/\dp (aG w) (C0 y) (aG w') (I7 gV)/\∀idx,idx<k->rv idx gV=rv idx y)/\ch 0 w w'):
  ∃op,(lQ o)[i]? =some op/\Vb P B M cN (lQ o) dx rv k op (I6 P N m dx cs qy o i) C0 I7:=by
 unfold Vc at h;split at h
 ·rename_i op cj
  split at h
  ·rename_i c za
   split at h
   ·rename_i iC qg
    cases he:enters P iC with
    |false=>rw[he] at h;cases h
    |true=>
     rw[he,bw] at h;simp only [cx,Prod.mk.injEq] at h;obtain⟨rfl,rfl⟩:=h;refine⟨op,cj,λa w K Q y uv lM bj dI tw b0=> ?_⟩;have gf:c.args.map a.eval=⟨et (c.args.toList.map (ea .nil (I6 P N m dx cs qy o i)))⟩:=by
      have:=Nw uv c.args.toList hp;rw[<-this];apply Array.ext';simp
     have eQ:(execOp a.eval op).run P w= .ok (.enter iC ⟨et (c.args.toList.map (ea .nil (I6 P N m dx cs qy o i)))⟩) w:=by
      unfold execOp;rw[za];simp only;refine cK (a:={target:= .fn (.func iC) #[],args:= #[]++c.args.map a.eval}) (by unfold resolve;rw[qg];rfl) ?_;simp only [Array.empty_append,gf];show (callFunc iC (_++ #[])).run P w=_;rw[Array.append_empty];exact jc (Hl he _) w
     have ff:∀c',op.op≠.defer c':=λc' h=>by rw[za] at h;cases h
     refine⟨λ_ _=>trivial,?_⟩;rw[Oper.semAt_eq _ _ _ ff,eQ,Oper.uponIn_enter];refine⟨λh=>absurd h (by simp [Fr,Fence.wide]),?_⟩;refine CallsIn.mono (D_ (jw w y bj dI tw)) λe' w2 he=> ?_
     obtain⟨⟨gV,rfl,cS,dL⟩,hl⟩:=he;exact b0 gV w2 cS hl dL
   ·cases h
  ·cases h
 ·cases h
end AE
namespace AE
mutual
theorem Vd (s1 s2:aY) (h:s1.σ=s2.σ):∀v:U,@aK s1 v= @aK s2 v:=λv=>by
 unfold aK;split
 ·rw[h]
 ·rw[Vd s1 s2 h]
 ·rw[Fm s1 s2 h]
 ·rw[Fm s1 s2 h]
 ·rw[Fm s1 s2 h,Fm s1 s2 h]
 ·rfl
theorem Fm (s1 s2:aY) (h:s1.σ=s2.σ):∀l:List U,@et s1 l= @et s2 l
 |[]=>rfl
 |v::r=>by
  unfold et;rw[Vd s1 s2 h v,Fm s1 s2 h r]
end
theorem afx {p:Nat->U->Prop} {j:Nat} {u:U} {l:List (Nat×U)} (h:p j u) (hl:∀i v,A' l i=some v->p i v):∀i v,A' ((j,u)::l) i=some v->p i v:=λi v af=>by
 unfold A' at af;cases ad:Nat.beq j i with
 |true=>
  rw[ad,bw] at af;cases af;rw[<-ct ad];exact h
 |false=>
  rw[ad,ei] at af;exact hl i v af
section
variable [aY] {P:aQ}
theorem aR.afy {t:aH} {x:U} {a:Addr} (ak:aM x=true) (aI:P.underlying t=some (.pointer (P.pointee t))) (ex:aK x= .pointer (some a)):aR P (.bin .eql t x (.pointer none),.bool false):=
 tu (b:= .pointer none) ak J J ex rfl λdO dP w=>by unfold fI;simp [eqGuard,run_eql_pointer_nil w t (some a) aI];rfl
end
theorem afz {P:aQ} {f:FuncId} {args:Array U} {w:au} {v:U} {L:List ca} (av:b_ (aG w) L) (h:Calls P f args w λe w'=>e= .returned v/\ch w.heap.size w w'):
  Calls P f args w λe w'=>(∃_:Unit,e= .returned v/\dp (aG w) L (aG w') L)/\ch 0 w w':=
 h.mono λe w' he=>by
   obtain⟨rfl,hl⟩:=he;have ag:∀i o,aG w i=some o->aG w' i=some o:=λi o af=>by
    rw[show aG w' i=aG w i from hl.block i (Array.getElem?_eq_some_iff.1 af).1];exact af
   exact⟨⟨(),rfl,av.mono λb o _ h=>ag b o h,λi o af _=>ag i o af,λb ad=> .inl ad⟩,hl.zero⟩
def xy {α:Type} (p:Nat->α->Prop):Nat->List α->Prop
 |_,[]=>True
 |q,x::l=>p q x/\xy p (q+1) l
theorem xy.nil {α:Type} {p:Nat->α->Prop} {q:Nat}:xy p q []:=trivial
theorem xy.cons {α:Type} {p:Nat->α->Prop} {q:Nat} {x:α} {l:List α} (h:p q x) (t:xy p (q+1) l):xy p q (x::l):=⟨h,t⟩
theorem xy.get {α:Type} {p:Nat->α->Prop}:∀{q:Nat} {l:List α},xy p q l->∀k i,l[k]? =some i->p (q+k) i
 |q,[],_,k,i,af=>by simp at af
 |q,x::l,h,k,i,af=>by
  match k with
  |0=>simp only [List.getElem?_cons_zero,cx] at af;subst af;exact h.1
  |k+1=>
   have:=xy.get h.2 k i (by simpa using af);rw[show q+(k+1)=q+1+k by omega];exact this
def xA (p:Nat->U->Prop):List (Nat×U)->Prop
 |[]=>True
 |x::l=>p x.1 x.2/\xA p l
theorem xA.nil {p:Nat->U->Prop}:xA p []:=trivial
theorem xA.cons {p:Nat->U->Prop} {j:Nat} {u:U} {l:List (Nat×U)} (h:p j u) (t:xA p l):xA p ((j,u)::l):=⟨h,t⟩
theorem xA.get {p:Nat->U->Prop}:∀{l:List (Nat×U)},xA p l->∀i v,A' l i=some v->p i v
 |[],_,i,v,h=>by cases h
 |(j,u)::l,h,i,v,af=>afx (p:=p) h.1 (xA.get h.2) i v af
end AE
end Go.Proofs.YtepcfjbfkedlpaaGreatDoor
namespace Go.Proofs.YtepcfjbfkedlpaaGreatDoor
open Go Go.RowKit
namespace AE
def rB:Nat->List (U×U)->List MapEntry
 |_,[]=>[]
 |i,p::r=>{key:=p.1,val:=p.2,born:=i}::rB (i+1) r
theorem Ve:∀(i:Nat) (l:List (U×U)) (p:U×U),rB i (l++[p])=rB i l++[{key:=p.1,val:=p.2,born:=i+l.length}]
 |i,[],n=>by simp [rB]
 |i,x::r,n=>by
  simp only [List.cons_append,rB,Ve (i+1) r n,List.length_cons];rw[show i+1+r.length=i+(r.length+1) by omega]
def sx (g:Nat) (es:List (U×U)):ca where
 mY b:=b=g
 ok M:=M g=some (.map ⟨rB 0 es⟩ es.length)
 qq M h b ad:=by
  subst ad;rw[h];simp
 loc M M' h ho:=h g _ rfl ho
structure I8 (P:aQ) (eR:aH) (K:U->Prop):Prop where
 afA:∀k,K k->∀b,a7 P (Instr.checkKey b 10000 eR k)=some ()
 desc:∃d,a7 P (underlying eR)=some d/\∀x y,Instr.sameNow d x y=none
 same:∀k,K k->∀w,(Op.equal eR k k).run P w= .ok true w
 other:∀k k',K k->K k'->k≠k'->∀w,(Op.equal eR k k').run P w= .ok false w
def I9 (K:U->Prop) (es:List (U×U)) (k:U):Prop:=∀p∈es,K p.1/\p.1≠k
variable {P:aQ} {eR:aH} {K:U->Prop} {k v:U} {w:au}
theorem Vf (b0:I8 P eR K) (ag:K k):∀(es:List (U×U)) (i j:Nat),I9 K es k->(Instr.findAsking eR k (rB i es) j).run P w= .ok none w
 |[],_,_,_=>rfl
 |p::r,i,j,h=>by
  obtain⟨h1,ae⟩:=h p List.mem_cons_self;unfold rB Instr.findAsking;refine c8 (b0.other k p.1 ag h1 (λe=>ae e.symm) w) ?_;exact Vf b0 ag r _ _ λq a1=>h q (List.mem_cons_of_mem _ a1)
theorem afB (b0:I8 P eR K) (ag:K k) {es:List (U×U)} (h:I9 K es k):(Instr.findKey eR k (rB 0 es)).run P w= .ok none w:=by
 obtain⟨d,h1,ae⟩:=b0.desc;unfold Instr.findKey;refine cK h1 ?_;cases es with
 |nil=>rfl
 |cons p r=>
  have:Instr.findNow d k (rB 0 (p::r)) 0=none:=by
   unfold rB Instr.findNow;rw[ae]
  rw[this];exact Vf b0 ag _ _ _ h
section
variable [aY]
end
theorem afC [cI] {P:aQ} {N B:Nat} {w0:au} {Q:Exit->Act->au->Prop} {M:Mem} {bh:List U} {o:Option bP} {t:aH} {ec:U} {bx:Nat->List U} {dM dF:aT} {aU:List bM} {bH:ev}
  (h:CH o=some t) (c1:dy (cW o) dM aU=some bH) (eg:gy N dM (iT o) ec=some dF) (fF:aM ec=true)
  (hm:∀M' g,fm (aX M bh) (aX M' (bx g)) bH) (aC:∀M' g,@aK (aX M' (bx g)) ec= .map (some g))
  (rest:∀M' g,M g=none->B<=g->(sx g []).ok M'->g_ M M' none->∀aS w,@Here (aX M' (bx g)) _ N {sl:=dF,ms:=[],A:=eJ aU} B w0 aS w->wpListIn (Fr none) 0 P (jS o) (dS P (gX o) Q) (jR o) aS w)
  (aq:cI.dt<=aU.length:=by first|exact Nat.zero_le _|exact hJ rfl) (al:ic (cW o).A aU 0:=by exact f_ rfl): @e0 (aX M bh) _ P N B w0 Q o:=by
 letI:=aX M bh;unfold CH at h;split at h
 ·rename_i op r ops s ks
  refine⟨_,rfl,λa w ai=> ?_⟩;split at h
  ·rename_i da cj
   split at h
   ·rename_i iv
    cases h;have fT:=ai;obtain⟨⟨φ,ds,h1,ae,ay,bE,_⟩,cn,cy⟩:=ai;unfold wpListIn;rw[nx ae.get iv,aN rfl];have hw:∀i o,M i=some o->w.heap[i]? =some o:=fT.mz
    let w':au:={w with heap:=w.heap.push (.map #[] 0)}
    have eQ:(execOp a.eval op).run P w= .ok (.value (.map (some w.heap.size))) w':=by
     unfold execOp;rw[cj];rfl
    have ff:∀c',op.op≠.defer c':=λc' h=>by rw[cj] at h;cases h
    refine⟨λ_ _=>trivial,?_⟩;rw[Oper.semAt_eq _ _ _ ff,eQ,Oper.uponIn_value];obtain⟨q1,aE⟩:=oA (B:=B) (M:=M) (w:=w) (w':=w') (T:=none) (dQ:=some w.heap.size) hw (λi h=>by cases h) (λi af=> .inr (by cases af;exact bY _)) ⟨rfl,rfl,rfl⟩ (bY _) (by simp [w']) (λi af _=>by
     show (w.heap.push _)[i]? =_
     rw[Array.getElem?_push,aO ao])
    have cm:(sx w.heap.size []).ok (gk M w' none (some w.heap.size)):=by
     show gk M w' none (some w.heap.size) w.heap.size=_;unfold gk;rw[aN rfl];show (w.heap.push _)[w.heap.size]? =_;rw[Array.getElem?_push,aN rfl];rfl
    have xB:M w.heap.size=none:=by
     cases az:M w.heap.size with
     |none=>rfl
     |some o=>
      have:=(Array.getElem?_eq_some_iff.1 (hw _ _ az)).1;omega
    have gN:=Here.turns (vals':=bx w.heap.size) c1 (hm _ _) q1 aq al fT;letI:=aX (gk M w' none (some w.heap.size)) (bx w.heap.size);have kd:=Here.put (d:=op.dst) gN (v:=ec) fF eg;rw[aC] at kd;exact rest _ _ xB cy cm aE _ w' kd
   ·cases h
  ·cases h
 ·cases h
theorem afD [cI] {P:aQ} {N B:Nat} {w0:au} {Q:Exit->Act->au->Prop} {M:Mem} {bh bx:List U} {o:Option bP} {t eR uG:aH} {K:U->Prop} {m k x uQ xC:U} {g:Nat} {es:List (U×U)} {dM dF:aT} {aU:List bM} {bH:ev}
  (b0:I8 P eR K) (h:CI o=some (t,m,k,x)) (aI:a7 P (underlying t)=some (.map eR uG))
  (c1:dy (cW o) dM aU=some bH) (eg:gy N dM (iT o) undef=some dF) (hp:aM m=true) (ak:aM k=true) (aC:aM x=true) (em: @aK (aX M bh) m= .map (some g)) (ES: @aK (aX M bh) k=uQ) (a': @aK (aX M bh) x=xC)
  (cm:(sx g es).ok M) (dI:B<=g) (ag:K uQ) (fN:I9 K es uQ) (hm:∀M',fm (aX M bh) (aX M' bx) bH)
  (rest:∀M',(sx g (es++[(uQ,xC)])).ok M'->g_ M M' (some g)->∀aS w,@Here (aX M' bx) _ N {sl:=dF,ms:=[],A:=eJ aU} B w0 aS w->wpListIn (Fr none) 0 P (jS o) (dS P (gX o) Q) (jR o) aS w)
  (aq:cI.dt<=aU.length:=by first|exact Nat.zero_le _|exact hJ rfl) (al:ic (cW o).A aU 0:=by exact f_ rfl): @e0 (aX M bh) _ P N B w0 Q o:=by
 letI:=aX M bh;unfold CI at h;split at h
 ·rename_i op r ops s ks
  refine⟨_,rfl,λa w ai=> ?_⟩;split at h
  ·rename_i da ET o6 ga cj
   split at h
   ·rename_i iv
    simp only [cx,Prod.mk.injEq] at h;obtain⟨rfl,rfl,rfl,rfl⟩:=h;have fT:=ai;obtain⟨⟨φ,ds,h1,ae,ay,bE,_⟩,cn,cy⟩:=ai;unfold wpListIn;rw[nx ae.get iv,aN rfl];have Ae:a.eval ET= .map (some g):=(aD.iq _ hp (gg (hX φ) ae.get ET)).trans em;have mV:a.eval o6=uQ:=(aD.iq _ ak (gg (hX φ) ae.get o6)).trans ES;have MY:a.eval ga=xC:=(aD.iq _ aC (gg (hX φ) ae.get ga)).trans a';have hw:∀i o,M i=some o->w.heap[i]? =some o:=fT.mz;have ad:M g=some (.map ⟨rB 0 es⟩ es.length):=cm;have az:=hw _ _ ad
    let o':Obj:= .map ⟨rB 0 (es++[(uQ,xC)])⟩ (es++[(uQ,xC)]).length
    let w':au:={w with heap:=w.heap.setIfInBounds g o'}
    have fq:Obj.map ((⟨rB 0 es⟩:Array MapEntry).push {key:=uQ,val:=xC,born:=es.length}) (es.length+1)=o':=by
     show _=Obj.map _ _;rw[Ve,List.length_append,Nat.zero_add];simp
    have eQ:(execOp a.eval op).run P w= .ok .skip w':=by
     unfold execOp;rw[cj];simp only [Ae,mV,MY];show (do Instr.mapUpdate da (.map (some g)) uQ xC;pure Next.skip:Sem Next).run P w=_;have cB:(Instr.mapUpdate da (.map (some g)) uQ xC).run P w= .ok () w':=by
      unfold Instr.mapUpdate;refine cK aI ?_;simp only;refine c8 (p_ az (by simp)) ?_;simp only;refine cK (b0.afA _ ag _) ?_;refine c8 (afB (w:=w) b0 ag fN) ?_;simp only;rw[fq];exact vC az (by simp)
     simp only [Sem.run_bind,cB,Result.andThen_ok];rfl
    have ff:∀c',op.op≠.defer c':=λc' h=>by rw[cj] at h;cases h
    refine⟨λ_ _=>trivial,?_⟩;rw[Oper.semAt_eq _ _ _ ff,eQ,Oper.uponIn_skip];have MZ:g<w.heap.size:=(Array.getElem?_eq_some_iff.1 az).1;obtain⟨q1,aE⟩:=oA (B:=B) (M:=M) (w:=w) (w':=w') (T:=some g) (dQ:=some g) hw (λi af=>by cases af;exact⟨by rw[ad];simp,dI⟩) (λi af=> .inl af) ⟨rfl,rfl,rfl⟩ (bY _) (by simp [w']) (λi af cC=>by
     show (w.heap.setIfInBounds g o')[i]? =_
     rw[Array.getElem?_setIfInBounds,aO (λe=>cC (by rw[e]))])
    have cm:(sx g (es++[(uQ,xC)])).ok (gk M w' (some g) (some g)):=by
     show gk M w' (some g) (some g) g=_;unfold gk;rw[aN rfl];show (w.heap.setIfInBounds g o')[g]? =_;rw[Array.getElem?_setIfInBounds,aN rfl,aN MZ]
    have gN:=Here.turns (vals':=bx) c1 (hm _) q1 aq al fT;letI:=aX (gk M w' (some g) (some g)) bx;exact rest _ cm aE _ w' (Here.put (d:=op.dst) gN (v:=undef) rfl eg)
   ·cases h
  ·cases h
 ·cases h
section
variable {M M':Mem}
theorem afE {g:Nat} {es c9:List (U×U)} (cm:(sx g c9).ok M') (b0:g_ M M' (some g)):dp M [sx g es] M' [sx g c9]:=
 ⟨b_.one cm,λi o af aq=>b0 i o af λe=>aq (mZ.2 (Option.some.inj e)),λb ad=> .inl (mZ.2 (show b=g from mZ.1 ad))⟩
theorem afF {g:Nat} {es:List (U×U)} (cm:(sx g es).ok M') (aq:M g=none) (b0:g_ M M' none):dp M [] M' [sx g es]:=
 ⟨b_.one cm,λi o af _=>b0 i o af λe=>(by cases e),λb ad=> .inr (by rw[show b=g from mZ.1 ad];exact aq)⟩
end
end AE
end Go.Proofs.YtepcfjbfkedlpaaGreatDoor
namespace Go.Proofs.YtepcfjbfkedlpaaGreatDoor
open Go Go.Proofs Go.RowKit
namespace AE
def look:List U->Nat->Nat->U
 |[],_,_=> .bool false
 |v::r,n,k=>bif Nat.beq (n-1) k then v else look r (n-1) k
def eV:List U->Prop
 |[]=>True
 |v::r=>mA v=v/\eV r
theorem C1:∀{l:List U},eV l->∀v∈l,mA v=v
 |[],_,v,aC=>by cases aC
 |x::r,h,v,aC=>by
  rcases List.mem_cons.1 aC with rfl|aC
  ·exact h.1
  ·exact C1 h.2 v aC
theorem I':∀{l:List U},(∀v∈l,mA v=v)->eV l
 |[],_=>trivial
 |x::r,h=>⟨h x (by simp),I' λv aC=>h v (List.mem_cons_of_mem _ aC)⟩
theorem rC {a b:List U} (ha:eV a) (ad:eV b):eV (a++b):=I' λv aC=>by
 rcases List.mem_append.1 aC with h|h
 ·exact C1 ha v h
 ·exact C1 ad v h
theorem oK {a:List U} (ha:eV a):eV a.reverse:=I' λv aC=>C1 ha v (by simpa using aC)
theorem I_:∀(env:List U) (n k:Nat),env.length=n->look env n k=env.reverse.getD k (.bool false)
 |[],n,k,_=>by simp [look]
 |v::r,n,k,h=>by
  simp only [List.length_cons] at h;unfold look;rw[List.reverse_cons,dr];by_cases ag:k=r.length
  ·subst ag
   rw[show Nat.beq (n-1) r.length=true by rw[show n-1=r.length by omega];exact Nat.beq_refl _,bw,List.getElem?_append_right (by simp)];simp
  ·rw[show Nat.beq (n-1) k=false by cases ad:Nat.beq (n-1) k with|false=>rfl|true=>exact absurd (ct ad) ao,ei,I_ r (n-1) k ao,dr]
   by_cases b8:k<r.length
   ·rw[List.getElem?_append_left (by simpa using b8)]
   ·rw[List.getElem?_eq_none (by simpa using by omega),List.getElem?_eq_none (by simp;omega)]
mutual
def ex (env:List U) (n:Nat):U->U
 | .complex .f64 k b=>bif Nat.beq b 0 then (bif Nat.blt k eD then look env n k else .pointer (some ⟨k-eD,0,none⟩)) else .complex .f64 k b
 | .iface t v=> .iface t (ex env n v)
 | .agg ⟨l⟩=> .agg ⟨fU env n l⟩
 | .tuple ⟨l⟩=> .tuple ⟨fU env n l⟩
 | .func (.func f) ⟨a⟩ ⟨b⟩=> .func (.func f) ⟨fU env n a⟩ ⟨fU env n b⟩
 |v=>v
def fU (env:List U) (n:Nat):List U->List U
 |[]=>[]
 |v::r=>ex env n v::fU env n r
end
abbrev cA (M:Mem) (env:List U):aY:=aX M env.reverse
theorem afG (M:Mem) {env:List U} {n:Nat} (h:eV env) (aq:env.length=n) (k:Nat):(cA M env).σ k=bif Nat.blt k eD then look env n k else .pointer (some ⟨k-eD,0,none⟩):=by
 show l6 env.reverse k=_;unfold l6;cases ag:Nat.blt k eD with
 |false=>rfl
 |true=>
  rw[bw,bw,I_ env n k aq];by_cases b8:k<env.length
  ·rw[dr,fP (by simpa using b8)]
   exact C1 (oK h) _ (List.getElem_mem (by simpa using b8))
  ·rw[dr,List.getElem?_eq_none (by simpa using by omega)]
   rfl
mutual
theorem ld (M:Mem) {env:List U} {n:Nat} (h:eV env) (aq:env.length=n):∀v:U,@aK (cA M env) v=ex env n v:=by
 intro v;unfold aK ex;split
 ·rename_i k b
  dsimp only;cases Nat.beq b 0 with
  |true=>rw[bw,bw];exact afG M h aq k
  |false=>rfl
 ·dsimp only;rw[ld M h aq]
 ·dsimp only;rw[sy M h aq]
 ·dsimp only;rw[sy M h aq]
 ·dsimp only;rw[sy M h aq,sy M h aq]
 ·rename_i h1 ae ay bE cn
  split
  ·exact absurd rfl (h1 _ _)
  ·exact absurd rfl (ae _ _)
  ·exact absurd rfl (ay _)
  ·exact absurd rfl (bE _)
  ·exact absurd rfl (cn _ _ _)
  ·rfl
theorem sy (M:Mem) {env:List U} {n:Nat} (h:eV env) (aq:env.length=n):∀l:List U,@et (cA M env) l=fU env n l
 |[]=>rfl
 |v::r=>by
  unfold et fU;rw[ld M h aq,sy M h aq]
end
mutual
def kh (n:Nat):U->Bool
 | .complex .f64 k b=>bif Nat.beq b 0 then Nat.blt k n|| !Nat.blt k eD else true
 | .iface _ v=>kh n v
 | .agg ⟨l⟩=>n3 n l
 | .tuple ⟨l⟩=>n3 n l
 | .func (.func _) ⟨a⟩ ⟨b⟩=>n3 n a&&n3 n b
 |_=>true
def n3 (n:Nat):List U->Bool
 |[]=>true
 |v::r=>kh n v&&n3 n r
end
mutual
theorem mg {n m:Nat} (hle:n<=m):∀v:U,kh n v=true->kh m v=true:=by
 intro v h;unfold kh at h ⊢;split at h
 ·rename_i k b
  cases ad:Nat.beq b 0 with
  |true=>
   rw[ad,bw,Bool.or_eq_true] at h;rw[bw,Bool.or_eq_true];rcases h with h|h
   ·exact .inl (Nat.blt_eq.mpr (Nat.lt_of_lt_of_le (Nat.blt_eq.mp h) hle))
   ·exact .inr h
  |false=>rfl
 ·exact mg hle _ h
 ·exact C2 hle _ h
 ·exact C2 hle _ h
 ·rename_i a b
  simp only [c0] at h ⊢;exact⟨C2 hle _ h.1,C2 hle _ h.2⟩
 ·rfl
theorem C2 {n m:Nat} (hle:n<=m):∀l:List U,n3 n l=true->n3 m l=true
 |[],_=>rfl
 |v::r,h=>by
  unfold n3 at h ⊢;simp only [c0] at h ⊢;exact⟨mg hle v h.1,C2 hle r h.2⟩
end
def nb (n:Nat) (s1 s2:aY):Prop:=∀k,k<n\/eD<=k->s1.σ k=s2.σ k
mutual
theorem ki {n:Nat} {s1 s2:aY} (ha:nb n s1 s2):∀v:U,kh n v=true-> @aK s1 v= @aK s2 v:=by
 intro v h;unfold kh at h;unfold aK;split at h
 ·rename_i k b
  dsimp only;cases ad:Nat.beq b 0 with
  |true=>
   rw[ad,bw] at h;rw[bw,bw];refine ha k ?_;rw[Bool.or_eq_true] at h;rcases h with h|h
   ·exact .inl (Nat.blt_eq.mp h)
   ·refine .inr ?_
    have:¬k<eD:=λag=>by rw[Nat.blt_eq.mpr ag] at h;cases h
    omega
  |false=>rfl
 ·dsimp only;rw[ki ha _ h]
 ·dsimp only;rw[A_ ha _ h]
 ·dsimp only;rw[A_ ha _ h]
 ·rename_i a b
  dsimp only;simp only [c0] at h;rw[A_ ha _ h.1,A_ ha _ h.2]
 ·rename_i h1 ae ay bE cn
  split
  ·exact absurd rfl (h1 _ _)
  ·exact absurd rfl (ae _ _)
  ·exact absurd rfl (ay _)
  ·exact absurd rfl (bE _)
  ·exact absurd rfl (cn _ _ _)
  ·rfl
theorem A_ {n:Nat} {s1 s2:aY} (ha:nb n s1 s2):∀l:List U,n3 n l=true-> @et s1 l= @et s2 l
 |[],_=>rfl
 |v::r,h=>by
  unfold n3 at h;simp only [c0] at h;unfold et;rw[ki ha v h.1,A_ ha r h.2]
end
theorem tC (M M':Mem) {env cT:List U} {n:Nat} (aq:env.length=n):nb n (cA M env) (cA M' (cT++env)):=by
 intro k ag;show l6 env.reverse k=l6 (cT++env).reverse k;unfold l6;cases ad:Nat.blt k eD with
 |false=>rfl
 |true=>
  rw[bw,bw];have b8:=Nat.blt_eq.mp ad;have dm:k<env.length:=by omega
  congr 1;rw[List.reverse_append,dr,dr,List.getElem?_append_left (by simpa using dm)]
structure hP (P:aQ) where
 α:Type
 Ja:α
 e:aH
 k:Nat
 bytes:Nat
 enc:α->List U
 len:∀x,(enc x).length=k
 one:∀x,∀u∈enc x,u.oneCell'=true
 pos:0<k
 size:a7 P (sizeOf e)=some k
 info:∃i z,P.info? e=some i/\i.zero=some z/\i.size=k/\i.bytes=bytes/\z.cells.size=k
variable {P:aQ}
structure iy (P:aQ) where
 K:hP P
 v:U
 l:List K.α
def iy.ok (r:iy P) (M:Mem):Prop:=b7 M r.K.k r.K.enc r.v r.l
inductive aF (P:aQ) where
 |box (g:Nat) (ty:aH) (cs:List U)
 |arr (K:hP P) (v:U) (l:List K.α)
 |jh (K:hP P) (v:U) (l:List K.α)
 |red (K:hP P) (v:U) (l:List K.α)
 |any (R:ca)
def aF.res:aF P->ca
 | .box g ty cs=>hZ g ty cs
 | .arr K v l=>iK K.e K.k K.enc v l
 | .jh K v l=>o7 K.e K.k K.enc v l
 | .red K v l=>rn K.k K.enc v l
 | .any R=>R
abbrev b3 (L:List (aF P)):List ca:=L.map aF.res
def aF.Vg:aF P->Option (iy P)
 | .arr K v l=>some ⟨K,v,l⟩
 | .jh K v l=>some ⟨K,v,l⟩
 | .red K v l=>some ⟨K,v,l⟩
 |_=>none
theorem kF {L:List (aF P)} {i:Nat} {r:aF P} (h:L[i]? =some r):(b3 L)[i]? =some r.res:=by
 rw[List.getElem?_map,h];rfl
def fB (ro:List (iy P)) (M:Mem):Prop:=∀(i:Nat) (r:iy P),ro[i]? =some r->r.ok M
def pb (eC:Mem) (ax:List ca) (M:Mem):Prop:=∀i o,eC i=some o->¬iL ax i->M i=some o
theorem NZ {B:Nat} {eC M:Mem} {ax:List ca} {L:List (aF P)} (h:bW B eC ax M (b3 L)) {i:Nat} {d:aF P} (af:L[i]? =some d) {r:iy P} (hr:d.Vg=some r):r.ok M:=by
 have az:=kF af;cases d<;>cases hr
 ·exact(h.arr i az).arr (hP.len _)
 ·exact(h.jh i az).arr (hP.len _)
 ·exact h.red i az
theorem N0 {M:Mem} {L:List (aF P)} (h:b_ M (b3 L)) {i:Nat} {d:aF P} (af:L[i]? =some d) {r:iy P} (hr:d.Vg=some r):r.ok M:=by
 have az:=kF af;cases d<;>cases hr
 ·exact(h.arr i az).arr (hP.len _)
 ·exact(h.jh i az).arr (hP.len _)
 ·exact h.red i az
theorem Fo {B:Nat} {eC M:Mem} {ax L:List ca} (h:bW B eC ax M L):pb eC ax M:=λ_ _ af aq=>h.kept af aq
end AE
namespace AE
def Fp:List (Nat×Operand)->Nat->Bool
 |[],_=>true
 |p::r,i=>Nat.beq p.1 i&&Fp r (i+1)
def N1:Option bP->Option (aH×List U)
 |some (.oper o _ ops s _)=>match o.op with
  | .buildSlice t n ⟨ps⟩=>bif Fp ps 0&&(Nat.beq ps.length n&&(Nat.blt 0 n&&Nat.ble n 1000)) then match qf ops o s.sl with
    |some true=>some (t,ps.map λp=>ea .nil s.sl p.2)
    |_=>none
    else none
  |_=>none
 |_=>none
def Fq:Nat->List U->List (Nat×U)
 |_,[]=>[]
 |i,u::r=>(i,u)::Fq (i+1) r
theorem Vh {f:Operand->U}:∀(ps:List (Nat×Operand)) (i:Nat),Fp ps i=true->ps.map (λp=>(p.1,f p.2))=Fq i (ps.map λp=>f p.2)
 |[],_,_=>rfl
 |p::r,i,h=>by
  unfold Fp at h;rw[c0] at h;rw[List.map_cons,List.map_cons,ct h.1,Vh r (i+1) h.2];rfl
theorem Vi:∀(l:List U) (off k:Nat) (cs:Array U),off+k+l.length<=cs.size->((l.zipIdx k).foldl (λ(cs:Array U) (p:U×Nat)=>cs.setIfInBounds (off+p.2) p.1) cs).toList=cs.toList.take (off+k)++l++cs.toList.drop (off+k+l.length)
 |[],off,k,cs,h=>by simp
 |u::l,off,k,cs,h=>by
  simp only [List.zipIdx_cons,List.foldl_cons];simp only [List.length_cons] at h;rw[Vi l off (k+1) _ (by simp only [Array.size_setIfInBounds];omega)];have ag:off+k<cs.toList.length:=by rw[Array.length_toList];omega
  rw[Array.toList_setIfInBounds,List.take_set,List.drop_set,aN ao,show off+(k+1)=off+k+1 by omega];rw[List.take_add_one,fP ag];rw[List.set_append_right _ _ (by rw[List.length_take];omega)];simp only [List.length_take,Option.toList_some];rw[show off+k-min (off+k) cs.toList.length=0 by omega];simp only [List.set_cons_zero,List.length_cons];rw[show off+k+1+l.length=off+k+(l.length+1) by omega];simp
theorem Vj {k:Nat}:∀(us:List U) (i0:Nat) (cs:Array U),(∀u∈us,u.cells.size=k)->cs.size=(i0+us.length)*k->∃r,Instr.fill (λi=>some (i*k,k)) cs (Fq i0 us)=some r/\r.toList=cs.toList.take (i0*k)++us.flatMap (λu=>u.cells.toList)
 |[],i0,cs,_,al=>⟨cs,rfl,by
  rw[List.flatMap_nil,List.append_nil,List.take_of_length_le];rw[Array.length_toList,al]
  exact bY _⟩
 |u::us,i0,cs,hu,al=>by
  have ag:=hu u List.mem_cons_self;simp only [List.length_cons] at al;have N2:cs.size=i0*k+k+us.length*k:=by
   rw[al,Nat.add_mul,Nat.add_mul];omega
  unfold Fq Instr.fill;dsimp only;rw[aO (by simp only [ag,N2];simp)];have av:=Vi u.cells.toList (i0*k) 0 cs (by rw[Array.length_toList];omega);rw[Array.length_toList,ag,Nat.add_zero] at av;generalize gv:u.cells.zipIdx.foldl (λcs (x:U×Nat)=>cs.setIfInBounds (i0*k+x.2) x.1) cs=cs';have Vk:cs'.toList=cs.toList.take (i0*k)++u.cells.toList++cs.toList.drop (i0*k+k):=by
   rw[<-gv,<-av,<-Array.foldl_toList,Array.toList_zipIdx]
  have hl:cs'.size=(i0+1+us.length)*k:=by
   rw[<-Array.length_toList,Vk];simp only [List.length_append,List.length_take,List.length_drop,Array.length_toList,ag,N2];rw[Nat.add_mul,Nat.add_mul];omega
  obtain⟨r,h1,ae⟩:=Vj us (i0+1) cs' (λx ak=>hu x (List.mem_cons_of_mem _ ak)) hl;refine⟨r,h1,?_⟩;rw[ae,Vk,List.flatMap_cons,<-List.append_assoc];congr 1;have hle:(cs.toList.take (i0*k)++u.cells.toList).length=(i0+1)*k:=by
   simp only [List.length_append,List.length_take,Array.length_toList,ag,N2];rw[Nat.add_mul];omega
  rw[List.take_append_of_le_length (Nat.le_of_eq hle.symm),List.take_of_length_le (Nat.le_of_eq hle)]
theorem Vl (env:List U) (n:Nat):∀l:List U,(fU env n l).length=l.length
 |[]=>rfl
 |_::r=>by unfold fU;rw[List.length_cons,List.length_cons,Vl env n r]
theorem Vm {α:Type} {k:Nat} {enc:α->List U} (ag:∀x,(enc x).length=k):∀(us:List U) (l:List α),us.map Value.cells=l.map (λy=>⟨enc y⟩)->(∀u∈us,u.cells.size=k)/\us.flatMap (λu=>u.cells.toList)=l.flatMap enc/\us.length=l.length
 |[],[],_=>⟨(λu hu=>by cases hu),rfl,rfl⟩
 |u::us,y::l,h=>by
  simp only [List.map_cons,List.cons.injEq] at h;obtain⟨h1,ae,ay⟩:=Vm ag us l h.2;refine⟨λv aC=> ?_,by rw[List.flatMap_cons,List.flatMap_cons,ae,h.1],by rw[List.length_cons,List.length_cons,ay]⟩;rcases List.mem_cons.1 aC with rfl|aC
  ·rw[h.1];simpa using ag y
  ·exact h1 v aC
theorem Vn [aY] {N:Nat} {ds:List Deferred} {φ:bQ} {sl:aT} {a:Act} (h:fu N ds φ sl a):∀(ps:List (Nat×Operand)),dW (ps.map λp=>ea .nil sl p.2)=true->ps.map (λp=>a.eval p.2)=et (ps.map λp=>ea .nil sl p.2)
 |[],_=>rfl
 |p::r,hp=>by
  have B0:(aM (ea .nil sl p.2)&&dW (r.map λp=>ea .nil sl p.2))=true:=hp;rw[c0] at B0;rw[List.map_cons,List.map_cons];show _=aK (ea .nil sl p.2)::et (r.map λp=>ea .nil sl p.2);rw[<-Vn h r B0.2,aD.iq _ B0.1 (gg (hX φ) h.get p.2)]
theorem afH [cI] {α:Type} {P:aQ} {N B:Nat} {w0:au} {Q:Exit->Act->au->Prop} {M:Mem} {bh:List U} {o:Option bP} {t e:aH} {k:Nat} {z ec:U} {xs us:List U} {enc:α->List U} {l:List α} {bx:Option Addr->Nat->List U} {dM dF:aT} {aU:List bM} {bH:ev}
  (h:N1 o=some (t,xs)) (aI:P.underlying t=some (.slice e)) (mQ:a7 P (sizeOf e)=some k) (Iv:a7 P (zeroValue e)=some z) (hg:0<k) (nn:k<=1000) (ag:∀x,(enc x).length=k)
  (c1:dy (cW o) dM aU=some bH) (eg:gy N dM (iT o) ec=some dF) (fF:aM ec=true) (ak:dW xs=true) (ex: @et (aX M bh) xs=us) (hu:us.map Value.cells=l.map λy=>⟨enc y⟩)
  (hm:∀M' a c,fm (aX M bh) (aX M' (bx a c)) bH) (aC:∀M' a c,@aK (aX M' (bx a c)) ec= .slice a l.length c)
  (rest:∀M' a c,dJ B M' e k enc (.slice a l.length c) l->g_ M M' none->(∀i,some i=eF (.slice a l.length c)->M i=none)->∀aS w,@Here (aX M' (bx a c)) _ N {sl:=dF,ms:=[],A:=eJ aU} B w0 aS w->wpListIn (Fr none) 0 P (jS o) (dS P (gX o) Q) (jR o) aS w)
  (aq:cI.dt<=aU.length:=by first|exact Nat.zero_le _|exact hJ rfl) (al:ic (cW o).A aU 0:=by exact f_ rfl): @e0 (aX M bh) _ P N B w0 Q o:=by
 letI:=aX M bh;unfold N1 at h;split at h
 ·rename_i op r ops s ks
  refine⟨_,rfl,λa w ai=> ?_⟩;split at h
  ·rename_i da fz ps cj
   cases ad:Fp ps 0&&(Nat.beq ps.length fz&&(Nat.blt 0 fz&&Nat.ble fz 1000)) with
   |false=>rw[ad] at h;cases h
   |true=>
    rw[ad,bw] at h;simp only [c0] at ad;obtain⟨jK,jY,rY,t_⟩:=ad;have jY:=ct jY;have rY:=Nat.blt_eq.mp rY;have t_:=Nat.ble_eq.mp t_;split at h
    ·rename_i iv
     cases h;have fT:=ai;obtain⟨⟨φ,ds,h1,ae,ay,bE,_⟩,cn,cy⟩:=ai;unfold wpListIn;rw[nx ae.get iv,aN rfl];obtain⟨ez,c2,c3⟩:=Vm ag us l hu;have hlen:us.length=fz:=by
      rw[<-ex,Lu,List.length_map,List.length_map,jY]
     have mV:ps.map (λp=>a.eval p.2)=us:=(Vn ae ps ak).trans ex;have hw:∀i o,M i=some o->w.heap[i]? =some o:=fT.mz;obtain⟨row,f1,f2⟩:=Vj us 0 ((Array.range (fz*k)).map (z.cells[· %z.cells.size]!)) ez (by rw[Array.size_map,Array.size_range,Nat.zero_add,hlen]);have f2:row.toList=l.flatMap enc:=by rw[f2,Nat.zero_mul,List.take_zero,List.nil_append,c2]
     let w':au:={w with heap:=w.heap.push (.cells row e)}
     have IQ:0<fz*k:=Nat.mul_pos rY hg;have alE:fz*k<=1000000:=Nat.le_trans (Nat.mul_le_mul t_ nn) cv;have eQ:(execOp a.eval op).run P w= .ok (.value (.slice (some ⟨w.heap.size,0,none⟩) fz fz)) w':=by
      unfold execOp;rw[cj];simp only [List.map_toArray];rw[Vh ps 0 jK,mV];have ad:(Instr.buildSlice t fz (Fq 0 us).toArray).run P w= .ok (.slice (some ⟨w.heap.size,0,none⟩) fz fz) w':=by
       unfold Instr.buildSlice;refine c8 (run_underlying aI w) ?_;simp only;refine cK mQ ?_;rw[aO ao];rw[aO ao];refine cK Iv ?_;refine cK (a:=z.cells) rfl ?_;simp only [f1];simp [newRow,newObj,Sem.run,w']
      simp only [Sem.run_bind,ad,Result.andThen_ok];rfl
     have ff:∀c',op.op≠.defer c':=λc' h=>by rw[cj] at h;cases h
     refine⟨λ_ _=>trivial,?_⟩;rw[Oper.semAt_eq _ _ _ ff,eQ,Oper.uponIn_value];obtain⟨q1,aE⟩:=oA (B:=B) (M:=M) (w:=w) (w':=w') (T:=none) (dQ:=some w.heap.size) hw (λi h=>by cases h) (λi af=> .inr (by cases af;exact bY _)) ⟨rfl,rfl,rfl⟩ (bY _) (by simp [w']) (λi af _=>by
      show (w.heap.push _)[i]? =_
      rw[Array.getElem?_push,aO ao])
     have jf:l.length=fz:=c3.symm.trans hlen;have v8:(l.flatMap enc).length=fz*k:=by rw[qm ag l,jf]
     have cm:dJ B (gk M w' none (some w.heap.size)) e k enc (.slice (some ⟨w.heap.size,0,none⟩) l.length fz) l:=by
      refine .inr ⟨w.heap.size,fz,row,rfl,ao,cy,?_,Nat.le_of_eq jf,by simp only [maxLen];omega,by rw[<-Array.length_toList,f2,v8],by rw[f2,jf];exact List.take_of_length_le (Nat.le_of_eq v8)⟩;unfold gk;rw[aN rfl];show (w.heap.push _)[w.heap.size]? =_;rw[Array.getElem?_push,aN rfl]
     have gN:=Here.turns (vals':=bx (some ⟨w.heap.size,0,none⟩) fz) c1 (hm _ _ _) q1 aq al fT;letI:=aX (gk M w' none (some w.heap.size)) (bx (some ⟨w.heap.size,0,none⟩) fz);have kd:=Here.put (d:=op.dst) gN (v:=ec) fF eg;rw[aC,jf] at kd;refine rest _ _ _ cm aE (λj hj=> ?_) _ w' kd;rw[mU _ _ ao] at hj;cases hj;exact y4 hw (bY _)
    ·cases h
  ·cases h
 ·cases h
end AE
namespace AE
inductive bs where
 |o (f:fH) (r:U) (m:Nat) (h:List Nat) (k:bs)
 |s (f:fH) (h:List Nat) (cV df:bs)
 |c (f:FuncId) (args:List U) (r:U) (m:Nat) (k:bs)
 |cs (f:FuncId) (args:List U) (cV df:bs)
 |c6 (x:U) (cV df:bs)
 |rD (x:U) (cV df:bs) (m:Nat) (k:bs)
 |ret (v:U)
 |back (vs:List U)
 |loop (vs:List U) (m:Nat) (k:bs)
 |gJ (k:bs)
 |st (t:aH) (p x:U) (k:bs)
 |uR (t:aH) (s:U) (c:List U) (k:bs)
 |uS (t:aH) (s x:U) (k:bs)
 |mk (t:aH) (x:U) (k:bs)
 |sz (c:List U) (m cap:Nat) (k:bs)
 |lt (t:aH) (x:U) (k:bs)
 |pc (t:aH) (x:U) (k:bs)
 |nE (t:aH) (k:bs)
 |call (f:FuncId) (args:List U) (r:U) (m:Nat) (k:bs)
 |no
 |oL (t:aH) (xs:List U) (k:bs)
 |alt (cV df:bs)
 |rq (t:aH) (s:U) (c:List U) (k:bs)
 |pM (t:aH) (x:U)
 |zj (t:aH) (k:bs)
 |zk (t:aH) (m i x:U) (k:bs)
abbrev bs.pN (x:U) (k:bs):bs:= .c6 x k .no
abbrev bs.N3 (x:U) (k:bs):bs:= .c6 x .no k
inductive iI where
 |k (x:kC) (ks:List fe)
 |ops (r:List Oper) (ops:Array Oper) (ks:List fe)
 |any (bb:Nat) (os:Array Oper) (listed:Array Bool) (ks:List fe)
abbrev jF:=List (fH×U)
abbrev jN:=List (FuncId×List U×U)
def afI (P:aQ) [Lib P] (F:jF) (T:jN) (N bb d:Nat) (ks:List fe) (x:kC) (s:b6):Option bP:= @resume P _ ⟨F⟩ (@r_ P _ ⟨F⟩ ⟨T⟩ .nil bb d) N bb ks x s
def iI.run (P:aQ) [Lib P] (F:jF) (T:jN) (N d:Nat):iI->b6->Option bP
 | .k x ks,s=>afI P F T N 1000 d ks x s
 | .ops r os ks,s=>AN P F T N 1000 d r os ks s
 | .any ..,_=>none
def iI.kE (P:aQ) (Q:Exit->Act->au->Prop):iI->Act->au->Prop
 | .k x ks,a,w=>dS P ks Q x.exit' a w
 | .ops r os ks,a,w=>wpListIn (Fr none) 0 P os (dS P ks Q) r a w
 | .any bb os listed ks,a,w=>wpAnyIn (Fr none) 0 P .any os (dS P ks Q) bb listed a w
structure iE where
 sl:aT
 aU:List bM
 n:Nat
 m:Nat
 ks:List fe
structure Ba where
 nF:List FuncId:=[]
 marks:List aH:=[]
 cells:List (Nat×Nat×Nat):=[]
 Vo:List (Nat×Nat):=[]
 Fs:List (Nat×List Nat):=[]
 qq:List (Nat×Bool):=[]
 d:Nat:=0
structure h4 extends Ba where
 N:Nat
 fn:Func
def Ft (l:List aH):jF:=l.map λ(t:Nat)=>bif Nat.beq t 1000000 then (.eo (.bool true),.bool true) else (.eo (.int .i64 (t:Int)),.int .i64 (t:Int))
def h5:Nat->Nat->List U
 |0,_=>[]
 |m+1,n=>aj n::h5 m (n+1)
def Fu (P:aQ) (t:aH) (n:Nat):Option (U×Nat):=
 match a7 P (isAgg t) with
 |some true=>match a7 P (sizeOf t) with
  |some m=>some (.agg ⟨h5 m n⟩,m)
  |none=>none
 |_=>some (aj n,1)
def Vp (P:aQ):List aH->Nat->Option (List U×Nat)
 |[],_=>some ([],0)
 |t::r,n=>match Fu P t n with
  |some (v,m)=>match Vp P r (n+m) with
   |some (vs,m')=>some (v::vs,m+m')
   |none=>none
  |none=>none
def afJ (P:aQ) (t:aH) (n:Nat):Option (U×Nat):=
 match P.underlying t with
 |some (.tuple cM)=>match Vp P cM.toList n with
  |some (vs,m)=>some (.tuple ⟨vs⟩,m)
  |none=>none
 |_=>Fu P t n
def Fv (P:aQ) (t:aH):Bool:=match P.underlying t with|some .bool=>true|_=>false
def N4 (ops:Array Oper) (d:Option Tmp):Bool:=
 match d with
 |none=>false
 |some d=>ops.any λo=>(match o.guard with
   |some (j,_)=>match ops[j]? with
    |some o'=>match o'.dst with
     |some t=>Nat.beq t d
     |none=>false
    |none=>false
   |none=>false)||(match o.op with
   | .pick (.tmp t) _ _=>Nat.beq t d
   |_=>false)
def afK:BinOp->Bool
 | .eql| .neq| .lss| .leq| .gtr| .geq=>true
 |_=>false
def Vq (P:aQ) (t:aH):aH:=match P.underlying t with
 |some (.array _ e)=>e
 |some (.slice e)=>e
 |some (.map _ e)=>e
 |_=>0
def Vr (P:aQ) (n:Nat):fH->Option (U×Nat×Bool)
 | .bin op _ _ _=>some (aj n,1,afK op)
 | .un op _=>some (aj n,1,decide (op= .not))
 | .bp t _=>(Fu P t n).map λx=>(x.1,x.2,Fv P t)
 | .eA t _ _=>match P.underlying t with
   |some (.array _ e)=>(Fu P e n).map λx=>(x.1,x.2,Fv P e)
   |_=>some (aj n,1,false)
 | .mw t _ _ ok=>(Fu P (Vq P t) n).map λx=>bif ok then (.tuple #[x.1,aj (n+x.2)],x.2+1,false) else (x.1,x.2,Fv P (Vq P t))
 | .eo _=>none
 |_=>some (aj n,1,false)
def Vs (P:aQ):fH->List Nat
 | .cu t _ f=>match (P.fieldsOf t)[f]? with
   |some hz=>[hz.offset,hz.type,(a7 P (sizeOf hz.type)).getD 0]
   |none=>[]
 | .cP t _ _=>match P.underlying t with
   |some (.array n e)=>[1,n,e,(a7 P (sizeOf e)).getD 0]
   |some (.slice e)=>[0,e,(a7 P (sizeOf e)).getD 0]
   |_=>[]
 | .bp t _=>[(a7 P (sizeOf t)).getD 0]
 | .eA t _ _=>match P.underlying t with
   |some (.array n e)=>[1,n,e,(a7 P (sizeOf e)).getD 0]
   |some .string=>[2]
   |_=>[]
 | .lr t _ _ _ _=>match P.underlying t with
   |some (.array n e)=>[1,n,e,(a7 P (sizeOf e)).getD 0]
   |some (.slice e)=>[0,e,(a7 P (sizeOf e)).getD 0]
   |some .string=>[2]
   |_=>[]
 | .len cM _ _=>match P.underlying (cM.getD 0 0) with
   |some (.slice e)=>[0,e]
   |some .string=>[2]
   |_=>[]
 |_=>[]
def rE (P:aQ) (ops:Array Oper) (o:Oper) (sl:aT) (n:Nat):Option (fH×U×Nat×Bool):=
 match qd (ea .nil sl) o with
 |some f=>bif nv f&&uT n f then match Vr P n f with
   |some (r,m,b)=>some (f,r,m,b&&N4 ops o.dst)
   |none=>none
  else none
 |none=>none
where
 C3 (n:Nat):Option U->Bool
  |none=>true
  |some v=>kh n v
 uT (n:Nat):fH->Bool
  | .bin _ _ x y| .cP _ x y| .eA _ x y| .d_ _ _ x y| .k7 _ _ x y| .mw _ x y _=>kh n x&&kh n y
  | .un _ x| .eo x| .conv _ _ x| .bp _ x| .cu _ x _| .dR x| .len _ _ x=>kh n x
  | .lr _ x eY af d_=>kh n x&&(C3 n eY&&(C3 n af&&C3 n d_))
def N5 (P:aQ) [Lib P] (o:Option bP) (ty:aH) (n:Nat):Option (FuncId×List U×U×Nat):=
 match uE P o with
 |some (f,args,_)=>bif dW args&&n3 n args then match afJ P ty n with
   |some (r,m)=>some (f,args,r,m)
   |none=>none
  else none
 |none=>none
def b4.Jb (f:U->U):b4 U->b4 U
 | .nil=> .nil
 | .node v l r=> .node (v.map f) (l.Jb f) (r.Jb f)
def nG (n:Nat) (bH:ev):Prop:=∀p∈bH,p.1=p.2/\kh n p.1=true
mutual
def okV (n m:Nat):U->Bool
 | .pointer (some ⟨b,_,none⟩)=>Nat.blt b n
 | .slice (some ⟨b,_,none⟩) _ _=>Nat.blt b n
 | .agg ⟨l⟩=>Bb n m l
 | .func (.func _) ⟨l⟩ ⟨k⟩=>Bb n m l&&Bb n m k
 | .func (.yield b) ⟨[]⟩ ⟨[]⟩=>Nat.blt b n
 |v=>xg v||(aM v&&kh m v)
def Bb (n m:Nat):List U->Bool
 |[]=>true
 |v::r=>okV n m v&&Bb n m r
end
def mh (n m:Nat):b4 U->b4 U
 | .nil=> .nil
 | .node none l r=> .node none (mh n m l) (mh n m r)
 | .node (some v) l r=>bif okV n m v then .node (some v) (mh n m l) (mh n m r) else .node none (mh n m l) (mh n m r)
def Vt (A:aW) (i:Nat):Option bM:=match A.bl.get i with
 |some k=>some ⟨k.obj,k.ty,k.eB⟩
 |none=>none
def sA (A:aW):Nat->Nat->List bM
 |0,_=>[]
 |m+1,i=>match Vt A i with
  |some b=>b::sA A m (i+1)
  |none=>[]
def zl (s:b6):List bM:=sA s.A s.A.n 0
def zm (m:Nat) (s:b6):aT×List bM:=(mh (zl s).length m s.sl,zl s)
def N6 (n:Nat) (bH:ev):Bool:=bH.all λp=>fj p.1 p.2&&kh n p.1
def N7 (n m:Nat):p3->Bool
 | .cells c=>Bb n m c
 | .fL .deferred=>true
 | .fL .gone=>true
 |_=>false
def C4 (n m:Nat):List bM->Bool
 |[]=>true
 |b::r=>N7 n m b.obj&&C4 n m r
def rF (m:Nat) (aU:List bM):Bool:=AI aU&&C4 aU.length m aU
def Jc (A:aW):List bM->Nat->Bool
 |[],_=>true
 |_::r,i=>(match A.bl.get i with|some k=>Nat.beq k.cE i&& !k.ro|none=>false)&&Jc A r (i+1)
def zn (s:b6):Bool:=(match s.ms with|[]=>true|_=>false)&&Jc s.A (zl s) 0
def zo (n:Nat) (s:b6) (sl:aT) (aU:List bM):Prop:=∃bH,dy s sl aU=some bH/\nG n bH/\ql aU=true
mutual
def N8 (v u:U):U->U
 | .agg ⟨l⟩=> .agg ⟨Fw v u l⟩
 | .func (.func f) ⟨a⟩ ⟨b⟩=> .func (.func f) ⟨Fw v u a⟩ ⟨Fw v u b⟩
 |x=>bif fj x v then u else x
def Fw (v u:U):List U->List U
 |[]=>[]
 |x::r=>N8 v u x::Fw v u r
end
def afL (v u:U):p3->p3
 | .cells c=> .cells (Fw v u c)
 |x=>x
def afM (v u:U) (b:bM):bM:={b with obj:=afL v u b.obj}
def Vu (n:Nat) (v u:U) (bH:ev):Bool:=bH.all λp=>(fj p.1 p.2&&kh n p.1)||(fj p.1 v&&fj p.2 u)
def tD (n:Nat) (v u:U) (s:b6) (sl:aT) (aU:List bM):Bool:=(match dy s sl aU with|some bH=>Vu n v u bH|none=>false)&&ql aU
def afN (t:Nat) (ops:Array Oper):Bool:=ops.any λo=>match o.dst with|some d=>Nat.beq d t|none=>false
def xD (t:Nat):Code->Bool
 | .region _ ops _=>afN t ops
 | .seq a b=>xD t a||xD t b
 | .cond _ a b=>xD t a||xD t b
 | .block _ b=>xD t b
 | .loop b=>xD t b
 | .rangeFunc _ ps a b=>ps.any (λd=>Nat.beq d t)||xD t a||xD t b
 |_=>false
mutual
def Vv (n:Nat):U->Option (U×List U)
 | .agg ⟨l⟩=>match Vw n l with
   |some (l',vs)=>some (.agg ⟨l'⟩,vs)
   |none=>none
 |v=>bif aM v then some (aj n,[v]) else none
def Vw (n:Nat):List U->Option (List U×List U)
 |[]=>some ([],[])
 |v::r=>match Vv n v with
  |some (aB,vs)=>match Vw (n+vs.length) r with
   |some (dY,us)=>some (aB::dY,vs++us)
   |none=>none
  |none=>none
end
def Jd (c:Code):Nat->Nat->b4 U->Nat->Option (b4 U×List U)
 |_,_,.nil,_=>some (.nil,[])
 |pos,zp,.node v l r,n=>
  match (match v with
   |none=>some (none,[])
   |some x=>bif xD pos c then (match Vv n x with|some (x',vs)=>some (some x',vs)|none=>some (none,[])) else some (some x,[])) with
  |none=>none
  |some (aB,vs)=>match Jd c (pos+zp) (2*zp) l (n+vs.length) with
   |none=>none
   |some (l',us)=>match Jd c (pos+2*zp) (2*zp) r (n+vs.length+us.length) with
    |none=>none
    |some (dY,lA)=>some (.node aB l' dY,vs++us++lA)
def N9 (id:Nat) (cells:List (Nat×Nat×Nat)) (b:Nat):Nat->Nat->List U->List U×List U
 |_,_,[]=>([],[])
 |i,n,v::r=>bif cells.any (λp=>Nat.beq p.1 id&&(Nat.beq p.2.1 b&&Nat.beq p.2.2 i)) then
    let q:=N9 id cells b (i+1) (n+1) r
    (aj n::q.1,v::q.2)
  else
   let q:=N9 id cells b (i+1) n r
   (v::q.1,q.2)
def Fx (id:Nat) (cells:List (Nat×Nat×Nat)):Nat->Nat->List bM->List bM×List U
 |_,_,[]=>([],[])
 |b,n,k::r=>match k.obj with
  | .cells c=>
    let q:=N9 id cells b 0 n c
    let aE:=Fx id cells (b+1) (n+q.2.length) r
    ({k with obj:= .cells q.1}::aE.1,q.2++aE.2)
  |_=>let aE:=Fx id cells (b+1) n r
   (k::aE.1,aE.2)
def N':List fe->Nat
 | .uB id::_=>id
 |_::ks=>N' ks
 |[]=>0
def afO (cf:h4) (body:Code) (ks:List fe) (s:b6) (n:Nat):Option (aT×List bM×List U):=
 let q:=zm n s
 match Jd body 0 1 q.1 n with
 |none=>none
 |some (sl,vs)=>let aE:=Fx (N' ks) cf.cells 0 (n+vs.length) q.2
  some (sl,aE.1,vs++aE.2)
def Vx (n:Nat) (vs:List U) (p:U×U):Bool:=(fj p.1 p.2&&kh n p.1)||(match p.2 with
 | .complex .f64 k 0=>Nat.ble n k&&(Nat.blt k eD&&match vs[k-n]? with|some v=>fj v p.1|none=>false)
 |_=>false)
def C5 (n:Nat) (vs:List U) (bH:ev):Bool:=bH.all (Vx n vs)
def Vy (k:Nat):ev->Option U
 |[]=>none
 |p::r=>bif fj p.2 (aj k) then some p.1 else Vy k r
def Je (bH:ev):Nat->Nat->List U
 |0,_=>[]
 |m+1,n=>(match Vy n bH with|some v=>v|none=>aj n)::Je bH m (n+1)
def elemOf (P:aQ) (t:aH):Option aH:=match P.underlying t with|some (.slice e)=>some e|_=>none
def xE:Option bP->aH
 |some (.oper o _ _ _ _)=>match o.op with
  | .call c=>c.argTypes.getD 0 0
  |_=>0
 |_=>0
def afP:Option bP->aH
 |some (.oper o _ _ _ _)=>o.type
 |_=>0
def rG (N n:Nat) (s:b6) (dst:Option Tmp) (r:U):Option (aT×List bM):=
 let q:=zm n s
 bif Nat.blt n eD&&(zn s&&rF n q.2) then match gy N q.1 dst r with
  |some sl=>some (sl,q.2)
  |none=>none
 else none
def Vz (o:Option bP):iI:= .ops (jR o) (jS o) (gX o)
def VA:Option bP->Option U
 |some (.oper op _ os s _)=>match op.guard with
  |some (j,_)=>match os[j]? with
   |some o'=>match o'.dst with
    |some t=>match s.sl.get t with
     |some (.complex .f64 k 0)=>some (aj k)
     |_=>none
    |none=>none
   |none=>none
  |none=>match op.op with
   | .pick c _ _=>match ea .nil s.sl c with
     | .complex .f64 k 0=>some (aj k)
     |_=>none
   |_=>none
 |_=>none
abbrev jO:=(bs->bs)×aT×List bM×Nat
def N_ (cf:h4) (n:Nat) (o:Option bP):Option jO:=match nY o with
 |some (t,p,x)=>bif aM p&&aM x then (rG cf.N n (cW o) (iT o) undef).map λq=>(bs.st t p x,q.1,q.2,0) else none
 |none=>none
def Oa (P:aQ) (t:aH):Nat:=match elemOf P t with
 |some e=>match a7 P (sizeOf e) with
  |some k=>k
  |none=>0
 |none=>0
def Ob (P:aQ) (cf:h4) (n:Nat) (o:Option bP):Option jO:=match si (xE o) o with
 |some (v,x)=>bif aM v then match H7 (cW o).A (Oa P (xE o)) x with
   |some c=>bif dW c then (rG cf.N n (cW o) (iT o) (aj n)).map λq=>(bs.uR (xE o) v c,q.1,q.2,1) else none
   |none=>none
  else none
 |none=>none
def Oc (cf:h4) (n:Nat) (o:Option bP):Option jO:=match si (xE o) o with
 |some (v,x)=>bif aM v&&aM x then (rG cf.N n (cW o) (iT o) (aj n)).map λq=>(bs.uS (xE o) v x,q.1,q.2,1) else none
 |none=>none
def Od (cf:h4) (n:Nat) (o:Option bP):Option jO:=match Ix o with
 |some (t,x)=>bif aM x then (rG cf.N n (cW o) (iT o) (aj n)).map λq=>(bs.mk t x,q.1,q.2,1) else none
 |none=>none
def Oe (cf:h4) (n:Nat) (o:Option bP):Option jO:=match Ng o with
 |some (t,x)=>bif aM x then (rG cf.N n (cW o) (iT o) (aj n)).map λq=>(bs.lt t x,q.1,q.2,1) else none
 |none=>none
def Og (cf:h4) (n:Nat) (o:Option bP):Option jO:=match N1 o with
 |some (t,xs)=>bif dW xs then (rG cf.N n (cW o) (iT o) (aj n)).map λq=>(bs.oL t xs,q.1,q.2,1) else none
 |none=>none
def afQ:Option bP->aH
 |some (.oper o _ _ _ _)=>match o.op with
  | .call c=>c.argTypes.getD 1 0
  |_=>0
 |_=>0
def Oh (cf:h4) (n:Nat) (o:Option bP):Option jO:=match A4 (xE o) (afQ o) o with
 |some (v,x)=>bif aM v then match H7 (cW o).A 1 x with
   |some c=>bif dW c then (rG cf.N n (cW o) (iT o) (.int .i64 c.length)).map λq=>(bs.rq (xE o) v c,q.1,q.2,0) else none
   |none=>none
  else none
 |none=>none
def Oi (cf:h4) (n:Nat) (o:Option bP):Option jO:=match y5 o with
 |some (t,x)=>bif aM x then (rG cf.N n (cW o) (iT o) (aj n)).map λq=>(bs.pc t x,q.1,q.2,1) else none
 |none=>none
def Oj (cf:h4) (n:Nat) (o:Option bP):Option jO:=match EU o with
 |some t=>(rG cf.N n (cW o) (iT o) (aj n)).map λq=>(bs.nE t,q.1,q.2,1)
 |none=>none
def Ok (cf:h4) (n:Nat) (o:Option bP):Option jO:=match CH o with
 |some t=>(rG cf.N n (cW o) (iT o) (aj n)).map λq=>(bs.zj t,q.1,q.2,1)
 |none=>none
def Ol (cf:h4) (n:Nat) (o:Option bP):Option jO:=match CI o with
 |some (t,m,i,x)=>bif aM m&&(aM i&&aM x) then (rG cf.N n (cW o) (iT o) undef).map λq=>(bs.zk t m i x,q.1,q.2,0) else none
 |none=>none
def Om (P:aQ) [Lib P] (cf:h4) (n:Nat) (o:Option bP):Option jO:=match N5 P o (afP o) n with
 |some (f,args,r,m)=>bif aM r&&(n3 n args&&dW args) then (rG cf.N n (ke P o) (iT o) r).map λq=>(bs.call f args r m,q.1,q.2,m) else none
 |none=>none
def afR:Option bP->Option (Nat×Nat)
 |some (.oper op _ _ s _)=>match op.op with
  | .call c=>match c.callee with
    | .value _=>c.args.toList.findSome? λx=>match x with
      | .tmp t=>match s.sl.get t with
        |some (.slice (some ⟨b,0,none⟩) _ _)=>some (t,b)
        |_=>none
      |_=>none
    |_=>none
  |_=>none
 |_=>none
def On (n:Nat) (o:Option bP):Option jO:=match afR o with
 |some (t,b)=>match E1 o b t with
  |some (cs,m,c)=>match dy (cW o) (mh (sA (cW o).A b 0).length n (cW o).sl) (sA (cW o).A b 0) with
   |some bH=>bif N6 n bH&&(ql (sA (cW o).A b 0)&&(dW cs&&(Nat.blt n eD&&(Nat.ble (sA (cW o).A b 0).length b&&(Nat.blt 0 m&&Nat.ble m c))))) then
     (b4.set (aj n) depth (mh (sA (cW o).A b 0).length n (cW o).sl) t).map λsl=>(bs.sz cs m c,sl,sA (cW o).A b 0,1)
    else none
   |none=>none
  |none=>none
 |none=>none
def sB (a b:Option jO):Option jO:=match a with
 |some x=>some x
 |none=>b
def Jf (P:aQ) [Lib P] (cf:h4) (n:Nat) (o:Option bP):Option jO:=
 sB (N_ cf n o) (sB (Ob P cf n o) (sB (Oc cf n o) (sB (Od cf n o) (sB (Oe cf n o) (sB (Og cf n o) (sB (Oh cf n o) (sB (Oi cf n o) (sB (Oj cf n o) (sB (Ok cf n o) (sB (Ol cf n o) (Om P cf n o)))))))))))
abbrev iX:=Nat->List iE->iI->Nat->aT->List bM->jF->jN->Option bP->Option bs
def Oo (P:aQ) [Lib P] (cf:h4) (n:Nat) (q:Option bP):Option (Sum (fH×U×Nat×Bool) (FuncId×List U×U×Nat×Bool)):=
 match q with
 |some (.oper op _ os s _)=>match qf os op s.sl with
  |some true=>match rE P os op s.sl n with
   |some x=>some (.inl x)
   |none=>match N5 P q op.type n with
    |some (f,args,r,m)=>bif cf.nF.contains f then none else some (.inr (f,args,r,m,Fv P op.type&&N4 os op.dst))
    |none=>none
  |_=>none
 |_=>none
def VB (P:aQ) [Lib P] (cf:h4) (F:jF) (T:jN):Option bP->Option bP
 |some (.oper op r os s ks)=>AN P F T cf.N 1000 cf.d (op::r) os ks s
 |_=>none
section
variable {eI:Type}
def oM (n:Nat) (k:Nat->eI):eI:=match n with
 |0=>k 0
 |m+1=>k (m+1)
def pO {α:Type} (f:α->(α->eI)->eI):List α->(List α->eI)->eI
 |[],k=>k []
 |v::l,k=>f v λaB=>pO f l λl'=>k (aB::l')
def Fy {α:Type} (f:α->(α->eI)->eI):Option α->(Option α->eI)->eI
 |none,k=>k none
 |some a,k=>f a λaS=>k (some aS)
def Oq (a:Addr) (k:Addr->eI):eI:=match a with
 |⟨b,o,m⟩=>oM b λb'=>oM o λo'=>Fy (λx k=>k x) m λm'=>k ⟨b',o',m'⟩
def VC (i:Int) (k:Int->eI):eI:=match i with
 | .ofNat n=>oM n λfz=>k (.ofNat fz)
 | .negSucc n=>oM n λfz=>k (.negSucc fz)
def Jg (b:Bool) (k:Bool->eI):eI:=match b with
 |true=>k true
 |false=>k false
def Bc:Nat->U->(U->eI)->eI
 |0=>λv k=>k v
 |d+1=>λv k=>match v with
  | .bool b=>Jg b λb'=>k (.bool b')
  | .agg ⟨l⟩=>pO (Bc d) l λl'=>k (.agg ⟨l'⟩)
  | .complex t x y=>oM x λx'=>oM y λgV=>k (.complex t x' gV)
  | .int t i=>VC i λq3=>k (.int t q3)
  | .pointer p=>Fy Oq p λp'=>k (.pointer p')
  | .slice p n c=>Fy Oq p λp'=>oM n λfz=>oM c λc'=>k (.slice p' fz c')
  |v=>k v
def Jh:b4 U->(b4 U->eI)->eI
 | .nil,k=>k .nil
 | .node none l r,k=>Jh l λl'=>Jh r λdY=>k (.node none l' dY)
 | .node (some v) l r,k=>Bc 3 v λaB=>Jh l λl'=>Jh r λdY=>k (.node (some aB) l' dY)
def VD (b:bM) (k:bM->eI):eI:=match b with
 |⟨.cells l,t,m⟩=>oM t λda=>oM m λm'=>pO (Bc 3) l λl'=>k ⟨.cells l',da,m'⟩
 |⟨.map es c,t,m⟩=>k ⟨.map es c,t,m⟩
 |⟨.fL x,t,m⟩=>k ⟨.fL x,t,m⟩
def C6 (x:fe) (k:fe->eI):eI:=match x with
 | .l5 y=>k (.l5 y)
 | .uB i=>k (.uB i)
 | .sb c m=>oM m λm'=>k (.sb c m')
def Ji {α:Type} (f:α->(α->eI)->eI) (a:Array α) (k:Array α->eI):eI:=match a with
 |⟨l⟩=>pO f l λl'=>k ⟨l'⟩
def VE:iI->(iI->eI)->eI
 | .k x ks,k=>pO C6 ks λBd=>k (.k x Bd)
 | .ops r os ks,k=>pO (λx k=>k x) r λdY=>Ji (λx k=>k x) os λafS=>pO C6 ks λBd=>k (.ops dY afS Bd)
 | .any f os l ks,k=>oM f λiC=>Ji Jg l λl'=>pO C6 ks λBd=>k (.any iC os l' Bd)
theorem sC (n:Nat) (k:Nat->eI):oM n k=k n:=by cases n<;>rfl
theorem xF {α:Type} {f:α->(α->eI)->eI} (aP:∀v k,f v k=k v):∀(l:List α) (k:List α->eI),pO f l k=k l
 |[],k=>rfl
 |v::l,k=>by
  show f v (λaB=>pO f l λl'=>k (aB::l'))=_;rw[aP,xF aP l]
theorem Ot {α:Type} {f:α->(α->eI)->eI} (aP:∀v k,f v k=k v) (o:Option α) (k:Option α->eI):Fy f o k=k o:=by
 cases o with
 |none=>rfl
 |some a=>exact aP a λaS=>k (some aS)
theorem VF (a:Addr) (k:Addr->eI):Oq a k=k a:=by
 obtain⟨b,o,m⟩:=a;show oM b (λb'=>oM o λo'=>Fy (λx k=>k x) m λm'=>k ⟨b',o',m'⟩)=_;rw[sC,sC,Ot λ_ _=>rfl]
theorem afT (i:Int) (k:Int->eI):VC i k=k i:=by
 cases i with
 |ofNat n=>exact sC n λfz=>k (.ofNat fz)
 |negSucc n=>exact sC n λfz=>k (.negSucc fz)
theorem VG (b:Bool) (k:Bool->eI):Jg b k=k b:=by cases b<;>rfl
theorem Ou:∀(d:Nat) (v:U) (k:U->eI),Bc d v k=k v
 |0,v,k=>rfl
 |d+1,v,k=>by
  unfold Bc;split
  ·rw[VG]
  ·rw[xF (Ou d)]
  ·rw[sC,sC]
  ·rw[afT]
  ·rw[Ot VF]
  ·rw[Ot VF,sC,sC]
  ·rfl
theorem afU (b:bM) (k:bM->eI):VD b k=k b:=by
 obtain⟨o,t,m⟩:=b;cases o with
 |cells l=>
  show oM t (λda=>oM m λm'=>pO (Bc 3) l λl'=>k ⟨.cells l',da,m'⟩)=_;rw[sC,sC,xF (Ou 3)]
 |map es c=>rfl
 |fL x=>rfl
theorem Ov (x:fe) (k:fe->eI):C6 x k=k x:=by
 cases x with
 |sb c m=>exact sC m λm'=>k (.sb c m')
 |_=>rfl
theorem VH {α:Type} {f:α->(α->eI)->eI} (aP:∀v k,f v k=k v) (a:Array α) (k:Array α->eI):Ji f a k=k a:=by
 obtain⟨l⟩:=a;show pO f l (λl'=>k ⟨l'⟩)=_;rw[xF aP]
theorem afV (p:iI) (k:iI->eI):VE p k=k p:=by
 cases p with
 |k x ks=>
  show pO C6 ks _=_;rw[xF Ov]
 |ops r os ks=>
  show pO (λx k=>k x) r _=_;rw[xF (λ_ _=>rfl),VH (λ_ _=>rfl),xF Ov]
 |any f os l ks=>
  refine(sC f λiC=>Ji Jg l λl'=>pO C6 ks λBd=>k (.any iC os l' Bd)).trans ?_;rw[VH VG,xF Ov]
end
section
variable {eI:Type}
def uU (n m:Nat):b4 U->(b4 U->eI)->eI
 | .nil,k=>k .nil
 | .node none l r,k=>uU n m l λl'=>uU n m r λdY=>k (.node none l' dY)
 | .node (some v) l r,k=>bif okV n m v then Bc 3 v λaB=>uU n m l λl'=>uU n m r λdY=>k (.node (some aB) l' dY) else uU n m l λl'=>uU n m r λdY=>k (.node none l' dY)
theorem Be (n m:Nat):∀(t:b4 U) (k:b4 U->eI),uU n m t k=k (mh n m t)
 | .nil,k=>rfl
 | .node none l r,k=>by
   show uU n m l (λl'=>uU n m r λdY=>k (.node none l' dY))=_;rw[Be n m l,Be n m r];rfl
 | .node (some v) l r,k=>by
   unfold uU mh;cases okV n m v with
   |true=>rw[bw,bw,Ou,Be n m l,Be n m r]
   |false=>rw[ei,ei,Be n m l,Be n m r]
end
def Fz (G:iX) (n:Nat) (cs:List iE) (dK:iI) (F:jF) (T:jN) (sl:aT) (aU:List bM) (go:iI->aT->List bM->Option bP):Option bs:=
 oM n λn=>pO VD aU λaU=>bif rF n aU then VE dK λdK=>uU aU.length n sl λsl=>G n cs dK n sl aU F T (go dK sl aU) else none
theorem afW (G:iX) (n:Nat) (cs:List iE) (dK:iI) (F:jF) (T:jN) (sl:aT) (aU:List bM) (go:iI->aT->List bM->Option bP):Fz G n cs dK F T sl aU go=bif rF n aU then G n cs dK n (mh aU.length n sl) aU F T (go dK (mh aU.length n sl) aU) else none:=by
 unfold Fz;rw[sC,xF afU,afV,Be]
def qz (P:aQ) [Lib P] (cf:h4) (G:iX) (n:Nat) (cs:List iE) (dK:iI) (sl:aT) (aU:List bM):Option bs:=
 Fz G n cs dK (Ft cf.marks) [] sl aU λdK sl aU=>dK.run P (Ft cf.marks) [] cf.N cf.d (db sl aU)
def Jj (P:aQ) [Lib P] (cf:h4) (G:iX) (n:Nat) (cs:List iE) (dK:iI) (s:b6):Option bs:=bif zn s then qz P cf G n cs dK s.sl (zl s) else none
def two (a b:Option bs) (f:bs->bs->bs):Option bs:=match a with
 |some x=>match b with
  |some y=>some (f x y)
  |none=>none
 |none=>none
def FA (P:aQ) (G:iX) (n:Nat) (cs:List iE) (dK:iI) (dt:Nat) (sl:aT) (aU:List bM) (F:jF) (T:jN) (go:jF->Option bP):fH×U×Nat×Bool->Option bs
 |(f,r,m,b)=>bif rE.uT n f then
    bif b then two (G n cs dK dt sl aU (F++[(f,.bool true)]) T (go [(f,.bool true)])) (G n cs dK dt sl aU (F++[(f,.bool false)]) T (go [(f,.bool false)])) (bs.s f (Vs P f))
    else bif kh (n+m) r then (G (n+m) cs dK dt sl aU (F++[(f,r)]) T (go [(f,r)])).map (bs.o f r m (Vs P f)) else none
  else none
def FB (G:iX) (n:Nat) (cs:List iE) (dK:iI) (dt:Nat) (sl:aT) (aU:List bM) (F:jF) (T:jN) (go:jN->Option bP):FuncId×List U×U×Nat×Bool->Option bs
 |(f,args,r,m,b)=>bif n3 n args&&dW args then
    bif b then two (G n cs dK dt sl aU F (T++[(f,args,.bool true)]) (go [(f,args,.bool true)])) (G n cs dK dt sl aU F (T++[(f,args,.bool false)]) (go [(f,args,.bool false)])) (bs.cs f args)
    else bif kh (n+m) r&&aM r then (G (n+m) cs dK dt sl aU F (T++[(f,args,r)]) (go [(f,args,r)])).map (bs.c f args r m) else none
  else none
def Ow (P:aQ) [Lib P] (cf:h4) (G:iX) (n:Nat) (cs:List iE) (x:kC) (s:b6):Option bs:=match cs with
 |[]=>match gu P cf.fn (some (.done x s)) with
  |some v=>some (.ret v)
  |none=>match endCell cf.fn (some (.done x s)) with
   |some (t,x)=>bif aM x then some (.pM t x) else none
   |none=>none
 |c::cs'=>match x with
  | .normal=>match dy s c.sl c.aU with
    |some bH=>bif C5 c.n (Je bH c.m c.n) bH&&ql c.aU then some (.back (Je bH c.m c.n)) else none
    |none=>none
  |x=>(Jj P cf G n cs' (.k x c.ks) s).map bs.gJ
def afX (cf:h4) (ks:List fe):Option Nat:=(cf.Vo.find? λp=>Nat.beq p.1 (N' ks)).map (·.2)
def Ox (P:aQ) [Lib P] (cf:h4) (G:iX) (n:Nat) (cs:List iE) (body:Code) (s:b6) (ks:List fe):Option bs:=
 match afX cf ks with
 |some m=>Jj P cf G n cs (.k .normal (.sb body m::ks)) s
 |none=>match afO cf body ks s n with
 |some (pd,n4,vs)=>match dy s pd n4 with
  |some bH=>bif C5 n vs bH&&ql n4 then (qz P cf G (n+vs.length) (⟨pd,n4,n,vs.length,ks⟩::cs) (.k .normal [.l5 body]) pd n4).map (bs.loop vs vs.length) else none
  |none=>none
 |none=>none
def VI (n:Nat):List Nat->aT->Option aT
 |[],sl=>some sl
 |t::r,sl=>match b4.set (aj n) depth sl t with
  |some dT=>VI (n+1) r dT
  |none=>none
def afY (cf:h4) (c:Operand) (x y:Code) (s:b6) (n:Nat):Option (aT×List bM×Nat):=match c with
 | .tmp t=>match cf.Fs.find? λp=>Nat.beq p.1 t with
   |some (_,ext)=>match Jd (.seq x y) 0 1 ((zm n s).1.Jb (N8 (ea .nil s.sl c) cL)) n with
    |none=>none
    |some (sl,vs)=>match VI (n+vs.length) ext sl with
     |none=>none
     |some dM=>some (dM,(Fx (1000+t) cf.cells 0 (n+vs.length+ext.length) (zm n s).2).1,vs.length+ext.length+(Fx (1000+t) cf.cells 0 (n+vs.length+ext.length) (zm n s).2).2.length)
   |none=>none
 |_=>none
def j5 (n:Nat) (v u:U) (s:b6):aT×List bM:=((zm n s).1.Jb (N8 v u),(zm n s).2.map (afM v u))
def Oy (a b:List Nat):Bool:=decide (a=b)
def jx:bs->bs->Bool
 | .o f r m h k,.o iC dY m' eW k'=>B' f iC&&(fj r dY&&(Nat.beq m m'&&(Oy h eW&&jx k k')))
 | .s f h cV df,.s iC eW tZ xG=>B' f iC&&(Oy h eW&&(jx cV tZ&&jx df xG))
 | .c f a r m k,.c iC aS dY m' k'=>Nat.beq f iC&&(nu a aS&&(fj r dY&&(Nat.beq m m'&&jx k k')))
 | .cs f a cV df,.cs iC aS tZ xG=>Nat.beq f iC&&(nu a aS&&(jx cV tZ&&jx df xG))
 | .c6 x cV df,.c6 x' tZ xG=>fj x x'&&(jx cV tZ&&jx df xG)
 | .rD x cV df m k,.rD x' tZ xG m' k'=>fj x x'&&(jx cV tZ&&(jx df xG&&(Nat.beq m m'&&jx k k')))
 | .no,.no=>true
 | .oL t xs k,.oL da xs' k'=>Nat.beq t da&&(nu xs xs'&&jx k k')
 | .alt cV df,.alt tZ xG=>jx cV tZ&&jx df xG
 | .pM t x,.pM da x'=>Nat.beq t da&&fj x x'
 | .rq t s c k,.rq da e6 c' k'=>Nat.beq t da&&(fj s e6&&(nu c c'&&jx k k'))
 | .ret v,.ret aB=>fj v aB
 | .back vs,.back de=>nu vs de
 | .loop vs m k,.loop de m' k'=>nu vs de&&(Nat.beq m m'&&jx k k')
 | .gJ k,.gJ k'=>jx k k'
 | .st t p x k,.st da p' x' k'=>Nat.beq t da&&(fj p p'&&(fj x x'&&jx k k'))
 | .uR t s c k,.uR da e6 c' k'=>Nat.beq t da&&(fj s e6&&(nu c c'&&jx k k'))
 | .uS t s x k,.uS da e6 x' k'=>Nat.beq t da&&(fj s e6&&(fj x x'&&jx k k'))
 | .mk t x k,.mk da x' k'=>Nat.beq t da&&(fj x x'&&jx k k')
 | .sz c m d k,.sz c' m' nr k'=>nu c c'&&(Nat.beq m m'&&(Nat.beq d nr&&jx k k'))
 | .lt t x k,.lt da x' k'=>Nat.beq t da&&(fj x x'&&jx k k')
 | .pc t x k,.pc da x' k'=>Nat.beq t da&&(fj x x'&&jx k k')
 | .nE t k,.nE da k'=>Nat.beq t da&&jx k k'
 | .zj t k,.zj da k'=>Nat.beq t da&&jx k k'
 | .zk t m i x k,.zk da m' q3 x' k'=>Nat.beq t da&&(fj m m'&&(fj i q3&&(fj x x'&&jx k k')))
 | .call f a r m k,.call iC aS dY m' k'=>Nat.beq f iC&&(nu a aS&&(fj r dY&&(Nat.beq m m'&&jx k k')))
 |_,_=>false
def FC (x:bs):bs->Bool
 | .alt a b=>jx x a||FC x b
 |t=>jx x t
def Jk:List (Option bs)->Option bs
 |[]=>none
 |[a]=>a
 |a::r=>match a,Jk r with
  |some x,some y=>bif FC x y then some y else some (.alt x y)
  |_,_=>none
def FD (G:iX) (n:Nat) (cs:List iE) (dK:iI) (F:jF) (T:jN) (sl:aT) (aU:List bM):Option bs:=Fz G n cs dK F T sl aU λ_ _ _=>none
def Jl (G:iX) (n:Nat) (cs:List iE) (dK:iI) (F:jF) (T:jN) (s:b6):Option bs:=bif zn s then FD G n cs dK F T s.sl (zl s) else none
def Oz (N:Nat) (os:Array Oper) (sl:aT) (o:Oper):Option Bool:=
 match o.guard with
 |none=>some true
 |some (j,b)=>match fl os j with
  |some t=>bif Nat.blt t N then match sl.get t with
   |some (.bool b')=>some (b==b')
   |_=>none else none
  |none=>none
def OA (P:aQ) [dX P] (a':Operand->U) (o:Oper):Option U:=
 match o.op with
 | .pick c x y=>match a' c with
   | .bool b=>some (bif b then a' x else a' y)
   |_=>none
 | .extract t i=>DS (a' t) i
 | .move _| .assign _| .binOp .. | .unOp .. | .fieldAddr .. | .indexAddr .. =>w8 P a' o
 | .call c=>match c.callee with
   | .builtin _=>match qd a' o with
     |some f=>bif B_ f then ti P a' o else none
     |none=>none
   |_=>none
 | .nilCheck _=>ti P a' o
 |_=>none
def C7 (o:Oper):Bool:=match o.op with| .call c=>(match c.callee with| .builtin _=>true|_=>false)|_=>true
def Jm (P:aQ) [dX P] (N:Nat) (os:Array Oper) (l:Array Bool) (sl:aT) (i:Nat):Option aT:=
 match os[i]? with
 |some o=>match Oz N os sl o with
  |some true=>match OA P (ea .nil sl) o with
   |some v=>bif Region.free .any os l i then gy N sl o.dst v else none
   |none=>none
  |some false=>bif C7 o&&Region.free .any os l i then gy N sl o.dst undef else none
  |none=>none
 |none=>none
def FE (P:aQ) [dX P] (N:Nat) (os:Array Oper) (l:Array Bool) (sl:aT):List Nat->Option (Nat×aT)
 |[]=>none
 |i::r=>match Jm P N os l sl i with
  |some eu=>some (i,eu)
  |none=>FE P N os l sl r
def C8 (P:aQ) [dX P] (N:Nat) (os:Array Oper):Nat->Array Bool->aT->Nat×Array Bool×aT
 |0,l,sl=>(0,l,sl)
 |f+1,l,sl=>match FE P N os l sl (Region.ready .any os l) with
  |some (i,eu)=>C8 P N os f (l.setIfInBounds i true) eu
  |none=>(f+1,l,sl)
def anyOp (P:aQ) [Lib P] (cf:h4) (G:iX) (n:Nat) (cs:List iE) (bb:Nat) (os:Array Oper) (listed:Array Bool) (ks:List fe) (s:b6) (F:jF) (T:jN) (i:Nat):Option bs:=
 match os[i]? with
 |none=>none
 |some o=>match @vH P _ ⟨F⟩ (@r_ P _ ⟨F⟩ ⟨T⟩ .nil 1000 cf.d) .nil cf.N os o s.sl s.A with
  |some (eu,bt)=>Jl G n cs (.any bb os (listed.setIfInBounds i true) ks) F T {s with sl:=eu,A:=bt}
  |none=>match Jf P cf n (some (.oper o [] os s [])) with
   |some (oy,dT,VJ,m)=>(FD G (n+m) cs (.any bb os (listed.setIfInBounds i true) ks) (Ft cf.marks) [] dT VJ).map oy
   |none=>none
def OB (P:aQ) [Lib P] (cf:h4) (G:iX) (n:Nat) (cs:List iE) (bb:Nat) (os:Array Oper) (listed:Array Bool) (ks:List fe) (sl:aT) (aU:List bM) (F:jF) (T:jN):Option bs:=
 match Region.ready .any os listed with
 |[]=>qz P cf G n cs (.k .normal ks) sl aU
 |q8=>match bb with
  |0=>none
  |bb+1=>match @FE P ⟨F⟩ cf.N os listed sl q8 with
   |some (i,eu)=>bif Region.noSelect os then
     (let q:= @C8 P ⟨F⟩ cf.N os bb (listed.setIfInBounds i true) eu
     FD G n cs (.any q.1 os q.2.1 ks) F T q.2.2 aU) else none
   |none=>Jk (q8.map (anyOp P cf G n cs bb os listed ks (db sl aU) F T))
def OC (P:aQ) [Lib P] (cf:h4) (G:iX) (n:Nat) (cs:List iE) (v:U) (s:b6) (x y:Code) (ks:List fe) (pd:aT) (n4:List bM) (m:Nat):Option bs:=
 bif tD n v (.bool true) s (j5 n v (.bool true) s).1 (j5 n v (.bool true) s).2&&tD n v (.bool false) s (j5 n v (.bool false) s).1 (j5 n v (.bool false) s).2 then
  match qz P cf G n (⟨pd,n4,n,m,ks⟩::cs) (.k .normal [.l5 x]) (j5 n v (.bool true) s).1 (j5 n v (.bool true) s).2 with
  |some cV=>match qz P cf G n (⟨pd,n4,n,m,ks⟩::cs) (.k .normal [.l5 y]) (j5 n v (.bool false) s).1 (j5 n v (.bool false) s).2 with
   |some df=>(qz P cf G (n+m) cs (.k .normal ks) pd n4).map (bs.rD v cV df m)
   |none=>none
  |none=>none
 else none
def afZ (cf:h4) (v:U):Option Bool:=(cf.qq.find? λp=>fj v (aj p.1)).map (·.2)
def FF (P:aQ) [Lib P] (cf:h4) (G:iX) (n:Nat) (cs:List iE) (v:U) (s:b6) (j6 kU:iI):Option bs:=match afZ cf v with
 |some b=>bif tD n v (.bool b) s (j5 n v (.bool b) s).1 (j5 n v (.bool b) s).2 then (qz P cf G n cs (bif b then j6 else kU) (j5 n v (.bool b) s).1 (j5 n v (.bool b) s).2).map λk=>bif b then .c6 v k .no else .c6 v .no k else none
 |none=>bif tD n v (.bool true) s (j5 n v (.bool true) s).1 (j5 n v (.bool true) s).2&&tD n v (.bool false) s (j5 n v (.bool false) s).1 (j5 n v (.bool false) s).2 then
  two (qz P cf G n cs j6 (j5 n v (.bool true) s).1 (j5 n v (.bool true) s).2) (qz P cf G n cs kU (j5 n v (.bool false) s).1 (j5 n v (.bool false) s).2) (bs.c6 v)
 else none
def OD (P:aQ) [Lib P] (cf:h4) (G:iX) (n:Nat) (cs:List iE) (o:Option bP):Option bs:=match Jf P cf n o with
 |some (oy,sl,aU,m)=>(qz P cf G (n+m) cs (Vz o) sl aU).map oy
 |none=>none
def OE (P:aQ) [Lib P] (cf:h4) (G:iX) (n:Nat) (cs:List iE) (OF:Option U) (F:jF) (T:jN):Option bP->Option bs
 |some (.draw id os s ks)=>match OF with
  |some v=>FF P cf G n cs v s (.k .normal (.l5 (.region id os true)::ks)) (.k .normal (.l5 (.region id os true)::ks))
  |none=>Jl G n cs (.any os.size os (Array.replicate os.size false) ks) F T s
 |some (.done x s)=>Ow P cf G n cs x s
 |some (.loop body s ks)=>Ox P cf G n cs body s ks
 |some (.cond c x y s ks)=>bif aM (ea .nil s.sl c) then match afY cf c x y s n with
  |some (pd,n4,m)=>OC P cf G n cs (ea .nil s.sl c) s x y ks pd n4 m
  |none=>FF P cf G n cs (ea .nil s.sl c) s (.k .normal (.l5 x::ks)) (.k .normal (.l5 y::ks)) else none
 |some (.oper op r os s ks)=>match VA (some (.oper op r os s ks)) with
  |some v=>FF P cf G n cs v s (.ops (op::r) os ks) (.ops (op::r) os ks)
  |none=>match On n (some (.oper op r os s ks)) with
   |some (oy,sl,aU,m)=>(qz P cf G (n+m) cs (.ops (op::r) os ks) sl aU).map oy
   |none=>OD P cf G n cs (some (.oper op r os s ks))
 |_=>none
def FG (d:Tmp):Operand->Bool
 | .tmp t=>Nat.beq t d
 |_=>false
def OG (ops:Array Oper):Nat->Option Tmp->Bool
 |0,_=>false
 |_,none=>false
 |k+1,some d=>N4 ops (some d)||ops.any λo=>(match o.op with
   | .move x| .assign x=>FG d x
   | .pick c x y=>FG d c||(FG d x||FG d y)
   | .unOp _ _ x=>FG d x
   |_=>false)&&OG ops k o.dst
def VK (P:aQ) (ops:Array Oper) (o:Oper):Sum (fH×U×Nat×Bool) (FuncId×List U×U×Nat×Bool)->Sum (fH×U×Nat×Bool) (FuncId×List U×U×Nat×Bool)
 | .inl (f,r,m,b)=> .inl (f,r,m,b||((match Vr P 0 f with|some (_,_,b')=>b'|none=>false)&&OG ops 8 o.dst))
 | .inr (f,a,r,m,b)=> .inr (f,a,r,m,b||(Fv P o.type&&OG ops 8 o.dst))
def OH (P:aQ) [Lib P] (cf:h4) (F:jF) (T:jN) (n:Nat) (os:Array Oper) (s:b6):List Oper->aT->aW->Option (Sum (fH×U×Nat×Bool) (FuncId×List U×U×Nat×Bool))×Option U
 |[],_,_=>(none,none)
 |o::r,sl,A=>match @vH P _ ⟨F⟩ (@r_ P _ ⟨F⟩ ⟨T⟩ .nil 1000 cf.d) .nil cf.N os o sl A with
  |some (eu,bt)=>OH P cf F T n os s r eu bt
  |none=>match Oo P cf n (some (.oper o r os {s with sl:=sl,A:=A} [])) with
   |some x=>(some (VK P os o x),none)
   |none=>match VA (some (.oper o r os {s with sl:=sl,A:=A} [])) with
    |some v=>(none,some v)
    |none=>OH P cf F T n os s r sl A
def VL (P:aQ) [Lib P] (cf:h4) (F:jF) (T:jN) (n:Nat):Option bP->Option (Sum (fH×U×Nat×Bool) (FuncId×List U×U×Nat×Bool))×Option U
 |some (.draw _ os s _)=>OH P cf F T n os s os.toList s.sl s.A
 |_=>(none,none)
def OI (P:aQ) [Lib P] (cf:h4) (G:iX) (n:Nat) (cs:List iE) (dK:iI) (dt:Nat) (sl:aT) (aU:List bM) (F:jF) (T:jN) (o:Option bP):Option bs:=
 match Oo P cf n o with
 |some (.inl x)=>FA P G n cs dK dt sl aU F T (λOJ=>VB P cf (F++OJ) T o) x
 |some (.inr x)=>FB G n cs dK dt sl aU F T (λOK=>VB P cf F (T++OK) o) x
 |none=>match (VL P cf F T n (dK.run P F T cf.N cf.d (db sl aU))).1 with
  |some (.inl x)=>FA P G n cs dK dt sl aU F T (λOJ=>dK.run P (F++OJ) T cf.N cf.d (db sl aU)) x
  |some (.inr x)=>FB G n cs dK dt sl aU F T (λOK=>dK.run P F (T++OK) cf.N cf.d (db sl aU)) x
  |none=>OE P cf G n cs (VL P cf F T n (dK.run P F T cf.N cf.d (db sl aU))).2 F T (dK.run P F T cf.N cf.d (db sl aU))
def af0 (P:aQ) [Lib P] (cf:h4) (F:jF) (T:jN) (n:Nat) (os:Array Oper) (listed:Array Bool) (s:b6):Option (Sum (fH×U×Nat×Bool) (FuncId×List U×U×Nat×Bool)):=
 (Region.ready .any os listed).findSome? λi=>match os[i]? with
   |none=>none
   |some o=>match @vH P _ ⟨F⟩ (@r_ P _ ⟨F⟩ ⟨T⟩ .nil 1000 cf.d) .nil cf.N os o s.sl s.A with
    |some _=>none
    |none=>(Oo P cf n (some (.oper o [] os s []))).map (VK P os o)
def OL (P:aQ) [Lib P] (cf:h4) (G:iX) (n:Nat) (cs:List iE) (dK:iI) (dt:Nat) (sl:aT) (aU:List bM) (F:jF) (T:jN) (o:Option bP):Option bs:=
 match dK with
 | .any bb os listed ks=>match af0 P cf F T n os listed (db sl aU) with
   |some (.inl x)=>FA P G n cs dK dt sl aU F T (λ_=>none) x
   |some (.inr x)=>FB G n cs dK dt sl aU F T (λ_=>none) x
   |none=>OB P cf G n cs bb os listed ks sl aU F T
 |_=>OI P cf G n cs dK dt sl aU F T o
def gen (P:aQ) [Lib P] (cf:h4):Nat->iX
 |0=>λ_ _ _ _ _ _ _ _ _=>none
 |bb+1=>OL P cf (gen P cf bb)
def fJ (P:aQ) [Lib P] (f:FuncId) (h:Ba) (args:List U) (n:Nat):Option bs:=
 match P.funcs[f]? with
 |some fn=>match fn.body with
  |some c=>match setArgs 0 args .nil with
   |some sl=>
    let cf:h4:=⟨h,args.length+(fn.ntmps-args.length),fn⟩
    bif dW args then qz P cf (gen P cf 10000) n [] (.k .normal [.l5 c]) sl [] else none
   |none=>none
  |none=>none
 |none=>none
end AE
namespace AE
variable {P:aQ}
def uV.{u} {α:Type u}:List α->List Nat->List α->List α
 |L,i::is,R::iM=>uV (L.set i R) is iM
 |L,_,_=>L
theorem VM:∀(is:List Nat) (L iM:List (aF P)),b3 (uV L is iM)=la (b3 L) is (b3 iM)
 |[],L,iM=>by unfold uV la;cases iM<;>rfl
 |i::is,L,[]=>by unfold uV la;rfl
 |i::is,L,R::iM=>by
  unfold uV;rw[VM is];show la (b3 (L.set i R)) is (b3 iM)=la ((b3 L).set i R.res) is (b3 iM);rw[show b3 (L.set i R)=(b3 L).set i R.res from List.map_set]
structure kV (W:au) (ax:List ca) (ro:List (iy P)) (L:List (aF P)) (w:au):Prop where
 own:b_ (aG w) (b3 L)
 ro:fB ro (aG w)
 ext:pb (aG W) ax (aG w)
abbrev eK (P:aQ):=List U->List (aF P)->Prop
def lf (B:Nat) (W:au) (ax:List ca) (L L':List (aF P)):Prop:=∀M,bW B (aG W) ax M (b3 L)->bW B (aG W) ax M (b3 L')
theorem lf.refl {B:Nat} {W:au} {ax:List ca} (L:List (aF P)):lf B W ax L L:=λ_ h=>h
inductive dd (B:Nat) (W:au) (ax:List ca) (ro:List (iy P)) (post:U->List (aF P)->Prop):Nat->List U->List (aF P)->List (eK P)->bs->Prop
 |o {n:Nat} {env:List U} {L:List (aF P)} {aL:List (eK P)} {f:fH} {r:U} {m:Nat} {ai:List Nat} {k:bs} (vs:List U) (hm:vs.length=m) (h1:eV vs)
   (aP:∀M,bW B (aG W) ax M (b3 L)->fB ro M-> @aR (cA M (vs.reverse++env)) P (f,r)) (h:dd B W ax ro post (n+m) (vs.reverse++env) L aL k):dd B W ax ro post n env L aL (.o f r m ai k)
 |s {n:Nat} {env:List U} {L:List (aF P)} {aL:List (eK P)} {f:fH} {ai:List Nat} {cV df:bs} (b:Bool) (aP:∀M,bW B (aG W) ax M (b3 L)->fB ro M-> @aR (cA M env) P (f,.bool b))
   (h1:b=true->dd B W ax ro post n env L aL cV) (ae:b=false->dd B W ax ro post n env L aL df):dd B W ax ro post n env L aL (.s f ai cV df)
 |c {n:Nat} {env:List U} {L:List (aF P)} {aL:List (eK P)} {f:FuncId} {args:List U} {r:U} {m:Nat} {k:bs} (vs:List U) (hm:vs.length=m) (h1:eV vs)
   (al:∀w,kV W ax ro L w->Calls P f ⟨fU env n args⟩ w λe w'=>e= .returned (ex (vs.reverse++env) (n+m) r)/\ch w.heap.size w w') (h:dd B W ax ro post (n+m) (vs.reverse++env) L aL k):dd B W ax ro post n env L aL (.c f args r m k)
 |cs {n:Nat} {env:List U} {L:List (aF P)} {aL:List (eK P)} {f:FuncId} {args:List U} {cV df:bs} (b:Bool) (al:∀w,kV W ax ro L w->Calls P f ⟨fU env n args⟩ w λe w'=>e= .returned (.bool b)/\ch w.heap.size w w')
   (h1:b=true->dd B W ax ro post n env L aL cV) (ae:b=false->dd B W ax ro post n env L aL df):dd B W ax ro post n env L aL (.cs f args cV df)
 |c6 {n:Nat} {env:List U} {L:List (aF P)} {aL:List (eK P)} {x:U} {cV df:bs} (b:Bool) (ak:ex env n x= .bool b)
   (h1:b=true->dd B W ax ro post n env L aL cV) (ae:b=false->dd B W ax ro post n env L aL df):dd B W ax ro post n env L aL (.c6 x cV df)
 |rD {n:Nat} {env:List U} {L:List (aF P)} {aL:List (eK P)} {x:U} {cV df:bs} {m:Nat} {k:bs} (b:Bool) (ak:ex env n x= .bool b) (dQ:Type) (a':dQ->List U) (bX:dQ->List (aF P)) (eU:dQ->Prop) (hm:∀u,(a' u).length=m) (ho:∀u,eV (a' u))
   (h1:b=true->dd B W ax ro post n env L ((λde L'=>∃u',eU u'/\de=a' u'/\lf B W ax L' (bX u'))::aL) cV) (ae:b=false->dd B W ax ro post n env L ((λde L'=>∃u',eU u'/\de=a' u'/\lf B W ax L' (bX u'))::aL) df)
   (h:∀u,eU u->dd B W ax ro post (n+m) ((a' u).reverse++env) (bX u) aL k):dd B W ax ro post n env L aL (.rD x cV df m k)
 |ret {n:Nat} {env:List U} {L:List (aF P)} {aL:List (eK P)} {v:U} (L':List (aF P)) (hL:lf B W ax L L') (h:post (ex env n v) L'):dd B W ax ro post n env L aL (.ret v)
 |back {n:Nat} {env:List U} {L:List (aF P)} {wc:eK P} {aL:List (eK P)} {vs:List U} (h:wc (fU env n vs) L):dd B W ax ro post n env L (wc::aL) (.back vs)
 |gJ {n:Nat} {env:List U} {L:List (aF P)} {wc:eK P} {aL:List (eK P)} {k:bs} (h:dd B W ax ro post n env L aL k):dd B W ax ro post n env L (wc::aL) (.gJ k)
 |loop {n:Nat} {env:List U} {L:List (aF P)} {aL:List (eK P)} {vs:List U} {m:Nat} {k:bs} (dQ:Type) (a':dQ->List U) (bX:dQ->List (aF P)) (eU:dQ->Prop) (gI:dQ->Nat) (iR:dQ)
   (hm:∀u,(a' u).length=m) (h1:∀u,eV (a' u)) (aJ:fU env n vs=a' iR) (hL:lf B W ax L (bX iR)) (bn:eU iR)
   (h:∀u,eU u->dd B W ax ro post (n+m) ((a' u).reverse++env) (bX u) ((λde L'=>∃u',eU u'/\gI u'<gI u/\de=a' u'/\lf B W ax L' (bX u'))::aL) k):dd B W ax ro post n env L aL (.loop vs m k)
 |OM {n:Nat} {env:List U} {L:List (aF P)} {aL:List (eK P)} {t:aH} {p x:U} {k:bs} (i:Nat) {g:Nat} {ty:aH} {cs:List U} {j:Nat} {u:U} (hL:L[i]? =some (.box g ty cs)) (hp:ex env n p= .pointer (some ⟨g,j,none⟩)) (ak:ex env n x=u) (hj:j<cs.length)
   (hu:u.cells= #[u]) (h1:u.oneCell'=true) (cb:a7 P (sizeOf t)=some 1) (h:dd B W ax ro post n env (L.set i (.box g ty (cs.set j u))) aL k):dd B W ax ro post n env L aL (.st t p x k)
 |VN {n:Nat} {env:List U} {L:List (aF P)} {aL:List (eK P)} {t:aH} {p x:U} {k:bs} (i:Nat) {g:Nat} {ty:aH} {cs:List U} {j m:Nat} {us:List U} (hL:L[i]? =some (.box g ty cs)) (hp:ex env n p= .pointer (some ⟨g,j,none⟩)) (ak:ex env n x= .agg ⟨us⟩) (hj:j+m<=cs.length)
   (hu:us.length=m) (h1:∀u∈us,u.oneCell'=true) (cb:a7 P (sizeOf t)=some m) (h:dd B W ax ro post n env (L.set i (.box g ty (cs.take j++us++cs.drop (j+m)))) aL k):dd B W ax ro post n env L aL (.st t p x k)
 |VO {n:Nat} {env:List U} {L:List (aF P)} {aL:List (eK P)} {t:aH} {p x:U} {k:bs} (d:Nat) {K:hP P} {v:U} {l:List K.α} (i j:Nat) (y:K.α) {u:U} (hL:L[d]? =some (.arr K v l)) (hp:ex env n p=iS v (i*K.k+j)) (af:i<l.length) (ak:ex env n x=u) (hj:j<K.k)
   (hu:u.cells= #[u]) (h1:u.oneCell'=true) (bg:∀z,l[i]? =some z->K.enc y=(K.enc z).set j u) (cb:a7 P (sizeOf t)=some 1) (h:dd B W ax ro post n env (L.set d (.arr K v (l.set i y))) aL k):dd B W ax ro post n env L aL (.st t p x k)
 |af1 {n:Nat} {env:List U} {L:List (aF P)} {aL:List (eK P)} {t:aH} {p x:U} {k:bs} (d:Nat) {K:hP P} {v:U} {l:List K.α} (i:Nat) (y:K.α) (hL:L[d]? =some (.arr K v l)) (hp:ex env n p=iS v (i*K.k)) (af:i<l.length) (ak:ex env n x= .agg ⟨K.enc y⟩)
   (cb:a7 P (sizeOf t)=some K.k) (h:dd B W ax ro post n env (L.set d (.arr K v (l.set i y))) aL k):dd B W ax ro post n env L aL (.st t p x k)
 |VP {n:Nat} {env:List U} {L:List (aF P)} {aL:List (eK P)} {t:aH} {s:U} {c:List U} {k:bs} (d:Nat) {K:hP P} {v:U} {l:List K.α} (lx:List K.α) (hL:L[d]? =some (.arr K v l)) (av:ex env n s=v) (ak:fU env n c=lx.flatMap K.enc) (aI:P.underlying t=some (.slice K.e))
   (ie:l.length+lx.length<=maxLen) (ad:(l.length+lx.length)*K.bytes<=140737488355328) (h:∀a c,dd B W ax ro post (n+1) (.slice a (l++lx).length c::env) (L.set d (.arr K (.slice a (l++lx).length c) (l++lx))) aL k):dd B W ax ro post n env L aL (.uR t s c k)
 |af2 {n:Nat} {env:List U} {L:List (aF P)} {aL:List (eK P)} {t:aH} {s:U} {c:List U} {k:bs} (d:Nat) {K:hP P} {v:U} {l:List K.α} (lx:List K.α) (hL:L[d]? =some (.jh K v l)) (av:ex env n s=v) (ak:fU env n c=lx.flatMap K.enc) (aI:P.underlying t=some (.slice K.e))
   (ie:l.length+lx.length<=maxLen) (ad:(l.length+lx.length)*K.bytes<=140737488355328) (h:∀a c,dd B W ax ro post (n+1) (.slice a (l++lx).length c::env) (L.set d (.jh K (.slice a (l++lx).length c) (l++lx))) aL k):dd B W ax ro post n env L aL (.uR t s c k)
 |af3 {n:Nat} {env:List U} {L:List (aF P)} {aL:List (eK P)} {t:aH} {s x:U} {k:bs} (d:Nat) {K:hP P} {v:U} {l:List K.α} (ji:U) (lx:List K.α) (hL:L[d]? =some (.arr K v l)) (av:ex env n s=v) (ak:ex env n x=ji) (aI:P.underlying t=some (.slice K.e))
   (iU:∀M,bW B (aG W) ax M (b3 L)->fB ro M->b7 M K.k K.enc ji lx)
   (ie:l.length+lx.length<=maxLen) (ad:(l.length+lx.length)*K.bytes<=140737488355328) (h:∀a c,dd B W ax ro post (n+1) (.slice a (l++lx).length c::env) (L.set d (.arr K (.slice a (l++lx).length c) (l++lx))) aL k):dd B W ax ro post n env L aL (.uS t s x k)
 |VQ {n:Nat} {env:List U} {L:List (aF P)} {aL:List (eK P)} {t:aH} {s x:U} {k:bs} (d:Nat) {K:hP P} {v:U} {l:List K.α} (ji:U) (lx:List K.α) (hL:L[d]? =some (.jh K v l)) (av:ex env n s=v) (ak:ex env n x=ji) (aI:P.underlying t=some (.slice K.e))
   (iU:∀M,bW B (aG W) ax M (b3 L)->fB ro M->b7 M K.k K.enc ji lx)
   (ie:l.length+lx.length<=maxLen) (ad:(l.length+lx.length)*K.bytes<=140737488355328) (h:∀a c,dd B W ax ro post (n+1) (.slice a (l++lx).length c::env) (L.set d (.jh K (.slice a (l++lx).length c) (l++lx))) aL k):dd B W ax ro post n env L aL (.uS t s x k)
 |mk {n:Nat} {env:List U} {L:List (aF P)} {aL:List (eK P)} {t:aH} {x:U} {k:bs} (K:hP P) (z:K.α) (m:Nat) (aI:P.underlying t=some (.slice K.e)) (bG:∃i v,P.info? K.e=some i/\i.zero=some v/\i.size=K.k/\i.bytes=K.bytes/\v.cells.toList=K.enc z) (ak:ex env n x= .int .i64 (m:Nat)) (ie:m<=1000000) (ad:m*K.bytes<=140737488355328) (al:m*K.k<=16777216)
   (h:∀a c,dd B W ax ro post (n+1) (.slice a (List.replicate m z).length c::env) (L++[.arr K (.slice a (List.replicate m z).length c) (List.replicate m z)]) aL k):dd B W ax ro post n env L aL (.mk t x k)
 |lt {n:Nat} {env:List U} {L:List (aF P)} {aL:List (eK P)} {t:aH} {x:U} {k:bs} (K:hP P) (y:K.α) {u:U} (aI:P.underlying t=some (.slice K.e)) (bG:∃z,a7 P (zeroValue K.e)=some z) (ag:K.k<=1000) (ak:ex env n x=u) (hu:u.cells=⟨K.enc y⟩)
   (h:∀a c,dd B W ax ro post (n+1) (.slice a [y].length c::env) (L++[.arr K (.slice a [y].length c) [y]]) aL k):dd B W ax ro post n env L aL (.lt t x k)
 |oL {n:Nat} {env:List U} {L:List (aF P)} {aL:List (eK P)} {t:aH} {xs:List U} {k:bs} (K:hP P) (l:List K.α) {us:List U} (aI:P.underlying t=some (.slice K.e)) (bG:∃z,a7 P (zeroValue K.e)=some z) (ag:K.k<=1000) (ak:fU env n xs=us) (hu:us.map Value.cells=l.map λy=>⟨K.enc y⟩)
   (h:∀a c,dd B W ax ro post (n+1) (.slice a l.length c::env) (L++[.arr K (.slice a l.length c) l]) aL k):dd B W ax ro post n env L aL (.oL t xs k)
 |alt {n:Nat} {env:List U} {L:List (aF P)} {aL:List (eK P)} {cV df:bs} (h1:dd B W ax ro post n env L aL cV) (ae:dd B W ax ro post n env L aL df):dd B W ax ro post n env L aL (.alt cV df)
 |pM {n:Nat} {env:List U} {L:List (aF P)} {aL:List (eK P)} {t:aH} {x:U} (i:Nat) {g:Nat} {ty:aH} {cs:List U} (hL:L[i]? =some (.box g ty cs)) (ak:ex env n x= .pointer (some ⟨g,0,none⟩)) (ha:a7 P (isAgg t)=some true) (av:a7 P (sizeOf t)=some cs.length)
   (aC:aM (.agg ⟨cs⟩)=true) (af:∀f',@aK f' (.agg ⟨cs⟩)= .agg ⟨cs⟩) (L':List (aF P)) (eb:lf B W ax L L') (h:post (.agg ⟨cs⟩) L'):dd B W ax ro post n env L aL (.pM t x)
 |rq {n:Nat} {env:List U} {L:List (aF P)} {aL:List (eK P)} {t:aH} {s:U} {c:List U} {k:bs} (i:Nat) {g:Nat} {ty e:aH} {cs us:List U} {j m vB:Nat} (hL:L[i]? =some (.box g ty cs)) (av:ex env n s= .slice (some ⟨g,j,none⟩) m vB) (ak:fU env n c=us) (aI:P.underlying t=some (.slice e)) (bG:(P.info? e).map (·.size)=some 1)
   (aJ:0<us.length) (hm:us.length<=m) (h1:∀u∈us,u.oneCell'=true) (hj:j+us.length<=cs.length) (h:dd B W ax ro post n env (L.set i (.box g ty (cs.take j++us++cs.drop (j+us.length)))) aL k):dd B W ax ro post n env L aL (.rq t s c k)
 |sz {n:Nat} {env:List U} {L:List (aF P)} {aL:List (eK P)} {c:List U} {m cap:Nat} {k:bs} (K:hP P) (xs:List K.α) (ak:fU env n c=xs.flatMap K.enc) (hm:xs.length=m)
   (h:∀g,dd B W ax ro post (n+1) (.slice (some ⟨g,0,none⟩) m cap::env) (L++[.red K (.slice (some ⟨g,0,none⟩) m cap) xs]) aL k):dd B W ax ro post n env L aL (.sz c m cap k)
 |pc {n:Nat} {env:List U} {L:List (aF P)} {aL:List (eK P)} {t:aH} {x:U} {k:bs} {u:U} {cs:List U} (ak:ex env n x=u) (hu:u.cells=⟨cs⟩) (h:∀g,dd B W ax ro post (n+1) (.pointer (some ⟨g,0,none⟩)::env) (L++[.box g t cs]) aL k):dd B W ax ro post n env L aL (.pc t x k)
 |nE {n:Nat} {env:List U} {L:List (aF P)} {aL:List (eK P)} {t:aH} {k:bs} {z:U} {cs:List U} (bG:a7 P (zeroValue t)=some z) (hu:z.cells=⟨cs⟩) (h:∀g,dd B W ax ro post (n+1) (.pointer (some ⟨g,0,none⟩)::env) (L++[.box g t cs]) aL k):dd B W ax ro post n env L aL (.nE t k)
 |zj {n:Nat} {env:List U} {L:List (aF P)} {aL:List (eK P)} {t:aH} {k:bs} (h:∀g,dd B W ax ro post (n+1) (.map (some g)::env) (L++[.any (sx g [])]) aL k):dd B W ax ro post n env L aL (.zj t k)
 |zk {n:Nat} {env:List U} {L:List (aF P)} {aL:List (eK P)} {t eR uG:aH} {m i x FH jT:U} {k:bs} (d:Nat) {g:Nat} {es:List (U×U)} {K:U->Prop} (b0:I8 P eR K) (aI:a7 P (underlying t)=some (.map eR uG)) (hL:L[d]? =some (.any (sx g es)))
   (hm:ex env n m= .map (some g)) (af:ex env n i=FH) (ak:ex env n x=jT) (ag:K FH) (aP:I9 K es FH) (h:dd B W ax ro post n env (L.set d (.any (sx g (es++[(FH,jT)])))) aL k):dd B W ax ro post n env L aL (.zk t m i x k)
 |call {n:Nat} {env:List U} {L:List (aF P)} {aL:List (eK P)} {f:FuncId} {args:List U} {r:U} {m:Nat} {k:bs} (Y:Type) (is:List Nat) (ij:jU L.length is=true) (vs:Y->List U) (kS uW:Y->List (aF P)) (hl:∀y,(kS y).length=is.length) (hm:∀y,(vs y).length=m) (h1:∀y,eV (vs y))
   (al:∀w,kV W ax ro L w->B<=w.heap.size->b_ (aG w) (pick (b3 L) is)->Calls P f ⟨fU env n args⟩ w λe w'=>(∃y,e= .returned (ex ((vs y).reverse++env) (n+m) r)/\dp (aG w) (pick (b3 L) is) (aG w') (b3 (kS y++uW y)))/\ch 0 w w')
   (h:∀y,dd B W ax ro post (n+m) ((vs y).reverse++env) (uV L is (kS y)++uW y) aL k):dd B W ax ro post n env L aL (.call f args r m k)
theorem VR {n:Nat} {s1 s2:aY} (ha:nb n s1 s2) {p:U×U} (h:(fj p.1 p.2&&kh n p.1)=true): @aK s1 p.1= @aK s2 p.2:=by
 simp only [c0] at h;rw[<-gx _ _ h.1];exact ki ha _ h.2
theorem af4 {n:Nat} {bH:ev} (h:N6 n bH=true):nG n bH:=λp hp=>by
 have:=List.all_eq_true.1 h p hp;simp only [c0] at this;exact⟨gx _ _ this.1,this.2⟩
theorem C9 {n:Nat} {s1 s2:aY} (ha:nb n s1 s2) {bH:ev} (h:nG n bH):fm s1 s2 bH:=λp hp=>by
 obtain⟨h1,ae⟩:=h p hp;rw[<-h1];exact ki ha _ ae
theorem nG.nil (n:Nat):nG n []:=λ_ h=>by cases h
theorem pP {n:Nat} {a b:Option ev} (ha:∃o,a=some o/\nG n o) (ad:∃o,b=some o/\nG n o):∃o,both a b=some o/\nG n o:=by
 obtain⟨x,rfl,ak⟩:=ha;obtain⟨y,rfl,bg⟩:=ad;exact⟨x++y,rfl,λp hp=>(List.mem_append.1 hp).elim (ak p) (bg p)⟩
theorem af5 {m:Nat} {v:U} (h:(xg v||(aM v&&kh m v))=true):∃o,Ct v v=some o/\nG m o:=by
 unfold Ct;cases hp:xg v with
 |true=>exact⟨[],rfl,.nil m⟩
 |false=>
  rw[hp,Bool.false_or,c0] at h;rw[ei,h.1,Bool.and_self,bw];cases (fj v v&&plain v) with
  |true=>exact⟨[],rfl,.nil m⟩
  |false=>exact⟨[(v,v)],rfl,λp hp=>by rw[List.mem_singleton] at hp;subst hp;exact⟨rfl,h.2⟩⟩
mutual
theorem ON {n m:Nat}:∀v:U,okV n m v=true->∃o,uz n v v=some o/\nG m o:=by
 intro v h;unfold okV at h;split at h
 ·exact⟨[],by unfold uz;rw[h,Nat.beq_refl,Nat.beq_refl];rfl,.nil m⟩
 ·exact⟨[],by unfold uz;rw[h];simp only [Nat.beq_refl];rfl,.nil m⟩
 ·exact FI _ h
 ·rename_i f l k
  simp only [c0] at h;obtain⟨o,h1,ae⟩:=pP (FI _ h.1) (FI _ h.2);exact⟨o,by unfold uz;rw[Nat.beq_refl,bw];exact h1,ae⟩
 ·exact⟨[],by unfold uz;rw[h,Nat.beq_refl];rfl,.nil m⟩
 ·rename_i h1 ae ay bE cn
  have e:uz n v v=Ct v v:=by
   unfold uz;split
   ·exact(h1 _ _ rfl).elim
   ·exact(ae _ _ _ _ rfl).elim
   ·exact(ay _ rfl).elim
   ·exact(bE _ _ _ rfl).elim
   ·exact(cn _ rfl).elim
   ·rfl
  rw[e];exact af5 h
theorem FI {n m:Nat}:∀l:List U,Bb n m l=true->∃o,xh n l l=some o/\nG m o
 |[],_=>⟨[],rfl,.nil m⟩
 |v::r,h=>by
  unfold Bb at h;rw[c0] at h;unfold xh;exact pP (ON v h.1) (FI r h.2)
end
theorem Bf {n m:Nat}:∀t:b4 U,(∃o,sa n t (mh n m t)=some o/\nG m o)/\(∃o,sa n (mh n m t) (mh n m t)=some o/\nG m o)
 | .nil=>⟨⟨[],rfl,.nil m⟩,⟨[],rfl,.nil m⟩⟩
 | .node none l r=>by
   obtain⟨dD,ej⟩:=Bf (n:=n) (m:=m) l;obtain⟨jK,jY⟩:=Bf (n:=n) (m:=m) r;unfold mh sa;exact⟨pP ⟨[],rfl,.nil m⟩ (pP dD jK),pP ⟨[],rfl,.nil m⟩ (pP ej jY)⟩
 | .node (some v) l r=>by
   obtain⟨dD,ej⟩:=Bf (n:=n) (m:=m) l;obtain⟨jK,jY⟩:=Bf (n:=n) (m:=m) r;unfold mh;cases aC:okV n m v with
   |true=>
    rw[bw];unfold sa;exact⟨pP (ON v aC) (pP dD jK),pP (ON v aC) (pP ej jY)⟩
   |false=>
    rw[ei];unfold sa;exact⟨pP ⟨[],rfl,.nil m⟩ (pP dD jK),pP ⟨[],rfl,.nil m⟩ (pP ej jY)⟩
theorem af6 {n m:Nat} {o:p3} (h:N7 n m o=true):∃x,AJ n o o=some x/\nG m x:=by
 unfold N7 at h;split at h
 ·exact FI _ h
 ·exact⟨[],rfl,.nil m⟩
 ·exact⟨[],rfl,.nil m⟩
 ·cases h
theorem VS {n m:Nat}:∀{l:List bM},C4 n m l=true->ql l=true
 |[],_=>rfl
 |x::r,h=>by
  unfold C4 at h;rw[c0] at h;unfold ql;rw[c0];refine⟨?_,VS h.2⟩;have h1:=h.1;split
  ·rename_i fk ak
   rw[ak] at h1;cases h1
  ·rfl
theorem OO {n m:Nat} {A:aW}:∀(l:List bM) (i:Nat),C4 n m l=true->(∀j x,l[j]? =some x->∃k,A.bl.get (i+j)=some k/\k.cE=i+j/\k.ro=false/\k.eB=x.eB/\k.ty=x.ty/\k.obj=x.obj)->∃o,yW n A l i=some o/\nG m o
 |[],i,_,_=>⟨[],rfl,.nil m⟩
 |x::r,i,h,ag=>by
  unfold C4 at h;rw[c0] at h;obtain⟨k,q1,aE,b9,ey,hv,lJ⟩:=ag 0 x rfl;rw[Nat.add_zero] at q1 aE;unfold yW;rw[q1];dsimp only;rw[aE,b9,ey,hv,lJ];simp only [Nat.beq_refl,Bool.not_false,Bool.and_self,bw];exact pP (af6 h.1) (OO r (i+1) h.2 λj y hj=>by
   obtain⟨k,hi,gi⟩:=ag (j+1) y (by simpa using hj);rw[show i+(j+1)=i+1+j by omega] at hi gi
   exact⟨k,hi,gi⟩)
theorem VT {m:Nat} {aU:List bM} (h:rF m aU=true):∃o,yW aU.length (eJ aU) aU 0=some o/\nG m o:=by
 unfold rF at h;rw[c0] at h;refine OO aU 0 h.2 λj x hj=> ?_
 have b8:=(List.getElem?_eq_some_iff.1 hj).1;have:=List.all_eq_true.1 h.1 j (by simpa using b8);rw[c0] at this;have ae:=this.2;cases az:(Cx aU 0 .nil).get j with
 |none=>rw[az] at ae;cases ae
 |some k=>
  obtain⟨y,q1,aE⟩:=yV (l:=aU) (b:=j) (k:=k) az;rw[hj,cx] at q1;subst q1;subst aE;rw[Nat.zero_add];exact⟨_,az,rfl,rfl,rfl,rfl,rfl⟩
theorem VU {A:aW}:∀(m i:Nat) {j:Nat} {x:bM},(sA A m i)[j]? =some x->∃k,A.bl.get (i+j)=some k/\k.eB=x.eB/\k.ty=x.ty/\k.obj=x.obj
 |0,i,j,x,h=>by simp [sA] at h
 |m+1,i,j,x,h=>by
  unfold sA at h;split at h
  ·rename_i b ad
   cases j with
   |zero=>
    simp only [List.getElem?_cons_zero,cx] at h;subst h;unfold Vt at ad;split at ad
    ·rename_i k ag
     cases ad;exact⟨k,ag,rfl,rfl,rfl⟩
    ·cases ad
   |succ j=>
    obtain⟨k,q1,aE⟩:=VU m (i+1) (j:=j) (by simpa using h);exact⟨k,by rw[show i+(j+1)=i+1+j by omega];exact q1,aE⟩
  ·simp at h
theorem VV {A:aW}:∀(l:List bM) (i:Nat),Jc A l i=true->∀j x,l[j]? =some x->∃k,A.bl.get (i+j)=some k/\k.cE=i+j/\k.ro=false
 |[],i,_,j,x,h=>by simp at h
 |y::r,i,aP,j,x,h=>by
  unfold Jc at aP;rw[c0] at aP;cases j with
  |zero=>
   have h1:=aP.1;split at h1
   ·rename_i k ag
    simp only [c0,Bool.not_eq_true'] at h1;exact⟨k,ag,ct h1.1,h1.2⟩
   ·cases h1
  |succ j=>
   obtain⟨k,q1,aE⟩:=VV r (i+1) aP.2 j x (by simpa using h);rw[show i+(j+1)=i+1+j by omega];exact⟨k,q1,aE⟩
theorem OP {m:Nat} {s:b6} {sl:aT} {aU:List bM} (uA:s.ms=[]) (ad:rF m aU=true) (h1:∃o,sa aU.length s.sl sl=some o/\nG m o) (ae:∃o,yW aU.length s.A aU 0=some o/\nG m o):zo m s sl aU:=by
 obtain⟨o,e,ho⟩:=pP h1 ae;have dN:=ad;unfold rF at dN;rw[c0] at dN;refine⟨o,?_,ho,VS dN.2⟩;unfold dy;rw[uA];dsimp only;rw[dN.1,bw];exact e
theorem VW {m:Nat} {sl:aT} {aU:List bM} (ad:rF m aU=true):zo m (db sl aU) (mh aU.length m sl) aU:=OP rfl ad (Bf sl).1 (VT ad)
theorem af7 {m:Nat} {sl:aT} {aU:List bM} (ad:rF m aU=true):zo m (db (mh aU.length m sl) aU) (mh aU.length m sl) aU:=OP rfl ad (Bf sl).2 (VT ad)
theorem OQ {m:Nat} {s:b6} (av:zn s=true) (ad:rF m (zl s)=true):zo m s (mh (zl s).length m s.sl) (zl s):=by
 unfold zn at av;rw[c0] at av;have uA:s.ms=[]:=by
  have h1:=av.1;split at h1
  ·assumption
  ·cases h1
 refine OP uA ad (Bf s.sl).1 (OO _ 0 (by unfold rF at ad;rw[c0] at ad;exact ad.2) λj x hj=> ?_);obtain⟨k,q1,aE,b9⟩:=VV _ 0 av.2 j x hj;obtain⟨k',hi,gi,q',yI⟩:=VU _ 0 hj;rw[q1,cx] at hi;subst hi;exact⟨k,q1,aE,b9,gi,q',yI⟩
theorem af8 {n:Nat} {s1 s2:aY} (ha:nb n s1 s2) {v u:U} (aC: @aK s1 v= @aK s2 u) {bH:ev} (h:Vu n v u bH=true):fm s1 s2 bH:=λp hp=>by
 have:=List.all_eq_true.1 h p hp;rw[Bool.or_eq_true] at this;rcases this with h|h
 ·exact VR ha h
 ·simp only [c0] at h
  rw[gx _ _ h.1,gx _ _ h.2];exact aC
theorem OR {n:Nat} {M M':Mem} {mG n2 pQ us vs:List U} {bH:ev} (he:mG=n2++pQ) (aq:pQ.length=n) (ho:eV mG) (hu:eV us) (Iw:us=fU mG mG.length vs) (h:C5 n vs bH=true):fm (cA M mG) (cA M' (us.reverse++pQ)) bH:=by
 have ha:nb n (cA M mG) (cA M' (us.reverse++pQ)):=by
  subst he;have q1:=tC M M (cT:=n2) aq;have aE:=tC M M' (cT:=us.reverse) aq;exact λk ag=>(q1 k ag).symm.trans (aE k ag)
 intro p hp;have:=List.all_eq_true.1 h p hp;unfold Vx at this;rw[Bool.or_eq_true] at this;rcases this with h|h
 ·exact VR ha h
 ·obtain⟨hi,gi⟩:=p
  simp only at h ⊢;split at h
  ·rename_i k
   simp only [c0] at h;obtain⟨h1,ae,ay⟩:=h;have ag:=Nat.ble_eq.mp h1;split at ay
   ·rename_i v aC
    rw[<-gx _ _ ay,ld M ho rfl];have hlen:(us.reverse++pQ).length=us.length+n:=by simp [aq]
    have af9:eV pQ:=by
     subst he;exact I' λv aC=>C1 ho v (List.mem_append_right _ aC)
    rw[show (Value.complex .f64 k 0)=aj k from rfl,ld M' (rC (oK hu) af9) rfl];show _=bif Nat.beq 0 0 then (bif Nat.blt k eD then look (us.reverse++pQ) (us.reverse++pQ).length k else .pointer (some ⟨k-eD,0,none⟩)) else .complex .f64 k 0
    rw[show Nat.beq 0 0=true from rfl,bw,ae,bw,I_ _ _ _ rfl,List.reverse_append,List.reverse_reverse,dr,List.getElem?_append_right (by simpa [aq] using ag)];have af':us[k-n]? =some (ex mG mG.length v):=by
     rw[Iw];clear Iw;have:∀(l:List U) (i:Nat) (v:U),l[i]? =some v->(fU mG mG.length l)[i]? =some (ex mG mG.length v):=by
      intro l
      induction l with
      |nil=>intro i v h;simp at h
      |cons x r cd=>
       intro i v h;unfold fU;cases i with
       |zero=>simp only [List.getElem?_cons_zero,cx] at h ⊢;rw[h]
       |succ i=>simp only [List.getElem?_cons_succ] at h ⊢;exact cd i v h
     exact this _ _ _ aC
    rw[show pQ.reverse.length=n by simpa using aq,af'];rfl
   ·cases ay
  ·cases h
end AE
namespace AE
variable {P:aQ}
theorem OS {n:Nat} {s1 s2:aY} (ha:nb n s1 s2):∀o:Option U,rE.C3 n o=true->o.map (@aK s1)=o.map (@aK s2)
 |none,_=>rfl
 |some v,h=>congrArg some (ki ha v h)
theorem af_ {n:Nat} {s1 s2:aY} (ha:nb n s1 s2) (f:fH) (h:rE.uT n f=true): @w6 s1 f= @w6 s2 f:=by
 cases f<;>simp only [rE.uT,c0] at h<;>unfold w6<;>dsimp only
 case bin=>rw[ki ha _ h.1,ki ha _ h.2]
 case un=>rw[ki ha _ h]
 case conv=>rw[ki ha _ h]
 case lr=>rw[ki ha _ h.1,OS ha _ h.2.1,OS ha _ h.2.2.1,OS ha _ h.2.2.2]
 case cP=>rw[ki ha _ h.1,ki ha _ h.2]
 case eA=>rw[ki ha _ h.1,ki ha _ h.2]
 case bp=>rw[ki ha _ h]
 case cu=>rw[ki ha _ h]
 case dR=>rw[ki ha _ h]
 case len=>rw[ki ha _ h]
 case d_=>rw[ki ha _ h.1,ki ha _ h.2]
 case k7=>rw[ki ha _ h.1,ki ha _ h.2]
 case eo=>rw[ki ha _ h]
 case mw=>rw[ki ha _ h.1,ki ha _ h.2]
theorem OT {n m:Nat} (hle:n<=m):∀o:Option U,rE.C3 n o=true->rE.C3 m o=true
 |none,_=>rfl
 |some v,h=>mg hle v h
theorem aga {n m:Nat} (hle:n<=m) {f:fH} (h:rE.uT n f=true):rE.uT m f=true:=by
 cases f<;>simp only [rE.uT,c0] at h ⊢
 case bin=>exact⟨mg hle _ h.1,mg hle _ h.2⟩
 case un=>exact mg hle _ h
 case conv=>exact mg hle _ h
 case lr=>exact⟨mg hle _ h.1,OT hle _ h.2.1,OT hle _ h.2.2.1,OT hle _ h.2.2.2⟩
 case cP=>exact⟨mg hle _ h.1,mg hle _ h.2⟩
 case eA=>exact⟨mg hle _ h.1,mg hle _ h.2⟩
 case bp=>exact mg hle _ h
 case cu=>exact mg hle _ h
 case dR=>exact mg hle _ h
 case len=>exact mg hle _ h
 case d_=>exact⟨mg hle _ h.1,mg hle _ h.2⟩
 case k7=>exact⟨mg hle _ h.1,mg hle _ h.2⟩
 case eo=>exact mg hle _ h
 case mw=>exact⟨mg hle _ h.1,mg hle _ h.2⟩
theorem agb {n:Nat} {M:Mem} {e1 e2:List U} (ha:nb n (cA M e1) (cA M e2)) {f:fH} {r:U} (aP:rE.uT n f=true) (hr:kh n r=true) (h: @aR (cA M e1) P (f,r)): @aR (cA M e2) P (f,r):=by
 obtain⟨h1,ae,ay⟩:=h;refine⟨h1,ae,?_⟩;simp only at ay ⊢;rw[<-af_ ha f aP,<-ki ha r hr];exact ay
theorem agc {n:Nat} {M:Mem} {e1 e2:List U} (ha:nb n (cA M e1) (cA M e2)) {f:FuncId} {args:List U} {r:U} (aP:n3 n args=true) (hr:kh n r=true) (h: @ju (cA M e1) P (f,args,r)): @ju (cA M e2) P (f,args,r):=by
 obtain⟨h1,ae,ay⟩:=h;refine⟨h1,ae,?_⟩;simp only at ay ⊢;rw[<-A_ ha args aP,<-ki ha r hr];exact ay
theorem nb.mono {n m:Nat} {s1 s2:aY} (h:nb n s1 s2) (hm:m<=n):nb m s1 s2:=λk ag=>h k ao
theorem nb.trans {n:Nat} {s1 s2 rf:aY} (h:nb n s1 s2) (ae:nb n s2 rf):nb n s1 rf:=λk ag=>(h k ag).trans (ae k ag)
section
variable {B:Nat} {W:au} {ax:List ca} {ro:List (iy P)}
def nc (B:Nat) (W:au) (ax:List ca) (L:List (aF P)) (env:List U) (F:jF):Prop:=∀M,bW B (aG W) ax M (b3 L)->∀ext,@sf (cA M (ext++env)) P F
def nf (B:Nat) (W:au) (ax:List ca) (L:List (aF P)) (env:List U) (T:jN):Prop:=∀M,bW B (aG W) ax M (b3 L)->∀ext,∀p∈T,@ju (cA M (ext++env)) P p
theorem nc.ext {L:List (aF P)} {env:List U} {F:jF} (h:nc B W ax L env F) (vs:List U):nc B W ax L (vs++env) F:=λM bj ext=>by
 have:=h M bj (ext++vs)
 rwa [List.append_assoc] at this
theorem nf.ext {L:List (aF P)} {env:List U} {T:jN} (h:nf B W ax L env T) (vs:List U):nf B W ax L (vs++env) T:=λM bj ext=>by
 have:=h M bj (ext++vs)
 rwa [List.append_assoc] at this
theorem nc.snoc {L:List (aF P)} {env:List U} {n:Nat} {F:jF} (aq:env.length=n) (h:nc B W ax L env F) {f:fH} {r:U} (aP:∀M,bW B (aG W) ax M (b3 L)-> @aR (cA M env) P (f,r)) (h1:rE.uT n f=true) (ae:kh n r=true):nc B W ax L env (F++[(f,r)]):=λM bj ext p hp=>by
 rcases List.mem_append.1 hp with hp|hp
 ·exact h M bj ext p hp
 ·rw[List.mem_singleton] at hp
  subst hp;exact agb (tC M M aq) h1 ae (aP M bj)
theorem nf.snoc {L:List (aF P)} {env:List U} {n:Nat} {T:jN} (aq:env.length=n) (h:nf B W ax L env T) {f:FuncId} {args:List U} {r:U} (aP:∀M,bW B (aG W) ax M (b3 L)-> @ju (cA M env) P (f,args,r)) (h1:n3 n args=true) (ae:kh n r=true):nf B W ax L env (T++[(f,args,r)]):=λM bj ext p hp=>by
 rcases List.mem_append.1 hp with hp|hp
 ·exact h M bj ext p hp
 ·rw[List.mem_singleton] at hp
  subst hp;exact agc (tC M M aq) h1 ae (aP M bj)
theorem nc.marks (L:List (aF P)) (env:List U) (l:List aH):nc B W ax L env (Ft l):=λM _ ext p hp=>by
 obtain⟨t,_,rfl⟩:=List.mem_map.1 hp;cases Nat.beq t 1000000
 ·exact @iV (cA M (ext++env)) P (t:Int)
 ·exact @EK (cA M (ext++env)) P (.eo (.bool true)) (.bool true) J J J λ_ _ _=>rfl
theorem nf.nil (L:List (aF P)) (env:List U):nf B W ax L env []:=λ_ _ _ _ h=>by cases h
theorem VX {L:List (aF P)} (dC:∀M,pb (aG W) ax M->fB ro M) {M:Mem} (cm:bW B (aG W) ax M (b3 L)) {w:au} (hw:∀i o,M i=some o->w.heap[i]? =some o):kV W ax ro L w:=by
 have he:pb (aG W) ax (aG w):=λi o h1 ae=>hw i o (Fo cm i o h1 ae)
 exact⟨cm.sp.mono λb o _ ho=>hw b o ho,dC _ he,he⟩
theorem VY {L:List (aF P)} (dC:∀M,pb (aG W) ax M->fB ro M) {n m:Nat} {env vs:List U} {f:FuncId} {args:List U} {r:U} (aq:env.length=n) (h1:eV (vs.reverse++env)) (aJ:eV env) (hm:vs.length=m) (ha:n3 n args=true) (hp:dW args=true) (hr:aM r=true)
  (al:∀w,kV W ax ro L w->Calls P f ⟨fU env n args⟩ w λe w'=>e= .returned (ex (vs.reverse++env) (n+m) r)/\ch w.heap.size w w') (M:Mem) (cm:bW B (aG W) ax M (b3 L)): @ju (cA M (vs.reverse++env)) P (f,args,r):=by
 refine⟨hp,hr,λw hw=> ?_⟩;have gf: @et (cA M (vs.reverse++env)) args=fU env n args:=by
  rw[<-A_ (tC M M aq) args ha];exact sy M aJ aq args
 have lM: @aK (cA M (vs.reverse++env)) r=ex (vs.reverse++env) (n+m) r:=ld M h1 (by simp [aq,hm,Nat.add_comm]) r;simp only;rw[gf,lM];exact al w (VX dC cm hw)
end
theorem iI.agd [aY] [cI] [Lib P] {F:jF} {T:jN} {N d B:Nat} {w0 w:au} {a:Act} {s:b6} {Q:Exit->Act->au->Prop} (a1:ny Q) (cD:P.follows .mixedOrders=true) (cF:sf P F) (eb:ri P T) (dK:iI) (h:e0 P N B w0 Q (dK.run P F T N d s)) (ai:Here N s B w0 a w):dK.kE P Q a w:=by
 cases dK with
 |k x ks=>
  obtain⟨st,h1,ae⟩:=h;letI:dX P:=⟨F⟩;letI:r' P:=⟨T⟩;have al:=yU (gl:= .nil) (bb:=1000) cD cF eb d;exact o4 cD al ks x s st Q a w a1 h1 ae ai
 |ops r os ks=>
  haveI:l7 Q:=⟨a1⟩
  exact Mw cD cF eb h ai
 |any bb os listed ks=>
  obtain⟨st,h1,_⟩:=h;cases h1
section
variable [Lib P] (cf:h4) (B:Nat) (W:au) (ax:List ca) (post:U->List (aF P)->Prop)
def Jn (e:Ending) (w:au):Prop:=∃v L',e= .returned v/\post v L'/\dp (aG W) ax (aG w) (b3 L')
abbrev lC (M:Mem) (env:List U) (s:b6) (a:Act) (w:au):Prop:= @Here (cA M env) fc cf.N s B W a w
inductive mi:List iE->List (eK P)->(Exit->Act->au->Prop)->List U->Prop
 |nil (env:List U):mi [] [] (@qk fc P cf.fn cf.N B W λe w=>Jn W ax post e w/\ch B W w) env
 |cons {c:iE} {cs:List iE} {wc:eK P} {aL:List (eK P)} {Q:Exit->Act->au->Prop} {env cT pQ:List U} {R:Act->au->Prop} (er:env=cT++pQ) (aq:pQ.length=c.n) (h:mi cs aL Q env)
   (hx:∀M mG L vs bH s a w,bW B (aG W) ax M (b3 L)->(∃n2,mG=n2++pQ)->eV mG->wc (fU mG mG.length vs) L->dy s c.sl c.aU=some bH->C5 c.n vs bH=true->ql c.aU=true->lC cf B W M mG s a w->R a w):mi (c::cs) (wc::aL) (Exit.then R (dS P c.ks Q)) env
variable {cf B W ax post}
omit [Lib P] in
theorem mi.ext {cs:List iE} {aL:List (eK P)} {Q:Exit->Act->au->Prop} {env:List U} (h:mi cf B W ax post cs aL Q env) (cT:List U):mi cf B W ax post cs aL Q (cT++env):=by
 induction h with
 |nil env=>exact .nil _
 |cons er aq _ hx cd=>exact .cons (cT:=cT++_) (by rw[er,List.append_assoc]) aq cd hx
omit [Lib P] in
theorem mi.calm {cs:List iE} {aL:List (eK P)} {Q:Exit->Act->au->Prop} {env:List U} (h:mi cf B W ax post cs aL Q env):ny Q:=by
 induction h with
 |nil env=>exact(inferInstance:l7 _).calm
 |cons er aq _ hx cd=>exact(cd.uC _).then _
def oN (cf:h4) (B:Nat) (W:au) (ax:List ca) (ro:List (iy P)) (post:U->List (aF P)->Prop) (G:iX):Prop:=
 ∀n cs dK dt sl aU F T o t,G n cs dK dt sl aU F T o=some t->zo dt (db sl aU) sl aU->∀hd cT L aL Q,dd B W ax ro post n (cT++hd) L aL t->(cT++hd).length=n->hd.length=dt->eV (cT++hd)->mi cf B W ax post cs aL Q hd->
  nc B W ax L (cT++hd) F->nf B W ax L (cT++hd) T->∀M,bW B (aG W) ax M (b3 L)->∀a w,lC cf B W M hd (db sl aU) a w->dK.kE P Q a w
theorem FJ (n:Nat) (s:aY):nb n s s:=λ_ _=>rfl
theorem C' {M:Mem} {n:Nat} {e1 e2:List U} {s:b6} {sl:aT} {aU:List bM} {a:Act} {w:au} (ha:nb n (cA M e1) (cA M e2)) (h:zo n s sl aU) (ai:lC cf B W M e1 s a w):lC cf B W M e2 (db sl aU) a w:=by
 obtain⟨bH,ho,h1,ae⟩:=h;exact @Here.move fc (cA M e1) (cA M e2) _ _ _ _ _ _ _ _ _ ho (C9 ha h1) (λ_ _ h=>h) (Nat.zero_le _) (f_ ae) ai
omit [Lib P] in
theorem Jo {ro:List (iy P)} {G:iX} (eL:oN cf B W ax ro post G) {n:Nat} {cs:List iE} {dK:iI} {F:jF} {T:jN} {sl:aT} {aU:List bM} {go:iI->aT->List bM->Option bP} {t:bs} (h:Fz G n cs dK F T sl aU go=some t) {env:List U} {L:List (aF P)} {aL:List (eK P)} {Q:Exit->Act->au->Prop} (hw:dd B W ax ro post n env L aL t) (aq:env.length=n) (ho:eV env)
  (al:mi cf B W ax post cs aL Q env) (cF:nc B W ax L env F) (eb:nf B W ax L env T) {M:Mem} (bj:bW B (aG W) ax M (b3 L)) {a:Act} {w:au} (ai:rF n aU=true->lC cf B W M env (db (mh aU.length n sl) aU) a w):dK.kE P Q a w:=by
 rw[afW] at h;cases ad:rF n aU with
 |false=>rw[ad] at h;cases h
 |true=>
  rw[ad,bw] at h;exact eL n cs dK n _ aU _ _ _ t h (af7 ad) env [] L aL Q hw aq aq ho al cF eb M bj a w (ai ad)
theorem tE {ro:List (iy P)} {G:iX} (eL:oN cf B W ax ro post G) {n:Nat} {cs:List iE} {dK:iI} {sl:aT} {aU:List bM} {t:bs} (h:qz P cf G n cs dK sl aU=some t) {env:List U} {L:List (aF P)} {aL:List (eK P)} {Q:Exit->Act->au->Prop} (hw:dd B W ax ro post n env L aL t) (aq:env.length=n) (ho:eV env)
  (al:mi cf B W ax post cs aL Q env) {M:Mem} (bj:bW B (aG W) ax M (b3 L)) {a:Act} {w:au} (ai:lC cf B W M env (db sl aU) a w):dK.kE P Q a w:=
 Jo eL h hw aq ho al (nc.marks _ _ _) (nf.nil _ _) bj λad=>C' (FJ n _) (VW ad) ai
theorem VZ {ro:List (iy P)} {G:iX} (eL:oN cf B W ax ro post G) {n:Nat} {cs:List iE} {dK:iI} {s:b6} {t:bs} (h:Jj P cf G n cs dK s=some t) {env:List U} {L:List (aF P)} {aL:List (eK P)} {Q:Exit->Act->au->Prop} (hw:dd B W ax ro post n env L aL t) (aq:env.length=n) (ho:eV env)
  (al:mi cf B W ax post cs aL Q env) {M:Mem} (bj:bW B (aG W) ax M (b3 L)) {a:Act} {w:au} (ai:lC cf B W M env s a w):dK.kE P Q a w:=by
 unfold Jj at h;cases av:zn s with
 |false=>rw[av] at h;cases h
 |true=>
  rw[av,bw] at h;exact Jo eL h hw aq ho al (nc.marks _ _ _) (nf.nil _ _) bj λad=>C' (FJ n _) (OQ av ad) ai
theorem OU {a b:Option bs} {f:bs->bs->bs} {t:bs} (h:two a b f=some t):∃x y,a=some x/\b=some y/\t=f x y:=by
 unfold two at h;split at h
 ·split at h
  ·cases h;exact⟨_,_,rfl,rfl,rfl⟩
  ·cases h
 ·cases h
omit [Lib P] in
theorem OV {ro:List (iy P)} (dC:∀M,pb (aG W) ax M->fB ro M) {G:iX} (eL:oN cf B W ax ro post G) {n:Nat} {cs:List iE} {dK:iI} {dt:Nat} {sl:aT} {aU:List bM} {F:jF} {T:jN} {go:jF->Option bP} {x:fH×U×Nat×Bool} {t:bs} (h:FA P G n cs dK dt sl aU F T go x=some t) (mu:zo dt (db sl aU) sl aU)
  {hd cT:List U} {L:List (aF P)} {aL:List (eK P)} {Q:Exit->Act->au->Prop} (hw:dd B W ax ro post n (cT++hd) L aL t) (aq:(cT++hd).length=n) (fO:hd.length=dt) (ho:eV (cT++hd)) (al:mi cf B W ax post cs aL Q hd) (cF:nc B W ax L (cT++hd) F) (eb:nf B W ax L (cT++hd) T)
  (M:Mem) (bj:bW B (aG W) ax M (b3 L)) (a:Act) (w:au) (ai:lC cf B W M hd (db sl aU) a w):dK.kE P Q a w:=by
 obtain⟨f,r,m,b⟩:=x;unfold FA at h;simp only at h;cases hu:rE.uT n f with
 |false=>rw[hu] at h;cases h
 |true=>
  rw[hu,bw] at h;cases b with
  |true=>
   rw[bw] at h;obtain⟨cV,df,e1,e2,rfl⟩:=OU h;cases hw with
   |s b aP h1 ae=>
    have nt:∀M,bW B (aG W) ax M (b3 L)-> @aR (cA M (cT++hd)) P (f,.bool b):=λM bj=>aP M bj (dC M (Fo bj))
    cases b with
    |true=>exact eL n cs dK dt sl aU _ T _ cV e1 mu hd cT L aL Q (h1 rfl) aq fO ho al (cF.snoc aq nt hu rfl) eb M bj a w ai
    |false=>exact eL n cs dK dt sl aU _ T _ df e2 mu hd cT L aL Q (ae rfl) aq fO ho al (cF.snoc aq nt hu rfl) eb M bj a w ai
  |false=>
   rw[ei] at h;cases hr:kh (n+m) r with
   |false=>rw[hr] at h;cases h
   |true=>
    rw[hr,bw] at h;obtain⟨k,e,rfl⟩:=Option.map_eq_some_iff.1 h;cases hw with
    |o vs hm h1 aP ag=>
     have hl:(vs.reverse++(cT++hd)).length=n+m:=by simp only [List.length_append,List.length_reverse] at aq ⊢;omega
     rw[<-List.append_assoc] at ag hl;have age:rE.uT (n+m) f=true:=aga (Nat.le_add_right n m) hu;refine eL (n+m) cs dK dt sl aU _ T _ k e mu hd (vs.reverse++cT) L aL Q ag hl fO ?_ al ?_ ?_ M bj a w ai
     ·rw[List.append_assoc];exact rC (oK h1) ho
     ·refine nc.snoc hl ?_ (λM bj=> ?_) age hr
      ·rw[List.append_assoc];exact cF.ext _
      ·rw[List.append_assoc];exact aP M bj (dC M (Fo bj))
     ·rw[List.append_assoc];exact eb.ext _
omit [Lib P] in
theorem OW {ro:List (iy P)} (dC:∀M,pb (aG W) ax M->fB ro M) {G:iX} (eL:oN cf B W ax ro post G) {n:Nat} {cs:List iE} {dK:iI} {dt:Nat} {sl:aT} {aU:List bM} {F:jF} {T:jN} {go:jN->Option bP} {x:FuncId×List U×U×Nat×Bool} {t:bs} (h:FB G n cs dK dt sl aU F T go x=some t) (mu:zo dt (db sl aU) sl aU)
  {hd cT:List U} {L:List (aF P)} {aL:List (eK P)} {Q:Exit->Act->au->Prop} (hw:dd B W ax ro post n (cT++hd) L aL t) (aq:(cT++hd).length=n) (fO:hd.length=dt) (ho:eV (cT++hd)) (al:mi cf B W ax post cs aL Q hd) (cF:nc B W ax L (cT++hd) F) (eb:nf B W ax L (cT++hd) T)
  (M:Mem) (bj:bW B (aG W) ax M (b3 L)) (a:Act) (w:au) (ai:lC cf B W M hd (db sl aU) a w):dK.kE P Q a w:=by
 obtain⟨f,args,r,m,b⟩:=x;unfold FB at h;simp only at h;cases hu:n3 n args&&dW args with
 |false=>rw[hu] at h;cases h
 |true=>
  rw[hu,bw] at h;simp only [c0] at hu;obtain⟨hu,hp⟩:=hu;cases b with
  |true=>
   rw[bw] at h;obtain⟨cV,df,e1,e2,rfl⟩:=OU h;cases hw with
   |cs b AF h1 ae=>
    have nt:∀M,bW B (aG W) ax M (b3 L)-> @ju (cA M (cT++hd)) P (f,args,.bool b):=λM bj=>VY (vs:=[]) (m:=0) dC aq ho ho rfl hu hp rfl AF M bj
    cases b with
    |true=>exact eL n cs dK dt sl aU F _ _ cV e1 mu hd cT L aL Q (h1 rfl) aq fO ho al cF (eb.snoc aq nt hu rfl) M bj a w ai
    |false=>exact eL n cs dK dt sl aU F _ _ df e2 mu hd cT L aL Q (ae rfl) aq fO ho al cF (eb.snoc aq nt hu rfl) M bj a w ai
  |false=>
   rw[ei] at h;cases hr:kh (n+m) r&&aM r with
   |false=>rw[hr] at h;cases h
   |true=>
    rw[hr,bw] at h;simp only [c0] at hr;obtain⟨hr,Ai⟩:=hr;obtain⟨k,e,rfl⟩:=Option.map_eq_some_iff.1 h;cases hw with
    |c vs hm h1 AF ag=>
     have hl:(vs.reverse++(cT++hd)).length=n+m:=by simp only [List.length_append,List.length_reverse] at aq ⊢;omega
     have ln:eV (vs.reverse++(cT++hd)):=rC (oK h1) ho;rw[<-List.append_assoc] at ag hl;refine eL (n+m) cs dK dt sl aU F _ _ k e mu hd (vs.reverse++cT) L aL Q ag hl fO ?_ al ?_ ?_ M bj a w ai
     ·rw[List.append_assoc];exact ln
     ·rw[List.append_assoc];exact cF.ext _
     ·refine nf.snoc hl ?_ (λM bj=> ?_) (C2 (Nat.le_add_right n m) _ hu) hr
      ·rw[List.append_assoc];exact eb.ext _
      ·rw[List.append_assoc];exact VY dC aq ln ho hm hu hp Ai AF M bj
theorem agf {ro:List (iy P)} {G:iX} (eL:oN cf B W ax ro post G) {n:Nat} {cs:List iE} {x:kC} {s:b6} {t:bs} (h:Ow P cf G n cs x s=some t) {env:List U} {L:List (aF P)} {aL:List (eK P)} {Q:Exit->Act->au->Prop} (hw:dd B W ax ro post n env L aL t) (aq:env.length=n) (ho:eV env)
  (al:mi cf B W ax post cs aL Q env) {M:Mem} (bj:bW B (aG W) ax M (b3 L)) {a:Act} {w:au} (ai:lC cf B W M env s a w):Q x.exit' a w:=by
 unfold Ow at h;split at h
 ·split at h
  ·rename_i v aC
   cases h;cases al;cases hw with
   |ret L' hL hp=>
    letI:=cA M env;letI:=fc;refine Tv aC (λw2 hl af=> ?_) a w ai;refine⟨⟨_,L',?_,hp,(hL M bj).done af⟩,hl⟩;rw[ld M ho aq v]
  ·split at h
   ·rename_i t x uh
    cases hp:aM x with
    |false=>rw[hp] at h;cases h
    |true=>
     rw[hp,bw,cx] at h;subst h;cases al;cases hw with
     |pM i hL ak ha av aC af L' eb agh=>
      letI:=cA M env;letI:=fc;obtain⟨st,e,cB⟩:=Nn (R:=λe w=>Jn W ax post e w/\ch B W w) uh hp ((ld M ho aq x).trans ak) (bj.box i (kF hL)) ha av aC (af _) (λw2 hl agi=>⟨⟨_,L',rfl,agh,(eb M bj).done agi⟩,hl⟩);cases e;exact cB a w ai
   ·cases h
 ·rename_i c cs'
  cases al with
  | @cons _ _ wc alF alG _ cT pQ R er iD Ah hx=>
    split at h
    ·split at h
     ·rename_i bH gW
      cases ad:C5 c.n (Je bH c.m c.n) bH&&ql c.aU with
      |false=>rw[ad] at h;cases h
      |true=>
       rw[ad,bw,cx] at h;subst h;simp only [c0] at ad;cases hw with
       |back FK=>exact hx M env L _ bH s a w bj ⟨cT,er⟩ ho (by rw[aq];exact FK) gW ad.1 ad.2 ai
     ·cases h
    ·rename_i ak
     obtain⟨k,e,rfl⟩:=Option.map_eq_some_iff.1 h;cases hw with
     |gJ ag=>
      have:=VZ eL e ag aq ho Ah bj ai;exact HY (P:=P) (y:= .skip) (λh=>ak h) this _
theorem agj {ro:List (iy P)} {G:iX} (eL:oN cf B W ax ro post G) {n:Nat} {cs:List iE} {body:Code} {s:b6} {ks:List fe} {t:bs} (h:Ox P cf G n cs body s ks=some t) {env:List U} {L:List (aF P)} {aL:List (eK P)} {Q:Exit->Act->au->Prop} (hw:dd B W ax ro post n env L aL t) (aq:env.length=n) (ho:eV env)
  (al:mi cf B W ax post cs aL Q env) {M:Mem} (bj:bW B (aG W) ax M (b3 L)) {a:Act} {w:au} (ai:lC cf B W M env s a w):(Code.loop body).wpIn (Fr none) 0 P (dS P ks Q) a w:=by
 unfold Ox at h;split at h
 ·rename_i m hm
  exact wpIn_loop_rounds m (VZ eL h hw aq ho al bj ai)
 split at h
 ·rename_i pd n4 vs r8
  split at h
  ·rename_i bH gW
   cases ad:C5 n vs bH&&ql n4 with
   |false=>rw[ad] at h;cases h
   |true=>
    rw[ad,bw] at h;simp only [c0] at ad;obtain⟨k,e,rfl⟩:=Option.map_eq_some_iff.1 h;cases hw with
    |loop dQ a' bX eU gI iR hm h1 aJ hL bn ag=>
     letI:=fc;refine Ti (N:=cf.N) (B:=B) (w0:=W) (X:=Mem×dQ) (λx=>cA x.1 ((a' x.2).reverse++env)) (db pd n4) (λx=>bW B (aG W) ax x.1 (b3 (bX x.2))/\eU x.2) (λx=>gI x.2) (λx ak dD w1 lP=> ?_) (M,iR) ⟨hL M bj,bn⟩ ?_
     ·obtain⟨pa,u⟩:=x
      obtain⟨ry,hY⟩:=ak;refine tE (dK:= .k .normal [.l5 body]) (cs:=⟨pd,n4,n,vs.length,ks⟩::cs) (Q:=Exit.then (λaS w'=>∃x':Mem×dQ,(bW B (aG W) ax x'.1 (b3 (bX x'.2))/\eU x'.2)/\gI x'.2<gI u/\lC cf B W x'.1 ((a' x'.2).reverse++env) (db pd n4) aS w') (dS P ks Q)) eL e (ag u hY) (by simp [aq,hm,Nat.add_comm]) (rC (oK (h1 u)) ho) ?_ ry lP;refine .cons (cT:=(a' u).reverse) (pQ:=env) rfl aq (al.ext _) ?_;intro oJ mG kS V0 agk s2 ej w2 OX Bg Aa FK c1 OY hU gN;obtain⟨n2,Bg⟩:=Bg;obtain⟨u',OZ,xv,mx,eb⟩:=FK;exact⟨(oJ,u'),⟨eb oJ OX,OZ⟩,xv,@Here.move fc (cA oJ mG) (cA oJ ((a' u').reverse++env)) _ _ _ _ _ _ _ _ _ c1 (OR Bg aq Aa (h1 u') mx.symm OY) (λ_ _ h=>h) (Nat.zero_le _) (f_ hU) gN⟩
     ·exact @Here.move fc (cA M env) (cA M ((a' iR).reverse++env)) _ _ _ _ _ _ _ _ _ gW (OR (n2:=[]) rfl aq ho (h1 iR) (by rw[aq];exact aJ.symm) ad.1) (λ_ _ h=>h) (Nat.zero_le _) (f_ ad.2) ai
  ·cases h
 ·cases h
theorem FL {M:Mem} {n:Nat} {env:List U} {v u:U} {s:b6} {sl:aT} {aU:List bM} {a:Act} {w:au} (aC: @aK (cA M env) v= @aK (cA M env) u) (h:tD n v u s sl aU=true) (ai:lC cf B W M env s a w):lC cf B W M env (db sl aU) a w:=by
 unfold tD at h;simp only [c0] at h;obtain⟨h1,ae⟩:=h;split at h1
 ·rename_i bH ho
  exact @Here.move fc (cA M env) (cA M env) _ _ _ _ _ _ _ _ _ ho (af8 (FJ n _) aC h1) (λ_ _ h=>h) (Nat.zero_le _) (f_ ae) ai
 ·cases h1
theorem O0 {ro:List (iy P)} {G:iX} (eL:oN cf B W ax ro post G) {n:Nat} {cs:List iE} {v:U} {s:b6} {j6 kU:iI} {t:bs} (h:FF P cf G n cs v s j6 kU=some t) {env:List U} {L:List (aF P)} {aL:List (eK P)} {Q:Exit->Act->au->Prop} (hw:dd B W ax ro post n env L aL t) (aq:env.length=n) (ho:eV env)
  (al:mi cf B W ax post cs aL Q env) {M:Mem} (bj:bW B (aG W) ax M (b3 L)) {a:Act} {w:au} (ai:lC cf B W M env s a w):∃b,@aK (cA M env) v= .bool b/\(bif b then j6 else kU).kE P Q a w:=by
 unfold FF at h;split at h
 ·rename_i b ig
  cases ad:tD n v (.bool b) s (j5 n v (.bool b) s).1 (j5 n v (.bool b) s).2 with
  |false=>rw[ad] at h;cases h
  |true=>
   rw[ad,bw] at h;obtain⟨k,e,rfl⟩:=Option.map_eq_some_iff.1 h;have key:∀b',ex env n v= .bool b'->b'=b->dd B W ax ro post n env L aL k->∃b,@aK (cA M env) v= .bool b/\(bif b then j6 else kU).kE P Q a w:=λb' ak dN ag=>by
    subst dN;have af: @aK (cA M env) v= .bool b':=(ld M ho aq v).trans ak;exact⟨b',af,tE eL e ag aq ho al bj (FL (by rw[af];rfl) ad ai)⟩
   cases b with
   |true=>
    rw[bw] at hw;cases hw with
    |c6 b ak h1 ae=>
     cases b with
     |true=>exact key _ ak rfl (h1 rfl)
     |false=>cases ae rfl
   |false=>
    rw[ei] at hw;cases hw with
    |c6 b ak h1 ae=>
     cases b with
     |true=>cases h1 rfl
     |false=>exact key _ ak rfl (ae rfl)
 cases ad:tD n v (.bool true) s (j5 n v (.bool true) s).1 (j5 n v (.bool true) s).2&&tD n v (.bool false) s (j5 n v (.bool false) s).1 (j5 n v (.bool false) s).2 with
 |false=>rw[ad] at h;cases h
 |true=>
  rw[ad,bw] at h;simp only [c0] at ad;obtain⟨cV,df,e1,e2,rfl⟩:=OU h;cases hw with
  |c6 b ak h1 ae=>
   have af: @aK (cA M env) v= .bool b:=(ld M ho aq v).trans ak;refine⟨b,af,?_⟩;cases b with
   |true=>exact tE eL e1 (h1 rfl) aq ho al bj (FL (by rw[af];rfl) ad.1 ai)
   |false=>exact tE eL e2 (ae rfl) aq ho al bj (FL (by rw[af];rfl) ad.2 ai)
theorem agl {ro:List (iy P)} {G:iX} (eL:oN cf B W ax ro post G) {n:Nat} {cs:List iE} {v:U} {s:b6} {x y:Code} {ks:List fe} {pd:aT} {n4:List bM} {m:Nat} {t:bs} (h:OC P cf G n cs v s x y ks pd n4 m=some t) {env:List U} {L:List (aF P)} {aL:List (eK P)} {Q:Exit->Act->au->Prop} (hw:dd B W ax ro post n env L aL t) (aq:env.length=n) (ho:eV env)
  (al:mi cf B W ax post cs aL Q env) {M:Mem} (bj:bW B (aG W) ax M (b3 L)) {a:Act} {w:au} (ai:lC cf B W M env s a w):∃b,@aK (cA M env) v= .bool b/\(if b then x else y).wpIn (Fr none) 0 P (dS P ks Q) a w:=by
 unfold OC at h;cases ad:tD n v (.bool true) s (j5 n v (.bool true) s).1 (j5 n v (.bool true) s).2&&tD n v (.bool false) s (j5 n v (.bool false) s).1 (j5 n v (.bool false) s).2 with
 |false=>rw[ad] at h;cases h
 |true=>
  rw[ad,bw] at h;simp only [c0] at ad;split at h
  ·rename_i cV e1
   split at h
   ·rename_i df e2
    obtain⟨k,dH,rfl⟩:=Option.map_eq_some_iff.1 h;cases hw with
    |rD b ak dQ a' bX eU hm G6 h1 ae ag=>
     have af: @aK (cA M env) v= .bool b:=(ld M ho aq v).trans ak;refine⟨b,af,?_⟩
     let R:Act->au->Prop:=λaS w'=>∃x':Mem×dQ,(bW B (aG W) ax x'.1 (b3 (bX x'.2))/\eU x'.2)/\lC cf B W x'.1 ((a' x'.2).reverse++env) (db pd n4) aS w'
     have V1:mi cf B W ax post (⟨pd,n4,n,m,ks⟩::cs) ((λde L'=>∃u',eU u'/\de=a' u'/\lf B W ax L' (bX u'))::aL) (Exit.then R (dS P ks Q)) env:=by
      refine .cons (cT:=[]) (pQ:=env) rfl aq al ?_;intro oJ mG kS V0 agk s2 ej w2 OX Bg Aa FK c1 OY hU gN;obtain⟨n2,Bg⟩:=Bg;obtain⟨u',OZ,mx,eb⟩:=FK;exact⟨(oJ,u'),⟨eb oJ OX,OZ⟩,@Here.move fc (cA oJ mG) (cA oJ ((a' u').reverse++env)) _ _ _ _ _ _ _ _ _ c1 (OR Bg aq Aa (G6 u') mx.symm OY) (λ_ _ h=>h) (Nat.zero_le _) (f_ hU) gN⟩
     have fG:∀e aS w',Exit.then R (dS P ks Q) e aS w'->dS P ks Q e aS w':=λe aS w' hp=>by
      cases e with
      |normal=>
       obtain⟨⟨pa,u⟩,⟨ry,hY⟩,lP⟩:=hp;exact tE (dK:= .k .normal ks) eL dH (ag u hY) (by simp [aq,hm,Nat.add_comm]) (rC (oK (G6 u)) ho) (al.ext _) ry lP
      |_=>exact hp
     cases b with
     |true=>exact wpIn_mono (tE (dK:= .k .normal [.l5 x]) eL e1 (h1 rfl) aq ho V1 bj (FL (by rw[af];rfl) ad.1 ai)) fG
     |false=>exact wpIn_mono (tE (dK:= .k .normal [.l5 y]) eL e2 (ae rfl) aq ho V1 bj (FL (by rw[af];rfl) ad.2 ai)) fG
   ·cases h
  ·cases h
theorem V2 {M:Mem} {env:List U} {s:b6} {a:Act} {w:au} {c:Operand} (hp:aM (ea .nil s.sl c)=true) (ai:lC cf B W M env s a w):a.eval c= @aK (cA M env) (ea .nil s.sl c):=by
 letI:=cA M env;obtain⟨⟨φ,ds,h1,ae,ay,bE,_⟩,cn,cy⟩:=ai;exact aD.iq _ hp (gg (hX φ) ae.get c)
end
end AE
end Go.Proofs.YtepcfjbfkedlpaaGreatDoor
