/- Parts of the proof. -/
import Derived.Test.YtmfckpdcljjdjaaDoorFm1
import Derived.LoopNIn
import Derived.Laws.Sem
import Derived.Below
import Derived.Laws.Entries
import Derived.Laws.StructEq
import Derived.IntWalk
import Derived.Laws.AppendOwn
import Derived.Laws.Small
import Derived.OrdersIn
import Derived.Lib.SliceRun
import Derived.Laws.Slices
import Derived.Laws.Strings2
import Derived.Laws.Concat
import Derived.ChangeKeysEq
import Derived.Laws.OwnMore
import Derived.Laws.CopyRow
set_option maxRecDepth 100000
set_option maxHeartbeats 4000000
namespace Go.Proofs.YtmfckpdcljjdjaaDoor
open Go
namespace AE
variable [aX]
structure mu (gl:bB Nat) (N:Nat) (ds:List Deferred) (ops:Array Oper) (m:Nat) (B:Nat->aD) (vs:List I) (dC:bn) (w0:aj) (a0:Act) (φ:bn) (listed:Array Bool) (a:Act) (w:aj):Prop where
 size:listed.size=ops.size
 down:∀i j,listed.getD i false=true->direct ops i j=true->listed.getD j false=true
 qz:∀i,m<=i->listed.getD i false=false
 defers:a.defers=ds
 lg:a.tmps.size=N
 rel:bs φ (B m) w
 old:∀b,b<(B 0).n->φ b=dC b
 mapped:∀b e,(B 0).n<=b->φ b=some e->∃j,j<m/\listed.getD j false=true/\own B j b
 total:∀j b,j<m->listed.getD j false=true->own B j b->φ b≠none
 new:∀b e,(B 0).n<=b->φ b=some e->w0.heap.size<=e.aU
 Dy:∀j b e b' e',j<m->own B j b->¬own B j b'->φ b=some e->φ b'=some e'->e.aU≠e'.aU
 keep:∀i,i<w0.heap.size->(∀b e k,dC b=some e->e.aU=i->(B 0).bl.get b=some k->k.ro=true)->w.heap[i]? =w0.heap[i]?
 eL:w0.heap.size<=w.heap.size
 os:w.os=w0.os
 tape:w.tape=w0.tape
 output:w.output=w0.output
 drawn:k5 w0<=k5 w
 other:∀t,(∀i,i<m->listed.getD i false=true->e5 ops i≠some t)->a.tmps.getD t undef=a0.tmps.getD t undef
 val:∀i t,i<m->listed.getD i false=true->e5 ops i=some t->ar (restrict φ (B (i+1)).n) (vs.getD i cC) (a.tmps.getD t undef)
omit [aX] in
theorem nQ {φ:bn} {n b:Nat} {e:fj} (h:restrict φ n b=some e):b<n/\φ b=some e:=by
 unfold restrict at h;by_cases U:b<n
 ·rw[aR U] at h;exact⟨U,h⟩
 ·rw[aW U] at h;cases h
omit [aX] in
theorem I0 {φ:bn} {n dS:Nat} (h:n<=dS):∀b e,restrict φ n b=some e->restrict φ dS b=some e:=λb e U=>by
 obtain⟨h1,ad⟩:=nQ U;unfold restrict;rw[aR af];exact ad
section
variable {P:aC} [Lib P] [c0 P] {C:gm} {gl:bB Nat} {N:Nat} {ds:List Deferred} {ops:Array Oper} {m:Nat} {dv jH:bh} {B:Nat->aD} {vs:List I} {dC φ:bn} {w0 w:aj} {a0 a:Act} {listed:Array Bool}
theorem mu.done (fV:kr dC B vs m) (ia:bs dC (B 0) w0) (nR:et N ds dC jH a0) (bc:mu gl N ds ops m B vs dC w0 a0 φ listed a w) (h6:∀i,i<m->listed.getD i false=true)
  (fm:iV N ops (λ_=>cC) (List.range m) jH=some dv) {c8:bh} (h1:iV N ops (λj=>vs.getD j cC) (List.range m) dv=some c8):
  et N ds φ c8 a/\bF dC (B 0) w0 φ (B m) w:=by
 have mY:∀b e,dC b=some e->φ b=some e:=λb e U=>by rw[bc.old b (ia.lt U)];exact U
 refine⟨⟨bc.lg,bc.defers,λt v aw=> ?_⟩,?_⟩
 ·rcases oz _ _ _ h1 t v aw with ⟨j,hj,aH,rfl⟩|⟨ah,av⟩
  ·have eF:=List.mem_range.1 hj
   exact(bc.val j t eF (h6 j eF) aH).mono λb e U=>(nQ U).2
  ·rcases oz _ _ _ fm t v av with ⟨j,hj,aH,rfl⟩|⟨_,tc⟩
   ·exact .cC _
   ·rw[bc.other t λi J _=>ah i (List.mem_range.2 J)]
    exact(nR.get t v tc).mono mY
 ·refine {rel:=bc.rel,c5:=bc.old,mh:=λb U cK=> ?_,new:=λb e U he=> .inl (bc.new b e U he),k6:=fV.mZ (Nat.zero_le _) (bM _),low:=by rw[fV.PD (bM _)];exact bM _,
          same:=λb U _=>fV.pK (Nat.zero_le _) (bM _) b U,ro:=λb k hk _=> ?_,keep:=bc.keep,eL:=bc.eL,os:=bc.os,tape:=bc.tape,output:=bc.output,drawn:=bc.drawn}
  ·obtain⟨j,hj,ax⟩:=fV.IZ (bM _) U cK
   exact bc.total j b hj (h6 j hj) ax
  ·rw[fV.pK (Nat.zero_le _) (bM _) b (ia.wf.lt b k hk)];exact hk
theorem mu.here (fV:kr dC B vs m) (ia:bs dC (B 0) w0) (I1:(B m).n<=dead) (bc:mu gl N ds ops m B vs dC w0 a0 φ listed a w) {i:Nat} (J:i<m):bs (restrict φ (B i).n) (B i) w:=by
 obtain⟨ψ,w',g1,g2,b6,_⟩:=fV.ex i af;have aH:∀b e,φ b=some e->b≠dead:=λb e U aq=>by
  have:=bc.rel.lt U;omega
 have eU:∀b,b<(B i).n->(B m).bl.get b=(B i).bl.get b:=λb U=>fV.pK af (bM _) b U
 refine⟨g1.wf,λb e U=> ?_,λb e k b' e' k' U cK hk cc ch=> ?_,λb e k b' e' k' U cK hk cc aB hblk=> ?_,λi o J=>⟨(bc.rel.eb i o J).1,λb e U=>(bc.rel.eb i o J).2 b e (nQ U).2⟩⟩
 ·obtain⟨aM,ft⟩:=nQ U
  obtain⟨k,hk,h1,ad⟩:=bc.rel.c5 b e ft;rw[eU b aM] at hk;refine⟨k,hk,h1,?_⟩;have mr:ψ b≠none:=by
   rcases Nat.lt_or_ge b (B 0).n with h0|h0
   ·rw[g2 b h0,<-bc.old b h0,ft];simp
   ·exact b6 b h0 aM
  obtain⟨e',lN⟩:=Option.ne_none_iff_exists'.1 mr;obtain⟨k',cc,_,al⟩:=g1.c5 b e' lN;rw[hk] at cc;cases cc;exact ad.restrict aH (λb e U=>g1.lt U) al
 ·obtain⟨aM,ft⟩:=nQ U
  obtain⟨mj,na⟩:=nQ cK;exact bc.rel.apart b e k b' e' k' ft na ((eU b aM).trans hk) ((eU b' mj).trans cc) ch
 ·obtain⟨aM,ft⟩:=nQ U
  obtain⟨mj,na⟩:=nQ cK;exact bc.rel.along b e k b' e' k' ft na ((eU b aM).trans hk) ((eU b' mj).trans cc) aB hblk
theorem mu.step (fV:kr dC B vs m) (ia:bs dC (B 0) w0) (bc:mu gl N ds ops m B vs dC w0 a0 φ listed a w) {i:Nat} {o:Oper} (J:i<m) (hm:m<=ops.size) (ax:ops[i]? =some o) (rR:listed.getD i false=false)
  (te:∀k,direct ops i k=true->listed.getD k false=true) (nS:∀i j,i<m->j<m->i≠j->∀t,e5 ops i=some t->e5 ops j≠some t) (aM:∀i t,i<m->e5 ops i=some t->t<N)
  {aY:aD} (po:(B i).n<=aY.low) (oC:B (i+1)={aY with low:=(B i).low}) {bY:bn} {au:I} {w':aj} (aw:ar bY (vs.getD i cC) au) (cd:bF (restrict φ (B i).n) {B i with low:=(B i).n} w bY aY w'):
  ∃dF,mu gl N ds ops m B vs dC w0 a0 dF (listed.setIfInBounds i true) (a.put o.dst au) w':=by
 have h7:(B (i+1)).n=aY.n:=by rw[oC]
 have PH:(B (i+1)).bl=aY.bl:=by rw[oC]
 have kt:e5 ops i=o.dst:=by simp [e5,ax]
 have eX:∀j,(listed.setIfInBounds i true).getD j false=true↔j=i\/listed.getD j false=true:=by
  intro j;by_cases hj:j=i
  ·subst hj
   have:=bc.size;simp [dD,show j<listed.size by omega]
  ·rw[getD_set_ne false (Ne.symm hj)]
   simp [hj]
 let dF:bn:=λb=>if b<(B i).n then φ b else if b<(B (i+1)).n then bY b else φ b
 have xh:∀b,b<(B i).n->dF b=φ b:=λb U=>aR U
 have zQ:∀b,own B i b->dF b=bY b:=λb U=>by
  show (if _ then _ else if _ then _ else _)=_;rw[aW (by unfold own at U;omega),aR U.2]
 have Dz:∀b,(B (i+1)).n<=b->dF b=φ b:=λb U=>by
  have:=fV.zN i J;show (if _ then _ else if _ then _ else _)=_;rw[aW af,aW af]
 have iG:∀b,b<(B i).n\/own B i b\/(B (i+1)).n<=b:=λb=>by unfold own;omega
 have I2:∀b,b<(B i).n->bY b=φ b:=λb U=>by
  rw[cd.c5 b U];unfold restrict;rw[aR U]
 have I3:∀b e,bY b=some e->b<(B (i+1)).n:=λb e U=>by rw[h7];exact cd.rel.lt U
 have I4:∀b e,bY b=some e->dF b=some e:=λb e U=>by
  have:=I3 b e U;rcases iG b with h|h|h
  ·rw[xh b h,<-I2 b h];exact U
  ·rw[zQ b h];exact U
  ·omega
 have PI:∀b,own B i b->φ b=none:=λb U=>by
  cases h:φ b with
  |none=>rfl
  |some e=>
   exfalso;have h0:(B 0).n<=b:=Nat.le_trans (fV.mZ (Nat.zero_le i) af) U.1;obtain⟨j,hj,kp,fx⟩:=bc.mapped b e h0 h;have:=fV.IY J hj U fx;subst this;rw[rR] at kp;cases kp
 have DA:∀b e,φ b=some e->dF b=some e:=λb e U=>by
  rcases iG b with h|h|h
  ·rw[xh b h];exact U
  ·rw[PI b h] at U;cases U
  ·rw[Dz b h];exact U
 have PJ:∀b e,own B i b->bY b=some e->w.heap.size<=e.aU:=λb e U he=>by
  rcases cd.new b e U.1 he with h|⟨d',c3,k0,q1,_,cg,_,_⟩
  ·exact h
  ·exfalso
   have:=(nQ q1).1;omega
 have Xl:(B 0).n<=(B i).n:=fV.mZ (Nat.zero_le i) af;have xi:∀b,b<(B (i+1)).n->(B m).bl.get b=aY.bl.get b:=λb U=>by rw[fV.pK af (bM _) b U,PH]
 have DB:∀b e,φ b=some e->e.aU<w.heap.size:=λb e U=>by
  obtain⟨k,_,_,ad⟩:=bc.rel.c5 b e U;exact ad.lt
 have I5:∀b e,dF b=some e->(b<(B (i+1)).n/\bY b=some e)\/((B (i+1)).n<=b/\φ b=some e):=λb e U=>by
  have:=fV.zN i J;rcases iG b with h|h|h
  ·rw[xh b h,<-I2 b h] at U;exact .inl ⟨af,U⟩
  ·rw[zQ b h] at U;exact .inl ⟨h.2,U⟩
  ·rw[Dz b h] at U;exact .inr ⟨h,U⟩
 have rS:∀b e,dF b=some e->(own B i b/\bY b=some e/\w.heap.size<=e.aU)\/(¬own B i b/\φ b=some e/\e.aU<w.heap.size):=λb e U=>by
  rcases iG b with h|h|h
  ·rw[xh b h] at U;exact .inr ⟨by unfold own;omega,U,DB b e U⟩
  ·rw[zQ b h] at U;exact .inl ⟨h,U,PJ b e h U⟩
  ·rw[Dz b h] at U;exact .inr ⟨by unfold own;omega,U,DB b e U⟩
 have PK:∀b e,(B (i+1)).n<=b->φ b=some e->w'.heap[e.aU]? =w.heap[e.aU]? :=λb e U he=>by
  have h0:(B 0).n<=b:=by have:=fV.zN i J;omega
  obtain⟨j,hj,kp,fx⟩:=bc.mapped b e h0 he;refine cd.keep e.aU (DB b e he) λd' c3 k0 k_ rF _=> ?_
  exfalso;obtain⟨Xm,PL⟩:=nQ k_;refine bc.Dy j b e d' c3 hj fx (λaq=> ?_) he PL rF.symm;have hY:i+1<=j:=by
   rcases Nat.lt_or_ge i j with h|h
   ·exact h
   ·exfalso
    have:=fV.mZ (i:=j+1) (j:=i+1) af af;unfold own at fx;omega
  have:=fV.mZ (i:=i) (j:=j) af af;unfold own at aq;omega
 refine⟨dF,by simpa using bc.size,?_,?_,by rw[Act.zG];exact bc.defers,by rw[Act.size_put];exact bc.lg,⟨bc.rel.wf,?_,?_,?_,λi o J=>⟨(cd.rel.eb i o J).1,λb e U=>by
   rcases I5 b e U with ⟨_,h⟩|⟨_,h⟩
   ·exact(cd.rel.eb i o J).2 b e h
   ·exact(bc.rel.eb i o J).2 b e h⟩⟩,?_,?_,?_,?_,?_,?_,Nat.le_trans bc.eL cd.eL,cd.os.trans bc.os,cd.tape.trans bc.tape,cd.output.trans bc.output,Nat.le_trans bc.drawn cd.drawn,?_,?_⟩
 ·intro j k hj aH
  rw[eX] at hj ⊢;rcases hj with rfl|hj
  ·exact .inr (te k aH)
  ·exact .inr (bc.down j k hj aH)
 ·intro j hj
  rw[getD_set_ne false af];exact bc.qz j hj
 ·
  intro b e U;rcases I5 b e U with ⟨ml,cK⟩|⟨ml,cK⟩
  ·obtain⟨k,hk,h1,ad⟩:=cd.rel.c5 b e cK
   exact⟨k,(xi b ml).trans hk,h1,ad.mono I4 rfl⟩
  ·obtain⟨k,hk,h1,ad⟩:=bc.rel.c5 b e cK
   exact⟨k,hk,h1,ad.mono DA (PK b e ml cK)⟩
 ·
  intro b e k b' e' k' U cK hk cc ch;rcases rS b e U with ⟨cZ,fl,q1⟩|⟨cZ,fl,q1⟩<;>rcases rS b' e' cK with ⟨du,gb,aJ⟩|⟨du,gb,aJ⟩
  ·exact cd.rel.apart b e k b' e' k' fl gb ((xi b cZ.2).symm.trans hk) ((xi b' du.2).symm.trans cc) ch
  ·omega
  ·omega
  ·exact bc.rel.apart b e k b' e' k' fl gb hk cc ch
 ·intro b e k b' e' k' U cK hk cc aB hblk
  rcases rS b e U with ⟨cZ,fl,q1⟩|⟨cZ,fl,q1⟩<;>rcases rS b' e' cK with ⟨du,gb,aJ⟩|⟨du,gb,aJ⟩
  ·exact cd.rel.along b e k b' e' k' fl gb ((xi b cZ.2).symm.trans hk) ((xi b' du.2).symm.trans cc) aB hblk
  ·omega
  ·omega
  ·exact bc.rel.along b e k b' e' k' fl gb hk cc aB hblk
 ·intro b U
  rw[xh b af];exact bc.old b U
 ·intro b e h0 U
  rcases rS b e U with ⟨cZ,fl,_⟩|⟨cZ,fl,_⟩
  ·exact⟨i,J,(eX i).2 (.inl rfl),cZ⟩
  ·obtain⟨j,hj,kp,fx⟩:=bc.mapped b e h0 fl
   exact⟨j,hj,(eX j).2 (.inr kp),fx⟩
 ·intro j b hj hl fx
  rcases(eX j).1 hl with rfl|hl
  ·rw[zQ b fx]
   exact cd.mh b fx.1 (by rw[<-h7];exact fx.2)
  ·obtain⟨e,he⟩:=Option.ne_none_iff_exists'.1 (bc.total j b hj hl fx)
   rw[DA b e he];simp
 ·intro b e h0 U
  rcases rS b e U with ⟨cZ,fl,q1⟩|⟨cZ,fl,_⟩
  ·exact Nat.le_trans bc.eL q1
  ·exact bc.new b e h0 fl
 ·
  intro j b e b' e' hj fx I6 U cK;rcases rS b e U with ⟨cZ,fl,q1⟩|⟨cZ,fl,q1⟩<;>rcases rS b' e' cK with ⟨du,gb,aJ⟩|⟨du,gb,aJ⟩
  ·exfalso
   have:=fV.IY hj J fx cZ;subst this;exact I6 du
  ·omega
  ·omega
  ·exact bc.Dy j b e b' e' hj fx I6 fl gb
 ·
  intro k hk h6;rw[cd.keep k (Nat.lt_of_lt_of_le hk bc.eL) ?_,bc.keep k hk h6];intro b e dV U he rT;obtain⟨Xn,I7⟩:=nQ U;rcases Nat.lt_or_ge b (B 0).n with h0|h0
  ·refine h6 b e dV ?_ he ?_
   ·rw[<-bc.old b h0];exact I7
   ·rw[<-fV.pK (Nat.zero_le i) af b h0];exact rT
  ·have:=bc.new b e h0 I7
   omega
 ·
  intro t h;have qE:o.dst≠some t:=λaq=>h i J ((eX i).2 (.inl rfl)) (kt.trans aq)
  have:(a.put o.dst au).tmps.getD t undef=a.tmps.getD t undef:=by
   rcases Nat.lt_or_ge t a.tmps.size with hK|hK
   ·rw[Act.oy _ _ _ _ hK,aW qE]
   ·simp [dD,Array.getElem?_eq_none hK,Array.getElem?_eq_none (show (a.put o.dst au).tmps.size<=t by rw[Act.size_put];exact hK)]
  rw[this];exact bc.other t λj hj hl=>h j hj ((eX j).2 (.inr hl))
 ·intro j t hj hl aH
  by_cases gv:j=i
  ·subst gv
   have hK:t<N:=aM j t hj aH;have:(a.put o.dst au).tmps.getD t undef=au:=by
    rw[Act.oy _ _ _ _ (by rw[bc.lg];exact hK),aR (kt.symm.trans aH)]
   rw[this];refine aw.mono λb e U=> ?_
   unfold restrict;rw[aR (I3 b e U)];exact I4 b e U
  ·have kp:=((eX j).1 hl).resolve_left gv
   have hK:t<N:=aM j t hj aH;have:(a.put o.dst au).tmps.getD t undef=a.tmps.getD t undef:=by
    rw[Act.oy _ _ _ _ (by rw[bc.lg];exact hK),aW];intro aq;exact nS i j J hj (Ne.symm gv) t (kt.trans aq) aH
   rw[this];refine(bc.val j t hj kp aH).mono λb e U=> ?_
   obtain⟨h1,ad⟩:=nQ U;unfold restrict;rw[aR h1];exact DA b e ad
end
end AE
namespace AE
variable [aX]
section
variable {P:aC} {ops:Array Oper}
omit [aX] in
theorem PM {ro:Option Nat} {Q:Exit->Act->aj->Prop} {m:Nat} (pM:∀i j,i<ops.size->direct ops i j=true->j<i) (xj:∀i j,i<ops.size->m<=j->j<i->Du ops i j):
  ∀(a_ k:Nat) (listed:Array Bool) (a:Act) (w:aj),m<=k->listed.size=ops.size->(∀i,listed.getD i false=decide (i<k/\i<ops.size))->
   qA listed<=a_->wpListIn (Fr ro) 0 P ops Q (ops.toList.drop k) a w->wpAnyIn (Fr ro) 0 P .any ops Q a_ listed a w:=by
 intro a_
 induction a_ with
 |zero=>
  intro k listed a w I8 hs hl aB h;have hk:ops.size<=k:=by
   rcases Nat.lt_or_ge k ops.size with hk|hk
   ·exfalso
    have h1:=hl k;simp only [Nat.lt_irrefl,false_and,decide_false] at h1;have:=xe (i:=k) (listed:=listed) af (by rw[pG af];exact h1);omega
   ·exact hk
  have hr:Region.ready .any ops listed=[]:=by
   apply List.eq_nil_iff_forall_not_mem.2;intro i J;obtain⟨h0,o,ax,_⟩:=mem_ready.1 J;have kL:i<ops.size:=(Array.getElem?_eq_some_iff.1 ax).1;rw[pG af,hl i] at h0;simp [kL] at h0;omega
  rw[List.drop_of_length_le (by simpa using hk)] at h;exact⟨hr,h⟩
 |succ a_ bI=>
  intro k listed a w I8 hs hl aB h;rcases Nat.lt_or_ge k ops.size with hk|hk
  ·have xk:listed.getD k false=false:=by rw[hl k];simp
   have ax:ops[k]? =some ops[k]:=Array.getElem?_eq_getElem hk;have rU:k∈Region.ready .any ops listed:=by
    refine mem_ready.2 ⟨by rw[pG af];exact xk,ops[k],ax,λe he U=> ?_⟩;have:direct ops k e.on=true:=by
     simp only [direct,ax];exact Array.any_eq_true'.2 ⟨e,he,by simp [U]⟩
    have:=pM k e.on hk this;rw[hl e.on];simp;omega
   refine⟨λh0=>absurd (h0▸rU) (by simp),λi J=> ?_⟩;have xl:i=k:=by
    obtain⟨h0,o,jv,_⟩:=mem_ready.1 J;have kL:i<ops.size:=(Array.getElem?_eq_some_iff.1 jv).1;rw[pG af,hl i] at h0;simp only [kL,and_true,decide_eq_false_iff_not,Nat.not_lt] at h0;rcases Nat.lt_or_eq_of_le h0 with DC|DC
    ·exfalso
     have down:∀i j,listed.getD i false=true->direct ops i j=true->listed.getD j false=true:=by
      intro i j h1 ad;rw[hl i] at h1;simp only [decide_eq_true_eq] at h1;have:=pM i j h1.2 ad;rw[hl j];simp;omega
     have:=xj i k kL af DC listed down (u5 J);rw[xk] at this;cases this
    ·exact DC.symm
   subst xl;have PN:ops.toList.drop i=ops[i]::ops.toList.drop (i+1):=by
    rw[List.drop_eq_getElem_cons (by simpa using hk)];simp
   rw[PN] at h;have I9:∀aL w',wpListIn (Fr ro) 0 P ops Q (ops.toList.drop (i+1)) aL w'->wpAnyIn (Fr ro) 0 P .any ops Q a_ (listed.setIfInBounds i true) aL w':=by
    intro aL w' gD;refine bI (i+1) _ aL w' af (by simpa using hs) ?_ ?_ gD
    ·intro j
     by_cases hj:j=i
     ·subst hj
      simp [dD,hs,hk]
     ·rw[getD_set_ne false (Ne.symm hj),hl j]
      congr 1;simp only [eq_iff_iff];omega
    ·have:=xe (i:=i) (listed:=listed) af (by rw[pG af];exact xk)
     omega
   unfold wpOpIn;simp only [ax];unfold wpListIn at h;split at h
   ·rename_i hw
    rw[aR hw];exact Oper.wpIn_mono I9 h
   ·rename_i hw
    rw[aW hw];exact⟨h.1,I9 _ _ h.2⟩
  ·refine⟨λ_=> ?_,λi J=> ?_⟩
   ·rw[List.drop_of_length_le (by simpa using hk)] at h
    exact h
   ·exfalso
    obtain⟨h0,o,ax,_⟩:=mem_ready.1 J;have kL:i<ops.size:=(Array.getElem?_eq_some_iff.1 ax).1;rw[pG af,hl i] at h0;simp [kL] at h0;omega
end
section
variable {P:aC} [Lib P] [c0 P] {C:gm} {gl:bB Nat} {N:Nat} {ds:List Deferred} {ro:Option Nat} {ops:Array Oper} {m:Nat} {dv jH c8:bh} {L:List Nat} {B:Nat->aD} {vs:List I} {dC:bn} {w0:aj} {a0:Act}
theorem PO {Q:Exit->Act->aj->Prop} (cU:qC ops L m N=true) (b1:iI P gl C) (fV:kr dC B vs m) (ia:bs dC (B 0) w0) (DE:iU gl dC) (nR:et N ds dC jH a0) (I1:(B m).n<=dead)
  (fm:iV N ops (λ_=>cC) (List.range m) jH=some dv) (h1:iV N ops (λj=>vs.getD j cC) (List.range m) dv=some c8)
  (hl:∀i o,i<m->ops[i]? =some o->u9 P C gl N ops L m dv i o (vs.take i) (vs.getD i cC) (B i) (B (i+1)))
  (PQ:∀φ a w,et N ds φ c8 a->bF dC (B 0) w0 φ (B m) w->wpListIn (Fr ro) 0 P ops Q (ops.toList.drop m) a w):
  ∀(a_:Nat) (listed:Array Bool) (a:Act) (w:aj) (φ:bn),mu gl N ds ops m B vs dC w0 a0 φ listed a w->(∀j∈L,j<m->listed.getD j false=true)->qA listed<=a_->wpAnyIn (Fr ro) 0 P .any ops Q a_ listed a w:=by
 obtain⟨hm,ku,nS,aM,qm,pM,xj⟩:=zJ cU;have tail:∀(a_:Nat) (listed:Array Bool) (a:Act) (w:aj) (φ:bn),mu gl N ds ops m B vs dC w0 a0 φ listed a w->qA listed<=a_->(∀i,i<m->listed.getD i false=true)->wpAnyIn (Fr ro) 0 P .any ops Q a_ listed a w:=by
  intro a_ listed a w φ bc aB xm;refine PM pM (λi j J hj gv=>(xj i j J af gv).resolve_left af) a_ m listed a w (bM _) bc.size (λi=> ?_) aB ?_
  ·by_cases J:i<m
   ·rw[xm i J];simp;omega
   ·rw[bc.qz i af];simp;omega
  ·obtain⟨q1,aJ⟩:=bc.done fV ia nR xm fm h1
   exact PQ φ a w q1 aJ
 intro a_
 induction a_ with
 |zero=>
  intro listed a w φ bc vb aB;refine tail 0 listed a w φ bc aB λi J=> ?_
  cases h:listed.getD i false with
  |true=>rfl
  |false=>
   exfalso;have:=xe (i:=i) (listed:=listed) (by have:=bc.size;omega) (by rw[pG (by have:=bc.size;omega)];exact h);omega
 |succ a_ bI=>
  intro listed a w φ bc vb aB;by_cases xm:∀i,i<m->listed.getD i false=true
  ·exact tail (a_+1) listed a w φ bc aB xm
  ·obtain⟨i0,zL⟩:=Classical.not_forall.1 xm
   obtain⟨I',xn⟩:=Classical.not_imp.1 zL;have xn:listed.getD i0 false=false:=by simpa using xn
   have rU:Region.ready .any ops listed≠[]:=by
    have key:∀n i,i<n->i<m->listed.getD i false=false->∃k,k∈Region.ready .any ops listed:=by
     intro n
     induction n with
     |zero=>intro i J;omega
     |succ n PR=>
      intro i J pN PS;by_cases hp:∀k,direct ops i k=true->listed.getD k false=true
      ·refine⟨i,mem_ready.2 ⟨by rw[pG (by have:=bc.size;omega)];exact PS,ops[i]'(by omega),Array.getElem?_eq_getElem _,λe he U=>hp _ ?_⟩⟩
       have ax:ops[i]? =some (ops[i]'(by omega)):=Array.getElem?_eq_getElem _;simp only [direct,ax];exact Array.any_eq_true'.2 ⟨e,he,by simp [U]⟩
      ·obtain⟨k,hk⟩:=Classical.not_forall.1 hp
       obtain⟨aH,xk⟩:=Classical.not_imp.1 hk;have:=pM i k af aH;exact PR k af af (by simpa using xk)
    obtain⟨k,hk⟩:=key (i0+1) i0 af I' xn;intro h;rw[h] at hk;cases hk
   refine⟨λh0=>absurd h0 rU,λi J=> ?_⟩;obtain⟨rR,o,ax,_⟩:=mem_ready.1 J;have kL:i<ops.size:=(Array.getElem?_eq_some_iff.1 ax).1;have zR:listed.getD i false=false:=by rw[<-pG (by have:=bc.size;omega)];exact rR
   have pN:i<m:=by
    rcases Nat.lt_or_ge i m with h|h
    ·exact h
    ·exfalso
     rcases xj i i0 kL h af with ⟨xo,_⟩|ha
     ·have:=vb i0 xo I'
      rw[xn] at this;cases this
     ·have:=ha listed bc.down (u5 J)
      rw[xn] at this;cases this
   obtain⟨sl,ij,pJ⟩:=hl i o pN ax;have DF:∃aY,pD P C gl ops o sl {B i with low:=(B i).n}=some (vs.getD i cC,aY)/\(B i).n<=aY.low/\B (i+1)={aY with low:=(B i).low}:=by
    rcases pJ with ⟨xo,_⟩|⟨_,h⟩
    ·have:=vb i xo pN
     rw[zR] at this;cases this
    ·exact h
   obtain⟨aY,aw,po,oC⟩:=DF;have PT:=bc.here fV ia I1 pN;have mY:∀b e,dC b=some e->restrict φ (B i).n b=some e:=λb e U=>by
    have k_:=ia.lt U;have:=fV.mZ (Nat.zero_le i) af;unfold restrict;rw[aR af,bc.old b k_];exact U
   have u_:∀t v,sl.get t=some v->ar (restrict φ (B i).n) v (a.tmps.getD t undef):=by
    intro t v oB;rcases oz _ _ _ ij t v oB with ⟨j,hj,aH,rfl⟩|⟨xp,xf⟩
    ·have xq:=qm i o pN ax j hj
     have gv:=pM i j kL xq;have kp:=u5 J j xq;have hval:=bc.val j t af kp aH;have e1:(vs.take i).getD j cC=vs.getD j cC:=by
      simp only [de,List.getElem?_take,aR gv]
     rw[e1];exact hval.mono (I0 (fV.mZ af af))
    ·rcases oz _ _ _ fm t v xf with ⟨j,hj,aH,rfl⟩|⟨zS,tc⟩
     ·exact .cC _
     ·rw[bc.other t λj hj _=>zS j (List.mem_range.2 hj)]
      exact(nR.get t v tc).mono mY
   unfold wpOpIn;simp only [ax];refine zE b1 (PT.lower (B i).n) (DE.mono mY) u_ aw λbY au w' qv kQ=> ?_
   obtain⟨dF,rV⟩:=bc.step fV ia pN hm ax zR (u5 J) nS aM po oC qv kQ;exact bI _ _ _ dF rV (λj hj eF=>by
    by_cases gv:j=i
    ·subst gv
     have:=bc.size;simp [dD,show j<listed.size by omega]
    ·rw[getD_set_ne false (Ne.symm gv)]
     exact vb j hj eF) (by
    have:=xe (i:=i) (listed:=listed) (by have:=bc.size;omega) rR
    omega)
end
section
variable {P:aC} [Lib P] [c0 P] {C:gm} {gl:bB Nat} {N:Nat} {ds:List Deferred} {ro:Option Nat} {ops:Array Oper} {m:Nat} {dv jH:bh} {L:List Nat} {B:Nat->aD} {vs:List I} {dC:bn} {w0:aj} {a0:Act}
omit [Lib P] [c0 P] in
theorem mu.PU {φ:bn} {listed:Array Bool} {a:Act} {w:aj} (bc:mu gl N ds ops m B vs dC w0 a0 φ listed a w) {i:Nat} {o:Oper} (J:i<m) (hm:m<=ops.size) (ax:ops[i]? =some o) (rR:listed.getD i false=false)
  (te:∀k,direct ops i k=true->listed.getD k false=true) (nS:∀i j,i<m->j<m->i≠j->∀t,e5 ops i=some t->e5 ops j≠some t) (aM:∀i t,i<m->e5 ops i=some t->t<N)
  (oC:B (i+1)=B i) {au:I} (aw:ar (restrict φ (B i).n) (vs.getD i cC) au):mu gl N ds ops m B vs dC w0 a0 φ (listed.setIfInBounds i true) (a.put o.dst au) w:=by
 have kt:e5 ops i=o.dst:=by simp [e5,ax]
 have eX:∀j,(listed.setIfInBounds i true).getD j false=true↔j=i\/listed.getD j false=true:=by
  intro j;by_cases hj:j=i
  ·subst hj
   have:=bc.size;simp [dD,show j<listed.size by omega]
  ·rw[getD_set_ne false (Ne.symm hj)]
   simp [hj]
 refine⟨by simpa using bc.size,?_,?_,by rw[Act.zG];exact bc.defers,by rw[Act.size_put];exact bc.lg,bc.rel,bc.old,?_,?_,bc.new,bc.Dy,bc.keep,bc.eL,bc.os,bc.tape,bc.output,bc.drawn,?_,?_⟩
 ·intro j k hj aH
  rw[eX] at hj ⊢;rcases hj with rfl|hj
  ·exact .inr (te k aH)
  ·exact .inr (bc.down j k hj aH)
 ·intro j hj
  rw[getD_set_ne false af];exact bc.qz j hj
 ·intro b e h0 U
  obtain⟨j,hj,kp,fx⟩:=bc.mapped b e h0 U;exact⟨j,hj,(eX j).2 (.inr kp),fx⟩
 ·intro j b hj hl fx
  rcases(eX j).1 hl with rfl|hl
  ·exfalso
   unfold own at fx;rw[oC] at fx;omega
  ·exact bc.total j b hj hl fx
 ·intro t h
  have qE:o.dst≠some t:=λaq=>h i J ((eX i).2 (.inl rfl)) (kt.trans aq)
  have:(a.put o.dst au).tmps.getD t undef=a.tmps.getD t undef:=by
   rcases Nat.lt_or_ge t a.tmps.size with hK|hK
   ·rw[Act.oy _ _ _ _ hK,aW qE]
   ·simp [dD,Array.getElem?_eq_none hK,Array.getElem?_eq_none (show (a.put o.dst au).tmps.size<=t by rw[Act.size_put];exact hK)]
  rw[this];exact bc.other t λj hj hl=>h j hj ((eX j).2 (.inr hl))
 ·intro j t hj hl aH
  by_cases gv:j=i
  ·subst gv
   have hK:t<N:=aM j t hj aH;have:(a.put o.dst au).tmps.getD t undef=au:=by
    rw[Act.oy _ _ _ _ (by rw[bc.lg];exact hK),aR (kt.symm.trans aH)]
   rw[this,oC];exact aw
  ·have kp:=((eX j).1 hl).resolve_left gv
   have hK:t<N:=aM j t hj aH;have:(a.put o.dst au).tmps.getD t undef=a.tmps.getD t undef:=by
    rw[Act.oy _ _ _ _ (by rw[bc.lg];exact hK),aW];intro aq;exact nS i j J hj (Ne.symm gv) t (kt.trans aq) aH
   rw[this];exact bc.val j t hj kp aH
theorem PV {Q:Exit->Act->aj->Prop} (cU:qC ops L m N=true) (cS:lQ P) (fV:kr dC B vs m) (ia:bs dC (B 0) w0) (DE:iU gl dC) (nR:et N ds dC jH a0)
  (fm:iV N ops (λ_=>cC) (List.range m) jH=some dv) (lh:∀c a w,¬Q (.panic c) a w)
  (hl:∀i o,i<m->ops[i]? =some o->u9 P C gl N ops L m dv i o (vs.take i) (vs.getD i cC) (B i) (B (i+1)))
  (rW:∀(a_:Nat) (listed:Array Bool) (a:Act),mu gl N ds ops m B vs dC w0 a0 dC listed a w0->(∀j∈L,j<m->listed.getD j false=true)->qA listed<=a_->wpAnyIn (Fr ro) 0 P .any ops Q a_ listed a w0):
  ∀(r:List Nat) (a_:Nat) (listed:Array Bool) (a:Act),(r≠[]->ro=none)->pH ops r listed=true->(∀i∈r,i∈L/\i<m)->(∀j∈L,j<m->listed.getD j false=true\/j∈r)->mu gl N ds ops m B vs dC w0 a0 dC listed a w0->
   qA listed<=a_->wpAnyIn (Fr ro) 0 P .any ops Q a_ listed a w0:=by
 obtain⟨hm,ku,nS,aM,qm,pM,xj⟩:=zJ cU;intro r
 induction r with
 |nil=>
  intro a_ listed a _ _ _ hL bc aB;exact rW a_ listed a bc (λj hj eF=>(hL j hj eF).resolve_right (by simp)) aB
 |cons i r bI=>
  intro a_ listed a cy qF hr hL bc aB;have xr:ro=none:=cy (by simp);obtain⟨xo,pN⟩:=hr i List.mem_cons_self;simp only [pH,b4] at qF;obtain⟨⟨rU,tf⟩,lS,qF⟩:=qF;have J:i∈Region.ready .any ops listed:=by simpa using rU
  obtain⟨rR,o,ax,_⟩:=mem_ready.1 J;have kL:i<ops.size:=(Array.getElem?_eq_some_iff.1 ax).1;have zR:listed.getD i false=false:=by rw[<-pG (by have:=bc.size;omega)];exact rR
  rw[ax] at lS;simp only at lS;have Xo:=xe (i:=i) (listed:=listed) (by have:=bc.size;omega) rR;cases a_ with
  |zero=>omega
  |succ a_=>
   obtain⟨sl,ij,pJ⟩:=hl i o pN ax;have DF:qB P (dh gl sl) o=some (vs.getD i cC)/\B (i+1)=B i:=by
    rcases pJ with ⟨_,h⟩|⟨ah,_⟩
    ·exact h
    ·exact absurd xo ah
   obtain⟨ou,oC⟩:=DF;have mY:∀b e,dC b=some e->restrict dC (B i).n b=some e:=λb e U=>by
    have k_:=ia.lt U;have:=fV.mZ (Nat.zero_le i) af;unfold restrict;rw[aR af];exact U
   have u_:∀t v,sl.get t=some v->ar (restrict dC (B i).n) v (a.tmps.getD t undef):=by
    intro t v oB;rcases oz _ _ _ ij t v oB with ⟨j,hj,aH,rfl⟩|⟨xp,xf⟩
    ·have xq:=qm i o pN ax j hj
     have gv:=pM i j kL xq;have kp:=u5 J j xq;have hval:=bc.val j t af kp aH;have e1:(vs.take i).getD j cC=vs.getD j cC:=by
      simp only [de,List.getElem?_take,aR gv]
     rw[e1];exact hval.mono (I0 (fV.mZ af af))
    ·rcases oz _ _ _ fm t v xf with ⟨j,hj,aH,rfl⟩|⟨zS,tc⟩
     ·exact .cC _
     ·rw[bc.other t λj hj _=>zS j (List.mem_range.2 hj)]
      exact(nR.get t v tc).mono mY
   obtain⟨au,eo,aw⟩:=zH cS (fy (DE.mono mY) u_) ou;have tg:Region.wanted o (yielded ops a.tmps)=true:=by
    unfold s' at lS;unfold Region.wanted;cases av:o.guard with
    |none=>rfl
    |some g=>rw[av] at lS;simp at lS
   have DG:∀w,o.about P w a.eval=none:=by
    intro w;unfold Oper.about;unfold s' at lS;cases ct:o.op<;>simp only [ct,Bool.and_false,Bool.false_eq_true] at lS ⊢
   have DH:YieldsFenced P ops o au a:=⟨.inl ⟨tg,eo⟩,DG⟩;refine wpAnyIn_take (F:=Fr ro) (by rw[xr];rfl) ax ku tf rU (λc a w h=>absurd h (lh c _ w)) DH ?_;refine bI a_ _ _ (λ_=>xr) qF (λk hk=>hr k (List.mem_cons_of_mem _ hk)) (λj hj eF=> ?_) (bc.PU pN hm ax zR (u5 J) nS aM oC aw) af;by_cases gv:j=i
   ·subst gv
    refine .inl ?_;have:=bc.size;simp [dD,show j<listed.size by omega]
   ·rw[getD_set_ne false (Ne.symm gv)]
    rcases hL j hj eF with h|h
    ·exact .inl h
    ·rcases List.mem_cons.1 h with rfl|h
     ·exact absurd rfl gv
     ·exact .inr h
end
omit [aX] in
theorem PW {ops:Array Oper} {N:Nat} {eJ:Bool} {L:List Nat} {m:Nat} (h:Dw ops N eJ=some (L,m)):
  qC ops L m N=true/\pH ops L (Array.replicate ops.size false)=true/\(∀i∈L,i<m)/\(eJ=true->L=[]):=by
 unfold Dw at h;simp only at h;generalize hm:Dv (IV (bif eJ then [] else oA ops)) ops.toList 0 [] 0=m' at h;generalize hL:(bif eJ then [] else oA ops).filter (λi=>Nat.blt i m')=L' at h;cases U:(qC ops L' m' N&&pH ops L' (Array.replicate ops.size false)) with
 |false=>rw[U] at h;cases h
 |true=>
  rw[U] at h;cases h;simp only [b4] at U;refine⟨U.1,U.2,λi J=> ?_,λhr=> ?_⟩
  ·rw[<-hL] at J
   exact Nat.blt_eq.mp (List.mem_filter.1 J).2
  ·rw[<-hL,hr];rfl
section
variable {P:aC} [Lib P] [c0 P] {C:gm} {gl:bB Nat} {N:Nat}
theorem I_ (cn:P.follows .mixedOrders=true) (b1:iI P gl C) {ro:Option Nat} {ds:List Deferred} {Q:Exit->Act->aj->Prop} {id:Nat} {ops:Array Oper} {sl cW:bh} {A aO:aD} {r:List Oper} {φ:bn} {w:aj} {a:Act} (hr:bs φ A w) (av:iU gl φ) (hs:et N ds φ sl a) {eJ:Bool} (cy:eJ=false->ro=none) (lh:∀c a w,¬Q (.panic c) a w)
  (h:zK P C gl N eJ ops sl A=some (cW,aO,r)) (b2:∀bY aL w',et N ds bY cW aL->bF φ A w bY aO w'->wpListIn (Fr ro) 0 P ops Q r aL w'):(Code.region id ops true).wpIn (Fr ro) 0 P Q a w:=by
 unfold zK at h;split at h
 ·rename_i L m IX
  obtain⟨cU,xt,PX,PY⟩:=PW IX;have PZ:m<=ops.size:=(zJ cU).1;split at h
  ·rename_i dv fm
   split at h
   ·rename_i vs aY cS
    cases U:Nat.ble aY.n dead with
    |false=>rw[U] at h;cases h
    |true=>
     rw[U,a7] at h;split at h
     ·rename_i c8 h1
      cases h;obtain⟨B,d',eH,fK,km,mO⟩:=IW _ 0 [] _ _ _ rfl cS;have hlen:(ops.toList.take m).length=m:=by simp;omega
      rw[hlen] at eH;subst d';have hl:∀i o,i<m->ops[i]? =some o->u9 P C gl N ops L m dv i o (vs.take i) (vs.getD i cC) (B i) (B (i+1)):=by
       intro i o J ax;have:=mO i o (by rw[List.getElem?_take,aR J];simpa using ax);simpa using this
      have ia:bs φ (B 0) {w with drawn:=w.drawn+1}:=(bF.rA hr (w.drawn+1)).rel;obtain⟨_,_,_,_,qm,pM,_⟩:=zJ cU;have fV:kr φ B vs m:=PB b1 ia av rfl PZ (λt v aw=>⟨_,hs.get t v aw⟩) fm (λi o J ax j hj=>pM i j af (qm i o J ax j hj)) hl;refine wpIn_region_any cn ?_;refine PV cU b1.facts fV ia av hs fm lh hl (λa_ listed a2 rV vb P0=>PO cU b1 fV ia av hs (by rw[eH];exact Nat.ble_eq.mp U) fm h1 hl (λeE db w1 q1 aJ=> ?_) a_ listed a2 _ φ rV vb P0) L ops.size _ a ?_ xt (λi J=>⟨J,PX i J⟩) (λj hj _=> .inr hj) ?_ ?_
      ·rw[eH] at aJ
       exact b2 eE db w1 q1 (bF.trans hr (bF.rA hr (w.drawn+1)) aJ)
      ·intro ch
       refine cy ?_;cases zT:eJ with
       |false=>rfl
       |true=>exact absurd (PY zT) ch
      ·have aB:∀i,(Array.replicate ops.size false).getD i false=false:=λi=>by
        rw[dD,Array.getElem?_replicate];split<;>rfl
       have DI:∀b e,φ b=some e->¬(B 0).n<=b:=λb e U=>by have:=ia.lt U;omega
       refine⟨by simp,λi j J=>absurd J (by rw[aB];simp),λi _=>aB i,hs.defers,hs.size,?_,λ_ _=>rfl,λb e h0 U=>absurd h0 (DI b e U),λj b _ hl=>absurd hl (by rw[aB];simp),
        λb e h0 U=>absurd h0 (DI b e U),λj b e b' e' hj ax _ U=> ?_,λ_ _ _=>rfl,bM _,rfl,rfl,rfl,bM _,λ_ _=>rfl,λi t _ hl=>absurd hl (by rw[aB];simp)⟩
       ·obtain⟨ψ,w',g1,_⟩:=fV.ex m (bM _)
        refine⟨g1.wf,λb e U=> ?_,λb e k b' e' k' U cK hk cc ch=> ?_,λb e k b' e' k' U cK hk cc aB hblk=> ?_,ia.eb⟩
        ·obtain⟨k,hk,q1,aJ⟩:=ia.c5 b e U
         exact⟨k,by rw[fV.pK (Nat.zero_le m) (bM _) b (ia.lt U)];exact hk,q1,aJ⟩
        ·rw[fV.pK (Nat.zero_le m) (bM _) b (ia.lt U)] at hk
         rw[fV.pK (Nat.zero_le m) (bM _) b' (ia.lt cK)] at cc;exact ia.apart b e k b' e' k' U cK hk cc ch
        ·rw[fV.pK (Nat.zero_le m) (bM _) b (ia.lt U)] at hk
         rw[fV.pK (Nat.zero_le m) (bM _) b' (ia.lt cK)] at cc;exact ia.along b e k b' e' k' U cK hk cc aB hblk
       ·exfalso
        have:=fV.mZ (Nat.zero_le j) af;exact DI b e U (Nat.le_trans this ax.1)
      ·unfold qA
       exact Nat.le_trans List.count_le_length (by simp)
     ·cases h
   ·cases h
  ·cases h
 ·cases h
theorem P1 (cn:P.follows .mixedOrders=true) (b1:iI P gl C) {ro:Option Nat} {ds:List Deferred} {Q:Exit->Act->aj->Prop} {id:Nat} {ops:Array Oper} {sl cW:bh} {A aO:aD} {φ:bn} {w:aj} {a:Act} (hr:bs φ A w) (av:iU gl φ) (hs:et N ds φ sl a) {eJ:Bool} (cy:eJ=false->ro=none) (lh:∀c a w,¬Q (.panic c) a w)
  (h:Dx P C gl N eJ ops sl A=some (cW,aO)) (b2:∀bY aL w',et N ds bY cW aL->bF φ A w bY aO w'->Q .normal aL w'):(Code.region id ops true).wpIn (Fr ro) 0 P Q a w:=by
 unfold Dx at h;split at h
 ·rename_i c8 aY r h1
  refine I_ cn b1 hr av hs cy lh h1 λeE db w1 q1 aJ=> ?_
  refine Dr b1 _ _ _ _ _ _ _ _ aJ.rel (av.mono (aJ.ext hr)) q1 h λdF a2 cQ cH dj=> ?_
  exact b2 dF a2 cQ cH (bF.trans hr aJ dj)
 ·cases h
end
end AE
namespace AE
mutual
def pO:I->I->Bool
 | .bool a,.bool b=>a==b
 | .int k n,.int k' dS=>decide (k=k')&&decide (n=dS)
 | .complex k a b,.complex k' aL b'=>decide (k=k')&&(Nat.beq a aL&&Nat.beq b b')
 | .string s,.string t=>s.data.toList==t.data.toList
 | .pointer none,.pointer none=>true
 | .pointer (some ⟨b,o,none⟩),.pointer (some ⟨b',o',none⟩)=>Nat.beq b b'&&Nat.beq o o'
 | .slice none l c,.slice none l' c'=>Nat.beq l l'&&Nat.beq c c'
 | .slice (some ⟨b,o,none⟩) l c,.slice (some ⟨b',o',none⟩) l' c'=>(Nat.beq b b'&&Nat.beq o o')&&(Nat.beq l l'&&Nat.beq c c')
 | .map none,.map none=>true
 | .map (some a),.map (some b)=>Nat.beq a b
 | .nilFunc,.nilFunc=>true
 | .nilIface,.nilIface=>true
 | .func (.func f) ⟨a⟩ ⟨b⟩,.func (.func g) ⟨aL⟩ ⟨b'⟩=>Nat.beq f g&&(nT a aL&&nT b b')
 | .func (.yield f) ⟨a⟩ ⟨b⟩,.func (.yield g) ⟨aL⟩ ⟨b'⟩=>Nat.beq f g&&(nT a aL&&nT b b')
 | .iface t v,.iface cq au=>Nat.beq t cq&&pO v au
 | .agg ⟨l⟩,.agg ⟨l'⟩=>nT l l'
 | .tuple ⟨l⟩,.tuple ⟨l'⟩=>nT l l'
 |_,_=>false
def nT:List I->List I->Bool
 |[],[]=>true
 |v::r,au::cR=>pO v au&&nT r cR
 |_,_=>false
end
mutual
theorem xu:∀(a b:I),pO a b=true->a=b:=by
 intro a b h;unfold pO at h;split at h<;>try (simp only [b4,decide_eq_true_eq] at h)
 ·rw[eq_of_beq h]
 ·rw[h.1,h.2]
 ·rw[h.1,bJ h.2.1,bJ h.2.2]
 ·rename_i s t
  have:=eq_of_beq h;obtain⟨⟨s⟩⟩:=s;obtain⟨⟨t⟩⟩:=t;simp only at this;rw[this]
 ·rfl
 ·rw[bJ h.1,bJ h.2]
 ·rw[bJ h.1,bJ h.2]
 ·rw[bJ h.1.1,bJ h.1.2,bJ h.2.1,bJ h.2.2]
 ·rfl
 ·rw[bJ h]
 ·rfl
 ·rfl
 ·rw[bJ h.1,rX _ _ h.2.1,rX _ _ h.2.2]
 ·rw[bJ h.1,rX _ _ h.2.1,rX _ _ h.2.2]
 ·rename_i t v cq au
  rw[bJ h.1,xu v au h.2]
 ·rw[rX _ _ h]
 ·rw[rX _ _ h]
 ·cases h
theorem rX:∀(a b:List I),nT a b=true->a=b
 |[],[],_=>rfl
 |v::r,au::cR,h=>by
  unfold nT at h;simp only [b4] at h;rw[xu v au h.1,rX r cR h.2]
 |[],_::_,h=>by simp [nT] at h
 |_::_,[],h=>by simp [nT] at h
end
def P2 {α:Type} (f:α->α->Bool):Option α->Option α->Bool
 |none,none=>true
 |some a,some b=>f a b
 |_,_=>false
def ti {α:Type} (f:α->α->Bool):bB α->bB α->Bool
 | .nil,.nil=>true
 | .node v l r,.node au l' cR=>P2 f v au&&(ti f l l'&&ti f r cR)
 |_,_=>false
theorem xv {α:Type} {f:α->α->Bool} (aB:∀a b,f a b=true->a=b):∀(a b:bB α),ti f a b=true->a=b
 | .nil,.nil,_=>rfl
 | .nil,.node _ _ _,h=>by cases h
 | .node _ _ _,.nil,h=>by cases h
 | .node v l r,.node au l' cR,h=>by
   unfold ti at h;simp only [b4] at h;rw[xv aB l l' h.2.1,xv aB r cR h.2.2];have h1:=h.1;cases v with
   |none=>cases au with
    |none=>rfl
    |some b=>cases h1
   |some a=>cases au with
    |none=>cases h1
    |some b=>rw[aB a b h1]
def Ja (a b:hd):Bool:=pO a.key b.key&&(pO a.val b.val&&Nat.beq a.born b.born)
def zU:List hd->List hd->Bool
 |[],[]=>true
 |a::r,b::cR=>Ja a b&&zU r cR
 |_,_=>false
theorem Jb:∀(a b:List hd),zU a b=true->a=b
 |[],[],_=>rfl
 |[],_::_,h=>by cases h
 |_::_,[],h=>by cases h
 |⟨k,v,n⟩::r,⟨k',au,dS⟩::cR,h=>by
  unfold zU Ja at h;simp only [b4] at h;rw[xu _ _ h.1.1,xu _ _ h.1.2.1,bJ h.1.2.2,Jb r cR h.2]
def DJ:lG->lG->Bool
 | .cells c,.cells c'=>nT c c'
 | .map es cl,.map cj P3=>zU es cj&&Nat.beq cl P3
 | .dE (.qe s p),.dE (.qe dp p')=>s.data.toList==dp.data.toList&&Nat.beq p p'
 | .dE .deferred,.dE .deferred=>true
 | .dE .gone,.dE .gone=>true
 |_,_=>false
theorem P4 {a b:lG} (h:DJ a b=true):a=b:=by
 unfold DJ at h;split at h<;>try (simp only [b4] at h)
 ·rw[rX _ _ h]
 ·rw[Jb _ _ h.1,bJ h.2]
 ·rename_i s p dp p'
  have:=eq_of_beq h.1;obtain⟨⟨s⟩⟩:=s;obtain⟨⟨dp⟩⟩:=dp;simp only at this;rw[this,bJ h.2]
 ·rfl
 ·rfl
 ·cases h
def DK (a b:fq):Bool:=DJ a.obj b.obj&&((Nat.beq a.bQ b.bQ&&Nat.beq a.pos b.pos)&&((Nat.beq a.da b.da&&Nat.beq a.ty b.ty)&&a.ro==b.ro))
theorem P5 {a b:fq} (h:DK a b=true):a=b:=by
 obtain⟨o,f,p,s,r,t⟩:=a;obtain⟨o',gL,p',dp,cR,cq⟩:=b;unfold DK at h;simp only [b4] at h;obtain⟨h1,⟨ad,al⟩,⟨bb,b5⟩,cE⟩:=h;rw[P4 h1,bJ ad,bJ al,bJ bb,bJ b5,eq_of_beq cE]
def zV:List Nat->List Nat->Bool
 |[],[]=>true
 |a::r,b::cR=>Nat.beq a b&&zV r cR
 |_,_=>false
theorem Jc:∀(a b:List Nat),zV a b=true->a=b
 |[],[],_=>rfl
 |[],_::_,h=>by cases h
 |_::_,[],h=>by cases h
 |a::r,b::cR,h=>by
  unfold zV at h;simp only [b4] at h;rw[bJ h.1,Jc r cR h.2]
def DL (x y:bh×aD):Bool:=ti pO x.1 y.1&&((ti DK x.2.bl y.2.bl&&ti zV x.2.mem y.2.mem)&&(Nat.beq x.2.n y.2.n&&Nat.beq x.2.low y.2.low))
theorem P6 {x y:bh×aD} (h:DL x y=true):x=y:=by
 obtain⟨sl,bl,n,mem,low⟩:=x;obtain⟨cW,Xp,dS,Xq,Xr⟩:=y;unfold DL at h;simp only [b4] at h;obtain⟨h1,⟨ad,al⟩,bb,b5⟩:=h;rw[xv xu _ _ h1,xv (λ_ _=>P5) _ _ ad,xv Jc _ _ al,bJ bb,bJ b5]
def tj (P:aC) [Lib P] [c0 P] (C:gm) (gl:bB Nat) (N:Nat) (ops:Array Oper):Nat->Array Bool->bh->aD->Option (bh×aD)
 |0,listed,sl,A=>match Region.ready .any ops listed with
  |[]=>some (sl,A)
  |_::_=>none
 |f+1,listed,sl,A=>
  let go:=λi=>match ops[i]? with
   |some o=>match pE P C gl N ops o sl A with
    |some (c8,aY)=>tj P C gl N ops f (listed.setIfInBounds i true) c8 aY
    |none=>none
   |none=>none
  match Region.ready .any ops listed with
  |[]=>some (sl,A)
  |i::r=>match go i with
   |some x=>match r.all (λj=>match go j with|some y=>DL x y|none=>false) with
    |true=>some x
    |false=>none
   |none=>none
def zW (P:aC) [c0 P] (gl:bB Nat) (N:Nat) (ops:Array Oper):List Nat->bh->Option bh
 |[],sl=>some sl
 |i::r,sl=>match ops[i]? with
  |some o=>match qB P (dh gl sl) o with
   |some v=>match hE N sl o.dst v with
    |some c8=>zW P gl N ops r c8
    |none=>none
   |none=>none
  |none=>none
def zX:List Nat->Array Bool->Array Bool
 |[],l=>l
 |i::r,l=>zX r (l.setIfInBounds i true)
def zY (P:aC) [Lib P] [c0 P] (C:gm) (gl:bB Nat) (N:Nat) (eJ:Bool) (ops:Array Oper) (sl:bh) (A:aD):Option (bh×aD):=
 let L:=bif eJ then [] else oA ops
 bif Nat.ble ops.size (L.length+64)&&(Region.noSelect ops&&(pH ops L (Array.replicate ops.size false)&&Nat.ble L.length ops.size)) then
  match zW P gl N ops L sl with
  |some c8=>tj P C gl N ops (ops.size-L.length) (zX L (Array.replicate ops.size false)) c8 A
  |none=>none
 else none
variable [aX]
section
variable {P:aC} [Lib P] [c0 P] {C:gm} {gl:bB Nat} {N:Nat} {ds:List Deferred} {ro:Option Nat} {ops:Array Oper} {Q:Exit->Act->aj->Prop}
theorem Jd (b1:iI P gl C):∀(f:Nat) (listed:Array Bool) (sl cW:bh) (A aO:aD) (φ:bn) (w:aj) (a:Act),bs φ A w->iU gl φ->et N ds φ sl a->tj P C gl N ops f listed sl A=some (cW,aO)->
  (∀bY aL w',et N ds bY cW aL->bF φ A w bY aO w'->Q .normal aL w')->wpAnyIn (Fr ro) 0 P .any ops Q f listed a w
 |0,listed,sl,cW,A,aO,φ,w,a,hr,av,hs,h,b2=>by
  unfold tj at h;split at h
  ·rename_i pP
   cases h;exact wpAnyIn_done pP (b2 φ a w hs (bF.refl hr)) 0
  ·cases h
 |f+1,listed,sl,cW,A,aO,φ,w,a,hr,av,hs,h,b2=>by
  unfold tj at h;simp only at h;split at h
  ·rename_i pP
   cases h;exact wpAnyIn_done pP (b2 φ a w hs (bF.refl hr)) _
  ·rename_i i r pP
   have h6:∀j∈i::r,(match ops[j]? with
     |some o=>match pE P C gl N ops o sl A with
      |some (c8,aY)=>tj P C gl N ops f (listed.setIfInBounds j true) c8 aY
      |none=>none
     |none=>none)=some (cW,aO):=by
    split at h
    ·rename_i x ag
     split at h
     ·rename_i U
      cases h;intro j hj;rcases List.mem_cons.1 hj with rfl|hj
      ·exact ag
      ·have cK:=List.all_eq_true.1 U j hj
       revert cK;generalize (match ops[j]? with
        |some o=>match pE P C gl N ops o sl A with
         |some (c8,aY)=>tj P C gl N ops f (listed.setIfInBounds j true) c8 aY
         |none=>none
        |none=>none)=z
       intro cK;cases z with
       |none=>cases cK
       |some y=>rw[P6 cK]
     ·cases h
    ·cases h
   refine wpAnyIn_all pP (by simp) λj hj=> ?_
   have ey:=h6 j hj;split at ey
   ·rename_i o ax
    split at ey
    ·rename_i c8 aY cd
     obtain⟨v,aw,hp⟩:=Dp cd;unfold wpOpIn;rw[ax];refine zE b1 hr av hs.get aw λbY au w' qv kQ=> ?_
     exact Jd b1 f _ c8 cW aY aO bY w' (a.put o.dst au) kQ.rel (av.mono (kQ.ext hr)) ((hs.mono (kQ.ext hr)).put qv hp) ey λdF a2 cQ h1 ad=>b2 dF a2 cQ h1 (bF.trans hr kQ ad)
    ·cases ey
   ·cases ey
omit [Lib P] in
theorem Je (cS:lQ P) (ku:Region.noSelect ops=true) (xr:ro=none) (lh:∀c a w,¬Q (.panic c) a w) {φ:bn} {w:aj} (av:iU gl φ):∀(L:List Nat) (a_:Nat) (listed:Array Bool) (sl cW:bh) (a:Act),et N ds φ sl a->pH ops L listed=true->zW P gl N ops L sl=some cW->
  (∀aL,et N ds φ cW aL->wpAnyIn (Fr ro) 0 P .any ops Q a_ (zX L listed) aL w)->wpAnyIn (Fr ro) 0 P .any ops Q (a_+L.length) listed a w
 |[],a_,listed,sl,cW,a,hs,_,h,b2=>by
  cases h;exact b2 a hs
 |i::r,a_,listed,sl,cW,a,hs,qF,h,b2=>by
  simp only [pH,b4] at qF;obtain⟨⟨rU,tf⟩,lS,qF⟩:=qF;unfold zW at h;split at h
  ·rename_i o ax
   rw[ax] at lS;simp only at lS;split at h
   ·rename_i v ou
    split at h
    ·rename_i c8 dx
     obtain⟨au,eo,aw⟩:=zH cS (fy av hs.get) ou;have tg:Region.wanted o (yielded ops a.tmps)=true:=by
      unfold s' at lS;unfold Region.wanted;cases av:o.guard with
      |none=>rfl
      |some g=>rw[av] at lS;simp at lS
     have DG:∀w,o.about P w a.eval=none:=by
      intro w;unfold Oper.about;unfold s' at lS;cases ct:o.op<;>simp only [ct,Bool.and_false,Bool.false_eq_true] at lS ⊢
     have DH:YieldsFenced P ops o au a:=⟨.inl ⟨tg,eo⟩,DG⟩;show wpAnyIn (Fr ro) 0 P .any ops Q (a_+r.length+1) listed a w;refine wpAnyIn_take (F:=Fr ro) (by rw[xr];rfl) ax ku tf rU (λc a w h=>absurd h (lh c _ w)) DH ?_;exact Je cS ku xr lh av r a_ _ c8 cW (a.put o.dst au) (hs.put aw dx) qF h b2
    ·cases h
   ·cases h
  ·cases h
theorem Jf (cn:P.follows .mixedOrders=true) (b1:iI P gl C) {id:Nat} {sl cW:bh} {A aO:aD} {φ:bn} {w:aj} {a:Act} (hr:bs φ A w) (av:iU gl φ) (hs:et N ds φ sl a) {eJ:Bool} (cy:eJ=false->ro=none) (lh:∀c a w,¬Q (.panic c) a w)
  (h:zY P C gl N eJ ops sl A=some (cW,aO)) (b2:∀bY aL w',et N ds bY cW aL->bF φ A w bY aO w'->Q .normal aL w'):(Code.region id ops true).wpIn (Fr ro) 0 P Q a w:=by
 unfold zY at h;simp only at h;cases U:(Nat.ble ops.size ((bif eJ then [] else oA ops).length+64)&&(Region.noSelect ops&&(pH ops (bif eJ then [] else oA ops) (Array.replicate ops.size false)&&Nat.ble (bif eJ then [] else oA ops).length ops.size))) with
 |false=>rw[U] at h;cases h
 |true=>
  rw[U,a7] at h;simp only [b4] at U;obtain⟨_,ku,xt,hle⟩:=U;have DM:=Nat.ble_eq.mp hle;split at h
  ·rename_i c8 aE
   have cd:=bF.rA hr (w.drawn+1) (Nat.le_succ _);refine wpIn_region_any cn ?_;have rW:∀aL,et N ds φ c8 aL->wpAnyIn (Fr ro) 0 P .any ops Q (ops.size-(bif eJ then [] else oA ops).length) (zX (bif eJ then [] else oA ops) (Array.replicate ops.size false)) aL {w with drawn:=w.drawn+1}:=
    λaL mX=>Jd b1 _ _ c8 cW A aO φ _ aL cd.rel av mX h λdF a2 cQ h1 ad=>b2 dF a2 cQ h1 (bF.trans hr cd ad)
   cases tk:eJ with
   |true=>
    rw[tk] at aE rW;simp only [a7,List.length_nil,Nat.sub_zero] at aE rW;cases aE;exact rW a hs
   |false=>
    rw[tk] at aE rW xt DM;simp only [cV] at aE rW xt DM;have:=Je b1.facts ku (cy tk) lh av (oA ops) (ops.size-(oA ops).length) _ sl c8 a hs xt aE rW
    rwa [Nat.sub_add_cancel DM] at this
  ·cases h
end
end AE
namespace AE
variable [aX]
def aD.vd (A:aD) (b:Nat) (x:uA):Option aD:=
 match A.bl.get b with
 |some k=>match k.obj,A.mem.get k.bQ with
  | .dE _,some [m]=>bif Nat.beq m b&& !k.ro then
      match bB.set {k with obj:= .dE x} depth A.bl b with
      |some t=>some {A with bl:=t,low:=Nat.min A.low b}
      |none=>none
    else none
  |_,_=>none
 |none=>none
def aD.getLoop (A:aD) (b:Nat):Option sJ:=
 match A.bl.get b with
 |some k=>match k.obj with
  | .dE (.loop dL)=>some dL
  |_=>none
 |none=>none
section
variable {P:aC} {φ:bn} {A aO:aD} {w:aj}
theorem zZ (hr:bs φ A w) {b:Nat} {x:uA} {e:fj} {o':Obj} (he:φ b=some e) (h:A.vd b x=some aO) (ax:mg φ x o'):bF φ A w φ aO {w with heap:=w.heap.setIfInBounds e.aU o'}:=by
 unfold aD.vd at h;split at h
 ·rename_i k hk
  split at h
  ·rename_i zp m dQ j0
   cases ao:(Nat.beq m b&& !k.ro) with
   |false=>rw[ao] at h;cases h
   |true=>
    rw[ao,a7] at h;simp only [b4,Bool.not_eq_true'] at ao;have w5:m=b:=bJ ao.1;subst w5;have cy:=ao.2;split at h
    ·rename_i t aE
     cases h;have eU:=λj=>bB.jY _ _ _ _ _ j aE
     obtain⟨k0,fU,cd,nM⟩:=hr.c5 m e he;rw[hk] at fU;cases fU;have aM:=nM.lt;have C4:∀j bu,A.bl.get j=some bu->bu.bQ=k.bQ->j=m:=by
      intro j bu hj aB;obtain⟨l,q1,aJ⟩:=hr.wf.mem j bu hj;rw[aB,j0] at q1;cases q1;simpa using aJ
     have ch:∀j dR,j≠m->φ j=some dR->dR.aU≠e.aU:=by
      intro j dR hj ft;obtain⟨bu,ff,_,_⟩:=hr.c5 j dR ft;exact hr.apart j dR bu m e k ft he ff hk λaB=>hj (C4 j bu ff aB)
     have k7:∀i,i≠e.aU->(w.heap.setIfInBounds e.aU o')[i]? =w.heap[i]? :=λi J=>by
      rw[Array.getElem?_setIfInBounds_ne (Ne.symm J)]
     have eM:∀j cA,t.get j=some cA->∃bu,A.bl.get j=some bu/\cA.bQ=bu.bQ/\cA.pos=bu.pos/\cA.ro=bu.ro:=by
      intro j cA hj;rw[eU] at hj;by_cases eF:j=m
      ·rw[aR eF] at hj
       cases hj;subst eF;exact⟨k,hk,rfl,rfl,rfl⟩
      ·rw[aW eF] at hj
       exact⟨cA,hj,rfl,rfl,rfl⟩
     refine {rel:=⟨⟨?_,?_,?_,?_⟩,?_,?_,?_,λi o J=>⟨by rw[k7 i (Ne.symm ((hr.eb i o J).2 _ _ he))];exact(hr.eb i o J).1,(hr.eb i o J).2⟩⟩,c5:=λ_ _=>rfl,mh:=λb h1 ad=>absurd ad (by show ¬b<A.n;omega),new:=λb e h1 ad=>absurd (hr.lt ad) af,k6:=bM _,low:=Nat.min_le_left _ _,same:= ?_,ro:= ?_,keep:= ?_,eL:=by simp,os:=rfl,tape:=rfl,output:=rfl,drawn:=bM _}
     ·intro j cA hj
      obtain⟨bu,q1,_⟩:=eM j cA hj;exact hr.wf.lt j bu q1
     ·intro j cA hj
      obtain⟨bu,q1,aJ,_⟩:=eM j cA hj;rw[aJ];exact hr.wf.nx j bu q1
     ·intro j cA hj
      obtain⟨bu,q1,aJ,_⟩:=eM j cA hj;rw[aJ];exact hr.wf.mem j bu q1
     ·intro j kO dG kP hj ey aB
      obtain⟨bu,q1,aJ,_,cg⟩:=eM j kO hj;obtain⟨cA,oh,sN,_,mN⟩:=eM dG kP ey;rw[cg,mN];exact hr.wf.od j bu dG cA q1 oh (by rw[<-aJ,<-sN];exact aB)
     ·intro j dR hj
      by_cases eF:j=m
      ·subst eF
       rw[he] at hj;cases hj;refine⟨{k with obj:= .dE x},by rw[eU,aR rfl],cd,?_⟩;unfold dZ at nM;simp only [dQ] at nM;simp only [dZ];exact⟨nM.1,o',by rw[Array.getElem?_setIfInBounds_self_of_lt aM],ax⟩
      ·obtain⟨bu,ff,pt,fx⟩:=hr.c5 j dR hj
       exact⟨bu,by rw[eU,aW eF];exact ff,pt,fx.mono (λ_ _ h=>h) (k7 _ (ch j dR eF hj))⟩
     ·intro j dR kO dG lI kP q1 aJ hj ey ji
      obtain⟨bu,cH,dj,_⟩:=eM j kO hj;obtain⟨cA,nL,oq,_⟩:=eM dG kP ey;exact hr.apart j dR bu dG lI cA q1 aJ cH nL (by rw[<-dj,<-oq];exact ji)
     ·intro j dR kO dG lI kP q1 aJ hj ey aB U
      obtain⟨bu,cH,dj,eR,_⟩:=eM j kO hj;obtain⟨cA,nL,oq,uT,_⟩:=eM dG kP ey;rw[eR,uT];exact hr.along j dR bu dG lI cA q1 aJ cH nL (by rw[<-dj,<-oq];exact aB) U
     ·intro j hj gE
      show t.get j=_;rw[eU,aW];intro eF;subst eF;exact absurd (Nat.lt_of_lt_of_le gE (Nat.min_le_right A.low j)) (Nat.lt_irrefl j)
     ·intro j bu ff mi
      show t.get j=_;rw[eU,aW]
      ·exact ff
      ·intro eF
       subst eF;rw[hk] at ff;cases ff;rw[cy] at mi;cases mi
     ·intro i J h6
      refine k7 i λmP=> ?_
      have:=h6 m e k he mP.symm hk;rw[cy] at this;cases this
    ·cases h
  ·cases h
 ·cases h
theorem DN (hr:bs φ A w) {b:Nat} {dL:sJ} {e:fj} (h:A.getLoop b=some dL) (he:φ b=some e):∃r,w.heap[e.aU]? =some (.loop r)/\mg φ (.loop dL) (.loop r)/\(Instr.getLoop e.aU).run P w= .ok r w/\
  ∀cR,(setObj e.aU (.loop cR)).run P w= .ok () {w with heap:=w.heap.setIfInBounds e.aU (.loop cR)}:=by
 unfold aD.getLoop at h;split at h
 ·rename_i k hk
  split at h
  ·rename_i Xs dQ
   cases h;obtain⟨k',cc,_,ax⟩:=hr.c5 b e he;rw[hk] at cc;cases cc;unfold dZ at ax;simp only [dQ] at ax;obtain⟨_,o',h1,ad⟩:=ax;obtain⟨r,rfl,_⟩:=id ad;refine⟨r,h1,ad,?_,λcR=> ?_⟩
   ·unfold Instr.getLoop
    exact ck (a:= .loop r) (w1:=w) (mo h1 (λ_ _ _ h=>by cases h)) rfl
   ·simp only [setObj,Sem.run,h1]
  ·cases h
 ·cases h
inductive lT (φ:bn):List Nat->List Deferred->Prop where
 |nil:lT φ [] []
 |cons {b:Nat} {e:fj} {ms:List Nat} {ds:List Deferred} (h:φ b=some e) (hm:lT φ ms ds):lT φ (b::ms) ({target:= .collected e.aU,args:= #[]}::ds)
omit [aX] in
theorem lT.mono {φ bY:bn} {ms:List Nat} {ds:List Deferred} (ft:∀b e,φ b=some e->bY b=some e) (h:lT φ ms ds):lT bY ms ds:=by
 induction h with
 |nil=>exact .nil
 |cons h _ bI=>exact .cons (ft _ _ h) bI
def qG (A:aD):List Nat->Option aD
 |[]=>some A
 |b::r=>match A.bl.get b with
  |some k=>match k.obj with
   | .dE .deferred=>match A.vd b .gone with
     |some aY=>qG aY r
     |none=>none
   |_=>none
  |none=>none
theorem DO {fn:Func} {tmps:Array I} {R:Ending->aj->Prop}:∀(ms:List Nat) (ds:List Deferred) (A aO:aD) (w:aj),bs φ A w->lT φ ms ds->qG A ms=some aO->
  (∀w',bF φ A w φ aO w'->LeavesInM (Fr none) 0 P fn tmps R [] .returning w')->LeavesInM (Fr none) 0 P fn tmps R ds .returning w
 |[],ds,A,aO,w,hr,hm,h,b2=>by
  cases hm;cases h;exact b2 w (bF.refl hr)
 |b::ms,ds,A,aO,w,hr,hm,h,b2=>by
  cases hm with
  |cons he hm=>
   rename_i e ds;unfold qG at h;split at h
   ·rename_i k hk
    split at h
    ·rename_i dQ
     split at h
     ·rename_i aY hs
      obtain⟨k',cc,_,ax⟩:=hr.c5 b e he;rw[hk] at cc;cases cc;unfold dZ at ax;simp only [dQ] at ax;obtain⟨_,o',h1,ad⟩:=ax;cases ad;have cd:=zZ (o':= .deferred none) hr he hs rfl;refine⟨by simp,.inl ⟨e.aU,_,rfl,?_,DO ms ds aY aO _ cd.rel (hm.mono (cd.ext hr)) h λw' hw=>b2 w' (bF.trans hr cd hw)⟩⟩;unfold Instr.takeDeferred;refine ck (a:= .deferred (some [])) (w1:=w) (mo h1 (λ_ _ _ h=>by cases h)) ?_;exact ck (a:=()) (by simp only [setObj,Sem.run,h1]) rfl
     ·cases h
    ·cases h
   ·cases h
inductive hZ where
 |normal
 |exit (id:Nat)
 |goto (l:Nat)
 |ret
def hZ.exit':hZ->Exit
 | .normal=> .normal
 | .exit id=> .exit id
 | .goto l=> .goto l
 | .ret=> .ret
structure cz where
 sl:bh
 ms:List Nat
 A:aD
def qH (φ:bn) (A:aD) (w:aj) (N:Nat) (x:hZ) (s:cz) (e:Exit) (aL:Act) (w':aj):Prop:=
 e=x.exit'/\∃bY ds,lT bY s.ms ds/\et N ds bY s.sl aL/\bF φ A w bY s.A w'
theorem qH.trans {φ eE:bn} {A aY:aD} {w w1:aj} {N:Nat} {x:hZ} {s:cz} {e:Exit} {a2:Act} {cQ:aj} (hr:bs φ A w) (h1:bF φ A w eE aY w1) (ad:qH eE aY w1 N x s e a2 cQ):qH φ A w N x s e a2 cQ:=by
 obtain⟨h,dF,ds,iR,q1,aJ⟩:=ad;exact⟨h,dF,ds,iR,q1,bF.trans hr h1 aJ⟩
end
def z1 (f:cz->Option (hZ×cz)):Nat->cz->Option (hZ×cz)
 |0,_=>none
 |n+1,s=>match f s with
  |some (x,s1)=>match x with
   | .normal=>z1 f n s1
   | .exit id=>some (.exit id,s1)
   | .goto l=>some (.goto l,s1)
   | .ret=>some (.ret,s1)
  |none=>none
def DP:Option Code->Option hZ
 |none=>some .normal
 |some .ret=>some .ret
 |some (.exit id)=>some (.exit id)
 |some (.goto l)=>some (.goto l)
 |_=>none
def Jg:LoopState->Bool
 | .busy=>true
 |_=>false
def DQ (P:aC) [Lib P] [c0 P] (C:gm) (gl:bB Nat) (N:Nat) (g:Operand) (ps:Array Tmp) (jj body:Code) (s:cz):Option (hZ×cz):=
 match dh gl s.sl g with
 | .func (.func f) ⟨first⟩ ⟨DR⟩=>bif enters P f then
     match s.A.push (.dE .deferred) 0 0 with
     |some (d,aY)=>match aY.push (.dE (.loop {state:= .ready,pending:=none,sl:=s.sl,N,params:=ps.toList,assign:=jj,body,wK:=d})) 0 0 with
      |some (l,dP)=>match C.call f (first++[.func (.yield l) ⟨[]⟩ ⟨[]⟩]++DR) dP with
       |some (_,xw)=>match xw.getLoop l with
        |some dL=>bif Jg dL.state then none else
         match xw.vd l (.loop {dL with state:= .exhausted}),DP dL.pending with
         |some ve,some x=>some (x,{sl:=s.sl,ms:=d::s.ms,A:=ve})
         |_,_=>none
        |none=>none
       |none=>none
      |none=>none
     |none=>none
   else none
 |_=>none
def iW (P:aC) [Lib P] [c0 P] (C:gm) (gl:bB Nat) (N:Nat) (eJ:Bool) (a_:Nat):Code->cz->Option (hZ×cz)
 | .skip,s=>some (.normal,s)
 | .label _,s=>some (.normal,s)
 | .exit id,s=>some (.exit id,s)
 | .goto l,s=>some (.goto l,s)
 | .ret,s=>some (.ret,s)
 | .region _ ops d,s=>match (bif d then (match Dx P C gl N eJ ops s.sl s.A with|some r=>some r|none=>zY P C gl N eJ ops s.sl s.A) else pF P C gl N ops ops.toList s.sl s.A) with
   |some (c8,aY)=>some (.normal,{sl:=c8,ms:=s.ms,A:=aY})
   |none=>none
 | .seq x y,s=>match iW P C gl N eJ a_ x s with
   |some (x,s1)=>match x with
    | .normal=>iW P C gl N eJ a_ y s1
    | .exit id=>some (.exit id,s1)
    | .goto l=>some (.goto l,s1)
    | .ret=>some (.ret,s1)
   |none=>none
 | .cond c x y,s=>match dh gl s.sl c with
   | .bool t=>bif t then iW P C gl N eJ a_ x s else iW P C gl N eJ a_ y s
   |v=>match s8 P v with
    |some t=>bif t then iW P C gl N eJ a_ x s else iW P C gl N eJ a_ y s
    |none=>none
 | .block id x,s=>match iW P C gl N eJ a_ x s with
   |some (x,s1)=>match x with
    | .normal=>some (.normal,s1)
    | .exit id'=>bif Nat.beq id' id then some (.normal,s1) else some (.exit id',s1)
    | .goto l=>some (.goto l,s1)
    | .ret=>some (.ret,s1)
   |none=>none
 | .loop x,s=>z1 (iW P C gl N eJ a_ x) a_ s
 | .scope _,_=>none
 | .rangeFunc g ps jj body,s=>bif eJ then none else DQ P C gl N g ps jj body s
 | .refuse _,_=>none
def Jh (P:aC) (gl:bB Nat) (N:Nat) (ro:Option Nat) (c:Code) (f:cz->Option (hZ×cz)):Prop:=
 ∀(s:cz) (x:hZ) (dp:cz) (φ:bn) (w:aj) (a:Act) (ds:List Deferred),f s=some (x,dp)->bs φ s.A w->iU gl φ->lT φ s.ms ds->et N ds φ s.sl a->c.wpIn (Fr ro) 0 P (qH φ s.A w N x dp) a w
section
variable {P:aC} {gl:bB Nat} {N:Nat} {ro:Option Nat}
theorem Ji {c:Code} {f:cz->Option (hZ×cz)} (aB:Jh P gl N ro c f):∀(n:Nat) (s:cz) (x:hZ) (dp:cz) (φ:bn) (w:aj) (a:Act) (ds:List Deferred),z1 f n s=some (x,dp)->bs φ s.A w->iU gl φ->lT φ s.ms ds->et N ds φ s.sl a->
  ∀(Q:Exit->Act->aj->Prop),(∀e aL w',qH φ s.A w N x dp e aL w'->Q e aL w')->Code.roundsIn (Fr ro) 0 P c Q n a w
 |0,s,x,dp,φ,w,a,ds,h,hr,av,hm,hs,Q,b2=>by cases h
 |n+1,s,x,dp,φ,w,a,ds,h,hr,av,hm,hs,Q,b2=>by
  unfold z1 at h;show c.wpIn (Fr ro) 0 P (Exit.then (Code.roundsIn (Fr ro) 0 P c Q n) Q) a w;split at h
  ·rename_i jk s1 h1
   refine wpIn_mono (aB s jk s1 φ w a ds h1 hr av hm hs) λe db w1 ag=> ?_
   cases jk with
   |normal=>
    obtain⟨rfl,eE,vf,iR,q1,aJ⟩:=ag;exact Ji aB n s1 x dp eE w1 db vf h aJ.rel (av.mono (aJ.ext hr)) iR q1 Q λe aL w' hp=>b2 e aL w' (qH.trans hr aJ hp)
   |exit vg=>cases h;obtain⟨rfl,_⟩:=id ag;exact b2 _ _ _ ag
   |goto l=>cases h;obtain⟨rfl,_⟩:=id ag;exact b2 _ _ _ ag
   |ret=>cases h;obtain⟨rfl,_⟩:=id ag;exact b2 _ _ _ ag
  ·cases h
end
end AE
namespace AE
variable [aX]
section
variable {P:aC} [Lib P] [c0 P] {C:gm} {gl:bB Nat} {N:Nat}
omit [aX] in
omit [Lib P] [c0 P] in
theorem P7 {F:Fence} {n:Nat} {Q:Exit->Act->aj->Prop} {a:Act} {w:aj} {c:Code} {x:hZ} (h:DP (some c)=some x) (b2:Q x.exit' a w):c.wpIn F n P Q a w:=by
 cases c<;>simp only [DP,bS] at h<;>first|(cases h;done)|skip
 case ret=>cases h;exact wpIn_ret b2
 case exit id=>cases h;exact wpIn_exit b2
 case goto l=>cases h;exact wpIn_goto b2
theorem P8 (b1:iI P gl C) {g:Operand} {ps:Array Tmp} {jj body:Code} {s:cz} {x:hZ} {dp:cz} {φ:bn} {w:aj} {a:Act} {ds:List Deferred} (h:DQ P C gl N g ps jj body s=some (x,dp))
  (hr:bs φ s.A w) (av:iU gl φ) (hm:lT φ s.ms ds) (hs:et N ds φ s.sl a):(Code.rangeFunc g ps jj body).wpIn (Fr none) 0 P (qH φ s.A w N x dp) a w:=by
 unfold DQ at h;split at h
 ·rename_i f first DR mv
  cases ox:enters P f with
  |false=>rw[ox] at h;cases h
  |true=>
   rw[ox,a7] at h;split at h
   ·rename_i d aY qt
    split at h
    ·rename_i l dP rY
     split at h
     ·rename_i v xw ao
      split at h
      ·rename_i dL P9
       cases U:Jg dL.state with
       |true=>rw[U] at h;cases h
       |false=>
        rw[U,cV] at h;split at h
        ·rename_i ve x' iK hj
         cases h;have DS:=fy av hs.get g;rw[mv] at DS;have P':∃hI cs',a.eval g= .func (.func f) hI cs'/\fk first φ hI/\fk DR φ cs':=by
          generalize a.eval g=u at DS;cases DS with
          |func _ hI _ cs' ah h1 ad al bb=>exact⟨hI,cs',rfl,fk.of h1 al,fk.of ad bb⟩
         obtain⟨hI,cs',P_,Df,ez⟩:=P';have kM:=uE (o':= .deferred (some [])) (e:=⟨w.heap.size,0,0,0⟩) hr qt ae ae (by
          unfold dZ
          exact⟨rfl,.deferred (some []),by simp,rfl⟩)
         have aH:=(hr.wf.push qt).2.1;refine wpIn_rangeFunc λfn _=> ?_
         let nb:Loop:={state:= .ready,pending:=none,fn:=fn,tmps:=a.tmps,params:=ps,assign:=jj,body:=body,defers:=w.heap.size}
         have px:=uE (o':= .loop nb) (e:=⟨w.heap.size+1,0,0,0⟩) kM.rel rY (by simp) rfl (by
          unfold dZ;refine⟨rfl,.loop nb,by
           show ((w.heap.push (Obj.deferred (some []))).push (Obj.loop nb))[w.heap.size+1]? =_
           rw[Array.getElem?_push,aR (by simp)],nb,rfl,rfl,rfl,hs.size,rfl,rfl,rfl,⟨⟨w.heap.size,0,0,0⟩,?_,rfl⟩,λt v aw=> ?_⟩
          ·have aM:=(kM.rel.wf.push rY).2.1
           have h7:=(hr.wf.push qt).2.2.1;show eT _ _ _ d=_;unfold eT;rw[aW af,aR rfl]
          ·refine(hs.get t v aw).mono λb e U=> ?_
           have aM:=(kM.rel.wf.push rY).2.1;have h7:=(hr.wf.push qt).2.2.1;have:=hr.lt U;unfold eT;rw[aW af,aW af]
           exact U)
         have rZ:=bF.trans hr kM px;have z6:=rZ.ext hr;have Jj:eT (eT φ d ⟨w.heap.size,0,0,0⟩) l ⟨w.heap.size+1,0,0,0⟩ l=some ⟨w.heap.size+1,0,0,0⟩:=by unfold eT;rw[aR rfl]
         have Qa:eT (eT φ d ⟨w.heap.size,0,0,0⟩) l ⟨w.heap.size+1,0,0,0⟩ d=some ⟨w.heap.size,0,0,0⟩:=by
          have aM:=(kM.rel.wf.push rY).2.1;have h7:=(hr.wf.push qt).2.2.1;unfold eT;rw[aW af,aR rfl]
         have Qb:ar (eT (eT φ d ⟨w.heap.size,0,0,0⟩) l ⟨w.heap.size+1,0,0,0⟩) (.func (.yield l) ⟨[]⟩ ⟨[]⟩) (.func (.yield (w.heap.size+1)) #[] #[]):= .nw Jj;have Jk:∀{Jl:List I} {Jm:Array I},fk Jl φ Jm->fk Jl (eT (eT φ d ⟨w.heap.size,0,0,0⟩) l ⟨w.heap.size+1,0,0,0⟩) Jm:=λh=>⟨h.1,λj hj=>(h.2 j hj).mono z6⟩
         have h1:fk [.func (.yield l) ⟨[]⟩ ⟨[]⟩] (eT (eT φ d ⟨w.heap.size,0,0,0⟩) l ⟨w.heap.size+1,0,0,0⟩) #[.func (.yield (w.heap.size+1)) #[] #[]]:=⟨rfl,λj hj=>by
          have:j=0:=by simpa using hj
          subst this
          exact Qb⟩
         have eY:=((Jk Df).append h1).append (Jk ez);refine⟨w.heap.size+1,[{target:= .collected w.heap.size,args:= #[]}],{w with heap:=(w.heap.push (.deferred (some []))).push (.loop nb)},{target:= .fn (.func f) cs',args:=hI++ #[.func (.yield (w.heap.size+1)) #[] #[]]},{w with heap:=(w.heap.push (.deferred (some []))).push (.loop nb)},f,hI++ #[.func (.yield (w.heap.size+1)) #[] #[]]++cs',{w with heap:=(w.heap.push (.deferred (some []))).push (.loop nb)},?_,?_,λ_ _=>trivial,?_,λh=>absurd h (by simp [Fr,Fence.wide]),
          CallsIn.mono (xc (b1.call f _ dP v xw _ _ _ ao rZ.rel (av.mono z6) eY)) λe z7 he=> ?_⟩
         ·unfold Instr.enterLoop
          simp only [Fr];have Cz:(newObj (.deferred (some []))).run P w= .ok w.heap.size {w with heap:=w.heap.push (.deferred (some []))}:=rfl;have eM:(newObj (.loop nb)).run P {w with heap:=w.heap.push (.deferred (some []))}= .ok (w.heap.size+1) {w with heap:=(w.heap.push (.deferred (some []))).push (.loop nb)}:=by
           simp only [newObj,Sem.run,Array.size_push]
          refine ck Cz ?_;refine cb (a:=(w.heap.size,[({target:= .collected w.heap.size,args:= #[]}:Deferred)])) rfl ?_;exact ck (k:=λx=>pure (x,[({target:= .collected w.heap.size,args:= #[]}:Deferred)])) eM rfl
         ·unfold resolve
          simp only [rangeCall,P_,List.map_toArray,List.map_cons,List.map_nil];rfl
         ·exact f' (zv ox _) _
         ·cases e with
          |returned au=>
           obtain⟨xx,_,tl⟩:=he;have qI:=tl.ext rZ.rel _ _ Jj;obtain⟨r,q1,aJ,cg,dn⟩:=DN (P:=P) tl.rel P9 qI;obtain⟨cR,HL,Qc,DT,lL⟩:=id aJ;cases HL;have DU:=zZ (o':= .loop {r with state:= .exhausted}) tl.rel qI iK (by
            obtain⟨j4,ik,tm,tn,xy,xA⟩:=lL
            exact⟨{r with state:= .exhausted},rfl,rfl,DT,j4,ik,tm,tn,xy,xA⟩)
           have DV:=bF.trans hr rZ (bF.trans rZ.rel tl DU);have Qd:lT xx (d::s.ms) ({target:= .collected w.heap.size,args:= #[]}::ds):= .cons (tl.ext rZ.rel _ _ Qa) (hm.mono λb e U=>tl.ext rZ.rel _ _ (z6 b e U));have Qe:et N ({target:= .collected w.heap.size,args:= #[]}::ds) xx s.sl {a with defers:=[{target:= .collected w.heap.size,args:= #[]}]++a.defers}:=
            ⟨hs.size,by simp [hs.defers],λt v aw=>(hs.get t v aw).mono λb e U=>tl.ext rZ.rel _ _ (z6 b e U)⟩
           refine⟨dL.pending,{z7 with heap:=z7.heap.setIfInBounds (w.heap.size+1) (.loop {r with state:= .exhausted})},?_,?_⟩
           ·unfold Instr.endLoop
            refine ck cg ?_;have wX:(r.state==LoopState.busy)=false:=by
             rw[Qc];cases cd:dL.state<;>rw[cd] at U<;>first|rfl|cases U
            rw[wX];simp only [Bool.false_eq_true,if_false];refine ck (a:=()) (dn _) ?_;rw[DT];rfl
           ·have post:qH φ s.A w N x ⟨s.sl,d::s.ms,ve⟩ x.exit' {a with defers:=[{target:= .collected w.heap.size,args:= #[]}]++a.defers} {z7 with heap:=z7.heap.setIfInBounds (w.heap.size+1) (.loop {r with state:= .exhausted})}:=
             ⟨rfl,xx,_,Qd,Qe,DV⟩
            cases r0:dL.pending with
            |none=>
             rw[r0] at hj;cases hj;exact post
            |some c=>
             rw[r0] at hj;exact P7 hj post
          |panicked zF=>exact he.elim
          |outgrown=>exact he.elim
        ·cases h
      ·cases h
     ·cases h
    ·cases h
   ·cases h
 ·cases h
end
section
variable {P:aC} [Lib P] [c0 P] {C:gm} {gl:bB Nat} {N:Nat}
theorem nU (cn:P.follows .mixedOrders=true) (b1:iI P gl C) (eJ:Bool) {ro:Option Nat} (cy:eJ=false->ro=none) (a_:Nat):∀c:Code,Jh P gl N ro c (iW P C gl N eJ a_ c)
 | .skip,s,x,dp,φ,w,a,ds,h,hr,av,hm,hs=>by cases h;exact wpIn_skip ⟨rfl,φ,ds,hm,hs,bF.refl hr⟩
 | .label _,s,x,dp,φ,w,a,ds,h,hr,av,hm,hs=>by cases h;exact wpIn_label ⟨rfl,φ,ds,hm,hs,bF.refl hr⟩
 | .exit id,s,x,dp,φ,w,a,ds,h,hr,av,hm,hs=>by cases h;exact wpIn_exit ⟨rfl,φ,ds,hm,hs,bF.refl hr⟩
 | .goto l,s,x,dp,φ,w,a,ds,h,hr,av,hm,hs=>by cases h;exact wpIn_goto ⟨rfl,φ,ds,hm,hs,bF.refl hr⟩
 | .ret,s,x,dp,φ,w,a,ds,h,hr,av,hm,hs=>by cases h;exact wpIn_ret ⟨rfl,φ,ds,hm,hs,bF.refl hr⟩
 | .region id ops d,s,x,dp,φ,w,a,ds,h,hr,av,hm,hs=>by
   unfold iW at h;cases d with
   |true=>
    simp only [a7] at h;split at h
    ·rename_i s1 aY h1
     cases h;split at h1
     ·rename_i nb h0
      cases h1;exact P1 cn b1 hr av hs cy (λc a w ag=>by obtain⟨he,_⟩:=ag;cases he) h0 λdF a2 cQ cH dj=>⟨rfl,dF,ds,hm.mono (dj.ext hr),cH,dj⟩
     ·exact Jf cn b1 hr av hs cy (λc a w ag=>by obtain⟨he,_⟩:=ag;cases he) h1 λdF a2 cQ cH dj=>⟨rfl,dF,ds,hm.mono (dj.ext hr),cH,dj⟩
    ·cases h
   |false=>
    simp only [cV] at h;split at h
    ·rename_i s1 aY h1
     cases h;exact wpIn_region_list (Dr b1 _ _ _ _ _ _ _ _ hr av hs h1 λdF a2 cQ cH dj=>⟨rfl,dF,ds,hm.mono (dj.ext hr),cH,dj⟩)
    ·cases h
 | .seq c1 c2,s,x,dp,φ,w,a,ds,h,hr,av,hm,hs=>by
   unfold iW at h;refine wpIn_seq ?_;split at h
   ·rename_i jk s1 h1
    refine wpIn_mono (nU cn b1 eJ cy a_ c1 s jk s1 φ w a ds h1 hr av hm hs) λe db w1 ag=> ?_
    cases jk with
    |normal=>
     obtain⟨rfl,eE,vf,iR,q1,aJ⟩:=ag;exact wpIn_mono (nU cn b1 eJ cy a_ c2 s1 x dp eE w1 db vf h aJ.rel (av.mono (aJ.ext hr)) iR q1) λe a2 cQ hp=>qH.trans hr aJ hp
    |exit vg=>cases h;obtain⟨rfl,_⟩:=id ag;exact ag
    |goto l=>cases h;obtain⟨rfl,_⟩:=id ag;exact ag
    |ret=>cases h;obtain⟨rfl,_⟩:=id ag;exact ag
   ·cases h
 | .cond c c1 c2,s,x,dp,φ,w,a,ds,h,hr,av,hm,hs=>by
   unfold iW at h;split at h
   ·rename_i t ao
    have DW:=fy av hs.get c;rw[ao] at DW;have Qf:a.eval c= .bool t:=by
     cases tp:a.eval c<;>rw[tp] at DW<;>cases DW
     rfl
    refine wpIn_cond Qf ?_;cases t with
    |true=>exact nU cn b1 eJ cy a_ c1 s x dp φ w a ds h hr av hm hs
    |false=>exact nU cn b1 eJ cy a_ c2 s x dp φ w a ds h hr av hm hs
   ·split at h
    ·rename_i t aE
     refine wpIn_cond (zB b1.facts w aE (fy av hs.get c)) ?_;cases t with
     |true=>exact nU cn b1 eJ cy a_ c1 s x dp φ w a ds h hr av hm hs
     |false=>exact nU cn b1 eJ cy a_ c2 s x dp φ w a ds h hr av hm hs
    ·cases h
 | .block Jn c,s,x,dp,φ,w,a,ds,h,hr,av,hm,hs=>by
   unfold iW at h;refine wpIn_block ?_;split at h
   ·rename_i jk s1 h1
    refine wpIn_mono (nU cn b1 eJ cy a_ c s jk s1 φ w a ds h1 hr av hm hs) λe db w1 ag=> ?_
    cases jk with
    |normal=>cases h;obtain⟨rfl,_⟩:=id ag;exact ag
    |goto l=>cases h;obtain⟨rfl,_⟩:=id ag;exact ag
    |ret=>cases h;obtain⟨rfl,_⟩:=id ag;exact ag
    |exit vg=>
     obtain⟨rfl,ag⟩:=ag;show if vg=Jn then _ else _
     cases U:Nat.beq vg Jn with
     |true=>
      simp only [U,a7] at h;cases h;rw[aR (bJ U)];exact⟨rfl,ag⟩
     |false=>
      simp only [U,cV] at h;cases h;rw[aW (λe=>by subst e;rw[Nat.beq_refl] at U;cases U)];exact⟨rfl,ag⟩
   ·cases h
 | .loop c,s,x,dp,φ,w,a,ds,h,hr,av,hm,hs=>by
   unfold iW at h;exact wpIn_loop_rounds a_ (Ji (nU cn b1 eJ cy a_ c) a_ s x dp φ w a ds h hr av hm hs _ λ_ _ _ ag=>ag)
 | .scope c,s,x,dp,φ,w,a,ds,h,hr,av,hm,hs=>by cases h
 | .rangeFunc g ps jj body,s,x,dp,φ,w,a,ds,h,hr,av,hm,hs=>by
   unfold iW at h;cases tk:eJ with
   |true=>rw[tk] at h;cases h
   |false=>
    rw[tk,cV] at h;have:=cy tk;subst this;exact P8 b1 h hr av hm hs
 | .refuse _,s,x,dp,φ,w,a,ds,h,hr,av,hm,hs=>by cases h
end
def setArgs:Nat->List I->bh->Option bh
 |_,[],sl=>some sl
 |i,v::r,sl=>match bB.set v depth sl i with
  |some s=>setArgs (i+1) r s
  |none=>none
omit [aX] in
theorem DX:∀(l:List I) (i:Nat) (sl cW:bh),setArgs i l sl=some cW->∀t v,cW.get t=some v->(∃j,j<l.length/\t=i+j/\v=l.getD j undef)\/sl.get t=some v
 |[],i,sl,cW,h,t,v,aw=>by
  cases h;exact .inr aw
 |u::r,i,sl,cW,h,t,v,aw=>by
  unfold setArgs at h;split at h
  ·rename_i s hs
   rcases DX r (i+1) s cW h t v aw with ⟨j,hj,aE,Qg⟩|av
   ·exact .inl ⟨j+1,by simp;omega,af,by simpa using Qg⟩
   ·rw[bB.jY _ _ _ _ _ t hs] at av
    by_cases aE:t=i
    ·subst aE
     rw[aR rfl] at av;cases av;exact .inl ⟨0,by simp,rfl,rfl⟩
    ·rw[aW aE] at av
     exact .inr av
  ·cases h
def pQ (P:aC) (A:aD) (sl:bh):List ResultVar->Option (List I)
 |[]=>some []
 | .tmp t::r=>match pQ P A sl r with
   |some vs=>some (slot sl t::vs)
   |none=>none
 | .cell a t::r=>match uO P A t (slot sl a),pQ P A sl r with
   |some v,some vs=>some (v::vs)
   |_,_=>none
def qJ:List I->I
 |[v]=>v
 |vs=> .tuple ⟨vs⟩
section
variable {P:aC} {φ:bn} {A aO:aD} {w:aj}
theorem Qh (hr:bs φ A w) {t:az} {p p' v:I} (hp:ar φ p p') (h:uO P A t p=some v):∃au,(do loadVar t (<-asAddr p')).run P w= .ok au w/\ar φ v au:=by
 unfold uO at h;split at h
 ·rename_i b off
  cases hp with
  |ptr he=>
   unfold loadVar;cases nB:aP P (isAgg t) with
   |none=>rw[nB] at h;cases h
   |some wP=>
    rw[nB] at h;cases wP with
    |false=>
     simp only at h;obtain⟨au,h1,ad⟩:=qg hr h he;refine⟨au,cb (a:=(⟨_,_,none⟩:Addr)) rfl (cb nB ?_),ad⟩;simp [Go.load,Sem.run,h1]
    |true=>
     simp only at h;cases bt:aP P (sizeOf t) with
     |none=>rw[bt] at h;cases h
     |some n=>
      rw[bt] at h;simp only at h;obtain⟨l,hl,rfl⟩:=Option.map_eq_some_iff.1 h;obtain⟨dH,h1,ad,al⟩:=wN hr P hl he;refine⟨.agg dH,cb (a:=(⟨_,_,none⟩:Addr)) rfl (cb nB ?_),.agg _ _ (by simp [ad]) λi J=>by simpa using al i (by simpa using J)⟩;simp only [if_true];exact cb bt (ck h1 rfl)
 ·cases h
def DY (tmps:Array I):ResultVar->Sem I
 | .tmp t=>pure (tmps.getD t undef)
 | .cell a t=>do loadVar t (<-asAddr (tmps.getD a undef))
theorem DZ (hr:bs φ A w) {sl:bh} {tmps:Array I} (hs:∀t v,sl.get t=some v->ar φ v (tmps.getD t undef)):∀(l:List ResultVar) (vs:List I),pQ P A sl l=some vs->
  ∃dH,(l.mapM (DY tmps)).run P w= .ok dH w/\fk vs φ ⟨dH⟩
 |[],vs,h=>by
  cases h;exact⟨[],rfl,rfl,λj hj=>absurd hj (by simp)⟩
 | .tmp t::r,vs,h=>by
   unfold pQ at h;split at h
   ·rename_i us hu
    cases h;obtain⟨D0,h1,ad,al⟩:=DZ hr hs r us hu;refine⟨tmps.getD t undef::D0,?_,by simpa using ad,λj hj=> ?_⟩
    ·rw[List.mapM_cons]
     exact cb (a:=tmps.getD t undef) rfl (ck h1 rfl)
    ·cases j with
     |zero=>exact zC (hs t)
     |succ j=>simpa using al j (by simpa using hj)
   ·cases h
 | .cell a t::r,vs,h=>by
   unfold pQ at h;split at h
   ·rename_i v us aw hu
    cases h;obtain⟨D0,h1,ad,al⟩:=DZ hr hs r us hu;obtain⟨au,g1,g2⟩:=Qh hr (zC (hs a)) aw;refine⟨au::D0,?_,by simpa using ad,λj hj=> ?_⟩
    ·rw[List.mapM_cons]
     exact ck g1 (ck h1 rfl)
    ·cases j with
     |zero=>exact g2
     |succ j=>simpa using al j (by simpa using hj)
   ·cases h
theorem Jo (hr:bs φ A w) {sl:bh} {fn:Func} {tmps:Array I} (hs:∀t v,sl.get t=some v->ar φ v (tmps.getD t undef)) {vs:List I} (h:pQ P A sl fn.results.toList=some vs):
  ∃au,(results fn tmps).run P w= .ok au w/\ar φ (qJ vs) au:=by
 obtain⟨dH,h1,ad,al⟩:=DZ hr hs _ vs h;have e:results fn tmps=(fn.results.mapM (DY tmps)) >>= λvs=>pure (if h:vs.size=1 then vs[0] else .tuple vs):=by
  unfold results;congr 1
 rw[e,Array.mapM_eq_mapM_toList];refine⟨_,ck (a:=(⟨dH⟩:Array I)) (ck h1 rfl) rfl,?_⟩
 match vs,dH,ad,al with
 |[v],[au],_,al=>exact al 0 (by simp)
 |[],[],_,_=>exact .tuple _ _ rfl λi J=>absurd J (by simp)
 |a::b::r,aL::b'::cR,ad,al=>exact .tuple _ _ (by simpa using ad.symm) λi J=>by simpa using al i (by simpa using J)
end
def tq (N:Nat):List Tmp->List I->bh->Option bh
 |[],[],sl=>some sl
 |t::bX,v::vs,sl=>match hE N sl (some t) v with
  |some s=>tq N bX vs s
  |none=>none
 |_,_,_=>none
def Jp:LoopState->Bool
 | .ready=>true
 |_=>false
def r1:hZ->Option Code
 | .normal=>none
 | .exit id=>some (.exit id)
 | .goto l=>some (.goto l)
 | .ret=>some .ret
def vh:hZ->LoopState
 | .normal=> .ready
 |_=> .done
def xB:hZ->Bool
 | .normal=>true
 |_=>false
def D1 (P:aC) [Lib P] [c0 P] (gl:bB Nat) (a_:Nat) (C:gm) (b:Nat) (args:List I) (A:aD):Option (I×aD):=
 match A.getLoop b with
 |some dL=>match tq dL.N dL.params args dL.sl with
  |some jH=>match iW P C gl dL.N true a_ dL.assign {sl:=jH,ms:=[],A} with
   |some (.normal,s1)=>match s1.A.getLoop b with
    |some xC=>bif Jp xC.state then
      match s1.A.vd b (.loop {xC with state:= .busy}) with
      |some dP=>match iW P C gl dL.N true a_ dL.body {sl:=s1.sl,ms:=s1.ms,A:=dP} with
       |some (x,j5)=>match j5.A.getLoop b with
        |some Jq=>match j5.A.vd b (.loop {Jq with state:=vh x,pending:=r1 x}) with
         |some ve=>some (.bool (xB x),ve)
         |none=>none
        |none=>none
       |none=>none
      |none=>none
     else none
    |none=>none
   |_=>none
  |none=>none
 |none=>none
def D2 (P:aC) [Lib P] [c0 P] (gl:bB Nat) (a_:Nat) (C:gm) (f:FuncId) (args:List I) (A:aD):Option (I×aD):=
 match P.funcs[f]? with
 |some fn=>match fn.body with
  |some c=>match setArgs 0 args .nil with
   |some sl=>match iW P C gl (args.length+(fn.ntmps-args.length)) false a_ c {sl,ms:=[],A} with
    |some (x,s1)=>match x with
     | .exit _=>none
     | .goto _=>none
     |_=>match qG s1.A s1.ms with
      |some dP=>match pQ P dP s1.sl fn.results.toList with
       |some vs=>some (qJ vs,dP)
       |none=>none
      |none=>none
    |none=>none
   |none=>none
  |none=>none
 |none=>none
section
variable {P:aC} {gl:bB Nat}
theorem et.tq {N:Nat} {ds:List Deferred} {φ:bn}:∀(bX:List Tmp) (vs:List I) (us:List I) (sl cW:bh) (a:Act),et N ds φ sl a->AE.tq N bX vs sl=some cW->us.length=vs.length->(∀j,j<vs.length->ar φ (vs.getD j undef) (us.getD j undef))->
  bX.length=us.length/\et N ds φ cW {a with tmps:=(bX.zip us).foldl (λtmps p=>tmps.setIfInBounds p.1 p.2) a.tmps}
 |[],[],us,sl,cW,a,hs,h,hl,aw=>by
  cases h;have:us=[]:=by simpa using hl
  subst this;exact⟨rfl,hs⟩
 |t::bX,v::vs,us,sl,cW,a,hs,h,hl,aw=>by
  unfold AE.tq at h;split at h
  ·rename_i s1 h1
   cases us with
   |nil=>simp at hl
   |cons u us=>
    have dx:=hs.put (by simpa using aw 0 (by simp)) h1;obtain⟨q1,aJ⟩:=et.tq bX vs us s1 cW _ dx h (by simpa using hl) (λj hj=>by simpa using aw (j+1) (by simpa using hj));exact⟨by simp [q1],aJ⟩
  ·cases h
 |[],_::_,_,_,_,_,_,h,_,_=>by cases h
 |_::_,[],_,_,_,_,_,h,_,_=>by cases h
end
end AE
namespace AE
variable [aX]
section
variable {P:aC} [Lib P] [c0 P] {gl:bB Nat} {a_:Nat} {C:gm}
theorem Qi (cn:P.follows .mixedOrders=true) (b1:iI P gl C) {f:FuncId} {args:List I} {A:aD} {v:I} {aO:aD} {φ:bn} {w:aj} {ec:Array I} (h:D2 P gl a_ C f args A=some (v,aO)) (hr:bs φ A w) (av:iU gl φ)
  (eY:fk args φ ec):Calls P f ec w (rO φ A w v aO):=by
 unfold D2 at h;split at h
 ·rename_i fn lU
  split at h
  ·rename_i c ao
   split at h
   ·rename_i sl ij
    split at h
    ·rename_i x s1 kS
     have bt:ec.size=args.length:=eY.1;have hs:et (args.length+(fn.ntmps-args.length)) [] φ sl {tmps:=ec++Array.replicate (fn.ntmps-ec.size) undef,defers:=[]}:=by
      refine⟨by simp [bt],rfl,λt u hu=> ?_⟩;rcases DX _ _ _ _ ij t u hu with ⟨j,hj,aE,rfl⟩|av
      ·have:=eY.2 j hj
       simp only [Nat.zero_add] at aE;subst aE;simp only [dD] at this ⊢;rw[Array.getElem?_append_left af];exact this
      ·cases av
     have fin:∀(vs:List I) (dP:aD),(x= .normal\/x= .ret)->qG s1.A s1.ms=some dP->pQ P dP s1.sl fn.results.toList=some vs->v=qJ vs->aO=dP->Calls P f ec w (rO φ A w v aO):=by
      intro vs dP ag Qj iJ aw hf;subst aw;subst hf;refine(callsIn_wide (n:=0)).1 ?_;refine callsIn_of_wp_marks lU ao trivial ?_ rfl;have Qk:=nU (ro:=none) cn b1 false (λ_=>rfl) a_ c {sl,ms:=[],A} x s1 φ w _ [] kS hr av .nil hs;refine wpIn_mono (F:=Fr none) Qk λe db w1 hp=> ?_
      obtain⟨rfl,eE,ds,iR,q1,aJ⟩:=hp;have main:LeavesInM (Fr none) 0 P fn db.tmps (rO φ A w (qJ vs) aO) db.defers .returning w1:=by
       rw[q1.defers];refine DO s1.ms ds s1.A aO w1 aJ.rel iR Qj λcQ cg=> ?_
       obtain⟨au,g1,g2⟩:=Jo (fn:=fn) cg.rel q1.get iJ;exact⟨au,g1,eE,g2,bF.trans hr aJ cg⟩
      rcases ag with rfl|rfl
      ·exact main
      ·exact main
     cases x with
     |exit vg=>cases h
     |goto l=>cases h
     |normal=>
      simp only at h;split at h
      ·rename_i dP hl
       split at h
       ·rename_i vs iJ
        cases h;exact fin vs aO (.inl rfl) hl iJ ae ae
       ·cases h
      ·cases h
     |ret=>
      simp only at h;split at h
      ·rename_i dP hl
       split at h
       ·rename_i vs iJ
        cases h;exact fin vs aO (.inr rfl) hl iJ ae ae
       ·cases h
      ·cases h
    ·cases h
   ·cases h
  ·cases h
 ·cases h
theorem Ql (cn:P.follows .mixedOrders=true) (b1:iI P gl C) {b:Nat} {args:List I} {A:aD} {v:I} {aO:aD} {φ:bn} {w:aj} {ec:Array I} {e:fj} {k:fq} {dL:sJ} {r:Loop}
  (h:D1 P gl a_ C b args A=some (v,aO)) (hr:bs φ A w) (av:iU gl φ) (eY:fk args φ ec) (he:φ b=some e) (hk:A.bl.get b=some k) (dQ:k.obj= .dE (.loop dL)) (kK:w.heap[e.aU]? =some (.loop r)) (s9:mg φ (.loop dL) (.loop r)):
  ec.size=r.params.size/\RoundIn Fence.wide 0 P e.aU r.fn ((r.params.zip ec).foldl (λtmps (t,a)=>tmps.setIfInBounds t a) r.tmps) r.assign r.body w (rO φ A w v aO):=by
 unfold D1 at h;have Qm:A.getLoop b=some dL:=by unfold aD.getLoop;rw[hk];simp only [dQ]
 rw[Qm] at h;simp only at h;obtain⟨nb,ia,cd,DT,qK,z8,has,rE,Xt,ij⟩:=id s9;cases ia;split at h
 ·rename_i jH eX
  have nR:et dL.N [] φ dL.sl {tmps:=r.tmps,defers:=[]}:=⟨qK,rfl,ij⟩;obtain⟨D3⟩:=ec;obtain⟨xD,nF⟩:=eY;simp only [List.size_toArray] at xD;obtain⟨hlen,ql⟩:=et.tq dL.params args D3 dL.sl jH _ nR eX xD (λj hj=>by simpa [dD] using nF j hj);refine⟨by rw[z8];simp [hlen],?_⟩;have Qn:(r.params.zip ⟨D3⟩).foldl (λtmps (t,a)=>tmps.setIfInBounds t a) r.tmps=(dL.params.zip D3).foldl (λtmps p=>tmps.setIfInBounds p.1 p.2) r.tmps:=by
   rw[z8,<-Array.foldl_toList];simp
  rw[Qn];split at h
  ·rename_i s1 Qo
   split at h
   ·rename_i xC D4
    cases pP:Jp xC.state with
    |false=>rw[pP] at h;cases h
    |true=>
     rw[pP,a7] at h;split at h
     ·rename_i dP iK
      split at h
      ·rename_i x j5 tr
       split at h
       ·rename_i Jq qI
        split at h
        ·rename_i ve Qp
         cases h;refine roundIn_of_wpIn trivial ?_;rw[has,rE];have Qq:=nU (ro:=some e.aU) cn b1 true (λh=>by cases h) a_ dL.assign {sl:=jH,ms:=[],A} .normal s1 φ w _ [] Qo hr av .nil ql;refine wpIn_mono (F:=Fr (some e.aU)) Qq λe1 db w1 hp=> ?_
         obtain⟨rfl,eE,vf,iR,q1,aJ⟩:=hp;have D5:=aJ.ext hr _ _ he;obtain⟨cH,g1,g2,b6,g4⟩:=DN (P:=P) aJ.rel D4 D5;obtain⟨nL,iP,w2,Qr⟩:=id g2;cases iP;have px:=zZ (o':= .loop {cH with state:= .busy}) aJ.rel D5 iK ⟨{cH with state:= .busy},rfl,rfl,Qr⟩;refine⟨{w1 with heap:=w1.heap.setIfInBounds e.aU (.loop {cH with state:= .busy})},?_,?_⟩
         ·unfold Instr.beginRound
          refine ck b6 ?_;refine ck (a:=()) (g4 _) ?_;rw[w2];cases Qs:xC.state<;>rw[Qs] at pP<;>first|rfl|cases pP
         ·have Jr:=bF.trans hr aJ px
          have Qt:=nU (ro:=some e.aU) cn b1 true (λh=>by cases h) a_ dL.body {sl:=s1.sl,ms:=s1.ms,A:=dP} x j5 eE _ db vf tr px.rel (av.mono (Jr.ext hr)) iR q1;refine wpIn_mono (F:=Fr (some e.aU)) Qt λe2 a2 cQ rY=> ?_
          obtain⟨rfl,xx,Qu,uU,fl,gb⟩:=rY;have Js:=gb.ext px.rel _ _ D5;obtain⟨eR,j4,ik,tm,tn⟩:=DN (P:=P) gb.rel qI Js;obtain⟨uT,Qv,Xu,Xv,Qw⟩:=id ik;cases Qv;have DU:=zZ (o':= .loop {eR with state:=vh x,pending:=r1 x}) gb.rel Js Qp ⟨{eR with state:=vh x,pending:=r1 x},rfl,rfl,rfl,Qw⟩;have DV:=bF.trans hr Jr (bF.trans px.rel gb DU);have z':∀(j:Option Code),j=r1 x->(Instr.endRound e.aU j).run P cQ= .ok (.bool (xB x)) {cQ with heap:=cQ.heap.setIfInBounds e.aU (.loop {eR with state:=vh x,pending:=r1 x})}:=by
           intro j hj;subst hj;unfold Instr.endRound;refine ck tm ?_;have cd:(if (r1 x).isNone then LoopState.ready else LoopState.done)=vh x:=by cases x<;>rfl
           have ah:(r1 x).isNone=xB x:=by cases x<;>rfl
           rw[cd,ah];exact ck (a:=()) (tn _) rfl
          have post:rO φ A w (.bool (xB x)) aO (.returned (.bool (xB x))) {cQ with heap:=cQ.heap.setIfInBounds e.aU (.loop {eR with state:=vh x,pending:=r1 x})}:=⟨xx,.bool _,DV⟩;cases x with
          |normal=>exact⟨_,_,z' _ rfl,post⟩
          |ret=>exact⟨_,_,z' _ rfl,post⟩
          |exit vg=>exact⟨_,_,z' _ rfl,post⟩
          |goto l=>exact⟨_,_,z' _ rfl,post⟩
        ·cases h
       ·cases h
      ·cases h
     ·cases h
   ·cases h
  ·cases h
 ·cases h
end
end AE
end Go.Proofs.YtmfckpdcljjdjaaDoor
namespace Go.Proofs.YtmfckpdcljjdjaaDoor
open Go Go.RowKit
namespace AE
structure dJ (B:Nat) (w w':aj):Prop where
 below:Below B w w'
 drawn:k5 w<=k5 w'
theorem dJ.refl (B:Nat) (w:aj):dJ B w w:=⟨Below.refl _ _,bM _⟩
theorem dJ.trans {B:Nat} {a w w':aj} (h:dJ B a w) (g:dJ B w w'):dJ B a w':=⟨h.below.trans g.below,Nat.le_trans h.drawn g.drawn⟩
theorem dJ.mono {B oD:Nat} {w w':aj} (h:dJ B w w') (U:oD<=B):dJ oD w w':=⟨h.below.mono U,h.drawn⟩
theorem dJ.size {B:Nat} {w w':aj} (h:dJ B w w'):w.heap.size<=w'.heap.size:=h.below.size
theorem dJ.block {B:Nat} {w w':aj} (h:dJ B w w'):∀k,k<B->w'.heap[k]? =w.heap[k]? :=h.below.block
class pR (P:aC) where
 calls:List (FuncId×List I×I)
def z_ (f:FuncId) (args:List I):List (FuncId×List I×I)->Option I
 |[]=>none
 |p::r=>bif Nat.beq f p.1&&jG args p.2.1 then some p.2.2 else z_ f args r
theorem Jt {f:FuncId} {args:List I} {v:I}:∀{l:List (FuncId×List I×I)},z_ f args l=some v->(f,args,v)∈l
 |[],h=>by cases h
 |p::r,h=>by
  unfold z_ at h;cases he:(Nat.beq f p.1&&jG args p.2.1) with
  |true=>
   rw[he,a7,bS] at h;simp only [b4] at he;have h1:=bJ he.1;have ad:=lO _ _ he.2;subst h1;subst ad;subst h;exact List.mem_cons_self
  |false=>
   rw[he,cV] at h;exact List.mem_cons_of_mem _ (Jt h)
def Aa (g:FuncId) (u:I):I:= .func (.func g) ⟨[]⟩ ⟨[.agg ⟨[.slice none 7 7,u]⟩]⟩
def D6 (A:aD) (v:I):Option I:=
 bif aF v then some v else match v with
 | .func (.func g) ⟨[]⟩ ⟨[.pointer (some ⟨b,off,none⟩)]⟩=>match A.load b off with
   |some u=>bif aF u then some (Aa g u) else none
   |none=>none
 |_=>none
def Ab (A:aD):List I->Option (List I)
 |[]=>some []
 |v::r=>match D6 A v,Ab A r with
  |some au,some cR=>some (au::cR)
  |_,_=>none
def Ac (P:aC) [pR P] (C:gm):gm where
 call:=λf args A=>match pR.calls P with
  |[]=>C.call f args A
  |l=>match Ab A args with
   |some us=>match z_ f us l with
    |some v=>some (v,A)
    |none=>C.call f args A
   |none=>C.call f args A
 round:=C.round
def qL (P:aC) [Lib P] [c0 P] [pR P] (gl:bB Nat) (a_:Nat):Nat->gm
 |0=>Ac P {call:=λ_ _ _=>none,round:=λ_ _ _=>none}
 |d+1=>Ac P {call:=D2 P gl a_ (qL P gl a_ d),round:=D1 P gl a_ (qL P gl a_ d)}
variable [aX]
def r2 (P:aC) (p:FuncId×List I×I):Prop:=
 er p.2.1=true/\aF p.2.2=true/\∀w,mW w->Calls P p.1 ⟨e9 p.2.1⟩ w λe w'=>e= .returned (aK p.2.2)/\dJ w.heap.size w w'
def Ju (w:aj) (v a:I):Prop:=
 (aF v=true/\a=aK v)\/∃g u B off,v=Aa g u/\aF u=true/\a= .func (.func g) #[] #[.pointer (some ⟨B,off,none⟩)]/\B<w.heap.size/\w.cell? ⟨B,off,none⟩=some (aK u)
def vi (w:aj):List I->List I->Prop
 |[],[]=>True
 |v::r,a::s=>Ju w v a/\vi w r s
 |_,_=>False
def xE (P:aC) (p:FuncId×List I×I):Prop:=
 ∀w,mW w->∀us,vi w p.2.1 us->Calls P p.1 ⟨us⟩ w λe w'=>∃au,e= .returned au/\(∀φ,ar φ p.2.2 au)/\dJ w.heap.size w w'
theorem vi.plain {w:aj}:∀{l us:List I},er l=true->vi w l us->us=e9 l
 |[],[],_,_=>rfl
 |v::r,a::s,hp,h=>by
  simp only [er,b4] at hp;have ad:=vi.plain hp.2 h.2;rcases h.1 with ⟨_,h1⟩|⟨g,u,B,off,rfl,_⟩
  ·rw[h1,ad];rfl
  ·have:aF (Aa g u)=false:=by unfold Aa;simp [aF,er]
   rw[this] at hp;exact absurd hp.1 (by simp)
 |[],_::_,_,h=>h.elim
 |_::_,[],_,h=>h.elim
theorem xE.of {P:aC} {p:FuncId×List I×I} (h1:er p.2.1=true) (h:∀w,mW w->Calls P p.1 ⟨e9 p.2.1⟩ w λe w'=>∃au,e= .returned au/\(∀φ,ar φ p.2.2 au)/\dJ w.heap.size w w'):xE P p:=
 λw hw us ha=>by rw[ha.plain h1];exact h w hw
theorem r2.Jv {P:aC} {p:FuncId×List I×I} (h:r2 P p):xE P p:=
 .of h.1 λw hw=>(h.2.2 w hw).mono λe w' ⟨he,U⟩=>⟨_,he,λφ=>ar.rM φ _ h.2.1,U⟩
def Jw (P:aC) [pR P]:Prop:=∀p∈pR.calls P,xE P p
theorem bF.below {φ:bn} {A:aD} {w w':aj} (hr:bs φ A w) (U:dJ w.heap.size w w'):bF φ A w φ A w' where
 rel:=⟨hr.wf,λb e h=>by
  obtain⟨k,h1,ad,al⟩:=hr.c5 b e h;exact⟨k,h1,ad,al.mono (λ_ _ h=>h) (U.block _ al.lt)⟩,hr.apart,hr.along,λi o J=>by
  obtain⟨h1,ad⟩:=hr.eb i o J
  exact⟨by rw[U.block i (Array.getElem?_eq_some_iff.1 h1).1];exact h1,ad⟩⟩
 c5:=λ_ _=>rfl
 mh:=λb h1 ad=>by omega
 new:=λb e h1 ad=>absurd (hr.lt ad) af
 k6:=bM _
 low:=bM _
 same:=λ_ _ _=>rfl
 ro:=λ_ _ h _=>h
 keep:=λi J _=>U.block i J
 eL:=U.size
 os:=U.below.os
 tape:=U.below.tape
 output:=U.below.output
 drawn:=U.drawn
theorem Qx {φ:bn} {A:aD} {w:aj} (hr:bs φ A w) {v au a:I} (h:D6 A v=some au) (ha:ar φ v a):Ju w au a:=by
 unfold D6 at h;cases hp:aF v with
 |true=>
  rw[hp,a7,bS] at h;subst h;exact .inl ⟨hp,ar.gW v hp ha⟩
 |false=>
  rw[hp,cV] at h;split at h
  ·rename_i g b off
   split at h
   ·rename_i u hu
    cases Ad:aF u with
    |false=>rw[Ad] at h;cases h
    |true=>
     rw[Ad,a7,bS] at h;subst h;cases ha with
     |func fs hI cs cs' ah h1 ad aB ao=>
      have e1:hI= #[]:=by
       apply Array.eq_empty_of_size_eq_zero;have:=h1;simp at this;omega
      have hs:cs'.size=1:=by
       have:=ad;simp at this;omega
      have h0:=ao 0 (by simp);obtain⟨hz,rfl⟩:∃hz,cs'= #[hz]:=by
       obtain⟨l⟩:=cs'
       match l,hs with
       |[hz],_=>exact⟨hz,rfl⟩
      have Qy:ar φ (.pointer (some ⟨b,off,none⟩)) hz:=by simpa using h0
      cases Qy with
      |ptr he=>
       rename_i e;obtain⟨u',g1,g2⟩:=qg hr hu he;refine .inr ⟨g,u,e.aU,e.bR+off,rfl,Ad,by rw[e1],?_,?_⟩
       ·obtain⟨k,_,_,al⟩:=hr.c5 b e he
        exact al.lt
       ·rw[g1,ar.gW u Ad g2]
   ·cases h
  ·cases h
theorem Jx {φ:bn} {A:aD} {w:aj} (hr:bs φ A w):∀{args us l:List I},Ab A args=some us->args.length=l.length->(∀j,j<args.length->ar φ (args.getD j Go.undef) (l.getD j Go.undef))->vi w us l
 |[],us,[],h,_,_=>by cases h;trivial
 |v::r,us,a::s,h,hl,hj=>by
  unfold Ab at h;split at h
  ·rename_i au cR h1 ad
   cases h;exact⟨Qx hr h1 (by simpa using hj 0 (by simp)),Jx hr ad (by simpa using hl) λj ey=>by simpa using hj (j+1) (by simpa using ey)⟩
  ·cases h
 |[],_,_::_,_,h,_=>by cases h
 |_::_,_,[],_,h,_=>by cases h
theorem Jy {P:aC} [c0 P] [pR P] {gl:bB Nat} {C:gm} (hC:Jw P) (h:iI P gl C):iI P gl (Ac P C):=by
 refine⟨h.facts,λf args A v aO φ w ec ao hr av eY=> ?_,h.round⟩;unfold Ac at ao;simp only at ao;split at ao
 ·exact h.call f args A v aO φ w ec ao hr av eY
 split at ao
 ·rename_i us has
  split at ao
  ·rename_i u hu
   cases ao;have al:=hC _ (Jt hu);obtain⟨l⟩:=ec;have hl:=Jx hr has eY.1.symm (l:=l) (λi J=>by simpa using eY.2 i J);refine(al w (λi o J=>(hr.eb i o J).1) l hl).mono λe w' he=> ?_
   obtain⟨au,rfl,aw,U⟩:=he;exact⟨φ,aw φ,bF.below hr U⟩
  ·exact h.call f args A v aO φ w ec ao hr av eY
 ·exact h.call f args A v aO φ w ec ao hr av eY
theorem xF {P:aC} [Lib P] [c0 P] [pR P] {gl:bB Nat} {a_:Nat} (cn:P.follows .mixedOrders=true) (cS:lQ P) (hC:Jw P):∀d,iI P gl (qL P gl a_ d)
 |0=>Jy hC ⟨cS,λf args A v aO φ w ec h=>(by cases h),λb args A v aO φ w ec e k dL r h=>(by cases h)⟩
 |d+1=>Jy hC ⟨cS,λf args A v aO φ w ec h hr av eY=>Qi cn (xF cn cS hC d) h hr av eY,
   λb args A v aO φ w ec e k dL r h hr av eY he hk dQ kK s9=>Ql cn (xF cn cS hC d) h hr av eY he hk dQ kK s9⟩
def start:aD:={bl:= .nil,n:=0,mem:= .nil,low:=0}
theorem Jz {w:aj} (J:mW w):bs (λ_=>none) start w:=
 ⟨⟨λ_ _ h=>(by cases h),λ_ _ h=>(by cases h),λ_ _ h=>(by cases h),λ_ _ _ _ h=>(by cases h)⟩,λ_ _ h=>(by cases h),λ_ _ _ _ _ _ h=>(by cases h),λ_ _ _ _ _ _ h=>(by cases h),λi o h=>⟨J i o h,λ_ _ h=>by cases h⟩⟩
end AE
namespace AE
class cX where
 dC:bn
 dy:Nat
@[reducible] def eu:cX:=⟨λ_=>none,0⟩
def oE [cX] (φ:bn) (A:aD):Prop:=cX.dy<=A.n/\∀b,b<cX.dy->φ b=cX.dC b
theorem oE.step [aX] [cX] {φ bY:bn} {A aO:aD} {w w':aj} (h:oE φ A) (hs:bF φ A w bY aO w'):oE bY aO:=
 ⟨Nat.le_trans h.1 hs.k6,λb U=>by rw[hs.c5 b (Nat.lt_of_lt_of_le U h.1)];exact h.2 b U⟩
theorem oE.none (φ:bn) (A:aD): @oE eu φ A:=⟨Nat.zero_le _,λb U=>absurd U (Nat.not_lt_zero _)⟩
structure Here [aX] [cX] (N:Nat) (s:cz) (B:Nat) (w0:aj) (a:Act) (w:aj):Prop where
 ex:∃φ ds,lT φ s.ms ds/\et N ds φ s.sl a/\bs φ s.A w/\(∀b e,φ b=some e->B<=e.aU)/\oE φ s.A
 below:dJ B w0 w
 size:B<=w.heap.size
section
variable [aX]
theorem vj {φ bY:bn} {A aO:aD} {w w':aj} {B:Nat} (dw:∀b e,φ b=some e->B<=e.aU) (hs:bF φ A w bY aO w') (bt:B<=w.heap.size):(∀b e,bY b=some e->B<=e.aU)/\dJ B w w':=by
 refine⟨λb e he=> ?_,⟨hs.os,hs.tape,hs.output,hs.eL,λk hk=>hs.keep k af λb e dV U he _=>by have:=dw b e U;omega⟩,hs.drawn⟩;rcases Nat.lt_or_ge b A.n with h|h
 ·rw[hs.c5 b h] at he
  exact dw b e he
 ·rcases hs.new b e h he with h1|⟨d',c3,k0,q1,aJ,_⟩
  ·omega
  ·rw[<-aJ]
   exact dw d' c3 q1
omit [aX] in
theorem hg (φ:bn):iU .nil φ:=λg b av=>by cases av
variable [cX]
variable {P:aC} [Lib P] [c0 P] {C:gm} {N B:Nat} {w0 w:aj} {a:Act} {s dp:cz}
theorem Qz (cn:P.follows .mixedOrders=true) (b1:iI P .nil C) (a_:Nat) {c:Code} {x:hZ} (h:iW P C .nil N false a_ c s=some (x,dp)) (aq:Here N s B w0 a w):
  c.wpIn (Fr none) 0 P (λe aL w'=>e=x.exit'/\Here N dp B w0 aL w') a w:=by
 obtain⟨⟨φ,ds,h1,ad,al,bb,fC⟩,b5,cE⟩:=aq;refine wpIn_mono (nU (ro:=none) cn b1 false (λ_=>rfl) a_ c s x dp φ w a ds h al (hg φ) h1 ad) λe aL w' hp=> ?_
 obtain⟨rfl,bY,QA,q1,aJ,cg⟩:=hp;obtain⟨bK,b0⟩:=vj bb cg cE;exact⟨rfl,⟨bY,QA,q1,aJ,cg.rel,bK,fC.step cg⟩,b5.trans b0,Nat.le_trans cE cg.eL⟩
theorem QB {c:Operand} {t:Bool} (h:dh .nil s.sl c= .bool t) (aq:Here N s B w0 a w):a.eval c= .bool t:=by
 obtain⟨⟨φ,ds,h1,ad,al,bb,_⟩,_,_⟩:=aq;have:=fy (hg φ) ad.get c;rw[h] at this;cases aw:a.eval c<;>rw[aw] at this<;>cases this
 rfl
omit [Lib P] in
theorem QC (cS:lQ P) {c:Operand} {t:Bool} (h:s8 P (dh .nil s.sl c)=some t) (aq:Here N s B w0 a w):a.eval c= .bool t:=by
 obtain⟨⟨φ,ds,h1,ad,al,bb,_⟩,_,_⟩:=aq;exact zB cS w h (fy (hg φ) ad.get c)
omit [cX] in
theorem JA (b1:iI P .nil C) {ds:List Deferred} {ops:Array Oper} {Q:Exit->Act->aj->Prop} {l2:List Oper}:∀(l:List Oper) (sl cW:bh) (A aO:aD) (φ:bn) (w:aj) (a:Act),bs φ A w->et N ds φ sl a->pF P C .nil N ops l sl A=some (cW,aO)->
  (∀bY aL w',et N ds bY cW aL->bF φ A w bY aO w'->wpListIn (Fr none) 0 P ops Q l2 aL w')->wpListIn (Fr none) 0 P ops Q (l++l2) a w
 |[],sl,cW,A,aO,φ,w,a,hr,hs,h,b2=>by
  cases h;exact b2 φ a w hs (bF.refl hr)
 |o::r,sl,cW,A,aO,φ,w,a,hr,hs,h,b2=>by
  unfold pF at h;split at h
  ·rename_i c8 aY cd
   obtain⟨v,aw,hp⟩:=Dp cd;rw[List.cons_append];unfold wpListIn;refine zE b1 hr (hg φ) hs.get aw λbY au w' qv kQ=> ?_
   exact JA b1 r c8 cW aY aO bY w' (a.put o.dst au) kQ.rel ((hs.mono (kQ.ext hr)).put qv hp) h λdF a2 cQ h1 ad=>b2 dF a2 cQ h1 (bF.trans hr kQ ad)
  ·cases h
theorem JB (b1:iI P .nil C) {ops:Array Oper} {Q:Exit->Act->aj->Prop} (l1 l2:List Oper) {c8:bh} {aY:aD} (h:pF P C .nil N ops l1 s.sl s.A=some (c8,aY)) (aq:Here N s B w0 a w)
  (b2:∀aL w',Here N {sl:=c8,ms:=s.ms,A:=aY} B w0 aL w'->wpListIn (Fr none) 0 P ops Q l2 aL w'):wpListIn (Fr none) 0 P ops Q (l1++l2) a w:=by
 obtain⟨⟨φ,ds,h1,ad,al,bb,fC⟩,b5,cE⟩:=aq;refine JA b1 l1 _ _ _ _ φ w a al ad h λbY aL w' q1 aJ=> ?_
 obtain⟨bK,b0⟩:=vj bb aJ cE;exact b2 aL w' ⟨⟨bY,ds,h1.mono (aJ.ext al),q1,aJ.rel,bK,fC.step aJ⟩,b5.trans b0,Nat.le_trans cE aJ.eL⟩
theorem Here.quiet {w':aj} (aq:Here N s B w0 a w) (U:dJ w.heap.size w w'):Here N s B w0 a w':=by
 obtain⟨⟨φ,ds,h1,ad,al,bb,fC⟩,b5,cE⟩:=aq;exact⟨⟨φ,ds,h1,ad,(bF.below al U).rel,bb,fC⟩,b5.trans (U.mono cE),Nat.le_trans cE U.size⟩
theorem Here.put {d:Option Tmp} {v:I} {cW:bh} (aq:Here N s B w0 a w) (hp:aF v=true) (eX:hE N s.sl d v=some cW):Here N {s with sl:=cW} B w0 (a.put d (aK v)) w:=by
 obtain⟨⟨φ,ds,h1,ad,al,bb,fC⟩,b5,cE⟩:=aq;exact⟨⟨φ,ds,h1,ad.put (ar.rM φ v hp) eX,al,bb,fC⟩,b5,cE⟩
end
theorem QD [cX] {P:aC} {N B:Nat} {w0 w:aj} {a:Act} {X:Type} (lV:X->aX) (rI:cz) (hM:X->Prop) (iC:X->Nat) {body:Code} {Q:Exit->Act->aj->Prop}
  (round:∀x,hM x->∀a w,@Here (lV x) _ N rI B w0 a w->body.wpIn (Fr none) 0 P (Exit.then (λaL w'=>∃x',hM x'/\iC x'<iC x/\ @Here (lV x') _ N rI B w0 aL w') Q) a w)
  (x:X) (ag:hM x) (aq: @Here (lV x) _ N rI B w0 a w):(Code.loop body).wpIn (Fr none) 0 P Q a w:=by
 have key:∀n x a w,iC x<=n->hM x-> @Here (lV x) _ N rI B w0 a w->Code.roundsIn (Fr none) 0 P body Q (n+1) a w:=by
  intro n
  induction n with
  |zero=>
   intro x a w ah ag aq;rw[roundsIn_succ];refine wpIn_mono (round x ag a w aq) λe aL w' hp=> ?_
   cases e with
   |normal=>obtain⟨x',_,aM,_⟩:=hp;omega
   |_=>exact hp
  |succ n bI=>
   intro x a w ah ag aq;rw[roundsIn_succ];refine wpIn_mono (round x ag a w aq) λe aL w' hp=> ?_
   cases e with
   |normal=>
    obtain⟨x',mn,aM,oF⟩:=hp;exact bI x' aL w' af mn oF
   |_=>exact hp
 exact wpIn_loop_rounds _ (key (iC x) x a w (bM _) ag aq)
def Ae (v:I) (A:aD):cz:={sl:= .node (some v) .nil .nil,ms:=[],A}
def D7 (v:I):Act:={tmps:= #[v],defers:=[]}
def QE [aX] (P:aC) (fn:Func) (A:aD) (sl:bh) (v:I):Prop:=
 ∀(φ:bn) (w:aj) (tmps:Array I),bs φ A w->(∀t u,sl.get t=some u->ar φ u (tmps.getD t undef))->∃au,(results fn tmps).run P w= .ok au w/\ar φ v au
def xG [cX] (P:aC) (fn:Func) (N B:Nat) (w0:aj) (R:Ending->aj->Prop) (a:Act) (w:aj):Prop:=
 ∃(lV:aX) (s:cz) (dP:aD) (v:I),@Here lV _ N s B w0 a w/\ @qG s.A s.ms=some dP/\ @QE lV P fn dP s.sl v/\
  ∀au cQ,@Here lV _ 1 (Ae v dP) B w0 (D7 au) cQ->R (.returned au) cQ
def qM [cX] (P:aC) (fn:Func) (N B:Nat) (w0:aj) (R:Ending->aj->Prop):Exit->Act->aj->Prop
 | .normal,a,w=>xG P fn N B w0 R a w
 | .ret,a,w=>xG P fn N B w0 R a w
 |_,_,_=>False
theorem D8 [aX] [cX] {P:aC} {f:FuncId} {fn:Func} {c:Code} (lU:P.funcs[f]? =some fn) (ao:fn.body=some c) {args:List I} {sl:bh} (ij:setArgs 0 args .nil=some sl) {φ:bn} {A:aD} {w0 w:aj} {B:Nat} {ec:Array I}
  (hr:bs φ A w) (dw:∀b e,φ b=some e->B<=e.aU) (ax:oE φ A) (eY:fk args φ ec) (U:dJ B w0 w) (bt:B<=w.heap.size) {R:Ending->aj->Prop}
  (kS:∀a,Here (args.length+(fn.ntmps-args.length)) {sl,ms:=[],A} B w0 a w->c.wpIn (Fr none) 0 P (qM P fn (args.length+(fn.ntmps-args.length)) B w0 R) a w):Calls P f ec w R:=by
 have vk:ec.size=args.length:=eY.1;have hs:et (args.length+(fn.ntmps-args.length)) [] φ sl {tmps:=ec++Array.replicate (fn.ntmps-ec.size) undef,defers:=[]}:=by
  refine⟨by simp [vk],rfl,λt u hu=> ?_⟩;rcases DX _ _ _ _ ij t u hu with ⟨j,hj,aE,rfl⟩|av
  ·have:=eY.2 j hj
   simp only [Nat.zero_add] at aE;subst aE;simp only [dD] at this ⊢;rw[Array.getElem?_append_left af];exact this
  ·cases av
 refine(callsIn_wide (n:=0)).1 ?_;refine callsIn_of_wp_marks lU ao trivial ?_ rfl;refine wpIn_mono (F:=Fr none) (kS _ ⟨⟨φ,[],.nil,hs,hr,dw,ax⟩,U,bt⟩) λe db w1 hp=> ?_
 have main:xG P fn (args.length+(fn.ntmps-args.length)) B w0 R db w1->LeavesInM (Fr none) 0 P fn db.tmps R db.defers .returning w1:=by
  rintro ⟨lV,s,dP,v,aq,hl,iJ,hy⟩;letI:=lV;obtain⟨⟨eE,ds,iR,q1,aJ,cg,iH⟩,dn,fe⟩:=aq;rw[q1.defers];refine DO s.ms ds s.A dP w1 aJ iR hl λcQ bK=> ?_
  obtain⟨au,g1,g2⟩:=iJ eE cQ db.tmps bK.rel q1.get;refine⟨au,g1,?_⟩;obtain⟨j4,ik⟩:=vj cg bK fe;refine hy au cQ ⟨⟨eE,[],.nil,⟨rfl,rfl,λt u hu=> ?_⟩,bK.rel,j4,iH.step bK⟩,dn.trans ik,Nat.le_trans fe bK.eL⟩;unfold Ae at hu;simp only [bB.get] at hu;cases aE:(t==0) with
  |true=>
   rw[aE,a7,bS] at hu;subst hu;have:t=0:=by simpa using aE
   subst this;exact g2
  |false=>
   rw[aE,cV] at hu;cases hp:(t%2==1)<;>rw[hp] at hu<;>cases hu
 cases e with
 |normal=>exact main hp
 |ret=>exact main hp
 |_=>exact hp.elim
end AE
namespace AE
abbrev dM:=List (I×I)
def both:Option dM->Option dM->Option dM
 |some a,some b=>some (a++b)
 |_,_=>none
theorem oG {a b:Option dM} {l:dM} (h:both a b=some l):∃x y,a=some x/\b=some y/\l=x++y:=by
 cases a<;>cases b<;>simp [both] at h
 exact⟨_,_,rfl,rfl,h.symm⟩
def qN:I->Bool
 | .complex .f32 a b=>Nat.beq a 77&&Nat.beq b 77
 |_=>false
theorem JC {v:I} (h:qN v=true):v=cC:=by
 unfold qN at h;split at h
 ·simp only [b4] at h
  rw[bJ h.1,bJ h.2];rfl
 ·cases h
def vl (v1 v2:I):Option dM:=bif qN v2 then some [] else bif aF v1&&aF v2 then (bif dW v1 v2&&plain v1 then some [] else some [(v1,v2)]) else none
mutual
def oH (n:Nat):I->I->Option dM
 | .pointer (some ⟨b,o,none⟩),.pointer (some ⟨b',o',none⟩)=>bif Nat.blt b n&&(Nat.beq b b'&&Nat.beq o o') then some [] else none
 | .slice (some ⟨b,o,none⟩) m c,.slice (some ⟨b',o',none⟩) m' c'=>bif Nat.blt b n&&(Nat.beq b b'&&(Nat.beq o o'&&(Nat.beq m m'&&Nat.beq c c'))) then some [] else none
 | .agg ⟨l⟩,.agg ⟨l'⟩=>qO n l l'
 | .func (.func f) ⟨l⟩ ⟨k⟩,.func (.func gL) ⟨l'⟩ ⟨k'⟩=>bif Nat.beq f gL then both (qO n l l') (qO n k k') else none
 | .func (.yield b) ⟨[]⟩ ⟨[]⟩,.func (.yield b') ⟨[]⟩ ⟨[]⟩=>bif Nat.blt b n&&Nat.beq b b' then some [] else none
 |v1,v2=>vl v1 v2
def qO (n:Nat):List I->List I->Option dM
 |[],[]=>some []
 |v::r,au::cR=>both (oH n v au) (qO n r cR)
 |_,_=>none
end
def jx (n:Nat) (φ:bn):bn:=λb=>if b<n then φ b else none
theorem vm {n b:Nat} {φ:bn} {e:fj} (h:φ b=some e) (U:b<n):jx n φ b=some e:=by unfold jx;rw[aR U];exact h
theorem lj {n b:Nat} {φ:bn} {e:fj} (h:jx n φ b=some e):b<n/\φ b=some e:=by
 unfold jx at h;split at h
 ·rename_i U;exact⟨U,h⟩
 ·cases h
def fo (s1 s2:aX) (l:dM):Prop:=∀p∈l,@aK s1 p.1= @aK s2 p.2
theorem fo.left {s1 s2:aX} {a b:dM} (h:fo s1 s2 (a++b)):fo s1 s2 a:=λp hp=>h p (List.mem_append_left _ hp)
theorem fo.right {s1 s2:aX} {a b:dM} (h:fo s1 s2 (a++b)):fo s1 s2 b:=λp hp=>h p (List.mem_append_right _ hp)
theorem QF {s1 s2:aX} {φ dF:bn} {v1 v2 au:I} {l:dM} (h:vl v1 v2=some l) (hm:fo s1 s2 l) (aw: @ar s1 φ v1 au): @ar s2 dF v2 au:=by
 unfold vl at h;cases h1:qN v2 with
 |true=>rw[JC h1];exact @ar.cC s2 dF au
 |false=>
  rw[h1,cV] at h;cases ad:(aF v1&&aF v2) with
  |false=>rw[ad] at h;cases h
  |true=>
   rw[ad,a7] at h;simp only [b4] at ad;cases al:(dW v1 v2&&plain v1) with
   |true=>
    simp only [b4] at al;have he:=eV _ _ al.1;subst he;rw[@ar.h8 s1 φ v1 au al.2 aw];exact @ar.h5 s2 dF v1 al.2
   |false=>
    rw[al,cV,bS] at h;subst h;have:=hm (v1,v2) (by simp);rw[@ar.gW s1 φ v1 au ad.1 aw];simp only at this;rw[this];exact @ar.rM s2 dF v2 ad.2
mutual
theorem JD {s1 s2:aX} {φ:bn} {n:Nat}:∀(v1 v2:I) {au:I} {l:dM},oH n v1 v2=some l->fo s1 s2 l-> @ar s1 φ v1 au-> @ar s2 (jx n φ) v2 au:=by
 intro v1 v2 au l h hm aw;unfold oH at h;split at h
 ·rename_i b o b' o'
  cases U:(Nat.blt b n&&(Nat.beq b b'&&Nat.beq o o')) with
  |false=>rw[U] at h;cases h
  |true=>
   simp only [b4] at U;have e1:=bJ U.2.1;have e2:=bJ U.2.2;subst e1;subst e2;cases aw with
   |ptr h=>exact @ar.ptr s2 (jx n φ) _ _ _ (vm h (Nat.blt_eq.mp U.1))
 ·rename_i b o m c b' o' m' c'
  cases U:(Nat.blt b n&&(Nat.beq b b'&&(Nat.beq o o'&&(Nat.beq m m'&&Nat.beq c c')))) with
  |false=>rw[U] at h;cases h
  |true=>
   simp only [b4] at U;have e1:=bJ U.2.1;have e2:=bJ U.2.2.1;have fg:=bJ U.2.2.2.1;have jl:=bJ U.2.2.2.2;subst e1;subst e2;subst fg;subst jl;cases aw with
   |gi aL h1=>exact @ar.gi s2 (jx n φ) _ _ aL h1
   |fS _ _ h=>exact @ar.fS s2 (jx n φ) _ _ _ _ _ (vm h (Nat.blt_eq.mp U.1))
   |fT _ _ c' h hs ao hl=>exact @ar.fT s2 (jx n φ) _ _ _ _ _ c' (vm h (Nat.blt_eq.mp U.1)) hs ao hl
 ·rename_i l1 l2
  cases aw with
  |agg cs cs' h1 ad=>
   obtain⟨q1,aJ⟩:=vn l1 l2 h hm cs'.toList (by simpa using h1.symm) λi J=>by simpa [dD] using ad i (by simpa using J)
   exact @ar.agg s2 (jx n φ) _ _ (by simpa using q1.symm) λi J=>by simpa [dD] using aJ i (by simpa using J)
 ·rename_i f l1 bK gL l2 b0
  cases aB:Nat.beq f gL with
  |false=>rw[aB] at h;cases h
  |true=>
   rw[aB,a7] at h;have e1:=bJ aB;subst e1;obtain⟨x,y,ag,aT,rfl⟩:=oG h;cases aw with
   |func fs hI cs cs' ah h1 ad al bb=>
    obtain⟨q1,aJ⟩:=vn l1 l2 ag hm.left hI.toList (by simpa using h1.symm) λi J=>by simpa [dD] using al i (by simpa using J)
    obtain⟨cg,dn⟩:=vn bK b0 aT hm.right cs'.toList (by simpa using ad.symm) λi J=>by simpa [dD] using bb i (by simpa using J)
    exact @ar.func s2 (jx n φ) _ _ _ _ _ ah (by simpa using q1.symm) (by simpa using cg.symm) (λi J=>by simpa [dD] using aJ i (by simpa using J)) λi J=>by simpa [dD] using dn i (by simpa using J)
 ·rename_i b b'
  cases U:(Nat.blt b n&&Nat.beq b b') with
  |false=>rw[U] at h;cases h
  |true=>
   simp only [b4] at U;have e1:=bJ U.2;subst e1;cases aw with
   |nw h=>exact @ar.nw s2 (jx n φ) _ _ (vm h (Nat.blt_eq.mp U.1))
   |func _ _ _ _ ah _ _ _ _=>exact absurd rfl (ah _)
 ·exact QF h hm aw
theorem vn {s1 s2:aX} {φ:bn} {n:Nat}:∀(l1 l2:List I) {l:dM},qO n l1 l2=some l->fo s1 s2 l->∀(u:List I),u.length=l1.length->(∀i,i<l1.length-> @ar s1 φ (l1.getD i Go.undef) (u.getD i Go.undef))->
  u.length=l2.length/\∀i,i<l2.length-> @ar s2 (jx n φ) (l2.getD i Go.undef) (u.getD i Go.undef)
 |[],[],_,_,_,u,hu,_=>⟨hu,λi J=>absurd J (by simp)⟩
 |[],_::_,_,h,_,_,_,_=>by cases h
 |_::_,[],_,h,_,_,_,_=>by cases h
 |v::r,v2::dj,l,h,hm,u,hu,aw=>by
  unfold qO at h;obtain⟨x,y,ag,aT,rfl⟩:=oG h;cases u with
  |nil=>simp at hu
  |cons w u=>
   obtain⟨q1,aJ⟩:=vn r dj aT hm.right u (by simpa using hu) λi J=>by simpa using aw (i+1) (by simpa using J)
   refine⟨by simp [q1],λi J=> ?_⟩;cases i with
   |zero=>simpa using JD v v2 ag hm.left (by simpa using aw 0 (by simp))
   |succ i=>simpa using aJ i (by simpa using J)
end
def Af (n:Nat):Option I->Option I->Option dM
 |_,none=>some []
 |some a,some b=>oH n a b
 |none,some b=>bif qN b then some [] else none
def xH (n:Nat):bB I->Option dM
 | .nil=>some []
 | .node v l r=>both (Af n none v) (both (xH n l) (xH n r))
def nc (n:Nat):bB I->bB I->Option dM
 |_,.nil=>some []
 | .nil,.node v l r=>xH n (.node v l r)
 | .node v1 l1 cH,.node v l r=>both (Af n v1 v) (both (nc n l1 l) (nc n cH r))
theorem JE {s1 s2:aX} {φ:bn} {n:Nat} {a b:Option I} {l:dM} (h:Af n a b=some l) (hm:fo s1 s2 l) {au v2:I} (U:b=some v2) (aw:∀v1,a=some v1-> @ar s1 φ v1 au): @ar s2 (jx n φ) v2 au:=by
 subst U;cases a with
 |none=>
  simp only [Af] at h;cases hp:qN v2 with
  |false=>rw[hp] at h;cases h
  |true=>rw[JC hp];exact @ar.cC s2 (jx n φ) au
 |some v1=>exact JD v1 v2 h hm (aw v1 rfl)
theorem D9 {s1 s2:aX} {φ:bn} {n:Nat}:∀(t:bB I) {l:dM},xH n t=some l->fo s1 s2 l->∀(i:Nat) (v2 au:I),t.get i=some v2-> @ar s2 (jx n φ) v2 au
 | .nil,_,_,_,i,v2,au,h=>by cases h
 | .node v xI kv,l,h,hm,i,v2,au,av=>by
   unfold xH at h;obtain⟨x,y,ag,aT,rfl⟩:=oG h;obtain⟨iD,jy,h1,ad,rfl⟩:=oG aT;unfold bB.get at av;cases J:(i==0) with
   |true=>
    rw[J,a7] at av;exact JE (s1:=s1) ag hm.left av (λv1 h=>by cases h)
   |false=>
    rw[J,cV] at av;cases hp:(i%2==1) with
    |true=>rw[hp,a7] at av;exact D9 xI h1 hm.right.left _ v2 au av
    |false=>rw[hp,cV] at av;exact D9 kv ad hm.right.right _ v2 au av
theorem vo {s1 s2:aX} {φ:bn} {n:Nat}:∀(t1 t2:bB I) {l:dM},nc n t1 t2=some l->fo s1 s2 l->∀(i:Nat) (v2 au:I),t2.get i=some v2->(∀v1,t1.get i=some v1-> @ar s1 φ v1 au)-> @ar s2 (jx n φ) v2 au
 |t1,.nil,_,_,_,i,v2,au,h,_=>by cases h
 | .nil,.node v xI kv,l,h,hm,i,v2,au,av,_=>D9 (s1:=s1) (.node v xI kv) (by simpa [nc] using h) hm i v2 au av
 | .node v1 l1 cH,.node v xI kv,l,h,hm,i,v2,au,av,aw=>by
   unfold nc at h;obtain⟨x,y,ag,aT,rfl⟩:=oG h;obtain⟨iD,jy,h1,ad,rfl⟩:=oG aT;unfold bB.get at av aw;cases J:(i==0) with
   |true=>
    simp only [J,a7] at av aw;exact JE ag hm.left av aw
   |false=>
    simp only [J,cV] at av aw;cases hp:(i%2==1) with
    |true=>simp only [hp,a7] at av aw;exact vo l1 xI h1 hm.right.left _ v2 au av aw
    |false=>simp only [hp,cV] at av aw;exact vo cH kv ad hm.right.right _ v2 au av aw
structure cm where
 obj:lG
 ty:az
 da:Nat
def cm.aU (b:cm) (i:Nat):fq:={obj:=b.obj,bQ:=i,pos:=0,da:=b.da,ro:=false,ty:=b.ty}
def vp:List cm->Nat->bB fq->bB fq
 |[],_,t=>t
 |b::r,i,t=>vp r (i+1) (match bB.set (b.aU i) depth t i with|some cq=>cq|none=>t)
def D':Nat->Nat->bB (List Nat)->bB (List Nat)
 |0,_,t=>t
 |n+1,i,t=>D' n (i+1) (match bB.set [i] depth t i with|some cq=>cq|none=>t)
def gP (l:List cm):aD:={bl:=vp l 0 .nil,n:=l.length,mem:=D' l.length 0 .nil,low:=0}
def ts (l:List cm):Bool:=(List.range l.length).all λi=>(match (D' l.length 0 .nil).get i with|some m=>m.contains i|none=>false)&&(match (vp l 0 .nil).get i with|some _=>true|none=>false)
theorem JF:∀(l:List cm) (i:Nat) (t:bB fq) (b:Nat) (k:fq),(vp l i t).get b=some k->(∃j x,l[j]? =some x/\b=i+j/\k=x.aU b)\/((b<i\/i+l.length<=b\/True)/\t.get b=some k)
 |[],i,t,b,k,h=> .inr ⟨.inr (.inr trivial),h⟩
 |x::r,i,t,b,k,h=>by
  unfold vp at h;rcases JF r (i+1) _ b k h with ⟨j,y,h1,ad,al⟩|⟨_,h1⟩
  ·exact .inl ⟨j+1,y,by simpa using h1,af,al⟩
  ·split at h1
   ·rename_i cq aE
    rw[bB.jY _ _ _ _ _ b aE] at h1;split at h1
    ·rename_i U
     cases h1;exact .inl ⟨0,x,by simp,af,by rw[U]⟩
    ·exact .inr ⟨.inr (.inr trivial),h1⟩
   ·exact .inr ⟨.inr (.inr trivial),h1⟩
theorem r3 {l:List cm} {b:Nat} {k:fq} (h:(gP l).bl.get b=some k):∃x,l[b]? =some x/\k=x.aU b:=by
 rcases JF l 0 .nil b k h with ⟨j,x,h1,ad,al⟩|⟨_,h1⟩
 ·have:b=j:=by omega
  subst this;exact⟨x,h1,al⟩
 ·cases h1
theorem JG {l:List cm} (cU:ts l=true):sL (gP l) where
 lt:=λb k h=>by
  obtain⟨x,h1,_⟩:=r3 h;have:=(List.getElem?_eq_some_iff.1 h1).1;exact this
 nx:=λb k h=>by
  obtain⟨x,h1,rfl⟩:=r3 h;have:=(List.getElem?_eq_some_iff.1 h1).1;exact this
 mem:=λb k h=>by
  obtain⟨x,h1,rfl⟩:=r3 h;have U:=(List.getElem?_eq_some_iff.1 h1).1;have:=List.all_eq_true.1 cU b (by simpa using U);simp only [b4] at this;obtain⟨hm,_⟩:=this;split at hm
  ·rename_i m qh
   exact⟨m,qh,by simpa using hm⟩
  ·cases hm
 od:=λb k b' k' h gD _=>by
  obtain⟨x,_,rfl⟩:=r3 h;obtain⟨x',_,rfl⟩:=r3 gD;rfl
def JH:LoopState->LoopState->Bool
 | .ready,.ready=>true
 | .busy,.busy=>true
 | .done,.done=>true
 | .exhausted,.exhausted=>true
 |_,_=>false
theorem JI {a b:LoopState} (h:JH a b=true):a=b:=by cases a<;>cases b<;>first|rfl|cases h
def xJ (n:Nat) (a b:sJ):Bool:=JH a.state b.state&&(a.pending.isNone&&(b.pending.isNone&&(Nat.beq a.N b.N&&(decide (a.params=b.params)&&(Nat.beq a.wK b.wK&&Nat.blt a.wK n)))))
def tt (n:Nat):lG->lG->Option dM
 | .cells c,.cells c'=>qO n c c'
 | .dE (.loop a),.dE (.loop b)=>bif xJ n a b then nc n a.sl b.sl else none
 | .dE .deferred,.dE .deferred=>some []
 | .dE .gone,.dE .gone=>some []
 |_,_=>none
def r4 (n:Nat) (A:aD):List cm->Nat->Option dM
 |[],_=>some []
 |x::r,i=>match A.bl.get i with
  |some k=>bif Nat.beq k.bQ i&&(Nat.beq k.da x.da&&(Nat.beq k.ty x.ty&& !k.ro)) then both (tt n k.obj x.obj) (r4 n A r (i+1)) else none
  |none=>none
theorem xK {n:Nat} {A:aD}:∀(l:List cm) (i:Nat) {bx:dM},r4 n A l i=some bx->∀(j:Nat) (x:cm),l[j]? =some x->∃k o,A.bl.get (i+j)=some k/\k.bQ=i+j/\k.da=x.da/\k.ty=x.ty/\k.ro=false/\tt n k.obj x.obj=some o/\∀p∈o,p∈bx
 |[],i,bx,h,j,x,hj=>by simp at hj
 |y::r,i,bx,h,j,x,hj=>by
  unfold r4 at h;split at h
  ·rename_i k hk
   cases ao:(Nat.beq k.bQ i&&(Nat.beq k.da y.da&&(Nat.beq k.ty y.ty&& !k.ro))) with
   |false=>rw[ao] at h;cases h
   |true=>
    rw[ao,a7] at h;simp only [b4,Bool.not_eq_true'] at ao;obtain⟨a,b,h1,ad,rfl⟩:=oG h;cases j with
    |zero=>
     simp only [List.getElem?_cons_zero,bS] at hj;subst hj;exact⟨k,a,hk,bJ ao.1,bJ ao.2.1,bJ ao.2.2.1,ao.2.2.2,h1,λp hp=>List.mem_append_left _ hp⟩
    |succ j=>
     obtain⟨k',o,q1,aJ,cg,dn,fe,iH,nK⟩:=xK r (i+1) ad j x (by simpa using hj);exact⟨k',o,by rw[show i+(j+1)=i+1+j by omega];exact q1,af,cg,dn,fe,iH,λp hp=>List.mem_append_right _ (nK p hp)⟩
  ·cases h
def Ag (A:aD) (i:Nat):Option (Code×Code):=match A.bl.get i with
 |some k=>match k.obj with
  | .dE (.loop dL)=>some (dL.assign,dL.body)
  |_=>none
 |none=>none
def ib (A:aD):List cm->Nat->Prop
 |[],_=>True
 |x::r,i=>(match x.obj with| .dE (.loop dL)=>Ag A i=some (dL.assign,dL.body)|_=>True)/\ib A r (i+1)
def lk:List cm->Bool
 |[]=>true
 |x::r=>(match x.obj with| .dE (.loop _)=>false|_=>true)&&lk r
theorem D_ {A:aD}:∀{l:List cm} {i j:Nat} {x:cm} {dL:sJ},ib A l i->l[j]? =some x->x.obj= .dE (.loop dL)->Ag A (i+j)=some (dL.assign,dL.body)
 |[],i,j,x,dL,_,hj,_=>by simp at hj
 |y::r,i,0,x,dL,h,hj,ax=>by
  simp only [List.getElem?_cons_zero,bS] at hj;subst hj;have:=h.1;rw[ax] at this;exact this
 |y::r,i,j+1,x,dL,h,hj,ax=>by
  rw[show i+(j+1)=i+1+j by omega];exact D_ h.2 (by simpa using hj) ax
theorem fz {A:aD}:∀{l:List cm} {i:Nat},lk l=true->ib A l i
 |[],_,_=>trivial
 |x::r,i,h=>by
  unfold lk at h;simp only [b4] at h;refine⟨?_,fz h.2⟩;split
  ·rename_i dL ag
   rw[ag] at h;cases h.1
  ·trivial
def gp (s1:cz) (sl:bh) (l:List cm):Option dM:=
 match s1.ms with
 |[]=>bif ts l then both (nc l.length s1.sl sl) (r4 l.length s1.A l 0) else none
 |_=>none
theorem Here.Ea [cX] {s1 s2:aX} {N B:Nat} {st:cz} {w0 w w':aj} {a:Act} {sl:bh} {l:List cm} {bx:dM} (T:Nat->Prop) (cv:gp st sl l=some bx) (hm:fo s1 s2 bx) (c9:∀i,T i->s1.eb i≠none/\B<=i)
  (nV:w'.os=w.os/\w'.tape=w.tape/\w'.output=w.output/\k5 w<=k5 w') (bt:w.heap.size<=w'.heap.size) (hw:∀i,i<w.heap.size->¬T i->w'.heap[i]? =w.heap[i]?)
  (vq:∀i o,s2.eb i=some o->w'.heap[i]? =some o/\(s1.eb i≠none\/w.heap.size<=i\/i<B)) (ah:cX.dy<=l.length) (ao:ib st.A l 0) (aq: @Here s1 _ N st B w0 a w): @Here s2 _ N {sl,ms:=[],A:=gP l} B w0 a w':=by
 unfold gp at cv;split at cv
 ·rename_i tu
  cases cU:ts l with
  |false=>rw[cU] at cv;cases cv
  |true=>
   rw[cU,a7] at cv;obtain⟨x,y,ag,aT,rfl⟩:=oG cv;obtain⟨⟨φ,ds,h1,ad,al,bb,fC⟩,b5,cE⟩:=aq;rw[tu] at h1;cases h1;have hold:∀b k,(gP l).bl.get b=some k->∃x dV o,l[b]? =some x/\k=x.aU b/\st.A.bl.get b=some dV/\dV.bQ=b/\dV.da=x.da/\dV.ty=x.ty/\dV.ro=false/\tt l.length dV.obj x.obj=some o/\∀p∈o,p∈y:=λb k hk=>by
    obtain⟨x,q1,aJ⟩:=r3 hk;obtain⟨dV,o,cH,dj,eR⟩:=xK l 0 aT b x q1;rw[Nat.zero_add] at cH dj;exact⟨x,dV,o,q1,aJ,cH,dj,eR⟩
   have qf:∀b e,φ b=some e->e.aU<w.heap.size/\¬T e.aU/\s1.eb e.aU=none:=λb e U=>by
    obtain⟨k,_,_,q⟩:= @bs.c5 s1 _ _ _ al b e U;have r5:s1.eb e.aU=none:=by
     cases J:s1.eb e.aU with
     |none=>rfl
     |some o=>exact absurd rfl ((@bs.eb s1 _ _ _ al e.aU o J).2 b e U)
    exact⟨@dZ.lt s1 _ _ _ _ q,λaE=>(c9 _ aE).1 r5,r5⟩
   have r6:∀b e,φ b=some e->w'.heap[e.aU]? =w.heap[e.aU]? :=λb e U=>hw _ (qf b e U).1 (qf b e U).2.1
   have eU:∀b,b<l.length->∃k,(gP l).bl.get b=some k:=λb U=>by
    have:=List.all_eq_true.1 cU b (by simpa using U);simp only [b4] at this;obtain⟨_,hm⟩:=this;split at hm
    ·rename_i k hk;exact⟨k,hk⟩
    ·cases hm
   refine⟨⟨jx l.length φ,[],.nil,⟨@et.size s1 _ _ _ _ _ ad,@et.defers s1 _ _ _ _ _ ad,λt v2 Eb=>vo st.sl sl ag hm.left t v2 _ Eb λv1 qP=> @et.get s1 _ _ _ _ _ ad t v1 qP⟩,⟨JG cU,?_,?_,?_,λi o J=> ?_⟩,λb e U=>bb b e (lj U).2,ah,λb U=>by unfold jx;rw[aR (Nat.lt_of_lt_of_le U ah)];exact fC.2 b U⟩,b5.trans ⟨⟨nV.1,nV.2.1,nV.2.2.1,bt,λk hk=>hw k af λaE=>by have:=(c9 k aE).2;omega⟩,nV.2.2.2⟩,Nat.le_trans cE bt⟩
   ·intro b e U
    obtain⟨aM,ft⟩:=lj U;obtain⟨k,hk⟩:=eU b aM;obtain⟨x,dV,o,q1,rfl,cg,dn,fe,iH,nK,eP,td⟩:=hold b k hk;obtain⟨bK,cH,dj,eR⟩:= @bs.c5 s1 _ _ _ al b e ft;rw[cg] at cH;cases cH;refine⟨_,hk,by rw[dj,fe];rfl,?_⟩;unfold dZ at eR ⊢;show match x.obj with| .cells c=>_| .map es cl=>_| .dE x=>_
    cases dQ:dV.obj with
    |cells c=>
     rw[dQ] at eP;simp only [dQ] at eR;cases fW:x.obj with
     |cells c2=>
      rw[fW] at eP;obtain⟨c',gV,g1,g2,b6,g4,ih⟩:=eR;have jE:∀i,i<c.length->((List.range c.length).map λj=>c'.getD (e.bR+j) undef).getD i undef=c'.getD (e.bR+i) undef:=λi J=>by
       rw[de,List.getElem?_map,List.getElem?_range J];rfl
      have:=vn (s1:=s1) (s2:=s2) (φ:=φ) c c2 eP (λp hp=>hm.right p (td p hp)) ((List.range c.length).map λj=>c'.getD (e.bR+j) undef) (by simp) λi J=>by
       rw[jE i J];exact g4 i J
      obtain⟨t1,t2⟩:=this;simp only [List.length_map,List.length_range] at t1;refine⟨c',gV,by rw[r6 b e ft,show (x.aU b).ty=dV.ty from iH.symm];exact g1,g2,by rw[<-t1,show (x.aU b).da=dV.da from fe.symm];exact b6,λj hj=> ?_,λ_=>ih nK⟩;have:=t2 j hj;rw[jE j af] at this;exact this
     |map es cl=>rw[fW] at eP;cases eP
     |dE z=>rw[fW] at eP;cases eP
    |map es cl=>
     rw[dQ] at eP;cases fW:x.obj<;>rw[fW] at eP<;>cases eP
    |dE z=>
     rw[dQ] at eP;simp only [dQ] at eR;obtain⟨tv,o',g1,g2⟩:=eR;cases fW:x.obj with
     |cells c2=>rw[fW] at eP;cases z<;>cases eP
     |map es cl=>rw[fW] at eP;cases z<;>cases eP
     |dE pS=>
      rw[fW] at eP;refine⟨tv,o',(r6 b e ft).trans g1,?_⟩;cases z with
      |loop a=>
       cases pS with
       |loop b=>
        unfold tt at eP;simp only at eP;cases hs:xJ l.length a b with
        |false=>rw[hs] at eP;cases eP
        |true=>
         rw[hs,a7] at eP;unfold xJ at hs;simp only [b4,decide_eq_true_eq,Option.isNone_iff_eq_none] at hs;obtain⟨c1,c2,eN,ga,xL,xM,xN⟩:=hs;have kS:=D_ ao q1 fW;rw[Nat.zero_add] at kS;unfold Ag at kS;rw[cg] at kS;simp only [dQ,bS,Prod.mk.injEq] at kS;obtain⟨r,j6,j4,ik,tm,tn,xy,xA,⟨e',Ec,u8⟩,Ed⟩:=g2;refine⟨r,j6,j4.trans (JI c1),by rw[ik,c2,eN],by rw[tm,bJ ga],by rw[tn,xL],by rw[xy,kS.1],by rw[xA,kS.2],⟨e',?_,u8⟩,λt v aw=> ?_⟩
         ·rw[<-bJ xM]
          exact vm Ec (Nat.blt_eq.mp xN)
         ·exact vo (s1:=s1) a.sl b.sl eP (λp hp=>hm.right p (td p hp)) t v _ aw λv1 qP=>Ed t v1 qP
       |_=>cases eP
      |_=>cases pS<;>first|(cases eP;done)|exact g2
   ·intro b e k b' e' k' U cK hk cc ch
    obtain⟨_,ft⟩:=lj U;obtain⟨_,na⟩:=lj cK;obtain⟨x,dV,o,q1,rfl,cg,dn,_⟩:=hold b k hk;obtain⟨x',xO,o',oh,rfl,mN,xP,_⟩:=hold b' k' cc;exact @bs.apart s1 _ _ _ al b e dV b' e' xO ft na cg mN (by rw[dn,xP];exact ch)
   ·intro b e k b' e' k' U cK hk cc aB _
    obtain⟨_,ft⟩:=lj U;obtain⟨_,na⟩:=lj cK;obtain⟨x,dV,o,q1,rfl,cg,dn,_⟩:=hold b k hk;obtain⟨x',xO,o',oh,rfl,mN,xP,_⟩:=hold b' k' cc;have:b=b':=aB;subst this;rw[ft] at na;cases na;rfl
   ·obtain⟨g1,g2⟩:=vq i o J
    refine⟨g1,λb e U QG=> ?_⟩;obtain⟨q1,_,cg⟩:=qf b e (lj U).2;have dn:=bb b e (lj U).2;rw[QG] at q1 cg dn;rcases g2 with g2|g2|g2
    ·exact g2 cg
    ·omega
    ·omega
 ·cases cv
theorem Here.move [cX] {s1 s2:aX} {N B:Nat} {st:cz} {w0 w:aj} {a:Act} {sl:bh} {l:List cm} {bx:dM} (cv:gp st sl l=some bx) (hm:fo s1 s2 bx)
  (vq:∀i o,s2.eb i=some o->s1.eb i=some o) (ah:cX.dy<=l.length) (ao:ib st.A l 0) (aq: @Here s1 _ N st B w0 a w): @Here s2 _ N {sl,ms:=[],A:=gP l} B w0 a w:=by
 have J:=aq;obtain⟨⟨φ,ds,h1,ad,al,bb,fC⟩,b5,cE⟩:=J;exact Here.Ea (λ_=>False) cv hm (λ_ h=>h.elim) ⟨rfl,rfl,rfl,bM _⟩ (bM _) (λ_ _ _=>rfl) (λi o h=>⟨(@bs.eb s1 _ _ _ al i o (vq i o h)).1,.inl (by rw[vq i o h];simp)⟩) ah ao aq
theorem Here.kT [aX] [cX] {N B:Nat} {st:cz} {w0 w:aj} {a:Act} (aq:Here N st B w0 a w):mW w:=by
 obtain⟨⟨φ,ds,h1,ad,al,bb,fC⟩,b5,cE⟩:=aq;exact λi o J=>(al.eb i o J).1
end AE
namespace AE
inductive fM where
 |jm (y:Code)
 |pT (id:Nat)
 |nW (c:Code) (m:Nat)
inductive bT where
 |done (x:hZ) (s:cz)
 |loop (body:Code) (s:cz) (ks:List fM)
 |oper (o:Oper) (r:List Oper) (ops:Array Oper) (s:cz) (ks:List fM)
 |range (g:Operand) (ps:Array Tmp) (jj body:Code) (s:cz) (ks:List fM)
 |draw (id:Nat) (ops:Array Oper) (s:cz) (ks:List fM)
 |cond (c:Operand) (x y:Code) (s:cz) (ks:List fM)
def bT.push (k:fM):bT->bT
 | .loop b s ks=> .loop b s (ks++[k])
 | .oper o r ops s ks=> .oper o r ops s (ks++[k])
 | .range g ps jj b s ks=> .range g ps jj b s (ks++[k])
 | .draw id ops s ks=> .draw id ops s (ks++[k])
 | .cond c x y s ks=> .cond c x y s (ks++[k])
 |st=>st
def bT.r7 (k:List fM):bT->bT
 | .loop b s ks=> .loop b s (ks++k)
 | .oper o r ops s ks=> .oper o r ops s (ks++k)
 | .range g ps jj b s ks=> .range g ps jj b s (ks++k)
 | .draw id ops s ks=> .draw id ops s (ks++k)
 | .cond c x y s ks=> .cond c x y s (ks++k)
 |st=>st
def vr (P:aC) [Lib P] [c0 P] (C:gm) (N:Nat) (ops:Array Oper) (ms:List Nat):List Oper->bh->aD->bT
 |[],sl,A=> .done .normal {sl,ms,A}
 |o::r,sl,A=>match pE P C .nil N ops o sl A with
  |some (c8,aY)=>vr P C N ops ms r c8 aY
  |none=> .oper o r ops {sl,ms,A} []
def ll (P:aC) [Lib P] [c0 P] (C:gm) (N a_:Nat):Code->cz->Option bT
 | .loop b,s=>match iW P C .nil N false a_ (.loop b) s with
   |some (x,s1)=>some (.done x s1)
   |none=>some (.loop b s [])
 | .region id ops d,s=>bif d then match zK P C .nil N false ops s.sl s.A with
     |some (c8,aY,r)=>some (vr P C N ops s.ms r c8 aY)
     |none=>match zY P C .nil N false ops s.sl s.A with
      |some (c8,aY)=>some (.done .normal {sl:=c8,ms:=s.ms,A:=aY})
      |none=>some (.draw id ops s [])
   else some (vr P C N ops s.ms ops.toList s.sl s.A)
 | .seq x y,s=>match ll P C N a_ x s with
   |some (.done x s1)=>match x with
    | .normal=>ll P C N a_ y s1
    |x=>some (.done x s1)
   |some st=>some (st.push (.jm y))
   |none=>none
 | .cond c x y,s=>match dh .nil s.sl c with
   | .bool t=>bif t then ll P C N a_ x s else ll P C N a_ y s
   |v=>match s8 P v with
    |some t=>bif t then ll P C N a_ x s else ll P C N a_ y s
    |none=>some (.cond c x y s [])
 | .block id x,s=>match ll P C N a_ x s with
   |some (.done x s1)=>match x with
    | .exit id'=>bif Nat.beq id' id then some (.done .normal s1) else some (.done (.exit id') s1)
    |x=>some (.done x s1)
   |some st=>some (st.push (.pT id))
   |none=>none
 | .rangeFunc g ps jj b,s=>match iW P C .nil N false a_ (.rangeFunc g ps jj b) s with
   |some (x,s1)=>some (.done x s1)
   |none=>some (.range g ps jj b s [])
 |c,s=>match iW P C .nil N false a_ c s with
  |some (x,s1)=>some (.done x s1)
  |none=>none
def Ah (P:aC) [Lib P] [c0 P] (C:gm) (N a_:Nat) (c:Code):Nat->cz->Option bT
 |0,_=>none
 |m+1,s=>match ll P C N a_ c s with
  |some (.done x s1)=>match x with
   | .normal=>Ah P C N a_ c m s1
   |x=>some (.done x s1)
  |some st=>some (st.push (.nW c m))
  |none=>none
def resume (P:aC) [Lib P] [c0 P] (C:gm) (N a_:Nat):List fM->hZ->cz->Option bT
 |[],x,s=>some (.done x s)
 | .jm y::ks,x,s=>match x with
   | .normal=>match ll P C N a_ y s with
     |some (.done x s1)=>resume P C N a_ ks x s1
     |some st=>some (st.r7 ks)
     |none=>none
   |x=>resume P C N a_ ks x s
 | .pT id::ks,x,s=>match x with
   | .exit id'=>bif Nat.beq id' id then resume P C N a_ ks .normal s else resume P C N a_ ks (.exit id') s
   |x=>resume P C N a_ ks x s
 | .nW c m::ks,x,s=>match x with
   | .normal=>match Ah P C N a_ c m s with
     |some (.done x s1)=>resume P C N a_ ks x s1
     |some st=>some (st.r7 ks)
     |none=>none
   |x=>resume P C N a_ ks x s
def dz (P:aC):List fM->(Exit->Act->aj->Prop)->Exit->Act->aj->Prop
 |[],Q=>Q
 | .jm y::ks,Q=>Exit.then (y.wpIn (Fr none) 0 P (dz P ks Q)) (dz P ks Q)
 | .pT id::ks,Q=>Exit.inBlock id (dz P ks Q)
 | .nW c m::ks,Q=>Exit.then (Code.roundsIn (Fr none) 0 P c (dz P ks Q) m) (dz P ks Q)
theorem nf (P:aC):∀(bK b0:List fM) (Q:Exit->Act->aj->Prop),dz P (bK++b0) Q=dz P bK (dz P b0 Q)
 |[],_,_=>rfl
 | .jm y::ks,b0,Q=>by simp only [List.cons_append,dz,nf P ks b0 Q]
 | .pT id::ks,b0,Q=>by simp only [List.cons_append,dz,nf P ks b0 Q]
 | .nW c m::ks,b0,Q=>by simp only [List.cons_append,dz,nf P ks b0 Q]
def j7 (Q:Exit->Act->aj->Prop):Prop:=∀c a w,¬Q (.panic c) a w
theorem j7.then {Q:Exit->Act->aj->Prop} (h:j7 Q) (R:Act->aj->Prop):j7 (Exit.then R Q):=λc a w aA=>h c a w aA
theorem j7.inBlock {Q:Exit->Act->aj->Prop} (h:j7 Q) (id:Nat):j7 (Exit.inBlock id Q):=λc a w aA=>h c a w aA
theorem j7.pU {P:aC} {Q:Exit->Act->aj->Prop} (h:j7 Q):∀ks:List fM,j7 (dz P ks Q)
 |[]=>h
 | .jm y::ks=>(j7.pU h ks).then _
 | .pT id::ks=>(j7.pU h ks).inBlock id
 | .nW c m::ks=>(j7.pU h ks).then _
section
variable [aX] [cX]
def jI (P:aC) (N B:Nat) (w0:aj) (Q:Exit->Act->aj->Prop):bT->Prop
 | .done x s=>∀a w,Here N s B w0 a w->Q x.exit' a w
 | .loop b s ks=>∀a w,Here N s B w0 a w->(Code.loop b).wpIn (Fr none) 0 P (dz P ks Q) a w
 | .oper o r ops s ks=>∀a w,Here N s B w0 a w->wpListIn (Fr none) 0 P ops (dz P ks Q) (o::r) a w
 | .range g ps jj b s ks=>∀a w,Here N s B w0 a w->(Code.rangeFunc g ps jj b).wpIn (Fr none) 0 P (dz P ks Q) a w
 | .draw id ops s ks=>∀a w,Here N s B w0 a w->(Code.region id ops true).wpIn (Fr none) 0 P (dz P ks Q) a w
 | .cond c x y s ks=>∀a w,Here N s B w0 a w->(Code.cond c x y).wpIn (Fr none) 0 P (dz P ks Q) a w
omit [aX] [cX] in
theorem Ee {P:aC} {y:Code} {Q:Exit->Act->aj->Prop} {x:hZ} {a:Act} {w:aj} (ag:x≠.normal) (h:Q x.exit' a w) (R:Act->aj->Prop):Exit.then R Q x.exit' a w:=by
 cases x<;>first|exact absurd rfl ag|exact h
variable {P:aC} [Lib P] [c0 P] {C:gm} {N B:Nat} {w0:aj}
omit [Lib P] [c0 P] in
theorem jI.push {k:fM} {Q:Exit->Act->aj->Prop} {st:bT} (aH:∀x s,st≠.done x s) (h:jI P N B w0 Q (st.push k)):jI P N B w0 (dz P [k] Q) st:=by
 cases st with
 |done x s=>exact absurd rfl (aH x s)
 |loop b s ks=>intro a w aq;have:=h a w aq;rw[nf] at this;exact this
 |oper o r ops s ks=>intro a w aq;have:=h a w aq;rw[nf] at this;exact this
 |range g ps jj b s ks=>intro a w aq;have:=h a w aq;rw[nf] at this;exact this
 |draw id ops s ks=>intro a w aq;have:=h a w aq;rw[nf] at this;exact this
 |cond c x y s ks=>intro a w aq;have:=h a w aq;rw[nf] at this;exact this
omit [Lib P] [c0 P] in
theorem jI.r7 {k:List fM} {Q:Exit->Act->aj->Prop} {st:bT} (aH:∀x s,st≠.done x s) (h:jI P N B w0 Q (st.r7 k)):jI P N B w0 (dz P k Q) st:=by
 cases st with
 |done x s=>exact absurd rfl (aH x s)
 |loop b s ks=>intro a w aq;have:=h a w aq;rw[nf] at this;exact this
 |oper o r ops s ks=>intro a w aq;have:=h a w aq;rw[nf] at this;exact this
 |range g ps jj b s ks=>intro a w aq;have:=h a w aq;rw[nf] at this;exact this
 |draw id ops s ks=>intro a w aq;have:=h a w aq;rw[nf] at this;exact this
 |cond c x y s ks=>intro a w aq;have:=h a w aq;rw[nf] at this;exact this
theorem Ai (b1:iI P .nil C) {ops:Array Oper} {ms:List Nat} {Q:Exit->Act->aj->Prop}:∀(l:List Oper) (sl:bh) (A:aD) (a:Act) (w:aj),jI P N B w0 Q (vr P C N ops ms l sl A)->Here N {sl,ms,A} B w0 a w->wpListIn (Fr none) 0 P ops Q l a w
 |[],sl,A,a,w,b2,aq=>b2 a w aq
 |o::r,sl,A,a,w,b2,aq=>by
  unfold vr at b2;split at b2
  ·rename_i c8 aY cd
   exact JB (l1:=[o]) (s:={sl,ms,A}) b1 r (by simp only [pF,cd]) aq λaL w' oF=>Ai b1 r c8 aY aL w' b2 oF
  ·exact b2 a w aq
theorem qQ (cn:P.follows .mixedOrders=true) (b1:iI P .nil C) {a_:Nat} {c:Code} {s:cz} {st:bT} {Q:Exit->Act->aj->Prop} {a:Act} {w:aj}
  (h:(match iW P C .nil N false a_ c s with|some (x,s1)=>some (bT.done x s1)|none=>none)=some st) (b2:jI P N B w0 Q st) (aq:Here N s B w0 a w):c.wpIn (Fr none) 0 P Q a w:=by
 split at h
 ·rename_i x s1 h1
  cases h;refine wpIn_mono (Qz cn b1 a_ h1 aq) λe aL w' hp=> ?_
  obtain⟨rfl,oF⟩:=hp;exact b2 aL w' oF
 ·cases h
theorem ng (cn:P.follows .mixedOrders=true) (b1:iI P .nil C) {a_:Nat}:∀(c:Code) (s:cz) (st:bT) (Q:Exit->Act->aj->Prop) (a:Act) (w:aj),j7 Q->ll P C N a_ c s=some st->jI P N B w0 Q st->Here N s B w0 a w->c.wpIn (Fr none) 0 P Q a w
 | .loop b,s,st,Q,a,w,aA,h,b2,aq=>by
   unfold ll at h;split at h
   ·rename_i x s1 h1
    exact qQ (a_:=a_) (c:= .loop b) cn b1 (by rw[h1];exact h) b2 aq
   ·cases h
    exact b2 a w aq
 | .region id ops d,s,st,Q,a,w,aA,h,b2,aq=>by
   unfold ll at h;cases d with
   |false=>
    rw[cV,bS] at h;subst h;exact wpIn_region_list (Ai b1 _ _ _ a w b2 aq)
   |true=>
    rw[a7] at h;split at h
    ·rename_i c8 aY r h1
     cases h;obtain⟨⟨φ,ds,g1,g2,b6,g4,g7⟩,ih,g6⟩:=aq;refine I_ cn b1 b6 (hg φ) g2 (λ_=>rfl) aA h1 λeE db w1 q1 aJ=> ?_
     obtain⟨bK,b0⟩:=vj g4 aJ g6;exact Ai b1 _ _ _ db w1 b2 ⟨⟨eE,ds,g1.mono (aJ.ext b6),q1,aJ.rel,bK,g7.step aJ⟩,ih.trans b0,Nat.le_trans g6 aJ.eL⟩
    ·split at h
     ·rename_i c8 aY h1
      cases h;obtain⟨⟨φ,ds,g1,g2,b6,g4,g7⟩,ih,g6⟩:=aq;refine Jf cn b1 b6 (hg φ) g2 (λ_=>rfl) aA h1 λeE db w1 q1 aJ=> ?_
      obtain⟨bK,b0⟩:=vj g4 aJ g6;exact b2 db w1 ⟨⟨eE,ds,g1.mono (aJ.ext b6),q1,aJ.rel,bK,g7.step aJ⟩,ih.trans b0,Nat.le_trans g6 aJ.eL⟩
     ·cases h
      exact b2 a w aq
 | .seq x y,s,st,Q,a,w,aA,h,b2,aq=>by
   unfold ll at h;refine wpIn_seq ?_;split at h
   ·rename_i jk s1 h1
    refine ng cn b1 x s _ _ a w (aA.then _) h1 (λdb w1 jJ=> ?_) aq;split at h
    ·exact ng cn b1 y s1 st Q db w1 aA h b2 jJ
    ·rename_i ag
     cases h;exact Ee (P:=P) (y:=y) (λh=>ag h) (b2 db w1 jJ) _
   ·rename_i kM h1 aH
    cases h;exact ng cn b1 x s _ _ a w (aA.then _) aH (jI.push (Q:=Q) (k:= .jm y) h1 b2) aq
   ·cases h
 | .cond c x y,s,st,Q,a,w,aA,h,b2,aq=>by
   unfold ll at h;split at h
   ·rename_i t aE
    refine wpIn_cond (QB aE aq) ?_;cases t with
    |true=>exact ng cn b1 x s st Q a w aA h b2 aq
    |false=>exact ng cn b1 y s st Q a w aA h b2 aq
   ·split at h
    ·rename_i t aE
     refine wpIn_cond (QC b1.facts aE aq) ?_;cases t with
     |true=>exact ng cn b1 x s st Q a w aA h b2 aq
     |false=>exact ng cn b1 y s st Q a w aA h b2 aq
    ·cases h
     exact b2 a w aq
 | .block id x,s,st,Q,a,w,aA,h,b2,aq=>by
   unfold ll at h;refine wpIn_block ?_;split at h
   ·rename_i jk s1 h1
    refine ng cn b1 x s _ _ a w (aA.inBlock id) h1 (λdb w1 jJ=> ?_) aq;split at h
    ·rename_i id'
     show if id'=id then Q .normal db w1 else Q (.exit id') db w1
     cases U:Nat.beq id' id with
     |true=>
      rw[U] at h;cases h;rw[aR (bJ U)];exact b2 db w1 jJ
     |false=>
      rw[U] at h;cases h;rw[aW (Nat.ne_of_beq_eq_false U)];exact b2 db w1 jJ
    ·rename_i ag
     cases h;have:=b2 db w1 jJ;cases jk with
     |exit id'=>exact absurd rfl (ag id')
     |_=>exact this
   ·rename_i kM h1 aH
    cases h;exact ng cn b1 x s _ _ a w (aA.inBlock id) aH (jI.push (Q:=Q) (k:= .pT id) h1 b2) aq
   ·cases h
 | .skip,s,st,Q,a,w,aA,h,b2,aq=>qQ (a_:=a_) cn b1 h b2 aq
 | .rangeFunc g ps jj b,s,st,Q,a,w,aA,h,b2,aq=>by
   unfold ll at h;split at h
   ·rename_i x s1 h1
    exact qQ (a_:=a_) (c:= .rangeFunc g ps jj b) cn b1 (by rw[h1];exact h) b2 aq
   ·cases h
    exact b2 a w aq
 | .exit _,s,st,Q,a,w,aA,h,b2,aq=>qQ (a_:=a_) cn b1 h b2 aq
 | .scope _,s,st,Q,a,w,aA,h,b2,aq=>qQ (a_:=a_) cn b1 h b2 aq
 | .label _,s,st,Q,a,w,aA,h,b2,aq=>qQ (a_:=a_) cn b1 h b2 aq
 | .goto _,s,st,Q,a,w,aA,h,b2,aq=>qQ (a_:=a_) cn b1 h b2 aq
 | .ret,s,st,Q,a,w,aA,h,b2,aq=>qQ (a_:=a_) cn b1 h b2 aq
 | .refuse _,s,st,Q,a,w,aA,h,b2,aq=>qQ (a_:=a_) cn b1 h b2 aq
theorem Ef (cn:P.follows .mixedOrders=true) (b1:iI P .nil C) {a_:Nat} {c:Code}:∀(m:Nat) (s:cz) (st:bT) (Q:Exit->Act->aj->Prop) (a:Act) (w:aj),j7 Q->Ah P C N a_ c m s=some st->jI P N B w0 Q st->Here N s B w0 a w->Code.roundsIn (Fr none) 0 P c Q m a w
 |0,s,st,Q,a,w,aA,h,b2,aq=>by cases h
 |m+1,s,st,Q,a,w,aA,h,b2,aq=>by
  unfold Ah at h;rw[roundsIn_succ];split at h
  ·rename_i jk s1 h1
   refine ng cn b1 c s _ _ a w (aA.then _) h1 (λdb w1 jJ=> ?_) aq;split at h
   ·exact Ef cn b1 m s1 st Q db w1 aA h b2 jJ
   ·rename_i ag
    cases h;exact Ee (P:=P) (y:= .skip) (λh=>ag h) (b2 db w1 jJ) _
  ·rename_i kM h1 aH
   cases h;exact ng cn b1 c s _ _ a w (aA.then _) aH (jI.push (Q:=Q) (k:= .nW c m) h1 b2) aq
  ·cases h
theorem lW (cn:P.follows .mixedOrders=true) (b1:iI P .nil C) {a_:Nat}:∀(ks:List fM) (x:hZ) (s:cz) (st:bT) (Q:Exit->Act->aj->Prop) (a:Act) (w:aj),j7 Q->resume P C N a_ ks x s=some st->jI P N B w0 Q st->Here N s B w0 a w->dz P ks Q x.exit' a w
 |[],x,s,st,Q,a,w,aA,h,b2,aq=>by
  cases h;exact b2 a w aq
 | .jm y::ks,x,s,st,Q,a,w,aA,h,b2,aq=>by
   unfold resume at h;unfold dz;cases x with
   |normal=>
    simp only at h;show y.wpIn (Fr none) 0 P (dz P ks Q) a w;split at h
    ·rename_i jk s1 h1
     exact ng cn b1 y s _ _ a w (aA.pU ks) h1 (λdb w1 jJ=>lW cn b1 ks jk s1 st Q db w1 aA h b2 jJ) aq
    ·rename_i kM h1 aH
     cases h;exact ng cn b1 y s _ _ a w (aA.pU ks) aH (jI.r7 (Q:=Q) (k:=ks) h1 b2) aq
    ·cases h
   |exit id=>exact lW cn b1 ks (.exit id) s st Q a w aA h b2 aq
   |goto l=>exact lW cn b1 ks (.goto l) s st Q a w aA h b2 aq
   |ret=>exact lW cn b1 ks .ret s st Q a w aA h b2 aq
 | .pT id::ks,x,s,st,Q,a,w,aA,h,b2,aq=>by
   unfold resume at h;unfold dz;cases x with
   |exit id'=>
    simp only at h;show if id'=id then dz P ks Q .normal a w else dz P ks Q (.exit id') a w
    cases U:Nat.beq id' id with
    |true=>
     rw[U,a7] at h;rw[aR (bJ U)];exact lW cn b1 ks .normal s st Q a w aA h b2 aq
    |false=>
     rw[U,cV] at h;rw[aW (Nat.ne_of_beq_eq_false U)];exact lW cn b1 ks (.exit id') s st Q a w aA h b2 aq
   |normal=>exact lW cn b1 ks .normal s st Q a w aA h b2 aq
   |goto l=>exact lW cn b1 ks (.goto l) s st Q a w aA h b2 aq
   |ret=>exact lW cn b1 ks .ret s st Q a w aA h b2 aq
 | .nW c m::ks,x,s,st,Q,a,w,aA,h,b2,aq=>by
   unfold resume at h;unfold dz;cases x with
   |normal=>
    simp only at h;show Code.roundsIn (Fr none) 0 P c (dz P ks Q) m a w;split at h
    ·rename_i jk s1 h1
     exact Ef cn b1 m s _ _ a w (aA.pU ks) h1 (λdb w1 jJ=>lW cn b1 ks jk s1 st Q db w1 aA h b2 jJ) aq
    ·rename_i kM h1 aH
     cases h;exact Ef cn b1 m s _ _ a w (aA.pU ks) aH (jI.r7 (Q:=Q) (k:=ks) h1 b2) aq
    ·cases h
   |exit id=>exact lW cn b1 ks (.exit id) s st Q a w aA h b2 aq
   |goto l=>exact lW cn b1 ks (.goto l) s st Q a w aA h b2 aq
   |ret=>exact lW cn b1 ks .ret s st Q a w aA h b2 aq
end
end AE
namespace AE
def aS (W:aj) (i:Nat):Option Obj:=W.heap[i]?
inductive bH {α:Type} (M:Nat->Option Obj) (k:Nat) (enc:α->List I):I->List α->Prop
 |nil (a:Option Addr) (c:Nat):bH M k enc (.slice a 0 c) []
 |mk {b off c:Nat} {l:List α} {cs:Array I} {ty:az} {fr:Nat×Nat} (U:M b=some (.cells cs ty fr)) (ao:l.length<=c) (h:∀(i:Nat) (x:α),l[i]? =some x->∀(j:Nat) (u:I),(enc x)[j]? =some u->cs[off+i*k+j]? =some u):
   bH M k enc (.slice (some ⟨b,off,none⟩) l.length c) l
theorem bH.mono {α:Type} {M M':Nat->Option Obj} {k:Nat} {enc:α->List I} {v:I} {l:List α} (h:bH M k enc v l) (hm:∀i o,M i=some o->M' i=some o):bH M' k enc v l:=by
 cases h with
 |nil=>exact .nil _ _
 |mk h1 ad al=>exact .mk (hm _ _ h1) ad al
theorem bH.below {α:Type} {W tw:aj} {k:Nat} {enc:α->List I} {v:I} {l:List α} (h:bH (aS W) k enc v l) (U:dJ W.heap.size W tw):bH (aS tw) k enc v l:=
 h.mono λi o J=>by
   have fZ:W.heap[i]? =some o:=J;show tw.heap[i]? =some o;rw[U.block i (Array.getElem?_eq_some_iff.1 fZ).1];exact fZ
theorem bH.slice {α:Type} {M:Nat->Option Obj} {k:Nat} {enc:α->List I} {v:I} {l:List α} (h:bH M k enc v l):∃a c,v= .slice a l.length c:=by
 cases h with
 |nil=>exact⟨_,_,rfl⟩
 |mk=>exact⟨_,_,rfl⟩
def cellAt:I->Nat->Option Addr
 | .slice (some ⟨b,off,_⟩) _ _,o=>some ⟨b,off+o,none⟩
 |_,_=>none
def j8 (v:I) (o:Nat):I:= .pointer (cellAt v o)
variable [aX]
section
variable {P:aC}
theorem bE.len {t ty e:az} {x r:I} {a:Option Addr} {n c:Nat} (ag:aF x=true) (hr:aF r=true) (aE:P.underlying t=some (.slice e)) (ex:aK x= .slice a n c) (cN:aK r= .int .i64 n):bE P (.len #[t] ty x,r):=by
 refine⟨ag,hr,λc6 c7 w=> ?_⟩;show (eO c6 c7 (.len #[t] ty (aK x))).run P w=_;rw[ex];unfold eO;have:(Builtin.len_ #[t] ty #[.slice a n c]).run P w= .ok (.int .i64 n) w:=by
  simp [Builtin.len_,run_underlying aE];rfl
 simp only [Sem.run_bind,this,Result.andThen_ok,cN];rfl
theorem oI {op:BinOp} {t:az} {x y r:I} {a b:I} (ag:aF x=true) (aT:aF y=true) (hr:aF r=true) (ex:aK x=a) (gH:aK y=b)
  (h:∀c6 c7 w,(eO c6 c7 (.bin op t a b)).run P w= .ok (.value (aK r)) w):bE P (.bin op t x y,r):=by
 refine⟨by simp [kR,ag,aT],hr,?_⟩;show ∀c6 c7 w,(eO c6 c7 (.bin op t (aK x) (aK y))).run P w=_;rw[ex,gH];exact h
def xQ (op:BinOp) (k:IntKind) (a b:Int):I:=
 match op with
 | .lss=> .bool (decide (a<b))
 | .leq=> .bool (decide (a<=b))
 | .gtr=> .bool (decide (b<a))
 | .geq=> .bool (decide (b<=a))
 | .eql=> .bool (decide (a=b))
 | .neq=> .bool (!decide (a=b))
 | .add=> .int k (k.wrap (a+b))
 | .sub=> .int k (k.wrap (a-b))
 | .mul=> .int k (k.wrap (a*b))
 |_=>undef
def Aj:BinOp->Bool
 | .lss| .leq| .gtr| .geq| .eql| .neq| .add| .sub| .mul=>true
 |_=>false
omit [aX] in
theorem QH {op:BinOp} (ct:Aj op=true) (t:az) (k:IntKind) (a b:Int) (c6 c7:Operand) (w:aj):(eO c6 c7 (.bin op t (.int k a) (.int k b))).run P w= .ok (.value (xQ op k a b)) w:=by
 have e1:(a==b)=decide (a=b):=by rw[Bool.eq_iff_iff];simp
 cases op<;>first|(cases ct;done)|skip
 all_goals unfold eO
 all_goals simp [eqGuard,binOp,Op.intCmp,Op.intArith,xQ,e1,bne]
theorem bE.bi {op:BinOp} {t:az} {x y r:I} {k:IntKind} {a b:Int} (ag:aF x=true) (aT:aF y=true) (hr:aF r=true) (ct:Aj op=true) (ex:aK x= .int k a) (gH:aK y= .int k b)
 (cN:aK r=xQ op k a b):bE P (.bin op t x y,r):=oI ag aT hr ex gH λc6 c7 w=>by rw[cN];exact QH ct t k a b c6 c7 w
theorem bE.QI {bX:Array az} {ty:az} {x y r:I} {k:IntKind} {a b:Int} (ag:aF x=true) (aT:aF y=true) (hr:aF r=true) (ex:aK x= .int k a) (gH:aK y= .int k b) (cN:aK r= .int k (max a b)):bE P (.ep bX ty x y,r):=by
 refine⟨by simp [kR,ag,aT],hr,λc6 c7 w=> ?_⟩;show (eO c6 c7 (.ep bX ty (aK x) (aK y))).run P w=_;rw[ex,gH,cN];unfold eO;simp only [Sem.run_bind,run_max_int2,Result.andThen_ok];rw[show (if b>a then b else a)=max a b by rw[Int.max_def];split<;>split<;>omega];rfl
theorem bE.QJ {bX:Array az} {ty:az} {x y r:I} {k:IntKind} {a b:Int} (ag:aF x=true) (aT:aF y=true) (hr:aF r=true) (ex:aK x= .int k a) (gH:aK y= .int k b) (cN:aK r= .int k (min a b)):bE P (.lb bX ty x y,r):=by
 refine⟨by simp [kR,ag,aT],hr,λc6 c7 w=> ?_⟩;show (eO c6 c7 (.lb bX ty (aK x) (aK y))).run P w=_;rw[ex,gH,cN];unfold eO;simp only [Sem.run_bind,run_min_int2,Result.andThen_ok];rw[show (if b<a then b else a)=min a b by rw[Int.min_def];split<;>split<;>omega];rfl
theorem bE.ca {t e:az} {x i r:I} {b off n c aG:Nat} {j:Nat} {k:IntKind} (ag:aF x=true) (J:aF i=true) (hr:aF r=true) (aE:P.underlying t=some (.slice e)) (bt:aP P (sizeOf e)=some aG)
  (ex:aK x= .slice (some ⟨b,off,none⟩) n c) (e_:aK i= .int k j) (hj:j<n) (cN:aK r= .pointer (some ⟨b,off+j*aG,none⟩)):bE P (.ca t x i,r):=by
 refine⟨by simp [kR,ag,J],hr,λc6 c7 w=> ?_⟩;show (eO c6 c7 (.ca t (aK x) (aK i))).run P w=_;rw[ex,e_];unfold eO;have:(Instr.indexAt t (.slice (some ⟨b,off,none⟩) n c) (.int k j)).run P w= .ok (.pointer (some ⟨b,off+j*aG,none⟩)) w:=by
  simp [Instr.indexAt,run_underlying aE,asIntOf,hj,f' bt w,Addr.hX]
 simp only [Sem.run_bind,this,Result.andThen_ok,cN];rfl
theorem bE.hJ {s:az} {x r:I} {f b o:Nat} {fields:Array Field} {fD:Field} {n:Nat} (ag:aF x=true) (hr:aF r=true) (hs:aP P (underlying s)=some (.struct fields)) (aB:fields[f]? =some fD) (ah:aP P (sizeOf fD.type)=some n) (h0:n≠0)
  (ex:aK x= .pointer (some ⟨b,o,none⟩)) (cN:aK r= .pointer (some ⟨b,o+fD.offset,none⟩)):bE P (.hJ s x f,r):=by
 refine⟨ag,hr,λc6 c7 w=> ?_⟩;show (eO c6 c7 (.hJ s (aK x) f)).run P w=_;rw[ex];unfold eO;have:(Instr.fieldAt s (.pointer (some ⟨b,o,none⟩)) f).run P w= .ok (.pointer (some ⟨b,o+fD.offset,none⟩)) w:=by
  unfold Instr.fieldAt;refine cb hs ?_;simp only [aB];refine cb (a:=(⟨b,o,none⟩:Addr)) rfl ?_;unfold fieldPlace;simp only [Sem.run_bind,f' ah w,Result.andThen_ok,aW h0,Addr.hX];rfl
 simp only [Sem.run_bind,this,Result.andThen_ok,cN];rfl
theorem bE.ld {t:az} {x r:I} {b o n:Nat} {l:List I} (ag:aF x=true) (hr:aF r=true) (ha:aP P (isAgg t)=some true) (ah:aP P (sizeOf t)=some n) (ex:aK x= .pointer (some ⟨b,o,none⟩))
  (hl:l.length=n) (ao:∀w,mW w->∀j u,l[j]? =some u->w.cell? ⟨b,o+j,none⟩=some u) (cN:aK r= .agg ⟨l⟩):bE P (.ld t x,r):=by
 refine⟨ag,hr,λc6 c7 w hw=> ?_⟩;show (eO c6 c7 (.ld t (aK x))).run P w=_;rw[ex];unfold eO;have sZ:∀j,j<n->w.cell? ((⟨b,o,none⟩:Addr).add j)=some (l.getD j undef):=λj hj=>by
  rw[Addr.hX];refine ao w hw j _ ?_;rw[fc af,de,fc af];rfl
 have:(Instr.loadAt t (.pointer (some ⟨b,o,none⟩))).run P w= .ok (.agg ⟨l⟩) w:=by
  unfold Instr.loadAt;refine cb (a:=(⟨b,o,none⟩:Addr)) rfl ?_;unfold loadVar;refine cb ha ?_;simp only [if_true];refine cb ah ?_;refine ck (run_loadCells _ _ n (λj=>l.getD j undef) sZ) ?_;have:(List.range n).map (λj=>l.getD j undef)=l:=by
   apply List.ext_getElem
   ·simp [hl]
   ·intro i h1 ad
    simp only [List.getElem_map,List.getElem_range,de];rw[fc ad];rfl
  show Result.ok (Value.agg (List.map (λj=>l.getD j undef) (List.range n)).toArray) w=_;rw[this]
 simp only [Sem.run_bind,this,Result.andThen_ok,cN];rfl
theorem bE.ld1 {t:az} {x r:I} {b o:Nat} {u:I} (ag:aF x=true) (hr:aF r=true) (ha:aP P (isAgg t)=some false) (ex:aK x= .pointer (some ⟨b,o,none⟩))
  (ao:∀w,mW w->w.cell? ⟨b,o,none⟩=some u) (cN:aK r=u):bE P (.ld t x,r):=by
 refine⟨ag,hr,λc6 c7 w hw=> ?_⟩;show (eO c6 c7 (.ld t (aK x))).run P w=_;rw[ex];unfold eO;have:(Instr.loadAt t (.pointer (some ⟨b,o,none⟩))).run P w= .ok u w:=by
  unfold Instr.loadAt;refine cb (a:=(⟨b,o,none⟩:Addr)) rfl ?_;unfold loadVar;refine cb ha ?_;simp [Go.load,Sem.run,ao w hw]
 simp only [Sem.run_bind,this,Result.andThen_ok,cN];rfl
omit [aX] in
theorem bH.at' {α:Type} {M:Nat->Option Obj} {k:Nat} {enc:α->List I} {v:I} {l:List α} (h:bH M k enc v l) {i:Nat} {x:α} (J:l[i]? =some x):∃b off c cs ty fr,v= .slice (some ⟨b,off,none⟩) l.length c/\M b=some (.cells cs ty fr)/\
  ∀(j:Nat) (u:I),(enc x)[j]? =some u->cs[off+i*k+j]? =some u:=by
 cases h with
 |nil=>simp at J
 |mk h1 ad al=>exact⟨_,_,_,_,_,_,rfl,h1,al i x J⟩
theorem bE.QK {α:Type} {k:Nat} {enc:α->List I} {v:I} {l:List α} (h:bH aX.eb k enc v l) {t e:az} {x i r:I} {j:Nat} {kd:IntKind} (hj:j<l.length) (ag:aF x=true) (J:aF i=true) (hr:aF r=true) (aE:P.underlying t=some (.slice e))
  (bt:aP P (sizeOf e)=some k) (ex:aK x=v) (e_:aK i= .int kd j) (cN:aK r=j8 v (j*k)):bE P (.ca t x i,r):=by
 obtain⟨b,off,c,_,_,_,aw,_⟩:=h.at' (fc hj);refine bE.ca ag J hr aE bt (ex.trans aw) e_ hj ?_;rw[cN,aw];rfl
theorem bE.QL {s:az} {x r v:I} {f o o':Nat} {fields:Array Field} {fD:Field} {n:Nat} (ag:aF x=true) (hr:aF r=true) (hs:aP P (underlying s)=some (.struct fields)) (aB:fields[f]? =some fD) (ah:aP P (sizeOf fD.type)=some n) (h0:n≠0)
  (aw:∃b off n c,v= .slice (some ⟨b,off,none⟩) n c) (ax:o'=o+fD.offset) (ex:aK x=j8 v o) (cN:aK r=j8 v o'):bE P (.hJ s x f,r):=by
 obtain⟨b,off,m,c,rfl⟩:=aw;refine bE.hJ ag hr hs aB ah h0 ex ?_;rw[cN,ax];show Value.pointer (some ⟨b,off+(o+fD.offset),none⟩)=_;rw[Nat.add_assoc]
theorem bE.QM {α:Type} {k:Nat} {enc:α->List I} {v:I} {l:List α} (h:bH aX.eb k enc v l) {t:az} {p r:I} {i o j:Nat} {x:α} {u:I} (J:l[i]? =some x) (hp:aF p=true) (hr:aF r=true)
  (ha:aP P (isAgg t)=some false) (ax:o=i*k+j) (hu:(enc x)[j]? =some u) (ex:aK p=j8 v o) (cN:aK r=u):bE P (.ld t p,r):=by
 obtain⟨b,off,c,cs,ty,fr,aw,U,ao⟩:=h.at' J;rw[aw] at ex;refine bE.ld1 hp hr ha ex (λw hw=> ?_) cN;rw[cell_of_row w b _ cs ty fr (hw b _ U),ax,<-Nat.add_assoc];exact ao j u hu
end
end AE
namespace AE
def lX:I->I
 | .agg _=> .bool false
 | .tuple _=> .bool false
 |v=>v
theorem QN (v:I):∀cs,lX v≠.agg cs/\lX v≠.tuple cs:=by
 intro cs;cases v<;>simp [lX]
def mw (bp:List I) (k:Nat):I:=bif Nat.blt k cP then lX (bp.getD k (.bool false)) else .pointer (some ⟨k-cP,0,none⟩)
theorem QO (bp:List I) (k:Nat):∀cs,mw bp k≠.agg cs/\mw bp k≠.tuple cs:=by
 unfold mw;cases Nat.blt k cP with
 |true=>exact QN _
 |false=>exact λcs=>⟨λh=>(by cases h),λh=>(by cases h)⟩
theorem QP (bp:List I) (g:Nat):mw bp (cP+g)= .pointer (some ⟨g,0,none⟩):=by
 unfold mw;rw[show Nat.blt (cP+g) cP=false from Bool.eq_false_iff.2 λh=>by rw[Nat.blt_eq] at h;omega,cV,Nat.add_sub_cancel_left]
@[reducible] def a' (M:Nat->Option Obj) (bp:List I):aX:=⟨mw bp,QO bp,M,QP bp⟩
class oJ (Q:Exit->Act->aj->Prop):Prop where
 calm:j7 Q
instance [cX] {P:aC} {fn:Func} {N B:Nat} {w0:aj} {R:Ending->aj->Prop}:oJ (qM P fn N B w0 R):=⟨λ_ _ _ h=>h⟩
instance {Q:Exit->Act->aj->Prop} [oJ Q] {R:Act->aj->Prop}:oJ (Exit.then R Q):=⟨(oJ.calm (Q:=Q)).then R⟩
instance {P:aC} {Q:Exit->Act->aj->Prop} [oJ Q] {ks:List fM}:oJ (dz P ks Q):=⟨(oJ.calm (Q:=Q)).pU ks⟩
def vt:hZ->Bool
 | .normal| .ret=>true
 |_=>false
def Ak (P:aC) (fn:Func):Option bT->Option I
 |some (.done x s)=>bif vt x then match qG s.A s.ms with
  |some dP=>match pQ P dP s.sl fn.results.toList with
   |some vs=>bif aF (qJ vs) then some (qJ vs) else none
   |none=>none
  |none=>none
  else none
 |_=>none
def Xw (head:bh) (aQ:List cm):Option bT->Option dM
 |some (.done .normal s)=>gp s head aQ
 |_=>none
def jK:Option bT->List fM
 |some (.loop _ _ ks)=>ks
 |some (.oper _ _ _ _ ks)=>ks
 |some (.range _ _ _ _ _ ks)=>ks
 |some (.draw _ _ _ ks)=>ks
 |some (.cond _ _ _ _ ks)=>ks
 |_=>[]
def dA:Option bT->cz
 |some (.done _ s)=>s
 |some (.loop _ s _)=>s
 |some (.oper _ _ _ s _)=>s
 |some (.range _ _ _ _ s _)=>s
 |some (.draw _ _ s _)=>s
 |some (.cond _ _ _ s _)=>s
 |none=>{sl:= .nil,ms:=[],A:=start}
def jL:Option bT->List Oper
 |some (.oper _ r _ _ _)=>r
 |_=>[]
def jM:Option bT->Array Oper
 |some (.oper _ _ ops _ _)=>ops
 |_=> #[]
def hN:Option bT->Option Tmp
 |some (.oper o _ _ _ _)=>o.dst
 |_=>none
def hP (head:bh) (aQ:List cm):cz:={sl:=head,ms:=[],A:=gP aQ}
def QQ:List (Nat×I)->bh
 |[]=> .nil
 |(t,v)::r=>match bB.set v depth (QQ r) t with
  |some s=>s
  |none=> .nil
def Al (P:aC) (fn:Func):Option bT->Option (I×aD)
 |some (.done x s)=>bif vt x then match qG s.A s.ms with
  |some dP=>match pQ P dP s.sl fn.results.toList with
   |some vs=>some (qJ vs,dP)
   |none=>none
  |none=>none
  else none
 |_=>none
theorem QR [aX] [cX] {P:aC} {fn:Func} {N B:Nat} {w0:aj} {R:Ending->aj->Prop} {st:bT} {v:I} {dP:aD} (h:Al P fn (some st)=some (v,dP)) (hy:∀au cQ,Here 1 (Ae v dP) B w0 (D7 au) cQ->R (.returned au) cQ):jI P N B w0 (qM P fn N B w0 R) st:=by
 unfold Al at h;split at h
 ·rename_i x s cd
  cases cd;cases ag:vt x with
  |false=>rw[ag] at h;cases h
  |true=>
   rw[ag,a7] at h;split at h
   ·rename_i xw hl
    split at h
    ·rename_i vs iJ
     cases h;intro a w aq;have main:xG P fn N B w0 R a w:=⟨inferInstance,s,dP,qJ vs,aq,hl,λ_ _ _ hr hs=>Jo hr hs iJ,hy⟩;cases x with
     |normal=>exact main
     |ret=>exact main
     |exit id=>cases ag
     |goto l=>cases ag
    ·cases h
   ·cases h
 ·cases h
theorem QS {P:aC} {fn:Func} {o:Option bT} {v:I} (h:Ak P fn o=some v):∃dP,Al P fn o=some (v,dP)/\aF v=true:=by
 unfold Ak at h;unfold Al;split at h
 ·rename_i x s
  cases ag:vt x with
  |false=>rw[ag] at h;cases h
  |true=>
   rw[ag,a7] at h;simp only [ag,a7];split at h
   ·rename_i dP hl
    split at h
    ·rename_i vs iJ
     cases hp:aF (qJ vs) with
     |false=>rw[hp] at h;cases h
     |true=>
      rw[hp,a7,bS] at h;subst h;exact⟨dP,by simp only [hl,iJ],hp⟩
    ·cases h
   ·cases h
 ·cases h
theorem QT [aX] [cX] {P:aC} {fn:Func} {N B:Nat} {w0:aj} {R:Ending->aj->Prop} {st:bT} {v:I} (h:Ak P fn (some st)=some v) (hy:∀cQ,dJ B w0 cQ->mW cQ->R (.returned (aK v)) cQ):jI P N B w0 (qM P fn N B w0 R) st:=by
 obtain⟨dP,h1,hp⟩:=QS h;refine QR h1 λau cQ aq=> ?_
 have J:=aq.kT;obtain⟨⟨φ,ds,q1,aJ,cg,dn,_⟩,fe,iH⟩:=aq;have:=aJ.get 0 v rfl;rw[show au=aK v from ar.gW v hp this];exact hy cQ fe J
def gd [aX] [cX] (P:aC) (N B:Nat) (w0:aj) (Q:Exit->Act->aj->Prop) (o:Option bT):Prop:=∃st,o=some st/\jI P N B w0 Q st
def Eg [aX] (P:aC) (F:List (eZ×I)):Prop:=∀p∈F,bE P p
def JJ [aX] (P:aC) (T:List (FuncId×List I×I)):Prop:=∀p∈T,xE P p
def Am (P:aC) [Lib P] (F:List (eZ×I)) (T:List (FuncId×List I×I)) (N a_ d:Nat) (r:List Oper) (ops:Array Oper) (ks:List fM) (s:cz):Option bT:=
 match @vr P _ ⟨F⟩ (@qL P _ ⟨F⟩ ⟨T⟩ .nil a_ d) N ops s.ms r s.sl s.A with
 | .done .normal s1=> @resume P _ ⟨F⟩ (@qL P _ ⟨F⟩ ⟨T⟩ .nil a_ d) N a_ ks .normal s1
 | .done _ _=>none
 |st=>some (st.r7 ks)
theorem QU [aX] [cX] {P:aC} [Lib P] {F:List (eZ×I)} {T:List (FuncId×List I×I)} {N B a_ d:Nat} {w0 w:aj} {a:Act} {r:List Oper} {ops:Array Oper} {ks:List fM} {s:cz} {Q:Exit->Act->aj->Prop} [oJ Q] (cn:P.follows .mixedOrders=true) (cS:Eg P F) (c9:JJ P T)
  (h:gd P N B w0 Q (Am P F T N a_ d r ops ks s)) (aq:Here N s B w0 a w):wpListIn (Fr none) 0 P ops (dz P ks Q) r a w:=by
 obtain⟨st,h1,ad⟩:=h;letI:c0 P:=⟨F⟩;letI:pR P:=⟨T⟩;have ao:=xF (gl:= .nil) (a_:=a_) cn cS c9 d;unfold Am at h1;refine Ai (ms:=s.ms) ao r s.sl s.A a w ?_ aq;split at h1
 ·rename_i s1 he
  rw[he];intro aL w' oF;exact lW cn ao ks .normal s1 st Q aL w' oJ.calm h1 ad oF
 ·cases h1
 ·rename_i kM aH he
  cases h1;exact jI.r7 (λx s ag=>by
   cases x with
   |normal=>exact aH _ ag
   |_=>exact he _ _ ag) ad
theorem QV [aX] {P:aC} {f:FuncId} {fn:Func} {c:Code} {args:List I} {sl:bh} {N:Nat} {W:aj} {R:Ending->aj->Prop} (lU:P.funcs[f]? =some fn) (ao:fn.body=some c) (ij:setArgs 0 args .nil=some sl) (hp:er args=true)
  (qK:args.length+(fn.ntmps-args.length)=N) (vu:mW W) (tr:∀a,@Here _ eu N {sl,ms:=[],A:=start} W.heap.size W a W->c.wpIn (Fr none) 0 P (@qM eu P fn N W.heap.size W R) a W):Calls P f ⟨e9 args⟩ W R:=by
 subst qK;letI:=eu;exact D8 lU ao ij (Jz vu) (λb e h=>by cases h) (oE.none _ _) ⟨by simp [qx],λj hj=>by simpa using ar.s7 (λ_=>none) args hp j hj⟩ (dJ.refl _ _) (bM _) tr
theorem wrap64 {n:Int} (h1: -9223372036854775808<=n) (ad:n<=9223372036854775807):IntKind.i64.wrap n=n:=IntWalk.i64_in n ⟨h1,ad⟩
attribute [instance] eu
end AE
namespace AE
theorem JK:∀{l:List I},er l=true->∀{v:I},v∈l->aF v=true
 |[],_,v,aw=>by cases aw
 |x::r,h,v,aw=>by
  unfold er at h;simp only [b4] at h;rcases List.mem_cons.1 aw with rfl|aw
  ·exact h.1
  ·exact JK h.2 aw
end AE
namespace AE
def JL [cX] {Y:Type} (vv:Y->aX) (R:Y->Prop) (dk:I) (vw:List cm) (B:Nat) (w0:aj) (e:Ending) (w':aj):Prop:=
 ∃au y,e= .returned au/\R y/\ @Here (vv y) _ 1 (Ae dk (gP vw)) B w0 (D7 au) w'
def JM [aX] (P:aC) (f:FuncId) (args:List I) (A:aD) (B:Nat) (w0:aj) {Y:Type} (vv:Y->aX) (R:Y->Prop) (dk:I) (vw:List cm):Prop:=
 ∀φ w ec,bs φ A w->(∀b e,φ b=some e->B<=e.aU)->fk args φ ec->dJ B w0 w->B<=w.heap.size->Calls P f ec w (@JL ⟨φ,A.n⟩ Y vv R dk vw B w0)
theorem JM.of [aX] {P:aC} {f:FuncId} {fn:Func} {c:Code} {args:List I} {sl:bh} {A:aD} {N B:Nat} {w0:aj} {Y:Type} {vv:Y->aX} {R:Y->Prop} {dk:I} {vw:List cm} (lU:P.funcs[f]? =some fn) (ao:fn.body=some c) (ij:setArgs 0 args .nil=some sl)
  (qK:args.length+(fn.ntmps-args.length)=N) (tr:∀φ a w,@Here _ ⟨φ,A.n⟩ N {sl,ms:=[],A} B w0 a w->c.wpIn (Fr none) 0 P (@qM ⟨φ,A.n⟩ P fn N B w0 (@JL ⟨φ,A.n⟩ Y vv R dk vw B w0)) a w):JM P f args A B w0 vv R dk vw:=by
 subst qK;intro φ w ec hr dw eY U bt;letI:cX:=⟨φ,A.n⟩;exact D8 lU ao ij hr dw ⟨bM _,λ_ _=>rfl⟩ eY U bt λa aq=>tr φ a w aq
def r8 (P:aC) [Lib P]:Option bT->Option (FuncId×List I×aD)
 |some (.oper o _ ops s _)=>match lR ops o s.sl with
  |some true=>match w_ P (dh .nil s.sl) s.A o with
   |some (.enter f args,aY)=>some (f,args,aY)
   |_=>none
  |_=>none
 |_=>none
theorem QW {α:Type} {o:Option α} {d:α} (h:o.isSome=true):o=some (o.getD d):=by
 cases o with
 |none=>cases h
 |some a=>rfl
end AE
namespace AE
theorem Eh {α:Type}:∀(k:Ask α) (w:aj),w.drawn<=(w.ask k).2.drawn
 | .done a,w=>bM _
 | .ask Xx range k,w=>by
   unfold World.ask;simp only;split
   ·exact Eh (k 0) w
   ·exact Nat.le_trans (Nat.le_succ _) (Eh _ {w with drawn:=w.drawn+1})
theorem QX (w:aj) (c:Sys):w.drawn<=(w.sys c).2.drawn:=by
 have h:=Eh (Kernel.perform c w.os) w;unfold World.sys;generalize w.ask (Kernel.perform c w.os)=x at h;obtain⟨⟨r,os⟩,w1⟩:=x;cases r<;>first|exact bM _|exact h
theorem QY {P:aC} {w w':aj} {a:Addr} {v:I} {b:Bool} {l:List Addr} (h:w.farStore P a v b= .ok (w',l)):w'.drawn=w.drawn:=by
 unfold World.farStore at h;split at h
 ·split at h
  ·rename_i r hr
   cases h;unfold World.viewStore at hr;simp only [bind,Except.bind,pure,Except.pure] at hr
   repeat' (split at hr)
   all_goals first|(cases hr;done)|(cases hr;rfl)
  ·cases h
 ·cases h
theorem kx {α:Type} {P:aC}:∀(s:Sem α) (w w':aj) (v:α),s.run P w= .ok v w'->w.drawn<=w'.drawn
 | .pure a,w,w',v,h=>by
   unfold Sem.run at h;cases h;exact bM _
 | .load m a k,w,w',v,h=>by
   unfold Sem.run at h;split at h
   ·exact kx _ w w' v h
   ·split at h
    ·exact kx _ w w' v h
    ·cases h
 | .store m a x k,w,w',v,h=>by
   have key:(match w.cell? a with
    |some _=>if w.frozen? a then Result.halt (.unsupported (.unsafePointer "a write to bytes that a string shares")) w else k.run P (w.setCell a x)
    |none=>match w.farStore P a x (m== .atomic) with
     | .ok (w,_)=>k.run P w
     | .error h=> .halt h w)=Result.ok v w'\/False:=by
    cases x<;>first|(unfold Sem.run at h;exact .inl h)|(unfold Sem.run at h;cases h)
   rcases key with h|h
   ·split at h
    ·split at h
     ·cases h
     ·have:=kx k _ w' v h
      exact this
    ·split at h
     ·rename_i w1 l aB
      have:=kx k _ w' v h;rw[QY aB] at this;exact this
     ·cases h
   ·exact h.elim
 | .new o k,w,w',v,h=>by
   unfold Sem.run at h;have:=kx _ _ w' v h;exact this
 | .shape r k,w,w',v,h=>by
   unfold Sem.run at h;exact kx _ w w' v h
 | .freeze a n k,w,w',v,h=>by
   unfold Sem.run at h;have:=kx k _ w' v h;unfold World.freeze at this;split at this<;>exact this
 | .frozen a k,w,w',v,h=>by
   unfold Sem.run at h;exact kx _ w w' v h
 | .getObj r k,w,w',v,h=>by
   unfold Sem.run at h;split at h
   ·cases h
   ·exact kx _ w w' v h
   ·cases h
 | .setObj r o k,w,w',v,h=>by
   unfold Sem.run at h;split at h
   ·cases h
   ·have:=kx k _ w' v h
    exact this
   ·cases h
 | .choose q k,w,w',v,h=>by
   unfold Sem.run at h;split at h
   ·exact kx _ w w' v h
   ·have:=kx _ _ w' v h
    exact Nat.le_trans (Nat.le_succ _) this
 | .sys c k,w,w',v,h=>by
   unfold Sem.run at h;exact Nat.le_trans (QX w c) (kx _ _ w' v h)
 | .program k,w,w',v,h=>by
   unfold Sem.run at h;exact kx _ w w' v h
 | .mark m k,w,w',v,h=>by
   unfold Sem.run at h;exact kx k w w' v h
 | .halt x,w,w',v,h=>by
   unfold Sem.run at h;cases h
abbrev Mem:=Nat->Option Obj
def dq:I->Option Nat
 | .slice (some a) _ c=>if c=0 then none else some a.block
 |_=>none
theorem Ei (a:Option Addr) (n:Nat):dq (.slice a n 0)=none:=by cases a<;>rfl
theorem jN (a:Addr) (n:Nat) {c:Nat} (h:0<c):dq (.slice (some a) n c)=some a.block:=by
 show (if c=0 then none else some a.block)=_;rw[aW af]
theorem tz {v:I} {i:Nat} (h:some i=dq v):some i=v.ownBlock:=by
 cases v<;>first|(cases h;done)|skip
 rename_i a n c;cases a with
 |none=>cases h
 |some a=>
  rcases Nat.eq_zero_or_pos c with ao|ao
  ·subst ao;cases h
  ·rw[jN a n ao] at h;exact h
def di {α:Type} (B:Nat) (M:Mem) (e:az) (k:Nat) (enc:α->List I) (v:I) (l:List α):Prop:=
 (∃a,v= .slice a 0 0/\l=[])\/
 ∃g cap cur,v= .slice (some ⟨g,0,none⟩) l.length cap/\0<cap/\B<=g/\M g=some (.cells cur e (0,0))/\l.length<=cap/\cap<=maxLen/\cur.size=cap*k/\cur.toList.take (l.length*k)=l.flatMap enc
theorem lY {α:Type} {k:Nat} {enc:α->List I} (hk:∀x,(enc x).length=k):∀l:List α,(l.flatMap enc).length=l.length*k
 |[]=>by simp
 |x::r=>by rw[List.flatMap_cons,List.length_append,hk,lY hk r,List.length_cons,Nat.add_mul,Nat.one_mul,Nat.add_comm]
theorem r9 {α:Type} {k:Nat} {enc:α->List I} (hk:∀x,(enc x).length=k):∀(l:List α) (i:Nat) (x:α),l[i]? =some x->∀(j:Nat) (u:I),(enc x)[j]? =some u->(l.flatMap enc)[i*k+j]? =some u
 |[],i,x,h,_,_,_=>by simp at h
 |y::r,0,x,h,j,u,hu=>by
  simp only [List.getElem?_cons_zero,bS] at h;subst h;have hj:j<(enc y).length:=(List.getElem?_eq_some_iff.1 hu).1;rw[List.flatMap_cons,List.getElem?_append_left af,Nat.zero_mul,Nat.zero_add];exact hu
 |y::r,i+1,x,h,j,u,hu=>by
  rw[List.flatMap_cons,List.getElem?_append_right (by rw[hk,Nat.add_mul];omega),hk,show (i+1)*k+j-k=i*k+j by rw[Nat.add_mul];omega];exact r9 hk r i x (by simpa using h) j u hu
section
variable {α:Type} {B:Nat} {M:Mem} {e:az} {k:Nat} {enc:α->List I} {v:I} {l:List α}
theorem di.nil (B:Nat) (M:Mem) (e:az) (k:Nat) (enc:α->List I) (a:Option Addr):di B M e k enc (.slice a 0 0) []:= .inl ⟨a,rfl,rfl⟩
theorem di.slice (h:di B M e k enc v l):∃a c,v= .slice a l.length c:=by
 rcases h with ⟨a,rfl,rfl⟩|⟨g,cap,cur,rfl,_⟩
 ·exact⟨a,0,rfl⟩
 ·exact⟨_,_,rfl⟩
theorem di.known (h:di B M e k enc v l):∀i,some i=dq v->M i≠none/\B<=i:=by
 intro i J;rcases h with ⟨a,rfl,rfl⟩|⟨g,cap,cur,rfl,h0,h1,ad,_⟩
 ·rw[Ei] at J;cases J
 ·have:i=g:=by
   rw[jN _ _ h0] at J;simpa using J
  subst this;exact⟨by rw[ad];simp,h1⟩
theorem di.mono {oD:Nat} {M':Mem} (h:di B M e k enc v l) (dw:oD<=B) (hm:∀i,some i=dq v->∀o,M i=some o->M' i=some o):di oD M' e k enc v l:=by
 rcases h with ⟨a,rfl,rfl⟩|⟨g,cap,cur,rfl,h0,h1,ad,al,bb,b5,cE⟩
 ·exact .inl ⟨a,rfl,rfl⟩
 ·exact .inr ⟨g,cap,cur,rfl,h0,Nat.le_trans dw h1,hm g (by rw[jN _ _ h0]) _ ad,al,bb,b5,cE⟩
def oK (w:aj) (k:Nat) (enc:α->List I) (v:I) (l:List α):Prop:=
 ∃a c,v= .slice a l.length c/\(a=none->l=[])/\∀bj,a=some bj->∀j u,(l.flatMap enc)[j]? =some u->w.cell? (bj.add j)=some u
theorem QZ {enc:α->List I} (hk:∀x,(enc x).length=k) {l:List α} {j:Nat} {u:I} (h:(l.flatMap enc)[j]? =some u):∃i x r,l[i]? =some x/\(enc x)[r]? =some u/\j=i*k+r:=by
 have hj:j<l.length*k:=by
  have:=(List.getElem?_eq_some_iff.1 h).1
  rwa [lY hk] at this
 have k0:0<k:=by rcases Nat.eq_zero_or_pos k with h|h;· subst h;simp at hj
                 ·exact h
 have J:j/k<l.length:=Nat.div_lt_of_lt_mul (by rwa [Nat.mul_comm] at hj);have hr:j%k<k:=Nat.mod_lt _ k0;refine⟨j/k,l[j/k],j%k,fc J,?_,(Nat.div_add_mod' j k).symm⟩;have ad:=r9 hk l (j/k) _ (fc J) (j%k) ((enc l[j/k])[j%k]'(by rw[hk];exact hr)) (fc _);rw[Nat.div_add_mod',h] at ad;rw[fc (by rw[hk];exact hr)];exact ad.symm
theorem bH.reads {w:aj} (h:bH M k enc v l) (hk:∀x,(enc x).length=k) (hw:∀i o,M i=some o->w.heap[i]? =some o):oK w k enc v l:=by
 cases h with
 |nil a c=>exact⟨a,c,rfl,λ_=>rfl,λbj _ j u h=>by simp at h⟩
 |mk h1 ad al=>
  refine⟨_,_,rfl,(λh=>by cases h),λbj had j u hj=> ?_⟩;cases had;obtain⟨i,x,r,q1,aJ,rfl⟩:=QZ hk hj;rw[Addr.hX,cell_of_row w _ _ _ _ _ (hw _ _ h1),<-Nat.add_assoc];exact al i x q1 r u aJ
theorem di.reads {w:aj} (h:di B M e k enc v l) (hw:∀i o,M i=some o->w.heap[i]? =some o):oK w k enc v l:=by
 rcases h with ⟨a,rfl,rfl⟩|⟨g,cap,cur,rfl,h0,h1,ad,al,bb,b5,cE⟩
 ·exact⟨a,0,rfl,λ_=>rfl,λbj _ j u h=>by simp at h⟩
 ·refine⟨_,_,rfl,(λh=>by cases h),λbj had j u hj=> ?_⟩
  cases had;rw[Addr.hX,cell_of_row w _ _ _ _ _ (hw _ _ ad),Nat.zero_add];rw[<-cE,List.getElem?_take] at hj;split at hj
  ·simpa using hj
  ·cases hj
theorem di.arr (h:di B M e k enc v l) (hk:∀x,(enc x).length=k):bH M k enc v l:=by
 rcases h with ⟨a,rfl,rfl⟩|⟨g,cap,cur,rfl,ao,h1,ad,al,bb,b5,cE⟩
 ·exact .nil _ _
 ·refine .mk ad al λi x ag j u hu=> ?_
  have fC:=r9 hk l i x ag j u hu;rw[<-cE,List.getElem?_take] at fC;split at fC
  ·rw[Nat.zero_add]
   simpa using fC
  ·cases fC
theorem di.row (h:di B M e k enc v l) (hk:∀x,(enc x).length=k) (ao:dq v≠none) {w:aj} (hw:∀i o,M i=some o->w.heap[i]? =some o):w.ownsRow B e k v l.length (l.flatMap enc):=by
 refine⟨lY hk l,?_⟩;rcases h with ⟨a,rfl,rfl⟩|⟨g,cap,cur,rfl,h0,h1,ad,al,bb,b5,cE⟩
 ·exact absurd (Ei _ _) ao
 ·exact .inr ⟨g,cap,cur,rfl,h1,hw _ _ ad,al,bb,b5,cE⟩
theorem di.JN {w:aj} (h:w.ownsRow B e k v l.length (l.flatMap enc)):di B (aS w) e k enc v l:=by
 obtain⟨_,⟨rfl,h0⟩|⟨g,cap,cur,rfl,h1,ad,al,bb,b5,cE⟩⟩:=h
 ·exact .inl ⟨none,rfl,List.eq_nil_of_length_eq_zero h0⟩
 ·rcases Nat.eq_zero_or_pos cap with ao|ao
  ·subst ao
   have:l=[]:=List.eq_nil_of_length_eq_zero af;subst this;exact .inl ⟨_,rfl,rfl⟩
  ·exact .inr ⟨g,cap,cur,rfl,ao,h1,ad,al,bb,b5,cE⟩
end
def fN (M M':Mem) (T:Option Nat):Prop:=∀i o,M i=some o->some i≠T->M' i=some o
theorem fN.up {B:Nat} {W:aj} {M M':Mem} {T:Option Nat} (hk:fN M M' T) (dw:∀i,some i=T->B<=i) (Q0:W.heap.size<=B) (aV:∀i o,aS W i=some o->M i=some o):∀i o,aS W i=some o->M' i=some o:=λi o h=>
 hk i o (aV i o h) λJ=>by
  have h1:=dw i J;have ad:i<W.heap.size:=(Array.getElem?_eq_some_iff.1 h).1;omega
theorem fN.own {α:Type} {B:Nat} {M M':Mem} {T:Option Nat} {e:az} {k:Nat} {enc:α->List I} {v:I} {l:List α} (hk:fN M M' T) (h:di B M e k enc v l) (ch:∀i,some i=dq v->some i≠T):di B M' e k enc v l:=
 h.mono (bM _) λi J o ax=>hk i o ax (ch i J)
structure tA (B:Nat) (M M':Mem) (T:Option Nat) (w w':aj):Prop where
 known:∀i,some i=T->M i≠none/\B<=i
 os:w'.os=w.os
 tape:w'.tape=w.tape
 output:w'.output=w.output
 drawn:k5 w<=k5 w'
 size:w.heap.size<=w'.heap.size
 block:∀i,i<w.heap.size->some i≠T->w'.heap[i]? =w.heap[i]?
 eb:∀i o,M' i=some o->w'.heap[i]? =some o/\(M i≠none\/w.heap.size<=i\/i<B)
theorem Here.turns [cX] {M M':Mem} {bp vals':List I} {T:Option Nat} {N B:Nat} {st:cz} {w0 w w':aj} {a:Act} {sl:bh} {l:List cm} {bx:dM} (cv:gp st sl l=some bx) (hm:fo (a' M bp) (a' M' vals') bx) (aE:tA B M M' T w w') (ah:cX.dy<=l.length) (ao:ib st.A l 0)
  (aq: @Here (a' M bp) _ N st B w0 a w): @Here (a' M' vals') _ N {sl,ms:=[],A:=gP l} B w0 a w':=
 Here.Ea (λi=>some i=T) cv hm (λi J=>aE.known i J) ⟨aE.os,aE.tape,aE.output,aE.drawn⟩ aE.size (λi J aw=>aE.block i J aw) (λi o J=>aE.eb i o J) ah ao aq
def fw (M:Mem) (w':aj) (T ej:Option Nat):Mem:=λi=>if some i=ej then w'.heap[i]? else if some i=T then none else M i
theorem lZ {B:Nat} {M:Mem} {T ej:Option Nat} {w w':aj} (hw:∀i o,M i=some o->w.heap[i]? =some o) (c9:∀i,some i=T->M i≠none/\B<=i) (Q1:∀i,some i=ej->some i=T\/w.heap.size<=i)
  (nV:w'.os=w.os/\w'.tape=w.tape/\w'.output=w.output) (aH:k5 w<=k5 w') (bt:w.heap.size<=w'.heap.size) (U:∀i,i<w.heap.size->some i≠T->w'.heap[i]? =w.heap[i]?):tA B M (fw M w' T ej) T w w'/\fN M (fw M w' T ej) T:=by
 have r6:∀i o,M i=some o->some i≠T->w'.heap[i]? =some o:=λi o J aw=>by
  have h:=hw i o J;rw[U i (Array.getElem?_eq_some_iff.1 h).1 aw];exact h
 refine⟨⟨c9,nV.1,nV.2.1,nV.2.2,aH,bt,U,λi o J=> ?_⟩,λi o J aw=> ?_⟩
 ·unfold fw at J
  split at J
  ·rename_i h
   refine⟨J,?_⟩;rcases Q1 i h with h|h
   ·exact .inl (c9 i h).1
   ·exact .inr (.inl h)
  ·split at J
   ·cases J
   ·rename_i h1 ad
    exact⟨r6 i o J ad,.inl (by rw[J];simp)⟩
 ·unfold fw
  split
  ·exact r6 i o J aw
  ·first
    |exact J
    |(rw[aW aw];exact J)
theorem Ej {P:aC} {w:aj} {t ty e:az} {i:TypeInfo} (aE:P.underlying t=some (.slice e)) (J:P.info? e=some i) {a b:Option Addr} {n cap c:Nat} (h:n<=cap):
  (Builtin.append_ #[t,t] ty #[.slice a n cap,.slice b 0 c]).run P w= .ok (.slice a n cap) w:=by
 cases b<;>cases a<;>simp [Builtin.append_,run_underlying aE,sizeOf,typeInfo,J,Builtin.lenOf,Builtin.firstCells,loadCells,loadCellsFrom,h,storeCells]
theorem Ek {P:aC} {w w':aj} {base:Nat} {t ty e:az} {i:TypeInfo} {z:I} {size bytes:Nat} (aE:P.underlying t=some (.slice e)) (J:P.info? e=some i) (bk:i.zero=some z) (eL:i.size=size) (gX:i.bytes=bytes) (iE:z.cells.size=size) (bt:0<size)
  {v au:I} {n:Nat} {xs:List I} (El:w.ownsRow base e size v n xs) (a:Addr) (m c:Nat) {bZ:List I} (hl:bZ.length=m*size) (sR:∀j u,bZ[j]? =some u->w.cell? (a.add j)=some u) (h1:∀u∈bZ,u.oneCell'=true)
  (fO:n+m<=maxLen) (iT:(n+m)*bytes<=140737488355328) (hr:(Builtin.append_ #[t,t] ty #[v,.slice (some a) m c]).run P w= .ok au w'):∀j,some j=au.ownBlock->some j=v.ownBlock\/w.heap.size<=j:=by
 subst eL;subst gX;have Em:n+m<=9223372036854775807:=by simp only [maxLen] at fO;omega
 rcases El.2 with ⟨rfl,rfl⟩|⟨g,cap,cur,rfl,Xy,av,tB,vy,ez,ta⟩
 ·by_cases hm:m=0
  ·subst hm
   have ah:bZ=[]:=List.eq_nil_of_length_eq_zero (by simpa using hl);subst ah;have ad:(Builtin.append_ #[t,t] ty #[.slice none 0 0,.slice (some a) 0 c]).run P w= .ok (.slice none 0 0) w:=by
    simp [Builtin.append_,run_underlying aE,sizeOf,typeInfo,J,Builtin.lenOf,Builtin.firstCells,loadCells,loadCellsFrom]
   rw[ad] at hr;cases hr;intro j hj;cases hj
  ·have ad:=run_append_nil (P:=P) w t ty e i z aE J bk a m c bZ hl sR af af (by have U:=iT;simp only [Nat.zero_add] at U;omega)
   rw[ad] at hr;cases hr;intro j hj;have:j=w.heap.size:=by simpa [Value.ownBlock] using hj
   exact .inr af
 ·by_cases vz:n+m<=cap
  ·have k9:n*i.size+bZ.length<=cur.size:=by rw[hl,ez,<-Nat.add_mul];exact Nat.mul_le_mul_right _ vz
   have ad:=run_append_room (P:=P) w t ty e i aE J g n cap cur av a m c bZ hl sR h1 vz k9;rw[ad] at hr;cases hr;intro j hj;exact .inl hj
  ·have holds:∀j u,xs[j]? =some u->w.cell? ((⟨g,0,none⟩:Addr).add j)=some u:=El.cells (g:=g) rfl
   have ad:=run_append_grow (P:=P) w t ty e i z aE J bk ⟨g,0,none⟩ n cap xs El.1 holds a m c bZ hl sR af af (growslice_fits af iT);rw[ad] at hr;cases hr;intro j hj;have:j=w.heap.size:=by simpa [Value.ownBlock] using hj
   exact .inr af
theorem JO {α:Type} {P:aC} {w:aj} {B:Nat} {M:Mem} {t ty e:az} {i:TypeInfo} {z:I} {k bytes:Nat} (aE:P.underlying t=some (.slice e)) (J:P.info? e=some i) (bk:i.zero=some z) (eL:i.size=k) (gX:i.bytes=bytes) (iE:z.cells.size=k) (fU:0<k)
  {enc:α->List I} (hk:∀x,(enc x).length=k) (iL:∀x,∀u∈enc x,u.oneCell'=true) {v x:I} {l lx:List α} (hO:di B M e k enc v l) (ag:oK w k enc x lx) (hw:∀i o,M i=some o->w.heap[i]? =some o) (dw:B<=w.heap.size)
  (fO:l.length+lx.length<=maxLen) (iT:(l.length+lx.length)*bytes<=140737488355328):
  ∃au w' M',(Builtin.append_ #[t,t] ty #[v,x]).run P w= .ok au w'/\di B M' e k enc au (l++lx)/\tA B M M' (dq v) w w'/\fN M M' (dq v):=by
 obtain⟨bd,c,rfl,tC,iB⟩:=ag;by_cases hm:lx=[]
 ·subst hm
  obtain⟨a,cap,rfl⟩:=hO.slice;have hle:l.length<=cap:=by
   rcases hO with ⟨aL,h,rfl⟩|⟨g,pA,cur,h,h0,h1,ad,al,_⟩
   ·exact Nat.zero_le _
   ·cases h;exact al
  refine⟨_,w,M,Ej aE J hle,by rw[List.append_nil];exact hO,⟨hO.known,rfl,rfl,rfl,bM _,bM _,λ_ _ _=>rfl,λi o h=>⟨hw i o h,.inl (by rw[h];simp)⟩⟩,λi o h _=>h⟩
 ·cases bd with
  |none=>exact absurd (tC rfl) hm
  |some bj=>
   have hlen:=lY hk lx;have rD:0<lx.length:=List.length_pos_iff.2 hm;have h1:∀u∈lx.flatMap enc,u.oneCell'=true:=λu hu=>by
    obtain⟨y,_,aT⟩:=List.mem_flatMap.1 hu;exact iL y u aT
   have fin:∀{v0:I},w.ownsRow B e k v0 l.length (l.flatMap enc)->(∀i,some i=v0.ownBlock->M i≠none/\B<=i)->∃au w' M',(Builtin.append_ #[t,t] ty #[v0,.slice (some bj) lx.length c]).run P w= .ok au w'/\di B M' e k enc au (l++lx)/\tA B M M' v0.ownBlock w w'/\fN M M' v0.ownBlock:=by
    intro v0 jE r';obtain⟨au,w',g1,g2,b6,_⟩:=run_append_own (P:=P) w B t ty e i z k bytes aE J bk eL gX iE fU v0 l.length _ jE bj lx.length c _ hlen (iB bj rfl) h1 fO iT dw;have eM:=Ek aE J bk eL gX iE fU jE bj lx.length c hlen (iB bj rfl) h1 fO iT g1;have ad:w'.ownsRow B e k au (l++lx).length ((l++lx).flatMap enc):=by rw[List.length_append,List.flatMap_append];exact g2
    obtain⟨q1,aJ⟩:=lZ (B:=B) (M:=M) (T:=v0.ownBlock) (ej:=au.ownBlock) hw r' eM ⟨b6.os,b6.tape,b6.output⟩ (kx _ _ _ _ g1) b6.size b6.block;refine⟨au,w',_,g1,(di.JN ad).mono (bM _) λi J o ax=> ?_,q1,aJ⟩;have:some i=au.ownBlock:=tz J;unfold fw;rw[aR this];exact ax
   by_cases ao:dq v=none
   ·rcases hO with ⟨a,rfl,rfl⟩|⟨g,cap,cur,rfl,h0,_⟩
    ·have c3:(Builtin.append_ #[t,t] ty #[.slice a 0 0,.slice (some bj) lx.length c]).run P w=(Builtin.append_ #[t,t] ty #[.slice none 0 0,.slice (some bj) lx.length c]).run P w:=by
      cases a with
      |none=>rfl
      |some a=>
       subst eL;subst gX;have Em:lx.length<=9223372036854775807:=by simp only [maxLen,List.length_nil] at fO;omega
       have cH:=run_append_nil (P:=P) w t ty e i z aE J bk bj lx.length c _ hlen (iB bj rfl) af af (by have U:=iT;simp only [List.length_nil,Nat.zero_add] at U;omega);have dj:=run_append_grow (P:=P) w t ty e i z aE J bk a 0 0 [] (by simp) (λj u h=>by simp at h) bj lx.length c _ hlen (iB bj rfl) af af (growslice_fits af (by have U:=iT;simp only [List.length_nil] at U;exact U));rw[cH,dj];simp
     obtain⟨au,w',M',q1,aJ,cg,dn⟩:=fin (v0:= .slice none 0 0) (World.ownsRow_nil w B e k) (λi h=>by cases h);rw[ao];exact⟨au,w',M',c3.trans q1,aJ,cg,dn⟩
    ·exact absurd ao (by rw[jN _ _ h0];simp)
   ·have heq:dq v=v.ownBlock:=by
     cases h:dq v with
     |none=>exact absurd h ao
     |some i=>exact tz h.symm
    have:=fin (v0:=v) (hO.row hk ao hw) (λi h=>hO.known i (by rw[heq];exact h));rw[heq];exact this
def vA (t:az):Option bT->Option (I×I)
 |some (.oper o _ ops s _)=>match o.op with
  | .call c=>match c.callee,c.args with
    | .builtin .append,⟨[mx,fP]⟩=>bif decide (c.argTypes= #[t,t]) then match lR ops o s.sl with
      |some true=>some (dh .nil s.sl mx,dh .nil s.sl fP)
      |_=>none
      else none
    |_,_=>none
  |_=>none
 |_=>none
theorem JP {α:Type} {A:aD} {B:Nat} {M:Mem} {bp:List I} {e:az} {k:Nat} {enc:α->List I} {vs u:I} {l:List α} (hp:aF vs=true) (a8: @aK (a' M bp) vs=u) (hO:di B M e k enc u l):∀φ w v,@bs (a' M bp) φ A w-> @ar (a' M bp) φ vs v->di B M e k enc v l/\dq v=dq u:=λφ w v _ aw=>by
 letI:=a' M bp;rw[ar.gW vs hp aw,a8];exact⟨hO,rfl⟩
theorem JQ {α:Type} {M:Mem} {bp:List I} {A:aD} {k:Nat} {enc:α->List I} {jO u:I} {lx:List α} (hp:aF jO=true) (a8: @aK (a' M bp) jO=u) (fQ:∀w,(∀i o,M i=some o->w.heap[i]? =some o)->oK w k enc u lx):∀φ w x,@bs (a' M bp) φ A w-> @ar (a' M bp) φ jO x->oK w k enc x lx:=λφ w x hr aw=>by
 letI:=a' M bp;rw[ar.gW jO hp aw,a8];exact fQ w λi o h=>(hr.eb i o h).1
def Ao (A:aD) (k:Nat):I->Option (List I)
 | .slice (some ⟨b,off,none⟩) m _=>match A.mQ b off (m*k) with
   |some bp=>bif er bp&&(bp.all qk&&(Nat.blt 0 m&&Nat.beq bp.length (m*k))) then some bp else none
   |none=>none
 |_=>none
theorem En {α:Type} {M:Mem} {bp:List I} {A:aD} {k:Nat} {enc:α->List I} {jO:I} {cs:List I} {lx:List α} (h:Ao A k jO=some cs) (hk:∀x,(enc x).length=k) (fU:0<k) (he: @e9 (a' M bp) cs=lx.flatMap enc):∀φ w x,@bs (a' M bp) φ A w-> @ar (a' M bp) φ jO x->oK w k enc x lx:=λφ w x hr aw=>by
 letI:=a' M bp;unfold Ao at h;split at h
 ·rename_i b off m Xz
  split at h
  ·rename_i vs hl
   cases hp:(er vs&&(vs.all qk&&(Nat.blt 0 m&&Nat.beq vs.length (m*k)))) with
   |false=>rw[hp] at h;cases h
   |true=>
    rw[hp,a7,bS] at h;subst h;simp only [b4] at hp;obtain⟨gb,pL,rQ,va⟩:=hp;have hm:0<m:=Nat.blt_eq.mp rQ;have hlen:vs.length=m*k:=bJ va;have mT:m=lx.length:=by
     have h1:=congrArg List.length he;rw[qx,hlen,lY hk] at h1;exact Nat.eq_of_mul_eq_mul_right fU h1
    have pw:∃ee JR,φ b=some ee/\x= .slice (some ⟨ee.aU,ee.bR+off,none⟩) m JR:=by
     cases aw with
     |gi aL h=>exact absurd hm af
     |fS _ _ h=>exact⟨_,_,h,rfl⟩
     |fT _ _ c' h _ _ _=>exact⟨_,_,h,rfl⟩
    obtain⟨ee,JR,U,rfl⟩:=pw;refine⟨_,_,by rw[mT],(λh=>by cases h),λbj had j u hj=> ?_⟩;cases had;rw[<-he] at hj;obtain⟨q1,aJ⟩:=uK hl;have gE:j<vs.length:=by
     have:=(List.getElem?_eq_some_iff.1 hj).1
     rwa [qx] at this
    obtain⟨au,g1,g2⟩:=qg hr (aJ j af) U;rw[Addr.hX,Nat.add_assoc,g1];have pv:aF (vs.getD j undef)=true:=by
     rw[de,fc gE];exact JK gb (List.getElem_mem gE)
    rw[ar.gW _ pv g2];rw[Dh,List.getElem?_map,fc gE] at hj;rw[de,fc gE];simpa using hj
  ·cases h
 ·cases h
def oL:Option bT->Array Oper
 |some (.draw _ ops _ _)=>ops
 |_=> #[]
section
variable [aX] {P:aC}
end
end AE
namespace AE
theorem Eo {α:Type} {k:Nat} {enc:α->List I} (hk:∀x,(enc x).length=k):∀(l:List α) (j:Nat),(l.take j).flatMap enc=(l.flatMap enc).take (j*k)
 |[],j=>by simp
 |x::r,0=>by simp
 |x::r,j+1=>by
  have h1:(enc x).take ((j+1)*k)=enc x:=List.take_of_length_le (by rw[hk,Nat.add_mul];omega);rw[List.take_succ_cons,List.flatMap_cons,List.flatMap_cons,Eo hk r j,List.take_append,h1,hk,show (j+1)*k-k=j*k by rw[Nat.add_mul];omega]
theorem Ep {α:Type} {k:Nat} {enc:α->List I} (hk:∀x,(enc x).length=k):∀(l:List α) (j:Nat),(l.drop j).flatMap enc=(l.flatMap enc).drop (j*k)
 |[],j=>by simp
 |x::r,0=>by simp
 |x::r,j+1=>by
  have h1:(enc x).drop ((j+1)*k)=[]:=List.drop_eq_nil_of_le (by rw[hk,Nat.add_mul];omega);rw[List.drop_succ_cons,List.flatMap_cons,Ep hk r j,List.drop_append,h1,hk,List.nil_append,show (j+1)*k-k=j*k by rw[Nat.add_mul];omega]
def gQ (a:Option Addr) (c j k:Nat):Option Addr:=if c=j then a else a.map λa=>a.add (j*k)
section
variable {α:Type} {B:Nat} {M:Mem} {e:az} {k:Nat} {enc:α->List I} {a:Option Addr} {c:Nat} {l:List α}
theorem bH.take {j n:Nat} (h:bH M k enc (.slice a n c) l) (hj:j<=n):bH M k enc (.slice a j c) (l.take j):=by
 obtain rfl:n=l.length:=by obtain⟨_,_,ad⟩:=h.slice;cases ad;rfl
 generalize aw:Value.slice a l.length c=v at h;have hlen:(l.take j).length=j:=by rw[List.length_take];omega
 cases h with
 |nil aL c'=>
  have:j=0:=by simpa using hj
  subst this;exact .nil _ _
 |mk h1 ad al=>
  cases aw;have:=bH.mk (enc:=enc) (k:=k) (l:=l.take j) (c:=c) h1 (by rw[hlen];omega) λi x ag u w hw=>by
   rw[List.getElem?_take] at ag;split at ag
   ·exact al i x ag u w hw
   ·cases ag
  rw[hlen] at this;exact this
theorem bH.drop {j n:Nat} (h:bH M k enc (.slice a n c) l) (hj:j<=n):bH M k enc (.slice (gQ a c j k) (n-j) (c-j)) (l.drop j):=by
 obtain rfl:n=l.length:=by obtain⟨_,_,ad⟩:=h.slice;cases ad;rfl
 have hlen:(l.drop j).length=l.length-j:=List.length_drop;rcases Nat.lt_or_ge j l.length with aM|hV
 ·generalize aw:Value.slice a l.length c=v at h
  cases h with
  |nil aL c'=>simp at aM
  |mk h1 ad al=>
   rename_i b off c' cs ty fr;cases aw;have aH:gQ (some ⟨b,off,none⟩) c j k=some ⟨b,off+j*k,none⟩:=by
    unfold gQ;rw[aW af];simp only [Option.map_some,Addr.hX]
   rw[aH];have:=bH.mk (enc:=enc) (k:=k) (l:=l.drop j) (off:=off+j*k) (c:=c-j) h1 (by rw[hlen];omega) λi x ag u w hw=>by
    rw[List.getElem?_drop] at ag;have:=al (j+i) x ag u w hw;rw[Nat.add_mul] at this;rw[<-this];congr 1;omega
   rw[hlen] at this;exact this
 ·have h0:l.length-j=0:=by omega
  rw[h0,List.drop_eq_nil_of_le hV];exact .nil _ _
theorem di.take (hk:∀x,(enc x).length=k) {j n:Nat} (h:di B M e k enc (.slice a n c) l) (hj:j<=l.length):di B M e k enc (.slice a j c) (l.take j):=by
 have hlen:(l.take j).length=j:=by rw[List.length_take];omega
 rcases h with ⟨aL,h0,rfl⟩|⟨g,cap,cur,h0,h1,ad,al,bb,b5,cE,fC⟩
 ·cases h0
  have:j=0:=by simpa using hj
  subst this;exact .inl ⟨_,rfl,rfl⟩
 ·cases h0
  refine .inr ⟨g,c,cur,by rw[hlen],h1,ad,al,by rw[hlen];omega,b5,cE,?_⟩;rw[hlen];have kk:(cur.toList.take (l.length*k)).take (j*k)=(l.flatMap enc).take (j*k):=by rw[fC]
  rw[List.take_take,Nat.min_eq_left (Nat.mul_le_mul_right k hj)] at kk;rw[kk,Eo hk]
theorem Q2 {v:I} {w:aj} (hk:∀x,(enc x).length=k) (iL:∀x,∀u∈enc x,u.oneCell'=true) (hf:di B M e k enc v l) (hw:∀i o,M i=some o->w.heap[i]? =some o) (h0:0<l.length) (i:Nat) (xs:List α) (J:i+xs.length<=l.length):
  ∃g c w',v= .slice (some ⟨g,0,none⟩) l.length c/\l.length<=c/\(∀P,(storeCells ⟨g,i*k,none⟩ (xs.flatMap enc)).run P w= .ok () w')/\∃M',di B M' e k enc v (l.take i++xs++l.drop (i+xs.length))/\tA B M M' (dq v) w w'/\fN M M' (dq v):=by
 rcases hf with ⟨a,rfl,rfl⟩|⟨g,cap,cur,rfl,hB,oM,aV,pV,vy,ez,ta⟩
 ·exact absurd h0 (by simp)
 ·have av:=hw _ _ aV
  have oN:=lY hk xs;have xl:i*k+xs.length*k<=l.length*k:=by rw[<-Nat.add_mul];exact Nat.mul_le_mul_right k J
  have pJ:l.length*k<=cur.size:=by rw[ez];exact Nat.mul_le_mul_right k pV
  have h1:∀u∈xs.flatMap enc,u.oneCell'=true:=λu hu=>by
   obtain⟨y,_,aT⟩:=List.mem_flatMap.1 hu;exact iL y u aT
  let eA:Array I:=(cur.toList.take (i*k)++xs.flatMap enc++cur.toList.drop (i*k+(xs.flatMap enc).length)).toArray
  have eo:∀P,(storeCells ⟨g,i*k,none⟩ (xs.flatMap enc)).run P w= .ok () (w.setRow g eA):=λP=>by
   have:=run_storeCells_at P g (i*k) e (xs.flatMap enc) 0 cur w av (by rw[oN];omega) h1;simpa only [Nat.add_zero] using this
  have bt:eA.size=cap*k:=by
   show (cur.toList.take (i*k)++xs.flatMap enc++cur.toList.drop (i*k+(xs.flatMap enc).length)).toArray.size=_;simp only [List.size_toArray,List.length_append,List.length_take,List.length_drop,Array.length_toList,oN];omega
  obtain⟨q1,aJ⟩:=lZ (B:=B) (M:=M) (w':=w.setRow g eA) (T:=some g) (ej:=some g) hw (λi J=>by cases J;exact⟨by rw[aV];simp,oM⟩) (λi J=> .inl J) ⟨rfl,rfl,rfl⟩ (bM _) (by simp [World.setRow]) (λj _ hj=>setRow_other w g j eA (λh=>hj (by rw[h])));have Er:(l.take i++xs++l.drop (i+xs.length)).length=l.length:=by
   simp only [List.length_append,List.length_take,List.length_drop];omega
  refine⟨g,cap,w.setRow g eA,rfl,pV,eo,?_⟩;rw[jN _ _ hB];refine⟨_,.inr ⟨g,cap,eA,by rw[Er],hB,oM,?_,by rw[Er];exact pV,vy,bt,?_⟩,q1,aJ⟩
  ·unfold fw
   rw[aR rfl];exact setRow_heap w g cur eA e (0,0) av
  ·rw[Er,List.flatMap_append,List.flatMap_append,Eo hk,Ep hk,<-ta]
   show (cur.toList.take (i*k)++xs.flatMap enc++cur.toList.drop (i*k+(xs.flatMap enc).length)).take (l.length*k)=_;have l1:(cur.toList.take (i*k)++xs.flatMap enc).length=i*k+xs.length*k:=by
    rw[List.length_append,List.length_take,Array.length_toList,oN,Nat.min_eq_left af]
   rw[oN,List.take_append,l1,List.take_of_length_le (by rw[l1];exact xl),List.take_take,Nat.min_eq_left af,Nat.add_mul,List.drop_take]
end
section
variable [aX] {P:aC}
omit [aX] in
theorem Q3 (a:Addr) (n:Nat):a.add (0*n)=a:=by
 rw[Nat.zero_mul];cases a;simp [Addr.add]
omit [aX] in
theorem Q4 {t e:az} {aG:Nat} (aE:P.underlying t=some (.slice e)) (bt:aP P (sizeOf e)=some aG) (a:Option Addr) (n c j:Nat) (hj:j<=n) (w:aj):
  (Instr.sliceAt t (.slice a n c) (some (.int .i64 j)) none none).run P w= .ok (.slice (gQ a c j aG) (n-j) (c-j)) w:=by
 have U:(Instr.sliceBound (.int .i64 (j:Int)) n .sliceB).run P w= .ok j w:=by
  have:=run_sliceBound (P:=P) (w:=w) .i64 (j:Int) n .sliceB af af;simpa using this
 simp [Instr.sliceAt,Instr.slice,run_underlying aE,Instr.sliceBounds,U,f' bt w,gQ]
omit [aX] in
theorem Q5 {t e:az} {aG:Nat} (aE:P.underlying t=some (.slice e)) (bt:aP P (sizeOf e)=some aG) (a:Option Addr) (n c j:Nat) (hj:j<=c) (w:aj):
  (Instr.sliceAt t (.slice a n c) none (some (.int .i64 j)) none).run P w= .ok (.slice a j c) w:=by
 have U:(Instr.sliceBound (.int .i64 (j:Int)) c .sliceAcap).run P w= .ok j w:=by
  have:=run_sliceBound (P:=P) (w:=w) .i64 (j:Int) c .sliceAcap af af;simpa using this
 simp [Instr.sliceAt,Instr.slice,run_underlying aE,Instr.sliceBounds,U,f' bt w];intro _;cases a with
 |none=>rfl
 |some a=>
  have:=Q3 a aG;rw[Nat.zero_mul] at this;simpa using this
theorem bE.Q6 {t e:az} {aG:Nat} {x i r:I} {a:Option Addr} {n c j:Nat} (ag:aF x=true) (J:aF i=true) (hr:aF r=true) (aE:P.underlying t=some (.slice e)) (bt:aP P (sizeOf e)=some aG) (ex:aK x= .slice a n c) (e_:aK i= .int .i64 (j:Int)) (hj:j<=n)
  (cN:aK r= .slice (gQ a c j aG) (n-j) (c-j)):bE P (.h_ t x (some i) none none,r):=by
 refine⟨by simp [kR,plainO,ag,J],hr,λc6 c7 w _=> ?_⟩;show (eO c6 c7 (.h_ t (aK x) (some (aK i)) none none)).run P w=_;rw[ex,e_,cN];unfold eO;simp only [Sem.run_bind,Q4 aE bt a n c j hj w,Result.andThen_ok];rfl
theorem bE.JS {t e:az} {aG:Nat} {x i r:I} {a:Option Addr} {n c j:Nat} (ag:aF x=true) (J:aF i=true) (hr:aF r=true) (aE:P.underlying t=some (.slice e)) (bt:aP P (sizeOf e)=some aG) (ex:aK x= .slice a n c) (e_:aK i= .int .i64 (j:Int)) (hj:j<=c)
  (cN:aK r= .slice a j c):bE P (.h_ t x none (some i) none,r):=by
 refine⟨by simp [kR,plainO,ag,J],hr,λc6 c7 w _=> ?_⟩;show (eO c6 c7 (.h_ t (aK x) none (some (aK i)) none)).run P w=_;rw[ex,e_,cN];unfold eO;simp only [Sem.run_bind,Q5 aE bt a n c j hj w,Result.andThen_ok];rfl
end
def qR:Option bT->Option (az×I×I)
 |some (.oper o _ ops s _)=>match o.op with
  | .store t nh fP=>match lR ops o s.sl with
    |some true=>some (t,dh .nil s.sl nh,dh .nil s.sl fP)
    |_=>none
  |_=>none
 |_=>none
theorem Q7 [cX] {α:Type} {P:aC} {N B:Nat} {w0:aj} {Q:Exit->Act->aj->Prop} {M:Mem} {bp vals2:List I} {o:Option bT} {t e:az} {k:Nat} {p x u:I} {enc:α->List I} {l l':List α} {i:Nat} {y:α} {dB e6:bh} {aQ:List cm} {bx:dM}
  (eS:l'=l.set i y) (h:qR o=some (t,p,x)) (bt:aP P (sizeOf t)=some k) (hk:∀x,(enc x).length=k) (iL:∀x,∀u∈enc x,u.oneCell'=true)
  (cv:gp (dA o) dB aQ=some bx) (dx:hE N dB (hN o) undef=some e6) (hp:aF p=true) (ag:aF x=true) (ln: @aK (a' M bp) p=j8 u (i*k)) (ex: @aK (a' M bp) x= .agg ⟨enc y⟩)
  (hO:di B M e k enc u l) (J:i<l.length) (hm:∀M',fo (a' M bp) (a' M' vals2) bx)
  (rest:∀M',di B M' e k enc u l'->fN M M' (dq u)->∀aL w,@Here (a' M' vals2) _ N {sl:=e6,ms:=[],A:=gP aQ} B w0 aL w->wpListIn (Fr none) 0 P (jM o) (dz P (jK o) Q) (jL o) aL w)
  (ah:cX.dy<=aQ.length:=by first|exact Nat.zero_le _|exact jX rfl) (ao:ib (dA o).A aQ 0:=by exact fz rfl): @gd (a' M bp) _ P N B w0 Q o:=by
 letI:=a' M bp;unfold qR at h;split at h
 ·rename_i op r ops s ks
  refine⟨_,rfl,λa w aq=> ?_⟩;split at h
  ·rename_i cq nh fP ct
   split at h
   ·rename_i hh
    cases h;have fE:=aq;obtain⟨⟨φ,ds,h1,ad,al,bb,_⟩,b5,cE⟩:=aq;unfold wpListIn;rw[lf ad.get hh,aR rfl];have es:a.eval nh=j8 u (i*k):=(ar.gW _ hp (fy (hg φ) ad.get nh)).trans ln;have kU:a.eval fP= .agg ⟨enc y⟩:=(ar.gW _ ag (fy (hg φ) ad.get fP)).trans ex;have hw:∀i o,M i=some o->w.heap[i]? =some o:=fE.kT;obtain⟨g,c,w',rfl,pV,Q8,M',g2,b6,g4⟩:=Q2 hk iL hO hw af i [y] (by simp only [List.length_cons,List.length_nil];omega);have eX:l.take i++[y]++l.drop (i+[y].length)=l.set i y:=by
     rw[List.set_eq_take_append_cons_drop,aR J];simp
    rw[eX,<-eS] at g2;have eo:(execOp a.eval op).run P w= .ok .skip w':=by
     unfold execOp;rw[ct];simp only [es,kU];show (do Instr.storeAt t (j8 (.slice (some ⟨g,0,none⟩) l.length c) (i*k)) (.agg ⟨enc y⟩);pure Next.skip:Sem Next).run P w=_;have cd:(Instr.storeAt t (j8 (.slice (some ⟨g,0,none⟩) l.length c) (i*k)) (.agg ⟨enc y⟩)).run P w= .ok () w':=by
      unfold Instr.storeAt;refine cb (a:=(⟨g,0+i*k,none⟩:Addr)) rfl ?_;unfold storeVar;refine cb bt ?_;rw[aW (by simp [Value.cells,hk])];have:=Q8 P;rw[List.flatMap_cons,List.flatMap_nil,List.append_nil] at this;rw[Nat.zero_add];exact this
     simp only [Sem.run_bind,cd,Result.andThen_ok];rfl
    have hi:∀c',op.op≠.defer c':=λc' h=>by rw[ct] at h;cases h
    refine⟨λ_ _=>trivial,?_⟩;rw[Oper.semAt_eq _ _ _ hi,eo,Oper.uponIn_skip];have gw:=Here.turns (vals':=vals2) cv (hm M') b6 ah ao fE;letI:=a' M' vals2;exact rest M' g2 g4 _ w' (Here.put (d:=op.dst) gw (v:=undef) rfl dx)
   ·cases h
  ·cases h
 ·cases h
theorem Q9 [aX] {P:aC} {f:FuncId} {fn:Func} {c:Code} {args:List I} {sl:bh} {N:Nat} {W:aj} {R:Ending->aj->Prop} (lU:P.funcs[f]? =some fn) (ao:fn.body=some c) (ij:setArgs 0 args .nil=some sl) (hp:er args=true)
  (qK:args.length+(fn.ntmps-args.length)=N) (vu:mW W) (tr:∀a,@Here _ eu N {sl,ms:=[],A:=start} 0 W a W->c.wpIn (Fr none) 0 P (@qM eu P fn N 0 W R) a W):Calls P f ⟨e9 args⟩ W R:=by
 subst qK;letI:=eu;exact D8 lU ao ij (Jz vu) (λb e h=>by cases h) (oE.none _ _) ⟨by simp [qx],λj hj=>by simpa using ar.s7 (λ_=>none) args hp j hj⟩ (dJ.refl _ _) (Nat.zero_le _) tr
theorem di.cap {α:Type} {B:Nat} {M:Mem} {e:az} {k:Nat} {enc:α->List I} {a:Option Addr} {n c:Nat} {l:List α} (h:di B M e k enc (.slice a n c) l):n<=c:=by
 rcases h with ⟨aL,h0,rfl⟩|⟨g,cap,cur,h0,h1,ad,al,bb,b5,cE,fC⟩
 ·cases h0;exact bM _
 ·cases h0;exact bb
end AE
namespace AE
abbrev oO:=List UInt8
def iM (l:oO):I:= .string ⟨l.toArray⟩
variable [aX]
section
variable {P:aC}
omit [aX] in
theorem Q' (l:oO):(⟨l.toArray⟩:ByteArray).size=l.length:=by simp [ByteArray.size]
theorem Es {f:eZ} {r:I} (aB:kR f=true) (hr:aF r=true) (ah:u1 f=false) (h:∀c6 c7 w,mW w->(eO c6 c7 (qy f)).run P w= .ok (.value (aK r)) w):bE P (f,r):=by
 refine⟨aB,hr,?_⟩;simp only [ah];exact h
theorem xR {f:eZ} {r:I} (aB:kR f=true) (hr:aF r=true) (ah:u1 f=true) (h:∀c6 c7 w,(eO c6 c7 (qy f)).run P w= .ok (.value (aK r)) w):bE P (f,r):=by
 refine⟨aB,hr,?_⟩;simp only [ah];exact h
theorem bE.jw {x:I} {b:Bool} (ag:aF x=true) (h:aK x= .bool b):bE P (.jw x,.bool b):=by
 refine⟨ag,rfl,?_⟩;show ∀c6 c7 w,(eO c6 c7 (.jw (aK x))).run P w=_;intro c6 c7 w;rw[h];rfl
theorem bE.Q_ {t ty:az} {x r:I} {l:oO} (ag:aF x=true) (hr:aF r=true) (aE:P.underlying t=some .string) (ex:aK x=iM l) (cN:aK r= .int .i64 l.length):bE P (.len #[t] ty x,r):=by
 refine xR ag hr rfl λc6 c7 w=> ?_
 show (eO c6 c7 (.len #[t] ty (aK x))).run P w=_;rw[ex,cN];unfold eO iM;simp only [Sem.run_bind,run_len_string w t ty _ aE,Result.andThen_ok,Q'];rfl
theorem bE.Ra {s d:az} {x r:I} {k k':IntKind} {n:Int} (ag:aF x=true) (hr:aF r=true) (hs:(P.underlying s).isSome=true) (aH:P.underlying d=some (.int (P.intKind d))) (hk:P.intKind d=k') (hw:k'.wrap n=n) (ex:aK x= .int k n) (cN:aK r= .int k' n):bE P (.conv s d x,r):=by
 refine Es ag hr rfl λc6 c7 w _=> ?_
 show (eO c6 c7 (.conv s d (aK x))).run P w=_;rw[ex,cN];unfold eO;simp only [Sem.run_bind,run_convert_int w s d k n hs aH,Result.andThen_ok,hk,hw];rfl
omit [aX] in
theorem JT {t:az} (aE:P.underlying t=some .bool) (op:BinOp) (ct:op= .eql\/op= .neq) (l m:Bool) (c6 c7:Operand) (w:aj):(eO c6 c7 (.bin op t (.bool l) (.bool m))).run P w= .ok (.value (.bool (if op= .eql then l==m else !(l==m)))) w:=by
 unfold eO;rcases ct with rfl|rfl
 ·simp [eqGuard,binOp,Op.equal,Op.maxDepth,run_equalIn_bool w 9999 t _ _ aE]
 ·simp [eqGuard,binOp,Op.equal,Op.maxDepth,run_equalIn_bool w 9999 t _ _ aE]
theorem bE.xS {t:az} {x y:I} {l m r:Bool} (aE:P.underlying t=some .bool) (ag:aF x=true) (aT:aF y=true) (ex:aK x= .bool l) (gH:aK y= .bool m) (h:r=(l==m)):bE P (.bin .eql t x y,.bool r):=
 oI ag aT rfl ex gH λc6 c7 w=>by rw[JT aE .eql (.inl rfl) l m,aR rfl,h];rfl
theorem bE.Rb {t:az} {x y:I} {l m r:Bool} (aE:P.underlying t=some .bool) (ag:aF x=true) (aT:aF y=true) (ex:aK x= .bool l) (gH:aK y= .bool m) (h:r= !(l==m)):bE P (.bin .neq t x y,.bool r):=
 oI ag aT rfl ex gH λc6 c7 w=>by rw[JT aE .neq (.inr rfl) l m,aW (by simp),h];rfl
theorem bE.Rc {x:I} {l r:Bool} (ag:aF x=true) (ex:aK x= .bool l) (h:r= !l):bE P (.un .not x,.bool r):=by
 refine⟨ag,rfl,?_⟩;show ∀c6 c7 w,(eO c6 c7 (.un .not (aK x))).run P w=_;intro c6 c7 w;rw[ex,h];rfl
theorem bE.Re {α:Type} {k:Nat} {enc:α->List I} {v:I} {l:List α} (h:bH aX.eb k enc v l) {t:az} {p r:I} {i o j n:Nat} {x:α} {us:List I} (J:l[i]? =some x) (hp:aF p=true) (hr:aF r=true)
  (ha:aP P (isAgg t)=some true) (ah:aP P (sizeOf t)=some n) (ax:o=i*k+j) (hl:us.length=n) (hu:∀q u,us[q]? =some u->(enc x)[j+q]? =some u) (ex:aK p=j8 v o) (cN:aK r= .agg ⟨us⟩):bE P (.ld t p,r):=by
 obtain⟨b,off,c,cs,ty,fr,rfl,U,ao⟩:=h.at' J;refine bE.ld (b:=b) (o:=off+o) (l:=us) hp hr ha ah ex hl (λw hw q u aA=> ?_) cN;have h1:=hw b _ U;have ad:=ao (j+q) u (hu q u aA);show w.cell? ⟨b,off+o+q,none⟩=some u;rw[show off+o+q=off+i*k+(j+q) by omega];unfold World.cell?;simp only [h1];exact ad
theorem bE.JU {t e:az} {x i r:I} {g o n aG:Nat} {j:Nat} {k:IntKind} (ag:aF x=true) (J:aF i=true) (hr:aF r=true) (aE:P.underlying t=some (.array n e)) (bt:aP P (sizeOf e)=some aG)
  (ex:aK x= .pointer (some ⟨g,o,none⟩)) (e_:aK i= .int k j) (hj:j<n) (cN:aK r= .pointer (some ⟨g,o+j*aG,none⟩)):bE P (.ca t x i,r):=by
 refine xR (by simp [kR,ag,J]) hr rfl λc6 c7 w=> ?_
 show (eO c6 c7 (.ca t (aK x) (aK i))).run P w=_;rw[ex,e_];unfold eO;have:(Instr.indexAt t (.pointer (some ⟨g,o,none⟩)) (.int k j)).run P w= .ok (.pointer (some ⟨g,o+j*aG,none⟩)) w:=by
  have h0:(Instr.sureAddr (.pointer (some ⟨g,o,none⟩))).run P w= .ok (⟨g,o,none⟩:Addr) w:=rfl;simp [Instr.indexAt,run_underlying aE,asIntOf,hj,h0,f' bt w,Addr.hX]
 simp only [Sem.run_bind,this,Result.andThen_ok,cN];rfl
theorem bE.Rf {t e:az} {x i r v:I} {n m j o o':Nat} {kd:IntKind} (ag:aF x=true) (J:aF i=true) (hr:aF r=true) (aE:P.underlying t=some (.array n e)) (bt:aP P (sizeOf e)=some m)
  (aw:∃b off n c,v= .slice (some ⟨b,off,none⟩) n c) (hj:j<n) (ax:o'=o+j*m) (ex:aK x=j8 v o) (e_:aK i= .int kd j) (cN:aK r=j8 v o'):bE P (.ca t x i,r):=by
 obtain⟨b,off,dS,c,rfl⟩:=aw;exact bE.JU (g:=b) (o:=off+o) ag J hr aE bt ex e_ hj (by rw[cN,ax];simp [j8,cellAt,Nat.add_assoc])
section
omit [aX]
def xT (P:aC) (f:az->I->I->Option Bool) (xs ys:Array I):List Field->Option Bool
 |[]=>some true
 |fD::r=>bif fD.name== "_" then xT P f xs ys r else
  match aP P (part fD.type xs fD.offset),aP P (part fD.type ys fD.offset) with
  |some a,some b=>match f fD.type a b,xT P f xs ys r with
   |some p,some q=>some (p&&q)
   |_,_=>none
  |_,_=>none
def Ap (P:aC) (f:az->I->I->Option Bool) (e:az) (c:Nat) (xs ys:Array I):List Nat->Option Bool
 |[]=>some true
 |i::r=>match aP P (part e xs (i*c)),aP P (part e ys (i*c)) with
  |some a,some b=>match f e a b,Ap P f e c xs ys r with
   |some p,some q=>some (p&&q)
   |_,_=>none
  |_,_=>none
def l0 (P:aC):Nat->az->I->I->Option Bool
 |0,_,_,_=>none
 |d+1,t,x,y=>match P.underlying t with
  |some .bool=>match x,y with
   | .bool a,.bool b=>some (a==b)
   |_,_=>none
  |some (.int _)=>match x,y with
   | .int k a,.int k' b=>bif decide (k=k') then some (a==b) else none
   |_,_=>none
  |some .string=>match x,y with
   | .string a,.string b=>some (a.data.toList==b.data.toList)
   |_,_=>none
  |some (.struct _)=>match x,y with
   | .agg xs,.agg ys=>bif P.stoodInHeld t then none else xT P (l0 P d) xs ys (P.fieldsOf t).toList
   |_,_=>none
  |some (.array n e)=>match x,y with
   | .agg xs,.agg ys=>match P.info? e with
     |some _=>Ap P (l0 P d) e (P.cellsOf e) xs ys (List.range n)
     |none=>none
   |_,_=>none
  |_=>none
theorem Et {d:Nat} (bI:∀t x y b,l0 P d t x y=some b->∀w,(Op.equalIn d t x y).run P w= .ok b w) {xs ys:Array I}:∀(l:List Field) (b:Bool),xT P (l0 P d) xs ys l=some b->∀w,(Op.eqFields d xs ys l).run P w= .ok b w
 |[],b,h,w=>by cases h;rfl
 |fD::r,b,h,w=>by
  unfold xT at h;unfold Op.eqFields;by_cases ah:fD.name= "_"
  ·rw[show (fD.name== "_")=true by simpa using ah,a7] at h
   rw[aW (λaq=>aq ah)];exact Et bI r b h w
  ·rw[show (fD.name== "_")=false by simpa using ah,cV] at h
   rw[aR ah];split at h
   ·rename_i a c ha ao
    split at h
    ·rename_i p q hp aA
     cases h;simp only [Sem.run_bind,f' ha,f' ao,bI _ _ _ _ hp,Result.andThen_ok];cases p with
     |true=>simpa using Et bI r q aA w
     |false=>rfl
    ·cases h
   ·cases h
theorem JV {d:Nat} (bI:∀t x y b,l0 P d t x y=some b->∀w,(Op.equalIn d t x y).run P w= .ok b w) {e:az} {c:Nat} {xs ys:Array I}:∀(l:List Nat) (b:Bool),Ap P (l0 P d) e c xs ys l=some b->∀w,(Op.eqItems d e c xs ys l).run P w= .ok b w
 |[],b,h,w=>by cases h;rfl
 |i::r,b,h,w=>by
  unfold Ap at h;unfold Op.eqItems;split at h
  ·rename_i a c ha ao
   split at h
   ·rename_i p q hp aA
    cases h;simp only [Sem.run_bind,f' ha,f' ao,bI _ _ _ _ hp,Result.andThen_ok];cases p with
    |true=>simpa using JV bI r q aA w
    |false=>rfl
   ·cases h
  ·cases h
theorem Aq:∀(d:Nat) (t:az) (x y:I) (b:Bool),l0 P d t x y=some b->∀w,(Op.equalIn d t x y).run P w= .ok b w
 |0,_,_,_,_,h,_=>by cases h
 |d+1,t,x,y,b,h,w=>by
  unfold l0 at h;split at h
  ·rename_i hu
   split at h
   ·cases h;exact run_equalIn_bool' w d t _ _ hu
   ·cases h
  ·rename_i k0 hu
   split at h
   ·rename_i k a k' b'
    by_cases hk:k=k'
    ·subst hk
     simp only [decide_true,a7,bS] at h;subst h;exact run_equalIn_int w d t k k0 a b' hu
    ·rw[kJ hk,cV] at h
     cases h
   ·cases h
  ·rename_i hu
   split at h
   ·rename_i a c
    cases h;rw[run_equalIn_string w d t _ _ hu,ByteArray.toList_eq,ByteArray.toList_eq]
   ·cases h
  ·rename_i fs hu
   split at h
   ·rename_i xs ys
    cases hs:P.stoodInHeld t with
    |true=>rw[hs] at h;cases h
    |false=>
     rw[hs,cV] at h;have Rg:P.underlying t=some (.struct (P.fieldsOf t)):=by unfold Program.fieldsOf;rw[hu]
     rw[run_equalIn_struct w d t xs ys Rg hs];exact Et (λt x y b h=>Aq d t x y b h) _ b h w
   ·cases h
  ·rename_i n e hu
   split at h
   ·rename_i xs ys
    split at h
    ·rename_i i J
     rw[run_equalIn_array (w:=w) d xs ys hu J];exact JV (λt x y b h=>Aq d t x y b h) _ b h w
    ·cases h
   ·cases h
  ·cases h
end
theorem bE.pO {t:az} {x y:I} {xs ys:Array I} {b:Bool} (av:P.eqGuardType P.depth t=false) (ag:aF x=true) (aT:aF y=true) (ex:aK x= .agg xs) (gH:aK y= .agg ys) (h:l0 P 10000 t (.agg xs) (.agg ys)=some b):bE P (.bin .eql t x y,.bool b):=
 oI ag aT rfl ex gH λc6 c7 w=>by
  unfold eO;simp only [Sem.run_bind,run_eqGuard_agg w .eql t c6 c7 xs ys av,Result.andThen_ok,run_eql_struct,Aq 10000 t _ _ b h w];rfl
theorem bE.Rh {t:az} {x y:I} {xs ys:Array I} {b:Bool} (av:P.eqGuardType P.depth t=false) (ag:aF x=true) (aT:aF y=true) (ex:aK x= .agg xs) (gH:aK y= .agg ys) (h:l0 P 10000 t (.agg xs) (.agg ys)=some b):bE P (.bin .neq t x y,.bool (!b)):=
 oI ag aT rfl ex gH λc6 c7 w=>by
  unfold eO;simp only [Sem.run_bind,run_eqGuard_agg w .neq t c6 c7 xs ys av,Result.andThen_ok,run_neq_struct,Aq 10000 t _ _ b h w];rfl
end
end AE
namespace AE
def JW:Nat->List oO->List MapEntry
 |_,[]=>[]
 |i,n::r=>{key:=iM n,val:= .bool true,born:=i}::JW (i+1) r
def Ar (B:Nat) (M:Mem) (v:I) (xU:List oO):Prop:=∃b,v= .map (some b)/\B<=b/\M b=some (.map ⟨JW 0 xU⟩ xU.length)
def JX:I->Option Nat
 | .map b=>b
 |_=>none
theorem Ar.known {B:Nat} {M:Mem} {v:I} {xU:List oO} (h:Ar B M v xU):∀i,some i=JX v->M i≠none/\B<=i:=by
 obtain⟨b,rfl,h1,ad⟩:=h;intro i J;cases J;exact⟨by rw[ad];simp,h1⟩
section
variable {P:aC} {eI:az} {n:oO} {xU:List oO}
variable [aX]
end
def Eu:Option bT->Option az
 |some (.oper o _ ops s _)=>match o.op with
  | .makeMap t none=>match lR ops o s.sl with
    |some true=>some t
    |_=>none
  |_=>none
 |_=>none
def Ev:Option bT->Option (az×I×I×I)
 |some (.oper o _ ops s _)=>match o.op with
  | .mapUpdate t m k x=>match lR ops o s.sl with
    |some true=>some (t,dh .nil s.sl m,dh .nil s.sl k,dh .nil s.sl x)
    |_=>none
  |_=>none
 |_=>none
theorem fN.map {B:Nat} {M M':Mem} {T:Option Nat} {v:I} {l:List oO} (hk:fN M M' T) (h:Ar B M v l) (ch:∀i,some i=JX v->some i≠T):Ar B M' v l:=by
 obtain⟨b,rfl,h1,ad⟩:=h;exact⟨b,rfl,h1,hk _ _ ad (ch b rfl)⟩
end AE
end Go.Proofs.YtmfckpdcljjdjaaDoor
namespace Go.Proofs.YtmfckpdcljjdjaaDoor
open Go Go.Proofs Go.RowKit
namespace AE
theorem JY {α:Type} {P:aC} {w:aj} {B:Nat} {M:Mem} {t ty e:az} {i:TypeInfo} {z:I} {k bytes:Nat} (aE:P.underlying t=some (.slice e)) (J:P.info? e=some i) (bk:i.zero=some z) (eL:i.size=k) (gX:i.bytes=bytes) (iE:z.cells.size=k) (fU:0<k)
  {enc:α->List I} (hk:∀x,(enc x).length=k) (iL:∀x,∀u∈enc x,u.oneCell'=true) {v x:I} {l lx:List α} (hO:di B M e k enc v l) (ag:oK w k enc x lx) (hw:∀i o,M i=some o->w.heap[i]? =some o)
  (fO:l.length+lx.length<=maxLen) (iT:(l.length+lx.length)*bytes<=140737488355328) {au:I} {w':aj} (hr:(Builtin.append_ #[t,t] ty #[v,x]).run P w= .ok au w'):
  ∀j,some j=dq au->some j=dq v\/w.heap.size<=j:=by
 obtain⟨bd,c,rfl,tC,iB⟩:=ag;by_cases hm:lx=[]
 ·subst hm
  obtain⟨a,cap,rfl⟩:=hO.slice;have hle:l.length<=cap:=by
   rcases hO with ⟨aL,h,rfl⟩|⟨g,pA,cur,h,h0,h1,ad,al,_⟩
   ·exact Nat.zero_le _
   ·cases h;exact al
  have ad:=Ej (P:=P) (w:=w) (ty:=ty) (a:=a) (b:=bd) (c:=c) aE J hle;cases ad.symm.trans hr;exact λj h=> .inl h
 ·cases bd with
  |none=>exact absurd (tC rfl) hm
  |some bj=>
   have hlen:=lY hk lx;have h1:∀u∈lx.flatMap enc,u.oneCell'=true:=λu hu=>by
    obtain⟨y,_,aT⟩:=List.mem_flatMap.1 hu;exact iL y u aT
   by_cases ao:dq v=none
   ·rcases hO with ⟨a,rfl,rfl⟩|⟨g,cap,cur,rfl,h0,_⟩
    ·have c3:(Builtin.append_ #[t,t] ty #[.slice a 0 0,.slice (some bj) lx.length c]).run P w=(Builtin.append_ #[t,t] ty #[.slice none 0 0,.slice (some bj) lx.length c]).run P w:=by
      cases a with
      |none=>rfl
      |some a=>
       subst eL;subst gX;have Em:lx.length<=9223372036854775807:=by simp only [maxLen,List.length_nil] at fO;omega
       have rD:0<lx.length:=List.length_pos_iff.2 hm;have cH:=run_append_nil (P:=P) w t ty e i z aE J bk bj lx.length c _ hlen (iB bj rfl) af af (by have U:=iT;simp only [List.length_nil,Nat.zero_add] at U;omega);have dj:=run_append_grow (P:=P) w t ty e i z aE J bk a 0 0 [] (by simp) (λj u h=>by simp at h) bj lx.length c _ hlen (iB bj rfl) af af (growslice_fits af (by have U:=iT;simp only [List.length_nil] at U;exact U));rw[cH,dj];simp
     have ah:=Ek aE J bk eL gX iE fU (World.ownsRow_nil w B e k) bj lx.length c hlen (iB bj rfl) h1 fO iT (c3.symm.trans hr);intro j hj;rcases ah j (tz hj) with h|h
     ·cases h
     ·exact .inr h
    ·exact absurd ao (by rw[jN _ _ h0];simp)
   ·have heq:dq v=v.ownBlock:=by
     cases h:dq v with
     |none=>exact absurd h ao
     |some i=>exact tz h.symm
    have ah:=Ek aE J bk eL gX iE fU (hO.row hk ao hw) bj lx.length c hlen (iB bj rfl) h1 fO iT hr;intro j hj;rw[heq];exact ah j (tz hj)
theorem JZ [cX] {α:Type} {P:aC} {N B:Nat} {w0:aj} {Q:Exit->Act->aj->Prop} {M:Mem} {bp:List I} {o:Option bT} {t e:az} {k bytes:Nat} {i:TypeInfo} {z vs jO dk:I} {enc:α->List I} {l lx l':List α} {vals2:Option Addr->Nat->List I} {dB e6:bh} {aQ:List cm} {bx:dM}
  (eS:l'=l++lx) (h:vA t o=some (vs,jO)) (aE:P.underlying t=some (.slice e)) (J:P.info? e=some i) (bk:i.zero=some z) (eL:i.size=k) (gX:i.bytes=bytes) (iE:z.cells.size=k) (fU:0<k) (hk:∀x,(enc x).length=k) (iL:∀x,∀u∈enc x,u.oneCell'=true)
  (cv:gp (dA o) dB aQ=some bx) (dx:hE N dB (hN o) dk=some e6) (fu:aF dk=true) (T:Option Nat)
  (hO:∀φ w v,@bs (a' M bp) φ (dA o).A w-> @ar (a' M bp) φ vs v->di B M e k enc v l/\dq v=T)
  (fQ:∀φ w x,@bs (a' M bp) φ (dA o).A w-> @ar (a' M bp) φ jO x->oK w k enc x lx)
  (fO:l.length+lx.length<=maxLen) (iT:(l.length+lx.length)*bytes<=140737488355328)
  (hm:∀M' a c,fo (a' M bp) (a' M' (vals2 a c)) bx) (aw:∀M' a c,@aK (a' M' (vals2 a c)) dk= .slice a l'.length c)
  (rest:∀M' a c,di B M' e k enc (.slice a l'.length c) l'->fN M M' T->(∀i,some i=T->B<=i)->(∀i,some i=dq (.slice a l'.length c)->some i=T\/M i=none)->∀aL w,@Here (a' M' (vals2 a c)) _ N {sl:=e6,ms:=[],A:=gP aQ} B w0 aL w->wpListIn (Fr none) 0 P (jM o) (dz P (jK o) Q) (jL o) aL w)
  (ah:cX.dy<=aQ.length:=by first|exact Nat.zero_le _|exact jX rfl) (ao:ib (dA o).A aQ 0:=by exact fz rfl): @gd (a' M bp) _ P N B w0 Q o:=by
 subst eS;letI:=a' M bp;unfold vA at h;split at h
 ·rename_i op r ops s ks
  refine⟨_,rfl,λa w aq=> ?_⟩;split at h
  ·rename_i c ct
   split at h
   ·rename_i mx fP ow eY
    cases hty:decide (c.argTypes= #[t,t]) with
    |false=>rw[hty] at h;cases h
    |true=>
     rw[hty,a7] at h;have xV:c.argTypes= #[t,t]:=of_decide_eq_true hty;split at h
     ·rename_i hh
      cases h;have fE:=aq;obtain⟨⟨φ,ds,h1,ad,al,bb,_⟩,b5,cE⟩:=aq;unfold wpListIn;rw[lf ad.get hh,aR rfl];have es:=fy (hg φ) ad.get mx;have ex:=fy (hg φ) ad.get fP;obtain⟨J0,c9⟩:=hO φ w _ al es;subst c9;have hw:∀i o,M i=some o->w.heap[i]? =some o:=fE.kT;obtain⟨au,w',M',g1,g2,b6,g4⟩:=JO (ty:=op.type) aE J bk eL gX iE fU hk iL J0 (fQ φ w _ al ex) hw cE fO iT;have rC:=JY aE J bk eL gX iE fU hk iL J0 (fQ φ w _ al ex) hw fO iT g1;have eo:(execOp a.eval op).run P w= .ok (.value au) w':=by
       unfold execOp resolve;rw[ct];simp only [ow,eY,xV,List.map_toArray,List.map_cons,List.map_nil];show (do pure (Next.value (<-Builtin.append_ #[t,t] op.type #[a.eval mx,a.eval fP])):Sem Next).run P w=_;simp only [Sem.run_bind,g1,Result.andThen_ok];rfl
      have hi:∀c',op.op≠.defer c':=λc' h=>by rw[ct] at h;cases h
      refine⟨λ_ _=>trivial,?_⟩;rw[Oper.semAt_eq _ _ _ hi,eo,Oper.uponIn_value];obtain⟨aL,c',rfl⟩:=g2.slice;have gw:=Here.turns (vals':=vals2 aL c') cv (hm M' aL c') b6 ah ao fE;letI:=a' M' (vals2 aL c');have iX:=Here.put (d:=op.dst) gw fu dx;rw[aw M' aL c'] at iX;exact rest M' aL c' g2 g4 (λi J=>(b6.known i J).2) (λi J=>(rC i J).imp id λhs=>by
       cases aV:M i with
       |none=>rfl
       |some o=>
        have:=(Array.getElem?_eq_some_iff.1 (hw i o aV)).1
        omega) _ w' iX
     ·cases h
   ·cases h
  ·cases h
 ·cases h
end AE
end Go.Proofs.YtmfckpdcljjdjaaDoor
namespace Go.Proofs.YtmfckpdcljjdjaaDoor
open Go Go.RowKit
namespace AE
def oP (P:aC) [Lib P] (o:Option bT):FuncId×List I×aD:=(r8 P o).getD (0,[],start)
end AE
namespace AE
structure vB (B:Nat) (M M':Mem) (S:Nat->Prop) (w w':aj):Prop where
 drawn:k5 w<=k5 w'
 known:∀i,S i->M i≠none/\B<=i
 os:w'.os=w.os
 tape:w'.tape=w.tape
 output:w'.output=w.output
 size:w.heap.size<=w'.heap.size
 block:∀i,i<w.heap.size->¬S i->w'.heap[i]? =w.heap[i]?
 eb:∀i o,M' i=some o->w'.heap[i]? =some o/\(M i≠none\/w.heap.size<=i\/i<B)
def tD (M M':Mem) (S:Nat->Prop):Prop:=∀i o,M i=some o->¬S i->M' i=some o
theorem tD.up {B:Nat} {W:aj} {M M':Mem} {S:Nat->Prop} (hk:tD M M' S) (dw:∀i,S i->B<=i) (Q0:W.heap.size<=B) (aV:∀i o,aS W i=some o->M i=some o):∀i o,aS W i=some o->M' i=some o:=λi o h=>
 hk i o (aV i o h) λJ=>by
  have h1:=dw i J;have ad:=(Array.getElem?_eq_some_iff.1 (show W.heap[i]? =some o from h)).1;omega
theorem tD.own {α:Type} {B:Nat} {M M':Mem} {S:Nat->Prop} {e:az} {k:Nat} {enc:α->List I} {v:I} {l:List α} (hk:tD M M' S) (h:di B M e k enc v l) (ch:∀i,some i=dq v->¬S i):di B M' e k enc v l:=
 h.mono (bM _) λi J o ax=>hk i o ax (ch i J)
theorem Here.Ri [cX] {M M':Mem} {bp vals':List I} {S:Nat->Prop} {N B:Nat} {st:cz} {w0 w w':aj} {a:Act} {sl:bh} {l:List cm} {bx:dM} (cv:gp st sl l=some bx) (hm:fo (a' M bp) (a' M' vals') bx) (aE:vB B M M' S w w') (ah:cX.dy<=l.length) (ao:ib st.A l 0)
  (aq: @Here (a' M bp) _ N st B w0 a w): @Here (a' M' vals') _ N {sl,ms:=[],A:=gP l} B w0 a w':=
 Here.Ea S cv hm (λi J=>aE.known i J) ⟨aE.os,aE.tape,aE.output,aE.drawn⟩ aE.size (λi J aw=>aE.block i J aw) (λi o J=>aE.eb i o J) ah ao aq
def vC (B:Nat) (M:Mem) (w w':aj):Mem:=λi=>if (M i).isSome=true\/w.heap.size<=i\/i<B then w'.heap[i]? else none
theorem J1 {B:Nat} {M:Mem} {w w':aj} {i:Nat} (h:(M i).isSome=true\/w.heap.size<=i\/i<B):vC B M w w' i=w'.heap[i]? :=by unfold vC;rw[aR h]
theorem Rj {B:Nat} {M:Mem} {S:Nat->Prop} {w w':aj} (hw:∀i o,M i=some o->w.heap[i]? =some o) (bV:∀i,S i->M i≠none/\B<=i) (nV:w'.os=w.os/\w'.tape=w.tape/\w'.output=w.output) (bt:w.heap.size<=w'.heap.size)
  (U:∀i,i<w.heap.size->¬S i->w'.heap[i]? =w.heap[i]?) (aH:k5 w<=k5 w'):vB B M (vC B M w w') S w w'/\tD M (vC B M w w') S:=by
 refine⟨⟨aH,bV,nV.1,nV.2.1,nV.2.2,bt,U,λi o J=> ?_⟩,λi o J aw=> ?_⟩
 ·unfold vC at J
  split at J
  ·rename_i h
   refine⟨J,?_⟩;rcases h with h|h|h
   ·exact .inl λad=>by rw[ad] at h;cases h
   ·exact .inr (.inl h)
   ·exact .inr (.inr h)
  ·cases J
 ·rw[J1 (.inl (by rw[J];rfl)),U i (Array.getElem?_eq_some_iff.1 (hw i o J)).1 aw]
  exact hw i o J
theorem r_ {M:Mem} {w:aj} (hw:∀i o,M i=some o->w.heap[i]? =some o) {i:Nat} (h:w.heap.size<=i):M i=none:=by
 cases J:M i with
 |none=>rfl
 |some o=>
  have:=(Array.getElem?_eq_some_iff.1 (hw i o J)).1;omega
theorem Rk [aX] {P:aC} (n:Int):bE P (.jw (.int .i64 n),.int .i64 n):=
 xR ae ae ae λ_ _ _=>rfl
def Ew:Option bT->Option az
 |some (.oper o _ ops s _)=>match o.op with
  | .alloc t=>match lR ops o s.sl with
    |some true=>some t
    |_=>none
  |_=>none
 |_=>none
theorem Rl [cX] {P:aC} {N B:Nat} {w0:aj} {Q:Exit->Act->aj->Prop} {M:Mem} {bp:List I} {o:Option bT} {t:az} {z dk:I} {vals2:Nat->List I} {dB e6:bh} {aQ:List cm} {bx:dM}
  (h:Ew o=some t) (bk:aP P (zeroValue t)=some z) (cv:gp (dA o) dB aQ=some bx) (dx:hE N dB (hN o) dk=some e6) (fu:aF dk=true)
  (hm:∀M' g,fo (a' M bp) (a' M' (vals2 g)) bx) (aw:∀M' g,@aK (a' M' (vals2 g)) dk= .pointer (some ⟨g,0,none⟩))
  (rest:∀M' g,B<=g->M g=none->M' g=some (.cells z.cells t (0,0))->fN M M' none->∀aL w,@Here (a' M' (vals2 g)) _ N {sl:=e6,ms:=[],A:=gP aQ} B w0 aL w->wpListIn (Fr none) 0 P (jM o) (dz P (jK o) Q) (jL o) aL w)
  (ah:cX.dy<=aQ.length:=by first|exact Nat.zero_le _|exact jX rfl) (ao:ib (dA o).A aQ 0:=by exact fz rfl): @gd (a' M bp) _ P N B w0 Q o:=by
 letI:=a' M bp;unfold Ew at h;split at h
 ·rename_i op r ops s ks
  refine⟨_,rfl,λa w aq=> ?_⟩;split at h
  ·rename_i cq ct
   split at h
   ·rename_i hh
    cases h;have fE:=aq;obtain⟨⟨φ,ds,h1,ad,al,bb,_⟩,b5,cE⟩:=aq;unfold wpListIn;rw[lf ad.get hh,aR rfl];have hw:∀i o,M i=some o->w.heap[i]? =some o:=fE.kT
    let w':aj:={w with heap:=w.heap.push (.cells z.cells t)}
    have eo:(execOp a.eval op).run P w= .ok (.value (.pointer (some ⟨w.heap.size,0,none⟩))) w':=by
     unfold execOp;rw[ct];show (do pure (Next.value (<-Instr.alloc t true (.tuple #[]))):Sem Next).run P w=_;have ha:(Instr.alloc t true (.tuple #[])).run P w= .ok (.pointer (some ⟨w.heap.size,0,none⟩)) w':=by
      unfold Instr.alloc;refine cb bk ?_;simp [newVar,newRow,newObj,Sem.run,w']
     simp only [Sem.run_bind,ha,Result.andThen_ok];rfl
    have hi:∀c',op.op≠.defer c':=λc' h=>by rw[ct] at h;cases h
    refine⟨λ_ _=>trivial,?_⟩;rw[Oper.semAt_eq _ _ _ hi,eo,Oper.uponIn_value];obtain⟨q1,aJ⟩:=lZ (B:=B) (M:=M) (w:=w) (w':=w') (T:=none) (ej:=some w.heap.size) hw (λi h=>by cases h) (λi J=> .inr (by cases J;exact bM _)) ⟨rfl,rfl,rfl⟩ (bM _) (by simp [w']) (λi J _=>by
     show (w.heap.push _)[i]? =_
     rw[Array.getElem?_push,aW af])
    have hO:fw M w' none (some w.heap.size) w.heap.size=some (.cells z.cells t (0,0)):=by
     unfold fw;rw[aR rfl];show (w.heap.push _)[w.heap.size]? =_;rw[Array.getElem?_push,aR rfl]
    have gw:=Here.turns (vals':=vals2 w.heap.size) cv (hm _ _) q1 ah ao fE;letI:=a' (fw M w' none (some w.heap.size)) (vals2 w.heap.size);have iX:=Here.put (d:=op.dst) gw (v:=dk) fu dx;rw[aw] at iX;exact rest _ _ cE (r_ hw (bM _)) hO aJ _ w' iX
   ·cases h
  ·cases h
 ·cases h
def qS (P:aC) [Lib P] (o:Option bT):cz:={dA o with A:=(oP P o).2.2}
theorem Rm [aX] [cX] {P:aC} [Lib P] {N B:Nat} {w0:aj} {Q:Exit->Act->aj->Prop} {o:Option bT} {f:FuncId} {args:List I} {R:aj->I->aj->Prop} (h:(r8 P o).isSome=true) (aB:(oP P o).1=f) (ha:(oP P o).2.1=args) (hp:er args=true)
  (l3:∀a w,Here N (qS P o) B w0 a w->Calls P f ⟨e9 args⟩ w λe w'=>∃v,e= .returned v/\R w v w')
  (c4:∀a w v w',Here N (qS P o) B w0 a w->R w v w'->wpListIn (Fr none) 0 P (jM o) (dz P (jK o) Q) (jL o) (a.put (hN o) v) w'):gd P N B w0 Q o:=by
 have aH:=QW (d:=(0,[],start)) h
 change r8 P o=some (oP P o) at aH
 generalize he:oP P o=d at aH aB ha;obtain⟨f0,Ex,aY⟩:=d;simp only at aB ha;subst aB ha;have nI:qS P o={dA o with A:=aY}:=by unfold qS;rw[he]
 rw[nI] at l3 c4;unfold r8 at aH;split at aH
 ·rename_i op r ops s ks
  split at aH
  ·rename_i hw
   split at aH
   ·rename_i gL ec XA ha
    cases aH;refine⟨_,rfl,λa w aq=> ?_⟩;obtain⟨⟨φ,ds,h1,ad,al,bb,fC⟩,b5,cE⟩:=aq;unfold wpListIn;rw[lf ad.get hw,aR rfl];obtain⟨eE,w1,n,g1,g2,b6⟩:=IG al (fy (hg φ) ad.get) ha;refine⟨λ_ _=>trivial,?_⟩;letI:c0 P:=⟨[]⟩;have Ey:u2 P (dh .nil s.sl) s.A op=some (.enter f0 Ex,aY):=ha;rw[Oper.semAt_eq _ _ _ (zD Ey),g1];obtain⟨J2,rfl,eY⟩:=g2;rw[Oper.uponIn_enter];refine⟨λh=>absurd h (by simp [Fr,Fence.wide]),?_⟩;obtain⟨bK,b0⟩:=vj bb b6 cE;have Rn:J2=⟨e9 Ex⟩:=by
     obtain⟨q1,aJ⟩:=eY;obtain⟨u⟩:=J2;rw[ar.rN Ex u hp (by simpa using q1.symm) (λi J=>by simpa using aJ i J)]
    subst Rn;have jJ:Here N {dA (some (.oper op r ops s ks)) with A:=aY} B w0 a w1:=⟨⟨eE,ds,h1.mono (b6.ext al),ad.mono (b6.ext al),b6.rel,bK,fC.step b6⟩,b5.trans b0,Nat.le_trans cE b6.eL⟩;refine CallsIn.mono (xc (l3 a w1 jJ)) λe cQ he=> ?_
    obtain⟨v,rfl,hy⟩:=he;exact c4 a w1 v cQ jJ hy
   ·cases aH
  ·cases aH
 ·cases aH
theorem Ro [cX] {P:aC} [Lib P] {N B:Nat} {w0:aj} {Q:Exit->Act->aj->Prop} {M:Mem} {bp:List I} {o:Option bT} {f:FuncId} {args:List I} {dk:I} {Y:Type} {vals2:Y->List I} {dB e6:bh} {aQ:List cm} {bx:dM} {S:Nat->Prop} {R:Y->Mem->Prop}
  (h:(r8 P o).isSome=true) (aB:(oP P o).1=f) (ha:(oP P o).2.1=args) (hp:er args=true) (cv:gp (qS P o) dB aQ=some bx) (dx:hE N dB (hN o) dk=some e6) (fu:aF dk=true)
  (l3:∀w,(∀i o,M i=some o->w.heap[i]? =some o)->B<=w.heap.size->Calls P f ⟨@e9 (a' M bp) args⟩ w λe w'=>∃y M',e= .returned (@aK (a' M' (vals2 y)) dk)/\R y M'/\vB B M M' S w w')
  (hm:∀M' y,R y M'->fo (a' M bp) (a' M' (vals2 y)) bx)
  (rest:∀M' y,R y M'->∀aL w,@Here (a' M' (vals2 y)) _ N {sl:=e6,ms:=[],A:=gP aQ} B w0 aL w->wpListIn (Fr none) 0 P (jM o) (dz P (jK o) Q) (jL o) aL w)
  (ah:cX.dy<=aQ.length:=by first|exact Nat.zero_le _|exact jX rfl) (ao:ib (qS P o).A aQ 0:=by exact fz rfl): @gd (a' M bp) _ P N B w0 Q o:=by
 letI:=a' M bp;refine Rm (R:=λw v w'=>∃y M',v= @aK (a' M' (vals2 y)) dk/\R y M'/\vB B M M' S w w') h aB ha hp (λa w aq=>(l3 w aq.kT aq.size).mono λe w' he=> ?_) λa w v w' aq hy=> ?_
 ·obtain⟨y,M',rfl,h1,ad⟩:=he
  exact⟨_,rfl,y,M',rfl,h1,ad⟩
 ·obtain⟨y,M',rfl,h1,ad⟩:=hy
  have gw:=Here.Ri (vals':=vals2 y) cv (hm M' y h1) ad ah ao aq;exact rest M' y h1 _ w' (@Here.put (a' M' (vals2 y)) _ _ _ _ _ _ _ _ _ _ gw fu dx)
end AE
namespace AE
def hn (B:Nat) (M:Mem) (v:I) (ty:az) (cs:List I):Prop:=∃g,v= .pointer (some ⟨g,0,none⟩)/\B<=g/\M g=some (.cells ⟨cs⟩ ty (0,0))
theorem hn.known {B g:Nat} {M:Mem} {ty:az} {cs:List I} (h:hn B M (.pointer (some ⟨g,0,none⟩)) ty cs):M g=some (.cells ⟨cs⟩ ty (0,0))/\B<=g:=by
 obtain⟨XB,e,h1,ad⟩:=h;cases e;exact⟨ad,h1⟩
theorem hn.ptr {B:Nat} {M:Mem} {v:I} {ty:az} {cs:List I} (h:hn B M v ty cs):∃g,v= .pointer (some ⟨g,0,none⟩):=by
 obtain⟨g,e,_⟩:=h;exact⟨g,e⟩
theorem fN.box {B g:Nat} {M M':Mem} {T:Option Nat} {ty:az} {cs:List I} (hk:fN M M' T) (h:hn B M (.pointer (some ⟨g,0,none⟩)) ty cs) (ch:∀i,some i=T->some i≠some g):hn B M' (.pointer (some ⟨g,0,none⟩)) ty cs:=
 ⟨g,rfl,h.known.2,hk _ _ h.known.1 λe=>ch g e rfl⟩
theorem bH.kept {α:Type} {M M':Mem} {T:Option Nat} {k:Nat} {enc:α->List I} {a:Option Addr} {n c:Nat} {l:List α} (hk:fN M M' T) (h:bH M k enc (.slice a n c) l) (ch:∀p,a=some p->some p.block≠T):bH M' k enc (.slice a n c) l:=by
 cases h with
 |nil a c=>exact .nil a c
 |mk U ao h=>exact .mk (hk _ _ U (ch _ rfl)) ao h
section
variable [aX] {P:aC}
theorem bE.Rp {B g j:Nat} {ty t:az} {cs:List I} {p r u:I} (hO:hn B aX.eb (.pointer (some ⟨g,0,none⟩)) ty cs) (hj:cs[j]? =some u) (hp:aF p=true) (hr:aF r=true) (ha:aP P (isAgg t)=some false) (ln:aK p= .pointer (some ⟨g,j,none⟩)) (cN:aK r=u):bE P (.ld t p,r):=
 bE.ld1 hp hr ha ln (λw hw=>by
  have:=hw _ _ hO.known.1;simp only [World.cell?,this]
  simpa using hj) cN
theorem bE.Rq {x r:I} {a:Addr} (ag:aF x=true) (hr:aF r=true) (ex:aK x= .pointer (some a)) (cN:aK r= .pointer (some a)):bE P (.mq x,r):=
 xR (by simpa [kR] using ag) hr rfl λc6 c7 w=>by
  show (eO c6 c7 (.mq (aK x))).run P w=_;rw[ex,cN];rfl
theorem bE.Rr {s:az} {x r:I} {f g o ty off m:Nat} (aB:((P.fieldsOf s)[f]?).map (λf=>(f.type,f.offset))=some (ty,off)) (hs:aP P (underlying s)=some (.struct (P.fieldsOf s))) (hm:aP P (sizeOf ty)=some m) (h0:m≠0) (ag:aF x=true) (hr:aF r=true)
  (ex:aK x= .pointer (some ⟨g,o,none⟩)) (cN:aK r= .pointer (some ⟨g,o+off,none⟩)):bE P (.hJ s x f,r):=by
 obtain⟨fD,h1,ad⟩:=Option.map_eq_some_iff.1 aB;cases ad;exact bE.hJ ag hr hs h1 hm h0 ex cN
end
def Ez:Option bT->Option (az×I)
 |some (.oper o _ ops s _)=>match o.op with
  | .box t fP=>match lR ops o s.sl with
    |some true=>some (t,dh .nil s.sl fP)
    |_=>none
  |_=>none
 |_=>none
theorem Rs [cX] {P:aC} {N B:Nat} {w0:aj} {Q:Exit->Act->aj->Prop} {M:Mem} {bp:List I} {o:Option bT} {t:az} {x u dk:I} {cs:List I} {vals2:Nat->List I} {dB e6:bh} {aQ:List cm} {bx:dM}
  (h:Ez o=some (t,x)) (ag:aF x=true) (ex: @aK (a' M bp) x=u) (ez:u.cells=⟨cs⟩) (cv:gp (dA o) dB aQ=some bx) (dx:hE N dB (hN o) dk=some e6) (fu:aF dk=true)
  (hm:∀M' g,fo (a' M bp) (a' M' (vals2 g)) bx) (aw:∀M' g,@aK (a' M' (vals2 g)) dk= .pointer (some ⟨g,0,none⟩))
  (rest:∀M' g,M g=none->hn B M' (.pointer (some ⟨g,0,none⟩)) t cs->fN M M' none->∀aL w,@Here (a' M' (vals2 g)) _ N {sl:=e6,ms:=[],A:=gP aQ} B w0 aL w->wpListIn (Fr none) 0 P (jM o) (dz P (jK o) Q) (jL o) aL w)
  (ah:cX.dy<=aQ.length:=by first|exact Nat.zero_le _|exact jX rfl) (ao:ib (dA o).A aQ 0:=by exact fz rfl): @gd (a' M bp) _ P N B w0 Q o:=by
 letI:=a' M bp;unfold Ez at h;split at h
 ·rename_i op r ops s ks
  refine⟨_,rfl,λa w aq=> ?_⟩;split at h
  ·rename_i cq fP ct
   split at h
   ·rename_i hh
    cases h;have fE:=aq;obtain⟨⟨φ,ds,h1,ad,al,bb,_⟩,b5,cE⟩:=aq;unfold wpListIn;rw[lf ad.get hh,aR rfl];have kU:a.eval fP=u:=(ar.gW _ ag (fy (hg φ) ad.get fP)).trans ex;have hw:∀i o,M i=some o->w.heap[i]? =some o:=fE.kT
    let w':aj:={w with heap:=w.heap.push (.cells ⟨cs⟩ t)}
    have eo:(execOp a.eval op).run P w= .ok (.value (.pointer (some ⟨w.heap.size,0,none⟩))) w':=by
     unfold execOp;rw[ct];simp only [kU];show (do pure (Next.value (<-Instr.box t u)):Sem Next).run P w=_;have ha:(Instr.box t u).run P w= .ok (.pointer (some ⟨w.heap.size,0,none⟩)) w':=by
      unfold Instr.box newVar newRow;rw[ez];simp [newObj,Sem.run,w']
     simp only [Sem.run_bind,ha,Result.andThen_ok];rfl
    have hi:∀c',op.op≠.defer c':=λc' h=>by rw[ct] at h;cases h
    refine⟨λ_ _=>trivial,?_⟩;rw[Oper.semAt_eq _ _ _ hi,eo,Oper.uponIn_value];obtain⟨q1,aJ⟩:=lZ (B:=B) (M:=M) (w:=w) (w':=w') (T:=none) (ej:=some w.heap.size) hw (λi h=>by cases h) (λi J=> .inr (by cases J;exact bM _)) ⟨rfl,rfl,rfl⟩ (bM _) (by simp [w']) (λi J _=>by
     show (w.heap.push _)[i]? =_
     rw[Array.getElem?_push,aW af])
    have hO:hn B (fw M w' none (some w.heap.size)) (.pointer (some ⟨w.heap.size,0,none⟩)) t cs:=by
     refine⟨_,rfl,cE,?_⟩;unfold fw;rw[aR rfl];show (w.heap.push _)[w.heap.size]? =_;rw[Array.getElem?_push,aR rfl]
    have gw:=Here.turns (vals':=vals2 w.heap.size) cv (hm _ _) q1 ah ao fE;letI:=a' (fw M w' none (some w.heap.size)) (vals2 w.heap.size);have iX:=Here.put (d:=op.dst) gw (v:=dk) fu dx;rw[aw] at iX;exact rest _ _ (r_ hw (bM _)) hO aJ _ w' iX
   ·cases h
  ·cases h
 ·cases h
theorem Rt [cX] {P:aC} {N B:Nat} {w0:aj} {Q:Exit->Act->aj->Prop} {M:Mem} {bp vals2:List I} {o:Option bT} {t ty:az} {g j:Nat} {p x u:I} {cs cs':List I} {dB e6:bh} {aQ:List cm} {bx:dM}
  (eS:cs'=cs.set j u) (h:qR o=some (t,p,x)) (bt:aP P (sizeOf t)=some 1)
  (cv:gp (dA o) dB aQ=some bx) (dx:hE N dB (hN o) undef=some e6) (hp:aF p=true) (ag:aF x=true) (ln: @aK (a' M bp) p= .pointer (some ⟨g,j,none⟩)) (ex: @aK (a' M bp) x=u) (hu:u.cells= #[u]) (iL:u.oneCell'=true)
  (hO:hn B M (.pointer (some ⟨g,0,none⟩)) ty cs) (hj:j<cs.length) (hm:∀M',fo (a' M bp) (a' M' vals2) bx)
  (rest:∀M',hn B M' (.pointer (some ⟨g,0,none⟩)) ty cs'->fN M M' (some g)->∀aL w,@Here (a' M' vals2) _ N {sl:=e6,ms:=[],A:=gP aQ} B w0 aL w->wpListIn (Fr none) 0 P (jM o) (dz P (jK o) Q) (jL o) aL w)
  (ah:cX.dy<=aQ.length:=by first|exact Nat.zero_le _|exact jX rfl) (ao:ib (dA o).A aQ 0:=by exact fz rfl): @gd (a' M bp) _ P N B w0 Q o:=by
 subst eS;letI:=a' M bp;unfold qR at h;split at h
 ·rename_i op r ops s ks
  refine⟨_,rfl,λa w aq=> ?_⟩;split at h
  ·rename_i cq nh fP ct
   split at h
   ·rename_i hh
    cases h;have fE:=aq;obtain⟨⟨φ,ds,h1,ad,al,bb,_⟩,b5,cE⟩:=aq;unfold wpListIn;rw[lf ad.get hh,aR rfl];have es:a.eval nh= .pointer (some ⟨g,j,none⟩):=(ar.gW _ hp (fy (hg φ) ad.get nh)).trans ln;have kU:a.eval fP=u:=(ar.gW _ ag (fy (hg φ) ad.get fP)).trans ex;have hw:∀i o,M i=some o->w.heap[i]? =some o:=fE.kT;obtain⟨aV,dw⟩:=hO.known;have av:=hw _ _ aV
    let eA:Array I:=(cs.take j++[u]++cs.drop (j+1)).toArray
    have eX:eA=⟨cs.set j u⟩:=by
     show (cs.take j++[u]++cs.drop (j+1)).toArray=_;rw[List.set_eq_take_append_cons_drop,aR hj];simp
    have qn:(storeCells ⟨g,j,none⟩ [u]).run P w= .ok () (w.setRow g eA):=by
     have:=run_storeCells_at P g j ty [u] 0 ⟨cs⟩ w av (by simp only [List.length_cons,List.length_nil,List.size_toArray];omega) (λv aw=>by rw[List.mem_singleton.1 aw];exact iL);simpa only [Nat.add_zero,List.length_cons,List.length_nil] using this
    have eo:(execOp a.eval op).run P w= .ok .skip (w.setRow g eA):=by
     unfold execOp;rw[ct];simp only [es,kU];show (do Instr.storeAt t (.pointer (some ⟨g,j,none⟩)) u;pure Next.skip:Sem Next).run P w=_;have cd:(Instr.storeAt t (.pointer (some ⟨g,j,none⟩)) u).run P w= .ok () (w.setRow g eA):=by
      unfold Instr.storeAt;refine cb (a:=(⟨g,j,none⟩:Addr)) rfl ?_;unfold storeVar;refine cb bt ?_;rw[aW (by rw[hu];simp),hu];exact qn
     simp only [Sem.run_bind,cd,Result.andThen_ok];rfl
    have hi:∀c',op.op≠.defer c':=λc' h=>by rw[ct] at h;cases h
    refine⟨λ_ _=>trivial,?_⟩;rw[Oper.semAt_eq _ _ _ hi,eo,Oper.uponIn_skip];obtain⟨q1,aJ⟩:=lZ (B:=B) (M:=M) (w':=w.setRow g eA) (T:=some g) (ej:=some g) hw (λi J=>by cases J;exact⟨by rw[aV];simp,dw⟩) (λi J=> .inl J) ⟨rfl,rfl,rfl⟩ (bM _) (by simp [World.setRow]) (λj _ hj=>setRow_other w g j eA (λh=>hj (by rw[h])));have tE:hn B (fw M (w.setRow g eA) (some g) (some g)) (.pointer (some ⟨g,0,none⟩)) ty (cs.set j u):=by
     refine⟨g,rfl,dw,?_⟩;unfold fw;rw[aR rfl,<-eX];exact setRow_heap w g ⟨cs⟩ eA ty (0,0) av
    have gw:=Here.turns (vals':=vals2) cv (hm _) q1 ah ao fE;letI:=a' (fw M (w.setRow g eA) (some g) (some g)) vals2;exact rest _ tE aJ _ _ (Here.put (d:=op.dst) gw (v:=undef) rfl dx)
   ·cases h
  ·cases h
 ·cases h
end AE
namespace AE
structure cr where
 j9:Nat->Prop
 ok:Mem->Prop
 pW:∀M,ok M->∀b,j9 b->M b≠none
 loc:∀M M',(∀b o,j9 b->M b=some o->M' b=some o)->ok M->ok M'
def vD (g:Nat) (ty:az) (cs:List I):cr where
 j9 b:=b=g
 ok M:=M g=some (.cells ⟨cs⟩ ty (0,0))
 pW M h b U:=by
  subst U;rw[h];simp
 loc M M' h ax:=h g _ rfl ax
def ni {α:Type} (e:az) (k:Nat) (enc:α->List I) (v:I) (l:List α):cr where
 j9 b:=some b=dq v
 ok M:=di 0 M e k enc v l
 pW M h b U:=(h.known b U).1
 loc M M' h ax:=by
  rcases ax with ax|⟨g,cap,cur,rfl,ao,h1,av,ad⟩
  ·exact .inl ax
  ·exact .inr ⟨g,cap,cur,rfl,ao,h1,h g _ (jN ⟨g,_,none⟩ _ ao).symm av,ad⟩
def hQ {α:Type} (B:Nat) (M:Mem) (e:az) (k:Nat) (enc:α->List I) (v:I) (l:List α):Prop:=
 (∃a,v= .slice a 0 0/\l=[])\/
 ∃g off cap cur,v= .slice (some ⟨g,off,none⟩) l.length cap/\0<cap/\B<=g/\M g=some (.cells cur e (0,0))/\l.length<=cap/\cap<=maxLen/\cur.size=off+cap*k/\(cur.toList.drop off).take (l.length*k)=l.flatMap enc
section
variable {α:Type} {B:Nat} {M:Mem} {e:az} {k:Nat} {enc:α->List I} {v:I} {l:List α}
theorem di.queue (h:di B M e k enc v l):hQ B M e k enc v l:=by
 rcases h with h|⟨g,cap,cur,h1,ad,al,bb,b5,cE,fC,kk⟩
 ·exact .inl h
 ·exact .inr ⟨g,0,cap,cur,h1,ad,al,bb,b5,cE,af,by rw[List.drop_zero];exact kk⟩
theorem hQ.known (h:hQ B M e k enc v l):∀i,some i=dq v->M i≠none/\B<=i:=λi J=>by
 rcases h with ⟨a,rfl,_⟩|⟨g,off,cap,cur,rfl,ao,dw,av,_⟩
 ·rw[Ei] at J
  cases J
 ·rw[jN _ _ ao] at J
  have e:=Option.some.inj J;subst e;exact⟨λh=>(by rw[av] at h;cases h),dw⟩
theorem hQ.mono {oD:Nat} {M':Mem} (h:hQ B M e k enc v l) (dw:∀i,some i=dq v->oD<=i) (hm:∀i,some i=dq v->∀o,M i=some o->M' i=some o):hQ oD M' e k enc v l:=by
 rcases h with h|⟨g,off,cap,cur,rfl,ao,h1,av,ad⟩
 ·exact .inl h
 ·exact .inr ⟨g,off,cap,cur,rfl,ao,dw g (jN ⟨g,_,none⟩ _ ao).symm,hm g (jN ⟨g,_,none⟩ _ ao).symm _ av,ad⟩
theorem hQ.slice (h:hQ B M e k enc v l):∃a c,v= .slice a l.length c:=by
 rcases h with ⟨a,rfl,rfl⟩|⟨g,off,cap,cur,rfl,_⟩
 ·exact⟨a,0,rfl⟩
 ·exact⟨_,cap,rfl⟩
theorem hQ.arr (h:hQ B M e k enc v l) (hk:∀x,(enc x).length=k):bH M k enc v l:=by
 rcases h with ⟨a,rfl,rfl⟩|⟨g,off,cap,cur,rfl,ao,h1,ad,al,bb,b5,cE⟩
 ·exact .nil _ _
 ·refine .mk ad al λi x ag j u hu=> ?_
  have fC:=r9 hk l i x ag j u hu;rw[<-cE,List.getElem?_take] at fC;split at fC
  ·rw[List.getElem?_drop] at fC
   rw[Nat.add_assoc];simpa using fC
  ·cases fC
theorem hQ.cap (h:hQ B M e k enc v l):∃a c,v= .slice a l.length c/\l.length<=c:=by
 rcases h with ⟨a,rfl,rfl⟩|⟨g,off,cap,cur,rfl,h1,ad,al,bb,_⟩
 ·exact⟨a,0,rfl,bM _⟩
 ·exact⟨_,cap,rfl,bb⟩
theorem di.Ru {oD:Nat} {M':Mem} (h:di B M e k enc v l) (dw:∀i,some i=dq v->oD<=i) (hm:∀i,some i=dq v->∀o,M i=some o->M' i=some o):di oD M' e k enc v l:=by
 rcases h with h|⟨g,cap,cur,rfl,ao,h1,av,ad⟩
 ·exact .inl h
 ·exact .inr ⟨g,cap,cur,rfl,ao,dw g (jN ⟨g,_,none⟩ _ ao).symm,hm g (jN ⟨g,_,none⟩ _ ao).symm _ av,ad⟩
end
def vE {α:Type} (e:az) (k:Nat) (enc:α->List I) (v:I) (l:List α):cr where
 j9 b:=some b=dq v
 ok M:=hQ 0 M e k enc v l
 pW M h b U:=(h.known b U).1
 loc M M' h ax:=ax.mono (λ_ _=>Nat.zero_le _) λi J o h1=>h i o J h1
def As {α:Type} (k:Nat) (enc:α->List I) (v:I) (l:List α):cr where
 j9 b:=some b=v.ownBlock
 ok M:=bH M k enc v l/\∀b,some b=v.ownBlock->M b≠none
 pW M h b U:=h.2 b U
 loc M M' h ax:=by
  refine⟨?_,λb U=> ?_⟩
  ·obtain⟨h1,ad⟩:=ax
   cases h1 with
   |nil a c=>exact .nil a c
   |mk U ao al=>exact .mk (h _ _ rfl U) ao al
  ·cases aV:M b with
   |none=>exact absurd aV (ax.2 b U)
   |some o=>
    rw[h b o U aV];simp
theorem bH.arr {α:Type} {M:Mem} {k:Nat} {enc:α->List I} {v:I} {l:List α} (h:bH M k enc v l) (_:∀x,(enc x).length=k):bH M k enc v l:=h
structure dg (M:Mem) (L:List cr):Prop where
 ok:∀(i:Nat) (R:cr),L[i]? =some R->R.ok M
 two:∀(i j:Nat) (R S:cr),i≠j->L[i]? =some R->L[j]? =some S->∀b,R.j9 b->¬S.j9 b
def fX (L:List cr):Nat->Prop:=λb=>∃(i:Nat) (R:cr),L[i]? =some R/\R.j9 b
theorem vF (b:Nat):¬fX [] b:=λ⟨i,R,h,_⟩=>by simp at h
theorem dg.nil (M:Mem):dg M []:=⟨λi R h=>by simp at h,λi j R S _ h=>by simp at h⟩
theorem dg.known {M:Mem} {L:List cr} (h:dg M L):∀b,fX L b->M b≠none:=λb ⟨i,R,J,U⟩=>R.pW M (h.ok i R J) b U
theorem dg.mono {M M':Mem} {L:List cr} (h:dg M L) (hm:∀b o,fX L b->M b=some o->M' b=some o):dg M' L:=
 ⟨λi R J=>R.loc M M' (λb o U ax=>hm b o ⟨i,R,J,U⟩ ax) (h.ok i R J),h.two⟩
structure gx (M:Mem) (L:List cr) (M':Mem) (L':List cr):Prop where
 sp:dg M' L'
 keeps:tD M M' (fX L)
 fresh:∀b,fX L' b->fX L b\/M b=none
structure cB (B:Nat) (fF:Mem) (gn:List cr) (M:Mem) (L:List cr):Prop where
 sp:dg M L
 keeps:tD fF M (fX gn)
 fresh:∀b,fX L b->fX gn b\/fF b=none
 base:∀b,fX gn b\/fF b=none->B<=b
def pick (L:List cr):List Nat->List cr
 |[]=>[]
 |i::is=>match L[i]? with
  |some R=>R::pick L is
  |none=>pick L is
def il (n:Nat):List Nat->Bool
 |[]=>true
 |i::is=>Nat.blt i n&& !is.contains i&&il n is
def iY (L:List cr):List Nat->List cr->List cr
 |i::is,R::gq=>iY (L.set i R) is gq
 |_,_=>L
theorem EA {n i:Nat} {is:List Nat} (h:il n (i::is)=true):i<n/\i∉is/\il n is=true:=by
 simp only [il,b4,Bool.not_eq_true',List.contains_eq_mem,decide_eq_false_iff_not] at h;exact⟨of_decide_eq_true (by simpa [Nat.blt_eq] using h.1.1),h.1.2,h.2⟩
theorem J3 {L:List cr}:∀{is:List Nat},il L.length is=true->∀(j:Nat),(pick L is)[j]? =(is[j]?).bind λ(i:Nat)=>L[i]?
 |[],_,j=>by simp [pick]
 |i::is,h,j=>by
  obtain⟨h1,ad,al⟩:=EA h;unfold pick;rw[fc h1];cases j with
  |zero=>simp [fc h1]
  |succ j=>
   simp only [List.getElem?_cons_succ];exact J3 al j
theorem J4 {n:Nat}:∀{is:List Nat},il n is=true->∀{j dG i:Nat},is[j]? =some i->is[dG]? =some i->j=dG
 |[],_,j,dG,i,h,_=>by simp at h
 |x::is,h,j,dG,i,h1,ad=>by
  obtain⟨q1,aJ,cg⟩:=EA h;cases j with
  |zero=>
   cases dG with
   |zero=>rfl
   |succ dG=>
    simp only [List.getElem?_cons_zero,bS] at h1;simp only [List.getElem?_cons_succ] at ad;subst h1;exact absurd (List.mem_of_getElem? ad) aJ
  |succ j=>
   simp only [List.getElem?_cons_succ] at h1;cases dG with
   |zero=>
    simp only [List.getElem?_cons_zero,bS] at ad;subst ad;exact absurd (List.mem_of_getElem? h1) aJ
   |succ dG=>
    simp only [List.getElem?_cons_succ] at ad;rw[J4 cg h1 ad]
theorem xW {L:List cr} {is:List Nat} (h:il L.length is=true) {j:Nat} {R:cr} (hj:(pick L is)[j]? =some R):∃(i:Nat),is[j]? =some i/\L[i]? =some R:=by
 rw[J3 h] at hj;exact Option.bind_eq_some_iff.1 hj
theorem Au {L:List cr} {is:List Nat} (h:il L.length is=true) {b:Nat} (U:fX (pick L is) b):fX L b:=by
 obtain⟨j,R,hj,hy⟩:=U;obtain⟨i,_,J⟩:=xW h hj;exact⟨i,R,J,hy⟩
theorem dg.pick {M:Mem} {L:List cr} (s:dg M L) (is:List Nat) (h:il L.length is=true):dg M (pick L is) where
 ok j R hj:=by
  obtain⟨i,_,J⟩:=xW h hj;exact s.ok i R J
 two j dG R S ch hj ey b U cK:=by
  obtain⟨i,h1,ad⟩:=xW h hj;obtain⟨j1,al,bb⟩:=xW h ey;refine s.two i j1 R S (λe=> ?_) ad bb b U cK;subst e;exact ch (J4 h h1 al)
theorem Av:∀(is:List Nat) (L gq:List cr),(iY L is gq).length=L.length
 |[],L,gq=>by unfold iY;rfl
 |i::is,L,[]=>by unfold iY;rfl
 |i::is,L,R::gq=>by
  unfold iY;rw[Av is];simp
theorem EB:∀{is:List Nat} {L gq:List cr} {m:Nat},m∉is->(iY L is gq)[m]? =L[m]?
 |[],L,gq,m,_=>by unfold iY;rfl
 |i::is,L,[],m,_=>by unfold iY;rfl
 |i::is,L,R::gq,m,h=>by
  unfold iY;rw[EB (λhm=>h (List.mem_cons_of_mem _ hm)),List.getElem?_set,aW (λe=>h (by rw[e];exact List.mem_cons_self))]
theorem J5 {n:Nat}:∀{is:List Nat} {L gq:List cr} {m:Nat} {R:cr},il n is=true->n=L.length->gq.length=is.length->m∈is->(iY L is gq)[m]? =some R->∃(j:Nat),is[j]? =some m/\gq[j]? =some R
 |[],L,gq,m,R,_,_,_,hm,_=>by simp at hm
 |i::is,L,[],m,R,_,_,hl,_,_=>by simp at hl
 |i::is,L,XC::gq,m,R,h,ah,hl,hm,av=>by
  obtain⟨q1,aJ,cg⟩:=EA h;unfold iY at av;by_cases J:m∈is
  ·obtain⟨j,h1,ad⟩:=J5 cg (by rw[List.length_set];exact ah) (by simpa using hl) J av
   exact⟨j+1,by simpa using h1,by simpa using ad⟩
  ·have he:m=i:=by
    rcases List.mem_cons.1 hm with h|h
    ·exact h
    ·exact absurd h J
   subst he;rw[EB J,List.getElem?_set,aR rfl,aR af] at av;exact⟨0,rfl,av⟩
theorem xX {L L' N:List cr} {is:List Nat} (h:il L.length is=true) (hl:L'.length=is.length) {m:Nat} {R:cr} (hm:(iY L is L'++N)[m]? =some R):
  (∃(j:Nat),(L'++N)[j]? =some R/\((is[j]? =some m/\j<is.length)\/(j=is.length+(m-L.length)/\L.length<=m)))\/(L[m]? =some R/\m∉is):=by
 by_cases aM:m<L.length
 ·rw[List.getElem?_append_left (by rw[Av];exact aM)] at hm
  by_cases J:m∈is
  ·obtain⟨j,h1,ad⟩:=J5 h rfl hl J hm
   have hj:j<is.length:=(List.getElem?_eq_some_iff.1 h1).1;exact .inl ⟨j,by rw[List.getElem?_append_left af];exact ad,.inl ⟨h1,hj⟩⟩
  ·rw[EB J] at hm
   exact .inr ⟨hm,J⟩
 ·rw[List.getElem?_append_right (by rw[Av];omega),Av] at hm
  exact .inl ⟨is.length+(m-L.length),by rw[List.getElem?_append_right af,hl];rw[show is.length+(m-L.length)-is.length=m-L.length by omega];exact hm,.inr ⟨rfl,af⟩⟩
section
variable {B:Nat} {fF M M':Mem} {gn L L' N:List cr}
theorem dg.put (s:dg M L) (is:List Nat) (h:il L.length is=true) (hl:L'.length=is.length) (t:gx M (AE.pick L is) M' (L'++N)):dg M' (iY L is L'++N):=by
 have J6:∀(i:Nat) (R:cr),L[i]? =some R->i∉is->∀b,R.j9 b->¬fX (AE.pick L is) b:=λi R J ah b U ⟨j,S,hj,bV⟩=>by
  obtain⟨j1,h1,ad⟩:=xW h hj;exact s.two i j1 R S (λe=>ah (by rw[e];exact List.mem_of_getElem? h1)) J ad b U bV
 have eM:∀(i:Nat) (R:cr),L[i]? =some R->i∉is->∀b,R.j9 b->¬fX (L'++N) b:=λi R J ah b U lK=>by
  rcases t.fresh b lK with h1|h1
  ·exact J6 i R J ah b U h1
  ·exact R.pW M (s.ok i R J) b U h1
 refine⟨λm R hm=> ?_,λm m' R S ch hm mf b U cK=> ?_⟩
 ·rcases xX h hl hm with ⟨j,hj,_⟩|⟨J,ah⟩
  ·exact t.sp.ok j R hj
  ·exact R.loc M M' (λb o U ax=>t.keeps b o ax (J6 m R J ah b U)) (s.ok m R J)
 ·rcases xX h hl hm with ⟨j,hj,eF⟩|⟨J,ah⟩
  ·rcases xX h hl mf with ⟨dG,ey,EC⟩|⟨fZ,tF⟩
   ·refine t.sp.two j dG R S (λe=> ?_) hj ey b U cK
    subst e;rcases eF with ⟨h1,ad⟩|⟨h1,ad⟩
    ·rcases EC with ⟨al,bb⟩|⟨al,bb⟩
     ·rw[h1] at al
      exact ch (Option.some.inj al)
     ·omega
    ·rcases EC with ⟨al,bb⟩|⟨al,bb⟩
     ·omega
     ·exact ch af
   ·exact eM m' S fZ tF b cK ⟨j,R,hj,U⟩
  ·rcases xX h hl mf with ⟨dG,ey,EC⟩|⟨fZ,tF⟩
   ·exact eM m R J ah b U ⟨dG,S,ey,cK⟩
   ·exact s.two m m' R S ch J fZ b U cK
theorem Rv (s:dg M L) {is:List Nat} (h:il L.length is=true) (hl:L'.length=is.length) (t:gx M (AE.pick L is) M' (L'++N)) {b:Nat} (U:fX (iY L is L'++N) b):fX L b\/M b=none:=by
 obtain⟨m,R,hm,hy⟩:=U;rcases xX h hl hm with ⟨j,hj,_⟩|⟨J,ah⟩
 ·rcases t.fresh b ⟨j,R,hj,hy⟩ with h1|h1
  ·exact .inl (Au h h1)
  ·exact .inr h1
 ·exact .inl ⟨m,R,J,hy⟩
theorem cB.put (h:cB B fF gn M L) (is:List Nat) (hR:il L.length is=true) (hl:L'.length=is.length) (t:gx M (AE.pick L is) M' (L'++N)):cB B fF gn M' (iY L is L'++N) where
 sp:=h.sp.put is hR hl t
 keeps i o J ah:=by
  have h1:=h.keeps i o J ah;refine t.keeps i o h1 λad=> ?_
  rcases h.fresh i (Au hR ad) with al|al
  ·exact ah al
  ·rw[J] at al
   cases al
 fresh b U:=by
  rcases Rv h.sp hR hl t U with h1|h1
  ·exact h.fresh b h1
  ·by_cases ad:fX gn b
   ·exact .inl ad
   ·right
    cases al:fF b with
    |none=>rfl
    |some o=>
     have:=h.keeps b o al ad;rw[h1] at this;cases this
 base:=h.base
theorem cB.pX (h:cB B fF gn M L) (i:Nat) {R ED:cr} (J:L[i]? =some R) (t:gx M [R] M' [ED]):cB B fF gn M' (L.set i ED):=by
 have aM:i<L.length:=(List.getElem?_eq_some_iff.1 J).1;have hR:il L.length [i]=true:=by
  simp [il,Nat.blt_eq,aM]
 have hp:AE.pick L [i]=[R]:=by simp [AE.pick,J]
 have:=h.put (L':=[ED]) (N:=[]) [i] hR rfl (by rw[hp];exact t);simpa [iY] using this
theorem cB.new (h:cB B fF gn M L) {R:cr} (t:gx M [] M' [R]):cB B fF gn M' (L++[R]):=by
 have:=h.put (L':=[]) (N:=[R]) [] ae ae (by exact t);simpa [iY] using this
theorem cB.pick (h:cB B fF gn M L) (is:List Nat) (hR:il L.length is=true):cB B fF gn M (AE.pick L is):=
 ⟨h.sp.pick is hR,h.keeps,λb U=>h.fresh b (Au hR U),h.base⟩
theorem cB.low (h:cB B fF gn M L):∀b,fX L b->B<=b:=λb U=>h.base b (h.fresh b U)
theorem cB.start (W:aj) (L:List cr) (h:dg (aS W) L):cB 0 (aS W) L (aS W) L:=⟨h,λ_ _ h _=>h,λ_ h=> .inl h,λ_ _=>Nat.zero_le _⟩
theorem cB.Rw (W:aj):cB W.heap.size (aS W) [] (aS W) []:=
 ⟨dg.nil _,λ_ _ h _=>h,λb h=>absurd h (vF b),λb h=>by
   rcases h with h|h
   ·exact absurd h (vF b)
   ·exact Array.getElem?_eq_none_iff.1 h⟩
theorem cB.ext (h:cB B fF [] M L):∀i o,fF i=some o->M i=some o:=λi o J=>h.keeps i o J (vF i)
theorem cB.kept (h:cB B fF gn M L) {i:Nat} {o:Obj} (J:fF i=some o) (ah:¬fX gn i):M i=some o:=h.keeps i o J ah
theorem cB.done {w':aj} (h:cB B fF gn M L) (hw:∀i o,M i=some o->w'.heap[i]? =some o):gx fF gn (aS w') L:=
 ⟨h.sp.mono λb o _ ax=>hw b o ax,λi o J ah=>hw i o (h.keeps i o J ah),h.fresh⟩
theorem cB.box (h:cB B fF gn M L) (i:Nat) {g:Nat} {ty:az} {cs:List I} (J:L[i]? =some (vD g ty cs)):hn B M (.pointer (some ⟨g,0,none⟩)) ty cs:=⟨g,rfl,h.low g ⟨i,_,J,rfl⟩,h.sp.ok i _ J⟩
theorem cB.arr (h:cB B fF gn M L) (i:Nat) {α:Type} {e:az} {k:Nat} {enc:α->List I} {v:I} {l:List α} (J:L[i]? =some (ni e k enc v l)):di B M e k enc v l:=
 di.Ru (h.sp.ok i _ J) (λj hj=>h.low j ⟨i,_,J,hj⟩) λ_ _ _ ax=>ax
theorem cB.kV (h:cB B fF gn M L) (i:Nat) {α:Type} {e:az} {k:Nat} {enc:α->List I} {v:I} {l:List α} (J:L[i]? =some (vE e k enc v l)):hQ B M e k enc v l:=
 hQ.mono (h.sp.ok i _ J) (λj hj=>h.low j ⟨i,_,J,hj⟩) λ_ _ _ ax=>ax
theorem cB.red (h:cB B fF gn M L) (i:Nat) {α:Type} {k:Nat} {enc:α->List I} {v:I} {l:List α} (J:L[i]? =some (As k enc v l)):bH M k enc v l:=(h.sp.ok i _ J).1
theorem cB.any (h:cB B fF gn M L) (i:Nat) {R:cr} (J:L[i]? =some R):R.ok M:=h.sp.ok i _ J
end
theorem dg.box {M:Mem} {L:List cr} (h:dg M L) (i:Nat) {g:Nat} {ty:az} {cs:List I} (J:L[i]? =some (vD g ty cs)):hn 0 M (.pointer (some ⟨g,0,none⟩)) ty cs:=⟨g,rfl,Nat.zero_le _,h.ok i _ J⟩
theorem dg.arr {M:Mem} {L:List cr} (h:dg M L) (i:Nat) {α:Type} {e:az} {k:Nat} {enc:α->List I} {v:I} {l:List α} (J:L[i]? =some (ni e k enc v l)):di 0 M e k enc v l:=h.ok i _ J
theorem dg.kV {M:Mem} {L:List cr} (h:dg M L) (i:Nat) {α:Type} {e:az} {k:Nat} {enc:α->List I} {v:I} {l:List α} (J:L[i]? =some (vE e k enc v l)):hQ 0 M e k enc v l:=h.ok i _ J
theorem dg.red {M:Mem} {L:List cr} (h:dg M L) (i:Nat) {α:Type} {k:Nat} {enc:α->List I} {v:I} {l:List α} (J:L[i]? =some (As k enc v l)):bH M k enc v l:=(h.ok i _ J).1
theorem dg.one {M:Mem} {R:cr} (h:R.ok M):dg M [R]:=by
 refine⟨λi S J=> ?_,λi j S T ch J hj=> ?_⟩
 ·cases i with
  |zero=>
   have e:=Option.some.inj (show some R=some S from J);rw[<-e];exact h
  |succ i=>simp at J
 ·cases i with
  |zero=>
   cases j with
   |zero=>exact absurd rfl ch
   |succ j=>simp at hj
  |succ i=>simp at J
theorem j' {R:cr} {b:Nat}:fX [R] b↔R.j9 b:=by
 constructor
 ·rintro ⟨i,S,J,U⟩
  cases i with
  |zero=>
   have e:=Option.some.inj (show some R=some S from J);rw[e];exact U
  |succ i=>simp at J
 ·intro h
  exact⟨0,R,rfl,h⟩
section
variable {M M':Mem}
theorem EE {B g:Nat} {ty:az} {cs cs':List I} (hO:hn B M' (.pointer (some ⟨g,0,none⟩)) ty cs') (c4:fN M M' (some g)):gx M [vD g ty cs] M' [vD g ty cs']:=
 ⟨dg.one hO.known.1,λi o J ah=>c4 i o J λe=>ah (j'.2 (Option.some.inj e)),λb U=> .inl (j'.2 (show b=g from j'.1 U))⟩
theorem J7 {B g:Nat} {ty:az} {cs:List I} (hO:hn B M' (.pointer (some ⟨g,0,none⟩)) ty cs) (ah:M g=none) (c4:fN M M' none):gx M [] M' [vD g ty cs]:=
 ⟨dg.one hO.known.1,λi o J _=>c4 i o J λe=>(by cases e),λb U=> .inr (by rw[show b=g from j'.1 U];exact ah)⟩
variable {α:Type} {B:Nat} {e:az} {k:Nat} {enc:α->List I} {v au:I} {l l':List α}
theorem oQ (hO:di B M' e k enc au l'):(ni e k enc au l').ok M':=hO.mono (Nat.zero_le _) λ_ _ _ h=>h
theorem Rx (hO:hQ B M' e k enc au l'):(vE e k enc au l').ok M':=hO.mono (λ_ _=>Nat.zero_le _) λ_ _ _ h=>h
theorem EF (hO:di B M' e k enc au l') (c4:fN M M' (dq v)) (aB:∀i,some i=dq au->some i=dq v\/M i=none):gx M [ni e k enc v l] M' [ni e k enc au l']:=
 ⟨dg.one (oQ hO),λi o J ah=>c4 i o J λe=>ah (j'.2 e),λb U=>by
   rcases aB b (j'.1 U) with h|h
   ·exact .inl (j'.2 h)
   ·exact .inr h⟩
theorem Aw (hO:di B M' e k enc v l') (c4:fN M M' (dq v)):gx M [ni e k enc v l] M' [ni e k enc v l']:=EF hO c4 λ_ h=> .inl h
theorem J8 (hO:hQ B M' e k enc au l') (c4:fN M M' (dq v)) (aB:∀i,some i=dq au->some i=dq v\/M i=none):gx M [vE e k enc v l] M' [vE e k enc au l']:=
 ⟨dg.one (Rx hO),λi o J ah=>c4 i o J λe=>ah (j'.2 e),λb U=>by
   rcases aB b (j'.1 U) with h|h
   ·exact .inl (j'.2 h)
   ·exact .inr h⟩
theorem EG (hO:di B M' e k enc v l) (c4:fN M M' none) (aB:∀i,some i=dq v->M i=none):gx M [] M' [ni e k enc v l]:=
 ⟨dg.one (oQ hO),λi o J _=>c4 i o J λe=>(by cases e),λb U=> .inr (aB b (j'.1 U))⟩
end
theorem Ry {B:Nat} {M:Mem} {w w':aj} {fF:Mem} {gn L nX L':List cr} (h:cB B fF gn M L) (is:List Nat) (hR:il L.length is=true) (hp:AE.pick L is=nX) (hw:∀i o,M i=some o->w.heap[i]? =some o) (dw:B<=w.heap.size) (hs:gx (aS w) nX (aS w') L') (hl:dJ 0 w w'):
  ∃M',gx M nX M' L'/\vB B M M' (fX nX) w w':=by
 subst hp;have U:∀i,i<w.heap.size->¬fX (AE.pick L is) i->w'.heap[i]? =w.heap[i]? :=λi J ah=>by
  have al:aS w i=some (w.heap[i]):=Array.getElem?_eq_getElem J;have bb:=hs.keeps i _ al ah;rw[Array.getElem?_eq_getElem J];exact bb
 have r':∀i,fX (AE.pick L is) i->M i≠none/\B<=i:=λi J=>⟨(h.sp.pick is hR).known i J,h.low i (Au hR J)⟩
 obtain⟨t1,t2⟩:=Rj (B:=B) (M:=M) (S:=fX (AE.pick L is)) (w:=w) (w':=w') hw r' ⟨hl.below.os,hl.below.tape,hl.below.output⟩ hl.size U hl.drawn;have eM:∀b,fX L' b->((M b).isSome=true/\B<=b)\/w.heap.size<=b:=λb lM=>by
  rcases hs.fresh b lM with al|al
  ·obtain⟨bK,b0⟩:=r' b al
   refine .inl ⟨?_,b0⟩;cases aV:M b with
   |none=>exact absurd aV bK
   |some o=>rfl
  ·exact .inr (Array.getElem?_eq_none_iff.1 al)
 refine⟨vC B M w w',⟨hs.sp.mono λb o lM ax=> ?_,t2,λb lM=> ?_⟩,t1⟩
 ·rw[J1 (by
   rcases eM b lM with al|al
   ·exact .inl al.1
   ·exact .inr (.inl al))]
  exact ax
 ·rcases hs.fresh b lM with al|al
  ·exact .inl al
  ·exact .inr (r_ hw (Array.getElem?_eq_none_iff.1 al))
theorem cB.at {B:Nat} {M:Mem} {w:aj} {fF:Mem} {gn L nX:List cr} (h:cB B fF gn M L) (is:List Nat) (hR:il L.length is=true) (hp:AE.pick L is=nX) (hw:∀i o,M i=some o->w.heap[i]? =some o):dg (aS w) nX:=by
 subst hp;exact(h.sp.pick is hR).mono λb o _ ax=>hw b o ax
theorem Rz {Y:Type} {P:aC} {f:FuncId} {args:Array I} {B:Nat} {M:Mem} {w:aj} {fF:Mem} {gn L nX:List cr} {dk:I} {vals2:Y->List I} {r:Y->I} {L':Y->List cr} (h:cB B fF gn M L) (is:List Nat) (hR:il L.length is=true) (hp:AE.pick L is=nX) (hw:∀i o,M i=some o->w.heap[i]? =some o) (dw:B<=w.heap.size)
  (aw:∀M' y,@aK (a' M' (vals2 y)) dk=r y) (l3:Calls P f args w λe w'=>(∃y,e= .returned (r y)/\gx (aS w) nX (aS w') (L' y))/\dJ 0 w w'):
  Calls P f args w λe w'=>∃y M',e= .returned (@aK (a' M' (vals2 y)) dk)/\gx M nX M' (L' y)/\vB B M M' (fX nX) w w':=
 l3.mono λe w' he=>by
  obtain⟨⟨y,rfl,hs⟩,hl⟩:=he;obtain⟨M',h1,ad⟩:=Ry h is hR hp hw dw hs hl;exact⟨y,M',by rw[aw],h1,ad⟩
end AE
namespace AE
theorem J9 {α:Type} {k:Nat} {enc:α->List I} (hk:∀x,(enc x).length=k) {j:Nat} (hj:j<k) {lo:I} {y:α}:∀(l:List α) (i:Nat),i<l.length->(∀x,l[i]? =some x->enc y=(enc x).set j lo)->(l.set i y).flatMap enc=(l.flatMap enc).set (i*k+j) lo
 |[],i,h,_=>by simp at h
 |x::r,0,_,aT=>by
  rw[List.set_cons_zero,List.flatMap_cons,List.flatMap_cons,aT x rfl,List.set_append_left _ _ (by rw[hk];omega),Nat.zero_mul,Nat.zero_add]
 |x::r,i+1,h,aT=>by
  rw[List.set_cons_succ,List.flatMap_cons,List.flatMap_cons,J9 hk hj r i (by simpa using h) (λz bk=>aT z (by simpa using bk)),List.set_append_right _ _ (by rw[hk,Nat.add_mul];omega),hk];congr 2;rw[Nat.add_mul];omega
theorem RA [cX] {α:Type} {P:aC} {N B:Nat} {w0:aj} {Q:Exit->Act->aj->Prop} {M:Mem} {bp vals2:List I} {o:Option bT} {t e:az} {k:Nat} {p x u lo:I} {enc:α->List I} {l l':List α} {i j:Nat} {y:α} {dB e6:bh} {aQ:List cm} {bx:dM}
  (eS:l'=l.set i y) (h:qR o=some (t,p,x)) (bt:aP P (sizeOf t)=some 1) (hk:∀x,(enc x).length=k) (hj:j<k) (aT:∀z,l[i]? =some z->enc y=(enc z).set j lo)
  (cv:gp (dA o) dB aQ=some bx) (dx:hE N dB (hN o) undef=some e6) (hp:aF p=true) (ag:aF x=true) (ln: @aK (a' M bp) p=j8 u (i*k+j)) (ex: @aK (a' M bp) x=lo) (hu:lo.cells= #[lo]) (iL:lo.oneCell'=true)
  (hO:di B M e k enc u l) (J:i<l.length) (hm:∀M',fo (a' M bp) (a' M' vals2) bx)
  (rest:∀M',di B M' e k enc u l'->fN M M' (dq u)->∀aL w,@Here (a' M' vals2) _ N {sl:=e6,ms:=[],A:=gP aQ} B w0 aL w->wpListIn (Fr none) 0 P (jM o) (dz P (jK o) Q) (jL o) aL w)
  (ah:cX.dy<=aQ.length:=by first|exact Nat.zero_le _|exact jX rfl) (ao:ib (dA o).A aQ 0:=by exact fz rfl): @gd (a' M bp) _ P N B w0 Q o:=by
 subst eS;letI:=a' M bp;unfold qR at h;split at h
 ·rename_i op r ops s ks
  refine⟨_,rfl,λa w aq=> ?_⟩;split at h
  ·rename_i cq nh fP ct
   split at h
   ·rename_i hh
    cases h;have fE:=aq;obtain⟨⟨φ,ds,h1,ad,al,bb,_⟩,b5,cE⟩:=aq;unfold wpListIn;rw[lf ad.get hh,aR rfl];have es:a.eval nh=j8 u (i*k+j):=(ar.gW _ hp (fy (hg φ) ad.get nh)).trans ln;have kU:a.eval fP=lo:=(ar.gW _ ag (fy (hg φ) ad.get fP)).trans ex;have hw:∀i o,M i=some o->w.heap[i]? =some o:=fE.kT;rcases hO with ⟨bj,rfl,rfl⟩|⟨g,cap,cur,rfl,hB,dw,aV,hle,s0,ez,tG⟩
    ·simp at J
    ·have av:=hw _ _ aV
     have Ax:i*k+j<cur.size:=by
      rw[ez];have:=Nat.mul_le_mul_right k (show i+1<=cap by omega);rw[Nat.add_mul] at this;omega
     let eA:Array I:=(cur.toList.take (i*k+j)++[lo]++cur.toList.drop (i*k+j+1)).toArray
     have eX:eA=(cur.toList.set (i*k+j) lo).toArray:=by
      show (cur.toList.take (i*k+j)++[lo]++cur.toList.drop (i*k+j+1)).toArray=_;rw[List.set_eq_take_append_cons_drop,aR (by rw[Array.length_toList];exact Ax)];simp
     have qn:(storeCells ⟨g,i*k+j,none⟩ [lo]).run P w= .ok () (w.setRow g eA):=by
      have:=run_storeCells_at P g (i*k+j) e [lo] 0 cur w av (by simp only [List.length_cons,List.length_nil];omega) (λv aw=>by rw[List.mem_singleton.1 aw];exact iL);simpa only [Nat.add_zero,List.length_cons,List.length_nil] using this
     have eo:(execOp a.eval op).run P w= .ok .skip (w.setRow g eA):=by
      unfold execOp;rw[ct];simp only [es,kU];show (do Instr.storeAt t (j8 (.slice (some ⟨g,0,none⟩) l.length cap) (i*k+j)) lo;pure Next.skip:Sem Next).run P w=_;have cd:(Instr.storeAt t (j8 (.slice (some ⟨g,0,none⟩) l.length cap) (i*k+j)) lo).run P w= .ok () (w.setRow g eA):=by
       unfold Instr.storeAt;refine cb (a:=(⟨g,0+(i*k+j),none⟩:Addr)) rfl ?_;unfold storeVar;refine cb bt ?_;rw[aW (by rw[hu];simp),hu,Nat.zero_add];exact qn
      simp only [Sem.run_bind,cd,Result.andThen_ok];rfl
     have hi:∀c',op.op≠.defer c':=λc' h=>by rw[ct] at h;cases h
     refine⟨λ_ _=>trivial,?_⟩;rw[Oper.semAt_eq _ _ _ hi,eo,Oper.uponIn_skip];have e4:dq (.slice (some ⟨g,0,none⟩) l.length cap)=some g:=jN ⟨g,0,none⟩ _ hB;obtain⟨q1,aJ⟩:=lZ (B:=B) (M:=M) (w':=w.setRow g eA) (T:=some g) (ej:=some g) hw (λi J=>by cases J;exact⟨by rw[aV];simp,dw⟩) (λi J=> .inl J) ⟨rfl,rfl,rfl⟩ (bM _) (by simp [World.setRow]) (λj _ hj=>setRow_other w g j eA (λh=>hj (by rw[h])));have tE:di B (fw M (w.setRow g eA) (some g) (some g)) e k enc (.slice (some ⟨g,0,none⟩) l.length cap) (l.set i y):=by
      refine .inr ⟨g,cap,eA,by rw[List.length_set],hB,dw,?_,by rw[List.length_set];exact hle,s0,by rw[eX];simpa using ez,?_⟩
      ·unfold fw
       rw[aR rfl];exact setRow_heap w g cur eA e (0,0) av
      ·rw[eX,List.length_set,J9 hk hj l i J aT,<-tG]
       exact List.take_set ..
     have gw:=Here.turns (vals':=vals2) cv (hm _) q1 ah ao fE;letI:=a' (fw M (w.setRow g eA) (some g) (some g)) vals2;exact rest _ tE (by rw[e4];exact aJ) _ _ (Here.put (d:=op.dst) gw (v:=undef) rfl dx)
   ·cases h
  ·cases h
 ·cases h
theorem RB [cX] {P:aC} {N B:Nat} {w0:aj} {Q:Exit->Act->aj->Prop} {M:Mem} {bp vals2:List I} {o:Option bT} {t ty:az} {g j n:Nat} {p x:I} {us cs cs':List I} {dB e6:bh} {aQ:List cm} {bx:dM}
  (eS:cs'=cs.take j++us++cs.drop (j+n)) (h:qR o=some (t,p,x)) (bt:aP P (sizeOf t)=some n)
  (cv:gp (dA o) dB aQ=some bx) (dx:hE N dB (hN o) undef=some e6) (hp:aF p=true) (ag:aF x=true) (ln: @aK (a' M bp) p= .pointer (some ⟨g,j,none⟩)) (ex: @aK (a' M bp) x= .agg ⟨us⟩) (hu:us.length=n) (iL:∀u∈us,u.oneCell'=true)
  (hO:hn B M (.pointer (some ⟨g,0,none⟩)) ty cs) (hj:j+n<=cs.length) (hm:∀M',fo (a' M bp) (a' M' vals2) bx)
  (rest:∀M',hn B M' (.pointer (some ⟨g,0,none⟩)) ty cs'->fN M M' (some g)->∀aL w,@Here (a' M' vals2) _ N {sl:=e6,ms:=[],A:=gP aQ} B w0 aL w->wpListIn (Fr none) 0 P (jM o) (dz P (jK o) Q) (jL o) aL w)
  (ah:cX.dy<=aQ.length:=by first|exact Nat.zero_le _|exact jX rfl) (ao:ib (dA o).A aQ 0:=by exact fz rfl): @gd (a' M bp) _ P N B w0 Q o:=by
 subst eS;letI:=a' M bp;unfold qR at h;split at h
 ·rename_i op r ops s ks
  refine⟨_,rfl,λa w aq=> ?_⟩;split at h
  ·rename_i cq nh fP ct
   split at h
   ·rename_i hh
    cases h;have fE:=aq;obtain⟨⟨φ,ds,h1,ad,al,bb,_⟩,b5,cE⟩:=aq;unfold wpListIn;rw[lf ad.get hh,aR rfl];have es:a.eval nh= .pointer (some ⟨g,j,none⟩):=(ar.gW _ hp (fy (hg φ) ad.get nh)).trans ln;have kU:a.eval fP= .agg ⟨us⟩:=(ar.gW _ ag (fy (hg φ) ad.get fP)).trans ex;have hw:∀i o,M i=some o->w.heap[i]? =some o:=fE.kT;obtain⟨aV,dw⟩:=hO.known;have av:=hw _ _ aV
    let eA:Array I:=(cs.take j++us++cs.drop (j+n)).toArray
    have qn:(storeCells ⟨g,j,none⟩ us).run P w= .ok () (w.setRow g eA):=by
     have:=run_storeCells_at P g j ty us 0 ⟨cs⟩ w av (by simp only [List.size_toArray];omega) iL;simp only [Nat.add_zero,hu] at this;exact this
    have eo:(execOp a.eval op).run P w= .ok .skip (w.setRow g eA):=by
     unfold execOp;rw[ct];simp only [es,kU];show (do Instr.storeAt t (.pointer (some ⟨g,j,none⟩)) (.agg ⟨us⟩);pure Next.skip:Sem Next).run P w=_;have cd:(Instr.storeAt t (.pointer (some ⟨g,j,none⟩)) (.agg ⟨us⟩)).run P w= .ok () (w.setRow g eA):=by
      unfold Instr.storeAt;refine cb (a:=(⟨g,j,none⟩:Addr)) rfl ?_;unfold storeVar;refine cb bt ?_;rw[aW (by simp [Value.cells,hu])];exact qn
     simp only [Sem.run_bind,cd,Result.andThen_ok];rfl
    have hi:∀c',op.op≠.defer c':=λc' h=>by rw[ct] at h;cases h
    refine⟨λ_ _=>trivial,?_⟩;rw[Oper.semAt_eq _ _ _ hi,eo,Oper.uponIn_skip];obtain⟨q1,aJ⟩:=lZ (B:=B) (M:=M) (w':=w.setRow g eA) (T:=some g) (ej:=some g) hw (λi J=>by cases J;exact⟨by rw[aV];simp,dw⟩) (λi J=> .inl J) ⟨rfl,rfl,rfl⟩ (bM _) (by simp [World.setRow]) (λj _ hj=>setRow_other w g j eA (λh=>hj (by rw[h])));have tE:hn B (fw M (w.setRow g eA) (some g) (some g)) (.pointer (some ⟨g,0,none⟩)) ty (cs.take j++us++cs.drop (j+n)):=by
     refine⟨g,rfl,dw,?_⟩;unfold fw;rw[aR rfl];exact setRow_heap w g ⟨cs⟩ eA ty (0,0) av
    have gw:=Here.turns (vals':=vals2) cv (hm _) q1 ah ao fE;letI:=a' (fw M (w.setRow g eA) (some g) (some g)) vals2;exact rest _ tE aJ _ _ (Here.put (d:=op.dst) gw (v:=undef) rfl dx)
   ·cases h
  ·cases h
 ·cases h
section
variable [aX] {P:aC}
theorem bE.RC {B g o n:Nat} {ty t:az} {cs us:List I} {p r:I} (hO:hn B aX.eb (.pointer (some ⟨g,0,none⟩)) ty cs) (hu:us=(cs.drop o).take n) (hp:aF p=true) (hr:aF r=true) (ha:aP P (isAgg t)=some true) (ah:aP P (sizeOf t)=some n) (hl:us.length=n) (ln:aK p= .pointer (some ⟨g,o,none⟩)) (cN:aK r= .agg ⟨us⟩):bE P (.ld t p,r):=
 bE.ld hp hr ha ah ln hl (λw hw j u hj=>by
  rw[cell_of_row w g _ ⟨cs⟩ ty (0,0) (hw _ _ hO.known.1)];rw[hu,List.getElem?_take] at hj;split at hj
  ·rw[List.getElem?_drop] at hj
   simpa using hj
  ·cases hj) cN
end
theorem hQ.drop {α:Type} {B:Nat} {M:Mem} {e:az} {k:Nat} {enc:α->List I} (hk:∀x,(enc x).length=k) {a:Option Addr} {n c:Nat} {l:List α} (h:hQ B M e k enc (.slice a n c) l) {j:Nat} (hj:j<=n):hQ B M e k enc (.slice (gQ a c j k) (n-j) (c-j)) (l.drop j):=by
 rcases h with ⟨aL,h,rfl⟩|⟨g,off,oR,cur,h,ao,dw,aV,hle,s0,ez,tG⟩
 ·cases h
  obtain rfl:j=0:=by omega
  exact .inl ⟨_,rfl,rfl⟩
 ·cases h
  by_cases Ax:c=j
  ·subst Ax
   have h0:l.drop c=[]:=List.drop_eq_nil_of_le hle;rw[h0];refine .inl ⟨gQ (some ⟨g,off,none⟩) c c k,?_,rfl⟩;rw[show l.length-c=0 by omega,Nat.sub_self]
  ·have RD:gQ (some ⟨g,off,none⟩) c j k=some ⟨g,off+j*k,none⟩:=by
    unfold gQ;rw[aW Ax];simp [Addr.hX]
   refine .inr ⟨g,off+j*k,c-j,cur,by rw[RD,List.length_drop],af,dw,aV,by rw[List.length_drop];omega,af,?_,?_⟩
   ·rw[ez,Nat.sub_mul]
    have:=Nat.mul_le_mul_right k (show j<=c by omega);omega
   ·rw[List.length_drop,Nat.sub_mul,<-List.drop_drop]
    have h1:=congrArg (List.drop (j*k)) tG;rw[List.drop_take] at h1;rw[h1,Ep hk l j]
theorem RE {α:Type} {P:aC} {w:aj} {B:Nat} {M:Mem} {t ty e:az} {i:TypeInfo} {z:I} {k bytes:Nat} (aE:P.underlying t=some (.slice e)) (J:P.info? e=some i) (bk:i.zero=some z) (eL:i.size=k) (gX:i.bytes=bytes) (iE:z.cells.size=k) (fU:0<k)
  {enc:α->List I} (hk:∀x,(enc x).length=k) (iL:∀x,∀u∈enc x,u.oneCell'=true) {v x:I} {l lx:List α} (hO:hQ B M e k enc v l) (ag:oK w k enc x lx) (hw:∀i o,M i=some o->w.heap[i]? =some o) (dw:B<=w.heap.size)
  (fO:l.length+lx.length<=maxLen) (iT:(l.length+lx.length)*bytes<=140737488355328):
  ∃au w' M',(Builtin.append_ #[t,t] ty #[v,x]).run P w= .ok au w'/\hQ B M' e k enc au (l++lx)/\tA B M M' (dq v) w w'/\fN M M' (dq v)/\∀j,some j=dq au->some j=dq v\/M j=none:=by
 have J':∀{a:Option Addr},v= .slice a 0 0->l=[]->∃au w' M',(Builtin.append_ #[t,t] ty #[v,x]).run P w= .ok au w'/\hQ B M' e k enc au (l++lx)/\tA B M M' (dq v) w w'/\fN M M' (dq v)/\∀j,some j=dq au->some j=dq v\/M j=none:=by
  intro a ha hl;subst hl;subst ha;have gM:di B M e k enc (.slice a 0 0) []:= .inl ⟨a,rfl,rfl⟩;obtain⟨au,w',M',q1,aJ,cg,dn⟩:=JO (ty:=ty) aE J bk eL gX iE fU hk iL gM ag hw dw fO iT;refine⟨au,w',M',q1,aJ.queue,cg,dn,λj hj=> ?_⟩;rcases JY aE J bk eL gX iE fU hk iL gM ag hw fO iT q1 j hj with h|h
  ·exact .inl h
  ·exact .inr (r_ hw h)
 rcases hO with ⟨a,rfl,rfl⟩|⟨g,off,cap,cur,rfl,hB,oM,aV,hle,s0,ez,tG⟩
 ·exact J' ae ae
 clear J';obtain⟨bd,c,rfl,tC,iB⟩:=ag;have e4:dq (.slice (some ⟨g,off,none⟩) l.length cap)=some g:=jN ⟨g,off,none⟩ _ hB;have hO:hQ B M e k enc (.slice (some ⟨g,off,none⟩) l.length cap) l:= .inr ⟨g,off,cap,cur,rfl,hB,oM,aV,hle,s0,ez,tG⟩;by_cases hm:lx=[]
 ·subst hm
  refine⟨_,w,M,Ej aE J hle,by rw[List.append_nil];exact hO,⟨λi J=>hO.known i J,rfl,rfl,rfl,bM _,bM _,λ_ _ _=>rfl,λi o h=>⟨hw i o h,.inl (by rw[h];simp)⟩⟩,λi o h _=>h,λj h=> .inl h⟩
 ·cases bd with
  |none=>exact absurd (tC rfl) hm
  |some bj=>
   have hlen:=lY hk lx;have rD:0<lx.length:=List.length_pos_iff.2 hm;have h1:∀u∈lx.flatMap enc,u.oneCell'=true:=λu hu=>by
    obtain⟨y,_,aT⟩:=List.mem_flatMap.1 hu;exact iL y u aT
   have av:=hw _ _ aV;subst eL;subst gX;have r':∀i,some i=some g->M i≠none/\B<=i:=λi J=>by
    cases J;exact⟨by rw[aV];simp,oM⟩
   rw[e4];by_cases vz:l.length+lx.length<=cap
   ·have H_:=Nat.mul_le_mul_right i.size vz
    rw[Nat.add_mul] at H_;have k9:off+l.length*i.size+(lx.flatMap enc).length<=cur.size:=by rw[hlen,ez];omega
    let eA:Array I:=(cur.toList.take (off+l.length*i.size)++lx.flatMap enc++cur.toList.drop (off+l.length*i.size+(lx.flatMap enc).length)).toArray
    have eo:(Builtin.append_ #[t,t] ty #[.slice (some ⟨g,off,none⟩) l.length cap,.slice (some bj) lx.length c]).run P w= .ok (.slice (some ⟨g,off,none⟩) (l.length+lx.length) cap) (w.setRow g eA):=by
     have aB:=run_firstCells_some (P:=P) w i.size lx.length bj lx.length c _ hlen (iB bj rfl);have cd:=run_storeCells_at P g (off+l.length*i.size) e (lx.flatMap enc) 0 cur w av (by simpa using k9) h1;simp only [Nat.add_zero] at cd;simp [Builtin.append_,run_underlying aE,sizeOf,typeInfo,J,Builtin.lenOf,vz,aB,Addr.hX,cd,eA]
    have vk:eA.size=cur.size:=by
     simp only [eA,List.size_toArray,List.length_append,List.length_take,List.length_drop,Array.length_toList];omega
    obtain⟨q1,aJ⟩:=lZ (B:=B) (M:=M) (w':=w.setRow g eA) (T:=some g) (ej:=some g) hw r' (λi J=> .inl J) ⟨rfl,rfl,rfl⟩ (bM _) (by simp [World.setRow]) (λj _ hj=>setRow_other w g j eA (λh=>hj (by rw[h])));refine⟨_,_,_,eo,.inr ⟨g,off,cap,eA,by rw[List.length_append],hB,oM,?_,by rw[List.length_append];exact vz,s0,by rw[vk,ez],?_⟩,q1,aJ,λj hj=> ?_⟩
    ·unfold fw
     rw[aR rfl];exact setRow_heap w g cur eA e (0,0) av
    ·have ky:(cur.toList.drop off).length=cap*i.size:=by
      rw[List.length_drop,Array.length_toList (xs:=cur),ez];omega
     have RF:((cur.toList.drop off).take (l.length*i.size)).length=l.length*i.size:=by
      rw[List.length_take,ky];omega
     have XD:(cur.toList.take (off+l.length*i.size)).length=off+l.length*i.size:=by
      rw[List.length_take,Array.length_toList (xs:=cur),ez];omega
     have e2:eA.toList.drop off=(cur.toList.drop off).take (l.length*i.size)++(lx.flatMap enc++cur.toList.drop (off+l.length*i.size+(lx.flatMap enc).length)):=by
      show ((cur.toList.take (off+l.length*i.size)++lx.flatMap enc++_)).drop off=_;rw[List.append_assoc,List.drop_append_of_le_length af,List.drop_take,show off+l.length*i.size-off=l.length*i.size by omega]
     rw[e2,List.length_append,List.flatMap_append,<-tG,<-List.append_assoc];exact List.take_left' (by rw[List.length_append,RF,hlen,Nat.add_mul])
    ·exact .inl (by rw[jN ⟨g,off,none⟩ _ hB] at hj;exact hj)
   ·have holds:∀j u,(l.flatMap enc)[j]? =some u->w.cell? ((⟨g,off,none⟩:Addr).add j)=some u:=λj u hj=>by
     rw[Addr.hX,cell_of_row w _ _ _ _ _ av];rw[<-tG,List.getElem?_take] at hj;split at hj
     ·rw[List.getElem?_drop] at hj
      simpa using hj
     ·cases hj
    have Em:l.length+lx.length<=9223372036854775807:=by simp only [maxLen] at fO;omega
    have eo:=run_append_grow (P:=P) w t ty e i z aE J bk ⟨g,off,none⟩ l.length cap _ (lY hk l) holds bj lx.length c _ hlen (iB bj rfl) af af (growslice_fits af iT);have hV:=grownCap_ge w (l.length+lx.length) cap e;have vy:=grownCap_le_maxLen w (l.length+lx.length) cap e fO;obtain⟨q1,aJ⟩:=lZ (B:=B) (M:=M) (w:=w) (w':=w.drew.alloc (.cells ((l.flatMap enc).toArray++(lx.flatMap enc).toArray++Builtin.zeroCells z.cells (grownCap w (l.length+lx.length) cap e-(l.length+lx.length))) e)) (T:=some g) (ej:=some w.heap.size) hw r' (λi J=>by cases J;exact .inr (bM _)) ⟨rfl,rfl,rfl⟩ (kx _ _ _ _ eo) (by simp) (λj hj _=>heap_alloc_old w.drew _ hj);refine⟨_,_,_,eo,.inr ⟨w.heap.size,0,grownCap w (l.length+lx.length) cap e,(l.flatMap enc).toArray++(lx.flatMap enc).toArray++Builtin.zeroCells z.cells (grownCap w (l.length+lx.length) cap e-(l.length+lx.length)),by rw[List.length_append],af,dw,?_,by rw[List.length_append];exact hV,vy,?_,?_⟩,q1,aJ,λj hj=> ?_⟩
    ·unfold fw
     rw[aR rfl];exact heap_alloc_new w.drew _
    ·simp only [Array.size_append,List.size_toArray,size_zeroCells,iE,lY hk,<-Nat.add_mul]
     rw[Nat.zero_add];congr 1;omega
    ·simp only [Array.toList_append,List.append_assoc,List.drop_zero]
     rw[List.length_append,List.flatMap_append,<-List.append_assoc];exact List.take_left' (by rw[List.length_append,lY hk,lY hk,Nat.add_mul])
    ·right
     have:j=w.heap.size:=by
      rw[jN _ _ (show 0<grownCap w (l.length+lx.length) cap e by omega)] at hj;exact Option.some.inj hj
     exact r_ hw af
theorem J_ [cX] {α:Type} {P:aC} {N B:Nat} {w0:aj} {Q:Exit->Act->aj->Prop} {M:Mem} {bp:List I} {o:Option bT} {t e:az} {k bytes:Nat} {i:TypeInfo} {z vs jO dk:I} {enc:α->List I} {l lx l':List α} {vals2:Option Addr->Nat->List I} {dB e6:bh} {aQ:List cm} {bx:dM}
  (eS:l'=l++lx) (h:vA t o=some (vs,jO)) (aE:P.underlying t=some (.slice e)) (J:P.info? e=some i) (bk:i.zero=some z) (eL:i.size=k) (gX:i.bytes=bytes) (iE:z.cells.size=k) (fU:0<k) (hk:∀x,(enc x).length=k) (iL:∀x,∀u∈enc x,u.oneCell'=true)
  (cv:gp (dA o) dB aQ=some bx) (dx:hE N dB (hN o) dk=some e6) (fu:aF dk=true) (T:Option Nat)
  (hO:∀φ w v,@bs (a' M bp) φ (dA o).A w-> @ar (a' M bp) φ vs v->hQ B M e k enc v l/\dq v=T)
  (fQ:∀φ w x,@bs (a' M bp) φ (dA o).A w-> @ar (a' M bp) φ jO x->oK w k enc x lx)
  (fO:l.length+lx.length<=maxLen) (iT:(l.length+lx.length)*bytes<=140737488355328)
  (hm:∀M' a c,fo (a' M bp) (a' M' (vals2 a c)) bx) (aw:∀M' a c,@aK (a' M' (vals2 a c)) dk= .slice a l'.length c)
  (rest:∀M' a c,hQ B M' e k enc (.slice a l'.length c) l'->fN M M' T->(∀i,some i=dq (.slice a l'.length c)->some i=T\/M i=none)->∀aL w,@Here (a' M' (vals2 a c)) _ N {sl:=e6,ms:=[],A:=gP aQ} B w0 aL w->wpListIn (Fr none) 0 P (jM o) (dz P (jK o) Q) (jL o) aL w)
  (ah:cX.dy<=aQ.length:=by first|exact Nat.zero_le _|exact jX rfl) (ao:ib (dA o).A aQ 0:=by exact fz rfl): @gd (a' M bp) _ P N B w0 Q o:=by
 subst eS;letI:=a' M bp;unfold vA at h;split at h
 ·rename_i op r ops s ks
  refine⟨_,rfl,λa w aq=> ?_⟩;split at h
  ·rename_i hz ct
   split at h
   ·rename_i mx fP ow eY
    cases EH:decide (hz.argTypes= #[t,t]) with
    |false=>rw[EH] at h;cases h
    |true=>
     rw[EH,a7] at h;have xV:=of_decide_eq_true EH;split at h
     ·rename_i hh
      cases h;have fE:=aq;obtain⟨⟨φ,ds,h1,ad,al,bb,_⟩,b5,cE⟩:=aq;unfold wpListIn;rw[lf ad.get hh,aR rfl];have hw:∀i o,M i=some o->w.heap[i]? =some o:=fE.kT;obtain⟨RG,c9⟩:=hO φ w (a.eval mx) al (fy (hg φ) ad.get mx);have RH:=fQ φ w (a.eval fP) al (fy (hg φ) ad.get fP);obtain⟨au,w',M',g1,g2,b6,g4,ih⟩:=RE (ty:=op.type) aE J bk eL gX iE fU hk iL RG RH hw cE fO iT;obtain⟨xY,xZ,rfl⟩:=g2.slice;rw[c9] at b6 g4 ih;have eo:(execOp a.eval op).run P w= .ok (.value (.slice xY (l++lx).length xZ)) w':=by
       unfold execOp resolve;rw[ct];simp only [ow,eY,xV,List.map_toArray,List.map_cons,List.map_nil];show (do pure (Next.value (<-Builtin.append_ #[t,t] op.type #[a.eval mx,a.eval fP])):Sem Next).run P w=_;simp only [Sem.run_bind,g1,Result.andThen_ok];rfl
      have hi:∀c',op.op≠.defer c':=λc' h=>by rw[ct] at h;cases h
      refine⟨λ_ _=>trivial,?_⟩;rw[Oper.semAt_eq _ _ _ hi,eo,Oper.uponIn_value];have gw:=Here.turns (vals':=vals2 xY xZ) cv (hm M' xY xZ) b6 ah ao fE;letI:=a' M' (vals2 xY xZ);have iX:=Here.put (d:=op.dst) gw (v:=dk) fu dx;rw[aw] at iX;exact rest M' xY xZ g2 g4 ih _ w' iX
     ·cases h
   ·cases h
  ·cases h
 ·cases h
theorem Ka {α:Type} {B:Nat} {M:Mem} {bp:List I} {vs:I} {A:aD} {e:az} {k:Nat} {enc:α->List I} {v:I} {l:List α} (hp:aF vs=true) (a8: @aK (a' M bp) vs=v) (hO:hQ B M e k enc v l):
  ∀φ w x,@bs (a' M bp) φ A w-> @ar (a' M bp) φ vs x->hQ B M e k enc x l/\dq x=dq v:=λφ w x _ ag=>by
 letI:=a' M bp;have e1:=(ar.gW vs hp ag).trans a8;subst e1;exact⟨hO,rfl⟩
end AE
end Go.Proofs.YtmfckpdcljjdjaaDoor
namespace Go.Proofs.YtmfckpdcljjdjaaDoor
open Go Go.Proofs Go.RowKit
namespace AE
theorem Here.Kb [cX] {s1 s2:aX} {N B:Nat} {st:cz} {w0 w:aj} {a:Act} {sl:bh} {l:List cm} {bx:dM} (cv:gp st sl l=some bx) (hm:fo s1 s2 bx) {φ:bn} {ds:List Deferred}
  (h1:lT φ st.ms ds) (ad: @et s1 N ds φ st.sl a) (al: @bs s1 φ st.A w) (bb:∀b e,φ b=some e->B<=e.aU) (fC:oE φ st.A) (b5:dJ B w0 w) (cE:B<=w.heap.size)
  (vq:∀i o,s2.eb i=some o->w.heap[i]? =some o/\∀b e,b<l.length->φ b=some e->e.aU≠i) (ah:cX.dy<=l.length) (ao:ib st.A l 0): @Here s2 _ N {sl,ms:=[],A:=gP l} B w0 a w:=by
 unfold gp at cv;split at cv
 ·rename_i tu
  cases cU:ts l with
  |false=>rw[cU] at cv;cases cv
  |true=>
   rw[cU,a7] at cv;obtain⟨x,y,ag,aT,rfl⟩:=oG cv;rw[tu] at h1;cases h1;have hold:∀b k,(gP l).bl.get b=some k->∃x dV o,l[b]? =some x/\k=x.aU b/\st.A.bl.get b=some dV/\dV.bQ=b/\dV.da=x.da/\dV.ty=x.ty/\dV.ro=false/\tt l.length dV.obj x.obj=some o/\∀p∈o,p∈y:=λb k hk=>by
    obtain⟨x,q1,aJ⟩:=r3 hk;obtain⟨dV,o,cH,dj,eR⟩:=xK l 0 aT b x q1;rw[Nat.zero_add] at cH dj;exact⟨x,dV,o,q1,aJ,cH,dj,eR⟩
   have r6:∀b e,φ b=some e->w.heap[e.aU]? =w.heap[e.aU]? :=λ_ _ _=>rfl
   have eU:∀b,b<l.length->∃k,(gP l).bl.get b=some k:=λb U=>by
    have:=List.all_eq_true.1 cU b (by simpa using U);simp only [b4] at this;obtain⟨_,hm⟩:=this;split at hm
    ·rename_i k hk;exact⟨k,hk⟩
    ·cases hm
   refine⟨⟨jx l.length φ,[],.nil,⟨@et.size s1 _ _ _ _ _ ad,@et.defers s1 _ _ _ _ _ ad,λt v2 Eb=>vo st.sl sl ag hm.left t v2 _ Eb λv1 qP=> @et.get s1 _ _ _ _ _ ad t v1 qP⟩,⟨JG cU,?_,?_,?_,λi o J=> ?_⟩,λb e U=>bb b e (lj U).2,ah,λb U=>by unfold jx;rw[aR (Nat.lt_of_lt_of_le U ah)];exact fC.2 b U⟩,b5,cE⟩
   ·intro b e U
    obtain⟨aM,ft⟩:=lj U;obtain⟨k,hk⟩:=eU b aM;obtain⟨x,dV,o,q1,rfl,cg,dn,fe,iH,nK,eP,td⟩:=hold b k hk;obtain⟨bK,cH,dj,eR⟩:= @bs.c5 s1 _ _ _ al b e ft;rw[cg] at cH;cases cH;refine⟨_,hk,by rw[dj,fe];rfl,?_⟩;unfold dZ at eR ⊢;show match x.obj with| .cells c=>_| .map es cl=>_| .dE x=>_
    cases dQ:dV.obj with
    |cells c=>
     rw[dQ] at eP;simp only [dQ] at eR;cases fW:x.obj with
     |cells c2=>
      rw[fW] at eP;obtain⟨c',gV,g1,g2,b6,g4,ih⟩:=eR;have jE:∀i,i<c.length->((List.range c.length).map λj=>c'.getD (e.bR+j) undef).getD i undef=c'.getD (e.bR+i) undef:=λi J=>by
       rw[de,List.getElem?_map,List.getElem?_range J];rfl
      have:=vn (s1:=s1) (s2:=s2) (φ:=φ) c c2 eP (λp hp=>hm.right p (td p hp)) ((List.range c.length).map λj=>c'.getD (e.bR+j) undef) (by simp) λi J=>by
       rw[jE i J];exact g4 i J
      obtain⟨t1,t2⟩:=this;simp only [List.length_map,List.length_range] at t1;refine⟨c',gV,by rw[r6 b e ft,show (x.aU b).ty=dV.ty from iH.symm];exact g1,g2,by rw[<-t1,show (x.aU b).da=dV.da from fe.symm];exact b6,λj hj=> ?_,λ_=>ih nK⟩;have:=t2 j hj;rw[jE j af] at this;exact this
     |map es cl=>rw[fW] at eP;cases eP
     |dE z=>rw[fW] at eP;cases eP
    |map es cl=>
     rw[dQ] at eP;cases fW:x.obj<;>rw[fW] at eP<;>cases eP
    |dE z=>
     rw[dQ] at eP;simp only [dQ] at eR;obtain⟨tv,o',g1,g2⟩:=eR;cases fW:x.obj with
     |cells c2=>rw[fW] at eP;cases z<;>cases eP
     |map es cl=>rw[fW] at eP;cases z<;>cases eP
     |dE pS=>
      rw[fW] at eP;refine⟨tv,o',(r6 b e ft).trans g1,?_⟩;cases z with
      |loop a=>
       cases pS with
       |loop b=>
        unfold tt at eP;simp only at eP;cases hs:xJ l.length a b with
        |false=>rw[hs] at eP;cases eP
        |true=>
         rw[hs,a7] at eP;unfold xJ at hs;simp only [b4,decide_eq_true_eq,Option.isNone_iff_eq_none] at hs;obtain⟨c1,c2,eN,ga,xL,xM,xN⟩:=hs;have kS:=D_ ao q1 fW;rw[Nat.zero_add] at kS;unfold Ag at kS;rw[cg] at kS;simp only [dQ,bS,Prod.mk.injEq] at kS;obtain⟨r,j6,j4,ik,tm,tn,xy,xA,⟨e',Ec,u8⟩,Ed⟩:=g2;refine⟨r,j6,j4.trans (JI c1),by rw[ik,c2,eN],by rw[tm,bJ ga],by rw[tn,xL],by rw[xy,kS.1],by rw[xA,kS.2],⟨e',?_,u8⟩,λt v aw=> ?_⟩
         ·rw[<-bJ xM]
          exact vm Ec (Nat.blt_eq.mp xN)
         ·exact vo (s1:=s1) a.sl b.sl eP (λp hp=>hm.right p (td p hp)) t v _ aw λv1 qP=>Ed t v1 qP
       |_=>cases eP
      |_=>cases pS<;>first|(cases eP;done)|exact g2
   ·intro b e k b' e' k' U cK hk cc ch
    obtain⟨_,ft⟩:=lj U;obtain⟨_,na⟩:=lj cK;obtain⟨x,dV,o,q1,rfl,cg,dn,_⟩:=hold b k hk;obtain⟨x',xO,o',oh,rfl,mN,xP,_⟩:=hold b' k' cc;exact @bs.apart s1 _ _ _ al b e dV b' e' xO ft na cg mN (by rw[dn,xP];exact ch)
   ·intro b e k b' e' k' U cK hk cc aB _
    obtain⟨_,ft⟩:=lj U;obtain⟨_,na⟩:=lj cK;obtain⟨x,dV,o,q1,rfl,cg,dn,_⟩:=hold b k hk;obtain⟨x',xO,o',oh,rfl,mN,xP,_⟩:=hold b' k' cc;have:b=b':=aB;subst this;rw[ft] at na;cases na;rfl
   ·obtain⟨g1,g2⟩:=vq i o J
    exact⟨g1,λb e U=>g2 b e (lj U).1 (lj U).2⟩
 ·cases cv
def EI {α:Type} (B:Nat) (M:Mem) (e:az) (enc:α->List I) (g:Nat) (l:List α):Prop:=
 B<=g/\∃cur fr,M g=some (.cells cur e fr)/\(∀i,i<cur.size->¬(fr.1<=i/\i<fr.2))/\cur.toList=l.flatMap enc
theorem EI.arr {α:Type} {B:Nat} {M:Mem} {e:az} {k:Nat} {enc:α->List I} {g:Nat} {l:List α} (h:EI B M e enc g l) (hk:∀x,(enc x).length=k):bH M k enc (.slice (some ⟨g,0,none⟩) l.length l.length) l:=by
 obtain⟨_,cur,fr,h1,_,al⟩:=h;refine .mk h1 (bM _) λi x ag j u hu=> ?_
 have:=r9 hk l i x ag j u hu;rw[<-al] at this;simpa using this
theorem Here.freeze [cX] {α:Type} {M:Mem} {bp:List I} {vals2:Nat->List I} {N B:Nat} {st:cz} {w0 w:aj} {a:Act} {sl cW:bh} {l:List cm} {bx:dM} {b t q:Nat} {k:fq} {cs:List I} {enc:α->List I} {xs:List α}
  (aq: @Here (a' M bp) _ N st B w0 a w) (hk:st.A.bl.get b=some k) (dQ:k.obj= .cells cs) (EJ:k.da=0) (kl:k.bQ=b) (cy:k.ro=false) (ez:er cs=true) (vG: @e9 (a' M bp) cs=xs.flatMap enc) (U:l.length<=b)
  (tH:st.sl.get t=some (.pointer (some ⟨b,0,none⟩))) (cv:gp st sl l=some bx) (hm:∀M' g,fo (a' M bp) (a' M' (vals2 g)) bx) (eX:bB.set (bP q) depth sl t=some cW) (aA:∀g,mw (vals2 g) q= .pointer (some ⟨g,0,none⟩))
  (ah:cX.dy<=l.length) (ao:ib st.A l 0):
  ∃g M',EI B M' k.ty enc g xs/\(∀i o,M i=some o->M' i=some o)/\M g=none/\ @Here (a' M' (vals2 g)) _ N {sl:=cW,ms:=[],A:=gP l} B w0 a w:=by
 obtain⟨⟨φ,ds,h1,ad,al,bb,fC⟩,b5,cE⟩:=aq;have aw:= @et.get (a' M bp) _ _ _ _ _ ad t _ tH;generalize hp:a.tmps.getD t undef=RI at aw;cases aw with
 |ptr he=>
  rename_i e;obtain⟨bK,cH,dj,eR⟩:= @bs.c5 (a' M bp) _ _ _ al b e he;rw[hk] at cH;cases cH;unfold dZ at eR;rw[dQ] at eR;obtain⟨c',gV,g1,g2,b6,g4,ih⟩:=eR;obtain⟨g6,g7⟩:=b6.2 EJ;have r5:M e.aU=none:=by
   cases J:M e.aU with
   |none=>rfl
   |some o=>exact absurd rfl ((@bs.eb (a' M bp) _ _ _ al e.aU o J).2 b e he)
  let M':Mem:=λi=>if i=e.aU then some (.cells c' k.ty gV) else M i
  have my:M' e.aU=some (.cells c' k.ty gV):=aR rfl;have pY:∀i o,M i=some o->M' i=some o:=λi o J=>by
   show (if i=e.aU then _ else M i)=some o;rw[aW (λh=>by rw[h,r5] at J;cases J)];exact J
  have iB:c'.toList=xs.flatMap enc:=by
   rw[<-vG];refine @ar.rN (a' M bp) φ cs c'.toList ez (by simp [g7]) λi J=> ?_
   have:=g4 i J;rw[g6,Nat.zero_add] at this;simpa [dD] using this
  have l4:=cv;unfold gp at l4;have EK:∀b' x,l[b']? =some x->∃dV,st.A.bl.get b'=some dV/\dV.bQ=b':=λb' x ag=>by
   split at l4
   ·cases cU:ts l with
    |false=>rw[cU] at l4;cases l4
    |true=>
     rw[cU,a7] at l4;obtain⟨jk,iD,_,aT,_⟩:=oG l4;obtain⟨dV,o,cH,dj,_⟩:=xK l 0 aT b' x ag;rw[Nat.zero_add] at cH dj;exact⟨dV,cH,dj⟩
   ·cases l4
  have av:=Here.Kb (s2:=a' M' (vals2 e.aU)) cv (hm M' e.aU) h1 ad al bb fC b5 cE (λi o J=>by
   by_cases mP:i=e.aU
   ·subst mP
    have:some (Obj.cells c' k.ty gV)=some o:=my.symm.trans J;cases this;refine⟨g1,λb' e' cK lN heq=> ?_⟩;obtain⟨dV,q1,aJ⟩:=EK b' _ (fc cK);exact @bs.apart (a' M bp) _ _ _ al b' e' dV b e k lN he q1 hk (by rw[aJ,kl];omega) heq
   ·have fZ:M i=some o:=by
     have:(if i=e.aU then some (Obj.cells c' k.ty gV) else M i)=some o:=J
     rwa [aW mP] at this
    obtain⟨q1,aJ⟩:= @bs.eb (a' M bp) _ _ _ al i o fZ
    exact⟨q1,λb' e' _ lN=>aJ b' e' lN⟩) ah ao
  refine⟨e.aU,M',⟨bb b e he,c',gV,my,λi J=>ih cy i J,iB⟩,pY,r5,?_⟩;obtain⟨⟨dF,Ay,fl,gb,pL,rQ,va⟩,zP,xg⟩:=av;letI:=a' M' (vals2 e.aU);refine⟨⟨dF,Ay,fl,⟨gb.size,gb.defers,λcq au j3=> ?_⟩,pL,rQ,va⟩,zP,xg⟩;rw[bB.jY _ _ _ _ _ _ eX] at j3;split at j3
  ·rename_i aE
   cases j3;subst aE;rw[hp];have:=ar.sym (φ:=dF) q;have kk:aX.σ q=Value.pointer (some ⟨e.aU,0,none⟩):=aA e.aU;rw[kk] at this;rw[g6,Nat.zero_add];exact this
  ·exact gb.get cq au j3
end AE
end Go.Proofs.YtmfckpdcljjdjaaDoor
namespace Go.Proofs.YtmfckpdcljjdjaaDoor
open Go Go.RowKit
namespace AE
theorem Kc:∀(l:List I) (k:Nat) (cs:Array I),k+l.length<=cs.size->((l.zipIdx k).foldl (λ(cs:Array I) (p:I×Nat)=>cs.setIfInBounds p.2 p.1) cs).toList=cs.toList.take k++l++cs.toList.drop (k+l.length)
 |[],k,cs,h=>by simp
 |u::l,k,cs,h=>by
  simp only [List.zipIdx_cons,List.foldl_cons];simp only [List.length_cons] at h;rw[Kc l (k+1) _ (by simp only [Array.size_setIfInBounds];omega)];have hk:k<cs.toList.length:=by rw[Array.length_toList];omega
  rw[Array.toList_setIfInBounds,List.take_set,List.drop_set,aR af];rw[List.take_add_one,fc hk];rw[List.set_append_right _ _ (by rw[List.length_take];omega)];simp only [List.length_take,Option.toList_some];rw[show k-min k cs.toList.length=0 by omega];simp only [List.set_cons_zero,List.length_cons];rw[show k+1+l.length=k+(l.length+1) by omega];simp
theorem RJ {P:Nat->Option (Nat×Nat)} {v:I} {cs:Array I} {n:Nat} (hp:P 0=some (0,n)) (ah:v.cells.size=n) (ao:cs.size=n):Instr.fill P cs [(0,v)]=some v.cells:=by
 unfold Instr.fill;rw[hp];simp only;rw[aW (by simp only [Nat.zero_add,ah,ao];simp)];unfold Instr.fill;congr 1;apply Array.ext';rw[<-Array.foldl_toList];have:=Kc v.cells.toList 0 cs (by rw[Array.length_toList];omega);simp only [Array.toList_zipIdx,Nat.zero_add];rw[this];simp [ah,ao]
def EL:Option bT->Option (az×I)
 |some (.oper o _ ops s _)=>match o.op with
  | .buildSlice t 1 ⟨[(0,fP)]⟩=>match lR ops o s.sl with
    |some true=>some (t,dh .nil s.sl fP)
    |_=>none
  |_=>none
 |_=>none
theorem RK [cX] {α:Type} {P:aC} {N B:Nat} {w0:aj} {Q:Exit->Act->aj->Prop} {M:Mem} {bp:List I} {o:Option bT} {t e:az} {k:Nat} {z x u dk:I} {enc:α->List I} {y:α} {l':List α} {vals2:Option Addr->Nat->List I} {dB e6:bh} {aQ:List cm} {bx:dM}
  (eS:l'=[y]) (h:EL o=some (t,x)) (aE:P.underlying t=some (.slice e)) (mX:aP P (sizeOf e)=some k) (EM:aP P (zeroValue e)=some z) (fU:0<k) (mS:k<=1000) (hk:∀x,(enc x).length=k)
  (cv:gp (dA o) dB aQ=some bx) (dx:hE N dB (hN o) dk=some e6) (fu:aF dk=true) (ag:aF x=true) (ex: @aK (a' M bp) x=u) (hu:u.cells=⟨enc y⟩)
  (hm:∀M' a c,fo (a' M bp) (a' M' (vals2 a c)) bx) (aw:∀M' a c,@aK (a' M' (vals2 a c)) dk= .slice a l'.length c)
  (rest:∀M' a c,di B M' e k enc (.slice a l'.length c) l'->fN M M' none->(∀i,some i=dq (.slice a l'.length c)->M i=none)->∀aL w,@Here (a' M' (vals2 a c)) _ N {sl:=e6,ms:=[],A:=gP aQ} B w0 aL w->wpListIn (Fr none) 0 P (jM o) (dz P (jK o) Q) (jL o) aL w)
  (ah:cX.dy<=aQ.length:=by first|exact Nat.zero_le _|exact jX rfl) (ao:ib (dA o).A aQ 0:=by exact fz rfl): @gd (a' M bp) _ P N B w0 Q o:=by
 subst eS;letI:=a' M bp;unfold EL at h;split at h
 ·rename_i op r ops s ks
  refine⟨_,rfl,λa w aq=> ?_⟩;split at h
  ·rename_i cq fP ct
   split at h
   ·rename_i hh
    cases h;have fE:=aq;obtain⟨⟨φ,ds,h1,ad,al,bb,_⟩,b5,cE⟩:=aq;unfold wpListIn;rw[lf ad.get hh,aR rfl];have kU:a.eval fP=u:=(ar.gW _ ag (fy (hg φ) ad.get fP)).trans ex;have hw:∀i o,M i=some o->w.heap[i]? =some o:=fE.kT
    let w':aj:={w with heap:=w.heap.push (.cells ⟨enc y⟩ e)}
    have Az:u.cells.size=k:=by rw[hu];simpa using hk y
    have eo:(execOp a.eval op).run P w= .ok (.value (.slice (some ⟨w.heap.size,0,none⟩) 1 1)) w':=by
     unfold execOp;rw[ct];simp only [List.map_toArray,List.map_cons,List.map_nil,kU];show (do pure (Next.value (<-Instr.buildSlice t 1 #[(0,u)])):Sem Next).run P w=_;have U:(Instr.buildSlice t 1 #[(0,u)]).run P w= .ok (.slice (some ⟨w.heap.size,0,none⟩) 1 1) w':=by
      unfold Instr.buildSlice;refine ck (run_underlying aE w) ?_;simp only;refine cb mX ?_;rw[Nat.one_mul];rw[aW af];rw[aW af];refine cb EM ?_;refine cb (a:=z.cells) rfl ?_;have aB:=RJ (P:=λi=>some (i*k,k)) (v:=u) (cs:=(Array.range k).map (z.cells[· %z.cells.size]!)) (n:=k) (by simp) Az (by simp);simp only [aB];simp [newRow,newObj,Sem.run,w',hu]
     simp only [Sem.run_bind,U,Result.andThen_ok];rfl
    have hi:∀c',op.op≠.defer c':=λc' h=>by rw[ct] at h;cases h
    refine⟨λ_ _=>trivial,?_⟩;rw[Oper.semAt_eq _ _ _ hi,eo,Oper.uponIn_value];obtain⟨q1,aJ⟩:=lZ (B:=B) (M:=M) (w:=w) (w':=w') (T:=none) (ej:=some w.heap.size) hw (λi h=>by cases h) (λi J=> .inr (by cases J;exact bM _)) ⟨rfl,rfl,rfl⟩ (bM _) (by simp [w']) (λi J _=>by
     show (w.heap.push _)[i]? =_
     rw[Array.getElem?_push,aW af])
    have hO:di B (fw M w' none (some w.heap.size)) e k enc (.slice (some ⟨w.heap.size,0,none⟩) [y].length 1) [y]:=by
     refine .inr ⟨w.heap.size,1,⟨enc y⟩,rfl,Nat.one_pos,cE,?_,bM _,by simp [maxLen],by simpa using hk y,by simp only [List.length_cons,List.length_nil,Nat.zero_add,Nat.one_mul,List.flatMap_cons,List.flatMap_nil,List.append_nil];exact List.take_of_length_le (by rw[hk];exact bM _)⟩;unfold fw;rw[aR rfl];show (w.heap.push _)[w.heap.size]? =_;rw[Array.getElem?_push,aR rfl]
    have gw:=Here.turns (vals':=vals2 (some ⟨w.heap.size,0,none⟩) 1) cv (hm _ _ _) q1 ah ao fE;letI:=a' (fw M w' none (some w.heap.size)) (vals2 (some ⟨w.heap.size,0,none⟩) 1);have iX:=Here.put (d:=op.dst) gw (v:=dk) fu dx;rw[aw] at iX;exact rest _ _ _ hO aJ (λj hj=>by
     rw[jN _ _ Nat.one_pos] at hj;cases hj
     exact r_ hw (bM _)) _ w' iX
   ·cases h
  ·cases h
 ·cases h
def EN:Option bT->Option (az×I)
 |some (.oper o _ ops s _)=>match o.op with
  | .makeSlice t vH x0=>match lR ops o s.sl with
    |some true=>bif dW (dh .nil s.sl vH) (dh .nil s.sl x0) then some (t,dh .nil s.sl vH) else none
    |_=>none
  |_=>none
 |_=>none
theorem RL {α:Type} {k:Nat} {enc:α->List I} (hk:∀x,(enc x).length=k) {z:I} {nj:α} (bk:z.cells.toList=enc nj) (n:Nat):(madeCells z.cells (n*k)).toList=(List.replicate n nj).flatMap enc:=by
 have hs:z.cells.size=k:=by rw[<-Array.length_toList,bk,hk]
 apply List.ext_getElem?;intro j;unfold madeCells;rcases Nat.lt_or_ge j (n*k) with hj|hj
 ·have k0:0<k:=by
   rcases Nat.eq_zero_or_pos k with h|h
   ·subst h
    simp at hj
   ·exact h
  have J:j/k<(List.replicate n nj).length:=by rw[rv];exact Nat.div_lt_of_lt_mul (by rwa [Nat.mul_comm] at hj)
  have hr:j%k<k:=Nat.mod_lt _ k0;have ad:=r9 hk (List.replicate n nj) (j/k) nj (by rw[fc J];simp) (j%k) ((enc nj)[j%k]'(by rw[hk];exact hr)) (fc _);rw[Nat.div_add_mod'] at ad;rw[ad,Array.getElem?_toList,Array.getElem?_map,hs,Array.getElem?_eq_getElem (by simpa using hj)];simp only [Array.getElem_range,Option.map_some];have zT:j%k<z.cells.size:=by omega
  rw[getElem!_pos z.cells _ zT];have:z.cells.toList[j%k]? =(enc nj)[j%k]? :=by rw[bk]
  rw[Array.getElem?_toList,Array.getElem?_eq_getElem zT,fc (by rw[hk];exact hr)] at this;exact this
 ·rw[Array.getElem?_toList,Array.getElem?_map,Array.getElem?_eq_none (by simpa using hj),List.getElem?_eq_none (by rw[lY hk,rv];exact hj)]
  rfl
theorem RM [cX] {α:Type} {P:aC} {N B:Nat} {w0:aj} {Q:Exit->Act->aj->Prop} {M:Mem} {bp:List I} {o:Option bT} {t e:az} {k n bytes:Nat} {i:TypeInfo} {z x dk:I} {enc:α->List I} {nj:α} {l':List α} {vals2:Option Addr->Nat->List I} {dB e6:bh} {aQ:List cm} {bx:dM}
  (eS:l'=List.replicate n nj) (h:EN o=some (t,x)) (aE:P.underlying t=some (.slice e)) (J:P.info? e=some i) (bk:i.zero=some z) (eL:i.size=k) (gX:i.bytes=bytes) (k8:z.cells.toList=enc nj) (hk:∀x,(enc x).length=k)
  (cv:gp (dA o) dB aQ=some bx) (dx:hE N dB (hN o) dk=some e6) (fu:aF dk=true) (ag:aF x=true) (ex: @aK (a' M bp) x= .int .i64 (n:Nat)) (XE:n<=1000000) (iT:n*bytes<=140737488355328) (iB:n*k<=16777216)
  (hm:∀M' a c,fo (a' M bp) (a' M' (vals2 a c)) bx) (aw:∀M' a c,@aK (a' M' (vals2 a c)) dk= .slice a l'.length c)
  (rest:∀M' a c,di B M' e k enc (.slice a l'.length c) l'->fN M M' none->(∀i,some i=dq (.slice a l'.length c)->M i=none)->∀aL w,@Here (a' M' (vals2 a c)) _ N {sl:=e6,ms:=[],A:=gP aQ} B w0 aL w->wpListIn (Fr none) 0 P (jM o) (dz P (jK o) Q) (jL o) aL w)
  (ah:cX.dy<=aQ.length:=by first|exact Nat.zero_le _|exact jX rfl) (ao:ib (dA o).A aQ 0:=by exact fz rfl): @gd (a' M bp) _ P N B w0 Q o:=by
 subst eS;letI:=a' M bp;unfold EN at h;split at h
 ·rename_i op r ops s ks
  refine⟨_,rfl,λa w aq=> ?_⟩;split at h
  ·rename_i cq vH x0 ct
   split at h
   ·rename_i hh
    cases heq:dW (dh .nil s.sl vH) (dh .nil s.sl x0) with
    |false=>rw[heq] at h;cases h
    |true=>
     rw[heq,a7] at h;have pV:=eV _ _ heq;cases h;have fE:=aq;obtain⟨⟨φ,ds,h1,ad,al,bb,_⟩,b5,cE⟩:=aq;unfold wpListIn;rw[lf ad.get hh,aR rfl];have kU:a.eval vH= .int .i64 (n:Nat):=(ar.gW _ ag (fy (hg φ) ad.get vH)).trans ex;have RN:a.eval x0= .int .i64 (n:Nat):=(ar.gW _ (by rw[<-pV];exact ag) (fy (hg φ) ad.get x0)).trans (by rw[<-pV];exact ex);have hw:∀i o,M i=some o->w.heap[i]? =some o:=fE.kT;subst gX;obtain⟨w',g1,g2,b6⟩:=run_makeSlice_full (P:=P) w B t e i z k aE J bk eL .i64 .i64 n iB (by rw[Nat.mul_comm];omega) (by simp [maxLen];omega) cE;have eo:(execOp a.eval op).run P w= .ok (.value (.slice (some ⟨w.heap.size,0,none⟩) n n)) w':=by
      unfold execOp;rw[ct];simp only [kU,RN];show (do pure (Next.value (<-Instr.makeSlice t (.int .i64 (n:Nat)) (.int .i64 (n:Nat)))):Sem Next).run P w=_;simp only [Sem.run_bind,g1,Result.andThen_ok];rfl
     have hi:∀c',op.op≠.defer c':=λc' h=>by rw[ct] at h;cases h
     refine⟨λ_ _=>trivial,?_⟩;rw[Oper.semAt_eq _ _ _ hi,eo,Oper.uponIn_value];rw[RL hk k8] at g2;obtain⟨q1,aJ⟩:=lZ (B:=B) (M:=M) (w:=w) (w':=w') (T:=none) (ej:=some w.heap.size) hw (λi h=>by cases h) (λi J=> .inr (by cases J;exact bM _)) ⟨b6.os,b6.tape,b6.output⟩ (kx _ _ _ _ g1) b6.size (λi J ch=>b6.block i J ch);have hlen:(List.replicate n nj).length=n:=rv;have hO:di B (fw M w' none (some w.heap.size)) e k enc (.slice (some ⟨w.heap.size,0,none⟩) (List.replicate n nj).length n) (List.replicate n nj):=by
      refine(di.JN (w:=w') (by rw[hlen];exact g2)).mono (bM _) λj hj o ax=> ?_
      have e1:=tz hj;unfold fw;rw[aR (by rw[e1];rfl)];exact ax
     have gw:=Here.turns (vals':=vals2 (some ⟨w.heap.size,0,none⟩) n) cv (hm _ _ _) q1 ah ao fE;letI:=a' (fw M w' none (some w.heap.size)) (vals2 (some ⟨w.heap.size,0,none⟩) n);have iX:=Here.put (d:=op.dst) gw (v:=dk) fu dx;rw[aw,hlen] at iX;refine rest _ _ _ hO aJ (λj hj=> ?_) _ w' iX;have e1:=tz hj;cases e1;exact r_ hw (bM _)
   ·cases h
  ·cases h
 ·cases h
def AA (o:Option bT) (b t:Nat):Option (List I×Nat×Nat):=
 match o with
 |some (.oper _ _ _ s _)=>match s.A.bl.get b with
  |some k=>match k.obj with
   | .cells cs=>bif Nat.beq k.da 0&&(Nat.beq k.bQ b&& !k.ro) then match s.sl.get t with
     |some (.slice (some ⟨b',0,none⟩) n c)=>bif Nat.beq b' b then some (cs,n,c) else none
     |_=>none
     else none
   |_=>none
  |none=>none
 |_=>none
def Kd (st:cz):Option bT->Option bT
 |some (.oper op r ops _ ks)=>some (.oper op r ops st ks)
 |o=>o
theorem Here.Ke [cX] {α:Type} {M:Mem} {bp:List I} {vals2:Nat->List I} {N B:Nat} {st:cz} {w0 w:aj} {a:Act} {sl cW:bh} {l:List cm} {bx:dM} {b t q n c dV:Nat} {k:fq} {cs:List I} {enc:α->List I} {xs:List α}
  (rT:∀x,(enc x).length=dV) (EO:xs.length=n) (fL:0<n) (tB:n<=c) (aq: @Here (a' M bp) _ N st B w0 a w) (hk:st.A.bl.get b=some k) (dQ:k.obj= .cells cs) (EJ:k.da=0) (kl:k.bQ=b) (ez:er cs=true) (vG: @e9 (a' M bp) cs=xs.flatMap enc) (U:l.length<=b)
  (tH:st.sl.get t=some (.slice (some ⟨b,0,none⟩) n c)) (cv:gp st sl l=some bx) (hm:∀M' g,fo (a' M bp) (a' M' (vals2 g)) bx) (eX:bB.set (bP q) depth sl t=some cW) (aA:∀g,mw (vals2 g) q= .slice (some ⟨g,0,none⟩) n c)
  (ah:cX.dy<=l.length) (ao:ib st.A l 0):
  ∃g M',bH M' dV enc (.slice (some ⟨g,0,none⟩) n c) xs/\B<=g/\M' g≠none/\fN M M' none/\M g=none/\ @Here (a' M' (vals2 g)) _ N {sl:=cW,ms:=[],A:=gP l} B w0 a w:=by
 obtain⟨⟨φ,ds,h1,ad,al,bb,fC⟩,b5,cE⟩:=aq;have aw:= @et.get (a' M bp) _ _ _ _ _ ad t _ tH;generalize hp:a.tmps.getD t undef=RI at aw;cases aw with
 |gi _ _=>omega
 |fT _ _ _ he hs _ _=>
  obtain⟨bK,cH,dj,eR⟩:= @bs.c5 (a' M bp) _ _ _ al b _ he;rw[hk] at cH;cases cH;omega
 |fS _ _ he=>
  rename_i e;obtain⟨bK,cH,dj,eR⟩:= @bs.c5 (a' M bp) _ _ _ al b e he;rw[hk] at cH;cases cH;unfold dZ at eR;rw[dQ] at eR;obtain⟨c',gV,g1,g2,b6,g4,ih⟩:=eR;obtain⟨g6,g7⟩:=b6.2 EJ;have r5:M e.aU=none:=by
   cases J:M e.aU with
   |none=>rfl
   |some o=>exact absurd rfl ((@bs.eb (a' M bp) _ _ _ al e.aU o J).2 b e he)
  let M':Mem:=λi=>if i=e.aU then some (.cells c' k.ty gV) else M i
  have my:M' e.aU=some (.cells c' k.ty gV):=aR rfl;have pY:∀i o,M i=some o->M' i=some o:=λi o J=>by
   show (if i=e.aU then _ else M i)=some o;rw[aW (λh=>by rw[h,r5] at J;cases J)];exact J
  have iB:c'.toList=xs.flatMap enc:=by
   rw[<-vG];refine @ar.rN (a' M bp) φ cs c'.toList ez (by simp [g7]) λi J=> ?_
   have:=g4 i J;rw[g6,Nat.zero_add] at this;simpa [dD] using this
  have l4:=cv;unfold gp at l4;have EK:∀b' x,l[b']? =some x->∃dV,st.A.bl.get b'=some dV/\dV.bQ=b':=λb' x ag=>by
   split at l4
   ·cases cU:ts l with
    |false=>rw[cU] at l4;cases l4
    |true=>
     rw[cU,a7] at l4;obtain⟨jk,iD,_,aT,_⟩:=oG l4;obtain⟨dV,o,cH,dj,_⟩:=xK l 0 aT b' x ag;rw[Nat.zero_add] at cH dj;exact⟨dV,cH,dj⟩
   ·cases l4
  have av:=Here.Kb (s2:=a' M' (vals2 e.aU)) cv (hm M' e.aU) h1 ad al bb fC b5 cE (λi o J=>by
   by_cases mP:i=e.aU
   ·subst mP
    have:some (Obj.cells c' k.ty gV)=some o:=my.symm.trans J;cases this;refine⟨g1,λb' e' cK lN heq=> ?_⟩;obtain⟨dV,q1,aJ⟩:=EK b' _ (fc cK);exact @bs.apart (a' M bp) _ _ _ al b' e' dV b e k lN he q1 hk (by rw[aJ,kl];omega) heq
   ·have fZ:M i=some o:=by
     have:(if i=e.aU then some (Obj.cells c' k.ty gV) else M i)=some o:=J
     rwa [aW mP] at this
    obtain⟨q1,aJ⟩:= @bs.eb (a' M bp) _ _ _ al i o fZ
    exact⟨q1,λb' e' _ lN=>aJ b' e' lN⟩) ah ao
  have hf:bH M' dV enc (.slice (some ⟨e.aU,0,none⟩) n c) xs:=by
   subst EO;refine .mk my tB λi x ag j u hu=> ?_
   have:=r9 rT xs i x ag j u hu;rw[<-iB] at this;rw[Nat.zero_add];simpa using this
  refine⟨e.aU,M',hf,bb b e he,(by rw[my];simp),λi o J _=>pY i o J,r5,?_⟩;obtain⟨⟨dF,Ay,fl,gb,pL,rQ,va⟩,zP,xg⟩:=av;letI:=a' M' (vals2 e.aU);refine⟨⟨dF,Ay,fl,⟨gb.size,gb.defers,λcq au j3=> ?_⟩,pL,rQ,va⟩,zP,xg⟩;rw[bB.jY _ _ _ _ _ _ eX] at j3;split at j3
  ·rename_i aE
   cases j3;subst aE;rw[hp];have:=ar.sym (φ:=dF) q;have kk:aX.σ q=Value.slice (some ⟨e.aU,0,none⟩) n c:=aA e.aU;rw[kk] at this;rw[g6,Nat.zero_add];exact this
  ·exact gb.get cq au j3
theorem RO [cX] {α:Type} {P:aC} {N B:Nat} {w0:aj} {Q:Exit->Act->aj->Prop} {M:Mem} {bp:List I} {vals2:Nat->List I} {o:Option bT} {sl cW:bh} {l:List cm} {bx:dM} {b t q n c dV:Nat} {cs:List I} {enc:α->List I} {xs:List α}
  (h:AA o b t=some (cs,n,c)) (rT:∀x,(enc x).length=dV) (EO:xs.length=n) (fL:0<n) (tB:n<=c) (ez:er cs=true) (vG: @e9 (a' M bp) cs=xs.flatMap enc) (U:l.length<=b)
  (cv:gp (dA o) sl l=some bx) (hm:∀M' g,fo (a' M bp) (a' M' (vals2 g)) bx) (eX:bB.set (bP q) depth sl t=some cW) (aA:∀g,mw (vals2 g) q= .slice (some ⟨g,0,none⟩) n c)
  (rest:∀M' g,bH M' dV enc (.slice (some ⟨g,0,none⟩) n c) xs->B<=g->M' g≠none->fN M M' none->M g=none-> @gd (a' M' (vals2 g)) _ P N B w0 Q (Kd {sl:=cW,ms:=[],A:=gP l} o))
  (ah:cX.dy<=l.length:=by first|exact Nat.zero_le _|exact jX rfl) (ao:ib (dA o).A l 0:=by exact fz rfl): @gd (a' M bp) _ P N B w0 Q o:=by
 unfold AA at h;split at h
 ·rename_i op r ops s ks
  split at h
  ·rename_i k hk
   split at h
   ·rename_i cs' dQ
    cases lK:(Nat.beq k.da 0&&(Nat.beq k.bQ b&& !k.ro)) with
    |false=>rw[lK] at h;cases h
    |true=>
     rw[lK,a7] at h;simp only [b4] at lK;split at h
     ·rename_i b' dS c' tH
      cases lM:Nat.beq b' b with
      |false=>rw[lM] at h;cases h
      |true=>
       rw[lM,a7] at h;cases h;have EP:=bJ lM;subst EP;refine⟨_,rfl,λa w aq=> ?_⟩;obtain⟨g,M',q1,aJ,cg,dn,fe,iH⟩:=Here.Ke rT EO fL tB aq hk dQ (bJ lK.1) (bJ lK.2.1) ez vG U tH cv hm eX aA ah ao;obtain⟨XF,e',ok⟩:=rest M' g q1 aJ cg dn fe;unfold Kd at e';cases e';exact ok a w iH
     ·cases h
   ·cases h
  ·cases h
 ·cases h
theorem Kf {α:Type} {M M':Mem} {g k n c:Nat} {enc:α->List I} {xs:List α} (hf:bH M' k enc (.slice (some ⟨g,0,none⟩) n c) xs) (h1:M' g≠none) (c4:fN M M' none) (ah:M g=none):gx M [] M' [As k enc (.slice (some ⟨g,0,none⟩) n c) xs]:=
 ⟨dg.one ⟨hf,λb U=>by cases U;exact h1⟩,λi o J _=>c4 i o J λe=>(by cases e),λb U=>by
   have ad:some b=(Value.slice (some ⟨g,0,none⟩) n c).ownBlock:=j'.1 U;cases ad
   exact .inr ah⟩
theorem hn.mk' {B g:Nat} {M:Mem} {ty:az} {cs:List I} (h1:B<=g) (ad:M g=some (.cells ⟨cs⟩ ty (0,0))):hn B M (.pointer (some ⟨g,0,none⟩)) ty cs:=⟨g,rfl,h1,ad⟩
section
variable [aX] {P:aC}
theorem bE.quo {t:az} {x y r:I} {a b:Int} (h0:0<=a/\a<=9223372036854775807) (h1:1<=b) (ag:aF x=true) (aT:aF y=true) (hr:aF r=true) (ex:aK x= .int .i64 a) (gH:aK y= .int .i64 b) (cN:aK r= .int .i64 (a/b)):bE P (.bin .quo t x y,r):=
 oI ag aT hr ex gH λc6 c7 w=>by
  rw[cN];have e1:=IntWalk.i64_quo a b ⟨h0.1,h0.2,h1⟩;have e2:¬b=0:=by omega
  unfold eO;simp [eqGuard,binOp,Op.intDiv,e2,e1]
theorem bE.rem {t:az} {x y r:I} {a b:Int} (h0:0<=a/\a<=9223372036854775807) (h1:1<=b) (ag:aF x=true) (aT:aF y=true) (hr:aF r=true) (ex:aK x= .int .i64 a) (gH:aK y= .int .i64 b) (cN:aK r= .int .i64 (a%b)):bE P (.bin .rem t x y,r):=
 oI ag aT hr ex gH λc6 c7 w=>by
  rw[cN];have e1:=IntWalk.rem_in a b h0.1;have e2:¬b=0:=by omega
  unfold eO;simp [eqGuard,binOp,Op.intDiv,e2,e1]
end
theorem hn.up {W:aj} {M:Mem} {g:Nat} {ty:az} {cs:List I} (h:hn 0 (aS W) (.pointer (some ⟨g,0,none⟩)) ty cs) (hm:∀i o,aS W i=some o->M i=some o):hn 0 M (.pointer (some ⟨g,0,none⟩)) ty cs:=hn.mk' (Nat.zero_le _) (hm _ _ h.known.1)
theorem Kg:∀u∈([]:List I),u.oneCell'=true:=λu h=>by cases h
theorem Kh {u:I} {l:List I} (h:u.oneCell'=true) (t:∀x∈l,x.oneCell'=true):∀x∈u::l,x.oneCell'=true:=λx ag=>by
 rcases List.mem_cons.1 ag with rfl|ag
 ·exact h
 ·exact t x ag
theorem getD_some {α:Type} {l:List α} {i:Nat} {z d:α} (h:l[i]? =some z):l.getD i d=z:=by
 rw[de,h];rfl
theorem dJ.zero {B:Nat} {w w':aj} (h:dJ B w w'):dJ 0 w w':=h.mono (Nat.zero_le _)
end AE
end Go.Proofs.YtmfckpdcljjdjaaDoor
namespace Go.Proofs.YtmfckpdcljjdjaaDoor
open Go Go.Proofs Go.RowKit
namespace AE
def cpyOf (t t2:az):Option bT->Option (I×I)
 |some (.oper o _ ops s _)=>match o.op with
  | .call c=>match c.callee,c.args with
    | .builtin .copy,⟨[mx,fP]⟩=>bif decide (c.argTypes= #[t,t2]) then match lR ops o s.sl with
      |some true=>some (dh .nil s.sl mx,dh .nil s.sl fP)
      |_=>none
      else none
    |_,_=>none
  |_=>none
 |_=>none
theorem RP [cX] {P:aC} {N B:Nat} {w0:aj} {Q:Exit->Act->aj->Prop} {M:Mem} {bp vals2:List I} {o:Option bT} {t t2 e ty:az} {g j m n rH:Nat} {vs jO:I} {us cs cs':List I} {dB e6:bh} {aQ:List cm} {bx:dM}
  (eS:cs'=cs.take j++us++cs.drop (j+n)) (h:cpyOf t t2 o=some (vs,jO)) (aE:P.underlying t=some (.slice e)) (hs:(P.info? e).map (·.size)=some 1)
  (cv:gp (dA o) dB aQ=some bx) (dx:hE N dB (hN o) (.int .i64 n)=some e6) (hp:aF vs=true) (ln: @aK (a' M bp) vs= .slice (some ⟨g,j,none⟩) m rH)
  (fQ:∀φ w x,@bs (a' M bp) φ (dA o).A w-> @ar (a' M bp) φ jO x->oK w 1 (λu:I=>[u]) x us) (hu:us.length=n) (fL:0<n) (zS:n<=m) (iL:∀u∈us,u.oneCell'=true)
  (hO:hn B M (.pointer (some ⟨g,0,none⟩)) ty cs) (hj:j+n<=cs.length) (hm:∀M',fo (a' M bp) (a' M' vals2) bx)
  (rest:∀M',hn B M' (.pointer (some ⟨g,0,none⟩)) ty cs'->fN M M' (some g)->∀aL w,@Here (a' M' vals2) _ N {sl:=e6,ms:=[],A:=gP aQ} B w0 aL w->wpListIn (Fr none) 0 P (jM o) (dz P (jK o) Q) (jL o) aL w)
  (ah:cX.dy<=aQ.length:=by first|exact Nat.zero_le _|exact jX rfl) (ao:ib (dA o).A aQ 0:=by exact fz rfl): @gd (a' M bp) _ P N B w0 Q o:=by
 subst eS;subst hu;letI:=a' M bp;unfold cpyOf at h;split at h
 ·rename_i op r ops s ks
  refine⟨_,rfl,λa w aq=> ?_⟩;split at h
  ·rename_i c ct
   split at h
   ·rename_i mx fP ow eY
    cases hty:decide (c.argTypes= #[t,t2]) with
    |false=>rw[hty] at h;cases h
    |true=>
     rw[hty,a7] at h;have xV:c.argTypes= #[t,t2]:=of_decide_eq_true hty;split at h
     ·rename_i hh
      cases h;have fE:=aq;obtain⟨⟨φ,ds,h1,ad,al,bb,_⟩,b5,cE⟩:=aq;unfold wpListIn;rw[lf ad.get hh,aR rfl];have es:a.eval mx= .slice (some ⟨g,j,none⟩) m rH:=(ar.gW _ hp (fy (hg φ) ad.get mx)).trans ln;obtain⟨bd,c2,ex,tC,iB⟩:=fQ φ w _ al (fy (hg φ) ad.get fP);have hw:∀i o,M i=some o->w.heap[i]? =some o:=fE.kT;obtain⟨aV,dw⟩:=hO.known;have av:=hw _ _ aV;cases bd with
      |none=>
       rw[tC rfl] at fL;exact absurd fL (Nat.lt_irrefl _)
      |some bj=>
       have RQ:us.flatMap (λu:I=>[u])=us:=by simp
       let eA:Array I:=(cs.take j++us++cs.drop (j+us.length)).toArray
       have RR:=run_copy_row (P:=P) w t t2 op.type e g j m rH bj us.length c2 ⟨cs⟩ ty us aE hs av (Nat.min_eq_left af).symm (λi v J=>iB bj rfl i v (by rw[RQ];exact J)) (by simp only [List.size_toArray];omega) iL;have eo:(execOp a.eval op).run P w= .ok (.value (.int .i64 us.length)) (w.setRow g eA):=by
        unfold execOp resolve;rw[ct];simp only [ow,eY,xV,List.map_toArray,List.map_cons,List.map_nil];show (do pure (Next.value (<-Builtin.copy_ #[t,t2] op.type #[a.eval mx,a.eval fP])):Sem Next).run P w=_;rw[es,ex];simp only [Sem.run_bind,RR,Result.andThen_ok];rfl
       have hi:∀c',op.op≠.defer c':=λc' h=>by rw[ct] at h;cases h
       refine⟨λ_ _=>trivial,?_⟩;rw[Oper.semAt_eq _ _ _ hi,eo,Oper.uponIn_value];obtain⟨q1,aJ⟩:=lZ (B:=B) (M:=M) (w':=w.setRow g eA) (T:=some g) (ej:=some g) hw (λi J=>by cases J;exact⟨by rw[aV];simp,dw⟩) (λi J=> .inl J) ⟨rfl,rfl,rfl⟩ (bM _) (by simp [World.setRow]) (λj _ hj=>setRow_other w g j eA (λh=>hj (by rw[h])));have tE:hn B (fw M (w.setRow g eA) (some g) (some g)) (.pointer (some ⟨g,0,none⟩)) ty (cs.take j++us++cs.drop (j+us.length)):=by
        refine⟨g,rfl,dw,?_⟩;unfold fw;rw[aR rfl];exact setRow_heap w g ⟨cs⟩ eA ty (0,0) av
       have gw:=Here.turns (vals':=vals2) cv (hm _) q1 ah ao fE;letI:=a' (fw M (w.setRow g eA) (some g) (some g)) vals2;exact rest _ tE aJ _ _ (Here.put (d:=op.dst) gw (v:= .int .i64 us.length) rfl dx)
     ·cases h
   ·cases h
  ·cases h
 ·cases h
def endCell (fn:Func):Option bT->Option (az×I)
 |some (.done x s)=>bif vt x then match fn.results.toList,qG s.A s.ms with
  |[.cell a t],some _=>some (t,slot s.sl a)
  |_,_=>none
  else none
 |_=>none
theorem RS [cX] {P:aC} {fn:Func} {N B:Nat} {w0:aj} {M:Mem} {bp:List I} {R:Ending->aj->Prop} {o:Option bT} {t ty:az} {g:Nat} {x v:I} {cs:List I} (h:endCell fn o=some (t,x)) (hp:aF x=true) (ln: @aK (a' M bp) x= .pointer (some ⟨g,0,none⟩))
  (hO:hn B M (.pointer (some ⟨g,0,none⟩)) ty cs) (ha:aP P (isAgg t)=some true) (hs:aP P (sizeOf t)=some cs.length) (aw:aF v=true) (a8: @aK (a' M bp) v= .agg ⟨cs⟩)
  (hy:∀cQ,dJ B w0 cQ-> @mW (a' M bp) cQ->R (.returned (.agg ⟨cs⟩)) cQ): @gd (a' M bp) _ P N B w0 (qM P fn N B w0 R) o:=by
 letI:=a' M bp;unfold endCell at h;split at h
 ·rename_i x s
  cases ag:vt x with
  |false=>rw[ag] at h;cases h
  |true=>
   rw[ag,a7] at h;split at h
   ·rename_i a cq dP iJ hl
    cases h;refine⟨_,rfl,λdb w aq=> ?_⟩;have main:xG P fn N B w0 R db w:=by
     refine⟨inferInstance,s,dP,v,aq,hl,λφ w1 tmps hr ql=>⟨.agg ⟨cs⟩,?_,?_⟩,λau cQ gw=> ?_⟩
     ·have e1:tmps.getD a undef= .pointer (some ⟨g,0,none⟩):=(ar.gW _ hp (zC (ql a))).trans ln
      have av:w1.heap[g]? =some (.cells ⟨cs⟩ ty (0,0)):=(hr.eb g _ hO.known.1).1;have pZ:(loadVar t (⟨g,0,none⟩:Addr)).run P w1= .ok (.agg ⟨cs⟩) w1:=by
       unfold loadVar;refine cb ha ?_;simp only [if_true];refine cb hs (ck (run_loadCells_list (P:=P) w1 ⟨g,0,none⟩ cs λj u hj=> ?_) rfl);rw[Addr.hX,cell_of_row w1 _ _ _ _ _ av,Nat.zero_add];simpa using hj
      have e:results fn tmps=(fn.results.mapM (DY tmps)) >>= λvs=>pure (if h:vs.size=1 then vs[0] else .tuple vs):=by
       unfold results;congr 1
      rw[e,Array.mapM_eq_mapM_toList,iJ];refine ck (a:=(⟨[.agg ⟨cs⟩]⟩:Array I)) (ck (a:=[.agg ⟨cs⟩]) ?_ rfl) rfl;rw[List.mapM_cons];refine ck (a:=Value.agg ⟨cs⟩) ?_ rfl;show (do loadVar t (<-asAddr (tmps.getD a undef)):Sem I).run P w1=_;rw[e1];exact cb (a:=(⟨g,0,none⟩:Addr)) rfl pZ
     ·rw[<-a8]
      exact ar.rM φ v aw
     ·have J:=gw.kT
      obtain⟨⟨φ,ds,q1,aJ,cg,dn,_⟩,fe,iH⟩:=gw;have:=aJ.get 0 v rfl;rw[show au=aK v from ar.gW v aw this,a8];exact hy cQ fe J
    cases x with
    |normal=>exact main
    |ret=>exact main
    |exit id=>cases ag
    |goto l=>cases ag
   ·cases h
 ·cases h
end AE
namespace AE
theorem RT [cX] {P:aC} [Lib P] {N B:Nat} {w0:aj} {Q:Exit->Act->aj->Prop} {M:Mem} {bp:List I} {o:Option bT} {f:FuncId} {args:List I} {dk:I} {Y:Type} {vals2:Y->List I} {dB e6:bh} {aQ:List cm} {bx:dM} {fF:Mem} {ak tI:List cr} {r:Y->I} {AB:Y->List cr}
  (bV:cB B fF ak M tI) (is:List Nat) (jn Ki:Y->List cr)
  (h:(r8 P o).isSome=true) (aB:(oP P o).1=f) (ha:(oP P o).2.1=args) (cv:gp (qS P o) dB aQ=some bx) (dx:hE N dB (hN o) dk=some e6)
  (hR:il tI.length is=true) (hr:∀M' y,@aK (a' M' (vals2 y)) dk=r y) (hL:∀y,AB y=jn y++Ki y)
  (l3:∀w,(∀i o,M i=some o->w.heap[i]? =some o)->B<=w.heap.size->dg (aS w) (AE.pick tI is)->Calls P f ⟨@e9 (a' M bp) args⟩ w λe w'=>(∃y,e= .returned (r y)/\gx (aS w) (AE.pick tI is) (aS w') (AB y))/\dJ 0 w w')
  (hm:∀y M',fo (a' M bp) (a' M' (vals2 y)) bx)
  (rest:∀M' y,cB B fF ak M' (iY tI is (jn y)++Ki y)->∀aL w,@Here (a' M' (vals2 y)) _ N {sl:=e6,ms:=[],A:=gP aQ} B w0 aL w->wpListIn (Fr none) 0 P (jM o) (dz P (jK o) Q) (jL o) aL w)
  (hlen:∀y,(jn y).length=is.length:=by exact λ_=>rfl)
  (hp:er args=true:=by rfl) (fu:aF dk=true:=by rfl)
  (ah:cX.dy<=aQ.length:=by first|exact Nat.zero_le _|exact jX rfl) (ao:ib (qS P o).A aQ 0:=by exact fz rfl): @gd (a' M bp) _ P N B w0 Q o:=
 Ro (S:=fX (AE.pick tI is)) (R:=λy M'=>gx M (AE.pick tI is) M' (AB y)) h aB ha hp cv dx fu (λw hw dw=>Rz bV is hR rfl hw dw hr (l3 w hw dw (bV.at is hR rfl hw))) (λM' y _=>hm y M')
  (λM' y c9=>rest M' y (bV.put is hR (hlen y) (by rw[<-hL y];exact c9))) ah ao
end AE
end Go.Proofs.YtmfckpdcljjdjaaDoor
