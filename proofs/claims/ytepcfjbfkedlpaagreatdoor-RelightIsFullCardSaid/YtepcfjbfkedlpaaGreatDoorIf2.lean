/- Parts of the proof. -/
import Derived.Test.YtepcfjbfkedlpaaGreatDoorIf1
import Derived.LoopNIn
import Derived.Laws.Sem
import Derived.Below
import Derived.Test.YtepcfjbfkedlpaaGreatDoorProg
import Derived.KernelRfl
import Derived.Laws.Entries
import Derived.Laws.StructEq
import Derived.IntWalk
import Derived.Laws.AppendOwn
import Derived.Laws.Small
import Derived.OrdersIn
import Derived.Lib.SliceRun
import Derived.Laws.Slices
import Derived.Laws.Strings2
import Derived.Laws.Concat
import Derived.ChangeKeysEq
import Derived.Test.YtepcfjbfkedlpaaGreatDoorRows
import Derived.ProofKit
import Derived.Lay
import Derived.SevenTiedAt
import Derived.Carry
import Derived.Lib.SmallJoins
import Derived.Deep.Slices
import Derived.LaidSub
set_option maxRecDepth 100000
set_option maxHeartbeats 4000000
namespace Go.Proofs.YtepcfjbfkedlpaaGreatDoor
open Go
namespace AE
variable [aY]
structure q_ (gl:b4 Nat) (N:Nat) (ds:List Deferred) (ops:Array Oper) (m:Nat) (B:Nat->aW) (vs:List U) (e7:bQ) (w0:au) (a0:Act) (φ:bQ) (listed:Array Bool) (a:Act) (w:au):Prop where
 size:listed.size=ops.size
 down:∀i j,listed.getD i false=true->direct ops i j=true->listed.getD j false=true
 tj:∀i,m<=i->listed.getD i false=false
 defers:a.defers=ds
 l0:a.tmps.size=N
 rel:bR φ (B m) w
 old:∀b,b<(B 0).n->φ b=e7 b
 mapped:∀b e,(B 0).n<=b->φ b=some e->∃j,j<m/\listed.getD j false=true/\own B j b
 total:∀j b,j<m->listed.getD j false=true->own B j b->φ b≠none
 new:∀b e,(B 0).n<=b->φ b=some e->w0.heap.size<=e.bf
 LM:∀j b e b' e',j<m->own B j b->¬own B j b'->φ b=some e->φ b'=some e'->e.bf≠e'.bf
 keep:∀i,i<w0.heap.size->(∀b e k,e7 b=some e->e.bf=i->(B 0).bl.get b=some k->k.ro=true)->w.heap[i]? =w0.heap[i]?
 fX:w0.heap.size<=w.heap.size
 os:w.os=w0.os
 tape:w.tape=w0.tape
 output:w.output=w0.output
 drawn:kv w0<=kv w
 other:∀t,(∀i,i<m->listed.getD i false=true->fl ops i≠some t)->a.tmps.getD t undef=a0.tmps.getD t undef
 val:∀i t,i<m->listed.getD i false=true->fl ops i=some t->aD (restrict φ (B (i+1)).n) (vs.getD i cL) (a.tmps.getD t undef)
omit [aY] in
theorem tm {φ:bQ} {n b:Nat} {e:gZ} (h:restrict φ n b=some e):b<n/\φ b=some e:=by
 unfold restrict at h;by_cases ad:b<n
 ·rw[aN ad] at h;exact⟨ad,h⟩
 ·rw[aO ad] at h;cases h
omit [aY] in
theorem SE {φ:bQ} {n fz:Nat} (h:n<=fz):∀b e,restrict φ n b=some e->restrict φ fz b=some e:=λb e ad=>by
 obtain⟨h1,ae⟩:=tm ad;unfold restrict;rw[aN ao];exact ae
section
variable {P:aQ} [Lib P] [dX P] {C:hN} {gl:b4 Nat} {N:Nat} {ds:List Deferred} {ops:Array Oper} {m:Nat} {dE lL:aT} {B:Nat->aW} {vs:List U} {e7 φ:bQ} {w0 w:au} {a0 a:Act} {listed:Array Bool}
theorem q_.done (iu:ox e7 B vs m) (kA:bR e7 (B 0) w0) (yJ:fu N ds e7 lL a0) (bn:q_ gl N ds ops m B vs e7 w0 a0 φ listed a w) (kL:∀i,i<m->listed.getD i false=true)
  (ek:hW N ops (λ_=>cL) (List.range m) lL=some dE) {eu:aT} (h1:hW N ops (λj=>vs.getD j cL) (List.range m) dE=some eu):
  fu N ds φ eu a/\cg e7 (B 0) w0 φ (B m) w:=by
 have r5:∀b e,e7 b=some e->φ b=some e:=λb e ad=>by rw[bn.old b (kA.lt ad)];exact ad
 refine⟨⟨bn.l0,bn.defers,λt v aC=> ?_⟩,?_⟩
 ·rcases ow _ _ _ h1 t v aC with ⟨j,hj,a_,rfl⟩|⟨aq,az⟩
  ·have eX:=List.mem_range.1 hj
   exact(bn.val j t eX (kL j eX) a_).mono λb e ad=>(tm ad).2
  ·rcases ow _ _ _ ek t v az with ⟨j,hj,a_,rfl⟩|⟨_,ur⟩
   ·exact .cL _
   ·rw[bn.other t λi af _=>aq i (List.mem_range.2 af)]
    exact(yJ.get t v ur).mono r5
 ·refine {rel:=bn.rel,ep:=bn.old,qW:=λb ad dN=> ?_,new:=λb e ad he=> .inl (bn.new b e ad he),py:=iu.r6 (Nat.zero_le _) (bY _),low:=by rw[iu.ab0 (bY _)];exact bY _,
          same:=λb ad _=>iu.vN (Nat.zero_le _) (bY _) b ad,ro:=λb k ag _=> ?_,keep:=bn.keep,fX:=bn.fX,os:=bn.os,tape:=bn.tape,output:=bn.output,drawn:=bn.drawn}
  ·obtain⟨j,hj,ho⟩:=iu.SD (bY _) ad dN
   exact bn.total j b hj (kL j hj) ho
  ·rw[iu.vN (Nat.zero_le _) (bY _) b (kA.wf.lt b k ag)];exact ag
theorem q_.here (iu:ox e7 B vs m) (kA:bR e7 (B 0) w0) (SF:(B m).n<=dead) (bn:q_ gl N ds ops m B vs e7 w0 a0 φ listed a w) {i:Nat} (af:i<m):bR (restrict φ (B i).n) (B i) w:=by
 obtain⟨ψ,w',g1,g2,g3,_⟩:=iu.ex i ao;have a_:∀b e,φ b=some e->b≠dead:=λb e ad ai=>by
  have:=bn.rel.lt ad;omega
 have gp:∀b,b<(B i).n->(B m).bl.get b=(B i).bl.get b:=λb ad=>iu.vN ao (bY _) b ad
 refine⟨g1.wf,λb e ad=> ?_,λb e k b' e' k' ad dN ag dm cC=> ?_,λb e k b' e' k' ad dN ag dm aP jt=> ?_,λi o af=>⟨(bn.rel.dg i o af).1,λb e ad=>(bn.rel.dg i o af).2 b e (tm ad).2⟩⟩
 ·obtain⟨b8,hF⟩:=tm ad
  obtain⟨k,ag,h1,ae⟩:=bn.rel.ep b e hF;rw[gp b b8] at ag;refine⟨k,ag,h1,?_⟩;have q9:ψ b≠none:=by
   rcases Nat.lt_or_ge b (B 0).n with aJ|aJ
   ·rw[g2 b aJ,<-bn.old b aJ,hF];simp
   ·exact g3 b aJ b8
  obtain⟨e',qb⟩:=Option.ne_none_iff_exists'.1 q9;obtain⟨k',dm,_,ay⟩:=g1.ep b e' qb;rw[ag] at dm;cases dm;exact ae.restrict a_ (λb e ad=>g1.lt ad) ay
 ·obtain⟨b8,hF⟩:=tm ad
  obtain⟨q2,r7⟩:=tm dN;exact bn.rel.apart b e k b' e' k' hF r7 ((gp b b8).trans ag) ((gp b' q2).trans dm) cC
 ·obtain⟨b8,hF⟩:=tm ad
  obtain⟨q2,r7⟩:=tm dN;exact bn.rel.along b e k b' e' k' hF r7 ((gp b b8).trans ag) ((gp b' q2).trans dm) aP jt
theorem q_.step (iu:ox e7 B vs m) (kA:bR e7 (B 0) w0) (bn:q_ gl N ds ops m B vs e7 w0 a0 φ listed a w) {i:Nat} {o:Oper} (af:i<m) (hm:m<=ops.size) (ho:ops[i]? =some o) (uu:listed.getD i false=false)
  (tn:∀k,direct ops i k=true->listed.getD k false=true) (mR:∀i j,i<m->j<m->i≠j->∀t,fl ops i=some t->fl ops j≠some t) (b8:∀i t,i<m->fl ops i=some t->t<N)
  {bt:aW} (rU:(B i).n<=bt.low) (tl:B (i+1)={bt with low:=(B i).low}) {cR:bQ} {aB:U} {w':au} (aC:aD cR (vs.getD i cL) aB) (cB:cg (restrict φ (B i).n) {B i with low:=(B i).n} w cR bt w'):
  ∃e_,q_ gl N ds ops m B vs e7 w0 a0 e_ (listed.setIfInBounds i true) (a.put o.dst aB) w':=by
 have js:(B (i+1)).n=bt.n:=by rw[tl]
 have ab3:(B (i+1)).bl=bt.bl:=by rw[tl]
 have kB:fl ops i=o.dst:=by simp [fl,ho]
 have eZ:∀j,(listed.setIfInBounds i true).getD j false=true↔j=i\/listed.getD j false=true:=by
  intro j;by_cases hj:j=i
  ·subst hj
   have:=bn.size;simp [e5,show j<listed.size by omega]
  ·rw[getD_set_ne false (Ne.symm hj)]
   simp [hj]
 let e_:bQ:=λb=>if b<(B i).n then φ b else if b<(B (i+1)).n then cR b else φ b
 have Eh:∀b,b<(B i).n->e_ b=φ b:=λb ad=>aN ad
 have HA:∀b,own B i b->e_ b=cR b:=λb ad=>by
  show (if _ then _ else if _ then _ else _)=_;rw[aO (by unfold own at ad;omega),aN ad.2]
 have LN:∀b,(B (i+1)).n<=b->e_ b=φ b:=λb ad=>by
  have:=iu.Hy i af;show (if _ then _ else if _ then _ else _)=_;rw[aO ao,aO ao]
 have lI:∀b,b<(B i).n\/own B i b\/(B (i+1)).n<=b:=λb=>by unfold own;omega
 have SG:∀b,b<(B i).n->cR b=φ b:=λb ad=>by
  rw[cB.ep b ad];unfold restrict;rw[aN ad]
 have SH:∀b e,cR b=some e->b<(B (i+1)).n:=λb e ad=>by rw[js];exact cB.rel.lt ad
 have SI:∀b e,cR b=some e->e_ b=some e:=λb e ad=>by
  have:=SH b e ad;rcases lI b with h|h|h
  ·rw[Eh b h,<-SG b h];exact ad
  ·rw[HA b h];exact ad
  ·omega
 have ab4:∀b,own B i b->φ b=none:=λb ad=>by
  cases h:φ b with
  |none=>rfl
  |some e=>
   exfalso;have aJ:(B 0).n<=b:=Nat.le_trans (iu.r6 (Nat.zero_le i) ao) ad.1;obtain⟨j,hj,ov,hK⟩:=bn.mapped b e aJ h;have:=iu.SC af hj ad hK;subst this;rw[uu] at ov;cases ov
 have LO:∀b e,φ b=some e->e_ b=some e:=λb e ad=>by
  rcases lI b with h|h|h
  ·rw[Eh b h];exact ad
  ·rw[ab4 b h] at ad;cases ad
  ·rw[LN b h];exact ad
 have ab5:∀b e,own B i b->cR b=some e->w.heap.size<=e.bf:=λb e ad he=>by
  rcases cB.new b e ad.1 he with h|⟨cX,bk,d',q1,_,b9,_,_⟩
  ·exact h
  ·exfalso
   have:=(tm q1).1;omega
 have ala:(B 0).n<=(B i).n:=iu.r6 (Nat.zero_le i) ao;have Ei:∀b,b<(B (i+1)).n->(B m).bl.get b=bt.bl.get b:=λb ad=>by rw[iu.vN ao (bY _) b ad,ab3]
 have LP:∀b e,φ b=some e->e.bf<w.heap.size:=λb e ad=>by
  obtain⟨k,_,_,ae⟩:=bn.rel.ep b e ad;exact ae.lt
 have SJ:∀b e,e_ b=some e->(b<(B (i+1)).n/\cR b=some e)\/((B (i+1)).n<=b/\φ b=some e):=λb e ad=>by
  have:=iu.Hy i af;rcases lI b with h|h|h
  ·rw[Eh b h,<-SG b h] at ad;exact .inl ⟨ao,ad⟩
  ·rw[HA b h] at ad;exact .inl ⟨h.2,ad⟩
  ·rw[LN b h] at ad;exact .inr ⟨h,ad⟩
 have vO:∀b e,e_ b=some e->(own B i b/\cR b=some e/\w.heap.size<=e.bf)\/(¬own B i b/\φ b=some e/\e.bf<w.heap.size):=λb e ad=>by
  rcases lI b with h|h|h
  ·rw[Eh b h] at ad;exact .inr ⟨by unfold own;omega,ad,LP b e ad⟩
  ·rw[HA b h] at ad;exact .inl ⟨h,ad,ab5 b e h ad⟩
  ·rw[LN b h] at ad;exact .inr ⟨by unfold own;omega,ad,LP b e ad⟩
 have ab6:∀b e,(B (i+1)).n<=b->φ b=some e->w'.heap[e.bf]? =w.heap[e.bf]? :=λb e ad he=>by
  have aJ:(B 0).n<=b:=by have:=iu.Hy i af;omega
  obtain⟨j,hj,ov,hK⟩:=bn.mapped b e aJ he;refine cB.keep e.bf (LP b e he) λcX bk d' gw r1 _=> ?_
  exfalso;obtain⟨alb,ab7⟩:=tm gw;refine bn.LM j b e cX bk hj hK (λai=> ?_) he ab7 r1.symm;have pD:i+1<=j:=by
   rcases Nat.lt_or_ge i j with h|h
   ·exact h
   ·exfalso
    have:=iu.r6 (i:=j+1) (j:=i+1) ao ao;unfold own at hK;omega
  have:=iu.r6 (i:=i) (j:=j) ao ao;unfold own at ai;omega
 refine⟨e_,by simpa using bn.size,?_,?_,by rw[Act.Cd];exact bn.defers,by rw[Act.size_put];exact bn.l0,⟨bn.rel.wf,?_,?_,?_,λi o af=>⟨(cB.rel.dg i o af).1,λb e ad=>by
   rcases SJ b e ad with ⟨_,h⟩|⟨_,h⟩
   ·exact(cB.rel.dg i o af).2 b e h
   ·exact(bn.rel.dg i o af).2 b e h⟩⟩,?_,?_,?_,?_,?_,?_,Nat.le_trans bn.fX cB.fX,cB.os.trans bn.os,cB.tape.trans bn.tape,cB.output.trans bn.output,Nat.le_trans bn.drawn cB.drawn,?_,?_⟩
 ·intro j k hj a_
  rw[eZ] at hj ⊢;rcases hj with rfl|hj
  ·exact .inr (tn k a_)
  ·exact .inr (bn.down j k hj a_)
 ·intro j hj
  rw[getD_set_ne false ao];exact bn.tj j hj
 ·
  intro b e ad;rcases SJ b e ad with ⟨lo,dN⟩|⟨lo,dN⟩
  ·obtain⟨k,ag,h1,ae⟩:=cB.rel.ep b e dN
   exact⟨k,(Ei b lo).trans ag,h1,ae.mono SI rfl⟩
  ·obtain⟨k,ag,h1,ae⟩:=bn.rel.ep b e dN
   exact⟨k,ag,h1,ae.mono LO (ab6 b e lo dN)⟩
 ·
  intro b e k b' e' k' ad dN ag dm cC;rcases vO b e ad with ⟨ib,hi,q1⟩|⟨ib,hi,q1⟩<;>rcases vO b' e' dN with ⟨kz,gi,aE⟩|⟨kz,gi,aE⟩
  ·exact cB.rel.apart b e k b' e' k' hi gi ((Ei b ib.2).symm.trans ag) ((Ei b' kz.2).symm.trans dm) cC
  ·omega
  ·omega
  ·exact bn.rel.apart b e k b' e' k' hi gi ag dm cC
 ·intro b e k b' e' k' ad dN ag dm aP jt
  rcases vO b e ad with ⟨ib,hi,q1⟩|⟨ib,hi,q1⟩<;>rcases vO b' e' dN with ⟨kz,gi,aE⟩|⟨kz,gi,aE⟩
  ·exact cB.rel.along b e k b' e' k' hi gi ((Ei b ib.2).symm.trans ag) ((Ei b' kz.2).symm.trans dm) aP jt
  ·omega
  ·omega
  ·exact bn.rel.along b e k b' e' k' hi gi ag dm aP jt
 ·intro b ad
  rw[Eh b ao];exact bn.old b ad
 ·intro b e aJ ad
  rcases vO b e ad with ⟨ib,hi,_⟩|⟨ib,hi,_⟩
  ·exact⟨i,af,(eZ i).2 (.inl rfl),ib⟩
  ·obtain⟨j,hj,ov,hK⟩:=bn.mapped b e aJ hi
   exact⟨j,hj,(eZ j).2 (.inr ov),hK⟩
 ·intro j b hj hl hK
  rcases(eZ j).1 hl with rfl|hl
  ·rw[HA b hK]
   exact cB.qW b hK.1 (by rw[<-js];exact hK.2)
  ·obtain⟨e,he⟩:=Option.ne_none_iff_exists'.1 (bn.total j b hj hl hK)
   rw[LO b e he];simp
 ·intro b e aJ ad
  rcases vO b e ad with ⟨ib,hi,q1⟩|⟨ib,hi,_⟩
  ·exact Nat.le_trans bn.fX q1
  ·exact bn.new b e aJ hi
 ·
  intro j b e b' e' hj hK SK ad dN;rcases vO b e ad with ⟨ib,hi,q1⟩|⟨ib,hi,q1⟩<;>rcases vO b' e' dN with ⟨kz,gi,aE⟩|⟨kz,gi,aE⟩
  ·exfalso
   have:=iu.SC hj af hK ib;subst this;exact SK kz
  ·omega
  ·omega
  ·exact bn.LM j b e b' e' hj hK SK hi gi
 ·
  intro k ag kL;rw[cB.keep k (Nat.lt_of_lt_of_le ag bn.fX) ?_,bn.keep k ag kL];intro b e ft ad he Ej;obtain⟨alc,SL⟩:=tm ad;rcases Nat.lt_or_ge b (B 0).n with aJ|aJ
  ·refine kL b e ft ?_ he ?_
   ·rw[<-bn.old b aJ];exact SL
   ·rw[<-iu.vN (Nat.zero_le i) ao b aJ];exact Ej
  ·have:=bn.new b e aJ SL
   omega
 ·
  intro t h;have qh:o.dst≠some t:=λai=>h i af ((eZ i).2 (.inl rfl)) (kB.trans ai)
  have:(a.put o.dst aB).tmps.getD t undef=a.tmps.getD t undef:=by
   rcases Nat.lt_or_ge t a.tmps.size with kc|kc
   ·rw[Act.r3 _ _ _ _ kc,aO qh]
   ·simp [e5,Array.getElem?_eq_none kc,Array.getElem?_eq_none (show (a.put o.dst aB).tmps.size<=t by rw[Act.size_put];exact kc)]
  rw[this];exact bn.other t λj hj hl=>h j hj ((eZ j).2 (.inr hl))
 ·intro j t hj hl a_
  by_cases eG:j=i
  ·subst eG
   have kc:t<N:=b8 j t hj a_;have:(a.put o.dst aB).tmps.getD t undef=aB:=by
    rw[Act.r3 _ _ _ _ (by rw[bn.l0];exact kc),aN (kB.symm.trans a_)]
   rw[this];refine aC.mono λb e ad=> ?_
   unfold restrict;rw[aN (SH b e ad)];exact SI b e ad
  ·have ov:=((eZ j).1 hl).resolve_left eG
   have kc:t<N:=b8 j t hj a_;have:(a.put o.dst aB).tmps.getD t undef=a.tmps.getD t undef:=by
    rw[Act.r3 _ _ _ _ (by rw[bn.l0];exact kc),aO];intro ai;exact mR i j af hj (Ne.symm eG) t (kB.trans ai) a_
   rw[this];refine(bn.val j t hj ov a_).mono λb e ad=> ?_
   obtain⟨h1,ae⟩:=tm ad;unfold restrict;rw[aN h1];exact LO b e ae
end
end AE
namespace AE
variable [aY]
section
variable {P:aQ} {ops:Array Oper}
omit [aY] in
theorem SM {ro:Option Nat} {Q:Exit->Act->au->Prop} {m:Nat} (ra:∀i j,i<ops.size->direct ops i j=true->j<i) (yK:∀i j,i<ops.size->m<=j->j<i->LI ops i j):
  ∀(bb k:Nat) (listed:Array Bool) (a:Act) (w:au),m<=k->listed.size=ops.size->(∀i,listed.getD i false=decide (i<k/\i<ops.size))->
   tk listed<=bb->wpListIn (Fr ro) 0 P ops Q (ops.toList.drop k) a w->wpAnyIn (Fr ro) 0 P .any ops Q bb listed a w:=by
 intro bb
 induction bb with
 |zero=>
  intro k listed a w r8 av hl aP h;have ag:ops.size<=k:=by
   rcases Nat.lt_or_ge k ops.size with ag|ag
   ·exfalso
    have h1:=hl k;simp only [Nat.lt_irrefl,false_and,decide_false] at h1;have:=Am (i:=k) (listed:=listed) ao (by rw[r4 ao];exact h1);omega
   ·exact ag
  have hr:Region.ready .any ops listed=[]:=by
   apply List.eq_nil_iff_forall_not_mem.2;intro i af;obtain⟨aJ,o,ho,_⟩:=mem_ready.1 af;have nk:i<ops.size:=(Array.getElem?_eq_some_iff.1 ho).1;rw[r4 ao,hl i] at aJ;simp [nk] at aJ;omega
  rw[List.drop_of_length_le (by simpa using ag)] at h;exact⟨hr,h⟩
 |succ bb cd=>
  intro k listed a w r8 av hl aP h;rcases Nat.lt_or_ge k ops.size with ag|ag
  ·have At:listed.getD k false=false:=by rw[hl k];simp
   have ho:ops[k]? =some ops[k]:=Array.getElem?_eq_getElem ag;have vP:k∈Region.ready .any ops listed:=by
    refine mem_ready.2 ⟨by rw[r4 ao];exact At,ops[k],ho,λe he ad=> ?_⟩;have:direct ops k e.on=true:=by
     simp only [direct,ho];exact Array.any_eq_true'.2 ⟨e,he,by simp [ad]⟩
    have:=ra k e.on ag this;rw[hl e.on];simp;omega
   refine⟨λaJ=>absurd (aJ▸vP) (by simp),λi af=> ?_⟩;have LQ:i=k:=by
    obtain⟨aJ,o,ln,_⟩:=mem_ready.1 af;have nk:i<ops.size:=(Array.getElem?_eq_some_iff.1 ln).1;rw[r4 ao,hl i] at aJ;simp only [nk,and_true,decide_eq_false_iff_not,Nat.not_lt] at aJ;rcases Nat.lt_or_eq_of_le aJ with tp|tp
    ·exfalso
     have down:∀i j,listed.getD i false=true->direct ops i j=true->listed.getD j false=true:=by
      intro i j h1 ae;rw[hl i] at h1;simp only [decide_eq_true_eq] at h1;have:=ra i j h1.2 ae;rw[hl j];simp;omega
     have:=yK i k nk ao tp listed down (vJ af);rw[At] at this;cases this
    ·exact tp.symm
   subst LQ;have ab8:ops.toList.drop i=ops[i]::ops.toList.drop (i+1):=by
    rw[List.drop_eq_getElem_cons (by simpa using ag)];simp
   rw[ab8] at h;have SN:∀aS w',wpListIn (Fr ro) 0 P ops Q (ops.toList.drop (i+1)) aS w'->wpAnyIn (Fr ro) 0 P .any ops Q bb (listed.setIfInBounds i true) aS w':=by
    intro aS w' eW;refine cd (i+1) _ aS w' ao (by simpa using av) ?_ ?_ eW
    ·intro j
     by_cases hj:j=i
     ·subst hj
      simp [e5,av,ag]
     ·rw[getD_set_ne false (Ne.symm hj),hl j]
      congr 1;simp only [eq_iff_iff];omega
    ·have:=Am (i:=i) (listed:=listed) ao (by rw[r4 ao];exact At)
     omega
   unfold wpOpIn;simp only [ho];unfold wpListIn at h;split at h
   ·rename_i hw
    rw[aN hw];exact Oper.wpIn_mono SN h
   ·rename_i hw
    rw[aO hw];exact⟨h.1,SN _ _ h.2⟩
  ·refine⟨λ_=> ?_,λi af=> ?_⟩
   ·rw[List.drop_of_length_le (by simpa using ag)] at h
    exact h
   ·exfalso
    obtain⟨aJ,o,ho,_⟩:=mem_ready.1 af;have nk:i<ops.size:=(Array.getElem?_eq_some_iff.1 ho).1;rw[r4 ao,hl i] at aJ;simp [nk] at aJ;omega
end
section
variable {P:aQ} [Lib P] [dX P] {C:hN} {gl:b4 Nat} {N:Nat} {ds:List Deferred} {ro:Option Nat} {ops:Array Oper} {m:Nat} {dE lL eu:aT} {L:List Nat} {B:Nat->aW} {vs:List U} {e7:bQ} {w0:au} {a0:Act}
theorem ab9 {Q:Exit->Act->au->Prop} (hM:uq ops L m N=true) (cH:k8 P gl C) (iu:ox e7 B vs m) (kA:bR e7 (B 0) w0) (Ci:lZ gl e7) (yJ:fu N ds e7 lL a0) (SF:(B m).n<=dead)
  (ek:hW N ops (λ_=>cL) (List.range m) lL=some dE) (h1:hW N ops (λj=>vs.getD j cL) (List.range m) dE=some eu)
  (hl:∀i o,i<m->ops[i]? =some o->Cf P C gl N ops L m dE i o (vs.take i) (vs.getD i cL) (B i) (B (i+1)))
  (ab':∀φ a w,fu N ds φ eu a->cg e7 (B 0) w0 φ (B m) w->wpListIn (Fr ro) 0 P ops Q (ops.toList.drop m) a w):
  ∀(bb:Nat) (listed:Array Bool) (a:Act) (w:au) (φ:bQ),q_ gl N ds ops m B vs e7 w0 a0 φ listed a w->(∀j∈L,j<m->listed.getD j false=true)->tk listed<=bb->wpAnyIn (Fr ro) 0 P .any ops Q bb listed a w:=by
 obtain⟨hm,nW,mR,b8,ub,ra,yK⟩:=Ed hM;have tail:∀(bb:Nat) (listed:Array Bool) (a:Act) (w:au) (φ:bQ),q_ gl N ds ops m B vs e7 w0 a0 φ listed a w->tk listed<=bb->(∀i,i<m->listed.getD i false=true)->wpAnyIn (Fr ro) 0 P .any ops Q bb listed a w:=by
  intro bb listed a w φ bn aP o0;refine SM ra (λi j af hj eG=>(yK i j af ao eG).resolve_left ao) bb m listed a w (bY _) bn.size (λi=> ?_) aP ?_
  ·by_cases af:i<m
   ·rw[o0 i af];simp;omega
   ·rw[bn.tj i ao];simp;omega
  ·obtain⟨q1,aE⟩:=bn.done iu kA yJ o0 ek h1
   exact ab' φ a w q1 aE
 intro bb
 induction bb with
 |zero=>
  intro listed a w φ bn Cj aP;refine tail 0 listed a w φ bn aP λi af=> ?_
  cases h:listed.getD i false with
  |true=>rfl
  |false=>
   exfalso;have:=Am (i:=i) (listed:=listed) (by have:=bn.size;omega) (by rw[r4 (by have:=bn.size;omega)];exact h);omega
 |succ bb cd=>
  intro listed a w φ bn Cj aP;by_cases o0:∀i,i<m->listed.getD i false=true
  ·exact tail (bb+1) listed a w φ bn aP o0
  ·obtain⟨i0,Ar⟩:=Classical.not_forall.1 o0
   obtain⟨HB,vQ⟩:=Classical.not_imp.1 Ar;have vQ:listed.getD i0 false=false:=by simpa using vQ
   have vP:Region.ready .any ops listed≠[]:=by
    have key:∀n i,i<n->i<m->listed.getD i false=false->∃k,k∈Region.ready .any ops listed:=by
     intro n
     induction n with
     |zero=>intro i af;omega
     |succ n LR=>
      intro i af o1 LS;by_cases hp:∀k,direct ops i k=true->listed.getD k false=true
      ·refine⟨i,mem_ready.2 ⟨by rw[r4 (by have:=bn.size;omega)];exact LS,ops[i]'(by omega),Array.getElem?_eq_getElem _,λe he ad=>hp _ ?_⟩⟩
       have ho:ops[i]? =some (ops[i]'(by omega)):=Array.getElem?_eq_getElem _;simp only [direct,ho];exact Array.any_eq_true'.2 ⟨e,he,by simp [ad]⟩
      ·obtain⟨k,ag⟩:=Classical.not_forall.1 hp
       obtain⟨a_,At⟩:=Classical.not_imp.1 ag;have:=ra i k ao a_;exact LR k ao ao (by simpa using At)
    obtain⟨k,ag⟩:=key (i0+1) i0 ao HB vQ;intro h;rw[h] at ag;cases ag
   refine⟨λaJ=>absurd aJ vP,λi af=> ?_⟩;obtain⟨uu,o,ho,_⟩:=mem_ready.1 af;have nk:i<ops.size:=(Array.getElem?_eq_some_iff.1 ho).1;have yL:listed.getD i false=false:=by rw[<-r4 (by have:=bn.size;omega)];exact uu
   have o1:i<m:=by
    rcases Nat.lt_or_ge i m with h|h
    ·exact h
    ·exfalso
     rcases yK i i0 nk h ao with ⟨Au,_⟩|ha
     ·have:=Cj i0 Au HB
      rw[vQ] at this;cases this
     ·have:=ha listed bn.down (vJ af)
      rw[vQ] at this;cases this
   obtain⟨sl,gH,vM⟩:=hl i o o1 ho;have LU:∃bt,uk P C gl ops o sl {B i with low:=(B i).n}=some (vs.getD i cL,bt)/\(B i).n<=bt.low/\B (i+1)={bt with low:=(B i).low}:=by
    rcases vM with ⟨Au,_⟩|⟨_,h⟩
    ·have:=Cj i Au o1
     rw[yL] at this;cases this
    ·exact h
   obtain⟨bt,aC,rU,tl⟩:=LU;have ab_:=bn.here iu kA SF o1;have r5:∀b e,e7 b=some e->restrict φ (B i).n b=some e:=λb e ad=>by
    have gw:=kA.lt ad;have:=iu.r6 (Nat.zero_le i) ao;unfold restrict;rw[aN ao,bn.old b gw];exact ad
   have Cg:∀t v,sl.get t=some v->aD (restrict φ (B i).n) v (a.tmps.getD t undef):=by
    intro t v oZ;rcases ow _ _ _ gH t v oZ with ⟨j,hj,a_,rfl⟩|⟨w9,Ef⟩
    ·have yM:=ub i o o1 ho j hj
     have eG:=ra i j nk yM;have ov:=vJ af j yM;have hval:=bn.val j t ao ov a_;have e1:(vs.take i).getD j cL=vs.getD j cL:=by
      simp only [dr,List.getElem?_take,aN eG]
     rw[e1];exact hval.mono (SE (iu.r6 ao ao))
    ·rcases ow _ _ _ ek t v Ef with ⟨j,hj,a_,rfl⟩|⟨HC,ur⟩
     ·exact .cL _
     ·rw[bn.other t λj hj _=>HC j (List.mem_range.2 hj)]
      exact(yJ.get t v ur).mono r5
   unfold wpOpIn;simp only [ho];refine Hv cH (ab_.lower (B i).n) (Ci.mono r5) Cg aC λcR aB w' w3 oY=> ?_
   obtain⟨e_,LV⟩:=bn.step iu kA o1 hm ho yL (vJ af) mR b8 rU tl w3 oY;exact cd _ _ _ e_ LV (λj hj eX=>by
    by_cases eG:j=i
    ·subst eG
     have:=bn.size;simp [e5,show j<listed.size by omega]
    ·rw[getD_set_ne false (Ne.symm eG)]
     exact Cj j hj eX) (by
    have:=Am (i:=i) (listed:=listed) (by have:=bn.size;omega) uu
    omega)
end
section
variable {P:aQ} [Lib P] [dX P] {C:hN} {gl:b4 Nat} {N:Nat} {ds:List Deferred} {ro:Option Nat} {ops:Array Oper} {m:Nat} {dE lL:aT} {L:List Nat} {B:Nat->aW} {vs:List U} {e7:bQ} {w0:au} {a0:Act}
omit [Lib P] [dX P] in
theorem q_.aca {φ:bQ} {listed:Array Bool} {a:Act} {w:au} (bn:q_ gl N ds ops m B vs e7 w0 a0 φ listed a w) {i:Nat} {o:Oper} (af:i<m) (hm:m<=ops.size) (ho:ops[i]? =some o) (uu:listed.getD i false=false)
  (tn:∀k,direct ops i k=true->listed.getD k false=true) (mR:∀i j,i<m->j<m->i≠j->∀t,fl ops i=some t->fl ops j≠some t) (b8:∀i t,i<m->fl ops i=some t->t<N)
  (tl:B (i+1)=B i) {aB:U} (aC:aD (restrict φ (B i).n) (vs.getD i cL) aB):q_ gl N ds ops m B vs e7 w0 a0 φ (listed.setIfInBounds i true) (a.put o.dst aB) w:=by
 have kB:fl ops i=o.dst:=by simp [fl,ho]
 have eZ:∀j,(listed.setIfInBounds i true).getD j false=true↔j=i\/listed.getD j false=true:=by
  intro j;by_cases hj:j=i
  ·subst hj
   have:=bn.size;simp [e5,show j<listed.size by omega]
  ·rw[getD_set_ne false (Ne.symm hj)]
   simp [hj]
 refine⟨by simpa using bn.size,?_,?_,by rw[Act.Cd];exact bn.defers,by rw[Act.size_put];exact bn.l0,bn.rel,bn.old,?_,?_,bn.new,bn.LM,bn.keep,bn.fX,bn.os,bn.tape,bn.output,bn.drawn,?_,?_⟩
 ·intro j k hj a_
  rw[eZ] at hj ⊢;rcases hj with rfl|hj
  ·exact .inr (tn k a_)
  ·exact .inr (bn.down j k hj a_)
 ·intro j hj
  rw[getD_set_ne false ao];exact bn.tj j hj
 ·intro b e aJ ad
  obtain⟨j,hj,ov,hK⟩:=bn.mapped b e aJ ad;exact⟨j,hj,(eZ j).2 (.inr ov),hK⟩
 ·intro j b hj hl hK
  rcases(eZ j).1 hl with rfl|hl
  ·exfalso
   unfold own at hK;rw[tl] at hK;omega
  ·exact bn.total j b hj hl hK
 ·intro t h
  have qh:o.dst≠some t:=λai=>h i af ((eZ i).2 (.inl rfl)) (kB.trans ai)
  have:(a.put o.dst aB).tmps.getD t undef=a.tmps.getD t undef:=by
   rcases Nat.lt_or_ge t a.tmps.size with kc|kc
   ·rw[Act.r3 _ _ _ _ kc,aO qh]
   ·simp [e5,Array.getElem?_eq_none kc,Array.getElem?_eq_none (show (a.put o.dst aB).tmps.size<=t by rw[Act.size_put];exact kc)]
  rw[this];exact bn.other t λj hj hl=>h j hj ((eZ j).2 (.inr hl))
 ·intro j t hj hl a_
  by_cases eG:j=i
  ·subst eG
   have kc:t<N:=b8 j t hj a_;have:(a.put o.dst aB).tmps.getD t undef=aB:=by
    rw[Act.r3 _ _ _ _ (by rw[bn.l0];exact kc),aN (kB.symm.trans a_)]
   rw[this,tl];exact aC
  ·have ov:=((eZ j).1 hl).resolve_left eG
   have kc:t<N:=b8 j t hj a_;have:(a.put o.dst aB).tmps.getD t undef=a.tmps.getD t undef:=by
    rw[Act.r3 _ _ _ _ (by rw[bn.l0];exact kc),aO];intro ai;exact mR i j af hj (Ne.symm eG) t (kB.trans ai) a_
   rw[this];exact bn.val j t hj ov a_
theorem acb {Q:Exit->Act->au->Prop} (hM:uq ops L m N=true) (cF:qe P) (iu:ox e7 B vs m) (kA:bR e7 (B 0) w0) (Ci:lZ gl e7) (yJ:fu N ds e7 lL a0)
  (ek:hW N ops (λ_=>cL) (List.range m) lL=some dE) (pE:∀c a w,¬Q (.panic c) a w)
  (hl:∀i o,i<m->ops[i]? =some o->Cf P C gl N ops L m dE i o (vs.take i) (vs.getD i cL) (B i) (B (i+1)))
  (yN:∀(bb:Nat) (listed:Array Bool) (a:Act),q_ gl N ds ops m B vs e7 w0 a0 e7 listed a w0->(∀j∈L,j<m->listed.getD j false=true)->tk listed<=bb->wpAnyIn (Fr ro) 0 P .any ops Q bb listed a w0):
  ∀(r:List Nat) (bb:Nat) (listed:Array Bool) (a:Act),(r≠[]->ro=none)->vK ops r listed=true->(∀i∈r,i∈L/\i<m)->(∀j∈L,j<m->listed.getD j false=true\/j∈r)->q_ gl N ds ops m B vs e7 w0 a0 e7 listed a w0->
   tk listed<=bb->wpAnyIn (Fr ro) 0 P .any ops Q bb listed a w0:=by
 obtain⟨hm,nW,mR,b8,ub,ra,yK⟩:=Ed hM;intro r
 induction r with
 |nil=>
  intro bb listed a _ _ _ hL bn aP;exact yN bb listed a bn (λj hj eX=>(hL j hj eX).resolve_right (by simp)) aP
 |cons i r cd=>
  intro bb listed a dC w_ hr hL bn aP;have Ek:ro=none:=dC (by simp);obtain⟨Au,o1⟩:=hr i List.mem_cons_self;simp only [vK,c0] at w_;obtain⟨⟨vP,Av⟩,mS,w_⟩:=w_;have af:i∈Region.ready .any ops listed:=by simpa using vP
  obtain⟨uu,o,ho,_⟩:=mem_ready.1 af;have nk:i<ops.size:=(Array.getElem?_eq_some_iff.1 ho).1;have yL:listed.getD i false=false:=by rw[<-r4 (by have:=bn.size;omega)];exact uu
  rw[ho] at mS;simp only at mS;have acd:=Am (i:=i) (listed:=listed) (by have:=bn.size;omega) uu;cases bb with
  |zero=>omega
  |succ bb=>
   obtain⟨sl,gH,vM⟩:=hl i o o1 ho;have LU:w8 P (ea gl sl) o=some (vs.getD i cL)/\B (i+1)=B i:=by
    rcases vM with ⟨_,h⟩|⟨aq,_⟩
    ·exact h
    ·exact absurd Au aq
   obtain⟨uj,tl⟩:=LU;have r5:∀b e,e7 b=some e->restrict e7 (B i).n b=some e:=λb e ad=>by
    have gw:=kA.lt ad;have:=iu.r6 (Nat.zero_le i) ao;unfold restrict;rw[aN ao];exact ad
   have Cg:∀t v,sl.get t=some v->aD (restrict e7 (B i).n) v (a.tmps.getD t undef):=by
    intro t v oZ;rcases ow _ _ _ gH t v oZ with ⟨j,hj,a_,rfl⟩|⟨w9,Ef⟩
    ·have yM:=ub i o o1 ho j hj
     have eG:=ra i j nk yM;have ov:=vJ af j yM;have hval:=bn.val j t ao ov a_;have e1:(vs.take i).getD j cL=vs.getD j cL:=by
      simp only [dr,List.getElem?_take,aN eG]
     rw[e1];exact hval.mono (SE (iu.r6 ao ao))
    ·rcases ow _ _ _ ek t v Ef with ⟨j,hj,a_,rfl⟩|⟨HC,ur⟩
     ·exact .cL _
     ·rw[bn.other t λj hj _=>HC j (List.mem_range.2 hj)]
      exact(yJ.get t v ur).mono r5
   obtain⟨aB,eQ,aC⟩:=Eb cF (gg (Ci.mono r5) Cg) uj;have vR:Region.wanted o (yielded ops a.tmps)=true:=by
    unfold w7 at mS;unfold Region.wanted;cases az:o.guard with
    |none=>rfl
    |some g=>rw[az] at mS;simp at mS
   have LW:∀w,o.about P w a.eval=none:=by
    intro w;unfold Oper.about;unfold w7 at mS;cases cj:o.op<;>simp only [cj,Bool.and_false,Bool.false_eq_true] at mS ⊢
   have LX:YieldsFenced P ops o aB a:=⟨.inl ⟨vR,eQ⟩,LW⟩;refine wpAnyIn_take (F:=Fr ro) (by rw[Ek];rfl) ho nW Av vP (λc a w h=>absurd h (pE c _ w)) LX ?_;refine cd bb _ _ (λ_=>Ek) w_ (λk ag=>hr k (List.mem_cons_of_mem _ ag)) (λj hj eX=> ?_) (bn.aca o1 hm ho yL (vJ af) mR b8 tl aC) ao;by_cases eG:j=i
   ·subst eG
    refine .inl ?_;have:=bn.size;simp [e5,show j<listed.size by omega]
   ·rw[getD_set_ne false (Ne.symm eG)]
    rcases hL j hj eX with h|h
    ·exact .inl h
    ·rcases List.mem_cons.1 h with rfl|h
     ·exact absurd rfl eG
     ·exact .inr h
end
omit [aY] in
theorem ace {ops:Array Oper} {N:Nat} {gh:Bool} {L:List Nat} {m:Nat} (h:LK ops N gh=some (L,m)):
  uq ops L m N=true/\vK ops L (Array.replicate ops.size false)=true/\(∀i∈L,i<m)/\(gh=true->L=[]):=by
 unfold LK at h;simp only at h;generalize hm:LJ (SA (bif gh then [] else uo ops)) ops.toList 0 [] 0=m' at h;generalize hL:(bif gh then [] else uo ops).filter (λi=>Nat.blt i m')=L' at h;cases ad:(uq ops L' m' N&&vK ops L' (Array.replicate ops.size false)) with
 |false=>rw[ad] at h;cases h
 |true=>
  rw[ad] at h;cases h;simp only [c0] at ad;refine⟨ad.1,ad.2,λi af=> ?_,λhr=> ?_⟩
  ·rw[<-hL] at af
   exact Nat.blt_eq.mp (List.mem_filter.1 af).2
  ·rw[<-hL,hr];rfl
section
variable {P:aQ} [Lib P] [dX P] {C:hN} {gl:b4 Nat} {N:Nat}
theorem SO (cD:P.follows .mixedOrders=true) (cH:k8 P gl C) {ro:Option Nat} {ds:List Deferred} {Q:Exit->Act->au->Prop} {id:Nat} {ops:Array Oper} {sl dT:aT} {A aV:aW} {r:List Oper} {φ:bQ} {w:au} {a:Act} (hr:bR φ A w) (az:lZ gl φ) (av:fu N ds φ sl a) {gh:Bool} (dC:gh=false->ro=none) (pE:∀c a w,¬Q (.panic c) a w)
  (h:Hw P C gl N gh ops sl A=some (dT,aV,r)) (cQ:∀cR aS w',fu N ds cR dT aS->cg φ A w cR aV w'->wpListIn (Fr ro) 0 P ops Q r aS w'):(Code.region id ops true).wpIn (Fr ro) 0 P Q a w:=by
 unfold Hw at h;split at h
 ·rename_i L m Ee
  obtain⟨hM,El,LY,acf⟩:=ace Ee;have acg:m<=ops.size:=(Ed hM).1;split at h
  ·rename_i dE ek
   split at h
   ·rename_i vs bt cF
    cases ad:Nat.ble bt.n dead with
    |false=>rw[ad] at h;cases h
    |true=>
     rw[ad,bw] at h;split at h
     ·rename_i eu h1
      cases h;obtain⟨B,cX,jK,jY,rY,t_⟩:=SB _ 0 [] _ _ _ rfl cF;have hlen:(ops.toList.take m).length=m:=by simp;omega
      rw[hlen] at jK;subst cX;have hl:∀i o,i<m->ops[i]? =some o->Cf P C gl N ops L m dE i o (vs.take i) (vs.getD i cL) (B i) (B (i+1)):=by
       intro i o af ho;have:=t_ i o (by rw[List.getElem?_take,aN af];simpa using ho);simpa using this
      have kA:bR φ (B 0) {w with drawn:=w.drawn+1}:=(cg.yx hr (w.drawn+1)).rel;obtain⟨_,_,_,_,ub,ra,_⟩:=Ed hM;have iu:ox φ B vs m:=abY cH kA az rfl acg (λt v aC=>⟨_,av.get t v aC⟩) ek (λi o af ho j hj=>ra i j ao (ub i o af ho j hj)) hl;refine wpIn_region_any cD ?_;refine acb hM cH.facts iu kA az av ek pE hl (λbb listed ej LV Cj SP=>ab9 hM cH iu kA az av (by rw[jK];exact Nat.ble_eq.mp ad) ek h1 hl (λfY dD w1 q1 aE=> ?_) bb listed ej _ φ LV Cj SP) L ops.size _ a ?_ El (λi af=>⟨af,LY i af⟩) (λj hj _=> .inr hj) ?_ ?_
      ·rw[jK] at aE
       exact cQ fY dD w1 q1 (cg.trans hr (cg.yx hr (w.drawn+1)) aE)
      ·intro cC
       refine dC ?_;cases Aw:gh with
       |false=>rfl
       |true=>exact absurd (acf Aw) cC
      ·have aP:∀i,(Array.replicate ops.size false).getD i false=false:=λi=>by
        rw[e5,Array.getElem?_replicate];split<;>rfl
       have LZ:∀b e,φ b=some e->¬(B 0).n<=b:=λb e ad=>by have:=kA.lt ad;omega
       refine⟨by simp,λi j af=>absurd af (by rw[aP];simp),λi _=>aP i,av.defers,av.size,?_,λ_ _=>rfl,λb e aJ ad=>absurd aJ (LZ b e ad),λj b _ hl=>absurd hl (by rw[aP];simp),
        λb e aJ ad=>absurd aJ (LZ b e ad),λj b e b' e' hj ho _ ad=> ?_,λ_ _ _=>rfl,bY _,rfl,rfl,rfl,bY _,λ_ _=>rfl,λi t _ hl=>absurd hl (by rw[aP];simp)⟩
       ·obtain⟨ψ,w',g1,_⟩:=iu.ex m (bY _)
        refine⟨g1.wf,λb e ad=> ?_,λb e k b' e' k' ad dN ag dm cC=> ?_,λb e k b' e' k' ad dN ag dm aP jt=> ?_,kA.dg⟩
        ·obtain⟨k,ag,q1,aE⟩:=kA.ep b e ad
         exact⟨k,by rw[iu.vN (Nat.zero_le m) (bY _) b (kA.lt ad)];exact ag,q1,aE⟩
        ·rw[iu.vN (Nat.zero_le m) (bY _) b (kA.lt ad)] at ag
         rw[iu.vN (Nat.zero_le m) (bY _) b' (kA.lt dN)] at dm;exact kA.apart b e k b' e' k' ad dN ag dm cC
        ·rw[iu.vN (Nat.zero_le m) (bY _) b (kA.lt ad)] at ag
         rw[iu.vN (Nat.zero_le m) (bY _) b' (kA.lt dN)] at dm;exact kA.along b e k b' e' k' ad dN ag dm aP jt
       ·exfalso
        have:=iu.r6 (Nat.zero_le j) ao;exact LZ b e ad (Nat.le_trans this ho.1)
      ·unfold tk
       exact Nat.le_trans List.count_le_length (by simp)
     ·cases h
   ·cases h
  ·cases h
 ·cases h
theorem ach (cD:P.follows .mixedOrders=true) (cH:k8 P gl C) {ro:Option Nat} {ds:List Deferred} {Q:Exit->Act->au->Prop} {id:Nat} {ops:Array Oper} {sl dT:aT} {A aV:aW} {φ:bQ} {w:au} {a:Act} (hr:bR φ A w) (az:lZ gl φ) (av:fu N ds φ sl a) {gh:Bool} (dC:gh=false->ro=none) (pE:∀c a w,¬Q (.panic c) a w)
  (h:LL P C gl N gh ops sl A=some (dT,aV)) (cQ:∀cR aS w',fu N ds cR dT aS->cg φ A w cR aV w'->Q .normal aS w'):(Code.region id ops true).wpIn (Fr ro) 0 P Q a w:=by
 unfold LL at h;split at h
 ·rename_i eu bt r h1
  refine SO cD cH hr az av dC pE h1 λfY dD w1 q1 aE=> ?_
  refine LF cH _ _ _ _ _ _ _ _ aE.rel (az.mono (aE.ext hr)) q1 h λe_ ej w2 cS dL=> ?_
  exact cQ e_ ej w2 cS (cg.trans hr aE dL)
 ·cases h
end
end AE
namespace AE
mutual
def yO:U->U->Bool
 | .bool a,.bool b=>a==b
 | .int k n,.int k' fz=>decide (k=k')&&decide (n=fz)
 | .complex k a b,.complex k' aS b'=>decide (k=k')&&(Nat.beq a aS&&Nat.beq b b')
 | .string s,.string t=>s.data.toList==t.data.toList
 | .pointer none,.pointer none=>true
 | .pointer (some ⟨b,o,none⟩),.pointer (some ⟨b',o',none⟩)=>Nat.beq b b'&&Nat.beq o o'
 | .slice none l c,.slice none l' c'=>Nat.beq l l'&&Nat.beq c c'
 | .slice (some ⟨b,o,none⟩) l c,.slice (some ⟨b',o',none⟩) l' c'=>(Nat.beq b b'&&Nat.beq o o')&&(Nat.beq l l'&&Nat.beq c c')
 | .map none,.map none=>true
 | .map (some a),.map (some b)=>Nat.beq a b
 | .nilFunc,.nilFunc=>true
 | .nilIface,.nilIface=>true
 | .func (.func f) ⟨a⟩ ⟨b⟩,.func (.func g) ⟨aS⟩ ⟨b'⟩=>Nat.beq f g&&(tq a aS&&tq b b')
 | .func (.yield f) ⟨a⟩ ⟨b⟩,.func (.yield g) ⟨aS⟩ ⟨b'⟩=>Nat.beq f g&&(tq a aS&&tq b b')
 | .iface t v,.iface da aB=>Nat.beq t da&&yO v aB
 | .agg ⟨l⟩,.agg ⟨l'⟩=>tq l l'
 | .tuple ⟨l⟩,.tuple ⟨l'⟩=>tq l l'
 |_,_=>false
def tq:List U->List U->Bool
 |[],[]=>true
 |v::r,aB::dY=>yO v aB&&tq r dY
 |_,_=>false
end
mutual
theorem Em:∀(a b:U),yO a b=true->a=b:=by
 intro a b h;unfold yO at h;split at h<;>try (simp only [c0,decide_eq_true_eq] at h)
 ·rw[eq_of_beq h]
 ·rw[h.1,h.2]
 ·rw[h.1,ct h.2.1,ct h.2.2]
 ·rename_i s t
  have:=eq_of_beq h;obtain⟨⟨s⟩⟩:=s;obtain⟨⟨t⟩⟩:=t;simp only at this;rw[this]
 ·rfl
 ·rw[ct h.1,ct h.2]
 ·rw[ct h.1,ct h.2]
 ·rw[ct h.1.1,ct h.1.2,ct h.2.1,ct h.2.2]
 ·rfl
 ·rw[ct h]
 ·rfl
 ·rfl
 ·rw[ct h.1,yP _ _ h.2.1,yP _ _ h.2.2]
 ·rw[ct h.1,yP _ _ h.2.1,yP _ _ h.2.2]
 ·rename_i t v da aB
  rw[ct h.1,Em v aB h.2]
 ·rw[yP _ _ h]
 ·rw[yP _ _ h]
 ·cases h
theorem yP:∀(a b:List U),tq a b=true->a=b
 |[],[],_=>rfl
 |v::r,aB::dY,h=>by
  unfold tq at h;simp only [c0] at h;rw[Em v aB h.1,yP r dY h.2]
 |[],_::_,h=>by simp [tq] at h
 |_::_,[],h=>by simp [tq] at h
end
def aci {α:Type} (f:α->α->Bool):Option α->Option α->Bool
 |none,none=>true
 |some a,some b=>f a b
 |_,_=>false
def Ax {α:Type} (f:α->α->Bool):b4 α->b4 α->Bool
 | .nil,.nil=>true
 | .node v l r,.node aB l' dY=>aci f v aB&&(Ax f l l'&&Ax f r dY)
 |_,_=>false
theorem En {α:Type} {f:α->α->Bool} (aP:∀a b,f a b=true->a=b):∀(a b:b4 α),Ax f a b=true->a=b
 | .nil,.nil,_=>rfl
 | .nil,.node _ _ _,h=>by cases h
 | .node _ _ _,.nil,h=>by cases h
 | .node v l r,.node aB l' dY,h=>by
   unfold Ax at h;simp only [c0] at h;rw[En aP l l' h.2.1,En aP r dY h.2.2];have h1:=h.1;cases v with
   |none=>cases aB with
    |none=>rfl
    |some b=>cases h1
   |some a=>cases aB with
    |none=>cases h1
    |some b=>rw[aP a b h1]
def SQ (a b:jP):Bool:=yO a.key b.key&&(yO a.val b.val&&Nat.beq a.born b.born)
def HD:List jP->List jP->Bool
 |[],[]=>true
 |a::r,b::dY=>SQ a b&&HD r dY
 |_,_=>false
theorem SR:∀(a b:List jP),HD a b=true->a=b
 |[],[],_=>rfl
 |[],_::_,h=>by cases h
 |_::_,[],h=>by cases h
 |⟨k,v,n⟩::r,⟨k',aB,fz⟩::dY,h=>by
  unfold HD SQ at h;simp only [c0] at h;rw[Em _ _ h.1.1,Em _ _ h.1.2.1,ct h.1.2.2,SR r dY h.2]
def L0:p3->p3->Bool
 | .cells c,.cells c'=>tq c c'
 | .map es eE,.map c9 acj=>HD es c9&&Nat.beq eE acj
 | .fL (.wM s p),.fL (.wM e6 p')=>s.data.toList==e6.data.toList&&Nat.beq p p'
 | .fL .deferred,.fL .deferred=>true
 | .fL .gone,.fL .gone=>true
 |_,_=>false
theorem ack {a b:p3} (h:L0 a b=true):a=b:=by
 unfold L0 at h;split at h<;>try (simp only [c0] at h)
 ·rw[yP _ _ h]
 ·rw[SR _ _ h.1,ct h.2]
 ·rename_i s p e6 p'
  have:=eq_of_beq h.1;obtain⟨⟨s⟩⟩:=s;obtain⟨⟨e6⟩⟩:=e6;simp only at this;rw[this,ct h.2]
 ·rfl
 ·rfl
 ·cases h
def L1 (a b:hE):Bool:=L0 a.obj b.obj&&((Nat.beq a.cE b.cE&&Nat.beq a.pos b.pos)&&((Nat.beq a.eB b.eB&&Nat.beq a.ty b.ty)&&a.ro==b.ro))
theorem acm {a b:hE} (h:L1 a b=true):a=b:=by
 obtain⟨o,f,p,s,r,t⟩:=a;obtain⟨o',iC,p',e6,dY,da⟩:=b;unfold L1 at h;simp only [c0] at h;obtain⟨h1,⟨ae,ay⟩,⟨bE,cn⟩,cy⟩:=h;rw[ack h1,ct ae,ct ay,ct bE,ct cn,eq_of_beq cy]
def HE:List Nat->List Nat->Bool
 |[],[]=>true
 |a::r,b::dY=>Nat.beq a b&&HE r dY
 |_,_=>false
theorem SS:∀(a b:List Nat),HE a b=true->a=b
 |[],[],_=>rfl
 |[],_::_,h=>by cases h
 |_::_,[],h=>by cases h
 |a::r,b::dY,h=>by
  unfold HE at h;simp only [c0] at h;rw[ct h.1,SS r dY h.2]
def HF (x y:aT×aW):Bool:=Ax yO x.1 y.1&&((Ax L1 x.2.bl y.2.bl&&Ax HE x.2.mem y.2.mem)&&(Nat.beq x.2.n y.2.n&&Nat.beq x.2.low y.2.low))
theorem acn {x y:aT×aW} (h:HF x y=true):x=y:=by
 obtain⟨sl,bl,n,mem,low⟩:=x;obtain⟨dT,ald,fz,ale,alf⟩:=y;unfold HF at h;simp only [c0] at h;obtain⟨h1,⟨ae,ay⟩,bE,cn⟩:=h;rw[En Em _ _ h1,En (λ_ _=>acm) _ _ ae,En SS _ _ ay,ct bE,ct cn]
def Ay (P:aQ) [Lib P] [dX P] (C:hN) (gl:b4 Nat) (N:Nat) (ops:Array Oper):Nat->Array Bool->aT->aW->Option (aT×aW)
 |0,listed,sl,A=>match Region.ready .any ops listed with
  |[]=>some (sl,A)
  |_::_=>none
 |f+1,listed,sl,A=>
  let go:=λi=>match ops[i]? with
   |some o=>match vH P C gl N ops o sl A with
    |some (eu,bt)=>Ay P C gl N ops f (listed.setIfInBounds i true) eu bt
    |none=>none
   |none=>none
  match Region.ready .any ops listed with
  |[]=>some (sl,A)
  |i::r=>match go i with
   |some x=>match r.all (λj=>match go j with|some y=>HF x y|none=>false) with
    |true=>some x
    |false=>none
   |none=>none
def HG (P:aQ) [dX P] (gl:b4 Nat) (N:Nat) (ops:Array Oper):List Nat->aT->Option aT
 |[],sl=>some sl
 |i::r,sl=>match ops[i]? with
  |some o=>match w8 P (ea gl sl) o with
   |some v=>match gy N sl o.dst v with
    |some eu=>HG P gl N ops r eu
    |none=>none
   |none=>none
  |none=>none
def HH:List Nat->Array Bool->Array Bool
 |[],l=>l
 |i::r,l=>HH r (l.setIfInBounds i true)
def HI (P:aQ) [Lib P] [dX P] (C:hN) (gl:b4 Nat) (N:Nat) (gh:Bool) (ops:Array Oper) (sl:aT) (A:aW):Option (aT×aW):=
 let L:=bif gh then [] else uo ops
 bif Nat.ble ops.size (L.length+64)&&(Region.noSelect ops&&(vK ops L (Array.replicate ops.size false)&&Nat.ble L.length ops.size)) then
  match HG P gl N ops L sl with
  |some eu=>Ay P C gl N ops (ops.size-L.length) (HH L (Array.replicate ops.size false)) eu A
  |none=>none
 else none
variable [aY]
section
variable {P:aQ} [Lib P] [dX P] {C:hN} {gl:b4 Nat} {N:Nat} {ds:List Deferred} {ro:Option Nat} {ops:Array Oper} {Q:Exit->Act->au->Prop}
theorem SU (cH:k8 P gl C):∀(f:Nat) (listed:Array Bool) (sl dT:aT) (A aV:aW) (φ:bQ) (w:au) (a:Act),bR φ A w->lZ gl φ->fu N ds φ sl a->Ay P C gl N ops f listed sl A=some (dT,aV)->
  (∀cR aS w',fu N ds cR dT aS->cg φ A w cR aV w'->Q .normal aS w')->wpAnyIn (Fr ro) 0 P .any ops Q f listed a w
 |0,listed,sl,dT,A,aV,φ,w,a,hr,az,av,h,cQ=>by
  unfold Ay at h;split at h
  ·rename_i vS
   cases h;exact wpAnyIn_done vS (cQ φ a w av (cg.refl hr)) 0
  ·cases h
 |f+1,listed,sl,dT,A,aV,φ,w,a,hr,az,av,h,cQ=>by
  unfold Ay at h;simp only at h;split at h
  ·rename_i vS
   cases h;exact wpAnyIn_done vS (cQ φ a w av (cg.refl hr)) _
  ·rename_i i r vS
   have kL:∀j∈i::r,(match ops[j]? with
     |some o=>match vH P C gl N ops o sl A with
      |some (eu,bt)=>Ay P C gl N ops f (listed.setIfInBounds j true) eu bt
      |none=>none
     |none=>none)=some (dT,aV):=by
    split at h
    ·rename_i x ak
     split at h
     ·rename_i ad
      cases h;intro j hj;rcases List.mem_cons.1 hj with rfl|hj
      ·exact ak
      ·have dN:=List.all_eq_true.1 ad j hj
       revert dN;generalize (match ops[j]? with
        |some o=>match vH P C gl N ops o sl A with
         |some (eu,bt)=>Ay P C gl N ops f (listed.setIfInBounds j true) eu bt
         |none=>none
        |none=>none)=z
       intro dN;cases z with
       |none=>cases dN
       |some y=>rw[acn dN]
     ·cases h
    ·cases h
   refine wpAnyIn_all vS (by simp) λj hj=> ?_
   have gn:=kL j hj;split at gn
   ·rename_i o ho
    split at gn
    ·rename_i eu bt cB
     obtain⟨v,aC,hp⟩:=LC cB;unfold wpOpIn;rw[ho];refine Hv cH hr az av.get aC λcR aB w' w3 oY=> ?_
     exact SU cH f _ eu dT bt aV cR w' (a.put o.dst aB) oY.rel (az.mono (oY.ext hr)) ((av.mono (oY.ext hr)).put w3 hp) gn λe_ ej w2 h1 ae=>cQ e_ ej w2 h1 (cg.trans hr oY ae)
    ·cases gn
   ·cases gn
omit [Lib P] in
theorem SV (cF:qe P) (nW:Region.noSelect ops=true) (Ek:ro=none) (pE:∀c a w,¬Q (.panic c) a w) {φ:bQ} {w:au} (az:lZ gl φ):∀(L:List Nat) (bb:Nat) (listed:Array Bool) (sl dT:aT) (a:Act),fu N ds φ sl a->vK ops L listed=true->HG P gl N ops L sl=some dT->
  (∀aS,fu N ds φ dT aS->wpAnyIn (Fr ro) 0 P .any ops Q bb (HH L listed) aS w)->wpAnyIn (Fr ro) 0 P .any ops Q (bb+L.length) listed a w
 |[],bb,listed,sl,dT,a,av,_,h,cQ=>by
  cases h;exact cQ a av
 |i::r,bb,listed,sl,dT,a,av,w_,h,cQ=>by
  simp only [vK,c0] at w_;obtain⟨⟨vP,Av⟩,mS,w_⟩:=w_;unfold HG at h;split at h
  ·rename_i o ho
   rw[ho] at mS;simp only at mS;split at h
   ·rename_i v uj
    split at h
    ·rename_i eu eg
     obtain⟨aB,eQ,aC⟩:=Eb cF (gg az av.get) uj;have vR:Region.wanted o (yielded ops a.tmps)=true:=by
      unfold w7 at mS;unfold Region.wanted;cases az:o.guard with
      |none=>rfl
      |some g=>rw[az] at mS;simp at mS
     have LW:∀w,o.about P w a.eval=none:=by
      intro w;unfold Oper.about;unfold w7 at mS;cases cj:o.op<;>simp only [cj,Bool.and_false,Bool.false_eq_true] at mS ⊢
     have LX:YieldsFenced P ops o aB a:=⟨.inl ⟨vR,eQ⟩,LW⟩;show wpAnyIn (Fr ro) 0 P .any ops Q (bb+r.length+1) listed a w;refine wpAnyIn_take (F:=Fr ro) (by rw[Ek];rfl) ho nW Av vP (λc a w h=>absurd h (pE c _ w)) LX ?_;exact SV cF nW Ek pE az r bb _ eu dT (a.put o.dst aB) (av.put aC eg) w_ h cQ
    ·cases h
   ·cases h
  ·cases h
theorem SW (cD:P.follows .mixedOrders=true) (cH:k8 P gl C) {id:Nat} {sl dT:aT} {A aV:aW} {φ:bQ} {w:au} {a:Act} (hr:bR φ A w) (az:lZ gl φ) (av:fu N ds φ sl a) {gh:Bool} (dC:gh=false->ro=none) (pE:∀c a w,¬Q (.panic c) a w)
  (h:HI P C gl N gh ops sl A=some (dT,aV)) (cQ:∀cR aS w',fu N ds cR dT aS->cg φ A w cR aV w'->Q .normal aS w'):(Code.region id ops true).wpIn (Fr ro) 0 P Q a w:=by
 unfold HI at h;simp only at h;cases ad:(Nat.ble ops.size ((bif gh then [] else uo ops).length+64)&&(Region.noSelect ops&&(vK ops (bif gh then [] else uo ops) (Array.replicate ops.size false)&&Nat.ble (bif gh then [] else uo ops).length ops.size))) with
 |false=>rw[ad] at h;cases h
 |true=>
  rw[ad,bw] at h;simp only [c0] at ad;obtain⟨_,nW,El,hle⟩:=ad;have L2:=Nat.ble_eq.mp hle;split at h
  ·rename_i eu aI
   have cB:=cg.yx hr (w.drawn+1) (Nat.le_succ _);refine wpIn_region_any cD ?_;have yN:∀aS,fu N ds φ eu aS->wpAnyIn (Fr ro) 0 P .any ops Q (ops.size-(bif gh then [] else uo ops).length) (HH (bif gh then [] else uo ops) (Array.replicate ops.size false)) aS {w with drawn:=w.drawn+1}:=
    λaS mQ=>SU cH _ _ eu dT A aV φ _ aS cB.rel az mQ h λe_ ej w2 h1 ae=>cQ e_ ej w2 h1 (cg.trans hr cB ae)
   cases Az:gh with
   |true=>
    rw[Az] at aI yN;simp only [bw,List.length_nil,Nat.sub_zero] at aI yN;cases aI;exact yN a av
   |false=>
    rw[Az] at aI yN El L2;simp only [ei] at aI yN El L2;have:=SV cH.facts nW (dC Az) pE az (uo ops) (ops.size-(uo ops).length) _ sl eu a av El aI yN
    rwa [Nat.sub_add_cancel L2] at this
  ·cases h
end
end AE
namespace AE
variable [aY]
def aW.Ck (A:aW) (b:Nat) (x:BR):Option aW:=
 match A.bl.get b with
 |some k=>match k.obj,A.mem.get k.cE with
  | .fL _,some [m]=>bif Nat.beq m b&& !k.ro then
      match b4.set {k with obj:= .fL x} depth A.bl b with
      |some t=>some {A with bl:=t,low:=Nat.min A.low b}
      |none=>none
    else none
  |_,_=>none
 |none=>none
def aW.getLoop (A:aW) (b:Nat):Option zT:=
 match A.bl.get b with
 |some k=>match k.obj with
  | .fL (.loop fk)=>some fk
  |_=>none
 |none=>none
section
variable {P:aQ} {φ:bQ} {A aV:aW} {w:au}
theorem HJ (hr:bR φ A w) {b:Nat} {x:BR} {e:gZ} {o':Obj} (he:φ b=some e) (h:A.Ck b x=some aV) (ho:qV φ x o'):cg φ A w φ aV {w with heap:=w.heap.setIfInBounds e.bf o'}:=by
 unfold aW.Ck at h;split at h
 ·rename_i k ag
  split at h
  ·rename_i jg m fq mP
   cases al:(Nat.beq m b&& !k.ro) with
   |false=>rw[al] at h;cases h
   |true=>
    rw[al,bw] at h;simp only [c0,Bool.not_eq_true'] at al;have D3:m=b:=ct al.1;subst D3;have dC:=al.2;split at h
    ·rename_i t aI
     cases h;have gp:=λj=>b4.nS _ _ _ _ _ j aI
     obtain⟨d',hg,cB,B5⟩:=hr.ep m e he;rw[ag] at hg;cases hg;have b8:=B5.lt;have Lf:∀j b5,A.bl.get j=some b5->b5.cE=k.cE->j=m:=by
      intro j b5 hj aP;obtain⟨l,q1,aE⟩:=hr.wf.mem j b5 hj;rw[aP,mP] at q1;cases q1;simpa using aE
     have cC:∀j fE,j≠m->φ j=some fE->fE.bf≠e.bf:=by
      intro j fE hj hF;obtain⟨b5,hh,_,_⟩:=hr.ep j fE hF;exact hr.apart j fE b5 m e k hF he hh ag λaP=>hj (Lf j b5 hh aP)
     have pz:∀i,i≠e.bf->(w.heap.setIfInBounds e.bf o')[i]? =w.heap[i]? :=λi af=>by
      rw[Array.getElem?_setIfInBounds_ne (Ne.symm af)]
     have fN:∀j dG,t.get j=some dG->∃b5,A.bl.get j=some b5/\dG.cE=b5.cE/\dG.pos=b5.pos/\dG.ro=b5.ro:=by
      intro j dG hj;rw[gp] at hj;by_cases eX:j=m
      ·rw[aN eX] at hj
       cases hj;subst eX;exact⟨k,ag,rfl,rfl,rfl⟩
      ·rw[aO eX] at hj
       exact⟨dG,hj,rfl,rfl,rfl⟩
     refine {rel:=⟨⟨?_,?_,?_,?_⟩,?_,?_,?_,λi o af=>⟨by rw[pz i (Ne.symm ((hr.dg i o af).2 _ _ he))];exact(hr.dg i o af).1,(hr.dg i o af).2⟩⟩,ep:=λ_ _=>rfl,qW:=λb h1 ae=>absurd ae (by show ¬b<A.n;omega),new:=λb e h1 ae=>absurd (hr.lt ae) ao,py:=bY _,low:=Nat.min_le_left _ _,same:= ?_,ro:= ?_,keep:= ?_,fX:=by simp,os:=rfl,tape:=rfl,output:=rfl,drawn:=bY _}
     ·intro j dG hj
      obtain⟨b5,q1,_⟩:=fN j dG hj;exact hr.wf.lt j b5 q1
     ·intro j dG hj
      obtain⟨b5,q1,aE,_⟩:=fN j dG hj;rw[aE];exact hr.wf.s4 j b5 q1
     ·intro j dG hj
      obtain⟨b5,q1,aE,_⟩:=fN j dG hj;rw[aE];exact hr.wf.mem j b5 q1
     ·intro j oW fb oX hj gn aP
      obtain⟨b5,q1,aE,_,b9⟩:=fN j oW hj;obtain⟨dG,t',zZ,_,rX⟩:=fN fb oX gn;rw[b9,rX];exact hr.wf.tW j b5 fb dG q1 t' (by rw[<-aE,<-zZ];exact aP)
     ·intro j fE hj
      by_cases eX:j=m
      ·subst eX
       rw[he] at hj;cases hj;refine⟨{k with obj:= .fL x},by rw[gp,aN rfl],cB,?_⟩;unfold fy at B5;simp only [fq] at B5;simp only [fy];exact⟨B5.1,o',by rw[Array.getElem?_setIfInBounds_self_of_lt b8],ho⟩
      ·obtain⟨b5,hh,vu,hK⟩:=hr.ep j fE hj
       exact⟨b5,by rw[gp,aO eX];exact hh,vu,hK.mono (λ_ _ h=>h) (pz _ (cC j fE eX hj))⟩
     ·intro j fE oW fb p5 oX q1 aE hj gn mu
      obtain⟨b5,cS,dL,_⟩:=fN j oW hj;obtain⟨dG,te,ug,_⟩:=fN fb oX gn;exact hr.apart j fE b5 fb p5 dG q1 aE cS te (by rw[<-dL,<-ug];exact mu)
     ·intro j fE oW fb p5 oX q1 aE hj gn aP ad
      obtain⟨b5,cS,dL,fZ,_⟩:=fN j oW hj;obtain⟨dG,te,ug,B4,_⟩:=fN fb oX gn;rw[fZ,B4];exact hr.along j fE b5 fb p5 dG q1 aE cS te (by rw[<-dL,<-ug];exact aP) ad
     ·intro j hj kM
      show t.get j=_;rw[gp,aO];intro eX;subst eX;exact absurd (Nat.lt_of_lt_of_le kM (Nat.min_le_right A.low j)) (Nat.lt_irrefl j)
     ·intro j b5 hh qZ
      show t.get j=_;rw[gp,aO]
      ·exact hh
      ·intro eX
       subst eX;rw[ag] at hh;cases hh;rw[dC] at qZ;cases qZ
     ·intro i af kL
      refine pz i λrZ=> ?_
      have:=kL m e k he rZ.symm ag;rw[dC] at this;cases this
    ·cases h
  ·cases h
 ·cases h
theorem L3 (hr:bR φ A w) {b:Nat} {fk:zT} {e:gZ} (h:A.getLoop b=some fk) (he:φ b=some e):∃r,w.heap[e.bf]? =some (.loop r)/\qV φ (.loop fk) (.loop r)/\(Instr.getLoop e.bf).run P w= .ok r w/\
  ∀dY,(setObj e.bf (.loop dY)).run P w= .ok () {w with heap:=w.heap.setIfInBounds e.bf (.loop dY)}:=by
 unfold aW.getLoop at h;split at h
 ·rename_i k ag
  split at h
  ·rename_i alg fq
   cases h;obtain⟨k',dm,_,ho⟩:=hr.ep b e he;rw[ag] at dm;cases dm;unfold fy at ho;simp only [fq] at ho;obtain⟨_,o',h1,ae⟩:=ho;obtain⟨r,rfl,_⟩:=id ae;refine⟨r,h1,ae,?_,λdY=> ?_⟩
   ·unfold Instr.getLoop
    exact c8 (a:= .loop r) (w1:=w) (p_ h1 (λ_ _ _ h=>by cases h)) rfl
   ·simp only [setObj,Sem.run,h1]
  ·cases h
 ·cases h
inductive qi (φ:bQ):List Nat->List Deferred->Prop where
 |nil:qi φ [] []
 |cons {b:Nat} {e:gZ} {ms:List Nat} {ds:List Deferred} (h:φ b=some e) (hm:qi φ ms ds):qi φ (b::ms) ({target:= .collected e.bf,args:= #[]}::ds)
omit [aY] in
theorem qi.mono {φ cR:bQ} {ms:List Nat} {ds:List Deferred} (hF:∀b e,φ b=some e->cR b=some e) (h:qi φ ms ds):qi cR ms ds:=by
 induction h with
 |nil=>exact .nil
 |cons h _ cd=>exact .cons (hF _ _ h) cd
def xb (A:aW):List Nat->Option aW
 |[]=>some A
 |b::r=>match A.bl.get b with
  |some k=>match k.obj with
   | .fL .deferred=>match A.Ck b .gone with
     |some bt=>xb bt r
     |none=>none
   |_=>none
  |none=>none
theorem L4 {fn:Func} {tmps:Array U} {R:Ending->au->Prop}:∀(ms:List Nat) (ds:List Deferred) (A aV:aW) (w:au),bR φ A w->qi φ ms ds->xb A ms=some aV->
  (∀w',cg φ A w φ aV w'->LeavesInM (Fr none) 0 P fn tmps R [] .returning w')->LeavesInM (Fr none) 0 P fn tmps R ds .returning w
 |[],ds,A,aV,w,hr,hm,h,cQ=>by
  cases hm;cases h;exact cQ w (cg.refl hr)
 |b::ms,ds,A,aV,w,hr,hm,h,cQ=>by
  cases hm with
  |cons he hm=>
   rename_i e ds;unfold xb at h;split at h
   ·rename_i k ag
    split at h
    ·rename_i fq
     split at h
     ·rename_i bt av
      obtain⟨k',dm,_,ho⟩:=hr.ep b e he;rw[ag] at dm;cases dm;unfold fy at ho;simp only [fq] at ho;obtain⟨_,o',h1,ae⟩:=ho;cases ae;have cB:=HJ (o':= .deferred none) hr he av rfl;refine⟨by simp,.inl ⟨e.bf,_,rfl,?_,L4 ms ds bt aV _ cB.rel (hm.mono (cB.ext hr)) h λw' hw=>cQ w' (cg.trans hr cB hw)⟩⟩;unfold Instr.takeDeferred;refine c8 (a:= .deferred (some [])) (w1:=w) (p_ h1 (λ_ _ _ h=>by cases h)) ?_;exact c8 (a:=()) (by simp only [setObj,Sem.run,h1]) rfl
     ·cases h
    ·cases h
   ·cases h
inductive kC where
 |normal
 |exit (id:Nat)
 |goto (l:Nat)
 |ret
def kC.exit':kC->Exit
 | .normal=> .normal
 | .exit id=> .exit id
 | .goto l=> .goto l
 | .ret=> .ret
structure b6 where
 sl:aT
 ms:List Nat
 A:aW
def xc (φ:bQ) (A:aW) (w:au) (N:Nat) (x:kC) (s:b6) (e:Exit) (aS:Act) (w':au):Prop:=
 e=x.exit'/\∃cR ds,qi cR s.ms ds/\fu N ds cR s.sl aS/\cg φ A w cR s.A w'
theorem xc.trans {φ fY:bQ} {A bt:aW} {w w1:au} {N:Nat} {x:kC} {s:b6} {e:Exit} {ej:Act} {w2:au} (hr:bR φ A w) (h1:cg φ A w fY bt w1) (ae:xc fY bt w1 N x s e ej w2):xc φ A w N x s e ej w2:=by
 obtain⟨h,e_,ds,j2,q1,aE⟩:=ae;exact⟨h,e_,ds,j2,q1,cg.trans hr h1 aE⟩
end
def HK (f:b6->Option (kC×b6)):Nat->b6->Option (kC×b6)
 |0,_=>none
 |n+1,s=>match f s with
  |some (x,s1)=>match x with
   | .normal=>HK f n s1
   | .exit id=>some (.exit id,s1)
   | .goto l=>some (.goto l,s1)
   | .ret=>some (.ret,s1)
  |none=>none
def L5:Option Code->Option kC
 |none=>some .normal
 |some .ret=>some .ret
 |some (.exit id)=>some (.exit id)
 |some (.goto l)=>some (.goto l)
 |_=>none
def SX:LoopState->Bool
 | .busy=>true
 |_=>false
def L6 (P:aQ) [Lib P] [dX P] (C:hN) (gl:b4 Nat) (N:Nat) (g:Operand) (ps:Array Tmp) (my body:Code) (s:b6):Option (kC×b6):=
 match ea gl s.sl g with
 | .func (.func f) ⟨first⟩ ⟨L7⟩=>bif enters P f then
     match s.A.push (.fL .deferred) 0 0 with
     |some (d,bt)=>match bt.push (.fL (.loop {state:= .ready,pending:=none,sl:=s.sl,N,params:=ps.toList,assign:=my,body,DH:=d})) 0 0 with
      |some (l,eH)=>match C.call f (first++[.func (.yield l) ⟨[]⟩ ⟨[]⟩]++L7) eH with
       |some (_,iG)=>match iG.getLoop l with
        |some fk=>bif SX fk.state then none else
         match iG.Ck l (.loop {fk with state:= .exhausted}),L5 fk.pending with
         |some l2,some x=>some (x,{sl:=s.sl,ms:=d::s.ms,A:=l2})
         |_,_=>none
        |none=>none
       |none=>none
      |none=>none
     |none=>none
   else none
 |_=>none
def l3 (P:aQ) [Lib P] [dX P] (C:hN) (gl:b4 Nat) (N:Nat) (gh:Bool) (bb:Nat):Code->b6->Option (kC×b6)
 | .skip,s=>some (.normal,s)
 | .label _,s=>some (.normal,s)
 | .exit id,s=>some (.exit id,s)
 | .goto l,s=>some (.goto l,s)
 | .ret,s=>some (.ret,s)
 | .region _ ops d,s=>match (bif d then (match LL P C gl N gh ops s.sl s.A with|some r=>some r|none=>HI P C gl N gh ops s.sl s.A) else vI P C gl N ops ops.toList s.sl s.A) with
   |some (eu,bt)=>some (.normal,{sl:=eu,ms:=s.ms,A:=bt})
   |none=>none
 | .seq x y,s=>match l3 P C gl N gh bb x s with
   |some (x,s1)=>match x with
    | .normal=>l3 P C gl N gh bb y s1
    | .exit id=>some (.exit id,s1)
    | .goto l=>some (.goto l,s1)
    | .ret=>some (.ret,s1)
   |none=>none
 | .cond c x y,s=>match ea gl s.sl c with
   | .bool t=>bif t then l3 P C gl N gh bb x s else l3 P C gl N gh bb y s
   |v=>match Ak P v with
    |some t=>bif t then l3 P C gl N gh bb x s else l3 P C gl N gh bb y s
    |none=>none
 | .block id x,s=>match l3 P C gl N gh bb x s with
   |some (x,s1)=>match x with
    | .normal=>some (.normal,s1)
    | .exit id'=>bif Nat.beq id' id then some (.normal,s1) else some (.exit id',s1)
    | .goto l=>some (.goto l,s1)
    | .ret=>some (.ret,s1)
   |none=>none
 | .loop x,s=>HK (l3 P C gl N gh bb x) bb s
 | .scope _,_=>none
 | .rangeFunc g ps my body,s=>bif gh then none else L6 P C gl N g ps my body s
 | .refuse _,_=>none
def SY (P:aQ) (gl:b4 Nat) (N:Nat) (ro:Option Nat) (c:Code) (f:b6->Option (kC×b6)):Prop:=
 ∀(s:b6) (x:kC) (e6:b6) (φ:bQ) (w:au) (a:Act) (ds:List Deferred),f s=some (x,e6)->bR φ s.A w->lZ gl φ->qi φ s.ms ds->fu N ds φ s.sl a->c.wpIn (Fr ro) 0 P (xc φ s.A w N x e6) a w
section
variable {P:aQ} {gl:b4 Nat} {N:Nat} {ro:Option Nat}
theorem SZ {c:Code} {f:b6->Option (kC×b6)} (aP:SY P gl N ro c f):∀(n:Nat) (s:b6) (x:kC) (e6:b6) (φ:bQ) (w:au) (a:Act) (ds:List Deferred),HK f n s=some (x,e6)->bR φ s.A w->lZ gl φ->qi φ s.ms ds->fu N ds φ s.sl a->
  ∀(Q:Exit->Act->au->Prop),(∀e aS w',xc φ s.A w N x e6 e aS w'->Q e aS w')->Code.roundsIn (Fr ro) 0 P c Q n a w
 |0,s,x,e6,φ,w,a,ds,h,hr,az,hm,av,Q,cQ=>by cases h
 |n+1,s,x,e6,φ,w,a,ds,h,hr,az,hm,av,Q,cQ=>by
  unfold HK at h;show c.wpIn (Fr ro) 0 P (Exit.then (Code.roundsIn (Fr ro) 0 P c Q n) Q) a w;split at h
  ·rename_i gA s1 h1
   refine wpIn_mono (aP s gA s1 φ w a ds h1 hr az hm av) λe dD w1 ak=> ?_
   cases gA with
   |normal=>
    obtain⟨rfl,fY,Cl,j2,q1,aE⟩:=ak;exact SZ aP n s1 x e6 fY w1 dD Cl h aE.rel (az.mono (aE.ext hr)) j2 q1 Q λe aS w' hp=>cQ e aS w' (xc.trans hr aE hp)
   |exit Cm=>cases h;obtain⟨rfl,_⟩:=id ak;exact cQ _ _ _ ak
   |goto l=>cases h;obtain⟨rfl,_⟩:=id ak;exact cQ _ _ _ ak
   |ret=>cases h;obtain⟨rfl,_⟩:=id ak;exact cQ _ _ _ ak
  ·cases h
end
end AE
namespace AE
variable [aY]
section
variable {P:aQ} [Lib P] [dX P] {C:hN} {gl:b4 Nat} {N:Nat}
omit [aY] in
omit [Lib P] [dX P] in
theorem aco {F:Fence} {n:Nat} {Q:Exit->Act->au->Prop} {a:Act} {w:au} {c:Code} {x:kC} (h:L5 (some c)=some x) (cQ:Q x.exit' a w):c.wpIn F n P Q a w:=by
 cases c<;>simp only [L5,cx] at h<;>first|(cases h;done)|skip
 case ret=>cases h;exact wpIn_ret cQ
 case exit id=>cases h;exact wpIn_exit cQ
 case goto l=>cases h;exact wpIn_goto cQ
theorem acp (cH:k8 P gl C) {g:Operand} {ps:Array Tmp} {my body:Code} {s:b6} {x:kC} {e6:b6} {φ:bQ} {w:au} {a:Act} {ds:List Deferred} (h:L6 P C gl N g ps my body s=some (x,e6))
  (hr:bR φ s.A w) (az:lZ gl φ) (hm:qi φ s.ms ds) (av:fu N ds φ s.sl a):(Code.rangeFunc g ps my body).wpIn (Fr none) 0 P (xc φ s.A w N x e6) a w:=by
 unfold L6 at h;split at h
 ·rename_i f first L7 uv
  cases um:enters P f with
  |false=>rw[um] at h;cases h
  |true=>
   rw[um,bw] at h;split at h
   ·rename_i d bt hV
    split at h
    ·rename_i l eH iH
     split at h
     ·rename_i v iG al
      split at h
      ·rename_i fk acq
       cases ad:SX fk.state with
       |true=>rw[ad] at h;cases h
       |false=>
        rw[ad,ei] at h;split at h
        ·rename_i l2 x' L8 hj
         cases h;have r9:=gg az av.get g;rw[uv] at r9;have acr:∃j_ cs',a.eval g= .func (.func f) j_ cs'/\hy first φ j_/\hy L7 φ cs':=by
          generalize a.eval g=u at r9;cases r9 with
          |func _ j_ _ cs' aq h1 ae ay bE=>exact⟨j_,cs',rfl,hy.of h1 ay,hy.of ae bE⟩
         obtain⟨j_,cs',acs,Ls,gv⟩:=acr;have ot:=BV (o':= .deferred (some [])) (e:=⟨w.heap.size,0,0,0⟩) hr hV J J (by
          unfold fy
          exact⟨rfl,.deferred (some []),by simp,rfl⟩)
         have a_:=(hr.wf.push hV).2.1;refine wpIn_rangeFunc λfn _=> ?_
         let nX:Loop:={state:= .ready,pending:=none,fn:=fn,tmps:=a.tmps,params:=ps,assign:=my,body:=body,defers:=w.heap.size}
         have vw:=BV (o':= .loop nX) (e:=⟨w.heap.size+1,0,0,0⟩) ot.rel iH (by simp) rfl (by
          unfold fy;refine⟨rfl,.loop nX,by
           show ((w.heap.push (Obj.deferred (some []))).push (Obj.loop nX))[w.heap.size+1]? =_
           rw[Array.getElem?_push,aN (by simp)],nX,rfl,rfl,rfl,av.size,rfl,rfl,rfl,⟨⟨w.heap.size,0,0,0⟩,?_,rfl⟩,λt v aC=> ?_⟩
          ·have b8:=(ot.rel.wf.push iH).2.1
           have js:=(hr.wf.push hV).2.2.1;show gG _ _ _ d=_;unfold gG;rw[aO ao,aN rfl]
          ·refine(av.get t v aC).mono λb e ad=> ?_
           have b8:=(ot.rel.wf.push iH).2.1;have js:=(hr.wf.push hV).2.2.1;have:=hr.lt ad;unfold gG;rw[aO ao,aO ao]
           exact ad)
         have yQ:=cg.trans hr ot vw;have HL:=yQ.ext hr;have S0:gG (gG φ d ⟨w.heap.size,0,0,0⟩) l ⟨w.heap.size+1,0,0,0⟩ l=some ⟨w.heap.size+1,0,0,0⟩:=by unfold gG;rw[aN rfl]
         have HM:gG (gG φ d ⟨w.heap.size,0,0,0⟩) l ⟨w.heap.size+1,0,0,0⟩ d=some ⟨w.heap.size,0,0,0⟩:=by
          have b8:=(ot.rel.wf.push iH).2.1;have js:=(hr.wf.push hV).2.2.1;unfold gG;rw[aO ao,aN rfl]
         have acu:aD (gG (gG φ d ⟨w.heap.size,0,0,0⟩) l ⟨w.heap.size+1,0,0,0⟩) (.func (.yield l) ⟨[]⟩ ⟨[]⟩) (.func (.yield (w.heap.size+1)) #[] #[]):= .s3 S0;have S1:∀{S2:List U} {S3:Array U},hy S2 φ S3->hy S2 (gG (gG φ d ⟨w.heap.size,0,0,0⟩) l ⟨w.heap.size+1,0,0,0⟩) S3:=λh=>⟨h.1,λj hj=>(h.2 j hj).mono HL⟩
         have h1:hy [.func (.yield l) ⟨[]⟩ ⟨[]⟩] (gG (gG φ d ⟨w.heap.size,0,0,0⟩) l ⟨w.heap.size+1,0,0,0⟩) #[.func (.yield (w.heap.size+1)) #[] #[]]:=⟨rfl,λj hj=>by
          have:j=0:=by simpa using hj
          subst this
          exact acu⟩
         have gf:=((S1 Ls).append h1).append (S1 gv);refine⟨w.heap.size+1,[{target:= .collected w.heap.size,args:= #[]}],{w with heap:=(w.heap.push (.deferred (some []))).push (.loop nX)},{target:= .fn (.func f) cs',args:=j_++ #[.func (.yield (w.heap.size+1)) #[] #[]]},{w with heap:=(w.heap.push (.deferred (some []))).push (.loop nX)},f,j_++ #[.func (.yield (w.heap.size+1)) #[] #[]]++cs',{w with heap:=(w.heap.push (.deferred (some []))).push (.loop nX)},?_,?_,λ_ _=>trivial,?_,λh=>absurd h (by simp [Fr,Fence.wide]),
          CallsIn.mono (D_ (cH.call f _ eH v iG _ _ _ al yQ.rel (az.mono HL) gf)) λe HN he=> ?_⟩
         ·unfold Instr.enterLoop
          simp only [Fr];have KL:(newObj (.deferred (some []))).run P w= .ok w.heap.size {w with heap:=w.heap.push (.deferred (some []))}:=rfl;have fN:(newObj (.loop nX)).run P {w with heap:=w.heap.push (.deferred (some []))}= .ok (w.heap.size+1) {w with heap:=(w.heap.push (.deferred (some []))).push (.loop nX)}:=by
           simp only [newObj,Sem.run,Array.size_push]
          refine c8 KL ?_;refine cK (a:=(w.heap.size,[({target:= .collected w.heap.size,args:= #[]}:Deferred)])) rfl ?_;exact c8 (k:=λx=>pure (x,[({target:= .collected w.heap.size,args:= #[]}:Deferred)])) fN rfl
         ·unfold resolve
          simp only [rangeCall,acs,List.map_toArray,List.map_cons,List.map_nil];rfl
         ·exact jc (Hl um _) _
         ·cases e with
          |returned aB=>
           obtain⟨Eo,_,AA⟩:=he;have rb:=AA.ext yQ.rel _ _ S0;obtain⟨r,q1,aE,b9,ey⟩:=L3 (P:=P) AA.rel acq rb;obtain⟨dY,RA,acv,L9,vx⟩:=id aE;cases RA;have L_:=HJ (o':= .loop {r with state:= .exhausted}) AA.rel rb L8 (by
            obtain⟨tr,xd,AB,AD,Ep,Er⟩:=vx
            exact⟨{r with state:= .exhausted},rfl,rfl,L9,tr,xd,AB,AD,Ep,Er⟩)
           have Ma:=cg.trans hr yQ (cg.trans yQ.rel AA L_);have acw:qi Eo (d::s.ms) ({target:= .collected w.heap.size,args:= #[]}::ds):= .cons (AA.ext yQ.rel _ _ HM) (hm.mono λb e ad=>AA.ext yQ.rel _ _ (HL b e ad));have Es:fu N ({target:= .collected w.heap.size,args:= #[]}::ds) Eo s.sl {a with defers:=[{target:= .collected w.heap.size,args:= #[]}]++a.defers}:=
            ⟨av.size,by simp [av.defers],λt v aC=>(av.get t v aC).mono λb e ad=>AA.ext yQ.rel _ _ (HL b e ad)⟩
           refine⟨fk.pending,{HN with heap:=HN.heap.setIfInBounds (w.heap.size+1) (.loop {r with state:= .exhausted})},?_,?_⟩
           ·unfold Instr.endLoop
            refine c8 b9 ?_;have z_:(r.state==LoopState.busy)=false:=by
             rw[acv];cases cB:fk.state<;>rw[cB] at ad<;>first|rfl|cases ad
            rw[z_];simp only [Bool.false_eq_true,if_false];refine c8 (a:=()) (ey _) ?_;rw[L9];rfl
           ·have post:xc φ s.A w N x ⟨s.sl,d::s.ms,l2⟩ x.exit' {a with defers:=[{target:= .collected w.heap.size,args:= #[]}]++a.defers} {HN with heap:=HN.heap.setIfInBounds (w.heap.size+1) (.loop {r with state:= .exhausted})}:=
             ⟨rfl,Eo,_,acw,Es,Ma⟩
            cases yR:fk.pending with
            |none=>
             rw[yR] at hj;cases hj;exact post
            |some c=>
             rw[yR] at hj;exact aco hj post
          |panicked bL=>exact he.elim
          |outgrown=>exact he.elim
        ·cases h
      ·cases h
     ·cases h
    ·cases h
   ·cases h
 ·cases h
end
section
variable {P:aQ} [Lib P] [dX P] {C:hN} {gl:b4 Nat} {N:Nat}
theorem ts (cD:P.follows .mixedOrders=true) (cH:k8 P gl C) (gh:Bool) {ro:Option Nat} (dC:gh=false->ro=none) (bb:Nat):∀c:Code,SY P gl N ro c (l3 P C gl N gh bb c)
 | .skip,s,x,e6,φ,w,a,ds,h,hr,az,hm,av=>by cases h;exact wpIn_skip ⟨rfl,φ,ds,hm,av,cg.refl hr⟩
 | .label _,s,x,e6,φ,w,a,ds,h,hr,az,hm,av=>by cases h;exact wpIn_label ⟨rfl,φ,ds,hm,av,cg.refl hr⟩
 | .exit id,s,x,e6,φ,w,a,ds,h,hr,az,hm,av=>by cases h;exact wpIn_exit ⟨rfl,φ,ds,hm,av,cg.refl hr⟩
 | .goto l,s,x,e6,φ,w,a,ds,h,hr,az,hm,av=>by cases h;exact wpIn_goto ⟨rfl,φ,ds,hm,av,cg.refl hr⟩
 | .ret,s,x,e6,φ,w,a,ds,h,hr,az,hm,av=>by cases h;exact wpIn_ret ⟨rfl,φ,ds,hm,av,cg.refl hr⟩
 | .region id ops d,s,x,e6,φ,w,a,ds,h,hr,az,hm,av=>by
   unfold l3 at h;cases d with
   |true=>
    simp only [bw] at h;split at h
    ·rename_i s1 bt h1
     cases h;split at h1
     ·rename_i nX aJ
      cases h1;exact ach cD cH hr az av dC (λc a w ak=>by obtain⟨he,_⟩:=ak;cases he) aJ λe_ ej w2 cS dL=>⟨rfl,e_,ds,hm.mono (dL.ext hr),cS,dL⟩
     ·exact SW cD cH hr az av dC (λc a w ak=>by obtain⟨he,_⟩:=ak;cases he) h1 λe_ ej w2 cS dL=>⟨rfl,e_,ds,hm.mono (dL.ext hr),cS,dL⟩
    ·cases h
   |false=>
    simp only [ei] at h;split at h
    ·rename_i s1 bt h1
     cases h;exact wpIn_region_list (LF cH _ _ _ _ _ _ _ _ hr az av h1 λe_ ej w2 cS dL=>⟨rfl,e_,ds,hm.mono (dL.ext hr),cS,dL⟩)
    ·cases h
 | .seq ez c2,s,x,e6,φ,w,a,ds,h,hr,az,hm,av=>by
   unfold l3 at h;refine wpIn_seq ?_;split at h
   ·rename_i gA s1 h1
    refine wpIn_mono (ts cD cH gh dC bb ez s gA s1 φ w a ds h1 hr az hm av) λe dD w1 ak=> ?_
    cases gA with
    |normal=>
     obtain⟨rfl,fY,Cl,j2,q1,aE⟩:=ak;exact wpIn_mono (ts cD cH gh dC bb c2 s1 x e6 fY w1 dD Cl h aE.rel (az.mono (aE.ext hr)) j2 q1) λe ej w2 hp=>xc.trans hr aE hp
    |exit Cm=>cases h;obtain⟨rfl,_⟩:=id ak;exact ak
    |goto l=>cases h;obtain⟨rfl,_⟩:=id ak;exact ak
    |ret=>cases h;obtain⟨rfl,_⟩:=id ak;exact ak
   ·cases h
 | .cond c ez c2,s,x,e6,φ,w,a,ds,h,hr,az,hm,av=>by
   unfold l3 at h;split at h
   ·rename_i t al
    have Et:=gg az av.get c;rw[al] at Et;have Mb:a.eval c= .bool t:=by
     cases AF:a.eval c<;>rw[AF] at Et<;>cases Et
     rfl
    refine wpIn_cond Mb ?_;cases t with
    |true=>exact ts cD cH gh dC bb ez s x e6 φ w a ds h hr az hm av
    |false=>exact ts cD cH gh dC bb c2 s x e6 φ w a ds h hr az hm av
   ·split at h
    ·rename_i t aI
     refine wpIn_cond (Hs cH.facts w aI (gg az av.get c)) ?_;cases t with
     |true=>exact ts cD cH gh dC bb ez s x e6 φ w a ds h hr az hm av
     |false=>exact ts cD cH gh dC bb c2 s x e6 φ w a ds h hr az hm av
    ·cases h
 | .block S4 c,s,x,e6,φ,w,a,ds,h,hr,az,hm,av=>by
   unfold l3 at h;refine wpIn_block ?_;split at h
   ·rename_i gA s1 h1
    refine wpIn_mono (ts cD cH gh dC bb c s gA s1 φ w a ds h1 hr az hm av) λe dD w1 ak=> ?_
    cases gA with
    |normal=>cases h;obtain⟨rfl,_⟩:=id ak;exact ak
    |goto l=>cases h;obtain⟨rfl,_⟩:=id ak;exact ak
    |ret=>cases h;obtain⟨rfl,_⟩:=id ak;exact ak
    |exit Cm=>
     obtain⟨rfl,ak⟩:=ak;show if Cm=S4 then _ else _
     cases ad:Nat.beq Cm S4 with
     |true=>
      simp only [ad,bw] at h;cases h;rw[aN (ct ad)];exact⟨rfl,ak⟩
     |false=>
      simp only [ad,ei] at h;cases h;rw[aO (λe=>by subst e;rw[Nat.beq_refl] at ad;cases ad)];exact⟨rfl,ak⟩
   ·cases h
 | .loop c,s,x,e6,φ,w,a,ds,h,hr,az,hm,av=>by
   unfold l3 at h;exact wpIn_loop_rounds bb (SZ (ts cD cH gh dC bb c) bb s x e6 φ w a ds h hr az hm av _ λ_ _ _ ak=>ak)
 | .scope c,s,x,e6,φ,w,a,ds,h,hr,az,hm,av=>by cases h
 | .rangeFunc g ps my body,s,x,e6,φ,w,a,ds,h,hr,az,hm,av=>by
   unfold l3 at h;cases Az:gh with
   |true=>rw[Az] at h;cases h
   |false=>
    rw[Az,ei] at h;have:=dC Az;subst this;exact acp cH h hr az hm av
 | .refuse _,s,x,e6,φ,w,a,ds,h,hr,az,hm,av=>by cases h
end
def setArgs:Nat->List U->aT->Option aT
 |_,[],sl=>some sl
 |i,v::r,sl=>match b4.set v depth sl i with
  |some s=>setArgs (i+1) r s
  |none=>none
omit [aY] in
theorem Mc:∀(l:List U) (i:Nat) (sl dT:aT),setArgs i l sl=some dT->∀t v,dT.get t=some v->(∃j,j<l.length/\t=i+j/\v=l.getD j undef)\/sl.get t=some v
 |[],i,sl,dT,h,t,v,aC=>by
  cases h;exact .inr aC
 |u::r,i,sl,dT,h,t,v,aC=>by
  unfold setArgs at h;split at h
  ·rename_i s av
   rcases Mc r (i+1) s dT h t v aC with ⟨j,hj,aI,acx⟩|az
   ·exact .inl ⟨j+1,by simp;omega,ao,by simpa using acx⟩
   ·rw[b4.nS _ _ _ _ _ t av] at az
    by_cases aI:t=i
    ·subst aI
     rw[aN rfl] at az;cases az;exact .inl ⟨0,by simp,rfl,rfl⟩
    ·rw[aO aI] at az
     exact .inr az
  ·cases h
def vT (P:aQ) (A:aW) (sl:aT):List ResultVar->Option (List U)
 |[]=>some []
 | .tmp t::r=>match vT P A sl r with
   |some vs=>some (slot sl t::vs)
   |none=>none
 | .cell a t::r=>match BZ P A t (slot sl a),vT P A sl r with
   |some v,some vs=>some (v::vs)
   |_,_=>none
def xe:List U->U
 |[v]=>v
 |vs=> .tuple ⟨vs⟩
section
variable {P:aQ} {φ:bQ} {A aV:aW} {w:au}
theorem acy (hr:bR φ A w) {t:aH} {p p' v:U} (hp:aD φ p p') (h:BZ P A t p=some v):∃aB,(do loadVar t (<-asAddr p')).run P w= .ok aB w/\aD φ v aB:=by
 unfold BZ at h;split at h
 ·rename_i b off
  cases hp with
  |ptr he=>
   unfold loadVar;cases pA:a7 P (isAgg t) with
   |none=>rw[pA] at h;cases h
   |some DN=>
    rw[pA] at h;cases DN with
    |false=>
     simp only at h;obtain⟨aB,h1,ae⟩:=tY hr h he;refine⟨aB,cK (a:=(⟨_,_,none⟩:Addr)) rfl (cK pA ?_),ae⟩;simp [Go.load,Sem.run,h1]
    |true=>
     simp only at h;cases cb:a7 P (sizeOf t) with
     |none=>rw[cb] at h;cases h
     |some n=>
      rw[cb] at h;simp only at h;obtain⟨l,hl,rfl⟩:=Option.map_eq_some_iff.1 h;obtain⟨de,h1,ae,ay⟩:=DK hr P hl he;refine⟨.agg de,cK (a:=(⟨_,_,none⟩:Addr)) rfl (cK pA ?_),.agg _ _ (by simp [ae]) λi af=>by simpa using ay i (by simpa using af)⟩;simp only [if_true];exact cK cb (c8 h1 rfl)
 ·cases h
def Md (tmps:Array U):ResultVar->Sem U
 | .tmp t=>pure (tmps.getD t undef)
 | .cell a t=>do loadVar t (<-asAddr (tmps.getD a undef))
theorem Me (hr:bR φ A w) {sl:aT} {tmps:Array U} (av:∀t v,sl.get t=some v->aD φ v (tmps.getD t undef)):∀(l:List ResultVar) (vs:List U),vT P A sl l=some vs->
  ∃de,(l.mapM (Md tmps)).run P w= .ok de w/\hy vs φ ⟨de⟩
 |[],vs,h=>by
  cases h;exact⟨[],rfl,rfl,λj hj=>absurd hj (by simp)⟩
 | .tmp t::r,vs,h=>by
   unfold vT at h;split at h
   ·rename_i us hu
    cases h;obtain⟨Mf,h1,ae,ay⟩:=Me hr av r us hu;refine⟨tmps.getD t undef::Mf,?_,by simpa using ae,λj hj=> ?_⟩
    ·rw[List.mapM_cons]
     exact cK (a:=tmps.getD t undef) rfl (c8 h1 rfl)
    ·cases j with
     |zero=>exact Ht (av t)
     |succ j=>simpa using ay j (by simpa using hj)
   ·cases h
 | .cell a t::r,vs,h=>by
   unfold vT at h;split at h
   ·rename_i v us aC hu
    cases h;obtain⟨Mf,h1,ae,ay⟩:=Me hr av r us hu;obtain⟨aB,g1,g2⟩:=acy hr (Ht (av a)) aC;refine⟨aB::Mf,?_,by simpa using ae,λj hj=> ?_⟩
    ·rw[List.mapM_cons]
     exact c8 g1 (c8 h1 rfl)
    ·cases j with
     |zero=>exact g2
     |succ j=>simpa using ay j (by simpa using hj)
   ·cases h
theorem S5 (hr:bR φ A w) {sl:aT} {fn:Func} {tmps:Array U} (av:∀t v,sl.get t=some v->aD φ v (tmps.getD t undef)) {vs:List U} (h:vT P A sl fn.results.toList=some vs):
  ∃aB,(results fn tmps).run P w= .ok aB w/\aD φ (xe vs) aB:=by
 obtain⟨de,h1,ae,ay⟩:=Me hr av _ vs h;have e:results fn tmps=(fn.results.mapM (Md tmps)) >>= λvs=>pure (if h:vs.size=1 then vs[0] else .tuple vs):=by
  unfold results;congr 1
 rw[e,Array.mapM_eq_mapM_toList];refine⟨_,c8 (a:=(⟨de⟩:Array U)) (c8 h1 rfl) rfl,?_⟩
 match vs,de,ae,ay with
 |[v],[aB],_,ay=>exact ay 0 (by simp)
 |[],[],_,_=>exact .tuple _ _ rfl λi af=>absurd af (by simp)
 |a::b::r,aS::b'::dY,ae,ay=>exact .tuple _ _ (by simpa using ae.symm) λi af=>by simpa using ay i (by simpa using af)
end
def AG (N:Nat):List Tmp->List U->aT->Option aT
 |[],[],sl=>some sl
 |t::cM,v::vs,sl=>match gy N sl (some t) v with
  |some s=>AG N cM vs s
  |none=>none
 |_,_,_=>none
def S6:LoopState->Bool
 | .ready=>true
 |_=>false
def yS:kC->Option Code
 | .normal=>none
 | .exit id=>some (.exit id)
 | .goto l=>some (.goto l)
 | .ret=>some .ret
def Cn:kC->LoopState
 | .normal=> .ready
 |_=> .done
def Eu:kC->Bool
 | .normal=>true
 |_=>false
def Mg (P:aQ) [Lib P] [dX P] (gl:b4 Nat) (bb:Nat) (C:hN) (b:Nat) (args:List U) (A:aW):Option (U×aW):=
 match A.getLoop b with
 |some fk=>match AG fk.N fk.params args fk.sl with
  |some lL=>match l3 P C gl fk.N true bb fk.assign {sl:=lL,ms:=[],A} with
   |some (.normal,s1)=>match s1.A.getLoop b with
    |some Ev=>bif S6 Ev.state then
      match s1.A.Ck b (.loop {Ev with state:= .busy}) with
      |some eH=>match l3 P C gl fk.N true bb fk.body {sl:=s1.sl,ms:=s1.ms,A:=eH} with
       |some (x,rf)=>match rf.A.getLoop b with
        |some S7=>match rf.A.Ck b (.loop {S7 with state:=Cn x,pending:=yS x}) with
         |some l2=>some (.bool (Eu x),l2)
         |none=>none
        |none=>none
       |none=>none
      |none=>none
     else none
    |none=>none
   |_=>none
  |none=>none
 |none=>none
def Mh (P:aQ) [Lib P] [dX P] (gl:b4 Nat) (bb:Nat) (C:hN) (f:FuncId) (args:List U) (A:aW):Option (U×aW):=
 match P.funcs[f]? with
 |some fn=>match fn.body with
  |some c=>match setArgs 0 args .nil with
   |some sl=>match l3 P C gl (args.length+(fn.ntmps-args.length)) false bb c {sl,ms:=[],A} with
    |some (x,s1)=>match x with
     | .exit _=>none
     | .goto _=>none
     |_=>match xb s1.A s1.ms with
      |some eH=>match vT P eH s1.sl fn.results.toList with
       |some vs=>some (xe vs,eH)
       |none=>none
      |none=>none
    |none=>none
   |none=>none
  |none=>none
 |none=>none
section
variable {P:aQ} {gl:b4 Nat}
theorem fu.AG {N:Nat} {ds:List Deferred} {φ:bQ}:∀(cM:List Tmp) (vs:List U) (us:List U) (sl dT:aT) (a:Act),fu N ds φ sl a->AE.AG N cM vs sl=some dT->us.length=vs.length->(∀j,j<vs.length->aD φ (vs.getD j undef) (us.getD j undef))->
  cM.length=us.length/\fu N ds φ dT {a with tmps:=(cM.zip us).foldl (λtmps p=>tmps.setIfInBounds p.1 p.2) a.tmps}
 |[],[],us,sl,dT,a,av,h,hl,aC=>by
  cases h;have:us=[]:=by simpa using hl
  subst this;exact⟨rfl,av⟩
 |t::cM,v::vs,us,sl,dT,a,av,h,hl,aC=>by
  unfold AE.AG at h;split at h
  ·rename_i s1 h1
   cases us with
   |nil=>simp at hl
   |cons u us=>
    have eg:=av.put (by simpa using aC 0 (by simp)) h1;obtain⟨q1,aE⟩:=fu.AG cM vs us s1 dT _ eg h (by simpa using hl) (λj hj=>by simpa using aC (j+1) (by simpa using hj));exact⟨by simp [q1],aE⟩
  ·cases h
 |[],_::_,_,_,_,_,_,h,_,_=>by cases h
 |_::_,[],_,_,_,_,_,h,_,_=>by cases h
end
end AE
namespace AE
variable [aY]
section
variable {P:aQ} [Lib P] [dX P] {gl:b4 Nat} {bb:Nat} {C:hN}
theorem acz (cD:P.follows .mixedOrders=true) (cH:k8 P gl C) {f:FuncId} {args:List U} {A:aW} {v:U} {aV:aW} {φ:bQ} {w:au} {fM:Array U} (h:Mh P gl bb C f args A=some (v,aV)) (hr:bR φ A w) (az:lZ gl φ)
  (gf:hy args φ fM):Calls P f fM w (yG φ A w v aV):=by
 unfold Mh at h;split at h
 ·rename_i fn l4
  split at h
  ·rename_i c al
   split at h
   ·rename_i sl gH
    split at h
    ·rename_i x s1 o2
     have cb:fM.size=args.length:=gf.1;have av:fu (args.length+(fn.ntmps-args.length)) [] φ sl {tmps:=fM++Array.replicate (fn.ntmps-fM.size) undef,defers:=[]}:=by
      refine⟨by simp [cb],rfl,λt u hu=> ?_⟩;rcases Mc _ _ _ _ gH t u hu with ⟨j,hj,aI,rfl⟩|az
      ·have:=gf.2 j hj
       simp only [Nat.zero_add] at aI;subst aI;simp only [e5] at this ⊢;rw[Array.getElem?_append_left ao];exact this
      ·cases az
     have fG:∀(vs:List U) (eH:aW),(x= .normal\/x= .ret)->xb s1.A s1.ms=some eH->vT P eH s1.sl fn.results.toList=some vs->v=xe vs->aV=eH->Calls P f fM w (yG φ A w v aV):=by
      intro vs eH ak acA lM aC j3;subst aC;subst j3;refine(callsIn_wide (n:=0)).1 ?_;refine callsIn_of_wp_marks l4 al trivial ?_ rfl;have acB:=ts (ro:=none) cD cH false (λ_=>rfl) bb c {sl,ms:=[],A} x s1 φ w _ [] o2 hr az .nil av;refine wpIn_mono (F:=Fr none) acB λe dD w1 hp=> ?_
      obtain⟨rfl,fY,ds,j2,q1,aE⟩:=hp;have main:LeavesInM (Fr none) 0 P fn dD.tmps (yG φ A w (xe vs) aV) dD.defers .returning w1:=by
       rw[q1.defers];refine L4 s1.ms ds s1.A aV w1 aE.rel j2 acA λw2 b9=> ?_
       obtain⟨aB,g1,g2⟩:=S5 (fn:=fn) b9.rel q1.get lM;exact⟨aB,g1,fY,g2,cg.trans hr aE b9⟩
      rcases ak with rfl|rfl
      ·exact main
      ·exact main
     cases x with
     |exit Cm=>cases h
     |goto l=>cases h
     |normal=>
      simp only at h;split at h
      ·rename_i eH hl
       split at h
       ·rename_i vs lM
        cases h;exact fG vs aV (.inl rfl) hl lM J J
       ·cases h
      ·cases h
     |ret=>
      simp only at h;split at h
      ·rename_i eH hl
       split at h
       ·rename_i vs lM
        cases h;exact fG vs aV (.inr rfl) hl lM J J
       ·cases h
      ·cases h
    ·cases h
   ·cases h
  ·cases h
 ·cases h
theorem acC (cD:P.follows .mixedOrders=true) (cH:k8 P gl C) {b:Nat} {args:List U} {A:aW} {v:U} {aV:aW} {φ:bQ} {w:au} {fM:Array U} {e:gZ} {k:hE} {fk:zT} {r:Loop}
  (h:Mg P gl bb C b args A=some (v,aV)) (hr:bR φ A w) (az:lZ gl φ) (gf:hy args φ fM) (he:φ b=some e) (ag:A.bl.get b=some k) (fq:k.obj= .fL (.loop fk)) (qX:w.heap[e.bf]? =some (.loop r)) (Al:qV φ (.loop fk) (.loop r)):
  fM.size=r.params.size/\RoundIn Fence.wide 0 P e.bf r.fn ((r.params.zip fM).foldl (λtmps (t,a)=>tmps.setIfInBounds t a) r.tmps) r.assign r.body w (yG φ A w v aV):=by
 unfold Mg at h;have acD:A.getLoop b=some fk:=by unfold aW.getLoop;rw[ag];simp only [fq]
 rw[acD] at h;simp only at h;obtain⟨nX,kA,cB,L9,iQ,Mi,has,yA,alh,gH⟩:=id Al;cases kA;split at h
 ·rename_i lL eZ
  have yJ:fu fk.N [] φ fk.sl {tmps:=r.tmps,defers:=[]}:=⟨iQ,rfl,gH⟩;obtain⟨Mj⟩:=fM;obtain⟨S8,s9⟩:=gf;simp only [List.size_toArray] at S8;obtain⟨hlen,wT⟩:=fu.AG fk.params args Mj fk.sl lL _ yJ eZ S8 (λj hj=>by simpa [e5] using s9 j hj);refine⟨by rw[Mi];simp [hlen],?_⟩;have acE:(r.params.zip ⟨Mj⟩).foldl (λtmps (t,a)=>tmps.setIfInBounds t a) r.tmps=(fk.params.zip Mj).foldl (λtmps p=>tmps.setIfInBounds p.1 p.2) r.tmps:=by
   rw[Mi,<-Array.foldl_toList];simp
  rw[acE];split at h
  ·rename_i s1 acF
   split at h
   ·rename_i Ev vU
    cases vS:S6 Ev.state with
    |false=>rw[vS] at h;cases h
    |true=>
     rw[vS,bw] at h;split at h
     ·rename_i eH L8
      split at h
      ·rename_i x rf qj
       split at h
       ·rename_i S7 rb
        split at h
        ·rename_i l2 acG
         cases h;refine roundIn_of_wpIn trivial ?_;rw[has,yA];have acH:=ts (ro:=some e.bf) cD cH true (λh=>by cases h) bb fk.assign {sl:=lL,ms:=[],A} .normal s1 φ w _ [] acF hr az .nil wT;refine wpIn_mono (F:=Fr (some e.bf)) acH λe1 dD w1 hp=> ?_
         obtain⟨rfl,fY,Cl,j2,q1,aE⟩:=hp;have Mk:=aE.ext hr _ _ he;obtain⟨cS,g1,g2,g3,g4⟩:=L3 (P:=P) aE.rel vU Mk;obtain⟨te,k5,DX,acI⟩:=id g2;cases k5;have vw:=HJ (o':= .loop {cS with state:= .busy}) aE.rel Mk L8 ⟨{cS with state:= .busy},rfl,rfl,acI⟩;refine⟨{w1 with heap:=w1.heap.setIfInBounds e.bf (.loop {cS with state:= .busy})},?_,?_⟩
         ·unfold Instr.beginRound
          refine c8 g3 ?_;refine c8 (a:=()) (g4 _) ?_;rw[DX];cases HO:Ev.state<;>rw[HO] at vS<;>first|rfl|cases vS
         ·have S9:=cg.trans hr aE vw
          have acJ:=ts (ro:=some e.bf) cD cH true (λh=>by cases h) bb fk.body {sl:=s1.sl,ms:=s1.ms,A:=eH} x rf fY _ dD Cl qj vw.rel (az.mono (S9.ext hr)) j2 q1;refine wpIn_mono (F:=Fr (some e.bf)) acJ λe2 ej w2 iH=> ?_
          obtain⟨rfl,Eo,acK,yC,hi,gi⟩:=iH;have S':=gi.ext vw.rel _ _ Mk;obtain⟨fZ,tr,xd,AB,AD⟩:=L3 (P:=P) gi.rel rb S';obtain⟨B4,S_,ali,alj,acL⟩:=id xd;cases S_;have L_:=HJ (o':= .loop {fZ with state:=Cn x,pending:=yS x}) gi.rel S' acG ⟨{fZ with state:=Cn x,pending:=yS x},rfl,rfl,rfl,acL⟩;have Ma:=cg.trans hr S9 (cg.trans vw.rel gi L_);have Co:∀(j:Option Code),j=yS x->(Instr.endRound e.bf j).run P w2= .ok (.bool (Eu x)) {w2 with heap:=w2.heap.setIfInBounds e.bf (.loop {fZ with state:=Cn x,pending:=yS x})}:=by
           intro j hj;subst hj;unfold Instr.endRound;refine c8 AB ?_;have cB:(if (yS x).isNone then LoopState.ready else LoopState.done)=Cn x:=by cases x<;>rfl
           have aq:(yS x).isNone=Eu x:=by cases x<;>rfl
           rw[cB,aq];exact c8 (a:=()) (AD _) rfl
          have post:yG φ A w (.bool (Eu x)) aV (.returned (.bool (Eu x))) {w2 with heap:=w2.heap.setIfInBounds e.bf (.loop {fZ with state:=Cn x,pending:=yS x})}:=⟨Eo,.bool _,Ma⟩;cases x with
          |normal=>exact⟨_,_,Co _ rfl,post⟩
          |ret=>exact⟨_,_,Co _ rfl,post⟩
          |exit Cm=>exact⟨_,_,Co _ rfl,post⟩
          |goto l=>exact⟨_,_,Co _ rfl,post⟩
        ·cases h
       ·cases h
      ·cases h
     ·cases h
   ·cases h
  ·cases h
 ·cases h
end
end AE
end Go.Proofs.YtepcfjbfkedlpaaGreatDoor
namespace Go.Proofs.YtepcfjbfkedlpaaGreatDoor
open Go Go.RowKit
namespace AE
structure ch (B:Nat) (w w':au):Prop where
 below:Below B w w'
 drawn:kv w<=kv w'
theorem ch.refl (B:Nat) (w:au):ch B w w:=⟨Below.refl _ _,bY _⟩
theorem ch.trans {B:Nat} {a w w':au} (h:ch B a w) (g:ch B w w'):ch B a w':=⟨h.below.trans g.below,Nat.le_trans h.drawn g.drawn⟩
theorem ch.mono {B uw:Nat} {w w':au} (h:ch B w w') (ad:uw<=B):ch uw w w':=⟨h.below.mono ad,h.drawn⟩
theorem ch.size {B:Nat} {w w':au} (h:ch B w w'):w.heap.size<=w'.heap.size:=h.below.size
theorem ch.block {B:Nat} {w w':au} (h:ch B w w'):∀k,k<B->w'.heap[k]? =w.heap[k]? :=h.below.block
class r' (P:aQ) where
 calls:List (FuncId×List U×U)
def HP (f:FuncId) (args:List U):List (FuncId×List U×U)->Option U
 |[]=>none
 |p::r=>bif Nat.beq f p.1&&nu args p.2.1 then some p.2.2 else HP f args r
theorem Ta {f:FuncId} {args:List U} {v:U}:∀{l:List (FuncId×List U×U)},HP f args l=some v->(f,args,v)∈l
 |[],h=>by cases h
 |p::r,h=>by
  unfold HP at h;cases he:(Nat.beq f p.1&&nu args p.2.1) with
  |true=>
   rw[he,bw,cx] at h;simp only [c0] at he;have h1:=ct he.1;have ae:=qc _ _ he.2;subst h1;subst ae;subst h;exact List.mem_cons_self
  |false=>
   rw[he,ei] at h;exact List.mem_cons_of_mem _ (Ta h)
def yT (g:FuncId) (u:U):U:= .func (.func g) ⟨[]⟩ ⟨[.agg ⟨[.slice none 7 7,u]⟩]⟩
def Ml (A:aW) (v:U):Option U:=
 bif aM v then some v else match v with
 | .func (.func g) ⟨[]⟩ ⟨[.pointer (some ⟨b,off,none⟩)]⟩=>match A.load b off with
   |some u=>bif aM u then some (yT g u) else none
   |none=>none
 |_=>none
def HQ (A:aW):List U->Option (List U)
 |[]=>some []
 |v::r=>match Ml A v,HQ A r with
  |some aB,some dY=>some (aB::dY)
  |_,_=>none
def HR (P:aQ) [r' P] (C:hN):hN where
 call:=λf args A=>match r'.calls P with
  |[]=>C.call f args A
  |l=>match HQ A args with
   |some us=>match HP f us l with
    |some v=>some (v,A)
    |none=>C.call f args A
   |none=>C.call f args A
 round:=C.round
def r_ (P:aQ) [Lib P] [dX P] [r' P] (gl:b4 Nat) (bb:Nat):Nat->hN
 |0=>HR P {call:=λ_ _ _=>none,round:=λ_ _ _=>none}
 |d+1=>HR P {call:=Mh P gl bb (r_ P gl bb d),round:=Mg P gl bb (r_ P gl bb d)}
variable [aY]
def ju (P:aQ) (p:FuncId×List U×U):Prop:=
 dW p.2.1=true/\aM p.2.2=true/\∀w,nw w->Calls P p.1 ⟨et p.2.1⟩ w λe w'=>e= .returned (aK p.2.2)/\ch w.heap.size w w'
def Tb (w:au) (v a:U):Prop:=
 (aM v=true/\a=aK v)\/∃g u B off,v=yT g u/\aM u=true/\a= .func (.func g) #[] #[.pointer (some ⟨B,off,none⟩)]/\B<w.heap.size/\w.cell? ⟨B,off,none⟩=some (aK u)
def Cp (w:au):List U->List U->Prop
 |[],[]=>True
 |v::r,a::s=>Tb w v a/\Cp w r s
 |_,_=>False
def AH (P:aQ) (p:FuncId×List U×U):Prop:=
 ∀w,nw w->∀us,Cp w p.2.1 us->Calls P p.1 ⟨us⟩ w λe w'=>∃aB,e= .returned aB/\(∀φ,aD φ p.2.2 aB)/\ch w.heap.size w w'
theorem Cp.plain {w:au}:∀{l us:List U},dW l=true->Cp w l us->us=et l
 |[],[],_,_=>rfl
 |v::r,a::s,hp,h=>by
  simp only [dW,c0] at hp;have ae:=Cp.plain hp.2 h.2;rcases h.1 with ⟨_,h1⟩|⟨g,u,B,off,rfl,_⟩
  ·rw[h1,ae];rfl
  ·have:aM (yT g u)=false:=by unfold yT;simp [aM,dW]
   rw[this] at hp;exact absurd hp.1 (by simp)
 |[],_::_,_,h=>h.elim
 |_::_,[],_,h=>h.elim
theorem AH.of {P:aQ} {p:FuncId×List U×U} (h1:dW p.2.1=true) (h:∀w,nw w->Calls P p.1 ⟨et p.2.1⟩ w λe w'=>∃aB,e= .returned aB/\(∀φ,aD φ p.2.2 aB)/\ch w.heap.size w w'):AH P p:=
 λw hw us ha=>by rw[ha.plain h1];exact h w hw
theorem ju.Mm {P:aQ} {p:FuncId×List U×U} (h:ju P p):AH P p:=
 .of h.1 λw hw=>(h.2.2 w hw).mono λe w' ⟨he,ad⟩=>⟨_,he,λφ=>aD.vG φ _ h.2.1,ad⟩
def Tc (P:aQ) [r' P]:Prop:=∀p∈r'.calls P,AH P p
theorem cg.below {φ:bQ} {A:aW} {w w':au} (hr:bR φ A w) (ad:ch w.heap.size w w'):cg φ A w φ A w' where
 rel:=⟨hr.wf,λb e h=>by
  obtain⟨k,h1,ae,ay⟩:=hr.ep b e h;exact⟨k,h1,ae,ay.mono (λ_ _ h=>h) (ad.block _ ay.lt)⟩,hr.apart,hr.along,λi o af=>by
  obtain⟨h1,ae⟩:=hr.dg i o af
  exact⟨by rw[ad.block i (Array.getElem?_eq_some_iff.1 h1).1];exact h1,ae⟩⟩
 ep:=λ_ _=>rfl
 qW:=λb h1 ae=>by omega
 new:=λb e h1 ae=>absurd (hr.lt ae) ao
 py:=bY _
 low:=bY _
 same:=λ_ _ _=>rfl
 ro:=λ_ _ h _=>h
 keep:=λi af _=>ad.block i af
 fX:=ad.size
 os:=ad.below.os
 tape:=ad.below.tape
 output:=ad.below.output
 drawn:=ad.drawn
theorem acM {φ:bQ} {A:aW} {w:au} (hr:bR φ A w) {v aB a:U} (h:Ml A v=some aB) (ha:aD φ v a):Tb w aB a:=by
 unfold Ml at h;cases hp:aM v with
 |true=>
  rw[hp,bw,cx] at h;subst h;exact .inl ⟨hp,aD.iq v hp ha⟩
 |false=>
  rw[hp,ei] at h;split at h
  ·rename_i g b off
   split at h
   ·rename_i u hu
    cases HS:aM u with
    |false=>rw[HS] at h;cases h
    |true=>
     rw[HS,bw,cx] at h;subst h;cases ha with
     |func fs j_ cs cs' aq h1 ae aP al=>
      have e1:j_= #[]:=by
       apply Array.eq_empty_of_size_eq_zero;have:=h1;simp at this;omega
      have av:cs'.size=1:=by
       have:=ae;simp at this;omega
      have aJ:=al 0 (by simp);obtain⟨dc,rfl⟩:∃dc,cs'= #[dc]:=by
       obtain⟨l⟩:=cs'
       match l,av with
       |[dc],_=>exact⟨dc,rfl⟩
      have acN:aD φ (.pointer (some ⟨b,off,none⟩)) dc:=by simpa using aJ
      cases acN with
      |ptr he=>
       rename_i e;obtain⟨u',g1,g2⟩:=tY hr hu he;refine .inr ⟨g,u,e.bf,e.sh+off,rfl,HS,by rw[e1],?_,?_⟩
       ·obtain⟨k,_,_,ay⟩:=hr.ep b e he
        exact ay.lt
       ·rw[g1,aD.iq u HS g2]
   ·cases h
  ·cases h
theorem Td {φ:bQ} {A:aW} {w:au} (hr:bR φ A w):∀{args us l:List U},HQ A args=some us->args.length=l.length->(∀j,j<args.length->aD φ (args.getD j Go.undef) (l.getD j Go.undef))->Cp w us l
 |[],us,[],h,_,_=>by cases h;trivial
 |v::r,us,a::s,h,hl,hj=>by
  unfold HQ at h;split at h
  ·rename_i aB dY h1 ae
   cases h;exact⟨acM hr h1 (by simpa using hj 0 (by simp)),Td hr ae (by simpa using hl) λj gn=>by simpa using hj (j+1) (by simpa using gn)⟩
  ·cases h
 |[],_,_::_,_,h,_=>by cases h
 |_::_,_,[],_,h,_=>by cases h
theorem Te {P:aQ} [dX P] [r' P] {gl:b4 Nat} {C:hN} (Cq:Tc P) (h:k8 P gl C):k8 P gl (HR P C):=by
 refine⟨h.facts,λf args A v aV φ w fM al hr az gf=> ?_,h.round⟩;unfold HR at al;simp only at al;split at al
 ·exact h.call f args A v aV φ w fM al hr az gf
 split at al
 ·rename_i us has
  split at al
  ·rename_i u hu
   cases al;have ay:=Cq _ (Ta hu);obtain⟨l⟩:=fM;have hl:=Td hr has gf.1.symm (l:=l) (λi af=>by simpa using gf.2 i af);refine(ay w (λi o af=>(hr.dg i o af).1) l hl).mono λe w' he=> ?_
   obtain⟨aB,rfl,aC,ad⟩:=he;exact⟨φ,aC φ,cg.below hr ad⟩
  ·exact h.call f args A v aV φ w fM al hr az gf
 ·exact h.call f args A v aV φ w fM al hr az gf
theorem yU {P:aQ} [Lib P] [dX P] [r' P] {gl:b4 Nat} {bb:Nat} (cD:P.follows .mixedOrders=true) (cF:qe P) (Cq:Tc P):∀d,k8 P gl (r_ P gl bb d)
 |0=>Te Cq ⟨cF,λf args A v aV φ w fM h=>(by cases h),λb args A v aV φ w fM e k fk r h=>(by cases h)⟩
 |d+1=>Te Cq ⟨cF,λf args A v aV φ w fM h hr az gf=>acz cD (yU cD cF Cq d) h hr az gf,
   λb args A v aV φ w fM e k fk r h hr az gf he ag fq qX Al=>acC cD (yU cD cF Cq d) h hr az gf he ag fq qX Al⟩
def start:aW:={bl:= .nil,n:=0,mem:= .nil,low:=0}
theorem Tf {w:au} (af:nw w):bR (λ_=>none) start w:=
 ⟨⟨λ_ _ h=>(by cases h),λ_ _ h=>(by cases h),λ_ _ h=>(by cases h),λ_ _ _ _ h=>(by cases h)⟩,λ_ _ h=>(by cases h),λ_ _ _ _ _ _ h=>(by cases h),λ_ _ _ _ _ _ h=>(by cases h),λi o h=>⟨af i o h,λ_ _ h=>by cases h⟩⟩
end AE
end Go.Proofs.YtepcfjbfkedlpaaGreatDoor
namespace Go.Proofs.YtepcfjbfkedlpaaGreatDoor
open Go Go.Proofs Go.RowKit
namespace AE
noncomputable instance:Lib Tryz.prog where
 same:=[]
 R5:=λf aP x=>by cases aP
 K8:=[]
 R6:=λp hp=>by cases hp
theorem mixed:Tryz.prog.follows .mixedOrders=true:=aw
end AE
end Go.Proofs.YtepcfjbfkedlpaaGreatDoor
namespace Go.Proofs.YtepcfjbfkedlpaaGreatDoor
open Go Go.RowKit
namespace AE
class cI where
 e7:bQ
 dt:Nat
@[reducible] def fc:cI:=⟨λ_=>none,0⟩
def ux [cI] (φ:bQ) (A:aW):Prop:=cI.dt<=A.n/\∀b,b<cI.dt->φ b=cI.e7 b
theorem ux.step [aY] [cI] {φ cR:bQ} {A aV:aW} {w w':au} (h:ux φ A) (av:cg φ A w cR aV w'):ux cR aV:=
 ⟨Nat.le_trans h.1 av.py,λb ad=>by rw[av.ep b (Nat.lt_of_lt_of_le ad h.1)];exact h.2 b ad⟩
theorem ux.none (φ:bQ) (A:aW): @ux fc φ A:=⟨Nat.zero_le _,λb ad=>absurd ad (Nat.not_lt_zero _)⟩
structure Here [aY] [cI] (N:Nat) (s:b6) (B:Nat) (w0:au) (a:Act) (w:au):Prop where
 ex:∃φ ds,qi φ s.ms ds/\fu N ds φ s.sl a/\bR φ s.A w/\(∀b e,φ b=some e->B<=e.bf)/\ux φ s.A
 below:ch B w0 w
 size:B<=w.heap.size
section
variable [aY]
theorem Cr {φ cR:bQ} {A aV:aW} {w w':au} {B:Nat} (dI:∀b e,φ b=some e->B<=e.bf) (av:cg φ A w cR aV w') (cb:B<=w.heap.size):(∀b e,cR b=some e->B<=e.bf)/\ch B w w':=by
 refine⟨λb e he=> ?_,⟨av.os,av.tape,av.output,av.fX,λk ag=>av.keep k ao λb e ft ad he _=>by have:=dI b e ad;omega⟩,av.drawn⟩;rcases Nat.lt_or_ge b A.n with h|h
 ·rw[av.ep b h] at he
  exact dI b e he
 ·rcases av.new b e h he with h1|⟨cX,bk,d',q1,aE,_⟩
  ·omega
  ·rw[<-aE]
   exact dI cX bk q1
omit [aY] in
theorem hX (φ:bQ):lZ .nil φ:=λg b az=>by cases az
variable [cI]
variable {P:aQ} [Lib P] [dX P] {C:hN} {N B:Nat} {w0 w:au} {a:Act} {s e6:b6}
theorem acO (cD:P.follows .mixedOrders=true) (cH:k8 P .nil C) (bb:Nat) {c:Code} {x:kC} (h:l3 P C .nil N false bb c s=some (x,e6)) (ai:Here N s B w0 a w):
  c.wpIn (Fr none) 0 P (λe aS w'=>e=x.exit'/\Here N e6 B w0 aS w') a w:=by
 obtain⟨⟨φ,ds,h1,ae,ay,bE,fx⟩,cn,cy⟩:=ai;refine wpIn_mono (ts (ro:=none) cD cH false (λ_=>rfl) bb c s x e6 φ w a ds h ay (hX φ) h1 ae) λe aS w' hp=> ?_
 obtain⟨rfl,cR,acP,q1,aE,b9⟩:=hp;obtain⟨cV,df⟩:=Cr bE b9 cy;exact⟨rfl,⟨cR,acP,q1,aE,b9.rel,cV,fx.step b9⟩,cn.trans df,Nat.le_trans cy b9.fX⟩
theorem acQ {c:Operand} {t:Bool} (h:ea .nil s.sl c= .bool t) (ai:Here N s B w0 a w):a.eval c= .bool t:=by
 obtain⟨⟨φ,ds,h1,ae,ay,bE,_⟩,_,_⟩:=ai;have:=gg (hX φ) ae.get c;rw[h] at this;cases aC:a.eval c<;>rw[aC] at this<;>cases this
 rfl
omit [Lib P] in
theorem acR (cF:qe P) {c:Operand} {t:Bool} (h:Ak P (ea .nil s.sl c)=some t) (ai:Here N s B w0 a w):a.eval c= .bool t:=by
 obtain⟨⟨φ,ds,h1,ae,ay,bE,_⟩,_,_⟩:=ai;exact Hs cF w h (gg (hX φ) ae.get c)
omit [cI] in
theorem Tg (cH:k8 P .nil C) {ds:List Deferred} {ops:Array Oper} {Q:Exit->Act->au->Prop} {lq:List Oper}:∀(l:List Oper) (sl dT:aT) (A aV:aW) (φ:bQ) (w:au) (a:Act),bR φ A w->fu N ds φ sl a->vI P C .nil N ops l sl A=some (dT,aV)->
  (∀cR aS w',fu N ds cR dT aS->cg φ A w cR aV w'->wpListIn (Fr none) 0 P ops Q lq aS w')->wpListIn (Fr none) 0 P ops Q (l++lq) a w
 |[],sl,dT,A,aV,φ,w,a,hr,av,h,cQ=>by
  cases h;exact cQ φ a w av (cg.refl hr)
 |o::r,sl,dT,A,aV,φ,w,a,hr,av,h,cQ=>by
  unfold vI at h;split at h
  ·rename_i eu bt cB
   obtain⟨v,aC,hp⟩:=LC cB;rw[List.cons_append];unfold wpListIn;refine Hv cH hr (hX φ) av.get aC λcR aB w' w3 oY=> ?_
   exact Tg cH r eu dT bt aV cR w' (a.put o.dst aB) oY.rel ((av.mono (oY.ext hr)).put w3 hp) h λe_ ej w2 h1 ae=>cQ e_ ej w2 h1 (cg.trans hr oY ae)
  ·cases h
theorem Th (cH:k8 P .nil C) {ops:Array Oper} {Q:Exit->Act->au->Prop} (l1 lq:List Oper) {eu:aT} {bt:aW} (h:vI P C .nil N ops l1 s.sl s.A=some (eu,bt)) (ai:Here N s B w0 a w)
  (cQ:∀aS w',Here N {sl:=eu,ms:=s.ms,A:=bt} B w0 aS w'->wpListIn (Fr none) 0 P ops Q lq aS w'):wpListIn (Fr none) 0 P ops Q (l1++lq) a w:=by
 obtain⟨⟨φ,ds,h1,ae,ay,bE,fx⟩,cn,cy⟩:=ai;refine Tg cH l1 _ _ _ _ φ w a ay ae h λcR aS w' q1 aE=> ?_
 obtain⟨cV,df⟩:=Cr bE aE cy;exact cQ aS w' ⟨⟨cR,ds,h1.mono (aE.ext ay),q1,aE.rel,cV,fx.step aE⟩,cn.trans df,Nat.le_trans cy aE.fX⟩
theorem Here.quiet {w':au} (ai:Here N s B w0 a w) (ad:ch w.heap.size w w'):Here N s B w0 a w':=by
 obtain⟨⟨φ,ds,h1,ae,ay,bE,fx⟩,cn,cy⟩:=ai;exact⟨⟨φ,ds,h1,ae,(cg.below ay ad).rel,bE,fx⟩,cn.trans (ad.mono cy),Nat.le_trans cy ad.size⟩
theorem Here.put {d:Option Tmp} {v:U} {dT:aT} (ai:Here N s B w0 a w) (hp:aM v=true) (eZ:gy N s.sl d v=some dT):Here N {s with sl:=dT} B w0 (a.put d (aK v)) w:=by
 obtain⟨⟨φ,ds,h1,ae,ay,bE,fx⟩,cn,cy⟩:=ai;exact⟨⟨φ,ds,h1,ae.put (aD.vG φ v hp) eZ,ay,bE,fx⟩,cn,cy⟩
end
theorem Ti [cI] {P:aQ} {N B:Nat} {w0 w:au} {a:Act} {X:Type} (f':X->aY) (a6:b6) (eU:X->Prop) (gI:X->Nat) {body:Code} {Q:Exit->Act->au->Prop}
  (round:∀x,eU x->∀a w,@Here (f' x) _ N a6 B w0 a w->body.wpIn (Fr none) 0 P (Exit.then (λaS w'=>∃x',eU x'/\gI x'<gI x/\ @Here (f' x') _ N a6 B w0 aS w') Q) a w)
  (x:X) (ak:eU x) (ai: @Here (f' x) _ N a6 B w0 a w):(Code.loop body).wpIn (Fr none) 0 P Q a w:=by
 have key:∀n x a w,gI x<=n->eU x-> @Here (f' x) _ N a6 B w0 a w->Code.roundsIn (Fr none) 0 P body Q (n+1) a w:=by
  intro n
  induction n with
  |zero=>
   intro x a w aq ak ai;rw[roundsIn_succ];refine wpIn_mono (round x ak a w ai) λe aS w' hp=> ?_
   cases e with
   |normal=>obtain⟨x',_,b8,_⟩:=hp;omega
   |_=>exact hp
  |succ n cd=>
   intro x a w aq ak ai;rw[roundsIn_succ];refine wpIn_mono (round x ak a w ai) λe aS w' hp=> ?_
   cases e with
   |normal=>
    obtain⟨x',q7,b8,xf⟩:=hp;exact cd x' aS w' ao q7 xf
   |_=>exact hp
 exact wpIn_loop_rounds _ (key (gI x) x a w (bY _) ak ai)
def HT (v:U) (A:aW):b6:={sl:= .node (some v) .nil .nil,ms:=[],A}
def Mn (v:U):Act:={tmps:= #[v],defers:=[]}
def acS [aY] (P:aQ) (fn:Func) (A:aW) (sl:aT) (v:U):Prop:=
 ∀(φ:bQ) (w:au) (tmps:Array U),bR φ A w->(∀t u,sl.get t=some u->aD φ u (tmps.getD t undef))->∃aB,(results fn tmps).run P w= .ok aB w/\aD φ v aB
def Ew [cI] (P:aQ) (fn:Func) (N B:Nat) (w0:au) (R:Ending->au->Prop) (a:Act) (w:au):Prop:=
 ∃(f':aY) (s:b6) (eH:aW) (v:U),@Here f' _ N s B w0 a w/\ @xb s.A s.ms=some eH/\ @acS f' P fn eH s.sl v/\
  ∀aB w2,@Here f' _ 1 (HT v eH) B w0 (Mn aB) w2->R (.returned aB) w2
def qk [cI] (P:aQ) (fn:Func) (N B:Nat) (w0:au) (R:Ending->au->Prop):Exit->Act->au->Prop
 | .normal,a,w=>Ew P fn N B w0 R a w
 | .ret,a,w=>Ew P fn N B w0 R a w
 |_,_,_=>False
theorem Mo [aY] [cI] {P:aQ} {f:FuncId} {fn:Func} {c:Code} (l4:P.funcs[f]? =some fn) (al:fn.body=some c) {args:List U} {sl:aT} (gH:setArgs 0 args .nil=some sl) {φ:bQ} {A:aW} {w0 w:au} {B:Nat} {fM:Array U}
  (hr:bR φ A w) (dI:∀b e,φ b=some e->B<=e.bf) (ho:ux φ A) (gf:hy args φ fM) (ad:ch B w0 w) (cb:B<=w.heap.size) {R:Ending->au->Prop}
  (o2:∀a,Here (args.length+(fn.ntmps-args.length)) {sl,ms:=[],A} B w0 a w->c.wpIn (Fr none) 0 P (qk P fn (args.length+(fn.ntmps-args.length)) B w0 R) a w):Calls P f fM w R:=by
 have Mp:fM.size=args.length:=gf.1;have av:fu (args.length+(fn.ntmps-args.length)) [] φ sl {tmps:=fM++Array.replicate (fn.ntmps-fM.size) undef,defers:=[]}:=by
  refine⟨by simp [Mp],rfl,λt u hu=> ?_⟩;rcases Mc _ _ _ _ gH t u hu with ⟨j,hj,aI,rfl⟩|az
  ·have:=gf.2 j hj
   simp only [Nat.zero_add] at aI;subst aI;simp only [e5] at this ⊢;rw[Array.getElem?_append_left ao];exact this
  ·cases az
 refine(callsIn_wide (n:=0)).1 ?_;refine callsIn_of_wp_marks l4 al trivial ?_ rfl;refine wpIn_mono (F:=Fr none) (o2 _ ⟨⟨φ,[],.nil,av,hr,dI,ho⟩,ad,cb⟩) λe dD w1 hp=> ?_
 have main:Ew P fn (args.length+(fn.ntmps-args.length)) B w0 R dD w1->LeavesInM (Fr none) 0 P fn dD.tmps R dD.defers .returning w1:=by
  rintro ⟨f',s,eH,v,ai,hl,lM,hx⟩;letI:=f';obtain⟨⟨fY,ds,j2,q1,aE,b9,lJ⟩,ey,hv⟩:=ai;rw[q1.defers];refine L4 s.ms ds s.A eH w1 aE j2 hl λw2 cV=> ?_
  obtain⟨aB,g1,g2⟩:=lM fY w2 dD.tmps cV.rel q1.get;refine⟨aB,g1,?_⟩;obtain⟨tr,xd⟩:=Cr b9 cV hv;refine hx aB w2 ⟨⟨fY,[],.nil,⟨rfl,rfl,λt u hu=> ?_⟩,cV.rel,tr,lJ.step cV⟩,ey.trans xd,Nat.le_trans hv cV.fX⟩;unfold HT at hu;simp only [b4.get] at hu;cases aI:(t==0) with
  |true=>
   rw[aI,bw,cx] at hu;subst hu;have:t=0:=by simpa using aI
   subst this;exact g2
  |false=>
   rw[aI,ei] at hu;cases hp:(t%2==1)<;>rw[hp] at hu<;>cases hu
 cases e with
 |normal=>exact main hp
 |ret=>exact main hp
 |_=>exact hp.elim
end AE
namespace AE
abbrev ev:=List (U×U)
def both:Option ev->Option ev->Option ev
 |some a,some b=>some (a++b)
 |_,_=>none
theorem uy {a b:Option ev} {l:ev} (h:both a b=some l):∃x y,a=some x/\b=some y/\l=x++y:=by
 cases a<;>cases b<;>simp [both] at h
 exact⟨_,_,rfl,rfl,h.symm⟩
def xg:U->Bool
 | .complex .f32 a b=>Nat.beq a 77&&Nat.beq b 77
 |_=>false
theorem Tj {v:U} (h:xg v=true):v=cL:=by
 unfold xg at h;split at h
 ·simp only [c0] at h
  rw[ct h.1,ct h.2];rfl
 ·cases h
def Ct (v1 fi:U):Option ev:=bif xg fi then some [] else bif aM v1&&aM fi then (bif fj v1 fi&&plain v1 then some [] else some [(v1,fi)]) else none
mutual
def uz (n:Nat):U->U->Option ev
 | .pointer (some ⟨b,o,none⟩),.pointer (some ⟨b',o',none⟩)=>bif Nat.blt b n&&(Nat.beq b b'&&Nat.beq o o') then some [] else none
 | .slice (some ⟨b,o,none⟩) m c,.slice (some ⟨b',o',none⟩) m' c'=>bif Nat.blt b n&&(Nat.beq b b'&&(Nat.beq o o'&&(Nat.beq m m'&&Nat.beq c c'))) then some [] else none
 | .agg ⟨l⟩,.agg ⟨l'⟩=>xh n l l'
 | .func (.func f) ⟨l⟩ ⟨k⟩,.func (.func iC) ⟨l'⟩ ⟨k'⟩=>bif Nat.beq f iC then both (xh n l l') (xh n k k') else none
 | .func (.yield b) ⟨[]⟩ ⟨[]⟩,.func (.yield b') ⟨[]⟩ ⟨[]⟩=>bif Nat.blt b n&&Nat.beq b b' then some [] else none
 |v1,fi=>Ct v1 fi
def xh (n:Nat):List U->List U->Option ev
 |[],[]=>some []
 |v::r,aB::dY=>both (uz n v aB) (xh n r dY)
 |_,_=>none
end
def mT (n:Nat) (φ:bQ):bQ:=λb=>if b<n then φ b else none
theorem Cu {n b:Nat} {φ:bQ} {e:gZ} (h:φ b=some e) (ad:b<n):mT n φ b=some e:=by unfold mT;rw[aN ad];exact h
theorem pF {n b:Nat} {φ:bQ} {e:gZ} (h:mT n φ b=some e):b<n/\φ b=some e:=by
 unfold mT at h;split at h
 ·rename_i ad;exact⟨ad,h⟩
 ·cases h
def fm (s1 s2:aY) (l:ev):Prop:=∀p∈l,@aK s1 p.1= @aK s2 p.2
theorem fm.left {s1 s2:aY} {a b:ev} (h:fm s1 s2 (a++b)):fm s1 s2 a:=λp hp=>h p (List.mem_append_left _ hp)
theorem fm.right {s1 s2:aY} {a b:ev} (h:fm s1 s2 (a++b)):fm s1 s2 b:=λp hp=>h p (List.mem_append_right _ hp)
theorem acT {s1 s2:aY} {φ e_:bQ} {v1 fi aB:U} {l:ev} (h:Ct v1 fi=some l) (hm:fm s1 s2 l) (aC: @aD s1 φ v1 aB): @aD s2 e_ fi aB:=by
 unfold Ct at h;cases h1:xg fi with
 |true=>rw[Tj h1];exact @aD.cL s2 e_ aB
 |false=>
  rw[h1,ei] at h;cases ae:(aM v1&&aM fi) with
  |false=>rw[ae] at h;cases h
  |true=>
   rw[ae,bw] at h;simp only [c0] at ae;cases ay:(fj v1 fi&&plain v1) with
   |true=>
    simp only [c0] at ay;have he:=gx _ _ ay.1;subst he;rw[@aD.kN s1 φ v1 aB ay.2 aC];exact @aD.ku s2 e_ v1 ay.2
   |false=>
    rw[ay,ei,cx] at h;subst h;have:=hm (v1,fi) (by simp);rw[@aD.iq s1 φ v1 aB ae.1 aC];simp only at this;rw[this];exact @aD.vG s2 e_ fi ae.2
mutual
theorem Tk {s1 s2:aY} {φ:bQ} {n:Nat}:∀(v1 fi:U) {aB:U} {l:ev},uz n v1 fi=some l->fm s1 s2 l-> @aD s1 φ v1 aB-> @aD s2 (mT n φ) fi aB:=by
 intro v1 fi aB l h hm aC;unfold uz at h;split at h
 ·rename_i b o b' o'
  cases ad:(Nat.blt b n&&(Nat.beq b b'&&Nat.beq o o')) with
  |false=>rw[ad] at h;cases h
  |true=>
   simp only [c0] at ad;have e1:=ct ad.2.1;have e2:=ct ad.2.2;subst e1;subst e2;cases aC with
   |ptr h=>exact @aD.ptr s2 (mT n φ) _ _ _ (Cu h (Nat.blt_eq.mp ad.1))
 ·rename_i b o m c b' o' m' c'
  cases ad:(Nat.blt b n&&(Nat.beq b b'&&(Nat.beq o o'&&(Nat.beq m m'&&Nat.beq c c')))) with
  |false=>rw[ad] at h;cases h
  |true=>
   simp only [c0] at ad;have e1:=ct ad.2.1;have e2:=ct ad.2.2.1;have dH:=ct ad.2.2.2.1;have jD:=ct ad.2.2.2.2;subst e1;subst e2;subst dH;subst jD;cases aC with
   |iB aS h1=>exact @aD.iB s2 (mT n φ) _ _ aS h1
   |h_ _ _ h=>exact @aD.h_ s2 (mT n φ) _ _ _ _ _ (Cu h (Nat.blt_eq.mp ad.1))
   |ia _ _ c' h av al hl=>exact @aD.ia s2 (mT n φ) _ _ _ _ _ c' (Cu h (Nat.blt_eq.mp ad.1)) av al hl
 ·rename_i l1 lq
  cases aC with
  |agg cs cs' h1 ae=>
   obtain⟨q1,aE⟩:=Cv l1 lq h hm cs'.toList (by simpa using h1.symm) λi af=>by simpa [e5] using ae i (by simpa using af)
   exact @aD.agg s2 (mT n φ) _ _ (by simpa using q1.symm) λi af=>by simpa [e5] using aE i (by simpa using af)
 ·rename_i f l1 cV iC lq df
  cases aP:Nat.beq f iC with
  |false=>rw[aP] at h;cases h
  |true=>
   rw[aP,bw] at h;have e1:=ct aP;subst e1;obtain⟨x,y,ak,bg,rfl⟩:=uy h;cases aC with
   |func fs j_ cs cs' aq h1 ae ay bE=>
    obtain⟨q1,aE⟩:=Cv l1 lq ak hm.left j_.toList (by simpa using h1.symm) λi af=>by simpa [e5] using ay i (by simpa using af)
    obtain⟨b9,ey⟩:=Cv cV df bg hm.right cs'.toList (by simpa using ae.symm) λi af=>by simpa [e5] using bE i (by simpa using af)
    exact @aD.func s2 (mT n φ) _ _ _ _ _ aq (by simpa using q1.symm) (by simpa using b9.symm) (λi af=>by simpa [e5] using aE i (by simpa using af)) λi af=>by simpa [e5] using ey i (by simpa using af)
 ·rename_i b b'
  cases ad:(Nat.blt b n&&Nat.beq b b') with
  |false=>rw[ad] at h;cases h
  |true=>
   simp only [c0] at ad;have e1:=ct ad.2;subst e1;cases aC with
   |s3 h=>exact @aD.s3 s2 (mT n φ) _ _ (Cu h (Nat.blt_eq.mp ad.1))
   |func _ _ _ _ aq _ _ _ _=>exact absurd rfl (aq _)
 ·exact acT h hm aC
theorem Cv {s1 s2:aY} {φ:bQ} {n:Nat}:∀(l1 lq:List U) {l:ev},xh n l1 lq=some l->fm s1 s2 l->∀(u:List U),u.length=l1.length->(∀i,i<l1.length-> @aD s1 φ (l1.getD i Go.undef) (u.getD i Go.undef))->
  u.length=lq.length/\∀i,i<lq.length-> @aD s2 (mT n φ) (lq.getD i Go.undef) (u.getD i Go.undef)
 |[],[],_,_,_,u,hu,_=>⟨hu,λi af=>absurd af (by simp)⟩
 |[],_::_,_,h,_,_,_,_=>by cases h
 |_::_,[],_,h,_,_,_,_=>by cases h
 |v::r,fi::dL,l,h,hm,u,hu,aC=>by
  unfold xh at h;obtain⟨x,y,ak,bg,rfl⟩:=uy h;cases u with
  |nil=>simp at hu
  |cons w u=>
   obtain⟨q1,aE⟩:=Cv r dL bg hm.right u (by simpa using hu) λi af=>by simpa using aC (i+1) (by simpa using af)
   refine⟨by simp [q1],λi af=> ?_⟩;cases i with
   |zero=>simpa using Tk v fi ak hm.left (by simpa using aC 0 (by simp))
   |succ i=>simpa using aE i (by simpa using af)
end
def HU (n:Nat):Option U->Option U->Option ev
 |_,none=>some []
 |some a,some b=>uz n a b
 |none,some b=>bif xg b then some [] else none
def Ex (n:Nat):b4 U->Option ev
 | .nil=>some []
 | .node v l r=>both (HU n none v) (both (Ex n l) (Ex n r))
def sa (n:Nat):b4 U->b4 U->Option ev
 |_,.nil=>some []
 | .nil,.node v l r=>Ex n (.node v l r)
 | .node v1 l1 cS,.node v l r=>both (HU n v1 v) (both (sa n l1 l) (sa n cS r))
theorem Tl {s1 s2:aY} {φ:bQ} {n:Nat} {a b:Option U} {l:ev} (h:HU n a b=some l) (hm:fm s1 s2 l) {aB fi:U} (ad:b=some fi) (aC:∀v1,a=some v1-> @aD s1 φ v1 aB): @aD s2 (mT n φ) fi aB:=by
 subst ad;cases a with
 |none=>
  simp only [HU] at h;cases hp:xg fi with
  |false=>rw[hp] at h;cases h
  |true=>rw[Tj hp];exact @aD.cL s2 (mT n φ) aB
 |some v1=>exact Tk v1 fi h hm (aC v1 rfl)
theorem Mq {s1 s2:aY} {φ:bQ} {n:Nat}:∀(t:b4 U) {l:ev},Ex n t=some l->fm s1 s2 l->∀(i:Nat) (fi aB:U),t.get i=some fi-> @aD s2 (mT n φ) fi aB
 | .nil,_,_,_,i,fi,aB,h=>by cases h
 | .node v Ey oy,l,h,hm,i,fi,aB,az=>by
   unfold Ex at h;obtain⟨x,y,ak,bg,rfl⟩:=uy h;obtain⟨xi,Ez,h1,ae,rfl⟩:=uy bg;unfold b4.get at az;cases af:(i==0) with
   |true=>
    rw[af,bw] at az;exact Tl (s1:=s1) ak hm.left az (λv1 h=>by cases h)
   |false=>
    rw[af,ei] at az;cases hp:(i%2==1) with
    |true=>rw[hp,bw] at az;exact Mq Ey h1 hm.right.left _ fi aB az
    |false=>rw[hp,ei] at az;exact Mq oy ae hm.right.right _ fi aB az
theorem Cw {s1 s2:aY} {φ:bQ} {n:Nat}:∀(t1 t2:b4 U) {l:ev},sa n t1 t2=some l->fm s1 s2 l->∀(i:Nat) (fi aB:U),t2.get i=some fi->(∀v1,t1.get i=some v1-> @aD s1 φ v1 aB)-> @aD s2 (mT n φ) fi aB
 |t1,.nil,_,_,_,i,fi,aB,h,_=>by cases h
 | .nil,.node v Ey oy,l,h,hm,i,fi,aB,az,_=>Mq (s1:=s1) (.node v Ey oy) (by simpa [sa] using h) hm i fi aB az
 | .node v1 l1 cS,.node v Ey oy,l,h,hm,i,fi,aB,az,aC=>by
   unfold sa at h;obtain⟨x,y,ak,bg,rfl⟩:=uy h;obtain⟨xi,Ez,h1,ae,rfl⟩:=uy bg;unfold b4.get at az aC;cases af:(i==0) with
   |true=>
    simp only [af,bw] at az aC;exact Tl ak hm.left az aC
   |false=>
    simp only [af,ei] at az aC;cases hp:(i%2==1) with
    |true=>simp only [hp,bw] at az aC;exact Cw l1 Ey h1 hm.right.left _ fi aB az aC
    |false=>simp only [hp,ei] at az aC;exact Cw cS oy ae hm.right.right _ fi aB az aC
structure bM where
 obj:p3
 ty:aH
 eB:Nat
def bM.bf (b:bM) (i:Nat):hE:={obj:=b.obj,cE:=i,pos:=0,eB:=b.eB,ro:=false,ty:=b.ty}
def Cx:List bM->Nat->b4 hE->b4 hE
 |[],_,t=>t
 |b::r,i,t=>Cx r (i+1) (match b4.set (b.bf i) depth t i with|some da=>da|none=>t)
def Mr:Nat->Nat->b4 (List Nat)->b4 (List Nat)
 |0,_,t=>t
 |n+1,i,t=>Mr n (i+1) (match b4.set [i] depth t i with|some da=>da|none=>t)
def eJ (l:List bM):aW:={bl:=Cx l 0 .nil,n:=l.length,mem:=Mr l.length 0 .nil,low:=0}
def AI (l:List bM):Bool:=(List.range l.length).all λi=>(match (Mr l.length 0 .nil).get i with|some m=>m.contains i|none=>false)&&(match (Cx l 0 .nil).get i with|some _=>true|none=>false)
theorem Tm:∀(l:List bM) (i:Nat) (t:b4 hE) (b:Nat) (k:hE),(Cx l i t).get b=some k->(∃j x,l[j]? =some x/\b=i+j/\k=x.bf b)\/((b<i\/i+l.length<=b\/True)/\t.get b=some k)
 |[],i,t,b,k,h=> .inr ⟨.inr (.inr trivial),h⟩
 |x::r,i,t,b,k,h=>by
  unfold Cx at h;rcases Tm r (i+1) _ b k h with ⟨j,y,h1,ae,ay⟩|⟨_,h1⟩
  ·exact .inl ⟨j+1,y,by simpa using h1,ao,ay⟩
  ·split at h1
   ·rename_i da aI
    rw[b4.nS _ _ _ _ _ b aI] at h1;split at h1
    ·rename_i ad
     cases h1;exact .inl ⟨0,x,by simp,ao,by rw[ad]⟩
    ·exact .inr ⟨.inr (.inr trivial),h1⟩
   ·exact .inr ⟨.inr (.inr trivial),h1⟩
theorem yV {l:List bM} {b:Nat} {k:hE} (h:(eJ l).bl.get b=some k):∃x,l[b]? =some x/\k=x.bf b:=by
 rcases Tm l 0 .nil b k h with ⟨j,x,h1,ae,ay⟩|⟨_,h1⟩
 ·have:b=j:=by omega
  subst this;exact⟨x,h1,ay⟩
 ·cases h1
theorem Tn {l:List bM} (hM:AI l=true):zW (eJ l) where
 lt:=λb k h=>by
  obtain⟨x,h1,_⟩:=yV h;have:=(List.getElem?_eq_some_iff.1 h1).1;exact this
 s4:=λb k h=>by
  obtain⟨x,h1,rfl⟩:=yV h;have:=(List.getElem?_eq_some_iff.1 h1).1;exact this
 mem:=λb k h=>by
  obtain⟨x,h1,rfl⟩:=yV h;have ad:=(List.getElem?_eq_some_iff.1 h1).1;have:=List.all_eq_true.1 hM b (by simpa using ad);simp only [c0] at this;obtain⟨hm,_⟩:=this;split at hm
  ·rename_i m rW
   exact⟨m,rW,by simpa using hm⟩
  ·cases hm
 tW:=λb k b' k' h eW _=>by
  obtain⟨x,_,rfl⟩:=yV h;obtain⟨x',_,rfl⟩:=yV eW;rfl
def Tp:LoopState->LoopState->Bool
 | .ready,.ready=>true
 | .busy,.busy=>true
 | .done,.done=>true
 | .exhausted,.exhausted=>true
 |_,_=>false
theorem Tq {a b:LoopState} (h:Tp a b=true):a=b:=by cases a<;>cases b<;>first|rfl|cases h
def EA (n:Nat) (a b:zT):Bool:=Tp a.state b.state&&(a.pending.isNone&&(b.pending.isNone&&(Nat.beq a.N b.N&&(decide (a.params=b.params)&&(Nat.beq a.DH b.DH&&Nat.blt a.DH n)))))
def AJ (n:Nat):p3->p3->Option ev
 | .cells c,.cells c'=>xh n c c'
 | .fL (.loop a),.fL (.loop b)=>bif EA n a b then sa n a.sl b.sl else none
 | .fL .deferred,.fL .deferred=>some []
 | .fL .gone,.fL .gone=>some []
 |_,_=>none
def yW (n:Nat) (A:aW):List bM->Nat->Option ev
 |[],_=>some []
 |x::r,i=>match A.bl.get i with
  |some k=>bif Nat.beq k.cE i&&(Nat.beq k.eB x.eB&&(Nat.beq k.ty x.ty&& !k.ro)) then both (AJ n k.obj x.obj) (yW n A r (i+1)) else none
  |none=>none
theorem EB {n:Nat} {A:aW}:∀(l:List bM) (i:Nat) {bH:ev},yW n A l i=some bH->∀(j:Nat) (x:bM),l[j]? =some x->∃k o,A.bl.get (i+j)=some k/\k.cE=i+j/\k.eB=x.eB/\k.ty=x.ty/\k.ro=false/\AJ n k.obj x.obj=some o/\∀p∈o,p∈bH
 |[],i,bH,h,j,x,hj=>by simp at hj
 |y::r,i,bH,h,j,x,hj=>by
  unfold yW at h;split at h
  ·rename_i k ag
   cases al:(Nat.beq k.cE i&&(Nat.beq k.eB y.eB&&(Nat.beq k.ty y.ty&& !k.ro))) with
   |false=>rw[al] at h;cases h
   |true=>
    rw[al,bw] at h;simp only [c0,Bool.not_eq_true'] at al;obtain⟨a,b,h1,ae,rfl⟩:=uy h;cases j with
    |zero=>
     simp only [List.getElem?_cons_zero,cx] at hj;subst hj;exact⟨k,a,ag,ct al.1,ct al.2.1,ct al.2.2.1,al.2.2.2,h1,λp hp=>List.mem_append_left _ hp⟩
    |succ j=>
     obtain⟨k',o,q1,aE,b9,ey,hv,lJ,qa⟩:=EB r (i+1) ae j x (by simpa using hj);exact⟨k',o,by rw[show i+(j+1)=i+1+j by omega];exact q1,ao,b9,ey,hv,lJ,λp hp=>List.mem_append_right _ (qa p hp)⟩
  ·cases h
def HV (A:aW) (i:Nat):Option (Code×Code):=match A.bl.get i with
 |some k=>match k.obj with
  | .fL (.loop fk)=>some (fk.assign,fk.body)
  |_=>none
 |none=>none
def ic (A:aW):List bM->Nat->Prop
 |[],_=>True
 |x::r,i=>(match x.obj with| .fL (.loop fk)=>HV A i=some (fk.assign,fk.body)|_=>True)/\ic A r (i+1)
def ql:List bM->Bool
 |[]=>true
 |x::r=>(match x.obj with| .fL (.loop _)=>false|_=>true)&&ql r
theorem Ms {A:aW}:∀{l:List bM} {i j:Nat} {x:bM} {fk:zT},ic A l i->l[j]? =some x->x.obj= .fL (.loop fk)->HV A (i+j)=some (fk.assign,fk.body)
 |[],i,j,x,fk,_,hj,_=>by simp at hj
 |y::r,i,0,x,fk,h,hj,ho=>by
  simp only [List.getElem?_cons_zero,cx] at hj;subst hj;have:=h.1;rw[ho] at this;exact this
 |y::r,i,j+1,x,fk,h,hj,ho=>by
  rw[show i+(j+1)=i+1+j by omega];exact Ms h.2 (by simpa using hj) ho
theorem f_ {A:aW}:∀{l:List bM} {i:Nat},ql l=true->ic A l i
 |[],_,_=>trivial
 |x::r,i,h=>by
  unfold ql at h;simp only [c0] at h;refine⟨?_,f_ h.2⟩;split
  ·rename_i fk ak
   rw[ak] at h;cases h.1
  ·trivial
def dy (s1:b6) (sl:aT) (l:List bM):Option ev:=
 match s1.ms with
 |[]=>bif AI l then both (sa l.length s1.sl sl) (yW l.length s1.A l 0) else none
 |_=>none
theorem Here.AK [cI] {s1 s2:aY} {N B:Nat} {st:b6} {w0 w w':au} {a:Act} {sl:aT} {l:List bM} {bH:ev} (T:Nat->Prop) (c1:dy st sl l=some bH) (hm:fm s1 s2 bH) (eb:∀i,T i->s1.dg i≠none/\B<=i)
  (tt:w'.os=w.os/\w'.tape=w.tape/\w'.output=w.output/\kv w<=kv w') (cb:w.heap.size<=w'.heap.size) (hw:∀i,i<w.heap.size->¬T i->w'.heap[i]? =w.heap[i]?)
  (pG:∀i o,s2.dg i=some o->w'.heap[i]? =some o/\(s1.dg i≠none\/w.heap.size<=i\/i<B)) (aq:cI.dt<=l.length) (al:ic st.A l 0) (ai: @Here s1 _ N st B w0 a w): @Here s2 _ N {sl,ms:=[],A:=eJ l} B w0 a w':=by
 unfold dy at c1;split at c1
 ·rename_i uA
  cases hM:AI l with
  |false=>rw[hM] at c1;cases c1
  |true=>
   rw[hM,bw] at c1;obtain⟨x,y,ak,bg,rfl⟩:=uy c1;obtain⟨⟨φ,ds,h1,ae,ay,bE,fx⟩,cn,cy⟩:=ai;rw[uA] at h1;cases h1;have hold:∀b k,(eJ l).bl.get b=some k->∃x ft o,l[b]? =some x/\k=x.bf b/\st.A.bl.get b=some ft/\ft.cE=b/\ft.eB=x.eB/\ft.ty=x.ty/\ft.ro=false/\AJ l.length ft.obj x.obj=some o/\∀p∈o,p∈y:=λb k ag=>by
    obtain⟨x,q1,aE⟩:=yV ag;obtain⟨ft,o,cS,dL,fZ⟩:=EB l 0 bg b x q1;rw[Nat.zero_add] at cS dL;exact⟨x,ft,o,q1,aE,cS,dL,fZ⟩
   have wO:∀b e,φ b=some e->e.bf<w.heap.size/\¬T e.bf/\s1.dg e.bf=none:=λb e ad=>by
    obtain⟨k,_,_,q⟩:= @bR.ep s1 _ _ _ ay b e ad;have vV:s1.dg e.bf=none:=by
     cases af:s1.dg e.bf with
     |none=>rfl
     |some o=>exact absurd rfl ((@bR.dg s1 _ _ _ ay e.bf o af).2 b e ad)
    exact⟨@fy.lt s1 _ _ _ _ q,λaI=>(eb _ aI).1 vV,vV⟩
   have yX:∀b e,φ b=some e->w'.heap[e.bf]? =w.heap[e.bf]? :=λb e ad=>hw _ (wO b e ad).1 (wO b e ad).2.1
   have gp:∀b,b<l.length->∃k,(eJ l).bl.get b=some k:=λb ad=>by
    have:=List.all_eq_true.1 hM b (by simpa using ad);simp only [c0] at this;obtain⟨_,hm⟩:=this;split at hm
    ·rename_i k ag;exact⟨k,ag⟩
    ·cases hm
   refine⟨⟨mT l.length φ,[],.nil,⟨@fu.size s1 _ _ _ _ _ ae,@fu.defers s1 _ _ _ _ _ ae,λt fi AL=>Cw st.sl sl ak hm.left t fi _ AL λv1 vW=> @fu.get s1 _ _ _ _ _ ae t v1 vW⟩,⟨Tn hM,?_,?_,?_,λi o af=> ?_⟩,λb e ad=>bE b e (pF ad).2,aq,λb ad=>by unfold mT;rw[aN (Nat.lt_of_lt_of_le ad aq)];exact fx.2 b ad⟩,cn.trans ⟨⟨tt.1,tt.2.1,tt.2.2.1,cb,λk ag=>hw k ao λaI=>by have:=(eb k aI).2;omega⟩,tt.2.2.2⟩,Nat.le_trans cy cb⟩
   ·intro b e ad
    obtain⟨b8,hF⟩:=pF ad;obtain⟨k,ag⟩:=gp b b8;obtain⟨x,ft,o,q1,rfl,b9,ey,hv,lJ,qa,gq,As⟩:=hold b k ag;obtain⟨cV,cS,dL,fZ⟩:= @bR.ep s1 _ _ _ ay b e hF;rw[b9] at cS;cases cS;refine⟨_,ag,by rw[dL,hv];rfl,?_⟩;unfold fy at fZ ⊢;show match x.obj with| .cells c=>_| .map es eE=>_| .fL x=>_
    cases fq:ft.obj with
    |cells c=>
     rw[fq] at gq;simp only [fq] at fZ;cases hY:x.obj with
     |cells c2=>
      rw[hY] at gq;obtain⟨c',jJ,g1,g2,g3,g4,jQ⟩:=fZ;have np:∀i,i<c.length->((List.range c.length).map λj=>c'.getD (e.sh+j) undef).getD i undef=c'.getD (e.sh+i) undef:=λi af=>by
       rw[dr,List.getElem?_map,List.getElem?_range af];rfl
      have:=Cv (s1:=s1) (s2:=s2) (φ:=φ) c c2 gq (λp hp=>hm.right p (As p hp)) ((List.range c.length).map λj=>c'.getD (e.sh+j) undef) (by simp) λi af=>by
       rw[np i af];exact g4 i af
      obtain⟨t1,t2⟩:=this;simp only [List.length_map,List.length_range] at t1;refine⟨c',jJ,by rw[yX b e hF,show (x.bf b).ty=ft.ty from lJ.symm];exact g1,g2,by rw[<-t1,show (x.bf b).eB=ft.eB from hv.symm];exact g3,λj hj=> ?_,λ_=>jQ qa⟩;have:=t2 j hj;rw[np j ao] at this;exact this
     |map es eE=>rw[hY] at gq;cases gq
     |fL z=>rw[hY] at gq;cases gq
    |map es eE=>
     rw[fq] at gq;cases hY:x.obj<;>rw[hY] at gq<;>cases gq
    |fL z=>
     rw[fq] at gq;simp only [fq] at fZ;obtain⟨j4,o',g1,g2⟩:=fZ;cases hY:x.obj with
     |cells c2=>rw[hY] at gq;cases z<;>cases gq
     |map es eE=>rw[hY] at gq;cases z<;>cases gq
     |fL z2=>
      rw[hY] at gq;refine⟨j4,o',(yX b e hF).trans g1,?_⟩;cases z with
      |loop a=>
       cases z2 with
       |loop b=>
        unfold AJ at gq;simp only at gq;cases av:EA l.length a b with
        |false=>rw[av] at gq;cases gq
        |true=>
         rw[av,bw] at gq;unfold EA at av;simp only [c0,decide_eq_true_eq,Option.isNone_iff_eq_none] at av;obtain⟨ez,c2,c3,p8,EC,HW,HX⟩:=av;have o2:=Ms al q1 hY;rw[Nat.zero_add] at o2;unfold HV at o2;rw[b9] at o2;simp only [fq,cx,Prod.mk.injEq] at o2;obtain⟨r,iR,tr,xd,AB,AD,Ep,Er,⟨e',Mt,u8⟩,Mu⟩:=g2;refine⟨r,iR,tr.trans (Tq ez),by rw[xd,c2,c3],by rw[AB,ct p8],by rw[AD,EC],by rw[Ep,o2.1],by rw[Er,o2.2],⟨e',?_,u8⟩,λt v aC=> ?_⟩
         ·rw[<-ct HW]
          exact Cu Mt (Nat.blt_eq.mp HX)
         ·exact Cw (s1:=s1) a.sl b.sl gq (λp hp=>hm.right p (As p hp)) t v _ aC λv1 vW=>Mu t v1 vW
       |_=>cases gq
      |_=>cases z2<;>first|(cases gq;done)|exact g2
   ·intro b e k b' e' k' ad dN ag dm cC
    obtain⟨_,hF⟩:=pF ad;obtain⟨_,r7⟩:=pF dN;obtain⟨x,ft,o,q1,rfl,b9,ey,_⟩:=hold b k ag;obtain⟨x',ED,o',t',rfl,rX,EE,_⟩:=hold b' k' dm;exact @bR.apart s1 _ _ _ ay b e ft b' e' ED hF r7 b9 rX (by rw[ey,EE];exact cC)
   ·intro b e k b' e' k' ad dN ag dm aP _
    obtain⟨_,hF⟩:=pF ad;obtain⟨_,r7⟩:=pF dN;obtain⟨x,ft,o,q1,rfl,b9,ey,_⟩:=hold b k ag;obtain⟨x',ED,o',t',rfl,rX,EE,_⟩:=hold b' k' dm;have:b=b':=aP;subst this;rw[hF] at r7;cases r7;rfl
   ·obtain⟨g1,g2⟩:=pG i o af
    refine⟨g1,λb e ad acU=> ?_⟩;obtain⟨q1,_,b9⟩:=wO b e (pF ad).2;have ey:=bE b e (pF ad).2;rw[acU] at q1 b9 ey;rcases g2 with g2|g2|g2
    ·exact g2 b9
    ·omega
    ·omega
 ·cases c1
theorem Here.move [cI] {s1 s2:aY} {N B:Nat} {st:b6} {w0 w:au} {a:Act} {sl:aT} {l:List bM} {bH:ev} (c1:dy st sl l=some bH) (hm:fm s1 s2 bH)
  (pG:∀i o,s2.dg i=some o->s1.dg i=some o) (aq:cI.dt<=l.length) (al:ic st.A l 0) (ai: @Here s1 _ N st B w0 a w): @Here s2 _ N {sl,ms:=[],A:=eJ l} B w0 a w:=by
 have af:=ai;obtain⟨⟨φ,ds,h1,ae,ay,bE,fx⟩,cn,cy⟩:=af;exact Here.AK (λ_=>False) c1 hm (λ_ h=>h.elim) ⟨rfl,rfl,rfl,bY _⟩ (bY _) (λ_ _ _=>rfl) (λi o h=>⟨(@bR.dg s1 _ _ _ ay i o (pG i o h)).1,.inl (by rw[pG i o h];simp)⟩) aq al ai
theorem Here.mz [aY] [cI] {N B:Nat} {st:b6} {w0 w:au} {a:Act} (ai:Here N st B w0 a w):nw w:=by
 obtain⟨⟨φ,ds,h1,ae,ay,bE,fx⟩,cn,cy⟩:=ai;exact λi o af=>(ay.dg i o af).1
end AE
namespace AE
inductive fe where
 |l5 (y:Code)
 |uB (id:Nat)
 |sb (c:Code) (m:Nat)
inductive bP where
 |done (x:kC) (s:b6)
 |loop (body:Code) (s:b6) (ks:List fe)
 |oper (o:Oper) (r:List Oper) (ops:Array Oper) (s:b6) (ks:List fe)
 |range (g:Operand) (ps:Array Tmp) (my body:Code) (s:b6) (ks:List fe)
 |draw (id:Nat) (ops:Array Oper) (s:b6) (ks:List fe)
 |cond (c:Operand) (x y:Code) (s:b6) (ks:List fe)
def bP.push (k:fe):bP->bP
 | .loop b s ks=> .loop b s (ks++[k])
 | .oper o r ops s ks=> .oper o r ops s (ks++[k])
 | .range g ps my b s ks=> .range g ps my b s (ks++[k])
 | .draw id ops s ks=> .draw id ops s (ks++[k])
 | .cond c x y s ks=> .cond c x y s (ks++[k])
 |st=>st
def bP.vX (k:List fe):bP->bP
 | .loop b s ks=> .loop b s (ks++k)
 | .oper o r ops s ks=> .oper o r ops s (ks++k)
 | .range g ps my b s ks=> .range g ps my b s (ks++k)
 | .draw id ops s ks=> .draw id ops s (ks++k)
 | .cond c x y s ks=> .cond c x y s (ks++k)
 |st=>st
def Cy (P:aQ) [Lib P] [dX P] (C:hN) (N:Nat) (ops:Array Oper) (ms:List Nat):List Oper->aT->aW->bP
 |[],sl,A=> .done .normal {sl,ms,A}
 |o::r,sl,A=>match vH P C .nil N ops o sl A with
  |some (eu,bt)=>Cy P C N ops ms r eu bt
  |none=> .oper o r ops {sl,ms,A} []
def o3 (P:aQ) [Lib P] [dX P] (C:hN) (N bb:Nat):Code->b6->Option bP
 | .loop b,s=>match l3 P C .nil N false bb (.loop b) s with
   |some (x,s1)=>some (.done x s1)
   |none=>some (.loop b s [])
 | .region id ops d,s=>bif d then match Hw P C .nil N false ops s.sl s.A with
     |some (eu,bt,r)=>some (Cy P C N ops s.ms r eu bt)
     |none=>match HI P C .nil N false ops s.sl s.A with
      |some (eu,bt)=>some (.done .normal {sl:=eu,ms:=s.ms,A:=bt})
      |none=>some (.draw id ops s [])
   else some (Cy P C N ops s.ms ops.toList s.sl s.A)
 | .seq x y,s=>match o3 P C N bb x s with
   |some (.done x s1)=>match x with
    | .normal=>o3 P C N bb y s1
    |x=>some (.done x s1)
   |some st=>some (st.push (.l5 y))
   |none=>none
 | .cond c x y,s=>match ea .nil s.sl c with
   | .bool t=>bif t then o3 P C N bb x s else o3 P C N bb y s
   |v=>match Ak P v with
    |some t=>bif t then o3 P C N bb x s else o3 P C N bb y s
    |none=>some (.cond c x y s [])
 | .block id x,s=>match o3 P C N bb x s with
   |some (.done x s1)=>match x with
    | .exit id'=>bif Nat.beq id' id then some (.done .normal s1) else some (.done (.exit id') s1)
    |x=>some (.done x s1)
   |some st=>some (st.push (.uB id))
   |none=>none
 | .rangeFunc g ps my b,s=>match l3 P C .nil N false bb (.rangeFunc g ps my b) s with
   |some (x,s1)=>some (.done x s1)
   |none=>some (.range g ps my b s [])
 |c,s=>match l3 P C .nil N false bb c s with
  |some (x,s1)=>some (.done x s1)
  |none=>none
def EF (P:aQ) [Lib P] [dX P] (C:hN) (N bb:Nat) (c:Code):Nat->b6->Option bP
 |0,_=>none
 |m+1,s=>match o3 P C N bb c s with
  |some (.done x s1)=>match x with
   | .normal=>EF P C N bb c m s1
   |x=>some (.done x s1)
  |some st=>some (st.push (.sb c m))
  |none=>none
def resume (P:aQ) [Lib P] [dX P] (C:hN) (N bb:Nat):List fe->kC->b6->Option bP
 |[],x,s=>some (.done x s)
 | .l5 y::ks,x,s=>match x with
   | .normal=>match o3 P C N bb y s with
     |some (.done x s1)=>resume P C N bb ks x s1
     |some st=>some (st.vX ks)
     |none=>none
   |x=>resume P C N bb ks x s
 | .uB id::ks,x,s=>match x with
   | .exit id'=>bif Nat.beq id' id then resume P C N bb ks .normal s else resume P C N bb ks (.exit id') s
   |x=>resume P C N bb ks x s
 | .sb c m::ks,x,s=>match x with
   | .normal=>match EF P C N bb c m s with
     |some (.done x s1)=>resume P C N bb ks x s1
     |some st=>some (st.vX ks)
     |none=>none
   |x=>resume P C N bb ks x s
def dS (P:aQ):List fe->(Exit->Act->au->Prop)->Exit->Act->au->Prop
 |[],Q=>Q
 | .l5 y::ks,Q=>Exit.then (y.wpIn (Fr none) 0 P (dS P ks Q)) (dS P ks Q)
 | .uB id::ks,Q=>Exit.inBlock id (dS P ks Q)
 | .sb c m::ks,Q=>Exit.then (Code.roundsIn (Fr none) 0 P c (dS P ks Q) m) (dS P ks Q)
theorem sc (P:aQ):∀(cV df:List fe) (Q:Exit->Act->au->Prop),dS P (cV++df) Q=dS P cV (dS P df Q)
 |[],_,_=>rfl
 | .l5 y::ks,df,Q=>by simp only [List.cons_append,dS,sc P ks df Q]
 | .uB id::ks,df,Q=>by simp only [List.cons_append,dS,sc P ks df Q]
 | .sb c m::ks,df,Q=>by simp only [List.cons_append,dS,sc P ks df Q]
def ny (Q:Exit->Act->au->Prop):Prop:=∀c a w,¬Q (.panic c) a w
theorem ny.then {Q:Exit->Act->au->Prop} (h:ny Q) (R:Act->au->Prop):ny (Exit.then R Q):=λc a w a1=>h c a w a1
theorem ny.inBlock {Q:Exit->Act->au->Prop} (h:ny Q) (id:Nat):ny (Exit.inBlock id Q):=λc a w a1=>h c a w a1
theorem ny.uC {P:aQ} {Q:Exit->Act->au->Prop} (h:ny Q):∀ks:List fe,ny (dS P ks Q)
 |[]=>h
 | .l5 y::ks=>(ny.uC h ks).then _
 | .uB id::ks=>(ny.uC h ks).inBlock id
 | .sb c m::ks=>(ny.uC h ks).then _
section
variable [aY] [cI]
def lO (P:aQ) (N B:Nat) (w0:au) (Q:Exit->Act->au->Prop):bP->Prop
 | .done x s=>∀a w,Here N s B w0 a w->Q x.exit' a w
 | .loop b s ks=>∀a w,Here N s B w0 a w->(Code.loop b).wpIn (Fr none) 0 P (dS P ks Q) a w
 | .oper o r ops s ks=>∀a w,Here N s B w0 a w->wpListIn (Fr none) 0 P ops (dS P ks Q) (o::r) a w
 | .range g ps my b s ks=>∀a w,Here N s B w0 a w->(Code.rangeFunc g ps my b).wpIn (Fr none) 0 P (dS P ks Q) a w
 | .draw id ops s ks=>∀a w,Here N s B w0 a w->(Code.region id ops true).wpIn (Fr none) 0 P (dS P ks Q) a w
 | .cond c x y s ks=>∀a w,Here N s B w0 a w->(Code.cond c x y).wpIn (Fr none) 0 P (dS P ks Q) a w
omit [aY] [cI] in
theorem HY {P:aQ} {y:Code} {Q:Exit->Act->au->Prop} {x:kC} {a:Act} {w:au} (ak:x≠.normal) (h:Q x.exit' a w) (R:Act->au->Prop):Exit.then R Q x.exit' a w:=by
 cases x<;>first|exact absurd rfl ak|exact h
variable {P:aQ} [Lib P] [dX P] {C:hN} {N B:Nat} {w0:au}
omit [Lib P] [dX P] in
theorem lO.push {k:fe} {Q:Exit->Act->au->Prop} {st:bP} (a_:∀x s,st≠.done x s) (h:lO P N B w0 Q (st.push k)):lO P N B w0 (dS P [k] Q) st:=by
 cases st with
 |done x s=>exact absurd rfl (a_ x s)
 |loop b s ks=>intro a w ai;have:=h a w ai;rw[sc] at this;exact this
 |oper o r ops s ks=>intro a w ai;have:=h a w ai;rw[sc] at this;exact this
 |range g ps my b s ks=>intro a w ai;have:=h a w ai;rw[sc] at this;exact this
 |draw id ops s ks=>intro a w ai;have:=h a w ai;rw[sc] at this;exact this
 |cond c x y s ks=>intro a w ai;have:=h a w ai;rw[sc] at this;exact this
omit [Lib P] [dX P] in
theorem lO.vX {k:List fe} {Q:Exit->Act->au->Prop} {st:bP} (a_:∀x s,st≠.done x s) (h:lO P N B w0 Q (st.vX k)):lO P N B w0 (dS P k Q) st:=by
 cases st with
 |done x s=>exact absurd rfl (a_ x s)
 |loop b s ks=>intro a w ai;have:=h a w ai;rw[sc] at this;exact this
 |oper o r ops s ks=>intro a w ai;have:=h a w ai;rw[sc] at this;exact this
 |range g ps my b s ks=>intro a w ai;have:=h a w ai;rw[sc] at this;exact this
 |draw id ops s ks=>intro a w ai;have:=h a w ai;rw[sc] at this;exact this
 |cond c x y s ks=>intro a w ai;have:=h a w ai;rw[sc] at this;exact this
theorem HZ (cH:k8 P .nil C) {ops:Array Oper} {ms:List Nat} {Q:Exit->Act->au->Prop}:∀(l:List Oper) (sl:aT) (A:aW) (a:Act) (w:au),lO P N B w0 Q (Cy P C N ops ms l sl A)->Here N {sl,ms,A} B w0 a w->wpListIn (Fr none) 0 P ops Q l a w
 |[],sl,A,a,w,cQ,ai=>cQ a w ai
 |o::r,sl,A,a,w,cQ,ai=>by
  unfold Cy at cQ;split at cQ
  ·rename_i eu bt cB
   exact Th (l1:=[o]) (s:={sl,ms,A}) cH r (by simp only [vI,cB]) ai λaS w' xf=>HZ cH r eu bt aS w' cQ xf
  ·exact cQ a w ai
theorem xj (cD:P.follows .mixedOrders=true) (cH:k8 P .nil C) {bb:Nat} {c:Code} {s:b6} {st:bP} {Q:Exit->Act->au->Prop} {a:Act} {w:au}
  (h:(match l3 P C .nil N false bb c s with|some (x,s1)=>some (bP.done x s1)|none=>none)=some st) (cQ:lO P N B w0 Q st) (ai:Here N s B w0 a w):c.wpIn (Fr none) 0 P Q a w:=by
 split at h
 ·rename_i x s1 h1
  cases h;refine wpIn_mono (acO cD cH bb h1 ai) λe aS w' hp=> ?_
  obtain⟨rfl,xf⟩:=hp;exact cQ aS w' xf
 ·cases h
theorem rh (cD:P.follows .mixedOrders=true) (cH:k8 P .nil C) {bb:Nat}:∀(c:Code) (s:b6) (st:bP) (Q:Exit->Act->au->Prop) (a:Act) (w:au),ny Q->o3 P C N bb c s=some st->lO P N B w0 Q st->Here N s B w0 a w->c.wpIn (Fr none) 0 P Q a w
 | .loop b,s,st,Q,a,w,a1,h,cQ,ai=>by
   unfold o3 at h;split at h
   ·rename_i x s1 h1
    exact xj (bb:=bb) (c:= .loop b) cD cH (by rw[h1];exact h) cQ ai
   ·cases h
    exact cQ a w ai
 | .region id ops d,s,st,Q,a,w,a1,h,cQ,ai=>by
   unfold o3 at h;cases d with
   |false=>
    rw[ei,cx] at h;subst h;exact wpIn_region_list (HZ cH _ _ _ a w cQ ai)
   |true=>
    rw[bw] at h;split at h
    ·rename_i eu bt r h1
     cases h;obtain⟨⟨φ,ds,g1,g2,g3,g4,g7⟩,jQ,g6⟩:=ai;refine SO cD cH g3 (hX φ) g2 (λ_=>rfl) a1 h1 λfY dD w1 q1 aE=> ?_
     obtain⟨cV,df⟩:=Cr g4 aE g6;exact HZ cH _ _ _ dD w1 cQ ⟨⟨fY,ds,g1.mono (aE.ext g3),q1,aE.rel,cV,g7.step aE⟩,jQ.trans df,Nat.le_trans g6 aE.fX⟩
    ·split at h
     ·rename_i eu bt h1
      cases h;obtain⟨⟨φ,ds,g1,g2,g3,g4,g7⟩,jQ,g6⟩:=ai;refine SW cD cH g3 (hX φ) g2 (λ_=>rfl) a1 h1 λfY dD w1 q1 aE=> ?_
      obtain⟨cV,df⟩:=Cr g4 aE g6;exact cQ dD w1 ⟨⟨fY,ds,g1.mono (aE.ext g3),q1,aE.rel,cV,g7.step aE⟩,jQ.trans df,Nat.le_trans g6 aE.fX⟩
     ·cases h
      exact cQ a w ai
 | .seq x y,s,st,Q,a,w,a1,h,cQ,ai=>by
   unfold o3 at h;refine wpIn_seq ?_;split at h
   ·rename_i gA s1 h1
    refine rh cD cH x s _ _ a w (a1.then _) h1 (λdD w1 lP=> ?_) ai;split at h
    ·exact rh cD cH y s1 st Q dD w1 a1 h cQ lP
    ·rename_i ak
     cases h;exact HY (P:=P) (y:=y) (λh=>ak h) (cQ dD w1 lP) _
   ·rename_i ot h1 a_
    cases h;exact rh cD cH x s _ _ a w (a1.then _) a_ (lO.push (Q:=Q) (k:= .l5 y) h1 cQ) ai
   ·cases h
 | .cond c x y,s,st,Q,a,w,a1,h,cQ,ai=>by
   unfold o3 at h;split at h
   ·rename_i t aI
    refine wpIn_cond (acQ aI ai) ?_;cases t with
    |true=>exact rh cD cH x s st Q a w a1 h cQ ai
    |false=>exact rh cD cH y s st Q a w a1 h cQ ai
   ·split at h
    ·rename_i t aI
     refine wpIn_cond (acR cH.facts aI ai) ?_;cases t with
     |true=>exact rh cD cH x s st Q a w a1 h cQ ai
     |false=>exact rh cD cH y s st Q a w a1 h cQ ai
    ·cases h
     exact cQ a w ai
 | .block id x,s,st,Q,a,w,a1,h,cQ,ai=>by
   unfold o3 at h;refine wpIn_block ?_;split at h
   ·rename_i gA s1 h1
    refine rh cD cH x s _ _ a w (a1.inBlock id) h1 (λdD w1 lP=> ?_) ai;split at h
    ·rename_i id'
     show if id'=id then Q .normal dD w1 else Q (.exit id') dD w1
     cases ad:Nat.beq id' id with
     |true=>
      rw[ad] at h;cases h;rw[aN (ct ad)];exact cQ dD w1 lP
     |false=>
      rw[ad] at h;cases h;rw[aO (Nat.ne_of_beq_eq_false ad)];exact cQ dD w1 lP
    ·rename_i ak
     cases h;have:=cQ dD w1 lP;cases gA with
     |exit id'=>exact absurd rfl (ak id')
     |_=>exact this
   ·rename_i ot h1 a_
    cases h;exact rh cD cH x s _ _ a w (a1.inBlock id) a_ (lO.push (Q:=Q) (k:= .uB id) h1 cQ) ai
   ·cases h
 | .skip,s,st,Q,a,w,a1,h,cQ,ai=>xj (bb:=bb) cD cH h cQ ai
 | .rangeFunc g ps my b,s,st,Q,a,w,a1,h,cQ,ai=>by
   unfold o3 at h;split at h
   ·rename_i x s1 h1
    exact xj (bb:=bb) (c:= .rangeFunc g ps my b) cD cH (by rw[h1];exact h) cQ ai
   ·cases h
    exact cQ a w ai
 | .exit _,s,st,Q,a,w,a1,h,cQ,ai=>xj (bb:=bb) cD cH h cQ ai
 | .scope _,s,st,Q,a,w,a1,h,cQ,ai=>xj (bb:=bb) cD cH h cQ ai
 | .label _,s,st,Q,a,w,a1,h,cQ,ai=>xj (bb:=bb) cD cH h cQ ai
 | .goto _,s,st,Q,a,w,a1,h,cQ,ai=>xj (bb:=bb) cD cH h cQ ai
 | .ret,s,st,Q,a,w,a1,h,cQ,ai=>xj (bb:=bb) cD cH h cQ ai
 | .refuse _,s,st,Q,a,w,a1,h,cQ,ai=>xj (bb:=bb) cD cH h cQ ai
theorem EG (cD:P.follows .mixedOrders=true) (cH:k8 P .nil C) {bb:Nat} {c:Code}:∀(m:Nat) (s:b6) (st:bP) (Q:Exit->Act->au->Prop) (a:Act) (w:au),ny Q->EF P C N bb c m s=some st->lO P N B w0 Q st->Here N s B w0 a w->Code.roundsIn (Fr none) 0 P c Q m a w
 |0,s,st,Q,a,w,a1,h,cQ,ai=>by cases h
 |m+1,s,st,Q,a,w,a1,h,cQ,ai=>by
  unfold EF at h;rw[roundsIn_succ];split at h
  ·rename_i gA s1 h1
   refine rh cD cH c s _ _ a w (a1.then _) h1 (λdD w1 lP=> ?_) ai;split at h
   ·exact EG cD cH m s1 st Q dD w1 a1 h cQ lP
   ·rename_i ak
    cases h;exact HY (P:=P) (y:= .skip) (λh=>ak h) (cQ dD w1 lP) _
  ·rename_i ot h1 a_
   cases h;exact rh cD cH c s _ _ a w (a1.then _) a_ (lO.push (Q:=Q) (k:= .sb c m) h1 cQ) ai
  ·cases h
theorem o4 (cD:P.follows .mixedOrders=true) (cH:k8 P .nil C) {bb:Nat}:∀(ks:List fe) (x:kC) (s:b6) (st:bP) (Q:Exit->Act->au->Prop) (a:Act) (w:au),ny Q->resume P C N bb ks x s=some st->lO P N B w0 Q st->Here N s B w0 a w->dS P ks Q x.exit' a w
 |[],x,s,st,Q,a,w,a1,h,cQ,ai=>by
  cases h;exact cQ a w ai
 | .l5 y::ks,x,s,st,Q,a,w,a1,h,cQ,ai=>by
   unfold resume at h;unfold dS;cases x with
   |normal=>
    simp only at h;show y.wpIn (Fr none) 0 P (dS P ks Q) a w;split at h
    ·rename_i gA s1 h1
     exact rh cD cH y s _ _ a w (a1.uC ks) h1 (λdD w1 lP=>o4 cD cH ks gA s1 st Q dD w1 a1 h cQ lP) ai
    ·rename_i ot h1 a_
     cases h;exact rh cD cH y s _ _ a w (a1.uC ks) a_ (lO.vX (Q:=Q) (k:=ks) h1 cQ) ai
    ·cases h
   |exit id=>exact o4 cD cH ks (.exit id) s st Q a w a1 h cQ ai
   |goto l=>exact o4 cD cH ks (.goto l) s st Q a w a1 h cQ ai
   |ret=>exact o4 cD cH ks .ret s st Q a w a1 h cQ ai
 | .uB id::ks,x,s,st,Q,a,w,a1,h,cQ,ai=>by
   unfold resume at h;unfold dS;cases x with
   |exit id'=>
    simp only at h;show if id'=id then dS P ks Q .normal a w else dS P ks Q (.exit id') a w
    cases ad:Nat.beq id' id with
    |true=>
     rw[ad,bw] at h;rw[aN (ct ad)];exact o4 cD cH ks .normal s st Q a w a1 h cQ ai
    |false=>
     rw[ad,ei] at h;rw[aO (Nat.ne_of_beq_eq_false ad)];exact o4 cD cH ks (.exit id') s st Q a w a1 h cQ ai
   |normal=>exact o4 cD cH ks .normal s st Q a w a1 h cQ ai
   |goto l=>exact o4 cD cH ks (.goto l) s st Q a w a1 h cQ ai
   |ret=>exact o4 cD cH ks .ret s st Q a w a1 h cQ ai
 | .sb c m::ks,x,s,st,Q,a,w,a1,h,cQ,ai=>by
   unfold resume at h;unfold dS;cases x with
   |normal=>
    simp only at h;show Code.roundsIn (Fr none) 0 P c (dS P ks Q) m a w;split at h
    ·rename_i gA s1 h1
     exact EG cD cH m s _ _ a w (a1.uC ks) h1 (λdD w1 lP=>o4 cD cH ks gA s1 st Q dD w1 a1 h cQ lP) ai
    ·rename_i ot h1 a_
     cases h;exact EG cD cH m s _ _ a w (a1.uC ks) a_ (lO.vX (Q:=Q) (k:=ks) h1 cQ) ai
    ·cases h
   |exit id=>exact o4 cD cH ks (.exit id) s st Q a w a1 h cQ ai
   |goto l=>exact o4 cD cH ks (.goto l) s st Q a w a1 h cQ ai
   |ret=>exact o4 cD cH ks .ret s st Q a w a1 h cQ ai
end
end AE
namespace AE
def aG (W:au) (i:Nat):Option Obj:=W.heap[i]?
inductive b7 {α:Type} (M:Nat->Option Obj) (k:Nat) (enc:α->List U):U->List α->Prop
 |nil (a:Option Addr) (c:Nat):b7 M k enc (.slice a 0 c) []
 |mk {b off c:Nat} {l:List α} {cs:Array U} {ty:aH} {fr:Nat×Nat} (ad:M b=some (.cells cs ty fr)) (al:l.length<=c) (h:∀(i:Nat) (x:α),l[i]? =some x->∀(j:Nat) (u:U),(enc x)[j]? =some u->cs[off+i*k+j]? =some u):
   b7 M k enc (.slice (some ⟨b,off,none⟩) l.length c) l
theorem b7.mono {α:Type} {M M':Nat->Option Obj} {k:Nat} {enc:α->List U} {v:U} {l:List α} (h:b7 M k enc v l) (hm:∀i o,M i=some o->M' i=some o):b7 M' k enc v l:=by
 cases h with
 |nil=>exact .nil _ _
 |mk h1 ae ay=>exact .mk (hm _ _ h1) ae ay
theorem b7.below {α:Type} {W W':au} {k:Nat} {enc:α->List U} {v:U} {l:List α} (h:b7 (aG W) k enc v l) (ad:ch W.heap.size W W'):b7 (aG W') k enc v l:=
 h.mono λi o af=>by
   have lH:W.heap[i]? =some o:=af;show W'.heap[i]? =some o;rw[ad.block i (Array.getElem?_eq_some_iff.1 lH).1];exact lH
theorem b7.slice {α:Type} {M:Nat->Option Obj} {k:Nat} {enc:α->List U} {v:U} {l:List α} (h:b7 M k enc v l):∃a c,v= .slice a l.length c:=by
 cases h with
 |nil=>exact⟨_,_,rfl⟩
 |mk=>exact⟨_,_,rfl⟩
def cellAt:U->Nat->Option Addr
 | .slice (some ⟨b,off,_⟩) _ _,o=>some ⟨b,off+o,none⟩
 |_,_=>none
def iS (v:U) (o:Nat):U:= .pointer (cellAt v o)
variable [aY]
section
variable {P:aQ}
theorem aR.len {t ty e:aH} {x r:U} {a:Option Addr} {n c:Nat} (ak:aM x=true) (hr:aM r=true) (aI:P.underlying t=some (.slice e)) (ex:aK x= .slice a n c) (bX:aK r= .int .i64 n):aR P (.len #[t] ty x,r):=by
 refine⟨ak,hr,λdO dP w=> ?_⟩;show (fI dO dP (.len #[t] ty (aK x))).run P w=_;rw[ex];unfold fI;have:(Builtin.len_ #[t] ty #[.slice a n c]).run P w= .ok (.int .i64 n) w:=by
  simp [Builtin.len_,run_underlying aI];rfl
 simp only [Sem.run_bind,this,Result.andThen_ok,bX];rfl
theorem tu {op:BinOp} {t:aH} {x y r:U} {a b:U} (ak:aM x=true) (bg:aM y=true) (hr:aM r=true) (ex:aK x=a) (hk:aK y=b)
  (h:∀dO dP w,(fI dO dP (.bin op t a b)).run P w= .ok (.value (aK r)) w):aR P (.bin op t x y,r):=by
 refine⟨by simp [nv,ak,bg],hr,?_⟩;show ∀dO dP w,(fI dO dP (.bin op t (aK x) (aK y))).run P w=_;rw[ex,hk];exact h
def xk (op:BinOp) (k:IntKind) (a b:Int):U:=
 match op with
 | .lss=> .bool (decide (a<b))
 | .leq=> .bool (decide (a<=b))
 | .gtr=> .bool (decide (b<a))
 | .geq=> .bool (decide (b<=a))
 | .eql=> .bool (decide (a=b))
 | .neq=> .bool (!decide (a=b))
 | .add=> .int k (k.wrap (a+b))
 | .sub=> .int k (k.wrap (a-b))
 | .mul=> .int k (k.wrap (a*b))
 |_=>undef
def yY:BinOp->Bool
 | .lss| .leq| .gtr| .geq| .eql| .neq| .add| .sub| .mul=>true
 |_=>false
omit [aY] in
theorem acV {op:BinOp} (cj:yY op=true) (t:aH) (k:IntKind) (a b:Int) (dO dP:Operand) (w:au):(fI dO dP (.bin op t (.int k a) (.int k b))).run P w= .ok (.value (xk op k a b)) w:=by
 have e1:(a==b)=decide (a=b):=by rw[Bool.eq_iff_iff];simp
 cases op<;>first|(cases cj;done)|skip
 all_goals unfold fI
 all_goals simp [eqGuard,binOp,Op.intCmp,Op.intArith,xk,e1,bne]
theorem aR.bi {op:BinOp} {t:aH} {x y r:U} {k:IntKind} {a b:Int} (ak:aM x=true) (bg:aM y=true) (hr:aM r=true) (cj:yY op=true) (ex:aK x= .int k a) (hk:aK y= .int k b)
 (bX:aK r=xk op k a b):aR P (.bin op t x y,r):=tu ak bg hr ex hk λdO dP w=>by rw[bX];exact acV cj t k a b dO dP w
theorem aR.o5 {cM:Array aH} {ty:aH} {x y r:U} {k:IntKind} {a b:Int} (ak:aM x=true) (bg:aM y=true) (hr:aM r=true) (ex:aK x= .int k a) (hk:aK y= .int k b) (bX:aK r= .int k (max a b)):aR P (.d_ cM ty x y,r):=by
 refine⟨by simp [nv,ak,bg],hr,λdO dP w=> ?_⟩;show (fI dO dP (.d_ cM ty (aK x) (aK y))).run P w=_;rw[ex,hk,bX];unfold fI;simp only [Sem.run_bind,run_max_int2,Result.andThen_ok];rw[show (if b>a then b else a)=max a b by rw[Int.max_def];split<;>split<;>omega];rfl
theorem aR.sd {cM:Array aH} {ty:aH} {x y r:U} {k:IntKind} {a b:Int} (ak:aM x=true) (bg:aM y=true) (hr:aM r=true) (ex:aK x= .int k a) (hk:aK y= .int k b) (bX:aK r= .int k (min a b)):aR P (.k7 cM ty x y,r):=by
 refine⟨by simp [nv,ak,bg],hr,λdO dP w=> ?_⟩;show (fI dO dP (.k7 cM ty (aK x) (aK y))).run P w=_;rw[ex,hk,bX];unfold fI;simp only [Sem.run_bind,run_min_int2,Result.andThen_ok];rw[show (if b<a then b else a)=min a b by rw[Int.min_def];split<;>split<;>omega];rfl
theorem aR.cP {t e:aH} {x i r:U} {b off n c aZ:Nat} {j:Nat} {k:IntKind} (ak:aM x=true) (af:aM i=true) (hr:aM r=true) (aI:P.underlying t=some (.slice e)) (cb:a7 P (sizeOf e)=some aZ)
  (ex:aK x= .slice (some ⟨b,off,none⟩) n c) (gj:aK i= .int k j) (hj:j<n) (bX:aK r= .pointer (some ⟨b,off+j*aZ,none⟩)):aR P (.cP t x i,r):=by
 refine⟨by simp [nv,ak,af],hr,λdO dP w=> ?_⟩;show (fI dO dP (.cP t (aK x) (aK i))).run P w=_;rw[ex,gj];unfold fI;have:(Instr.indexAt t (.slice (some ⟨b,off,none⟩) n c) (.int k j)).run P w= .ok (.pointer (some ⟨b,off+j*aZ,none⟩)) w:=by
  simp [Instr.indexAt,run_underlying aI,asIntOf,hj,jc cb w,Addr.jZ]
 simp only [Sem.run_bind,this,Result.andThen_ok,bX];rfl
theorem aR.cu {s:aH} {x r:U} {f b o:Nat} {fields:Array Field} {hz:Field} {n:Nat} (ak:aM x=true) (hr:aM r=true) (av:a7 P (underlying s)=some (.struct fields)) (aP:fields[f]? =some hz) (aq:a7 P (sizeOf hz.type)=some n) (aJ:n≠0)
  (ex:aK x= .pointer (some ⟨b,o,none⟩)) (bX:aK r= .pointer (some ⟨b,o+hz.offset,none⟩)):aR P (.cu s x f,r):=by
 refine⟨ak,hr,λdO dP w=> ?_⟩;show (fI dO dP (.cu s (aK x) f)).run P w=_;rw[ex];unfold fI;have:(Instr.fieldAt s (.pointer (some ⟨b,o,none⟩)) f).run P w= .ok (.pointer (some ⟨b,o+hz.offset,none⟩)) w:=by
  unfold Instr.fieldAt;refine cK av ?_;simp only [aP];refine cK (a:=(⟨b,o,none⟩:Addr)) rfl ?_;unfold fieldPlace;simp only [Sem.run_bind,jc aq w,Result.andThen_ok,aO aJ,Addr.jZ];rfl
 simp only [Sem.run_bind,this,Result.andThen_ok,bX];rfl
theorem aR.bp {t:aH} {x r:U} {b o n:Nat} {l:List U} (ak:aM x=true) (hr:aM r=true) (ha:a7 P (isAgg t)=some true) (aq:a7 P (sizeOf t)=some n) (ex:aK x= .pointer (some ⟨b,o,none⟩))
  (hl:l.length=n) (al:∀w,nw w->∀j u,l[j]? =some u->w.cell? ⟨b,o+j,none⟩=some u) (bX:aK r= .agg ⟨l⟩):aR P (.bp t x,r):=by
 refine⟨ak,hr,λdO dP w hw=> ?_⟩;show (fI dO dP (.bp t (aK x))).run P w=_;rw[ex];unfold fI;have uh:∀j,j<n->w.cell? ((⟨b,o,none⟩:Addr).add j)=some (l.getD j undef):=λj hj=>by
  rw[Addr.jZ];refine al w hw j _ ?_;rw[fP ao,dr,fP ao];rfl
 have:(Instr.loadAt t (.pointer (some ⟨b,o,none⟩))).run P w= .ok (.agg ⟨l⟩) w:=by
  unfold Instr.loadAt;refine cK (a:=(⟨b,o,none⟩:Addr)) rfl ?_;unfold loadVar;refine cK ha ?_;simp only [if_true];refine cK aq ?_;refine c8 (run_loadCells _ _ n (λj=>l.getD j undef) uh) ?_;have:(List.range n).map (λj=>l.getD j undef)=l:=by
   apply List.ext_getElem
   ·simp [hl]
   ·intro i h1 ae
    simp only [List.getElem_map,List.getElem_range,dr];rw[fP ae];rfl
  show Result.ok (Value.agg (List.map (λj=>l.getD j undef) (List.range n)).toArray) w=_;rw[this]
 simp only [Sem.run_bind,this,Result.andThen_ok,bX];rfl
theorem aR.Tr {t:aH} {x r:U} {b o:Nat} {u:U} (ak:aM x=true) (hr:aM r=true) (ha:a7 P (isAgg t)=some false) (ex:aK x= .pointer (some ⟨b,o,none⟩))
  (al:∀w,nw w->w.cell? ⟨b,o,none⟩=some u) (bX:aK r=u):aR P (.bp t x,r):=by
 refine⟨ak,hr,λdO dP w hw=> ?_⟩;show (fI dO dP (.bp t (aK x))).run P w=_;rw[ex];unfold fI;have:(Instr.loadAt t (.pointer (some ⟨b,o,none⟩))).run P w= .ok u w:=by
  unfold Instr.loadAt;refine cK (a:=(⟨b,o,none⟩:Addr)) rfl ?_;unfold loadVar;refine cK ha ?_;simp [Go.load,Sem.run,al w hw]
 simp only [Sem.run_bind,this,Result.andThen_ok,bX];rfl
omit [aY] in
theorem b7.at' {α:Type} {M:Nat->Option Obj} {k:Nat} {enc:α->List U} {v:U} {l:List α} (h:b7 M k enc v l) {i:Nat} {x:α} (af:l[i]? =some x):∃b off c cs ty fr,v= .slice (some ⟨b,off,none⟩) l.length c/\M b=some (.cells cs ty fr)/\
  ∀(j:Nat) (u:U),(enc x)[j]? =some u->cs[off+i*k+j]? =some u:=by
 cases h with
 |nil=>simp at af
 |mk h1 ae ay=>exact⟨_,_,_,_,_,_,rfl,h1,ay i x af⟩
theorem aR.acW {α:Type} {k:Nat} {enc:α->List U} {v:U} {l:List α} (h:b7 aY.dg k enc v l) {t ty e:aH} {x r:U} (ak:aM x=true) (hr:aM r=true) (aI:P.underlying t=some (.slice e)) (ex:aK x=v) (bX:aK r= .int .i64 l.length):
  aR P (.len #[t] ty x,r):=by
 obtain⟨a,c,aC⟩:=h.slice;exact aR.len ak hr aI (ex.trans aC) bX
theorem aR.EH {α:Type} {k:Nat} {enc:α->List U} {v:U} {l:List α} (h:b7 aY.dg k enc v l) {t e:aH} {x i r:U} {j:Nat} {gM:IntKind} (hj:j<l.length) (ak:aM x=true) (af:aM i=true) (hr:aM r=true) (aI:P.underlying t=some (.slice e))
  (cb:a7 P (sizeOf e)=some k) (ex:aK x=v) (gj:aK i= .int gM j) (bX:aK r=iS v (j*k)):aR P (.cP t x i,r):=by
 obtain⟨b,off,c,_,_,_,aC,_⟩:=h.at' (fP hj);refine aR.cP ak af hr aI cb (ex.trans aC) gj hj ?_;rw[bX,aC];rfl
theorem aR.Ts {s:aH} {x r v:U} {f o o':Nat} {fields:Array Field} {hz:Field} {n:Nat} (ak:aM x=true) (hr:aM r=true) (av:a7 P (underlying s)=some (.struct fields)) (aP:fields[f]? =some hz) (aq:a7 P (sizeOf hz.type)=some n) (aJ:n≠0)
  (aC:∃b off n c,v= .slice (some ⟨b,off,none⟩) n c) (ho:o'=o+hz.offset) (ex:aK x=iS v o) (bX:aK r=iS v o'):aR P (.cu s x f,r):=by
 obtain⟨b,off,m,c,rfl⟩:=aC;refine aR.cu ak hr av aP aq aJ ex ?_;rw[bX,ho];show Value.pointer (some ⟨b,off+(o+hz.offset),none⟩)=_;rw[Nat.add_assoc]
theorem aR.AM {α:Type} {k:Nat} {enc:α->List U} {v:U} {l:List α} (h:b7 aY.dg k enc v l) {t:aH} {p r:U} {i:Nat} {x:α} (af:l[i]? =some x) (hp:aM p=true) (hr:aM r=true)
  (ha:a7 P (isAgg t)=some true) (aq:a7 P (sizeOf t)=some k) (ag:(enc x).length=k) (ex:aK p=iS v (i*k)) (bX:aK r= .agg ⟨enc x⟩):aR P (.bp t p,r):=by
 obtain⟨b,off,c,cs,ty,fr,aC,ad,al⟩:=h.at' af;rw[aC] at ex;refine aR.bp hp hr ha aq ex ag (λw hw j u hj=> ?_) bX;rw[cell_of_row w b _ cs ty fr (hw b _ ad)];exact al j u hj
theorem aR.Tt {α:Type} {k:Nat} {enc:α->List U} {v:U} {l:List α} (h:b7 aY.dg k enc v l) {t:aH} {p r:U} {i o j:Nat} {x:α} {u:U} (af:l[i]? =some x) (hp:aM p=true) (hr:aM r=true)
  (ha:a7 P (isAgg t)=some false) (ho:o=i*k+j) (hu:(enc x)[j]? =some u) (ex:aK p=iS v o) (bX:aK r=u):aR P (.bp t p,r):=by
 obtain⟨b,off,c,cs,ty,fr,aC,ad,al⟩:=h.at' af;rw[aC] at ex;refine aR.Tr hp hr ha ex (λw hw=> ?_) bX;rw[cell_of_row w b _ cs ty fr (hw b _ ad),ho,<-Nat.add_assoc];exact al j u hu
end
end AE
namespace AE
def mA:U->U
 | .agg _=> .bool false
 | .tuple _=> .bool false
 |v=>v
theorem acX (v:U):∀cs,mA v≠.agg cs/\mA v≠.tuple cs:=by
 intro cs;cases v<;>simp [mA]
def l6 (bh:List U) (k:Nat):U:=bif Nat.blt k eD then mA (bh.getD k (.bool false)) else .pointer (some ⟨k-eD,0,none⟩)
theorem acY (bh:List U) (k:Nat):∀cs,l6 bh k≠.agg cs/\l6 bh k≠.tuple cs:=by
 unfold l6;cases Nat.blt k eD with
 |true=>exact acX _
 |false=>exact λcs=>⟨λh=>(by cases h),λh=>(by cases h)⟩
theorem acZ (bh:List U) (g:Nat):l6 bh (eD+g)= .pointer (some ⟨g,0,none⟩):=by
 unfold l6;rw[show Nat.blt (eD+g) eD=false from Bool.eq_false_iff.2 λh=>by rw[Nat.blt_eq] at h;omega,ei,Nat.add_sub_cancel_left]
@[reducible] def aX (M:Nat->Option Obj) (bh:List U):aY:=⟨l6 bh,acY bh,M,acZ bh⟩
theorem Tu (W:au) (bh:List U): @nw (aX (aG W) bh) W:=λi o h=>h
class l7 (Q:Exit->Act->au->Prop):Prop where
 calm:ny Q
instance [cI] {P:aQ} {fn:Func} {N B:Nat} {w0:au} {R:Ending->au->Prop}:l7 (qk P fn N B w0 R):=⟨λ_ _ _ h=>h⟩
instance {Q:Exit->Act->au->Prop} [l7 Q] {R:Act->au->Prop}:l7 (Exit.then R Q):=⟨(l7.calm (Q:=Q)).then R⟩
instance {P:aQ} {Q:Exit->Act->au->Prop} [l7 Q] {ks:List fe}:l7 (dS P ks Q):=⟨(l7.calm (Q:=Q)).uC ks⟩
def Cz:kC->Bool
 | .normal| .ret=>true
 |_=>false
def gu (P:aQ) (fn:Func):Option bP->Option U
 |some (.done x s)=>bif Cz x then match xb s.A s.ms with
  |some eH=>match vT P eH s.sl fn.results.toList with
   |some vs=>bif aM (xe vs) then some (xe vs) else none
   |none=>none
  |none=>none
  else none
 |_=>none
def uD (head:aT) (aU:List bM):Option bP->Option ev
 |some (.done .normal s)=>dy s head aU
 |_=>none
def tv (head:aT) (aU:List bM):Option bP->Option ev
 |some (.loop _ s _)=>dy s head aU
 |_=>none
def se:Option bP->Code
 |some (.loop b _ _)=>b
 |_=> .skip
def gX:Option bP->List fe
 |some (.loop _ _ ks)=>ks
 |some (.oper _ _ _ _ ks)=>ks
 |some (.range _ _ _ _ _ ks)=>ks
 |some (.draw _ _ _ ks)=>ks
 |some (.cond _ _ _ _ ks)=>ks
 |_=>[]
def cW:Option bP->b6
 |some (.done _ s)=>s
 |some (.loop _ s _)=>s
 |some (.oper _ _ _ s _)=>s
 |some (.range _ _ _ _ s _)=>s
 |some (.draw _ _ s _)=>s
 |some (.cond _ _ _ s _)=>s
 |none=>{sl:= .nil,ms:=[],A:=start}
def jR:Option bP->List Oper
 |some (.oper _ r _ _ _)=>r
 |_=>[]
def jS:Option bP->Array Oper
 |some (.oper _ _ ops _ _)=>ops
 |_=> #[]
def iT:Option bP->Option Tmp
 |some (.oper o _ _ _ _)=>o.dst
 |_=>none
def H0 (P:aQ) [Lib P] [dX P] (C:hN) (N bb:Nat) (ks:List fe):Option bP->Option bP
 |some (.done .normal _)=>none
 |some (.done x s)=>resume P C N bb ks x s
 |_=>none
def db (head:aT) (aU:List bM):b6:={sl:=head,ms:=[],A:=eJ aU}
def dn:List (Nat×U)->aT
 |[]=> .nil
 |(t,v)::r=>match b4.set v depth (dn r) t with
  |some s=>s
  |none=> .nil
def H2 (P:aQ) (fn:Func):Option bP->Option (U×aW)
 |some (.done x s)=>bif Cz x then match xb s.A s.ms with
  |some eH=>match vT P eH s.sl fn.results.toList with
   |some vs=>some (xe vs,eH)
   |none=>none
  |none=>none
  else none
 |_=>none
theorem ac0 [aY] [cI] {P:aQ} {fn:Func} {N B:Nat} {w0:au} {R:Ending->au->Prop} {st:bP} {v:U} {eH:aW} (h:H2 P fn (some st)=some (v,eH)) (hx:∀aB w2,Here 1 (HT v eH) B w0 (Mn aB) w2->R (.returned aB) w2):lO P N B w0 (qk P fn N B w0 R) st:=by
 unfold H2 at h;split at h
 ·rename_i x s cB
  cases cB;cases ak:Cz x with
  |false=>rw[ak] at h;cases h
  |true=>
   rw[ak,bw] at h;split at h
   ·rename_i iG hl
    split at h
    ·rename_i vs lM
     cases h;intro a w ai;have main:Ew P fn N B w0 R a w:=⟨inferInstance,s,eH,xe vs,ai,hl,λ_ _ _ hr av=>S5 hr av lM,hx⟩;cases x with
     |normal=>exact main
     |ret=>exact main
     |exit id=>cases ak
     |goto l=>cases ak
    ·cases h
   ·cases h
 ·cases h
theorem ac1 {P:aQ} {fn:Func} {o:Option bP} {v:U} (h:gu P fn o=some v):∃eH,H2 P fn o=some (v,eH)/\aM v=true:=by
 unfold gu at h;unfold H2;split at h
 ·rename_i x s
  cases ak:Cz x with
  |false=>rw[ak] at h;cases h
  |true=>
   rw[ak,bw] at h;simp only [ak,bw];split at h
   ·rename_i eH hl
    split at h
    ·rename_i vs lM
     cases hp:aM (xe vs) with
     |false=>rw[hp] at h;cases h
     |true=>
      rw[hp,bw,cx] at h;subst h;exact⟨eH,by simp only [hl,lM],hp⟩
    ·cases h
   ·cases h
 ·cases h
theorem Tv [aY] [cI] {P:aQ} {fn:Func} {N B:Nat} {w0:au} {R:Ending->au->Prop} {st:bP} {v:U} (h:gu P fn (some st)=some v) (hx:∀w2,ch B w0 w2->nw w2->R (.returned (aK v)) w2):lO P N B w0 (qk P fn N B w0 R) st:=by
 obtain⟨eH,h1,hp⟩:=ac1 h;refine ac0 h1 λaB w2 ai=> ?_
 have af:=ai.mz;obtain⟨⟨φ,ds,q1,aE,b9,ey,_⟩,hv,lJ⟩:=ai;have:=aE.get 0 v rfl;rw[show aB=aK v from aD.iq v hp this];exact hx w2 hv af
theorem ac2 [aY] [cI] {P:aQ} [Lib P] [dX P] {C:hN} {N B bb:Nat} {w0:au} {ks:List fe} {st s2:bP} {Q:Exit->Act->au->Prop} [l7 Q] {R:Act->au->Prop} (cD:P.follows .mixedOrders=true) (cH:k8 P .nil C) (h:H0 P C N bb ks (some st)=some s2) (ae:lO P N B w0 Q s2):lO P N B w0 (Exit.then R (dS P ks Q)) st:=by
 unfold H0 at h;split at h
 ·cases h
 ·rename_i x s ak cB
  cases cB;intro a w ai;exact HY (Q:=dS P ks Q) (P:=P) (y:= .skip) (λaq=>ak aq) (o4 cD cH ks x s s2 Q a w l7.calm h ae ai) R
 ·cases h
theorem ac3 [cI] {P:aQ} {N B:Nat} {w0:au} {s1:aY} {X:Type} {f':X->aY} (eU:X->Prop) (gI:X->Nat) {head:aT} {aU:List bM} {st:bP} {bH:ev} {Q:Exit->Act->au->Prop} (x:X) (ad:tv head aU (some st)=some bH) (hm:fm s1 (f' x) bH)
  (pG:∀i o,(f' x).dg i=some o->s1.dg i=some o) (ak:eU x)
  (round:∀x,eU x->∀a w,@Here (f' x) _ N (db head aU) B w0 a w->(se (some st)).wpIn (Fr none) 0 P (Exit.then (λaS w'=>∃x',eU x'/\gI x'<gI x/\ @Here (f' x') _ N (db head aU) B w0 aS w') (dS P (gX (some st)) Q)) a w) (aq:cI.dt<=aU.length) (al:ic (cW (some st)).A aU 0): @lO s1 _ P N B w0 Q st:=by
 unfold tv at ad;split at ad
 ·rename_i b s ks cB
  cases cB;intro a w ai;exact Ti f' (db head aU) eU gI round x ak (Here.move ad hm pG aq al ai)
 ·cases ad
def e0 [aY] [cI] (P:aQ) (N B:Nat) (w0:au) (Q:Exit->Act->au->Prop) (o:Option bP):Prop:=∃st,o=some st/\lO P N B w0 Q st
theorem ac4 [aY] [cI] {P:aQ} {fn:Func} {N B:Nat} {w0:au} {R:Ending->au->Prop} {o:Option bP} {v:U} (h:gu P fn o=some v) (hx:∀w2,ch B w0 w2->nw w2->R (.returned (aK v)) w2):e0 P N B w0 (qk P fn N B w0 R) o:=by
 cases o with
 |none=>cases h
 |some st=>exact⟨st,rfl,Tv h hx⟩
theorem ac5 [aY] [cI] {P:aQ} [Lib P] [dX P] {C:hN} {N B bb:Nat} {w0:au} {ks:List fe} {o:Option bP} {Q:Exit->Act->au->Prop} [l7 Q] {R:Act->au->Prop} (cD:P.follows .mixedOrders=true) (cH:k8 P .nil C) (ae:e0 P N B w0 Q (H0 P C N bb ks o)):e0 P N B w0 (Exit.then R (dS P ks Q)) o:=by
 obtain⟨s2,h,ae⟩:=ae;cases o with
 |none=>cases h
 |some st=>exact⟨st,rfl,ac2 cD cH h ae⟩
theorem ac6 [cI] {P:aQ} {N B:Nat} {w0:au} {s1:aY} {X:Type} {f':X->aY} (eU:X->Prop) (gI:X->Nat) {head:aT} {aU:List bM} {o:Option bP} {bH:ev} {Q:Exit->Act->au->Prop} (x:X) (ad:tv head aU o=some bH) (hm:fm s1 (f' x) bH)
  (pG:∀i o,(f' x).dg i=some o->s1.dg i=some o) (ak:eU x)
  (round:∀x,eU x->∀a w,@Here (f' x) _ N (db head aU) B w0 a w->(se o).wpIn (Fr none) 0 P (Exit.then (λaS w'=>∃x',eU x'/\gI x'<gI x/\ @Here (f' x') _ N (db head aU) B w0 aS w') (dS P (gX o) Q)) a w) (aq:cI.dt<=aU.length:=by first|exact Nat.zero_le _|exact hJ rfl) (al:ic (cW o).A aU 0:=by exact f_ rfl): @e0 s1 _ P N B w0 Q o:=by
 cases o with
 |none=>cases ad
 |some st=>exact⟨st,rfl,ac3 eU gI x ad hm pG ak round aq al⟩
def Tw (P:aQ) [Lib P] (F:List (fH×U)) (T:List (FuncId×List U×U)) (N bb d:Nat) (c:Code) (s:b6):Option bP:=
 @o3 P _ ⟨F⟩ (@r_ P _ ⟨F⟩ ⟨T⟩ .nil bb d) N bb c s
def Tx (P:aQ) [Lib P] (F:List (fH×U)) (T:List (FuncId×List U×U)) (N bb d:Nat) (ks:List fe) (o:Option bP):Option bP:=
 @H0 P _ ⟨F⟩ (@r_ P _ ⟨F⟩ ⟨T⟩ .nil bb d) N bb ks o
def sf [aY] (P:aQ) (F:List (fH×U)):Prop:=∀p∈F,aR P p
def ri [aY] (P:aQ) (T:List (FuncId×List U×U)):Prop:=∀p∈T,AH P p
theorem bc [aY] {P:aQ}:sf P []:=λ_ h=>by cases h
theorem ah [aY] {P:aQ} {p:fH×U} {l:List (fH×U)} (h:aR P p) (hl:sf P l):sf P (p::l):=λq a1=>by
 rcases List.mem_cons.1 a1 with rfl|a1
 ·exact h
 ·exact hl q a1
theorem bd [aY] {P:aQ}:ri P []:=λ_ h=>by cases h
theorem Mv [aY] {P:aQ} {p:FuncId×List U×U} {l:List (FuncId×List U×U)} (h:AH P p) (hl:ri P l):ri P (p::l):=λq a1=>by
 rcases List.mem_cons.1 a1 with rfl|a1
 ·exact h
 ·exact hl q a1
theorem cz [aY] {P:aQ} {p:FuncId×List U×U} {l:List (FuncId×List U×U)} (h:ju P p) (hl:ri P l):ri P (p::l):=Mv h.Mm hl
theorem ac7 [aY] [cI] {P:aQ} [Lib P] {F:List (fH×U)} {T:List (FuncId×List U×U)} {N B bb d:Nat} {w0 w:au} {a:Act} {c:Code} {s:b6} {Q:Exit->Act->au->Prop} [l7 Q] (cD:P.follows .mixedOrders=true) (cF:sf P F) (eb:ri P T)
  (h:e0 P N B w0 Q (Tw P F T N bb d c s)) (ai:Here N s B w0 a w):c.wpIn (Fr none) 0 P Q a w:=by
 obtain⟨st,h1,ae⟩:=h;letI:dX P:=⟨F⟩;letI:r' P:=⟨T⟩;exact rh cD (yU cD cF eb d) c s st Q a w l7.calm h1 ae ai
theorem ac8 [aY] [cI] {P:aQ} [Lib P] {F:List (fH×U)} {T:List (FuncId×List U×U)} {N B bb d:Nat} {w0:au} {ks:List fe} {o:Option bP} {Q:Exit->Act->au->Prop} [l7 Q] {R:Act->au->Prop} (cD:P.follows .mixedOrders=true) (cF:sf P F) (eb:ri P T)
  (ae:e0 P N B w0 Q (Tx P F T N bb d ks o)):e0 P N B w0 (Exit.then R (dS P ks Q)) o:=by
 letI:dX P:=⟨F⟩;letI:r' P:=⟨T⟩;exact ac5 cD (yU cD cF eb d) ae
def AN (P:aQ) [Lib P] (F:List (fH×U)) (T:List (FuncId×List U×U)) (N bb d:Nat) (r:List Oper) (ops:Array Oper) (ks:List fe) (s:b6):Option bP:=
 match @Cy P _ ⟨F⟩ (@r_ P _ ⟨F⟩ ⟨T⟩ .nil bb d) N ops s.ms r s.sl s.A with
 | .done .normal s1=> @resume P _ ⟨F⟩ (@r_ P _ ⟨F⟩ ⟨T⟩ .nil bb d) N bb ks .normal s1
 | .done _ _=>none
 |st=>some (st.vX ks)
theorem Mw [aY] [cI] {P:aQ} [Lib P] {F:List (fH×U)} {T:List (FuncId×List U×U)} {N B bb d:Nat} {w0 w:au} {a:Act} {r:List Oper} {ops:Array Oper} {ks:List fe} {s:b6} {Q:Exit->Act->au->Prop} [l7 Q] (cD:P.follows .mixedOrders=true) (cF:sf P F) (eb:ri P T)
  (h:e0 P N B w0 Q (AN P F T N bb d r ops ks s)) (ai:Here N s B w0 a w):wpListIn (Fr none) 0 P ops (dS P ks Q) r a w:=by
 obtain⟨st,h1,ae⟩:=h;letI:dX P:=⟨F⟩;letI:r' P:=⟨T⟩;have al:=yU (gl:= .nil) (bb:=bb) cD cF eb d;unfold AN at h1;refine HZ (ms:=s.ms) al r s.sl s.A a w ?_ ai;split at h1
 ·rename_i s1 he
  rw[he];intro aS w' xf;exact o4 cD al ks .normal s1 st Q aS w' l7.calm h1 ae xf
 ·cases h1
 ·rename_i ot a_ he
  cases h1;exact lO.vX (λx s ak=>by
   cases x with
   |normal=>exact a_ _ ak
   |_=>exact he _ _ ak) ae
theorem Ty [aY] {P:aQ} {f:FuncId} {fn:Func} {c:Code} {args:List U} {sl:aT} {N:Nat} {W:au} {R:Ending->au->Prop} (l4:P.funcs[f]? =some fn) (al:fn.body=some c) (gH:setArgs 0 args .nil=some sl) (hp:dW args=true)
  (iQ:args.length+(fn.ntmps-args.length)=N) (oz:nw W) (qj:∀a,@Here _ fc N {sl,ms:=[],A:=start} W.heap.size W a W->c.wpIn (Fr none) 0 P (@qk fc P fn N W.heap.size W R) a W):Calls P f ⟨et args⟩ W R:=by
 subst iQ;letI:=fc;exact Mo l4 al gH (Tf oz) (λb e h=>by cases h) (ux.none _ _) ⟨by simp [w5],λj hj=>by simpa using aD.Aj (λ_=>none) args hp j hj⟩ (ch.refl _ _) (bY _) qj
theorem AO {s1 s2:aY}:fm s1 s2 []:=λ_ h=>by cases h
theorem ac9 {s1 s2:aY} {p:U×U} {l:ev} (h: @aK s1 p.1= @aK s2 p.2) (hl:fm s1 s2 l):fm s1 s2 (p::l):=λq a1=>by
 rcases List.mem_cons.1 a1 with rfl|a1
 ·exact h
 ·exact hl q a1
theorem ac' {k:IntKind} {a b:Int} (h:a=b):Value.int k a= .int k b:=by rw[h]
theorem Tz {M M':Nat->Option Obj} {bh vals':List U} {a b:Nat} (v:U) (h1:l6 bh a=v) (ae:l6 vals' b=v): @aK (aX M bh) (aj a)= @aK (aX M' vals') (aj b):=by
 exact((@Hp (aX M bh) a).trans h1).trans ((@Hp (aX M' vals') b).trans ae).symm
theorem ac_ {M M':Nat->Option Obj} {bh vals':List U} {a b:Nat} {k:IntKind} {x y:Int} (h1:l6 bh a= .int k x) (ae:l6 vals' b= .int k y) (h:x=y): @aK (aX M bh) (aj a)= @aK (aX M' vals') (aj b):=by
 subst h;exact Tz (.int k x) h1 ae
theorem wrap64 {n:Int} (h1: -9223372036854775808<=n) (ae:n<=9223372036854775807):IntKind.i64.wrap n=n:=IntWalk.i64_in n ⟨h1,ae⟩
attribute [instance] fc
end AE
namespace AE
theorem TA:∀{l:List U},dW l=true->∀{v:U},v∈l->aM v=true
 |[],_,v,aC=>by cases aC
 |x::r,h,v,aC=>by
  unfold dW at h;simp only [c0] at h;rcases List.mem_cons.1 aC with rfl|aC
  ·exact h.1
  ·exact TA h.2 aC
end AE
namespace AE
def TB [cI] {Y:Type} (CA:Y->aY) (R:Y->Prop) (ec:U) (CB:List bM) (B:Nat) (w0:au) (e:Ending) (w':au):Prop:=
 ∃aB y,e= .returned aB/\R y/\ @Here (CA y) _ 1 (HT ec (eJ CB)) B w0 (Mn aB) w'
def TC [aY] (P:aQ) (f:FuncId) (args:List U) (A:aW) (B:Nat) (w0:au) {Y:Type} (CA:Y->aY) (R:Y->Prop) (ec:U) (CB:List bM):Prop:=
 ∀φ w fM,bR φ A w->(∀b e,φ b=some e->B<=e.bf)->hy args φ fM->ch B w0 w->B<=w.heap.size->Calls P f fM w (@TB ⟨φ,A.n⟩ Y CA R ec CB B w0)
theorem TC.of [aY] {P:aQ} {f:FuncId} {fn:Func} {c:Code} {args:List U} {sl:aT} {A:aW} {N B:Nat} {w0:au} {Y:Type} {CA:Y->aY} {R:Y->Prop} {ec:U} {CB:List bM} (l4:P.funcs[f]? =some fn) (al:fn.body=some c) (gH:setArgs 0 args .nil=some sl)
  (iQ:args.length+(fn.ntmps-args.length)=N) (qj:∀φ a w,@Here _ ⟨φ,A.n⟩ N {sl,ms:=[],A} B w0 a w->c.wpIn (Fr none) 0 P (@qk ⟨φ,A.n⟩ P fn N B w0 (@TB ⟨φ,A.n⟩ Y CA R ec CB B w0)) a w):TC P f args A B w0 CA R ec CB:=by
 subst iQ;intro φ w fM hr dI gf ad cb;letI:cI:=⟨φ,A.n⟩;exact Mo l4 al gH hr dI ⟨bY _,λ_ _=>rfl⟩ gf ad cb λa ai=>qj φ a w ai
def uE (P:aQ) [Lib P]:Option bP->Option (FuncId×List U×aW)
 |some (.oper o _ ops s _)=>match qf ops o s.sl with
  |some true=>match D8 P (ea .nil s.sl) s.A o with
   |some (.enter f args,bt)=>some (f,args,bt)
   |_=>none
  |_=>none
 |_=>none
theorem ada {α:Type} {o:Option α} {d:α} (h:o.isSome=true):o=some (o.getD d):=by
 cases o with
 |none=>cases h
 |some a=>rfl
def Mx (P:aQ) [Lib P] (F:List (fH×U)) (T:List (FuncId×List U×U)) (N bb d m:Nat):Option bP->Option bP
 |some (.loop b s ks)=>match @EF P _ ⟨F⟩ (@r_ P _ ⟨F⟩ ⟨T⟩ .nil bb d) N bb b m s with
  |some (.done x s1)=> @resume P _ ⟨F⟩ (@r_ P _ ⟨F⟩ ⟨T⟩ .nil bb d) N bb ks x s1
  |some st=>some (st.vX ks)
  |none=>none
 |_=>none
theorem sg [aY] [cI] {P:aQ} [Lib P] {F:List (fH×U)} {T:List (FuncId×List U×U)} {N B bb d m:Nat} {w0:au} {o:Option bP} {Q:Exit->Act->au->Prop} [l7 Q] (cD:P.follows .mixedOrders=true) (cF:sf P F) (eb:ri P T)
  (h:e0 P N B w0 Q (Mx P F T N bb d m o)):e0 P N B w0 Q o:=by
 obtain⟨st,h1,ae⟩:=h;letI:dX P:=⟨F⟩;letI:r' P:=⟨T⟩;have al:=yU (gl:= .nil) (bb:=bb) cD cF eb d;unfold Mx at h1;split at h1
 ·rename_i b s ks
  refine⟨_,rfl,λa w ai=>wpIn_loop_rounds m ?_⟩;have a1:ny (dS P ks Q):=(l7.calm (Q:=Q)).uC ks;split at h1
  ·rename_i gA s1 he
   exact EG cD al m s _ _ a w a1 he (λdD w1 lP=>o4 cD al ks gA s1 st Q dD w1 l7.calm h1 ae lP) ai
  ·rename_i ot a_ he
   cases h1;exact EG cD al m s _ _ a w a1 he (lO.vX (Q:=Q) (k:=ks) (λx s ak=>a_ x s ak) ae) ai
  ·cases h1
 ·cases h1
end AE
namespace AE
abbrev Mem:=Nat->Option Obj
def eF:U->Option Nat
 | .slice (some a) _ c=>if c=0 then none else some a.block
 |_=>none
theorem EI (a:Option Addr) (n:Nat):eF (.slice a n 0)=none:=by cases a<;>rfl
theorem mU (a:Addr) (n:Nat) {c:Nat} (h:0<c):eF (.slice (some a) n c)=some a.block:=by
 show (if c=0 then none else some a.block)=_;rw[aO ao]
theorem AP {v:U} {i:Nat} (h:some i=eF v):some i=v.ownBlock:=by
 cases v<;>first|(cases h;done)|skip
 rename_i a n c;cases a with
 |none=>cases h
 |some a=>
  rcases Nat.eq_zero_or_pos c with al|al
  ·subst al;cases h
  ·rw[mU a n al] at h;exact h
def dJ {α:Type} (B:Nat) (M:Mem) (e:aH) (k:Nat) (enc:α->List U) (v:U) (l:List α):Prop:=
 (∃a,v= .slice a 0 0/\l=[])\/
 ∃g cap cur,v= .slice (some ⟨g,0,none⟩) l.length cap/\0<cap/\B<=g/\M g=some (.cells cur e (0,0))/\l.length<=cap/\cap<=maxLen/\cur.size=cap*k/\cur.toList.take (l.length*k)=l.flatMap enc
theorem qm {α:Type} {k:Nat} {enc:α->List U} (ag:∀x,(enc x).length=k):∀l:List α,(l.flatMap enc).length=l.length*k
 |[]=>by simp
 |x::r=>by rw[List.flatMap_cons,List.length_append,ag,qm ag r,List.length_cons,Nat.add_mul,Nat.one_mul,Nat.add_comm]
theorem AQ {α:Type} {k:Nat} {enc:α->List U} (ag:∀x,(enc x).length=k):∀(l:List α) (i:Nat) (x:α),l[i]? =some x->∀(j:Nat) (u:U),(enc x)[j]? =some u->(l.flatMap enc)[i*k+j]? =some u
 |[],i,x,h,_,_,_=>by simp at h
 |y::r,0,x,h,j,u,hu=>by
  simp only [List.getElem?_cons_zero,cx] at h;subst h;have hj:j<(enc y).length:=(List.getElem?_eq_some_iff.1 hu).1;rw[List.flatMap_cons,List.getElem?_append_left ao,Nat.zero_mul,Nat.zero_add];exact hu
 |y::r,i+1,x,h,j,u,hu=>by
  rw[List.flatMap_cons,List.getElem?_append_right (by rw[ag,Nat.add_mul];omega),ag,show (i+1)*k+j-k=i*k+j by rw[Nat.add_mul];omega];exact AQ ag r i x (by simpa using h) j u hu
section
variable {α:Type} {B:Nat} {M:Mem} {e:aH} {k:Nat} {enc:α->List U} {v:U} {l:List α}
theorem dJ.nil (B:Nat) (M:Mem) (e:aH) (k:Nat) (enc:α->List U) (a:Option Addr):dJ B M e k enc (.slice a 0 0) []:= .inl ⟨a,rfl,rfl⟩
theorem dJ.slice (h:dJ B M e k enc v l):∃a c,v= .slice a l.length c:=by
 rcases h with ⟨a,rfl,rfl⟩|⟨g,cap,cur,rfl,_⟩
 ·exact⟨a,0,rfl⟩
 ·exact⟨_,_,rfl⟩
theorem dJ.known (h:dJ B M e k enc v l):∀i,some i=eF v->M i≠none/\B<=i:=by
 intro i af;rcases h with ⟨a,rfl,rfl⟩|⟨g,cap,cur,rfl,aJ,h1,ae,_⟩
 ·rw[EI] at af;cases af
 ·have:i=g:=by
   rw[mU _ _ aJ] at af;simpa using af
  subst this;exact⟨by rw[ae];simp,h1⟩
theorem dJ.mono {uw:Nat} {M':Mem} (h:dJ B M e k enc v l) (dI:uw<=B) (hm:∀i,some i=eF v->∀o,M i=some o->M' i=some o):dJ uw M' e k enc v l:=by
 rcases h with ⟨a,rfl,rfl⟩|⟨g,cap,cur,rfl,aJ,h1,ae,ay,bE,cn,cy⟩
 ·exact .inl ⟨a,rfl,rfl⟩
 ·exact .inr ⟨g,cap,cur,rfl,aJ,Nat.le_trans dI h1,hm g (by rw[mU _ _ aJ]) _ ae,ay,bE,cn,cy⟩
def rj (w:au) (k:Nat) (enc:α->List U) (v:U) (l:List α):Prop:=
 ∃a c,v= .slice a l.length c/\(a=none->l=[])/\∀gB,a=some gB->∀j u,(l.flatMap enc)[j]? =some u->w.cell? (gB.add j)=some u
theorem adb {enc:α->List U} (ag:∀x,(enc x).length=k) {l:List α} {j:Nat} {u:U} (h:(l.flatMap enc)[j]? =some u):∃i x r,l[i]? =some x/\(enc x)[r]? =some u/\j=i*k+r:=by
 have hj:j<l.length*k:=by
  have:=(List.getElem?_eq_some_iff.1 h).1
  rwa [qm ag] at this
 have d':0<k:=by rcases Nat.eq_zero_or_pos k with h|h;· subst h;simp at hj
                 ·exact h
 have af:j/k<l.length:=Nat.div_lt_of_lt_mul (by rwa [Nat.mul_comm] at hj);have hr:j%k<k:=Nat.mod_lt _ d';refine⟨j/k,l[j/k],j%k,fP af,?_,(Nat.div_add_mod' j k).symm⟩;have ae:=AQ ag l (j/k) _ (fP af) (j%k) ((enc l[j/k])[j%k]'(by rw[ag];exact hr)) (fP _);rw[Nat.div_add_mod',h] at ae;rw[fP (by rw[ag];exact hr)];exact ae.symm
theorem b7.reads {w:au} (h:b7 M k enc v l) (ag:∀x,(enc x).length=k) (hw:∀i o,M i=some o->w.heap[i]? =some o):rj w k enc v l:=by
 cases h with
 |nil a c=>exact⟨a,c,rfl,λ_=>rfl,λgB _ j u h=>by simp at h⟩
 |mk h1 ae ay=>
  refine⟨_,_,rfl,(λh=>by cases h),λgB had j u hj=> ?_⟩;cases had;obtain⟨i,x,r,q1,aE,rfl⟩:=adb ag hj;rw[Addr.jZ,cell_of_row w _ _ _ _ _ (hw _ _ h1),<-Nat.add_assoc];exact ay i x q1 r u aE
theorem dJ.reads {w:au} (h:dJ B M e k enc v l) (hw:∀i o,M i=some o->w.heap[i]? =some o):rj w k enc v l:=by
 rcases h with ⟨a,rfl,rfl⟩|⟨g,cap,cur,rfl,aJ,h1,ae,ay,bE,cn,cy⟩
 ·exact⟨a,0,rfl,λ_=>rfl,λgB _ j u h=>by simp at h⟩
 ·refine⟨_,_,rfl,(λh=>by cases h),λgB had j u hj=> ?_⟩
  cases had;rw[Addr.jZ,cell_of_row w _ _ _ _ _ (hw _ _ ae),Nat.zero_add];rw[<-cy,List.getElem?_take] at hj;split at hj
  ·simpa using hj
  ·cases hj
theorem dJ.arr (h:dJ B M e k enc v l) (ag:∀x,(enc x).length=k):b7 M k enc v l:=by
 rcases h with ⟨a,rfl,rfl⟩|⟨g,cap,cur,rfl,al,h1,ae,ay,bE,cn,cy⟩
 ·exact .nil _ _
 ·refine .mk ae ay λi x ak j u hu=> ?_
  have fx:=AQ ag l i x ak j u hu;rw[<-cy,List.getElem?_take] at fx;split at fx
  ·rw[Nat.zero_add]
   simpa using fx
  ·cases fx
theorem dJ.row (h:dJ B M e k enc v l) (ag:∀x,(enc x).length=k) (al:eF v≠none) {w:au} (hw:∀i o,M i=some o->w.heap[i]? =some o):w.ownsRow B e k v l.length (l.flatMap enc):=by
 refine⟨qm ag l,?_⟩;rcases h with ⟨a,rfl,rfl⟩|⟨g,cap,cur,rfl,aJ,h1,ae,ay,bE,cn,cy⟩
 ·exact absurd (EI _ _) al
 ·exact .inr ⟨g,cap,cur,rfl,h1,hw _ _ ae,ay,bE,cn,cy⟩
theorem dJ.My {w:au} (h:w.ownsRow B e k v l.length (l.flatMap enc)):dJ B (aG w) e k enc v l:=by
 obtain⟨_,⟨rfl,aJ⟩|⟨g,cap,cur,rfl,h1,ae,ay,bE,cn,cy⟩⟩:=h
 ·exact .inl ⟨none,rfl,List.eq_nil_of_length_eq_zero aJ⟩
 ·rcases Nat.eq_zero_or_pos cap with al|al
  ·subst al
   have:l=[]:=List.eq_nil_of_length_eq_zero ao;subst this;exact .inl ⟨_,rfl,rfl⟩
  ·exact .inr ⟨g,cap,cur,rfl,al,h1,ae,ay,bE,cn,cy⟩
end
def g_ (M M':Mem) (T:Option Nat):Prop:=∀i o,M i=some o->some i≠T->M' i=some o
theorem g_.up {B:Nat} {W:au} {M M':Mem} {T:Option Nat} (ag:g_ M M' T) (dI:∀i,some i=T->B<=i) (ade:W.heap.size<=B) (bj:∀i o,aG W i=some o->M i=some o):∀i o,aG W i=some o->M' i=some o:=λi o h=>
 ag i o (bj i o h) λaf=>by
  have h1:=dI i af;have ae:i<W.heap.size:=(Array.getElem?_eq_some_iff.1 h).1;omega
theorem g_.own {α:Type} {B:Nat} {M M':Mem} {T:Option Nat} {e:aH} {k:Nat} {enc:α->List U} {v:U} {l:List α} (ag:g_ M M' T) (h:dJ B M e k enc v l) (cC:∀i,some i=eF v->some i≠T):dJ B M' e k enc v l:=
 h.mono (bY _) λi af o ho=>ag i o ho (cC i af)
structure AR (B:Nat) (M M':Mem) (T:Option Nat) (w w':au):Prop where
 known:∀i,some i=T->M i≠none/\B<=i
 os:w'.os=w.os
 tape:w'.tape=w.tape
 output:w'.output=w.output
 drawn:kv w<=kv w'
 size:w.heap.size<=w'.heap.size
 block:∀i,i<w.heap.size->some i≠T->w'.heap[i]? =w.heap[i]?
 dg:∀i o,M' i=some o->w'.heap[i]? =some o/\(M i≠none\/w.heap.size<=i\/i<B)
theorem Here.turns [cI] {M M':Mem} {bh vals':List U} {T:Option Nat} {N B:Nat} {st:b6} {w0 w w':au} {a:Act} {sl:aT} {l:List bM} {bH:ev} (c1:dy st sl l=some bH) (hm:fm (aX M bh) (aX M' vals') bH) (aI:AR B M M' T w w') (aq:cI.dt<=l.length) (al:ic st.A l 0)
  (ai: @Here (aX M bh) _ N st B w0 a w): @Here (aX M' vals') _ N {sl,ms:=[],A:=eJ l} B w0 a w':=
 Here.AK (λi=>some i=T) c1 hm (λi af=>aI.known i af) ⟨aI.os,aI.tape,aI.output,aI.drawn⟩ aI.size (λi af aC=>aI.block i af aC) (λi o af=>aI.dg i o af) aq al ai
def gk (M:Mem) (w':au) (T dQ:Option Nat):Mem:=λi=>if some i=dQ then w'.heap[i]? else if some i=T then none else M i
theorem oA {B:Nat} {M:Mem} {T dQ:Option Nat} {w w':au} (hw:∀i o,M i=some o->w.heap[i]? =some o) (eb:∀i,some i=T->M i≠none/\B<=i) (Mz:∀i,some i=dQ->some i=T\/w.heap.size<=i)
  (tt:w'.os=w.os/\w'.tape=w.tape/\w'.output=w.output) (a_:kv w<=kv w') (cb:w.heap.size<=w'.heap.size) (ad:∀i,i<w.heap.size->some i≠T->w'.heap[i]? =w.heap[i]?):AR B M (gk M w' T dQ) T w w'/\g_ M (gk M w' T dQ) T:=by
 have yX:∀i o,M i=some o->some i≠T->w'.heap[i]? =some o:=λi o af aC=>by
  have h:=hw i o af;rw[ad i (Array.getElem?_eq_some_iff.1 h).1 aC];exact h
 refine⟨⟨eb,tt.1,tt.2.1,tt.2.2,a_,cb,ad,λi o af=> ?_⟩,λi o af aC=> ?_⟩
 ·unfold gk at af
  split at af
  ·rename_i h
   refine⟨af,?_⟩;rcases Mz i h with h|h
   ·exact .inl (eb i h).1
   ·exact .inr (.inl h)
  ·split at af
   ·cases af
   ·rename_i h1 ae
    exact⟨yX i o af ae,.inl (by rw[af];simp)⟩
 ·unfold gk
  split
  ·exact yX i o af aC
  ·first
    |exact af
    |(rw[aO aC];exact af)
theorem MA {P:aQ} {w:au} {t ty e:aH} {i:TypeInfo} (aI:P.underlying t=some (.slice e)) (af:P.info? e=some i) {a b:Option Addr} {n cap c:Nat} (h:n<=cap):
  (Builtin.append_ #[t,t] ty #[.slice a n cap,.slice b 0 c]).run P w= .ok (.slice a n cap) w:=by
 cases b<;>cases a<;>simp [Builtin.append_,run_underlying aI,sizeOf,typeInfo,af,Builtin.lenOf,Builtin.firstCells,loadCells,loadCellsFrom,h,storeCells]
theorem MB {P:aQ} {w w':au} {base:Nat} {t ty e:aH} {i:TypeInfo} {z:U} {size bytes:Nat} (aI:P.underlying t=some (.slice e)) (af:P.info? e=some i) (bG:i.zero=some z) (fX:i.size=size) (jv:i.bytes=bytes) (lu:z.cells.size=size) (cb:0<size)
  {v aB:U} {n:Nat} {xs:List U} (yZ:w.ownsRow base e size v n xs) (a:Addr) (m c:Nat) {cT:List U} (hl:cT.length=m*size) (z':∀j u,cT[j]? =some u->w.cell? (a.add j)=some u) (h1:∀u∈cT,u.oneCell'=true)
  (ie:n+m<=maxLen) (k6:(n+m)*bytes<=140737488355328) (hr:(Builtin.append_ #[t,t] ty #[v,.slice (some a) m c]).run P w= .ok aB w'):∀j,some j=aB.ownBlock->some j=v.ownBlock\/w.heap.size<=j:=by
 subst fX;subst jv;have MC:n+m<=9223372036854775807:=by simp only [maxLen] at ie;omega
 rcases yZ.2 with ⟨rfl,rfl⟩|⟨g,cap,cur,rfl,alk,az,iD,H3,gv,yH⟩
 ·by_cases hm:m=0
  ·subst hm
   have aq:cT=[]:=List.eq_nil_of_length_eq_zero (by simpa using hl);subst aq;have ae:(Builtin.append_ #[t,t] ty #[.slice none 0 0,.slice (some a) 0 c]).run P w= .ok (.slice none 0 0) w:=by
    simp [Builtin.append_,run_underlying aI,sizeOf,typeInfo,af,Builtin.lenOf,Builtin.firstCells,loadCells,loadCellsFrom]
   rw[ae] at hr;cases hr;intro j hj;cases hj
  ·have ae:=run_append_nil (P:=P) w t ty e i z aI af bG a m c cT hl z' ao ao (by have ad:=k6;simp only [Nat.zero_add] at ad;omega)
   rw[ae] at hr;cases hr;intro j hj;have:j=w.heap.size:=by simpa [Value.ownBlock] using hj
   exact .inr ao
 ·by_cases CC:n+m<=cap
  ·have pC:n*i.size+cT.length<=cur.size:=by rw[hl,gv,<-Nat.add_mul];exact Nat.mul_le_mul_right _ CC
   have ae:=run_append_room (P:=P) w t ty e i aI af g n cap cur az a m c cT hl z' h1 CC pC;rw[ae] at hr;cases hr;intro j hj;exact .inl hj
  ·have holds:∀j u,xs[j]? =some u->w.cell? ((⟨g,0,none⟩:Addr).add j)=some u:=yZ.cells (g:=g) rfl
   have ae:=run_append_grow (P:=P) w t ty e i z aI af bG ⟨g,0,none⟩ n cap xs yZ.1 holds a m c cT hl z' ao ao (growslice_fits ao k6);rw[ae] at hr;cases hr;intro j hj;have:j=w.heap.size:=by simpa [Value.ownBlock] using hj
   exact .inr ao
theorem MD {α:Type} {P:aQ} {w:au} {B:Nat} {M:Mem} {t ty e:aH} {i:TypeInfo} {z:U} {k bytes:Nat} (aI:P.underlying t=some (.slice e)) (af:P.info? e=some i) (bG:i.zero=some z) (fX:i.size=k) (jv:i.bytes=bytes) (lu:z.cells.size=k) (hg:0<k)
  {enc:α->List U} (ag:∀x,(enc x).length=k) (jL:∀x,∀u∈enc x,u.oneCell'=true) {v x:U} {l lx:List α} (cm:dJ B M e k enc v l) (ak:rj w k enc x lx) (hw:∀i o,M i=some o->w.heap[i]? =some o) (dI:B<=w.heap.size)
  (ie:l.length+lx.length<=maxLen) (k6:(l.length+lx.length)*bytes<=140737488355328):
  ∃aB w' M',(Builtin.append_ #[t,t] ty #[v,x]).run P w= .ok aB w'/\dJ B M' e k enc aB (l++lx)/\AR B M M' (eF v) w w'/\g_ M M' (eF v):=by
 obtain⟨vY,c,rfl,xl,ka⟩:=ak;by_cases hm:lx=[]
 ·subst hm
  obtain⟨a,cap,rfl⟩:=cm.slice;have hle:l.length<=cap:=by
   rcases cm with ⟨aS,h,rfl⟩|⟨g,vA,cur,h,aJ,h1,ae,ay,_⟩
   ·exact Nat.zero_le _
   ·cases h;exact ay
  refine⟨_,w,M,MA aI af hle,by rw[List.append_nil];exact cm,⟨cm.known,rfl,rfl,rfl,bY _,bY _,λ_ _ _=>rfl,λi o h=>⟨hw i o h,.inl (by rw[h];simp)⟩⟩,λi o h _=>h⟩
 ·cases vY with
  |none=>exact absurd (xl rfl) hm
  |some gB=>
   have hlen:=qm ag lx;have qY:0<lx.length:=List.length_pos_iff.2 hm;have h1:∀u∈lx.flatMap enc,u.oneCell'=true:=λu hu=>by
    obtain⟨y,_,bg⟩:=List.mem_flatMap.1 hu;exact jL y u bg
   have fG:∀{v0:U},w.ownsRow B e k v0 l.length (l.flatMap enc)->(∀i,some i=v0.ownBlock->M i≠none/\B<=i)->∃aB w' M',(Builtin.append_ #[t,t] ty #[v0,.slice (some gB) lx.length c]).run P w= .ok aB w'/\dJ B M' e k enc aB (l++lx)/\AR B M M' v0.ownBlock w w'/\g_ M M' v0.ownBlock:=by
    intro v0 np ig;obtain⟨aB,w',g1,g2,g3,_⟩:=run_append_own (P:=P) w B t ty e i z k bytes aI af bG fX jv lu hg v0 l.length _ np gB lx.length c _ hlen (ka gB rfl) h1 ie k6 dI;have fN:=MB aI af bG fX jv lu hg np gB lx.length c hlen (ka gB rfl) h1 ie k6 g1;have ae:w'.ownsRow B e k aB (l++lx).length ((l++lx).flatMap enc):=by rw[List.length_append,List.flatMap_append];exact g2
    obtain⟨q1,aE⟩:=oA (B:=B) (M:=M) (T:=v0.ownBlock) (dQ:=aB.ownBlock) hw ig fN ⟨g3.os,g3.tape,g3.output⟩ (bY _) g3.size g3.block;refine⟨aB,w',_,g1,(dJ.My ae).mono (bY _) λi af o ho=> ?_,q1,aE⟩;have:some i=aB.ownBlock:=AP af;unfold gk;rw[aN this];exact ho
   by_cases al:eF v=none
   ·rcases cm with ⟨a,rfl,rfl⟩|⟨g,cap,cur,rfl,aJ,_⟩
    ·have bk:(Builtin.append_ #[t,t] ty #[.slice a 0 0,.slice (some gB) lx.length c]).run P w=(Builtin.append_ #[t,t] ty #[.slice none 0 0,.slice (some gB) lx.length c]).run P w:=by
      cases a with
      |none=>rfl
      |some a=>
       subst fX;subst jv;have MC:lx.length<=9223372036854775807:=by simp only [maxLen,List.length_nil] at ie;omega
       have cS:=run_append_nil (P:=P) w t ty e i z aI af bG gB lx.length c _ hlen (ka gB rfl) ao ao (by have ad:=k6;simp only [List.length_nil,Nat.zero_add] at ad;omega);have dL:=run_append_grow (P:=P) w t ty e i z aI af bG a 0 0 [] (by simp) (λj u h=>by simp at h) gB lx.length c _ hlen (ka gB rfl) ao ao (growslice_fits ao (by have ad:=k6;simp only [List.length_nil] at ad;exact ad));rw[cS,dL];simp
     obtain⟨aB,w',M',q1,aE,b9,ey⟩:=fG (v0:= .slice none 0 0) (World.ownsRow_nil w B e k) (λi h=>by cases h);rw[al];exact⟨aB,w',M',bk.trans q1,aE,b9,ey⟩
    ·exact absurd al (by rw[mU _ _ aJ];simp)
   ·have heq:eF v=v.ownBlock:=by
     cases h:eF v with
     |none=>exact absurd h al
     |some i=>exact AP h.symm
    have:=fG (v0:=v) (cm.row ag al hw) (λi h=>cm.known i (by rw[heq];exact h));rw[heq];exact this
def si (t:aH):Option bP->Option (U×U)
 |some (.oper o _ ops s _)=>match o.op with
  | .call c=>match c.callee,c.args with
    | .builtin .append,⟨[mB,ga]⟩=>bif decide (c.argTypes= #[t,t]) then match qf ops o s.sl with
      |some true=>some (ea .nil s.sl mB,ea .nil s.sl ga)
      |_=>none
      else none
    |_,_=>none
  |_=>none
 |_=>none
theorem H4 [cI] {α:Type} {P:aQ} {N B:Nat} {w0:au} {Q:Exit->Act->au->Prop} {M:Mem} {bh:List U} {o:Option bP} {t e:aH} {k bytes:Nat} {i:TypeInfo} {z vs jT ec:U} {enc:α->List U} {l lx l':List α} {bx:Option Addr->Nat->List U} {dM dF:aT} {aU:List bM} {bH:ev}
  (fa:l'=l++lx) (h:si t o=some (vs,jT)) (aI:P.underlying t=some (.slice e)) (af:P.info? e=some i) (bG:i.zero=some z) (fX:i.size=k) (jv:i.bytes=bytes) (lu:z.cells.size=k) (hg:0<k) (ag:∀x,(enc x).length=k) (jL:∀x,∀u∈enc x,u.oneCell'=true)
  (c1:dy (cW o) dM aU=some bH) (eg:gy N dM (iT o) ec=some dF) (fF:aM ec=true) (T:Option Nat)
  (cm:∀φ w v,@bR (aX M bh) φ (cW o).A w-> @aD (aX M bh) φ vs v->dJ B M e k enc v l/\eF v=T)
  (iU:∀φ w x,@bR (aX M bh) φ (cW o).A w-> @aD (aX M bh) φ jT x->rj w k enc x lx)
  (ie:l.length+lx.length<=maxLen) (k6:(l.length+lx.length)*bytes<=140737488355328)
  (hm:∀M' a c,fm (aX M bh) (aX M' (bx a c)) bH) (aC:∀M' a c,@aK (aX M' (bx a c)) ec= .slice a l'.length c)
  (rest:∀M' a c,dJ B M' e k enc (.slice a l'.length c) l'->g_ M M' T->(∀i,some i=T->B<=i)->∀aS w,@Here (aX M' (bx a c)) _ N {sl:=dF,ms:=[],A:=eJ aU} B w0 aS w->wpListIn (Fr none) 0 P (jS o) (dS P (gX o) Q) (jR o) aS w)
  (aq:cI.dt<=aU.length:=by first|exact Nat.zero_le _|exact hJ rfl) (al:ic (cW o).A aU 0:=by exact f_ rfl): @e0 (aX M bh) _ P N B w0 Q o:=by
 subst fa;letI:=aX M bh;unfold si at h;split at h
 ·rename_i op r ops s ks
  refine⟨_,rfl,λa w ai=> ?_⟩;split at h
  ·rename_i c cj
   split at h
   ·rename_i mB ga qg gf
    cases hty:decide (c.argTypes= #[t,t]) with
    |false=>rw[hty] at h;cases h
    |true=>
     rw[hty,bw] at h;have xm:c.argTypes= #[t,t]:=of_decide_eq_true hty;split at h
     ·rename_i iv
      cases h;have fT:=ai;obtain⟨⟨φ,ds,h1,ae,ay,bE,_⟩,cn,cy⟩:=ai;unfold wpListIn;rw[nx ae.get iv,aN rfl];have es:=gg (hX φ) ae.get mB;have ex:=gg (hX φ) ae.get ga;obtain⟨H5,eb⟩:=cm φ w _ ay es;subst eb;have hw:∀i o,M i=some o->w.heap[i]? =some o:=fT.mz;obtain⟨aB,w',M',g1,g2,g3,g4⟩:=MD (ty:=op.type) aI af bG fX jv lu hg ag jL H5 (iU φ w _ ay ex) hw cy ie k6;have eQ:(execOp a.eval op).run P w= .ok (.value aB) w':=by
       unfold execOp resolve;rw[cj];simp only [qg,gf,xm,List.map_toArray,List.map_cons,List.map_nil];show (do pure (Next.value (<-Builtin.append_ #[t,t] op.type #[a.eval mB,a.eval ga])):Sem Next).run P w=_;simp only [Sem.run_bind,g1,Result.andThen_ok];rfl
      have ff:∀c',op.op≠.defer c':=λc' h=>by rw[cj] at h;cases h
      refine⟨λ_ _=>trivial,?_⟩;rw[Oper.semAt_eq _ _ _ ff,eQ,Oper.uponIn_value];obtain⟨aS,c',rfl⟩:=g2.slice;have gN:=Here.turns (vals':=bx aS c') c1 (hm M' aS c') g3 aq al fT;letI:=aX M' (bx aS c');have kd:=Here.put (d:=op.dst) gN fF eg;rw[aC M' aS c'] at kd;exact rest M' aS c' g2 g4 (λi af=>(g3.known i af).2) _ w' kd
     ·cases h
   ·cases h
  ·cases h
 ·cases h
theorem TD {α:Type} {A:aW} {B:Nat} {M:Mem} {bh:List U} {e:aH} {k:Nat} {enc:α->List U} {vs u:U} {l:List α} (hp:aM vs=true) (a': @aK (aX M bh) vs=u) (cm:dJ B M e k enc u l):∀φ w v,@bR (aX M bh) φ A w-> @aD (aX M bh) φ vs v->dJ B M e k enc v l/\eF v=eF u:=λφ w v _ aC=>by
 letI:=aX M bh;rw[aD.iq vs hp aC,a'];exact⟨cm,rfl⟩
def TE (A:aW) (b:Nat):Bool:=match A.bl.get b with
 |some k=>Nat.beq k.eB 0&& !Nat.beq b dead
 |none=>false
theorem H6 {α:Type} {A:aW} {B:Nat} {M:Mem} {bh:List U} {e:aH} {k:Nat} {enc:α->List U} {b o:Nat} (j3:TE A b=true):∀φ w v,@bR (aX M bh) φ A w-> @aD (aX M bh) φ (.slice (some ⟨b,o,none⟩) 0 0) v->dJ B M e k enc v ([]:List α)/\eF v=none:=λφ w v hr aC=>by
 letI:=aX M bh;unfold TE at j3;split at j3
 ·rename_i ft ag
  simp only [c0,Bool.not_eq_true'] at j3;cases aC with
  |iB aS h=>exact absurd j3.2 (by simp)
  |h_ _ _ h=>exact⟨dJ.nil _ _ _ _ _ _,EI _ _⟩
  |ia _ _ c' h av al hl=>
   obtain⟨k',h1,ae,_⟩:=hr.ep _ _ h;rw[ag] at h1;cases h1;have:=ct j3.1;omega
 ·cases j3
theorem AS {α:Type} {M:Mem} {bh:List U} {A:aW} {k:Nat} {enc:α->List U} {jT u:U} {lx:List α} (hp:aM jT=true) (a': @aK (aX M bh) jT=u) (iU:∀w,(∀i o,M i=some o->w.heap[i]? =some o)->rj w k enc u lx):∀φ w x,@bR (aX M bh) φ A w-> @aD (aX M bh) φ jT x->rj w k enc x lx:=λφ w x hr aC=>by
 letI:=aX M bh;rw[aD.iq jT hp aC,a'];exact iU w λi o h=>(hr.dg i o h).1
def H7 (A:aW) (k:Nat):U->Option (List U)
 | .slice (some ⟨b,off,none⟩) m _=>match A.q0 b off (m*k) with
   |some bh=>bif dW bh&&(bh.all wQ&&(Nat.blt 0 m&&Nat.beq bh.length (m*k))) then some bh else none
   |none=>none
 |_=>none
theorem ME {α:Type} {M:Mem} {bh:List U} {A:aW} {k:Nat} {enc:α->List U} {jT:U} {cs:List U} {lx:List α} (h:H7 A k jT=some cs) (ag:∀x,(enc x).length=k) (hg:0<k) (he: @et (aX M bh) cs=lx.flatMap enc):∀φ w x,@bR (aX M bh) φ A w-> @aD (aX M bh) φ jT x->rj w k enc x lx:=λφ w x hr aC=>by
 letI:=aX M bh;unfold H7 at h;split at h
 ·rename_i b off m alm
  split at h
  ·rename_i vs hl
   cases hp:(dW vs&&(vs.all wQ&&(Nat.blt 0 m&&Nat.beq vs.length (m*k)))) with
   |false=>rw[hp] at h;cases h
   |true=>
    rw[hp,bw,cx] at h;subst h;simp only [c0] at hp;obtain⟨gi,q',yI,Ch⟩:=hp;have hm:0<m:=Nat.blt_eq.mp yI;have hlen:vs.length=m*k:=ct Ch;have q6:m=lx.length:=by
     have h1:=congrArg List.length he;rw[w5,hlen,qm ag] at h1;exact Nat.eq_of_mul_eq_mul_right hg h1
    have z7:∃ee TF,φ b=some ee/\x= .slice (some ⟨ee.bf,ee.sh+off,none⟩) m TF:=by
     cases aC with
     |iB aS h=>exact absurd hm ao
     |h_ _ _ h=>exact⟨_,_,h,rfl⟩
     |ia _ _ c' h _ _ _=>exact⟨_,_,h,rfl⟩
    obtain⟨ee,TF,ad,rfl⟩:=z7;refine⟨_,_,by rw[q6],(λh=>by cases h),λgB had j u hj=> ?_⟩;cases had;rw[<-he] at hj;obtain⟨q1,aE⟩:=z6 hl;have kM:j<vs.length:=by
     have:=(List.getElem?_eq_some_iff.1 hj).1
     rwa [w5] at this
    obtain⟨aB,g1,g2⟩:=tY hr (aE j ao) ad;rw[Addr.jZ,Nat.add_assoc,g1];have vv:aM (vs.getD j undef)=true:=by
     rw[dr,fP kM];exact TA gi (List.getElem_mem kM)
    rw[aD.iq _ vv g2];rw[Lu,List.getElem?_map,fP kM] at hj;rw[dr,fP kM];simpa using hj
  ·cases h
 ·cases h
def lQ:Option bP->Array Oper
 |some (.draw _ ops _ _)=>ops
 |_=> #[]
theorem EJ {n:Nat} (h:n<=1000000):n<=maxLen:=Nat.le_trans h (by unfold maxLen;decide)
theorem b7.isNil {α:Type} {M:Mem} {k:Nat} {enc:α->List U} {n c:Nat} {l:List α} (h:b7 M k enc (.slice none n c) l):l=[]:=by cases h;rfl
theorem H8 {α:Type} {B:Nat} {M:Mem} {e:aH} {k:Nat} {enc:α->List U} {l:List α} (h:l=[]):∃a c,Ending.returned (.slice none 0 0)= .returned (.slice a l.length c)/\dJ B M e k enc (.slice a l.length c) l:=by
 subst h;exact⟨none,0,rfl,dJ.nil _ _ _ _ _ _⟩
theorem H9 {α:Type} {B:Nat} {M:Mem} {e:aH} {k:Nat} {enc:α->List U} {l b:List α} {a:Option Addr} {c:Nat} {w:au} (cm:dJ B M e k enc (.slice a b.length c) b) (ad:b=l) (af:∀i o,M i=some o->w.heap[i]? =some o):∃aS c',Ending.returned (.slice a b.length c)= .returned (.slice aS l.length c')/\dJ B (aG w) e k enc (.slice aS l.length c') l:=by
 subst ad;exact⟨a,c,rfl,cm.mono (bY _) λi _ o ho=>af i o ho⟩
section
variable [aY] {P:aQ}
omit [aY] in
theorem TG {op:BinOp} {t e:aH} (aI:P.underlying t=some (.slice e)) (a:Option Addr) (n c:Nat) (dO dP:Operand) (w:au) (cj:op= .eql\/op= .neq):
  (fI dO dP (.bin op t (.slice a n c) (.slice none 0 0))).run P w= .ok (.value (.bool (if op= .eql then a.isNone else !a.isNone))) w:=by
 have he:(Op.equal t (.slice a n c) (.slice none 0 0)).run P w= .ok a.isNone w:=by
  unfold Op.equal Op.maxDepth;exact Lib.run_equalIn_slice_nil w 9999 t e a n c 0 0 aI
 rcases cj with rfl|rfl<;>unfold fI<;>simp [eqGuard,binOp,he]
theorem aR.H' {t e:aH} {x:U} {a:Option Addr} {n c:Nat} (ak:aM x=true) (aI:P.underlying t=some (.slice e)) (ex:aK x= .slice a n c) (h:a=none):aR P (.bin .eql t x (.slice none 0 0),.bool true):=
 tu ak J J ex rfl λdO dP w=>(TG aI a n c dO dP w (.inl rfl)).trans (by rw[h];rfl)
theorem aR.H_ {t e:aH} {x:U} {a:Option Addr} {n c:Nat} (ak:aM x=true) (aI:P.underlying t=some (.slice e)) (ex:aK x= .slice a n c) (h:¬a=none):aR P (.bin .eql t x (.slice none 0 0),.bool false):=
 tu ak J J ex rfl λdO dP w=>(TG aI a n c dO dP w (.inl rfl)).trans (by
  cases a with
  |none=>exact absurd rfl h
  |some a=>rfl)
end
end AE
namespace AE
theorem MF {α:Type} {k:Nat} {enc:α->List U} (ag:∀x,(enc x).length=k):∀(l:List α) (j:Nat),(l.take j).flatMap enc=(l.flatMap enc).take (j*k)
 |[],j=>by simp
 |x::r,0=>by simp
 |x::r,j+1=>by
  have h1:(enc x).take ((j+1)*k)=enc x:=List.take_of_length_le (by rw[ag,Nat.add_mul];omega);rw[List.take_succ_cons,List.flatMap_cons,List.flatMap_cons,MF ag r j,List.take_append,h1,ag,show (j+1)*k-k=j*k by rw[Nat.add_mul];omega]
theorem MG {α:Type} {k:Nat} {enc:α->List U} (ag:∀x,(enc x).length=k):∀(l:List α) (j:Nat),(l.drop j).flatMap enc=(l.flatMap enc).drop (j*k)
 |[],j=>by simp
 |x::r,0=>by simp
 |x::r,j+1=>by
  have h1:(enc x).drop ((j+1)*k)=[]:=List.drop_eq_nil_of_le (by rw[ag,Nat.add_mul];omega);rw[List.drop_succ_cons,List.flatMap_cons,MG ag r j,List.drop_append,h1,ag,List.nil_append,show (j+1)*k-k=j*k by rw[Nat.add_mul];omega]
def kD (a:Option Addr) (c j k:Nat):Option Addr:=if c=j then a else a.map λa=>a.add (j*k)
section
variable {α:Type} {B:Nat} {M:Mem} {e:aH} {k:Nat} {enc:α->List U} {a:Option Addr} {c:Nat} {l:List α}
theorem b7.take {j n:Nat} (h:b7 M k enc (.slice a n c) l) (hj:j<=n):b7 M k enc (.slice a j c) (l.take j):=by
 obtain rfl:n=l.length:=by obtain⟨_,_,ae⟩:=h.slice;cases ae;rfl
 generalize aC:Value.slice a l.length c=v at h;have hlen:(l.take j).length=j:=by rw[List.length_take];omega
 cases h with
 |nil aS c'=>
  have:j=0:=by simpa using hj
  subst this;exact .nil _ _
 |mk h1 ae ay=>
  cases aC;have:=b7.mk (enc:=enc) (k:=k) (l:=l.take j) (c:=c) h1 (by rw[hlen];omega) λi x ak u w hw=>by
   rw[List.getElem?_take] at ak;split at ak
   ·exact ay i x ak u w hw
   ·cases ak
  rw[hlen] at this;exact this
theorem b7.drop {j n:Nat} (h:b7 M k enc (.slice a n c) l) (hj:j<=n):b7 M k enc (.slice (kD a c j k) (n-j) (c-j)) (l.drop j):=by
 obtain rfl:n=l.length:=by obtain⟨_,_,ae⟩:=h.slice;cases ae;rfl
 have hlen:(l.drop j).length=l.length-j:=List.length_drop;rcases Nat.lt_or_ge j l.length with b8|kx
 ·generalize aC:Value.slice a l.length c=v at h
  cases h with
  |nil aS c'=>simp at b8
  |mk h1 ae ay=>
   rename_i b off c' cs ty fr;cases aC;have a_:kD (some ⟨b,off,none⟩) c j k=some ⟨b,off+j*k,none⟩:=by
    unfold kD;rw[aO ao];simp only [Option.map_some,Addr.jZ]
   rw[a_];have:=b7.mk (enc:=enc) (k:=k) (l:=l.drop j) (off:=off+j*k) (c:=c-j) h1 (by rw[hlen];omega) λi x ak u w hw=>by
    rw[List.getElem?_drop] at ak;have:=ay (j+i) x ak u w hw;rw[Nat.add_mul] at this;rw[<-this];congr 1;omega
   rw[hlen] at this;exact this
 ·have aJ:l.length-j=0:=by omega
  rw[aJ,List.drop_eq_nil_of_le kx];exact .nil _ _
theorem dJ.take (ag:∀x,(enc x).length=k) {j n:Nat} (h:dJ B M e k enc (.slice a n c) l) (hj:j<=l.length):dJ B M e k enc (.slice a j c) (l.take j):=by
 have hlen:(l.take j).length=j:=by rw[List.length_take];omega
 rcases h with ⟨aS,aJ,rfl⟩|⟨g,cap,cur,aJ,h1,ae,ay,bE,cn,cy,fx⟩
 ·cases aJ
  have:j=0:=by simpa using hj
  subst this;exact .inl ⟨_,rfl,rfl⟩
 ·cases aJ
  refine .inr ⟨g,c,cur,by rw[hlen],h1,ae,ay,by rw[hlen];omega,cn,cy,?_⟩;rw[hlen];have px:(cur.toList.take (l.length*k)).take (j*k)=(l.flatMap enc).take (j*k):=by rw[fx]
  rw[List.take_take,Nat.min_eq_left (Nat.mul_le_mul_right k hj)] at px;rw[px,MF ag]
theorem adf {v:U} {w:au} (ag:∀x,(enc x).length=k) (jL:∀x,∀u∈enc x,u.oneCell'=true) (j3:dJ B M e k enc v l) (hw:∀i o,M i=some o->w.heap[i]? =some o) (aJ:0<l.length) (i:Nat) (xs:List α) (af:i+xs.length<=l.length):
  ∃g c w',v= .slice (some ⟨g,0,none⟩) l.length c/\l.length<=c/\(∀P,(storeCells ⟨g,i*k,none⟩ (xs.flatMap enc)).run P w= .ok () w')/\∃M',dJ B M' e k enc v (l.take i++xs++l.drop (i+xs.length))/\AR B M M' (eF v) w w'/\g_ M M' (eF v):=by
 rcases j3 with ⟨a,rfl,rfl⟩|⟨g,cap,cur,rfl,j1,vZ,bj,v7,H3,gv,yH⟩
 ·exact absurd aJ (by simp)
 ·have az:=hw _ _ bj
  have v8:=qm ag xs;have LQ:i*k+xs.length*k<=l.length*k:=by rw[<-Nat.add_mul];exact Nat.mul_le_mul_right k af
  have vM:l.length*k<=cur.size:=by rw[gv];exact Nat.mul_le_mul_right k v7
  have h1:∀u∈xs.flatMap enc,u.oneCell'=true:=λu hu=>by
   obtain⟨y,_,bg⟩:=List.mem_flatMap.1 hu;exact jL y u bg
  let fg:Array U:=(cur.toList.take (i*k)++xs.flatMap enc++cur.toList.drop (i*k+(xs.flatMap enc).length)).toArray
  have eQ:∀P,(storeCells ⟨g,i*k,none⟩ (xs.flatMap enc)).run P w= .ok () (w.setRow g fg):=λP=>by
   have:=run_storeCells_at P g (i*k) e (xs.flatMap enc) 0 cur w az (by rw[v8];omega) h1;simpa only [Nat.add_zero] using this
  have cb:fg.size=cap*k:=by
   show (cur.toList.take (i*k)++xs.flatMap enc++cur.toList.drop (i*k+(xs.flatMap enc).length)).toArray.size=_;simp only [List.size_toArray,List.length_append,List.length_take,List.length_drop,Array.length_toList,v8];omega
  obtain⟨q1,aE⟩:=oA (B:=B) (M:=M) (w':=w.setRow g fg) (T:=some g) (dQ:=some g) hw (λi af=>by cases af;exact⟨by rw[bj];simp,vZ⟩) (λi af=> .inl af) ⟨rfl,rfl,rfl⟩ (bY _) (by simp [World.setRow]) (λj _ hj=>setRow_other w g j fg (λh=>hj (by rw[h])));have MH:(l.take i++xs++l.drop (i+xs.length)).length=l.length:=by
   simp only [List.length_append,List.length_take,List.length_drop];omega
  refine⟨g,cap,w.setRow g fg,rfl,v7,eQ,?_⟩;rw[mU _ _ j1];refine⟨_,.inr ⟨g,cap,fg,by rw[MH],j1,vZ,?_,by rw[MH];exact v7,H3,cb,?_⟩,q1,aE⟩
  ·unfold gk
   rw[aN rfl];exact setRow_heap w g cur fg e (0,0) az
  ·rw[MH,List.flatMap_append,List.flatMap_append,MF ag,MG ag,<-yH]
   show (cur.toList.take (i*k)++xs.flatMap enc++cur.toList.drop (i*k+(xs.flatMap enc).length)).take (l.length*k)=_;have l1:(cur.toList.take (i*k)++xs.flatMap enc).length=i*k+xs.length*k:=by
    rw[List.length_append,List.length_take,Array.length_toList,v8,Nat.min_eq_left ao]
   rw[v8,List.take_append,l1,List.take_of_length_le (by rw[l1];exact LQ),List.take_take,Nat.min_eq_left ao,Nat.add_mul,List.drop_take]
end
section
variable [aY] {P:aQ}
omit [aY] in
theorem adg (a:Addr) (n:Nat):a.add (0*n)=a:=by
 rw[Nat.zero_mul];cases a;simp [Addr.add]
omit [aY] in
theorem adh {t e:aH} {aZ:Nat} (aI:P.underlying t=some (.slice e)) (cb:a7 P (sizeOf e)=some aZ) (a:Option Addr) (n c j:Nat) (hj:j<=n) (w:au):
  (Instr.sliceAt t (.slice a n c) (some (.int .i64 j)) none none).run P w= .ok (.slice (kD a c j aZ) (n-j) (c-j)) w:=by
 have ad:(Instr.sliceBound (.int .i64 (j:Int)) n .sliceB).run P w= .ok j w:=by
  have:=run_sliceBound (P:=P) (w:=w) .i64 (j:Int) n .sliceB ao ao;simpa using this
 simp [Instr.sliceAt,Instr.slice,run_underlying aI,Instr.sliceBounds,ad,jc cb w,kD]
omit [aY] in
theorem adi {t e:aH} {aZ:Nat} (aI:P.underlying t=some (.slice e)) (cb:a7 P (sizeOf e)=some aZ) (a:Option Addr) (n c j:Nat) (hj:j<=c) (w:au):
  (Instr.sliceAt t (.slice a n c) none (some (.int .i64 j)) none).run P w= .ok (.slice a j c) w:=by
 have ad:(Instr.sliceBound (.int .i64 (j:Int)) c .sliceAcap).run P w= .ok j w:=by
  have:=run_sliceBound (P:=P) (w:=w) .i64 (j:Int) c .sliceAcap ao ao;simpa using this
 simp [Instr.sliceAt,Instr.slice,run_underlying aI,Instr.sliceBounds,ad,jc cb w];intro _;cases a with
 |none=>rfl
 |some a=>
  have:=adg a aZ;rw[Nat.zero_mul] at this;simpa using this
theorem aR.TH {t e:aH} {aZ:Nat} {x i r:U} {a:Option Addr} {n c j:Nat} (ak:aM x=true) (af:aM i=true) (hr:aM r=true) (aI:P.underlying t=some (.slice e)) (cb:a7 P (sizeOf e)=some aZ) (ex:aK x= .slice a n c) (gj:aK i= .int .i64 (j:Int)) (hj:j<=n)
  (bX:aK r= .slice (kD a c j aZ) (n-j) (c-j)):aR P (.lr t x (some i) none none,r):=by
 refine⟨by simp [nv,plainO,ak,af],hr,λdO dP w _=> ?_⟩;show (fI dO dP (.lr t (aK x) (some (aK i)) none none)).run P w=_;rw[ex,gj,bX];unfold fI;simp only [Sem.run_bind,adh aI cb a n c j hj w,Result.andThen_ok];rfl
theorem aR.adj {t e:aH} {aZ:Nat} {x i r:U} {a:Option Addr} {n c j:Nat} (ak:aM x=true) (af:aM i=true) (hr:aM r=true) (aI:P.underlying t=some (.slice e)) (cb:a7 P (sizeOf e)=some aZ) (ex:aK x= .slice a n c) (gj:aK i= .int .i64 (j:Int)) (hj:j<=c)
  (bX:aK r= .slice a j c):aR P (.lr t x none (some i) none,r):=by
 refine⟨by simp [nv,plainO,ak,af],hr,λdO dP w _=> ?_⟩;show (fI dO dP (.lr t (aK x) none (some (aK i)) none)).run P w=_;rw[ex,gj,bX];unfold fI;simp only [Sem.run_bind,adi aI cb a n c j hj w,Result.andThen_ok];rfl
end
def nY:Option bP->Option (aH×U×U)
 |some (.oper o _ ops s _)=>match o.op with
  | .store t nz ga=>match qf ops o s.sl with
    |some true=>some (t,ea .nil s.sl nz,ea .nil s.sl ga)
    |_=>none
  |_=>none
 |_=>none
theorem adk [cI] {α:Type} {P:aQ} {N B:Nat} {w0:au} {Q:Exit->Act->au->Prop} {M:Mem} {bh bx:List U} {o:Option bP} {t e:aH} {k:Nat} {p x u:U} {enc:α->List U} {l l':List α} {i:Nat} {y:α} {dM dF:aT} {aU:List bM} {bH:ev}
  (fa:l'=l.set i y) (h:nY o=some (t,p,x)) (cb:a7 P (sizeOf t)=some k) (ag:∀x,(enc x).length=k) (jL:∀x,∀u∈enc x,u.oneCell'=true)
  (c1:dy (cW o) dM aU=some bH) (eg:gy N dM (iT o) undef=some dF) (hp:aM p=true) (ak:aM x=true) (lv: @aK (aX M bh) p=iS u (i*k)) (ex: @aK (aX M bh) x= .agg ⟨enc y⟩)
  (cm:dJ B M e k enc u l) (af:i<l.length) (hm:∀M',fm (aX M bh) (aX M' bx) bH)
  (rest:∀M',dJ B M' e k enc u l'->g_ M M' (eF u)->∀aS w,@Here (aX M' bx) _ N {sl:=dF,ms:=[],A:=eJ aU} B w0 aS w->wpListIn (Fr none) 0 P (jS o) (dS P (gX o) Q) (jR o) aS w)
  (aq:cI.dt<=aU.length:=by first|exact Nat.zero_le _|exact hJ rfl) (al:ic (cW o).A aU 0:=by exact f_ rfl): @e0 (aX M bh) _ P N B w0 Q o:=by
 letI:=aX M bh;unfold nY at h;split at h
 ·rename_i op r ops s ks
  refine⟨_,rfl,λa w ai=> ?_⟩;split at h
  ·rename_i da nz ga cj
   split at h
   ·rename_i iv
    cases h;have fT:=ai;obtain⟨⟨φ,ds,h1,ae,ay,bE,_⟩,cn,cy⟩:=ai;unfold wpListIn;rw[nx ae.get iv,aN rfl];have es:a.eval nz=iS u (i*k):=(aD.iq _ hp (gg (hX φ) ae.get nz)).trans lv;have mV:a.eval ga= .agg ⟨enc y⟩:=(aD.iq _ ak (gg (hX φ) ae.get ga)).trans ex;have hw:∀i o,M i=some o->w.heap[i]? =some o:=fT.mz;obtain⟨g,c,w',rfl,v7,adl,M',g2,g3,g4⟩:=adf ag jL cm hw ao i [y] (by simp only [List.length_cons,List.length_nil];omega);have eZ:l.take i++[y]++l.drop (i+[y].length)=l.set i y:=by
     rw[List.set_eq_take_append_cons_drop,aN af];simp
    rw[eZ,<-fa] at g2;have eQ:(execOp a.eval op).run P w= .ok .skip w':=by
     unfold execOp;rw[cj];simp only [es,mV];show (do Instr.storeAt t (iS (.slice (some ⟨g,0,none⟩) l.length c) (i*k)) (.agg ⟨enc y⟩);pure Next.skip:Sem Next).run P w=_;have cB:(Instr.storeAt t (iS (.slice (some ⟨g,0,none⟩) l.length c) (i*k)) (.agg ⟨enc y⟩)).run P w= .ok () w':=by
      unfold Instr.storeAt;refine cK (a:=(⟨g,0+i*k,none⟩:Addr)) rfl ?_;unfold storeVar;refine cK cb ?_;rw[aO (by simp [Value.cells,ag])];have:=adl P;rw[List.flatMap_cons,List.flatMap_nil,List.append_nil] at this;rw[Nat.zero_add];exact this
     simp only [Sem.run_bind,cB,Result.andThen_ok];rfl
    have ff:∀c',op.op≠.defer c':=λc' h=>by rw[cj] at h;cases h
    refine⟨λ_ _=>trivial,?_⟩;rw[Oper.semAt_eq _ _ _ ff,eQ,Oper.uponIn_skip];have gN:=Here.turns (vals':=bx) c1 (hm M') g3 aq al fT;letI:=aX M' bx;exact rest M' g2 g4 _ w' (Here.put (d:=op.dst) gN (v:=undef) rfl eg)
   ·cases h
  ·cases h
 ·cases h
theorem TI [aY] {P:aQ} {f:FuncId} {fn:Func} {c:Code} {args:List U} {sl:aT} {N:Nat} {W:au} {R:Ending->au->Prop} (l4:P.funcs[f]? =some fn) (al:fn.body=some c) (gH:setArgs 0 args .nil=some sl) (hp:dW args=true)
  (iQ:args.length+(fn.ntmps-args.length)=N) (oz:nw W) (qj:∀a,@Here _ fc N {sl,ms:=[],A:=start} 0 W a W->c.wpIn (Fr none) 0 P (@qk fc P fn N 0 W R) a W):Calls P f ⟨et args⟩ W R:=by
 subst iQ;letI:=fc;exact Mo l4 al gH (Tf oz) (λb e h=>by cases h) (ux.none _ _) ⟨by simp [w5],λj hj=>by simpa using aD.Aj (λ_=>none) args hp j hj⟩ (ch.refl _ _) (Nat.zero_le _) qj
theorem dJ.cap {α:Type} {B:Nat} {M:Mem} {e:aH} {k:Nat} {enc:α->List U} {a:Option Addr} {n c:Nat} {l:List α} (h:dJ B M e k enc (.slice a n c) l):n<=c:=by
 rcases h with ⟨aS,aJ,rfl⟩|⟨g,cap,cur,aJ,h1,ae,ay,bE,cn,cy,fx⟩
 ·cases aJ;exact bY _
 ·cases aJ;exact bE
end AE
end Go.Proofs.YtepcfjbfkedlpaaGreatDoor
namespace Go.Proofs.YtepcfjbfkedlpaaGreatDoor
open Go Go.Proofs Go.RowKit
namespace AE
theorem TJ {α:Type} {P:aQ} {w:au} {B:Nat} {M:Mem} {t ty e:aH} {i:TypeInfo} {z:U} {k bytes:Nat} (aI:P.underlying t=some (.slice e)) (af:P.info? e=some i) (bG:i.zero=some z) (fX:i.size=k) (jv:i.bytes=bytes) (lu:z.cells.size=k) (hg:0<k)
  {enc:α->List U} (ag:∀x,(enc x).length=k) (jL:∀x,∀u∈enc x,u.oneCell'=true) {v x:U} {l lx:List α} (cm:dJ B M e k enc v l) (ak:rj w k enc x lx) (hw:∀i o,M i=some o->w.heap[i]? =some o)
  (ie:l.length+lx.length<=maxLen) (k6:(l.length+lx.length)*bytes<=140737488355328) {aB:U} {w':au} (hr:(Builtin.append_ #[t,t] ty #[v,x]).run P w= .ok aB w'):
  ∀j,some j=eF aB->some j=eF v\/w.heap.size<=j:=by
 obtain⟨vY,c,rfl,xl,ka⟩:=ak;by_cases hm:lx=[]
 ·subst hm
  obtain⟨a,cap,rfl⟩:=cm.slice;have hle:l.length<=cap:=by
   rcases cm with ⟨aS,h,rfl⟩|⟨g,vA,cur,h,aJ,h1,ae,ay,_⟩
   ·exact Nat.zero_le _
   ·cases h;exact ay
  have ae:=MA (P:=P) (w:=w) (ty:=ty) (a:=a) (b:=vY) (c:=c) aI af hle;cases ae.symm.trans hr;exact λj h=> .inl h
 ·cases vY with
  |none=>exact absurd (xl rfl) hm
  |some gB=>
   have hlen:=qm ag lx;have h1:∀u∈lx.flatMap enc,u.oneCell'=true:=λu hu=>by
    obtain⟨y,_,bg⟩:=List.mem_flatMap.1 hu;exact jL y u bg
   by_cases al:eF v=none
   ·rcases cm with ⟨a,rfl,rfl⟩|⟨g,cap,cur,rfl,aJ,_⟩
    ·have bk:(Builtin.append_ #[t,t] ty #[.slice a 0 0,.slice (some gB) lx.length c]).run P w=(Builtin.append_ #[t,t] ty #[.slice none 0 0,.slice (some gB) lx.length c]).run P w:=by
      cases a with
      |none=>rfl
      |some a=>
       subst fX;subst jv;have MC:lx.length<=9223372036854775807:=by simp only [maxLen,List.length_nil] at ie;omega
       have qY:0<lx.length:=List.length_pos_iff.2 hm;have cS:=run_append_nil (P:=P) w t ty e i z aI af bG gB lx.length c _ hlen (ka gB rfl) ao ao (by have ad:=k6;simp only [List.length_nil,Nat.zero_add] at ad;omega);have dL:=run_append_grow (P:=P) w t ty e i z aI af bG a 0 0 [] (by simp) (λj u h=>by simp at h) gB lx.length c _ hlen (ka gB rfl) ao ao (growslice_fits ao (by have ad:=k6;simp only [List.length_nil] at ad;exact ad));rw[cS,dL];simp
     have aq:=MB aI af bG fX jv lu hg (World.ownsRow_nil w B e k) gB lx.length c hlen (ka gB rfl) h1 ie k6 (bk.symm.trans hr);intro j hj;rcases aq j (AP hj) with h|h
     ·cases h
     ·exact .inr h
    ·exact absurd al (by rw[mU _ _ aJ];simp)
   ·have heq:eF v=v.ownBlock:=by
     cases h:eF v with
     |none=>exact absurd h al
     |some i=>exact AP h.symm
    have aq:=MB aI af bG fX jv lu hg (cm.row ag al hw) gB lx.length c hlen (ka gB rfl) h1 ie k6 hr;intro j hj;rw[heq];exact aq j (AP hj)
theorem TK [cI] {α:Type} {P:aQ} {N B:Nat} {w0:au} {Q:Exit->Act->au->Prop} {M:Mem} {bh:List U} {o:Option bP} {t e:aH} {k bytes:Nat} {i:TypeInfo} {z vs jT ec:U} {enc:α->List U} {l lx l':List α} {bx:Option Addr->Nat->List U} {dM dF:aT} {aU:List bM} {bH:ev}
  (fa:l'=l++lx) (h:si t o=some (vs,jT)) (aI:P.underlying t=some (.slice e)) (af:P.info? e=some i) (bG:i.zero=some z) (fX:i.size=k) (jv:i.bytes=bytes) (lu:z.cells.size=k) (hg:0<k) (ag:∀x,(enc x).length=k) (jL:∀x,∀u∈enc x,u.oneCell'=true)
  (c1:dy (cW o) dM aU=some bH) (eg:gy N dM (iT o) ec=some dF) (fF:aM ec=true) (T:Option Nat)
  (cm:∀φ w v,@bR (aX M bh) φ (cW o).A w-> @aD (aX M bh) φ vs v->dJ B M e k enc v l/\eF v=T)
  (iU:∀φ w x,@bR (aX M bh) φ (cW o).A w-> @aD (aX M bh) φ jT x->rj w k enc x lx)
  (ie:l.length+lx.length<=maxLen) (k6:(l.length+lx.length)*bytes<=140737488355328)
  (hm:∀M' a c,fm (aX M bh) (aX M' (bx a c)) bH) (aC:∀M' a c,@aK (aX M' (bx a c)) ec= .slice a l'.length c)
  (rest:∀M' a c,dJ B M' e k enc (.slice a l'.length c) l'->g_ M M' T->(∀i,some i=T->B<=i)->(∀i,some i=eF (.slice a l'.length c)->some i=T\/M i=none)->∀aS w,@Here (aX M' (bx a c)) _ N {sl:=dF,ms:=[],A:=eJ aU} B w0 aS w->wpListIn (Fr none) 0 P (jS o) (dS P (gX o) Q) (jR o) aS w)
  (aq:cI.dt<=aU.length:=by first|exact Nat.zero_le _|exact hJ rfl) (al:ic (cW o).A aU 0:=by exact f_ rfl): @e0 (aX M bh) _ P N B w0 Q o:=by
 subst fa;letI:=aX M bh;unfold si at h;split at h
 ·rename_i op r ops s ks
  refine⟨_,rfl,λa w ai=> ?_⟩;split at h
  ·rename_i c cj
   split at h
   ·rename_i mB ga qg gf
    cases hty:decide (c.argTypes= #[t,t]) with
    |false=>rw[hty] at h;cases h
    |true=>
     rw[hty,bw] at h;have xm:c.argTypes= #[t,t]:=of_decide_eq_true hty;split at h
     ·rename_i iv
      cases h;have fT:=ai;obtain⟨⟨φ,ds,h1,ae,ay,bE,_⟩,cn,cy⟩:=ai;unfold wpListIn;rw[nx ae.get iv,aN rfl];have es:=gg (hX φ) ae.get mB;have ex:=gg (hX φ) ae.get ga;obtain⟨H5,eb⟩:=cm φ w _ ay es;subst eb;have hw:∀i o,M i=some o->w.heap[i]? =some o:=fT.mz;obtain⟨aB,w',M',g1,g2,g3,g4⟩:=MD (ty:=op.type) aI af bG fX jv lu hg ag jL H5 (iU φ w _ ay ex) hw cy ie k6;have yz:=TJ aI af bG fX jv lu hg ag jL H5 (iU φ w _ ay ex) hw ie k6 g1;have eQ:(execOp a.eval op).run P w= .ok (.value aB) w':=by
       unfold execOp resolve;rw[cj];simp only [qg,gf,xm,List.map_toArray,List.map_cons,List.map_nil];show (do pure (Next.value (<-Builtin.append_ #[t,t] op.type #[a.eval mB,a.eval ga])):Sem Next).run P w=_;simp only [Sem.run_bind,g1,Result.andThen_ok];rfl
      have ff:∀c',op.op≠.defer c':=λc' h=>by rw[cj] at h;cases h
      refine⟨λ_ _=>trivial,?_⟩;rw[Oper.semAt_eq _ _ _ ff,eQ,Oper.uponIn_value];obtain⟨aS,c',rfl⟩:=g2.slice;have gN:=Here.turns (vals':=bx aS c') c1 (hm M' aS c') g3 aq al fT;letI:=aX M' (bx aS c');have kd:=Here.put (d:=op.dst) gN fF eg;rw[aC M' aS c'] at kd;exact rest M' aS c' g2 g4 (λi af=>(g3.known i af).2) (λi af=>(yz i af).imp id λav=>by
       cases bj:M i with
       |none=>rfl
       |some o=>
        have:=(Array.getElem?_eq_some_iff.1 (hw i o bj)).1
        omega) _ w' kd
     ·cases h
   ·cases h
  ·cases h
 ·cases h
end AE
end Go.Proofs.YtepcfjbfkedlpaaGreatDoor
namespace Go.Proofs.YtepcfjbfkedlpaaGreatDoor
open Go Go.RowKit
namespace AE
abbrev hn:=List UInt8
def cp (l:hn):U:= .string ⟨l.toArray⟩
variable [aY]
section
variable {P:aQ}
omit [aY] in
theorem MI (l:hn):(⟨l.toArray⟩:ByteArray).size=l.length:=by simp [ByteArray.size]
theorem CD {f:fH} {r:U} (aP:nv f=true) (hr:aM r=true) (aq:B_ f=false) (h:∀dO dP w,nw w->(fI dO dP (w6 f)).run P w= .ok (.value (aK r)) w):aR P (f,r):=by
 refine⟨aP,hr,?_⟩;simp only [aq];exact h
theorem EK {f:fH} {r:U} (aP:nv f=true) (hr:aM r=true) (aq:B_ f=true) (h:∀dO dP w,(fI dO dP (w6 f)).run P w= .ok (.value (aK r)) w):aR P (f,r):=by
 refine⟨aP,hr,?_⟩;simp only [aq];exact h
theorem aR.eo {x:U} {b:Bool} (ak:aM x=true) (h:aK x= .bool b):aR P (.eo x,.bool b):=by
 refine⟨ak,rfl,?_⟩;show ∀dO dP w,(fI dO dP (.eo (aK x))).run P w=_;intro dO dP w;rw[h];rfl
theorem aR.y0 {t ty:aH} {x r:U} {l:hn} (ak:aM x=true) (hr:aM r=true) (aI:P.underlying t=some .string) (ex:aK x=cp l) (bX:aK r= .int .i64 l.length):aR P (.len #[t] ty x,r):=by
 refine EK ak hr rfl λdO dP w=> ?_
 show (fI dO dP (.len #[t] ty (aK x))).run P w=_;rw[ex,bX];unfold fI cp;simp only [Sem.run_bind,run_len_string w t ty _ aI,Result.andThen_ok,MI];rfl
theorem aR.AT {t:aH} {x i r:U} {l:hn} {j:Nat} {k:IntKind} (hj:j<l.length) (ak:aM x=true) (af:aM i=true) (hr:aM r=true) (aI:P.underlying t=some .string) (ex:aK x=cp l) (gj:aK i= .int k j)
  (bX:aK r= .int .u8 ((l.getD j 0).toNat:Nat)):aR P (.eA t x i,r):=by
 refine CD (by simp [nv,ak,af]) hr rfl λdO dP w _=> ?_
 show (fI dO dP (.eA t (aK x) (aK i))).run P w=_;rw[ex,gj,bX];unfold fI cp;have ai:(0:Int)<=(j:Int)/\(j:Int)<((⟨l.toArray⟩:ByteArray).size:Nat):=⟨ao,by rw[MI];omega⟩;simp only [Sem.run_bind,run_index_string w t _ k _ aI,dif_pos ai,Result.andThen_ok,Int.toNat_natCast];have:((⟨l.toArray⟩:ByteArray)[j]'(by rw[MI];exact hj))=l.getD j 0:=by
  rw[dr,fP hj];rfl
 rw[this];rfl
omit [aY] in
theorem TL (t:aH) (op:BinOp) (cj:op= .eql\/op= .neq) (l m:hn) (dO dP:Operand) (w:au):(fI dO dP (.bin op t (cp l) (cp m))).run P w= .ok (.value (.bool (if op= .eql then decide (l=m) else !decide (l=m)))) w:=by
 unfold fI cp;rcases cj with rfl|rfl
 ·simp [eqGuard,binOp,Op.stringOp]
  rw[Bool.eq_iff_iff];simp
 ·simp [eqGuard,binOp,Op.stringOp]
  rw[Bool.eq_iff_iff];simp
theorem aR.AU {t:aH} {x y:U} {l m:hn} (ak:aM x=true) (bg:aM y=true) (ex:aK x=cp l) (hk:aK y=cp m) (h:l=m):aR P (.bin .neq t x y,.bool false):=
 tu ak bg rfl ex hk λdO dP w=>by rw[TL t .neq (.inr rfl) l m,aO (by simp),gU h];rfl
theorem aR.mW {t:aH} {x y:U} {l m:hn} (ak:aM x=true) (bg:aM y=true) (ex:aK x=cp l) (hk:aK y=cp m) (h:¬l=m):aR P (.bin .neq t x y,.bool true):=
 tu ak bg rfl ex hk λdO dP w=>by rw[TL t .neq (.inr rfl) l m,aO (by simp),di h];rfl
theorem aR.EL {s d:aH} {x r:U} {k k':IntKind} {n:Int} (ak:aM x=true) (hr:aM r=true) (av:(P.underlying s).isSome=true) (a_:P.underlying d=some (.int (P.intKind d))) (ag:P.intKind d=k') (hw:k'.wrap n=n) (ex:aK x= .int k n) (bX:aK r= .int k' n):aR P (.conv s d x,r):=by
 refine CD ak hr rfl λdO dP w _=> ?_
 show (fI dO dP (.conv s d (aK x))).run P w=_;rw[ex,bX];unfold fI;simp only [Sem.run_bind,run_convert_int w s d k n av a_,Result.andThen_ok,ag,hw];rfl
omit [aY] in
theorem TM {t:aH} (aI:P.underlying t=some .bool) (op:BinOp) (cj:op= .eql\/op= .neq) (l m:Bool) (dO dP:Operand) (w:au):(fI dO dP (.bin op t (.bool l) (.bool m))).run P w= .ok (.value (.bool (if op= .eql then l==m else !(l==m)))) w:=by
 unfold fI;rcases cj with rfl|rfl
 ·simp [eqGuard,binOp,Op.equal,Op.maxDepth,run_equalIn_bool w 9999 t _ _ aI]
 ·simp [eqGuard,binOp,Op.equal,Op.maxDepth,run_equalIn_bool w 9999 t _ _ aI]
theorem aR.EM {t:aH} {x y:U} {l m r:Bool} (aI:P.underlying t=some .bool) (ak:aM x=true) (bg:aM y=true) (ex:aK x= .bool l) (hk:aK y= .bool m) (h:r=(l==m)):aR P (.bin .eql t x y,.bool r):=
 tu ak bg rfl ex hk λdO dP w=>by rw[TM aI .eql (.inl rfl) l m,aN rfl,h];rfl
theorem aR.adn {t:aH} {x y:U} {l m r:Bool} (aI:P.underlying t=some .bool) (ak:aM x=true) (bg:aM y=true) (ex:aK x= .bool l) (hk:aK y= .bool m) (h:r= !(l==m)):aR P (.bin .neq t x y,.bool r):=
 tu ak bg rfl ex hk λdO dP w=>by rw[TM aI .neq (.inr rfl) l m,aO (by simp),h];rfl
theorem aR.MJ {x:U} {l r:Bool} (ak:aM x=true) (ex:aK x= .bool l) (h:r= !l):aR P (.un .not x,.bool r):=by
 refine⟨ak,rfl,?_⟩;show ∀dO dP w,(fI dO dP (.un .not (aK x))).run P w=_;intro dO dP w;rw[ex,h];rfl
theorem aR.ado {α:Type} {k:Nat} {enc:α->List U} {v:U} {l:List α} (h:b7 aY.dg k enc v l) {t:aH} {p r:U} {i o j n:Nat} {x:α} {us:List U} (af:l[i]? =some x) (hp:aM p=true) (hr:aM r=true)
  (ha:a7 P (isAgg t)=some true) (aq:a7 P (sizeOf t)=some n) (ho:o=i*k+j) (hl:us.length=n) (hu:∀q u,us[q]? =some u->(enc x)[j+q]? =some u) (ex:aK p=iS v o) (bX:aK r= .agg ⟨us⟩):aR P (.bp t p,r):=by
 obtain⟨b,off,c,cs,ty,fr,rfl,ad,al⟩:=h.at' af;refine aR.bp (b:=b) (o:=off+o) (l:=us) hp hr ha aq ex hl (λw hw q u a1=> ?_) bX;have h1:=hw b _ ad;have ae:=al (j+q) u (hu q u a1);show w.cell? ⟨b,off+o+q,none⟩=some u;rw[show off+o+q=off+i*k+(j+q) by omega];unfold World.cell?;simp only [h1];exact ae
theorem aR.TN {t e:aH} {x i r:U} {g o n aZ:Nat} {j:Nat} {k:IntKind} (ak:aM x=true) (af:aM i=true) (hr:aM r=true) (aI:P.underlying t=some (.array n e)) (cb:a7 P (sizeOf e)=some aZ)
  (ex:aK x= .pointer (some ⟨g,o,none⟩)) (gj:aK i= .int k j) (hj:j<n) (bX:aK r= .pointer (some ⟨g,o+j*aZ,none⟩)):aR P (.cP t x i,r):=by
 refine EK (by simp [nv,ak,af]) hr rfl λdO dP w=> ?_
 show (fI dO dP (.cP t (aK x) (aK i))).run P w=_;rw[ex,gj];unfold fI;have:(Instr.indexAt t (.pointer (some ⟨g,o,none⟩)) (.int k j)).run P w= .ok (.pointer (some ⟨g,o+j*aZ,none⟩)) w:=by
  have aJ:(Instr.sureAddr (.pointer (some ⟨g,o,none⟩))).run P w= .ok (⟨g,o,none⟩:Addr) w:=rfl;simp [Instr.indexAt,run_underlying aI,asIntOf,hj,aJ,jc cb w,Addr.jZ]
 simp only [Sem.run_bind,this,Result.andThen_ok,bX];rfl
theorem aR.adp {t e:aH} {x i r v:U} {n m j o o':Nat} {gM:IntKind} (ak:aM x=true) (af:aM i=true) (hr:aM r=true) (aI:P.underlying t=some (.array n e)) (cb:a7 P (sizeOf e)=some m)
  (aC:∃b off n c,v= .slice (some ⟨b,off,none⟩) n c) (hj:j<n) (ho:o'=o+j*m) (ex:aK x=iS v o) (gj:aK i= .int gM j) (bX:aK r=iS v o'):aR P (.cP t x i,r):=by
 obtain⟨b,off,fz,c,rfl⟩:=aC;exact aR.TN (g:=b) (o:=off+o) ak af hr aI cb ex gj hj (by rw[bX,ho];simp [iS,cellAt,Nat.add_assoc])
theorem aR.adq {t e:aH} {x r:U} {g o n aZ:Nat} (ak:aM x=true) (hr:aM r=true) (aI:P.underlying t=some (.array n e)) (cb:a7 P (sizeOf e)=some aZ)
  (ex:aK x= .pointer (some ⟨g,o,none⟩)) (aq:0<n) (bX:aK r= .slice (some ⟨g,o,none⟩) n n):aR P (.lr t x none none none,r):=by
 refine CD (by simp [nv,plainO,ak]) hr rfl λdO dP w _=> ?_
 show (fI dO dP (.lr t (aK x) none none none)).run P w=_;rw[ex];unfold fI;have:(Instr.sliceAt t (.pointer (some ⟨g,o,none⟩)) none none none).run P w= .ok (.slice (some ⟨g,o,none⟩) n n) w:=by
  have aJ:(Instr.sureAddr (.pointer (some ⟨g,o,none⟩))).run P w= .ok (⟨g,o,none⟩:Addr) w:=rfl;unfold Instr.sliceAt;simp only [Sem.run_bind,run_underlying aI,Result.andThen_ok,aJ];have cC:n≠0:=by omega
  simp [Instr.sliceBounds,jc cb w,cC];rfl
 simp only [Sem.run_bind,this,Result.andThen_ok,bX];rfl
section
omit [aY]
def EN (P:aQ) (f:aH->U->U->Option Bool) (xs ys:Array U):List Field->Option Bool
 |[]=>some true
 |hz::r=>bif hz.name== "_" then EN P f xs ys r else
  match a7 P (part hz.type xs hz.offset),a7 P (part hz.type ys hz.offset) with
  |some a,some b=>match f hz.type a b,EN P f xs ys r with
   |some p,some q=>some (p&&q)
   |_,_=>none
  |_,_=>none
def Ia (P:aQ) (f:aH->U->U->Option Bool) (e:aH) (c:Nat) (xs ys:Array U):List Nat->Option Bool
 |[]=>some true
 |i::r=>match a7 P (part e xs (i*c)),a7 P (part e ys (i*c)) with
  |some a,some b=>match f e a b,Ia P f e c xs ys r with
   |some p,some q=>some (p&&q)
   |_,_=>none
  |_,_=>none
def rk (P:aQ):Nat->aH->U->U->Option Bool
 |0,_,_,_=>none
 |d+1,t,x,y=>match P.underlying t with
  |some .bool=>match x,y with
   | .bool a,.bool b=>some (a==b)
   |_,_=>none
  |some (.int _)=>match x,y with
   | .int k a,.int k' b=>bif decide (k=k') then some (a==b) else none
   |_,_=>none
  |some .string=>match x,y with
   | .string a,.string b=>some (a.data.toList==b.data.toList)
   |_,_=>none
  |some (.struct _)=>match x,y with
   | .agg xs,.agg ys=>bif P.stoodInHeld t then none else EN P (rk P d) xs ys (P.fieldsOf t).toList
   |_,_=>none
  |some (.array n e)=>match x,y with
   | .agg xs,.agg ys=>match P.info? e with
     |some _=>Ia P (rk P d) e (P.cellsOf e) xs ys (List.range n)
     |none=>none
   |_,_=>none
  |_=>none
theorem MK {d:Nat} (cd:∀t x y b,rk P d t x y=some b->∀w,(Op.equalIn d t x y).run P w= .ok b w) {xs ys:Array U}:∀(l:List Field) (b:Bool),EN P (rk P d) xs ys l=some b->∀w,(Op.eqFields d xs ys l).run P w= .ok b w
 |[],b,h,w=>by cases h;rfl
 |hz::r,b,h,w=>by
  unfold EN at h;unfold Op.eqFields;by_cases aq:hz.name= "_"
  ·rw[show (hz.name== "_")=true by simpa using aq,bw] at h
   rw[aO (λai=>ai aq)];exact MK cd r b h w
  ·rw[show (hz.name== "_")=false by simpa using aq,ei] at h
   rw[aN aq];split at h
   ·rename_i a c ha al
    split at h
    ·rename_i p q hp a1
     cases h;simp only [Sem.run_bind,jc ha,jc al,cd _ _ _ _ hp,Result.andThen_ok];cases p with
     |true=>simpa using MK cd r q a1 w
     |false=>rfl
    ·cases h
   ·cases h
theorem TO {d:Nat} (cd:∀t x y b,rk P d t x y=some b->∀w,(Op.equalIn d t x y).run P w= .ok b w) {e:aH} {c:Nat} {xs ys:Array U}:∀(l:List Nat) (b:Bool),Ia P (rk P d) e c xs ys l=some b->∀w,(Op.eqItems d e c xs ys l).run P w= .ok b w
 |[],b,h,w=>by cases h;rfl
 |i::r,b,h,w=>by
  unfold Ia at h;unfold Op.eqItems;split at h
  ·rename_i a c ha al
   split at h
   ·rename_i p q hp a1
    cases h;simp only [Sem.run_bind,jc ha,jc al,cd _ _ _ _ hp,Result.andThen_ok];cases p with
    |true=>simpa using TO cd r q a1 w
    |false=>rfl
   ·cases h
  ·cases h
theorem Ib:∀(d:Nat) (t:aH) (x y:U) (b:Bool),rk P d t x y=some b->∀w,(Op.equalIn d t x y).run P w= .ok b w
 |0,_,_,_,_,h,_=>by cases h
 |d+1,t,x,y,b,h,w=>by
  unfold rk at h;split at h
  ·rename_i hu
   split at h
   ·cases h;exact run_equalIn_bool' w d t _ _ hu
   ·cases h
  ·rename_i d' hu
   split at h
   ·rename_i k a k' b'
    by_cases ag:k=k'
    ·subst ag
     simp only [decide_true,bw,cx] at h;subst h;exact run_equalIn_int w d t k d' a b' hu
    ·rw[di ag,ei] at h
     cases h
   ·cases h
  ·rename_i hu
   split at h
   ·rename_i a c
    cases h;rw[run_equalIn_string w d t _ _ hu,ByteArray.toList_eq,ByteArray.toList_eq]
   ·cases h
  ·rename_i fs hu
   split at h
   ·rename_i xs ys
    cases av:P.stoodInHeld t with
    |true=>rw[av] at h;cases h
    |false=>
     rw[av,ei] at h;have adr:P.underlying t=some (.struct (P.fieldsOf t)):=by unfold Program.fieldsOf;rw[hu]
     rw[run_equalIn_struct w d t xs ys adr av];exact MK (λt x y b h=>Ib d t x y b h) _ b h w
   ·cases h
  ·rename_i n e hu
   split at h
   ·rename_i xs ys
    split at h
    ·rename_i i af
     rw[run_equalIn_array (w:=w) d xs ys hu af];exact TO (λt x y b h=>Ib d t x y b h) _ b h w
    ·cases h
   ·cases h
  ·cases h
end
theorem aR.yO {t:aH} {x y:U} {xs ys:Array U} {b:Bool} (az:P.eqGuardType P.depth t=false) (ak:aM x=true) (bg:aM y=true) (ex:aK x= .agg xs) (hk:aK y= .agg ys) (h:rk P 10000 t (.agg xs) (.agg ys)=some b):aR P (.bin .eql t x y,.bool b):=
 tu ak bg rfl ex hk λdO dP w=>by
  unfold fI;simp only [Sem.run_bind,run_eqGuard_agg w .eql t dO dP xs ys az,Result.andThen_ok,run_eql_struct,Ib 10000 t _ _ b h w];rfl
theorem aR.ML {t:aH} {x y:U} {xs ys:Array U} {b:Bool} (az:P.eqGuardType P.depth t=false) (ak:aM x=true) (bg:aM y=true) (ex:aK x= .agg xs) (hk:aK y= .agg ys) (h:rk P 10000 t (.agg xs) (.agg ys)=some b):aR P (.bin .neq t x y,.bool (!b)):=
 tu ak bg rfl ex hk λdO dP w=>by
  unfold fI;simp only [Sem.run_bind,run_eqGuard_agg w .neq t dO dP xs ys az,Result.andThen_ok,run_neq_struct,Ib 10000 t _ _ b h w];rfl
end
end AE
end Go.Proofs.YtepcfjbfkedlpaaGreatDoor
namespace Go.Proofs.YtepcfjbfkedlpaaGreatDoor
open Go Go.Proofs Go.RowKit
namespace AE
theorem ads {p:Prop} [Decidable p] (h:p):Value.bool true= .bool (decide p):=by rw[gU h]
theorem adt {p:Prop} [Decidable p] (h:¬p):Value.bool false= .bool (decide p):=by rw[di h]
theorem adu {p:Prop} [Decidable p] (h:¬p):Value.bool true= .bool (!decide p):=by rw[di h];rfl
theorem adv {p:Prop} [Decidable p] (h:p):Value.bool false= .bool (!decide p):=by rw[gU h];rfl
theorem oB {a b:Int} (h:a=b) (h1: -9223372036854775808<=a) (ae:a<=9223372036854775807):Value.int .i64 a= .int .i64 (IntKind.i64.wrap b):=by rw[<-h,wrap64 h1 ae]
theorem EO {a:Int} (h:0<=a):Value.int .i64 a= .int .i64 ((a.toNat:Nat):Int):=by rw[Int.toNat_of_nonneg h]
theorem adw {α:Type} [Inhabited α] {l:List α} {i:Nat} (h:i<l.length):l[i]? =some (l.getD i default):=by rw[dr,fP h];rfl
theorem MN:a7 Tryz.prog (sizeOf 3)=some 1:=aw
theorem MO:a7 Tryz.prog (isAgg 3)=some false:=aw
theorem TP:a7 Tryz.prog (isAgg 4)=some false:=aw
theorem TQ:a7 Tryz.prog (isAgg 9)=some false:=aw
theorem adx:a7 Tryz.prog (sizeOf 9)=some 1:=aw
theorem qn:Tryz.prog.underlying 9=some .string:=aw
theorem Ic:Tryz.prog.underlying 4=some .bool:=aw
abbrev sj:aH:=3
theorem l8:Tryz.prog.underlying 26=some (.slice sj):=aw
noncomputable def Ie:TypeInfo:=(Tryz.prog.info? sj).getD default
theorem ady:Tryz.prog.info? sj=some Ie:=aw
theorem adz:Ie.zero=some (.int .i64 0):=aw
theorem adA:Ie.size=1:=aw
abbrev MP:Nat:=8
theorem adB:Ie.bytes=MP:=aw
theorem adC:(Value.int .i64 0).cells.size=1:=rfl
def ih (n:Int):List U:=[.int .i64 n]
theorem MQ:∀x,(ih x).length=1:=λ_=>rfl
theorem adD:∀x,∀u∈ih x,u.oneCell'=true:=λx u hu=>by
 simp only [ih,List.mem_cons,List.not_mem_nil,or_false] at hu;subst hu;rfl
abbrev cr:=hn×Bool×Bool×Bool×Int×Int×Int×Int
instance aln:DecidableEq (Bool×Bool×Bool×Int×Int×Int×Int):=λp q=>decidable_of_iff (p.1=q.1/\p.2.1=q.2.1/\p.2.2=q.2.2) ⟨λh=>Prod.ext h.1 (Prod.ext h.2.1 h.2.2),λh=>by subst h;exact⟨rfl,rfl,rfl⟩⟩
instance alo:DecidableEq cr:=λp q=>decidable_of_iff (p.1=q.1/\p.2=q.2) ⟨λh=>Prod.ext h.1 h.2,λh=>by subst h;exact⟨rfl,rfl⟩⟩
def hA (x:cr):List U:=[cp x.1,.bool x.2.1,.bool x.2.2.1,.bool x.2.2.2.1,.int .i64 x.2.2.2.2.1,.int .i64 x.2.2.2.2.2.1,.int .i64 x.2.2.2.2.2.2.1,.int .i64 x.2.2.2.2.2.2.2]
abbrev M.val (x:cr):U:= .agg ⟨hA x⟩
abbrev nA:aH:=66
theorem pH:a7 Tryz.prog (sizeOf nA)=some 8:=aw
theorem AV:a7 Tryz.prog (isAgg nA)=some true:=aw
theorem k9:Tryz.prog.underlying 29=some (.slice nA):=aw
theorem adE:a7 Tryz.prog (underlying nA)=some (.struct (Tryz.prog.fieldsOf nA)):=aw
noncomputable def Ig:TypeInfo:=(Tryz.prog.info? nA).getD default
theorem adF:Tryz.prog.info? nA=some Ig:=aw
theorem adG:Ig.zero=some (.agg ⟨[cp [],.bool false,.bool false,.bool false,.int .i64 0,.int .i64 0,.int .i64 0,.int .i64 0]⟩):=aw
theorem adH:Ig.size=8:=aw
abbrev MR:Nat:=56
theorem adI:Ig.bytes=MR:=aw
theorem adJ:(Value.agg ⟨[cp [],.bool false,.bool false,.bool false,.int .i64 0,.int .i64 0,.int .i64 0,.int .i64 0]⟩).cells.size=8:=rfl
theorem TR:∀x,(hA x).length=8:=λ_=>rfl
theorem adK:∀x,∀u∈hA x,u.oneCell'=true:=λx u hu=>by
 simp only [hA,List.mem_cons,List.not_mem_nil,or_false] at hu;rcases hu with rfl|rfl|rfl|rfl|rfl|rfl|rfl|rfl<;>rfl
section
variable [aY]
theorem MS {α:Type} {k:Nat} {enc:α->List U} {v:U} {l:List α} (h:b7 aY.dg k enc v l) {n:Nat} (aq:n<l.length):∃b off n c,v= .slice (some ⟨b,off,none⟩) n c:=by
 obtain⟨b,off,c,_,_,_,aC,_⟩:=h.at' (fP aq);exact⟨b,off,_,c,aC⟩
theorem adL {P:aQ} {α:Type} {k:Nat} {enc:α->List U} {v:U} {l:List α} {s:aH} {f m off ty:Nat} (av:a7 P (underlying s)=some (.struct (P.fieldsOf s))) (aP:((P.fieldsOf s)[f]?).map (λf=>(f.type,f.offset))=some (ty,off)) (hm:a7 P (sizeOf ty)=some m) (aJ:m≠0)
  (h:b7 aY.dg k enc v l) {n:Nat} (aq:n<l.length) {x r:U} {o:Nat} (ak:aM x=true) (hr:aM r=true) (ex:aK x=iS v o) (bX:aK r=iS v (o+off)):aR P (.cu s x f,r):=by
 rw[wL] at aP;obtain⟨hz,h1,ae⟩:=aP;cases ae;exact aR.Ts ak hr av h1 hm aJ (MS h aq) rfl ex bX
variable {α:Type} {k:Nat} {enc:α->List U} {v:U} {l:List α} {n o:Nat} {x r:U}
theorem TS (h:b7 aY.dg k enc v l) (aq:n<l.length) (ak:aM x=true) (hr:aM r=true) (ex:aK x=iS v o) (bX:aK r=iS v (o+0)):aR Tryz.prog (.cu nA x 0,r):=adL (ty:=9) adE aw adx cv h aq ak hr ex bX
end
abbrev TT:=Int×Int×Int
def adM (x:TT):List U:=[.int .i64 x.1,.int .i64 x.2.1,.int .i64 x.2.2]
abbrev E.val (x:TT):U:= .agg ⟨adM x⟩
theorem adN (p q:cr):rk Tryz.prog 10000 nA (M.val p) (M.val q)=some (p.1==q.1&&(p.2.1==q.2.1&&(p.2.2.1==q.2.2.1&&(p.2.2.2.1==q.2.2.2.1&&(p.2.2.2.2.1==q.2.2.2.2.1&&((p.2.2.2.2.2.1==q.2.2.2.2.2.1&&(p.2.2.2.2.2.2.1==q.2.2.2.2.2.2.1&&(p.2.2.2.2.2.2.2==q.2.2.2.2.2.2.2&&true)))&&true)))))):=aw
theorem adO:Tryz.prog.eqGuardType Tryz.prog.depth nA=false:=aw
theorem adP (p q:cr):(p.1==q.1&&(p.2.1==q.2.1&&(p.2.2.1==q.2.2.1&&(p.2.2.2.1==q.2.2.2.1&&(p.2.2.2.2.1==q.2.2.2.2.1&&((p.2.2.2.2.2.1==q.2.2.2.2.2.1&&(p.2.2.2.2.2.2.1==q.2.2.2.2.2.2.1&&(p.2.2.2.2.2.2.2==q.2.2.2.2.2.2.2&&true)))&&true))))))=decide (p=q):=by
 obtain⟨a,b,c,d,e,f,g,h⟩:=p;obtain⟨aS,b',c',nr,e',iC,adQ,eW⟩:=q;rw[Bool.eq_iff_iff];simp
section
variable [aY]
theorem TU {x y:U} {p q:cr} (ak:aM x=true) (bg:aM y=true) (ex:aK x=M.val p) (hk:aK y=M.val q) {d:Bool} (a_:d= !decide (p=q)):aR Tryz.prog (.bin .neq nA x y,.bool d):=by
 subst a_;exact aR.ML adO ak bg ex hk ((adN p q).trans (by rw[adP]))
theorem CE {P:aQ} {x:U} {t:Bool} (ak:aM x=true) (ex:aK x= .bool t) (h:t=true):aR P (.eo x,.bool true):=aR.eo ak (by rw[ex,h])
theorem MT {P:aQ} {x:U} {t:Bool} (ak:aM x=true) (ex:aK x= .bool t) (h:¬t=true):aR P (.eo x,.bool false):=aR.eo ak (by rw[ex,Bool.eq_false_iff.2 h])
theorem adR {P:aQ} {x:U} {t:Bool} (ak:aM x=true) (ex:aK x= .bool t) (h:t=true):aR P (.un .not x,.bool false):=aR.MJ ak ex (by rw[h];rfl)
theorem adS {P:aQ} {x:U} {t:Bool} (ak:aM x=true) (ex:aK x= .bool t) (h:¬t=true):aR P (.un .not x,.bool true):=aR.MJ ak ex (by rw[Bool.eq_false_iff.2 h];rfl)
variable {x y:U} {s t:Bool}
theorem CF (ak:aM x=true) (bg:aM y=true) (ex:aK x= .bool s) (hk:aK y= .bool t) (h:s=true) (eW:t=true):aR Tryz.prog (.bin .eql 4 x y,.bool true):=aR.EM Ic ak bg ex hk (by rw[h,eW];rfl)
theorem Ih (ak:aM x=true) (bg:aM y=true) (ex:aK x= .bool s) (hk:aK y= .bool t) (h:s=true) (eW:¬t=true):aR Tryz.prog (.bin .eql 4 x y,.bool false):=aR.EM Ic ak bg ex hk (by rw[h,Bool.eq_false_iff.2 eW];rfl)
theorem xn (ak:aM x=true) (bg:aM y=true) (ex:aK x= .bool s) (hk:aK y= .bool t) (h:¬s=true) (eW:t=true):aR Tryz.prog (.bin .eql 4 x y,.bool false):=aR.EM Ic ak bg ex hk (by rw[Bool.eq_false_iff.2 h,eW];rfl)
theorem uF (ak:aM x=true) (bg:aM y=true) (ex:aK x= .bool s) (hk:aK y= .bool t) (h:¬s=true) (eW:¬t=true):aR Tryz.prog (.bin .eql 4 x y,.bool true):=aR.EM Ic ak bg ex hk (by rw[Bool.eq_false_iff.2 h,Bool.eq_false_iff.2 eW];rfl)
end
def Ii:List U:=[cp [103,97,115],.bool false,.bool false,.bool false,cp [115,111,108,105,100],.bool true,.bool false,.bool false,cp [102,97,108,108,105,110,103],.bool true,.bool false,.bool true,cp [108,105,113,117,105,100],.bool false,.bool true,.bool false]
def ly (M:Mem):Prop:=∃ty fr,M 0=some (.cells ⟨Ii⟩ ty fr)
theorem ly.mono {M M':Mem} (h:ly M) (hm:∀i o,M i=some o->M' i=some o):ly M':=by
 obtain⟨ty,fr,h⟩:=h;exact⟨ty,fr,hm _ _ h⟩
section
variable [aY] {P:aQ}
theorem adT (b0:ly aY.dg) {w:au} (hw:nw w) {o:Nat} {u:U} (hu:Ii[o]? =some u):w.cell? ⟨0,o,none⟩=some u:=by
 obtain⟨ty,fr,h⟩:=b0;have:=hw _ _ h;unfold World.cell?;simp only [this];simpa using hu
theorem AW (b0:ly aY.dg) {t:aH} {x r:U} {o n:Nat} {l:List U} (ak:aM x=true) (hr:aM r=true) (ha:a7 P (isAgg t)=some true) (aq:a7 P (sizeOf t)=some n) (ex:aK x= .pointer (some ⟨0,o,none⟩)) (bX:aK r= .agg ⟨l⟩) (hl:(Ii.drop o).take n=l) (jf:l.length=n):aR P (.bp t x,r):=
 aR.bp (b:=0) (o:=o) (l:=l) ak hr ha aq ex jf (λw hw j u hj=>adT b0 hw (by
  rw[<-hl,List.getElem?_take] at hj;split at hj
  ·rwa [List.getElem?_drop] at hj
  ·cases hj)) bX
theorem lR {f:FuncId} {args:List U} {v:U} {a:Array U} {u:U} (hp:dW args=true) (aC:aM v=true) (ha:et args=a.toList) (hu:aK v=u)
  (h:∀w,nw w->Calls P f a w λe w'=>e= .returned u/\ch w.heap.size w w'):ju P (f,args,v):=
 ⟨hp,aC,λw hw=>by show Calls P f ⟨et args⟩ w _;rw[ha,hu];exact h w hw⟩
end
end AE
end Go.Proofs.YtepcfjbfkedlpaaGreatDoor
namespace Go.Proofs.YtepcfjbfkedlpaaGreatDoor
open Go Go.ChangeShapes Go.WideShapes Go.ChangeAt Go.RowKit
section
theorem own:ownKnob Tryz.prog.godebug=none:=aw
theorem adU:laidOutB Tryz.prog=true:=aw
theorem TV {H:Type} {enc:aH×U->H} {P:aQ} (hl:laidOutB P=true) {W W':au} (ad:Below W.heap.size W W'):∀(cM:List aH) (vs:List U) (ds:List (DataW H)) (ps:List MemPlace),
  cM.all (λt=>P.readableRec t&&decide (t<P.types.size))=true->DataW.TrodAll enc P W 0 (λ_=>true) true cM vs ds ps->(∀x∈ps,x.block<W.heap.size)->DataW.TrodAll enc P W' 0 (λb=>decide (b<W.heap.size)) true cM vs ds ps
 |[],[],[],ps,_,h,_=>h
 |t::cM,v::vs,d::ds,ps,aI,h,b8=>by
  obtain⟨p,q,h1,ae,rfl⟩:=h;simp only [List.all_cons,c0,decide_eq_true_eq] at aI;exact⟨p,q,Below.trod hl aI.1.1 aI.1.2 h1 ad (λx ak=>b8 x (List.mem_append_left _ ak)),TV hl ad cM vs ds q aI.2 ae λx ak=>b8 x (List.mem_append_right _ ak),rfl⟩
 |[],_::_,_,_,_,h,_=>by cases h
 |[],[],_::_,_,_,h,_=>by cases h
 |_::_,[],_,_,_,h,_=>by cases h
 |_::_,_::_,[],_,_,h,_=>by cases h
theorem TW:Tryz.prog.cellsOf AE.nA=8:=aw
theorem y1:Tryz.prog.cellsOf 3=1:=aw
theorem TX:Tryz.prog.cellsOf 9=1:=aw
theorem y2:Tryz.prog.cellsOf 4=1:=aw
theorem adV:Tryz.prog.cellsOf 64=3:=aw
abbrev EP:aH:=158
theorem TY:Tryz.prog.cellsOf EP=4:=aw
theorem adW:Tryz.prog.cellsOf 168=16:=aw
theorem AX:Tryz.prog.underlying AE.nA=some (.struct (Tryz.prog.fieldsOf AE.nA)):=aw
theorem ER:Tryz.prog.underlying EP=some (.struct (Tryz.prog.fieldsOf EP)):=aw
section
variable {H:Type} {enc:aH×U->H} {W:au} {r:Reach} {cX:Nat} {base:Nat} {nZ:Nat->Bool} {n0:Bool} {v:U} {d:DataW H} {p:List MemPlace}
theorem mX {P:aQ} {t ty off k i n:Nat} {cs:List U} {x:DataW H×List MemPlace} (hu:P.underlying t=some (.struct (P.fieldsOf t))) (aP:((P.fieldsOf t)[i]?).map (λf=>(f.type,f.offset))=some (ty,off)) (ag:P.cellsOf ty=k)
  (h:DataW.trod enc P W base nZ n0 n t cs=some x):∃m y,DataW.trod enc P W base nZ n0 m ty ((cs.drop off).take k)=some y/\∀l,x.1= .agg l->l[i]? =some y.1:=by
 obtain⟨xs,m,_,ex,hlen,AY,nt⟩:=DataW.trod_struct hu h;rw[wL] at aP;obtain⟨hz,h1,ae⟩:=aP;cases ae;have cn:=nt i hz h1;have b8:i<xs.length:=by rw[AY];exact(Array.getElem?_eq_some_iff.1 h1).1
 rw[ag,fP b8] at cn;refine⟨m,_,cn,λl hl=> ?_⟩;rw[ex] at hl;injection hl with hl;rw[<-hl,List.getElem?_map,fP b8];rfl
theorem TZ (s:ByteArray):Value.string s=AE.cp s.data.toList:=by cases s;rfl
theorem adX {n:Nat} {cs:List U} {x:DataW H×List MemPlace} (h:DataW.trod enc Tryz.prog W base nZ n0 n EP cs=some x):cs.length=4:=by
 obtain⟨_,_,_,_,hlen,_,_⟩:=DataW.trod_struct ER h;rw[hlen,TY]
theorem Ij {n:Nat} {cs:List U} {x:DataW H×List MemPlace} {s:List UInt8} {a b c:Bool} (h:DataW.trod enc Tryz.prog W base nZ n0 n EP cs=some x) (ak:x.1= .agg [.lit (.string s),.lit (.bool a),.lit (.bool b),.lit (.bool c)]):
  cs=[AE.cp s,.bool a,.bool b,.bool c]:=by
 have hlen:=adX h;obtain⟨_,D2,aJ,j4⟩:=mX (i:=0) (ty:=9) (off:=0) ER aw TX h;obtain⟨_,xi,h1,g1⟩:=mX (i:=1) (ty:=4) (off:=1) ER aw y2 h;obtain⟨_,Ez,ae,g2⟩:=mX (i:=2) (ty:=4) (off:=2) ER aw y2 h;obtain⟨_,T0,ay,g3⟩:=mX (i:=3) (ty:=4) (off:=3) ER aw y2 h;obtain⟨a6,bk,rfl,_⟩:=DataW.trod_string Tryz.underlying9 aJ;obtain⟨s1,e1,rfl⟩:=DataW.trod_bool Tryz.underlying4 h1;obtain⟨s2,e2,rfl⟩:=DataW.trod_bool Tryz.underlying4 ae;obtain⟨rf,dH,rfl⟩:=DataW.trod_bool Tryz.underlying4 ay;have d':=j4 _ ak;have cV:=g1 _ ak;have df:=g2 _ ak;have qo:=g3 _ ak;simp only [List.getElem?_cons_zero,List.getElem?_cons_succ,cx,DataW.lit.injEq,Lit.string.injEq,Lit.bool.injEq] at d' cV df qo;subst d' cV df qo
 match cs,hlen,bk,e1,e2,dH with
 |[dc,ez,c2,c3],_,bk,e1,e2,dH=>
  simp only [List.drop_zero,List.drop_succ_cons,List.take_succ_cons,List.take_zero,List.cons.injEq,and_true] at bk e1 e2 dH;rw[bk,e1,e2,dH,TZ]
theorem adY {n:Nat} {cs:List U} {x:DataW H×List MemPlace} (h:DataW.trod enc Tryz.prog W base nZ n0 n AE.nA cs=some x):∃s:AE.cr,cs=AE.hA s:=by
 have hlen:cs.length=8:=by
  obtain⟨_,_,_,_,hlen,_,_⟩:=DataW.trod_struct AX h;rw[hlen,TW]
 obtain⟨_,D2,aJ,_⟩:=mX (i:=0) (ty:=9) (off:=0) AX aw TX h;obtain⟨_,xi,h1,_⟩:=mX (i:=1) (ty:=4) (off:=1) AX aw y2 h;obtain⟨_,Ez,ae,_⟩:=mX (i:=2) (ty:=4) (off:=2) AX aw y2 h;obtain⟨_,T0,ay,_⟩:=mX (i:=3) (ty:=4) (off:=3) AX aw y2 h;obtain⟨_,alp,bE,_⟩:=mX (i:=4) (ty:=3) (off:=4) AX aw y1 h;obtain⟨_,alq,cn,_⟩:=mX (i:=5) (ty:=64) (off:=5) AX aw adV h;obtain⟨a6,bk,_⟩:=DataW.trod_string Tryz.underlying9 aJ;obtain⟨s1,e1,_⟩:=DataW.trod_bool Tryz.underlying4 h1;obtain⟨s2,e2,_⟩:=DataW.trod_bool Tryz.underlying4 ae;obtain⟨rf,dH,_⟩:=DataW.trod_bool Tryz.underlying4 ay;obtain⟨AZ,jD,_⟩:=DataW.trod_int Tryz.underlying3 bE;obtain⟨xs,m,_,_,rb,AY,aP⟩:=DataW.trod_array Tryz.underlying64 cn;have af:∀i,i<3->∃z:Int,(((cs.drop 5).take 3).drop i).take 1=[.int .i64 z]:=λi ay=>by
  have cy:=aP i ay;rw[y1,Nat.mul_one,fP (show i<xs.length by omega)] at cy;obtain⟨z,e,_⟩:=DataW.trod_int Tryz.underlying3 cy;exact⟨z,e⟩
 obtain⟨z0,f0⟩:=af 0 ao;obtain⟨xo,f1⟩:=af 1 ao;obtain⟨z2,f2⟩:=af 2 ao
 match cs,hlen,bk,e1,e2,dH,jD,f0,f1,f2 with
 |[dc,ez,c2,c3,p8,EC,HW,HX],_,bk,e1,e2,dH,jD,f0,f1,f2=>
  simp only [List.drop_zero,List.drop_succ_cons,List.take_succ_cons,List.take_zero,List.cons.injEq,and_true] at bk e1 e2 dH jD f0 f1 f2;exact⟨(a6.data.toList,s1,s2,rf,AZ,z0,xo,z2),by rw[bk,e1,e2,dH,jD,f0,f1,f2,TZ];rfl⟩
theorem adZ (aC:Value.okWide Tryz.prog W r cX 29 v) (h:DataW.Trod enc Tryz.prog W base nZ n0 29 v d p):∃l:List AE.cr,AE.b7 (AE.aG W) 8 AE.hA v l:=by
 obtain⟨a0,A0,A1,rfl⟩:=okWide_slice Tryz.underlying29 aC;obtain⟨bb,h⟩:=h;rcases Deep.open_slice Tryz.underlying29 h with ⟨gv,_⟩|⟨a,len,cap,m,n,y3,iI,gv,ad,hl,hm,rW,ak,af⟩
 ·have e:Value.slice a0 A0 A1= .slice none 0 0:=(List.cons.inj (show [Value.slice a0 A0 A1]=[.slice none 0 0] from gv)).1
  rw[e];exact⟨[],.nil _ _⟩
 ·have e:Value.slice a0 A0 A1= .slice (some a) len cap:=(List.cons.inj (show [Value.slice a0 A0 A1]=[.slice (some a) len cap] from gv)).1
  rw[e];have q6:len<=m:=by rw[rW];split<;>omega
  have A2:∀i,i<len->∃s:AE.cr,∀j u,(AE.hA s)[j]? =some u->W.cell? (a.add (i*8+j))=some u:=λi oC=>by
   obtain⟨cs',al,aI⟩:=af i ao;rw[TW] at al;obtain⟨s,rfl⟩:=adY aI;obtain⟨_,_,CG⟩:=World.cells?_some al;refine⟨s,λj u hj=> ?_⟩;have MU:j<8:=(List.getElem?_eq_some_iff.1 hj).1;rw[<-Deep.add_add,CG j MU];exact hj
  let f:Nat->AE.cr:=λi=>if h:i<len then (A2 i h).choose else default
  have aP:∀i,i<len->∀j u,(AE.hA (f i))[j]? =some u->W.cell? (a.add (i*8+j))=some u:=λi oC=>by
   show ∀j u,(AE.hA (if h:i<len then (A2 i h).choose else default))[j]? =some u->_;rw[dif_pos oC];exact(A2 i oC).choose_spec
  refine⟨(List.range len).map f,?_⟩;rcases Nat.eq_zero_or_pos len with aJ|aJ
  ·subst aJ
   exact .nil _ _
  ·have mC:=aP 0 aJ 0 _ rfl
   obtain⟨bf,off,spot⟩:=a;have MV:∃cs ty fr,W.heap[bf]? =some (.cells cs ty fr)/\spot=none:=by
    unfold World.cell? at mC;split at mC
    ·rename_i ez t1 f1 lo
     split at mC
     ·cases mC
     ·rename_i tw
      refine⟨ez,t1,f1,lo,?_⟩;cases spot with
      |none=>rfl
      |some x=>exact absurd rfl tw
    ·cases mC
   obtain⟨cs,ty,fr,jt,rfl⟩:=MV;have hlen:((List.range len).map f).length=len:=by simp
   have key:AE.b7 (AE.aG W) 8 AE.hA (.slice (some ⟨bf,off,none⟩) ((List.range len).map f).length cap) ((List.range len).map f):=by
    refine .mk (cs:=cs) (ty:=ty) (fr:=fr) jt (by rw[hlen];exact hl) λi x ak j u hj=> ?_
    have oC:i<len:=by
     have:=(List.getElem?_eq_some_iff.1 ak).1
     rwa [hlen] at this
    have MW:x=f i:=by
     rw[List.getElem?_map,List.getElem?_range oC] at ak;exact(Option.some.inj ak).symm
    subst MW;have:=aP i oC j u hj;rw[AE.Addr.jZ,cell_of_row W _ _ _ _ _ jt,<-Nat.add_assoc] at this;exact this
   rw[hlen] at key;exact key
end
theorem ad0 {W:au} {l:List (String×DataW Unit)} (h:laidMetH Tryz.prog l W) (hl:(l.filter λx=>x.1== "voxel/material.kinds")=[("voxel/material.kinds",Rows.laid_voxel_material_kinds)]):AE.ly (AE.aG W):=by
 have h1:=laidMetH.filter (λx=>x.1== "voxel/material.kinds") h;rw[hl,MakeChecks.laidMetH_plain _ _ _ aw] at h1;obtain⟨ps,⟨g,t,cs,bb,p,q,az,aI,aC,a_,_,_⟩,_,_⟩:=h1;obtain rfl:=Option.some.inj ((show Tryz.prog.globalNamed "voxel/material.kinds"=some 0 by kernel_rfl).symm.trans az);obtain rfl:=Option.some.inj ((show (Tryz.prog.globals[0]?).map (·.type)=some 168 by kernel_rfl).symm.trans aI);obtain⟨xs,m,_,ex,hlen,AY,aP⟩:=DataW.trod_array Tryz.underlying168 a_;rw[adW] at hlen
 match xs,AY with
 |[jg,gA,k_,l9],_=>
  have dH:=DataW.agg.inj (Prod.mk.inj ex).1;simp only [List.map_cons,List.map_nil,List.cons.injEq,and_true] at dH;obtain⟨j4,g1,g2,g3⟩:=dH;have d':=aP 0 ao;have cV:=aP 1 ao;have df:=aP 2 ao;have qo:=aP 3 ao;rw[TY] at d' cV df qo;have bk:=Ij d' j4.symm;have e1:=Ij cV g1.symm;have e2:=Ij df g2.symm;have dH:=Ij qo g3.symm;have gv:cs.toList=AE.Ii:=by
   match cs.toList,hlen,bk,e1,e2,dH with
   |[a0,dD,ej,a3,a4,Ks,Ry,Rz,alr,a9,aa,ab,ac,gB,als,alu],_,bk,e1,e2,dH=>
    simp only [Nat.zero_mul,Nat.one_mul,Nat.reduceMul,List.drop_zero,List.drop_succ_cons,List.take_succ_cons,List.take_zero,List.cons.injEq,and_true] at bk e1 e2 dH;obtain⟨rfl,rfl,rfl,rfl⟩:=bk;obtain⟨rfl,rfl,rfl,rfl⟩:=e1;obtain⟨rfl,rfl,rfl,rfl⟩:=e2;obtain⟨rfl,rfl,rfl,rfl⟩:=dH;rfl
  unfold World.var? at aC;rw[az] at aC;simp only [Option.bind_some] at aC;split at aC
  ·rename_i cs' ty fr ad
   cases aC;refine⟨ty,fr,?_⟩;show W.heap[0]? =_;rw[ad,<-gv]
  ·cases aC
end
end Go.Proofs.YtepcfjbfkedlpaaGreatDoor
namespace Go.Proofs.YtepcfjbfkedlpaaGreatDoor
open Go Go.RowKit
namespace AE
def rl:Nat->List hn->List MapEntry
 |_,[]=>[]
 |i,n::r=>{key:=cp n,val:= .bool true,born:=i}::rl (i+1) r
theorem T1:∀(i:Nat) (l:List hn) (n:hn),rl i (l++[n])=rl i l++[{key:=cp n,val:= .bool true,born:=i+l.length}]
 |i,[],n=>by simp [rl]
 |i,x::r,n=>by
  simp only [List.cons_append,rl,T1 (i+1) r n,List.length_cons];rw[show i+1+r.length=i+(r.length+1) by omega]
def tz (B:Nat) (M:Mem) (v:U) (ns:List hn):Prop:=∃b,v= .map (some b)/\B<=b/\M b=some (.map ⟨rl 0 ns⟩ ns.length)
def MX:U->Option Nat
 | .map b=>b
 |_=>none
theorem tz.known {B:Nat} {M:Mem} {v:U} {ns:List hn} (h:tz B M v ns):∀i,some i=MX v->M i≠none/\B<=i:=by
 obtain⟨b,rfl,h1,ae⟩:=h;intro i af;cases af;exact⟨by rw[ae];simp,h1⟩
theorem T2 (a b:hn):Instr.sameNow .string (cp a) (cp b)=some (decide (a=b)):=by
 show some ((⟨a.toArray⟩:ByteArray)==⟨b.toArray⟩)=_;congr 1;rw[Bool.eq_iff_iff];show (a.toArray==b.toArray)=true↔_;simp
theorem T3 {n:hn}:∀{ns:List hn} (i j:Nat),n∈ns->∃q,Instr.findNow .string (cp n) (rl i ns) j=some (some (q,.bool true))
 |[],_,_,h=>by cases h
 |x::r,i,j,h=>by
  unfold rl Instr.findNow;simp only [T2];by_cases ak:n=x
  ·rw[gU ak]
   exact⟨j,rfl⟩
  ·rw[di ak]
   exact T3 (i+1) (j+1) ((List.mem_cons.1 h).resolve_left ak)
theorem T4 {n:hn}:∀{ns:List hn} (i j:Nat),n∉ns->Instr.findNow .string (cp n) (rl i ns) j=some none
 |[],_,_,_=>rfl
 |x::r,i,j,h=>by
  unfold rl Instr.findNow;simp only [T2];rw[di (λe=>h (by rw[e];exact List.mem_cons_self))];exact T4 (i+1) (j+1) λeW=>h (List.mem_cons_of_mem _ eW)
section
variable {P:aQ} {eR:aH} {n:hn} {ns:List hn}
theorem ad1 (ag:a7 P (underlying eR)=some .string) (h:n∈ns) (w:au):∃q,(Instr.findKey eR (cp n) (rl 0 ns)).run P w= .ok (some (q,.bool true)) w:=by
 obtain⟨q,a1⟩:=T3 (ns:=ns) 0 0 h;refine⟨q,?_⟩;unfold Instr.findKey;refine cK ag ?_;rw[a1];rfl
theorem T5 (ag:a7 P (underlying eR)=some .string) (h:n∉ns) (w:au):(Instr.findKey eR (cp n) (rl 0 ns)).run P w= .ok none w:=by
 have a1:=T4 (ns:=ns) 0 0 h;unfold Instr.findKey;refine cK ag ?_;rw[a1];rfl
variable [aY]
theorem aR.ad2 {t uG:aH} {x i:U} {u:U} {B:Nat} (ak:aM x=true) (af:aM i=true) (aI:a7 P (underlying t)=some (.map eR uG)) (ag:a7 P (underlying eR)=some .string) (mv:∀b n,a7 P (Instr.checkKey b 10000 eR (cp n))=some ()) (cm:tz B aY.dg u ns)
  (ex:aK x=u) (gj:aK i=cp n) (h:n∈ns):aR P (.mw t x i false,.bool true):=by
 obtain⟨b,rfl,_,ad⟩:=cm;refine CD (by simp [nv,ak,af]) J J λdO dP w hw=> ?_
 show (fI dO dP (.mw t (aK x) (aK i) false)).run P w=_;obtain⟨q,a1⟩:=ad1 (P:=P) ag h w;have:=Hh (P:=P) (w:=w) (z:=undef) (ok:=false) (.inr ⟨b,ns.length,rfl,hw _ _ ad⟩) aI (mv _ n) a1 (λh=>by cases h);rw[ex,gj];unfold fI;simp only [Sem.run_bind,this,Result.andThen_ok];rfl
theorem aR.ad3 {t uG:aH} {x i:U} {u:U} {B:Nat} (ak:aM x=true) (af:aM i=true) (aI:a7 P (underlying t)=some (.map eR uG)) (ag:a7 P (underlying eR)=some .string) (bG:a7 P (zeroValue uG)=some (.bool false)) (mv:∀b n,a7 P (Instr.checkKey b 10000 eR (cp n))=some ()) (cm:tz B aY.dg u ns)
  (ex:aK x=u) (gj:aK i=cp n) (h:n∉ns):aR P (.mw t x i false,.bool false):=by
 obtain⟨b,rfl,_,ad⟩:=cm;refine CD (by simp [nv,ak,af]) J J λdO dP w hw=> ?_
 show (fI dO dP (.mw t (aK x) (aK i) false)).run P w=_;have:=Hh (P:=P) (w:=w) (z:= .bool false) (ok:=false) (.inr ⟨b,ns.length,rfl,hw _ _ ad⟩) aI (mv _ n) (T5 (P:=P) ag h w) (λ_=>bG);rw[ex,gj];unfold fI;simp only [Sem.run_bind,this,Result.andThen_ok];rfl
end
def CH:Option bP->Option aH
 |some (.oper o _ ops s _)=>match o.op with
  | .makeMap t none=>match qf ops o s.sl with
    |some true=>some t
    |_=>none
  |_=>none
 |_=>none
theorem ad4 [cI] {P:aQ} {N B:Nat} {w0:au} {Q:Exit->Act->au->Prop} {M:Mem} {bh:List U} {o:Option bP} {t:aH} {ec:U} {bx:Nat->List U} {dM dF:aT} {aU:List bM} {bH:ev} {ns:List hn}
  (fa:ns=[]) (h:CH o=some t) (c1:dy (cW o) dM aU=some bH) (eg:gy N dM (iT o) ec=some dF) (fF:aM ec=true)
  (hm:∀M' g,fm (aX M bh) (aX M' (bx g)) bH) (aC:∀M' g,@aK (aX M' (bx g)) ec= .map (some g))
  (rest:∀M' g,tz B M' (.map (some g)) ns->g_ M M' none->∀aS w,@Here (aX M' (bx g)) _ N {sl:=dF,ms:=[],A:=eJ aU} B w0 aS w->wpListIn (Fr none) 0 P (jS o) (dS P (gX o) Q) (jR o) aS w)
  (aq:cI.dt<=aU.length:=by first|exact Nat.zero_le _|exact hJ rfl) (al:ic (cW o).A aU 0:=by exact f_ rfl): @e0 (aX M bh) _ P N B w0 Q o:=by
 subst fa;letI:=aX M bh;unfold CH at h;split at h
 ·rename_i op r ops s ks
  refine⟨_,rfl,λa w ai=> ?_⟩;split at h
  ·rename_i da cj
   split at h
   ·rename_i iv
    cases h;have fT:=ai;obtain⟨⟨φ,ds,h1,ae,ay,bE,_⟩,cn,cy⟩:=ai;unfold wpListIn;rw[nx ae.get iv,aN rfl];have hw:∀i o,M i=some o->w.heap[i]? =some o:=fT.mz
    let w':au:={w with heap:=w.heap.push (.map #[] 0)}
    have eQ:(execOp a.eval op).run P w= .ok (.value (.map (some w.heap.size))) w':=by
     unfold execOp;rw[cj];rfl
    have ff:∀c',op.op≠.defer c':=λc' h=>by rw[cj] at h;cases h
    refine⟨λ_ _=>trivial,?_⟩;rw[Oper.semAt_eq _ _ _ ff,eQ,Oper.uponIn_value];obtain⟨q1,aE⟩:=oA (B:=B) (M:=M) (w:=w) (w':=w') (T:=none) (dQ:=some w.heap.size) hw (λi h=>by cases h) (λi af=> .inr (by cases af;exact bY _)) ⟨rfl,rfl,rfl⟩ (bY _) (by simp [w']) (λi af _=>by
     show (w.heap.push _)[i]? =_
     rw[Array.getElem?_push,aO ao])
    have cm:tz B (gk M w' none (some w.heap.size)) (.map (some w.heap.size)) []:=by
     refine⟨_,rfl,cy,?_⟩;unfold gk;rw[aN rfl];show (w.heap.push _)[w.heap.size]? =_;rw[Array.getElem?_push,aN rfl];rfl
    have gN:=Here.turns (vals':=bx w.heap.size) c1 (hm _ _) q1 aq al fT;letI:=aX (gk M w' none (some w.heap.size)) (bx w.heap.size);have kd:=Here.put (d:=op.dst) gN (v:=ec) fF eg;rw[aC] at kd;exact rest _ _ cm aE _ w' kd
   ·cases h
  ·cases h
 ·cases h
def CI:Option bP->Option (aH×U×U×U)
 |some (.oper o _ ops s _)=>match o.op with
  | .mapUpdate t m k x=>match qf ops o s.sl with
    |some true=>some (t,ea .nil s.sl m,ea .nil s.sl k,ea .nil s.sl x)
    |_=>none
  |_=>none
 |_=>none
theorem ad5 [cI] {P:aQ} {N B:Nat} {w0:au} {Q:Exit->Act->au->Prop} {M:Mem} {bh bx:List U} {o:Option bP} {t eR uG:aH} {m k u:U} {n:hn} {ns ns':List hn} {dM dF:aT} {aU:List bM} {bH:ev}
  (fa:ns'=ns++[n]) (h:CI o=some (t,m,k,.bool true)) (aI:a7 P (underlying t)=some (.map eR uG)) (ag:a7 P (underlying eR)=some .string) (mv:∀b n,a7 P (Instr.checkKey b 10000 eR (cp n))=some ())
  (c1:dy (cW o) dM aU=some bH) (eg:gy N dM (iT o) undef=some dF) (hp:aM m=true) (ak:aM k=true) (em: @aK (aX M bh) m=u) (ES: @aK (aX M bh) k=cp n)
  (cm:tz B M u ns) (fN:n∉ns) (hm:∀M',fm (aX M bh) (aX M' bx) bH)
  (rest:∀M',tz B M' u ns'->g_ M M' (MX u)->∀aS w,@Here (aX M' bx) _ N {sl:=dF,ms:=[],A:=eJ aU} B w0 aS w->wpListIn (Fr none) 0 P (jS o) (dS P (gX o) Q) (jR o) aS w)
  (aq:cI.dt<=aU.length:=by first|exact Nat.zero_le _|exact hJ rfl) (al:ic (cW o).A aU 0:=by exact f_ rfl): @e0 (aX M bh) _ P N B w0 Q o:=by
 subst fa;letI:=aX M bh;unfold CI at h;split at h
 ·rename_i op r ops s ks
  refine⟨_,rfl,λa w ai=> ?_⟩;split at h
  ·rename_i da ET o6 ga cj
   split at h
   ·rename_i iv
    simp only [cx,Prod.mk.injEq] at h;obtain⟨rfl,rfl,rfl,jD⟩:=h;have fT:=ai;obtain⟨⟨φ,ds,h1,ae,ay,bE,_⟩,cn,cy⟩:=ai;unfold wpListIn;rw[nx ae.get iv,aN rfl];have es:a.eval ET=u:=(aD.iq _ hp (gg (hX φ) ae.get ET)).trans em;have mV:a.eval o6=cp n:=(aD.iq _ ak (gg (hX φ) ae.get o6)).trans ES;have MY:a.eval ga= .bool true:=by
     have zX:=gg (hX φ) ae.get ga;rw[jD] at zX;exact aD.iq _ rfl zX
    have hw:∀i o,M i=some o->w.heap[i]? =some o:=fT.mz;obtain⟨b,rfl,dI,ad⟩:=cm;have az:=hw _ _ ad
    let o':Obj:= .map ⟨rl 0 (ns++[n])⟩ (ns++[n]).length
    let w':au:={w with heap:=w.heap.setIfInBounds b o'}
    have fq:Obj.map ((⟨rl 0 ns⟩:Array MapEntry).push {key:=cp n,val:= .bool true,born:=ns.length}) (ns.length+1)=o':=by
     show _=Obj.map _ _;rw[T1,List.length_append,Nat.zero_add];simp
    have eQ:(execOp a.eval op).run P w= .ok .skip w':=by
     unfold execOp;rw[cj];simp only [es,mV,MY];show (do Instr.mapUpdate da (.map (some b)) (cp n) (.bool true);pure Next.skip:Sem Next).run P w=_;have cB:(Instr.mapUpdate da (.map (some b)) (cp n) (.bool true)).run P w= .ok () w':=by
      unfold Instr.mapUpdate;refine cK aI ?_;simp only;refine c8 (p_ az (by simp)) ?_;simp only;refine cK (mv _ n) ?_;refine c8 (T5 ag fN w) ?_;simp only;rw[fq];exact vC az (by simp)
     simp only [Sem.run_bind,cB,Result.andThen_ok];rfl
    have ff:∀c',op.op≠.defer c':=λc' h=>by rw[cj] at h;cases h
    refine⟨λ_ _=>trivial,?_⟩;rw[Oper.semAt_eq _ _ _ ff,eQ,Oper.uponIn_skip];have MZ:b<w.heap.size:=(Array.getElem?_eq_some_iff.1 az).1;obtain⟨q1,aE⟩:=oA (B:=B) (M:=M) (w:=w) (w':=w') (T:=some b) (dQ:=some b) hw (λi af=>by cases af;exact⟨by rw[ad];simp,dI⟩) (λi af=> .inl af) ⟨rfl,rfl,rfl⟩ (bY _) (by simp [w']) (λi af cC=>by
     show (w.heap.setIfInBounds b o')[i]? =_
     rw[Array.getElem?_setIfInBounds,aO (λe=>cC (by rw[e]))])
    have cm:tz B (gk M w' (some b) (some b)) (.map (some b)) (ns++[n]):=by
     refine⟨_,rfl,dI,?_⟩;unfold gk;rw[aN rfl];show (w.heap.setIfInBounds b o')[b]? =_;rw[Array.getElem?_setIfInBounds,aN rfl,aN MZ]
    have gN:=Here.turns (vals':=bx) c1 (hm _) q1 aq al fT;letI:=aX (gk M w' (some b) (some b)) bx;exact rest _ cm aE _ w' (Here.put (d:=op.dst) gN (v:=undef) rfl eg)
   ·cases h
  ·cases h
 ·cases h
theorem g_.map {B:Nat} {M M':Mem} {T:Option Nat} {v:U} {l:List hn} (ag:g_ M M' T) (h:tz B M v l) (cC:∀i,some i=MX v->some i≠T):tz B M' v l:=by
 obtain⟨b,rfl,h1,ae⟩:=h;exact⟨b,rfl,h1,ag _ _ ae (cC b rfl)⟩
end AE
namespace AE
def rm (P:aQ) [Lib P] (o:Option bP):FuncId×List U×aW:=(uE P o).getD (0,[],start)
end AE
namespace AE
structure CJ (B:Nat) (M M':Mem) (S:Nat->Prop) (w w':au):Prop where
 known:∀i,S i->M i≠none/\B<=i
 os:w'.os=w.os
 tape:w'.tape=w.tape
 output:w'.output=w.output
 size:w.heap.size<=w'.heap.size
 block:∀i,i<w.heap.size->¬S i->w'.heap[i]? =w.heap[i]?
 dg:∀i o,M' i=some o->w'.heap[i]? =some o/\(M i≠none\/w.heap.size<=i\/i<B)
def A3 (M M':Mem) (S:Nat->Prop):Prop:=∀i o,M i=some o->¬S i->M' i=some o
theorem A3.up {B:Nat} {W:au} {M M':Mem} {S:Nat->Prop} (ag:A3 M M' S) (dI:∀i,S i->B<=i) (ade:W.heap.size<=B) (bj:∀i o,aG W i=some o->M i=some o):∀i o,aG W i=some o->M' i=some o:=λi o h=>
 ag i o (bj i o h) λaf=>by
  have h1:=dI i af;have ae:=(Array.getElem?_eq_some_iff.1 (show W.heap[i]? =some o from h)).1;omega
theorem A3.own {α:Type} {B:Nat} {M M':Mem} {S:Nat->Prop} {e:aH} {k:Nat} {enc:α->List U} {v:U} {l:List α} (ag:A3 M M' S) (h:dJ B M e k enc v l) (cC:∀i,some i=eF v->¬S i):dJ B M' e k enc v l:=
 h.mono (bY _) λi af o ho=>ag i o ho (cC i af)
theorem Here.T6 [cI] {M M':Mem} {bh vals':List U} {S:Nat->Prop} {N B:Nat} {st:b6} {w0 w w':au} {a:Act} {sl:aT} {l:List bM} {bH:ev} (c1:dy st sl l=some bH) (hm:fm (aX M bh) (aX M' vals') bH) (aI:CJ B M M' S w w') (aq:cI.dt<=l.length) (al:ic st.A l 0)
  (ai: @Here (aX M bh) _ N st B w0 a w): @Here (aX M' vals') _ N {sl,ms:=[],A:=eJ l} B w0 a w':=
 Here.AK S c1 hm (λi af=>aI.known i af) ⟨aI.os,aI.tape,aI.output,bY _⟩ aI.size (λi af aC=>aI.block i af aC) (λi o af=>aI.dg i o af) aq al ai
def xp (B:Nat) (M:Mem) (w w':au):Mem:=λi=>if (M i).isSome=true\/w.heap.size<=i\/i<B then w'.heap[i]? else none
theorem M0 {B:Nat} {M:Mem} {w w':au} {i:Nat} (h:(M i).isSome=true\/w.heap.size<=i\/i<B):xp B M w w' i=w'.heap[i]? :=by unfold xp;rw[aN h]
theorem T7 {B:Nat} {M:Mem} {S:Nat->Prop} {w w':au} (hw:∀i o,M i=some o->w.heap[i]? =some o) (aA:∀i,S i->M i≠none/\B<=i) (tt:w'.os=w.os/\w'.tape=w.tape/\w'.output=w.output) (cb:w.heap.size<=w'.heap.size)
  (ad:∀i,i<w.heap.size->¬S i->w'.heap[i]? =w.heap[i]?):CJ B M (xp B M w w') S w w'/\A3 M (xp B M w w') S:=by
 refine⟨⟨aA,tt.1,tt.2.1,tt.2.2,cb,ad,λi o af=> ?_⟩,λi o af aC=> ?_⟩
 ·unfold xp at af
  split at af
  ·rename_i h
   refine⟨af,?_⟩;rcases h with h|h|h
   ·exact .inl λae=>by rw[ae] at h;cases h
   ·exact .inr (.inl h)
   ·exact .inr (.inr h)
  ·cases af
 ·rw[M0 (.inl (by rw[af];rfl)),ad i (Array.getElem?_eq_some_iff.1 (hw i o af)).1 aC]
  exact hw i o af
theorem y4 {M:Mem} {w:au} (hw:∀i o,M i=some o->w.heap[i]? =some o) {i:Nat} (h:w.heap.size<=i):M i=none:=by
 cases af:M i with
 |none=>rfl
 |some o=>
  have:=(Array.getElem?_eq_some_iff.1 (hw i o af)).1;omega
theorem iV [aY] {P:aQ} (n:Int):aR P (.eo (.int .i64 n),.int .i64 n):=
 EK J J J λ_ _ _=>rfl
def EU:Option bP->Option aH
 |some (.oper o _ ops s _)=>match o.op with
  | .alloc t=>match qf ops o s.sl with
    |some true=>some t
    |_=>none
  |_=>none
 |_=>none
theorem M1 [cI] {P:aQ} {N B:Nat} {w0:au} {Q:Exit->Act->au->Prop} {M:Mem} {bh:List U} {o:Option bP} {t:aH} {z ec:U} {bx:Nat->List U} {dM dF:aT} {aU:List bM} {bH:ev}
  (h:EU o=some t) (bG:a7 P (zeroValue t)=some z) (c1:dy (cW o) dM aU=some bH) (eg:gy N dM (iT o) ec=some dF) (fF:aM ec=true)
  (hm:∀M' g,fm (aX M bh) (aX M' (bx g)) bH) (aC:∀M' g,@aK (aX M' (bx g)) ec= .pointer (some ⟨g,0,none⟩))
  (rest:∀M' g,B<=g->M g=none->M' g=some (.cells z.cells t (0,0))->g_ M M' none->∀aS w,@Here (aX M' (bx g)) _ N {sl:=dF,ms:=[],A:=eJ aU} B w0 aS w->wpListIn (Fr none) 0 P (jS o) (dS P (gX o) Q) (jR o) aS w)
  (aq:cI.dt<=aU.length:=by first|exact Nat.zero_le _|exact hJ rfl) (al:ic (cW o).A aU 0:=by exact f_ rfl): @e0 (aX M bh) _ P N B w0 Q o:=by
 letI:=aX M bh;unfold EU at h;split at h
 ·rename_i op r ops s ks
  refine⟨_,rfl,λa w ai=> ?_⟩;split at h
  ·rename_i da cj
   split at h
   ·rename_i iv
    cases h;have fT:=ai;obtain⟨⟨φ,ds,h1,ae,ay,bE,_⟩,cn,cy⟩:=ai;unfold wpListIn;rw[nx ae.get iv,aN rfl];have hw:∀i o,M i=some o->w.heap[i]? =some o:=fT.mz
    let w':au:={w with heap:=w.heap.push (.cells z.cells t)}
    have eQ:(execOp a.eval op).run P w= .ok (.value (.pointer (some ⟨w.heap.size,0,none⟩))) w':=by
     unfold execOp;rw[cj];show (do pure (Next.value (<-Instr.alloc t true (.tuple #[]))):Sem Next).run P w=_;have ha:(Instr.alloc t true (.tuple #[])).run P w= .ok (.pointer (some ⟨w.heap.size,0,none⟩)) w':=by
      unfold Instr.alloc;refine cK bG ?_;simp [newVar,newRow,newObj,Sem.run,w']
     simp only [Sem.run_bind,ha,Result.andThen_ok];rfl
    have ff:∀c',op.op≠.defer c':=λc' h=>by rw[cj] at h;cases h
    refine⟨λ_ _=>trivial,?_⟩;rw[Oper.semAt_eq _ _ _ ff,eQ,Oper.uponIn_value];obtain⟨q1,aE⟩:=oA (B:=B) (M:=M) (w:=w) (w':=w') (T:=none) (dQ:=some w.heap.size) hw (λi h=>by cases h) (λi af=> .inr (by cases af;exact bY _)) ⟨rfl,rfl,rfl⟩ (bY _) (by simp [w']) (λi af _=>by
     show (w.heap.push _)[i]? =_
     rw[Array.getElem?_push,aO ao])
    have cm:gk M w' none (some w.heap.size) w.heap.size=some (.cells z.cells t (0,0)):=by
     unfold gk;rw[aN rfl];show (w.heap.push _)[w.heap.size]? =_;rw[Array.getElem?_push,aN rfl]
    have gN:=Here.turns (vals':=bx w.heap.size) c1 (hm _ _) q1 aq al fT;letI:=aX (gk M w' none (some w.heap.size)) (bx w.heap.size);have kd:=Here.put (d:=op.dst) gN (v:=ec) fF eg;rw[aC] at kd;exact rest _ _ cy (y4 hw (bY _)) cm aE _ w' kd
   ·cases h
  ·cases h
 ·cases h
def ke (P:aQ) [Lib P] (o:Option bP):b6:={cW o with A:=(rm P o).2.2}
theorem ad6 [aY] [cI] {P:aQ} [Lib P] {N B:Nat} {w0:au} {Q:Exit->Act->au->Prop} {o:Option bP} {f:FuncId} {args:List U} {R:au->U->au->Prop} (h:(uE P o).isSome=true) (aP:(rm P o).1=f) (ha:(rm P o).2.1=args) (hp:dW args=true)
  (jw:∀a w,Here N (ke P o) B w0 a w->Calls P f ⟨et args⟩ w λe w'=>∃v,e= .returned v/\R w v w')
  (b0:∀a w v w',Here N (ke P o) B w0 a w->R w v w'->wpListIn (Fr none) 0 P (jS o) (dS P (gX o) Q) (jR o) (a.put (iT o) v) w'):e0 P N B w0 Q o:=by
 have a_:=ada (d:=(0,[],start)) h
 change uE P o=some (rm P o) at a_
 generalize he:rm P o=d at a_ aP ha;obtain⟨f0,M3,bt⟩:=d;simp only at aP ha;subst aP ha;have s_:ke P o={cW o with A:=bt}:=by unfold ke;rw[he]
 rw[s_] at jw b0;unfold uE at a_;split at a_
 ·rename_i op r ops s ks
  split at a_
  ·rename_i hw
   split at a_
   ·rename_i iC fM alv ha
    cases a_;refine⟨_,rfl,λa w ai=> ?_⟩;obtain⟨⟨φ,ds,h1,ae,ay,bE,fx⟩,cn,cy⟩:=ai;unfold wpListIn;rw[nx ae.get hw,aN rfl];obtain⟨fY,w1,n,g1,g2,g3⟩:=Sp ay (gg (hX φ) ae.get) ha;refine⟨λ_ _=>trivial,?_⟩;letI:dX P:=⟨[]⟩;have ad7:Ca P (ea .nil s.sl) s.A op=some (.enter f0 M3,bt):=ha;rw[Oper.semAt_eq _ _ _ (Hu ad7),g1];obtain⟨T8,rfl,gf⟩:=g2;rw[Oper.uponIn_enter];refine⟨λh=>absurd h (by simp [Fr,Fence.wide]),?_⟩;obtain⟨cV,df⟩:=Cr bE g3 cy;have ad8:T8=⟨et M3⟩:=by
     obtain⟨q1,aE⟩:=gf;obtain⟨u⟩:=T8;rw[aD.yF M3 u hp (by simpa using q1.symm) (λi af=>by simpa using aE i af)]
    subst ad8;have lP:Here N {cW (some (.oper op r ops s ks)) with A:=bt} B w0 a w1:=⟨⟨fY,ds,h1.mono (g3.ext ay),ae.mono (g3.ext ay),g3.rel,cV,fx.step g3⟩,cn.trans df,Nat.le_trans cy g3.fX⟩;refine CallsIn.mono (D_ (jw a w1 lP)) λe w2 he=> ?_
    obtain⟨v,rfl,hx⟩:=he;exact b0 a w1 v w2 lP hx
   ·cases a_
  ·cases a_
 ·cases a_
theorem ad9 [cI] {P:aQ} [Lib P] {N B:Nat} {w0:au} {Q:Exit->Act->au->Prop} {M:Mem} {bh:List U} {o:Option bP} {f:FuncId} {args:List U} {ec:U} {Y:Type} {bx:Y->List U} {dM dF:aT} {aU:List bM} {bH:ev} {S:Nat->Prop} {R:Y->Mem->Prop}
  (h:(uE P o).isSome=true) (aP:(rm P o).1=f) (ha:(rm P o).2.1=args) (hp:dW args=true) (c1:dy (ke P o) dM aU=some bH) (eg:gy N dM (iT o) ec=some dF) (fF:aM ec=true)
  (jw:∀w,(∀i o,M i=some o->w.heap[i]? =some o)->B<=w.heap.size->Calls P f ⟨@et (aX M bh) args⟩ w λe w'=>∃y M',e= .returned (@aK (aX M' (bx y)) ec)/\R y M'/\CJ B M M' S w w')
  (hm:∀M' y,R y M'->fm (aX M bh) (aX M' (bx y)) bH)
  (rest:∀M' y,R y M'->∀aS w,@Here (aX M' (bx y)) _ N {sl:=dF,ms:=[],A:=eJ aU} B w0 aS w->wpListIn (Fr none) 0 P (jS o) (dS P (gX o) Q) (jR o) aS w)
  (aq:cI.dt<=aU.length:=by first|exact Nat.zero_le _|exact hJ rfl) (al:ic (ke P o).A aU 0:=by exact f_ rfl): @e0 (aX M bh) _ P N B w0 Q o:=by
 letI:=aX M bh;refine ad6 (R:=λw v w'=>∃y M',v= @aK (aX M' (bx y)) ec/\R y M'/\CJ B M M' S w w') h aP ha hp (λa w ai=>(jw w ai.mz ai.size).mono λe w' he=> ?_) λa w v w' ai hx=> ?_
 ·obtain⟨y,M',rfl,h1,ae⟩:=he
  exact⟨_,rfl,y,M',rfl,h1,ae⟩
 ·obtain⟨y,M',rfl,h1,ae⟩:=hx
  have gN:=Here.T6 (vals':=bx y) c1 (hm M' y h1) ae aq al ai;exact rest M' y h1 _ w' (@Here.put (aX M' (bx y)) _ _ _ _ _ _ _ _ _ _ gN fF eg)
end AE
namespace AE
def iJ (B:Nat) (M:Mem) (v:U) (ty:aH) (cs:List U):Prop:=∃g,v= .pointer (some ⟨g,0,none⟩)/\B<=g/\M g=some (.cells ⟨cs⟩ ty (0,0))
theorem iJ.known {B g:Nat} {M:Mem} {ty:aH} {cs:List U} (h:iJ B M (.pointer (some ⟨g,0,none⟩)) ty cs):M g=some (.cells ⟨cs⟩ ty (0,0))/\B<=g:=by
 obtain⟨adQ,e,h1,ae⟩:=h;cases e;exact⟨ae,h1⟩
theorem iJ.ptr {B:Nat} {M:Mem} {v:U} {ty:aH} {cs:List U} (h:iJ B M v ty cs):∃g,v= .pointer (some ⟨g,0,none⟩):=by
 obtain⟨g,e,_⟩:=h;exact⟨g,e⟩
theorem g_.box {B g:Nat} {M M':Mem} {T:Option Nat} {ty:aH} {cs:List U} (ag:g_ M M' T) (h:iJ B M (.pointer (some ⟨g,0,none⟩)) ty cs) (cC:∀i,some i=T->some i≠some g):iJ B M' (.pointer (some ⟨g,0,none⟩)) ty cs:=
 ⟨g,rfl,h.known.2,ag _ _ h.known.1 λe=>cC g e rfl⟩
theorem b7.kept {α:Type} {M M':Mem} {T:Option Nat} {k:Nat} {enc:α->List U} {a:Option Addr} {n c:Nat} {l:List α} (ag:g_ M M' T) (h:b7 M k enc (.slice a n c) l) (cC:∀p,a=some p->some p.block≠T):b7 M' k enc (.slice a n c) l:=by
 cases h with
 |nil a c=>exact .nil a c
 |mk ad al h=>exact .mk (ag _ _ ad (cC _ rfl)) al h
section
variable [aY] {P:aQ}
theorem aR.T9 {B g j:Nat} {ty t:aH} {cs:List U} {p r u:U} (cm:iJ B aY.dg (.pointer (some ⟨g,0,none⟩)) ty cs) (hj:cs[j]? =some u) (hp:aM p=true) (hr:aM r=true) (ha:a7 P (isAgg t)=some false) (lv:aK p= .pointer (some ⟨g,j,none⟩)) (bX:aK r=u):aR P (.bp t p,r):=
 aR.Tr hp hr ha lv (λw hw=>by
  have:=hw _ _ cm.known.1;simp only [World.cell?,this]
  simpa using hj) bX
theorem aR.T' {x r:U} {a:Addr} (ak:aM x=true) (hr:aM r=true) (ex:aK x= .pointer (some a)) (bX:aK r= .pointer (some a)):aR P (.dR x,r):=
 EK (by simpa [nv] using ak) hr rfl λdO dP w=>by
  show (fI dO dP (.dR (aK x))).run P w=_;rw[ex,bX];rfl
theorem aR.T_ {s:aH} {x r:U} {f g o ty off m:Nat} (aP:((P.fieldsOf s)[f]?).map (λf=>(f.type,f.offset))=some (ty,off)) (av:a7 P (underlying s)=some (.struct (P.fieldsOf s))) (hm:a7 P (sizeOf ty)=some m) (aJ:m≠0) (ak:aM x=true) (hr:aM r=true)
  (ex:aK x= .pointer (some ⟨g,o,none⟩)) (bX:aK r= .pointer (some ⟨g,o+off,none⟩)):aR P (.cu s x f,r):=by
 obtain⟨hz,h1,ae⟩:=Option.map_eq_some_iff.1 aP;cases ae;exact aR.cu ak hr av h1 hm aJ ex bX
end
def y5:Option bP->Option (aH×U)
 |some (.oper o _ ops s _)=>match o.op with
  | .box t ga=>match qf ops o s.sl with
    |some true=>some (t,ea .nil s.sl ga)
    |_=>none
  |_=>none
 |_=>none
theorem CK [cI] {P:aQ} {N B:Nat} {w0:au} {Q:Exit->Act->au->Prop} {M:Mem} {bh:List U} {o:Option bP} {t:aH} {x u ec:U} {cs:List U} {bx:Nat->List U} {dM dF:aT} {aU:List bM} {bH:ev}
  (h:y5 o=some (t,x)) (ak:aM x=true) (ex: @aK (aX M bh) x=u) (gv:u.cells=⟨cs⟩) (c1:dy (cW o) dM aU=some bH) (eg:gy N dM (iT o) ec=some dF) (fF:aM ec=true)
  (hm:∀M' g,fm (aX M bh) (aX M' (bx g)) bH) (aC:∀M' g,@aK (aX M' (bx g)) ec= .pointer (some ⟨g,0,none⟩))
  (rest:∀M' g,M g=none->iJ B M' (.pointer (some ⟨g,0,none⟩)) t cs->g_ M M' none->∀aS w,@Here (aX M' (bx g)) _ N {sl:=dF,ms:=[],A:=eJ aU} B w0 aS w->wpListIn (Fr none) 0 P (jS o) (dS P (gX o) Q) (jR o) aS w)
  (aq:cI.dt<=aU.length:=by first|exact Nat.zero_le _|exact hJ rfl) (al:ic (cW o).A aU 0:=by exact f_ rfl): @e0 (aX M bh) _ P N B w0 Q o:=by
 letI:=aX M bh;unfold y5 at h;split at h
 ·rename_i op r ops s ks
  refine⟨_,rfl,λa w ai=> ?_⟩;split at h
  ·rename_i da ga cj
   split at h
   ·rename_i iv
    cases h;have fT:=ai;obtain⟨⟨φ,ds,h1,ae,ay,bE,_⟩,cn,cy⟩:=ai;unfold wpListIn;rw[nx ae.get iv,aN rfl];have mV:a.eval ga=u:=(aD.iq _ ak (gg (hX φ) ae.get ga)).trans ex;have hw:∀i o,M i=some o->w.heap[i]? =some o:=fT.mz
    let w':au:={w with heap:=w.heap.push (.cells ⟨cs⟩ t)}
    have eQ:(execOp a.eval op).run P w= .ok (.value (.pointer (some ⟨w.heap.size,0,none⟩))) w':=by
     unfold execOp;rw[cj];simp only [mV];show (do pure (Next.value (<-Instr.box t u)):Sem Next).run P w=_;have ha:(Instr.box t u).run P w= .ok (.pointer (some ⟨w.heap.size,0,none⟩)) w':=by
      unfold Instr.box newVar newRow;rw[gv];simp [newObj,Sem.run,w']
     simp only [Sem.run_bind,ha,Result.andThen_ok];rfl
    have ff:∀c',op.op≠.defer c':=λc' h=>by rw[cj] at h;cases h
    refine⟨λ_ _=>trivial,?_⟩;rw[Oper.semAt_eq _ _ _ ff,eQ,Oper.uponIn_value];obtain⟨q1,aE⟩:=oA (B:=B) (M:=M) (w:=w) (w':=w') (T:=none) (dQ:=some w.heap.size) hw (λi h=>by cases h) (λi af=> .inr (by cases af;exact bY _)) ⟨rfl,rfl,rfl⟩ (bY _) (by simp [w']) (λi af _=>by
     show (w.heap.push _)[i]? =_
     rw[Array.getElem?_push,aO ao])
    have cm:iJ B (gk M w' none (some w.heap.size)) (.pointer (some ⟨w.heap.size,0,none⟩)) t cs:=by
     refine⟨_,rfl,cy,?_⟩;unfold gk;rw[aN rfl];show (w.heap.push _)[w.heap.size]? =_;rw[Array.getElem?_push,aN rfl]
    have gN:=Here.turns (vals':=bx w.heap.size) c1 (hm _ _) q1 aq al fT;letI:=aX (gk M w' none (some w.heap.size)) (bx w.heap.size);have kd:=Here.put (d:=op.dst) gN (v:=ec) fF eg;rw[aC] at kd;exact rest _ _ (y4 hw (bY _)) cm aE _ w' kd
   ·cases h
  ·cases h
 ·cases h
theorem Ua [cI] {P:aQ} {N B:Nat} {w0:au} {Q:Exit->Act->au->Prop} {M:Mem} {bh bx:List U} {o:Option bP} {t ty:aH} {g j:Nat} {p x u:U} {cs cs':List U} {dM dF:aT} {aU:List bM} {bH:ev}
  (fa:cs'=cs.set j u) (h:nY o=some (t,p,x)) (cb:a7 P (sizeOf t)=some 1)
  (c1:dy (cW o) dM aU=some bH) (eg:gy N dM (iT o) undef=some dF) (hp:aM p=true) (ak:aM x=true) (lv: @aK (aX M bh) p= .pointer (some ⟨g,j,none⟩)) (ex: @aK (aX M bh) x=u) (hu:u.cells= #[u]) (jL:u.oneCell'=true)
  (cm:iJ B M (.pointer (some ⟨g,0,none⟩)) ty cs) (hj:j<cs.length) (hm:∀M',fm (aX M bh) (aX M' bx) bH)
  (rest:∀M',iJ B M' (.pointer (some ⟨g,0,none⟩)) ty cs'->g_ M M' (some g)->∀aS w,@Here (aX M' bx) _ N {sl:=dF,ms:=[],A:=eJ aU} B w0 aS w->wpListIn (Fr none) 0 P (jS o) (dS P (gX o) Q) (jR o) aS w)
  (aq:cI.dt<=aU.length:=by first|exact Nat.zero_le _|exact hJ rfl) (al:ic (cW o).A aU 0:=by exact f_ rfl): @e0 (aX M bh) _ P N B w0 Q o:=by
 subst fa;letI:=aX M bh;unfold nY at h;split at h
 ·rename_i op r ops s ks
  refine⟨_,rfl,λa w ai=> ?_⟩;split at h
  ·rename_i da nz ga cj
   split at h
   ·rename_i iv
    cases h;have fT:=ai;obtain⟨⟨φ,ds,h1,ae,ay,bE,_⟩,cn,cy⟩:=ai;unfold wpListIn;rw[nx ae.get iv,aN rfl];have es:a.eval nz= .pointer (some ⟨g,j,none⟩):=(aD.iq _ hp (gg (hX φ) ae.get nz)).trans lv;have mV:a.eval ga=u:=(aD.iq _ ak (gg (hX φ) ae.get ga)).trans ex;have hw:∀i o,M i=some o->w.heap[i]? =some o:=fT.mz;obtain⟨bj,dI⟩:=cm.known;have az:=hw _ _ bj
    let fg:Array U:=(cs.take j++[u]++cs.drop (j+1)).toArray
    have eZ:fg=⟨cs.set j u⟩:=by
     show (cs.take j++[u]++cs.drop (j+1)).toArray=_;rw[List.set_eq_take_append_cons_drop,aN hj];simp
    have wV:(storeCells ⟨g,j,none⟩ [u]).run P w= .ok () (w.setRow g fg):=by
     have:=run_storeCells_at P g j ty [u] 0 ⟨cs⟩ w az (by simp only [List.length_cons,List.length_nil,List.size_toArray];omega) (λv aC=>by rw[List.mem_singleton.1 aC];exact jL);simpa only [Nat.add_zero,List.length_cons,List.length_nil] using this
    have eQ:(execOp a.eval op).run P w= .ok .skip (w.setRow g fg):=by
     unfold execOp;rw[cj];simp only [es,mV];show (do Instr.storeAt t (.pointer (some ⟨g,j,none⟩)) u;pure Next.skip:Sem Next).run P w=_;have cB:(Instr.storeAt t (.pointer (some ⟨g,j,none⟩)) u).run P w= .ok () (w.setRow g fg):=by
      unfold Instr.storeAt;refine cK (a:=(⟨g,j,none⟩:Addr)) rfl ?_;unfold storeVar;refine cK cb ?_;rw[aO (by rw[hu];simp),hu];exact wV
     simp only [Sem.run_bind,cB,Result.andThen_ok];rfl
    have ff:∀c',op.op≠.defer c':=λc' h=>by rw[cj] at h;cases h
    refine⟨λ_ _=>trivial,?_⟩;rw[Oper.semAt_eq _ _ _ ff,eQ,Oper.uponIn_skip];obtain⟨q1,aE⟩:=oA (B:=B) (M:=M) (w':=w.setRow g fg) (T:=some g) (dQ:=some g) hw (λi af=>by cases af;exact⟨by rw[bj];simp,dI⟩) (λi af=> .inl af) ⟨rfl,rfl,rfl⟩ (bY _) (by simp [World.setRow]) (λj _ hj=>setRow_other w g j fg (λh=>hj (by rw[h])));have oD:iJ B (gk M (w.setRow g fg) (some g) (some g)) (.pointer (some ⟨g,0,none⟩)) ty (cs.set j u):=by
     refine⟨g,rfl,dI,?_⟩;unfold gk;rw[aN rfl,<-eZ];exact setRow_heap w g ⟨cs⟩ fg ty (0,0) az
    have gN:=Here.turns (vals':=bx) c1 (hm _) q1 aq al fT;letI:=aX (gk M (w.setRow g fg) (some g) (some g)) bx;exact rest _ oD aE _ _ (Here.put (d:=op.dst) gN (v:=undef) rfl eg)
   ·cases h
  ·cases h
 ·cases h
def qp:Code->List Nat->List fe->List fe
 | .seq x y,n::p,acc=>bif Nat.beq n 0 then qp x p (.l5 y::acc) else qp y p acc
 | .cond _ x y,n::p,acc=>bif Nat.beq n 2 then qp x p acc else qp y p acc
 | .block id x,_::p,acc=>qp x p (.uB id::acc)
 | .loop x,n::p,acc=>qp x p (.sb x (n-5)::acc)
 |_,_,acc=>acc
def y6:Code->List Nat->Code
 | .seq x y,n::p=>bif Nat.beq n 0 then y6 x p else y6 y p
 | .cond _ x y,n::p=>bif Nat.beq n 2 then y6 x p else y6 y p
 | .block _ x,_::p=>y6 x p
 | .loop x,_::p=>y6 x p
 |c,_=>c
def ad' (c:Code) (p:List Nat):Array Oper:=match y6 c p with
 | .region _ ops _=>ops
 |_=> #[]
def y7 (c:Code) (p:List Nat):Code:=match y6 c p with
 | .loop b=>b
 |_=> .skip
theorem ad_ [aY] [cI] {P:aQ} [Lib P] {F:List (fH×U)} {T:List (FuncId×List U×U)} {N B bb d:Nat} {w0 w:au} {a:Act} {o:Option bP} {r:List Oper} {ops:Array Oper} {ks:List fe} {s:b6} {Q:Exit->Act->au->Prop} [l7 Q]
  (hr:jR o=r) (ho:jS o=ops) (ag:gX o=ks) (cD:P.follows .mixedOrders=true) (cF:sf P F) (eb:ri P T)
  (h:e0 P N B w0 Q (AN P F T N bb d r ops ks s)) (ai:Here N s B w0 a w):wpListIn (Fr none) 0 P (jS o) (dS P (gX o) Q) (jR o) a w:=by
 subst hr ho ag;exact Mw cD cF eb h ai
theorem y8 {P:aQ} {o:Option bP} {b:Code} {ks:List fe} {a:Act} {w:au} {R:Act->au->Prop} {Q:Exit->Act->au->Prop} (ad:se o=b) (ag:gX o=ks)
  (h:b.wpIn (Fr none) 0 P (Exit.then R (dS P ks Q)) a w):(se o).wpIn (Fr none) 0 P (Exit.then R (dS P (gX o) Q)) a w:=by
 subst ad ag;exact h
end AE
namespace AE
structure ca where
 mY:Nat->Prop
 ok:Mem->Prop
 qq:∀M,ok M->∀b,mY b->M b≠none
 loc:∀M M',(∀b o,mY b->M b=some o->M' b=some o)->ok M->ok M'
def hZ (g:Nat) (ty:aH) (cs:List U):ca where
 mY b:=b=g
 ok M:=M g=some (.cells ⟨cs⟩ ty (0,0))
 qq M h b ad:=by
  subst ad;rw[h];simp
 loc M M' h ho:=h g _ rfl ho
def iK {α:Type} (e:aH) (k:Nat) (enc:α->List U) (v:U) (l:List α):ca where
 mY b:=some b=eF v
 ok M:=dJ 0 M e k enc v l
 qq M h b ad:=(h.known b ad).1
 loc M M' h ho:=by
  rcases ho with ho|⟨g,cap,cur,rfl,al,h1,az,ae⟩
  ·exact .inl ho
  ·exact .inr ⟨g,cap,cur,rfl,al,h1,h g _ (mU ⟨g,_,none⟩ _ al).symm az,ae⟩
def kf {α:Type} (B:Nat) (M:Mem) (e:aH) (k:Nat) (enc:α->List U) (v:U) (l:List α):Prop:=
 (∃a,v= .slice a 0 0/\l=[])\/
 ∃g off cap cur,v= .slice (some ⟨g,off,none⟩) l.length cap/\0<cap/\B<=g/\M g=some (.cells cur e (0,0))/\l.length<=cap/\cap<=maxLen/\cur.size=off+cap*k/\(cur.toList.drop off).take (l.length*k)=l.flatMap enc
section
variable {α:Type} {B:Nat} {M:Mem} {e:aH} {k:Nat} {enc:α->List U} {v:U} {l:List α}
theorem dJ.queue (h:dJ B M e k enc v l):kf B M e k enc v l:=by
 rcases h with h|⟨g,cap,cur,h1,ae,ay,bE,cn,cy,fx,px⟩
 ·exact .inl h
 ·exact .inr ⟨g,0,cap,cur,h1,ae,ay,bE,cn,cy,ao,by rw[List.drop_zero];exact px⟩
theorem kf.known (h:kf B M e k enc v l):∀i,some i=eF v->M i≠none/\B<=i:=λi af=>by
 rcases h with ⟨a,rfl,_⟩|⟨g,off,cap,cur,rfl,al,dI,az,_⟩
 ·rw[EI] at af
  cases af
 ·rw[mU _ _ al] at af
  have e:=Option.some.inj af;subst e;exact⟨λh=>(by rw[az] at h;cases h),dI⟩
theorem kf.mono {uw:Nat} {M':Mem} (h:kf B M e k enc v l) (dI:∀i,some i=eF v->uw<=i) (hm:∀i,some i=eF v->∀o,M i=some o->M' i=some o):kf uw M' e k enc v l:=by
 rcases h with h|⟨g,off,cap,cur,rfl,al,h1,az,ae⟩
 ·exact .inl h
 ·exact .inr ⟨g,off,cap,cur,rfl,al,dI g (mU ⟨g,_,none⟩ _ al).symm,hm g (mU ⟨g,_,none⟩ _ al).symm _ az,ae⟩
theorem kf.slice (h:kf B M e k enc v l):∃a c,v= .slice a l.length c:=by
 rcases h with ⟨a,rfl,rfl⟩|⟨g,off,cap,cur,rfl,_⟩
 ·exact⟨a,0,rfl⟩
 ·exact⟨_,cap,rfl⟩
theorem kf.arr (h:kf B M e k enc v l) (ag:∀x,(enc x).length=k):b7 M k enc v l:=by
 rcases h with ⟨a,rfl,rfl⟩|⟨g,off,cap,cur,rfl,al,h1,ae,ay,bE,cn,cy⟩
 ·exact .nil _ _
 ·refine .mk ae ay λi x ak j u hu=> ?_
  have fx:=AQ ag l i x ak j u hu;rw[<-cy,List.getElem?_take] at fx;split at fx
  ·rw[List.getElem?_drop] at fx
   rw[Nat.add_assoc];simpa using fx
  ·cases fx
theorem kf.cap (h:kf B M e k enc v l):∃a c,v= .slice a l.length c/\l.length<=c:=by
 rcases h with ⟨a,rfl,rfl⟩|⟨g,off,cap,cur,rfl,h1,ae,ay,bE,_⟩
 ·exact⟨a,0,rfl,bY _⟩
 ·exact⟨_,cap,rfl,bE⟩
theorem dJ.aea {uw:Nat} {M':Mem} (h:dJ B M e k enc v l) (dI:∀i,some i=eF v->uw<=i) (hm:∀i,some i=eF v->∀o,M i=some o->M' i=some o):dJ uw M' e k enc v l:=by
 rcases h with h|⟨g,cap,cur,rfl,al,h1,az,ae⟩
 ·exact .inl h
 ·exact .inr ⟨g,cap,cur,rfl,al,dI g (mU ⟨g,_,none⟩ _ al).symm,hm g (mU ⟨g,_,none⟩ _ al).symm _ az,ae⟩
end
def o7 {α:Type} (e:aH) (k:Nat) (enc:α->List U) (v:U) (l:List α):ca where
 mY b:=some b=eF v
 ok M:=kf 0 M e k enc v l
 qq M h b ad:=(h.known b ad).1
 loc M M' h ho:=ho.mono (λ_ _=>Nat.zero_le _) λi af o h1=>h i o af h1
def rn {α:Type} (k:Nat) (enc:α->List U) (v:U) (l:List α):ca where
 mY b:=some b=v.ownBlock
 ok M:=b7 M k enc v l/\∀b,some b=v.ownBlock->M b≠none
 qq M h b ad:=h.2 b ad
 loc M M' h ho:=by
  refine⟨?_,λb ad=> ?_⟩
  ·obtain⟨h1,ae⟩:=ho
   cases h1 with
   |nil a c=>exact .nil a c
   |mk ad al ay=>exact .mk (h _ _ rfl ad) al ay
  ·cases bj:M b with
   |none=>exact absurd bj (ho.2 b ad)
   |some o=>
    rw[h b o ad bj];simp
theorem b7.arr {α:Type} {M:Mem} {k:Nat} {enc:α->List U} {v:U} {l:List α} (h:b7 M k enc v l) (_:∀x,(enc x).length=k):b7 M k enc v l:=h
structure b_ (M:Mem) (L:List ca):Prop where
 ok:∀(i:Nat) (R:ca),L[i]? =some R->R.ok M
 two:∀(i j:Nat) (R S:ca),i≠j->L[i]? =some R->L[j]? =some S->∀b,R.mY b->¬S.mY b
def iL (L:List ca):Nat->Prop:=λb=>∃(i:Nat) (R:ca),L[i]? =some R/\R.mY b
theorem CL (b:Nat):¬iL [] b:=λ⟨i,R,h,_⟩=>by simp at h
theorem b_.nil (M:Mem):b_ M []:=⟨λi R h=>by simp at h,λi j R S _ h=>by simp at h⟩
theorem b_.known {M:Mem} {L:List ca} (h:b_ M L):∀b,iL L b->M b≠none:=λb ⟨i,R,af,ad⟩=>R.qq M (h.ok i R af) b ad
theorem b_.mono {M M':Mem} {L:List ca} (h:b_ M L) (hm:∀b o,iL L b->M b=some o->M' b=some o):b_ M' L:=
 ⟨λi R af=>R.loc M M' (λb o ad ho=>hm b o ⟨i,R,af,ad⟩ ho) (h.ok i R af),h.two⟩
structure dp (M:Mem) (L:List ca) (M':Mem) (L':List ca):Prop where
 sp:b_ M' L'
 keeps:A3 M M' (iL L)
 fresh:∀b,iL L' b->iL L b\/M b=none
structure bW (B:Nat) (eC:Mem) (cN:List ca) (M:Mem) (L:List ca):Prop where
 sp:b_ M L
 keeps:A3 eC M (iL cN)
 fresh:∀b,iL L b->iL cN b\/eC b=none
 base:∀b,iL cN b\/eC b=none->B<=b
def pick (L:List ca):List Nat->List ca
 |[]=>[]
 |i::is=>match L[i]? with
  |some R=>R::pick L is
  |none=>pick L is
def jU (n:Nat):List Nat->Bool
 |[]=>true
 |i::is=>Nat.blt i n&& !is.contains i&&jU n is
def la (L:List ca):List Nat->List ca->List ca
 |i::is,R::iM=>la (L.set i R) is iM
 |_,_=>L
theorem M4 {n i:Nat} {is:List Nat} (h:jU n (i::is)=true):i<n/\i∉is/\jU n is=true:=by
 simp only [jU,c0,Bool.not_eq_true',List.contains_eq_mem,decide_eq_false_iff_not] at h;exact⟨of_decide_eq_true (by simpa [Nat.blt_eq] using h.1.1),h.1.2,h.2⟩
theorem Ub {L:List ca}:∀{is:List Nat},jU L.length is=true->∀(j:Nat),(pick L is)[j]? =(is[j]?).bind λ(i:Nat)=>L[i]?
 |[],_,j=>by simp [pick]
 |i::is,h,j=>by
  obtain⟨h1,ae,ay⟩:=M4 h;unfold pick;rw[fP h1];cases j with
  |zero=>simp [fP h1]
  |succ j=>
   simp only [List.getElem?_cons_succ];exact Ub ay j
theorem Uc {n:Nat}:∀{is:List Nat},jU n is=true->∀{j fb i:Nat},is[j]? =some i->is[fb]? =some i->j=fb
 |[],_,j,fb,i,h,_=>by simp at h
 |x::is,h,j,fb,i,h1,ae=>by
  obtain⟨q1,aE,b9⟩:=M4 h;cases j with
  |zero=>
   cases fb with
   |zero=>rfl
   |succ fb=>
    simp only [List.getElem?_cons_zero,cx] at h1;simp only [List.getElem?_cons_succ] at ae;subst h1;exact absurd (List.mem_of_getElem? ae) aE
  |succ j=>
   simp only [List.getElem?_cons_succ] at h1;cases fb with
   |zero=>
    simp only [List.getElem?_cons_zero,cx] at ae;subst ae;exact absurd (List.mem_of_getElem? h1) aE
   |succ fb=>
    simp only [List.getElem?_cons_succ] at ae;rw[Uc b9 h1 ae]
theorem EV {L:List ca} {is:List Nat} (h:jU L.length is=true) {j:Nat} {R:ca} (hj:(pick L is)[j]? =some R):∃(i:Nat),is[j]? =some i/\L[i]? =some R:=by
 rw[Ub h] at hj;exact Option.bind_eq_some_iff.1 hj
theorem Ik {L:List ca} {is:List Nat} (h:jU L.length is=true) {b:Nat} (ad:iL (pick L is) b):iL L b:=by
 obtain⟨j,R,hj,hx⟩:=ad;obtain⟨i,_,af⟩:=EV h hj;exact⟨i,R,af,hx⟩
theorem b_.pick {M:Mem} {L:List ca} (s:b_ M L) (is:List Nat) (h:jU L.length is=true):b_ M (pick L is) where
 ok j R hj:=by
  obtain⟨i,_,af⟩:=EV h hj;exact s.ok i R af
 two j fb R S cC hj gn b ad dN:=by
  obtain⟨i,h1,ae⟩:=EV h hj;obtain⟨q3,ay,bE⟩:=EV h gn;refine s.two i q3 R S (λe=> ?_) ae bE b ad dN;subst e;exact cC (Uc h h1 ay)
theorem Il:∀(is:List Nat) (L iM:List ca),(la L is iM).length=L.length
 |[],L,iM=>by unfold la;rfl
 |i::is,L,[]=>by unfold la;rfl
 |i::is,L,R::iM=>by
  unfold la;rw[Il is];simp
theorem M5:∀{is:List Nat} {L iM:List ca} {m:Nat},m∉is->(la L is iM)[m]? =L[m]?
 |[],L,iM,m,_=>by unfold la;rfl
 |i::is,L,[],m,_=>by unfold la;rfl
 |i::is,L,R::iM,m,h=>by
  unfold la;rw[M5 (λhm=>h (List.mem_cons_of_mem _ hm)),List.getElem?_set,aO (λe=>h (by rw[e];exact List.mem_cons_self))]
theorem Ud {n:Nat}:∀{is:List Nat} {L iM:List ca} {m:Nat} {R:ca},jU n is=true->n=L.length->iM.length=is.length->m∈is->(la L is iM)[m]? =some R->∃(j:Nat),is[j]? =some m/\iM[j]? =some R
 |[],L,iM,m,R,_,_,_,hm,_=>by simp at hm
 |i::is,L,[],m,R,_,_,hl,_,_=>by simp at hl
 |i::is,L,alw::iM,m,R,h,aq,hl,hm,az=>by
  obtain⟨q1,aE,b9⟩:=M4 h;unfold la at az;by_cases af:m∈is
  ·obtain⟨j,h1,ae⟩:=Ud b9 (by rw[List.length_set];exact aq) (by simpa using hl) af az
   exact⟨j+1,by simpa using h1,by simpa using ae⟩
  ·have he:m=i:=by
    rcases List.mem_cons.1 hm with h|h
    ·exact h
    ·exact absurd h af
   subst he;rw[M5 af,List.getElem?_set,aN rfl,aN ao] at az;exact⟨0,rfl,az⟩
theorem EW {L L' N:List ca} {is:List Nat} (h:jU L.length is=true) (hl:L'.length=is.length) {m:Nat} {R:ca} (hm:(la L is L'++N)[m]? =some R):
  (∃(j:Nat),(L'++N)[j]? =some R/\((is[j]? =some m/\j<is.length)\/(j=is.length+(m-L.length)/\L.length<=m)))\/(L[m]? =some R/\m∉is):=by
 by_cases b8:m<L.length
 ·rw[List.getElem?_append_left (by rw[Il];exact b8)] at hm
  by_cases af:m∈is
  ·obtain⟨j,h1,ae⟩:=Ud h rfl hl af hm
   have hj:j<is.length:=(List.getElem?_eq_some_iff.1 h1).1;exact .inl ⟨j,by rw[List.getElem?_append_left ao];exact ae,.inl ⟨h1,hj⟩⟩
  ·rw[M5 af] at hm
   exact .inr ⟨hm,af⟩
 ·rw[List.getElem?_append_right (by rw[Il];omega),Il] at hm
  exact .inl ⟨is.length+(m-L.length),by rw[List.getElem?_append_right ao,hl];rw[show is.length+(m-L.length)-is.length=m-L.length by omega];exact hm,.inr ⟨rfl,ao⟩⟩
section
variable {B:Nat} {eC M M':Mem} {cN L L' N:List ca}
theorem b_.put (s:b_ M L) (is:List Nat) (h:jU L.length is=true) (hl:L'.length=is.length) (t:dp M (AE.pick L is) M' (L'++N)):b_ M' (la L is L'++N):=by
 have Ue:∀(i:Nat) (R:ca),L[i]? =some R->i∉is->∀b,R.mY b->¬iL (AE.pick L is) b:=λi R af aq b ad ⟨j,S,hj,aA⟩=>by
  obtain⟨q3,h1,ae⟩:=EV h hj;exact s.two i q3 R S (λe=>aq (by rw[e];exact List.mem_of_getElem? h1)) af ae b ad aA
 have fN:∀(i:Nat) (R:ca),L[i]? =some R->i∉is->∀b,R.mY b->¬iL (L'++N) b:=λi R af aq b ad kP=>by
  rcases t.fresh b kP with h1|h1
  ·exact Ue i R af aq b ad h1
  ·exact R.qq M (s.ok i R af) b ad h1
 refine⟨λm R hm=> ?_,λm m' R S cC hm qU b ad dN=> ?_⟩
 ·rcases EW h hl hm with ⟨j,hj,_⟩|⟨af,aq⟩
  ·exact t.sp.ok j R hj
  ·exact R.loc M M' (λb o ad ho=>t.keeps b o ho (Ue m R af aq b ad)) (s.ok m R af)
 ·rcases EW h hl hm with ⟨j,hj,eX⟩|⟨af,aq⟩
  ·rcases EW h hl qU with ⟨fb,gn,M6⟩|⟨lH,Im⟩
   ·refine t.sp.two j fb R S (λe=> ?_) hj gn b ad dN
    subst e;rcases eX with ⟨h1,ae⟩|⟨h1,ae⟩
    ·rcases M6 with ⟨ay,bE⟩|⟨ay,bE⟩
     ·rw[h1] at ay
      exact cC (Option.some.inj ay)
     ·omega
    ·rcases M6 with ⟨ay,bE⟩|⟨ay,bE⟩
     ·omega
     ·exact cC ao
   ·exact fN m' S lH Im b dN ⟨j,R,hj,ad⟩
  ·rcases EW h hl qU with ⟨fb,gn,M6⟩|⟨lH,Im⟩
   ·exact fN m R af aq b ad ⟨fb,S,gn,dN⟩
   ·exact s.two m m' R S cC af lH b ad dN
theorem aeb (s:b_ M L) {is:List Nat} (h:jU L.length is=true) (hl:L'.length=is.length) (t:dp M (AE.pick L is) M' (L'++N)) {b:Nat} (ad:iL (la L is L'++N) b):iL L b\/M b=none:=by
 obtain⟨m,R,hm,hx⟩:=ad;rcases EW h hl hm with ⟨j,hj,_⟩|⟨af,aq⟩
 ·rcases t.fresh b ⟨j,R,hj,hx⟩ with h1|h1
  ·exact .inl (Ik h h1)
  ·exact .inr h1
 ·exact .inl ⟨m,R,af,hx⟩
theorem bW.put (h:bW B eC cN M L) (is:List Nat) (ij:jU L.length is=true) (hl:L'.length=is.length) (t:dp M (AE.pick L is) M' (L'++N)):bW B eC cN M' (la L is L'++N) where
 sp:=h.sp.put is ij hl t
 keeps i o af aq:=by
  have h1:=h.keeps i o af aq;refine t.keeps i o h1 λae=> ?_
  rcases h.fresh i (Ik ij ae) with ay|ay
  ·exact aq ay
  ·rw[af] at ay
   cases ay
 fresh b ad:=by
  rcases aeb h.sp ij hl t ad with h1|h1
  ·exact h.fresh b h1
  ·by_cases ae:iL cN b
   ·exact .inl ae
   ·right
    cases ay:eC b with
    |none=>rfl
    |some o=>
     have:=h.keeps b o ay ae;rw[h1] at this;cases this
 base:=h.base
theorem bW.l_ (h:bW B eC cN M L) (i:Nat) {R M7:ca} (af:L[i]? =some R) (t:dp M [R] M' [M7]):bW B eC cN M' (L.set i M7):=by
 have b8:i<L.length:=(List.getElem?_eq_some_iff.1 af).1;have ij:jU L.length [i]=true:=by
  simp [jU,Nat.blt_eq,b8]
 have hp:AE.pick L [i]=[R]:=by simp [AE.pick,af]
 have:=h.put (L':=[M7]) (N:=[]) [i] ij rfl (by rw[hp];exact t);simpa [la] using this
theorem bW.new (h:bW B eC cN M L) {R:ca} (t:dp M [] M' [R]):bW B eC cN M' (L++[R]):=by
 have:=h.put (L':=[]) (N:=[R]) [] J J (by exact t);simpa [la] using this
theorem bW.pick (h:bW B eC cN M L) (is:List Nat) (ij:jU L.length is=true):bW B eC cN M (AE.pick L is):=
 ⟨h.sp.pick is ij,h.keeps,λb ad=>h.fresh b (Ik ij ad),h.base⟩
theorem bW.low (h:bW B eC cN M L):∀b,iL L b->B<=b:=λb ad=>h.base b (h.fresh b ad)
theorem bW.start (W:au) (L:List ca) (h:b_ (aG W) L):bW 0 (aG W) L (aG W) L:=⟨h,λ_ _ h _=>h,λ_ h=> .inl h,λ_ _=>Nat.zero_le _⟩
theorem bW.qs (W:au):bW W.heap.size (aG W) [] (aG W) []:=
 ⟨b_.nil _,λ_ _ h _=>h,λb h=>absurd h (CL b),λb h=>by
   rcases h with h|h
   ·exact absurd h (CL b)
   ·exact Array.getElem?_eq_none_iff.1 h⟩
theorem bW.ext (h:bW B eC [] M L):∀i o,eC i=some o->M i=some o:=λi o af=>h.keeps i o af (CL i)
theorem bW.kept (h:bW B eC cN M L) {i:Nat} {o:Obj} (af:eC i=some o) (aq:¬iL cN i):M i=some o:=h.keeps i o af aq
theorem bW.done {w':au} (h:bW B eC cN M L) (hw:∀i o,M i=some o->w'.heap[i]? =some o):dp eC cN (aG w') L:=
 ⟨h.sp.mono λb o _ ho=>hw b o ho,λi o af aq=>hw i o (h.keeps i o af aq),h.fresh⟩
theorem bW.box (h:bW B eC cN M L) (i:Nat) {g:Nat} {ty:aH} {cs:List U} (af:L[i]? =some (hZ g ty cs)):iJ B M (.pointer (some ⟨g,0,none⟩)) ty cs:=⟨g,rfl,h.low g ⟨i,_,af,rfl⟩,h.sp.ok i _ af⟩
theorem bW.arr (h:bW B eC cN M L) (i:Nat) {α:Type} {e:aH} {k:Nat} {enc:α->List U} {v:U} {l:List α} (af:L[i]? =some (iK e k enc v l)):dJ B M e k enc v l:=
 dJ.aea (h.sp.ok i _ af) (λj hj=>h.low j ⟨i,_,af,hj⟩) λ_ _ _ ho=>ho
theorem bW.jh (h:bW B eC cN M L) (i:Nat) {α:Type} {e:aH} {k:Nat} {enc:α->List U} {v:U} {l:List α} (af:L[i]? =some (o7 e k enc v l)):kf B M e k enc v l:=
 kf.mono (h.sp.ok i _ af) (λj hj=>h.low j ⟨i,_,af,hj⟩) λ_ _ _ ho=>ho
theorem bW.red (h:bW B eC cN M L) (i:Nat) {α:Type} {k:Nat} {enc:α->List U} {v:U} {l:List α} (af:L[i]? =some (rn k enc v l)):b7 M k enc v l:=(h.sp.ok i _ af).1
theorem bW.any (h:bW B eC cN M L) (i:Nat) {R:ca} (af:L[i]? =some R):R.ok M:=h.sp.ok i _ af
end
theorem b_.box {M:Mem} {L:List ca} (h:b_ M L) (i:Nat) {g:Nat} {ty:aH} {cs:List U} (af:L[i]? =some (hZ g ty cs)):iJ 0 M (.pointer (some ⟨g,0,none⟩)) ty cs:=⟨g,rfl,Nat.zero_le _,h.ok i _ af⟩
theorem b_.arr {M:Mem} {L:List ca} (h:b_ M L) (i:Nat) {α:Type} {e:aH} {k:Nat} {enc:α->List U} {v:U} {l:List α} (af:L[i]? =some (iK e k enc v l)):dJ 0 M e k enc v l:=h.ok i _ af
theorem b_.jh {M:Mem} {L:List ca} (h:b_ M L) (i:Nat) {α:Type} {e:aH} {k:Nat} {enc:α->List U} {v:U} {l:List α} (af:L[i]? =some (o7 e k enc v l)):kf 0 M e k enc v l:=h.ok i _ af
theorem b_.red {M:Mem} {L:List ca} (h:b_ M L) (i:Nat) {α:Type} {k:Nat} {enc:α->List U} {v:U} {l:List α} (af:L[i]? =some (rn k enc v l)):b7 M k enc v l:=(h.ok i _ af).1
theorem b_.one {M:Mem} {R:ca} (h:R.ok M):b_ M [R]:=by
 refine⟨λi S af=> ?_,λi j S T cC af hj=> ?_⟩
 ·cases i with
  |zero=>
   have e:=Option.some.inj (show some R=some S from af);rw[<-e];exact h
  |succ i=>simp at af
 ·cases i with
  |zero=>
   cases j with
   |zero=>exact absurd rfl cC
   |succ j=>simp at hj
  |succ i=>simp at af
theorem mZ {R:ca} {b:Nat}:iL [R] b↔R.mY b:=by
 constructor
 ·rintro ⟨i,S,af,ad⟩
  cases i with
  |zero=>
   have e:=Option.some.inj (show some R=some S from af);rw[e];exact ad
  |succ i=>simp at af
 ·intro h
  exact⟨0,R,rfl,h⟩
section
variable {M M':Mem}
theorem v' {B g:Nat} {ty:aH} {cs cs':List U} (cm:iJ B M' (.pointer (some ⟨g,0,none⟩)) ty cs') (b0:g_ M M' (some g)):dp M [hZ g ty cs] M' [hZ g ty cs']:=
 ⟨b_.one cm.known.1,λi o af aq=>b0 i o af λe=>aq (mZ.2 (Option.some.inj e)),λb ad=> .inl (mZ.2 (show b=g from mZ.1 ad))⟩
theorem xq {B g:Nat} {ty:aH} {cs:List U} (cm:iJ B M' (.pointer (some ⟨g,0,none⟩)) ty cs) (aq:M g=none) (b0:g_ M M' none):dp M [] M' [hZ g ty cs]:=
 ⟨b_.one cm.known.1,λi o af _=>b0 i o af λe=>(by cases e),λb ad=> .inr (by rw[show b=g from mZ.1 ad];exact aq)⟩
variable {α:Type} {B:Nat} {e:aH} {k:Nat} {enc:α->List U} {v aB:U} {l l':List α}
theorem rp (cm:dJ B M' e k enc aB l'):(iK e k enc aB l').ok M':=cm.mono (Nat.zero_le _) λ_ _ _ h=>h
theorem Uf (cm:kf B M' e k enc aB l'):(o7 e k enc aB l').ok M':=cm.mono (λ_ _=>Nat.zero_le _) λ_ _ _ h=>h
theorem M8 (cm:dJ B M' e k enc aB l') (b0:g_ M M' (eF v)) (aP:∀i,some i=eF aB->some i=eF v\/M i=none):dp M [iK e k enc v l] M' [iK e k enc aB l']:=
 ⟨b_.one (rp cm),λi o af aq=>b0 i o af λe=>aq (mZ.2 e),λb ad=>by
   rcases aP b (mZ.1 ad) with h|h
   ·exact .inl (mZ.2 h)
   ·exact .inr h⟩
theorem EX (cm:dJ B M' e k enc v l') (b0:g_ M M' (eF v)):dp M [iK e k enc v l] M' [iK e k enc v l']:=M8 cm b0 λ_ h=> .inl h
theorem Io (cm:kf B M' e k enc aB l') (b0:g_ M M' (eF v)) (aP:∀i,some i=eF aB->some i=eF v\/M i=none):dp M [o7 e k enc v l] M' [o7 e k enc aB l']:=
 ⟨b_.one (Uf cm),λi o af aq=>b0 i o af λe=>aq (mZ.2 e),λb ad=>by
   rcases aP b (mZ.1 ad) with h|h
   ·exact .inl (mZ.2 h)
   ·exact .inr h⟩
theorem Ip (cm:dJ B M' e k enc v l) (b0:g_ M M' none) (aP:∀i,some i=eF v->M i=none):dp M [] M' [iK e k enc v l]:=
 ⟨b_.one (rp cm),λi o af _=>b0 i o af λe=>(by cases e),λb ad=> .inr (aP b (mZ.1 ad))⟩
end
theorem aec {B:Nat} {M:Mem} {w w':au} {eC:Mem} {cN L oE L':List ca} (h:bW B eC cN M L) (is:List Nat) (ij:jU L.length is=true) (hp:AE.pick L is=oE) (hw:∀i o,M i=some o->w.heap[i]? =some o) (dI:B<=w.heap.size) (av:dp (aG w) oE (aG w') L') (hl:ch 0 w w'):
  ∃M',dp M oE M' L'/\CJ B M M' (iL oE) w w':=by
 subst hp;have ad:∀i,i<w.heap.size->¬iL (AE.pick L is) i->w'.heap[i]? =w.heap[i]? :=λi af aq=>by
  have ay:aG w i=some (w.heap[i]):=Array.getElem?_eq_getElem af;have bE:=av.keeps i _ ay aq;rw[Array.getElem?_eq_getElem af];exact bE
 have ig:∀i,iL (AE.pick L is) i->M i≠none/\B<=i:=λi af=>⟨(h.sp.pick is ij).known i af,h.low i (Ik ij af)⟩
 obtain⟨t1,t2⟩:=T7 (B:=B) (M:=M) (S:=iL (AE.pick L is)) (w:=w) (w':=w') hw ig ⟨hl.below.os,hl.below.tape,hl.below.output⟩ hl.size ad;have fN:∀b,iL L' b->((M b).isSome=true/\B<=b)\/w.heap.size<=b:=λb td=>by
  rcases av.fresh b td with ay|ay
  ·obtain⟨cV,df⟩:=ig b ay
   refine .inl ⟨?_,df⟩;cases bj:M b with
   |none=>exact absurd bj cV
   |some o=>rfl
  ·exact .inr (Array.getElem?_eq_none_iff.1 ay)
 refine⟨xp B M w w',⟨av.sp.mono λb o td ho=> ?_,t2,λb td=> ?_⟩,t1⟩
 ·rw[M0 (by
   rcases fN b td with ay|ay
   ·exact .inl ay.1
   ·exact .inr (.inl ay))]
  exact ho
 ·rcases av.fresh b td with ay|ay
  ·exact .inl ay
  ·exact .inr (y4 hw (Array.getElem?_eq_none_iff.1 ay))
theorem bW.at {B:Nat} {M:Mem} {w:au} {eC:Mem} {cN L oE:List ca} (h:bW B eC cN M L) (is:List Nat) (ij:jU L.length is=true) (hp:AE.pick L is=oE) (hw:∀i o,M i=some o->w.heap[i]? =some o):b_ (aG w) oE:=by
 subst hp;exact(h.sp.pick is ij).mono λb o _ ho=>hw b o ho
theorem aed {Y:Type} {P:aQ} {f:FuncId} {args:Array U} {B:Nat} {M:Mem} {w:au} {eC:Mem} {cN L oE:List ca} {ec:U} {bx:Y->List U} {r:Y->U} {L':Y->List ca} (h:bW B eC cN M L) (is:List Nat) (ij:jU L.length is=true) (hp:AE.pick L is=oE) (hw:∀i o,M i=some o->w.heap[i]? =some o) (dI:B<=w.heap.size)
  (aC:∀M' y,@aK (aX M' (bx y)) ec=r y) (jw:Calls P f args w λe w'=>(∃y,e= .returned (r y)/\dp (aG w) oE (aG w') (L' y))/\ch 0 w w'):
  Calls P f args w λe w'=>∃y M',e= .returned (@aK (aX M' (bx y)) ec)/\dp M oE M' (L' y)/\CJ B M M' (iL oE) w w':=
 jw.mono λe w' he=>by
  obtain⟨⟨y,rfl,av⟩,hl⟩:=he;obtain⟨M',h1,ae⟩:=aec h is ij hp hw dI av hl;exact⟨y,M',by rw[aC],h1,ae⟩
end AE
end Go.Proofs.YtepcfjbfkedlpaaGreatDoor
