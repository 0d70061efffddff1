/- Parts of the proof. -/
import Derived.Test.YtepcfjbfkedlpaaDoorLm1
import Derived.LoopNIn
import Derived.Laws.Sem
import Derived.Below
import Derived.Test.YtepcfjbfkedlpaaDoorProg
import Derived.KernelRfl
import Derived.Laws.Entries
import Derived.Laws.StructEq
import Derived.IntWalk
import Derived.Laws.AppendOwn
import Derived.Laws.Small
import Derived.OrdersIn
import Derived.Lib.SliceRun
import Derived.Laws.Slices
import Derived.Laws.Strings2
import Derived.Laws.Concat
import Derived.ChangeKeysEq
import Derived.Test.YtepcfjbfkedlpaaDoorRows
import Derived.ProofKit
import Derived.Lay
import Derived.SevenTiedAt
import Derived.Carry
import Derived.Lib.SmallJoins
import Derived.Deep.Slices
import Derived.LaidSub
set_option maxRecDepth 100000
set_option maxHeartbeats 4000000
namespace Go.Proofs.YtepcfjbfkedlpaaDoor
open Go
namespace AE
variable [a7]
structure r' (gl:bY Nat) (N:Nat) (ds:List Deferred) (ops:Array Oper) (m:Nat) (B:Nat->a8) (vs:List J) (fF:b4) (w0:ax) (a0:Act) (φ:b4) (listed:Array Bool) (a:Act) (w:ax):Prop where
 size:listed.size=ops.size
 down:∀i j,listed.getD i false=true->direct ops i j=true->listed.getD j false=true
 sZ:∀i,m<=i->listed.getD i false=false
 defers:a.defers=ds
 mC:a.tmps.size=N
 rel:b2 φ (B m) w
 old:∀b,b<(B 0).n->φ b=fF b
 mapped:∀b e,(B 0).n<=b->φ b=some e->∃j,j<m/\listed.getD j false=true/\own B j b
 total:∀j b,j<m->listed.getD j false=true->own B j b->φ b≠none
 new:∀b e,(B 0).n<=b->φ b=some e->w0.heap.size<=e.bn
 Nw:∀j b e b' e',j<m->own B j b->¬own B j b'->φ b=some e->φ b'=some e'->e.bn≠e'.bn
 keep:∀i,i<w0.heap.size->(∀b e k,fF b=some e->e.bn=i->(B 0).bl.get b=some k->k.ro=true)->w.heap[i]? =w0.heap[i]?
 gN:w0.heap.size<=w.heap.size
 os:w.os=w0.os
 tape:w.tape=w0.tape
 output:w.output=w0.output
 drawn:iF w0<=iF w
 other:∀t,(∀i,i<m->listed.getD i false=true->fz ops i≠some t)->a.tmps.getD t undef=a0.tmps.getD t undef
 val:∀i t,i<m->listed.getD i false=true->fz ops i=some t->aD (restrict φ (B (i+1)).n) (vs.getD i cB) (a.tmps.getD t undef)
omit [a7] in
theorem uy {φ:b4} {n b:Nat} {e:hS} (h:restrict φ n b=some e):b<n/\φ b=some e:=by
 unfold restrict at h;by_cases af:b<n
 ·rw[aY af] at h;exact⟨af,h⟩
 ·rw[a_ af] at h;cases h
omit [a7] in
theorem Va {φ:b4} {n gd:Nat} (h:n<=gd):∀b e,restrict φ n b=some e->restrict φ gd b=some e:=λb e af=>by
 obtain⟨ad,ag⟩:=uy af;unfold restrict;rw[aY aj];exact ag
section
variable {P:aS} [Lib P] [ej P] {C:iw} {gl:bY Nat} {N:Nat} {ds:List Deferred} {ops:Array Oper} {m:Nat} {du mD:aF} {B:Nat->a8} {vs:List J} {fF φ:b4} {w0 w:ax} {a0 a:Act} {listed:Array Bool}
theorem r'.done (ja:pz fF B vs m) (lj:b2 fF (B 0) w0) (zp:fE N ds fF mD a0) (bh:r' gl N ds ops m B vs fF w0 a0 φ listed a w) (lD:∀i,i<m->listed.getD i false=true)
  (fq:hU N ops (λ_=>cB) (List.range m) mD=some du) {eK:aF} (ad:hU N ops (λj=>vs.getD j cB) (List.range m) du=some eK):
  fE N ds φ eK a/\cF fF (B 0) w0 φ (B m) w:=by
 have s4:∀b e,fF b=some e->φ b=some e:=λb e af=>by rw[bh.old b (lj.lt af)];exact af
 refine⟨⟨bh.mC,bh.defers,λt v aC=> ?_⟩,?_⟩
 ·rcases oZ _ _ _ ad t v aC with ⟨j,hj,bg,rfl⟩|⟨av,aA⟩
  ·have fi:=List.mem_range.1 hj
   exact(bh.val j t fi (lD j fi) bg).mono λb e af=>(uy af).2
  ·rcases oZ _ _ _ fq t v aA with ⟨j,hj,bg,rfl⟩|⟨_,vz⟩
   ·exact .cB _
   ·rw[bh.other t λi ai _=>av i (List.mem_range.2 ai)]
    exact(zp.get t v vz).mono s4
 ·refine {rel:=bh.rel,eE:=bh.old,rW:=λb af eh=> ?_,new:=λb e af he=> .inl (bh.new b e af he),qv:=ja.s5 (Nat.zero_le _) (ch _),low:=by rw[ja.aea (ch _)];exact ch _,
          same:=λb af _=>ja.wY (Nat.zero_le _) (ch _) b af,ro:=λb k al _=> ?_,keep:=bh.keep,gN:=bh.gN,os:=bh.os,tape:=bh.tape,output:=bh.output,drawn:=bh.drawn}
  ·obtain⟨j,hj,ho⟩:=ja.U_ (ch _) af eh
   exact bh.total j b hj (lD j hj) ho
  ·rw[ja.wY (Nat.zero_le _) (ch _) b (lj.wf.lt b k al)];exact al
theorem r'.here (ja:pz fF B vs m) (lj:b2 fF (B 0) w0) (Vb:(B m).n<=dead) (bh:r' gl N ds ops m B vs fF w0 a0 φ listed a w) {i:Nat} (ai:i<m):b2 (restrict φ (B i).n) (B i) w:=by
 obtain⟨ψ,w',g1,g2,g3,_⟩:=ja.ex i aj;have bg:∀b e,φ b=some e->b≠dead:=λb e af ah=>by
  have:=bh.rel.lt af;omega
 have gP:∀b,b<(B i).n->(B m).bl.get b=(B i).bl.get b:=λb af=>ja.wY aj (ch _) b af
 refine⟨g1.wf,λb e af=> ?_,λb e k b' e' k' af eh al dD c1=> ?_,λb e k b' e' k' af eh al dD aR jW=> ?_,λi o ai=>⟨(bh.rel.dn i o ai).1,λb e af=>(bh.rel.dn i o ai).2 b e (uy af).2⟩⟩
 ·obtain⟨cg,ie⟩:=uy af
  obtain⟨k,al,ad,ag⟩:=bh.rel.eE b e ie;rw[gP b cg] at al;refine⟨k,al,ad,?_⟩;have r9:ψ b≠none:=by
   rcases Nat.lt_or_ge b (B 0).n with aL|aL
   ·rw[g2 b aL,<-bh.old b aL,ie];simp
   ·exact g3 b aL cg
  obtain⟨e',oY⟩:=Option.ne_none_iff_exists'.1 r9;obtain⟨k',dD,_,ay⟩:=g1.eE b e' oY;rw[al] at dD;cases dD;exact ag.restrict bg (λb e af=>g1.lt af) ay
 ·obtain⟨cg,ie⟩:=uy af
  obtain⟨r1,s7⟩:=uy eh;exact bh.rel.apart b e k b' e' k' ie s7 ((gP b cg).trans al) ((gP b' r1).trans dD) c1
 ·obtain⟨cg,ie⟩:=uy af
  obtain⟨r1,s7⟩:=uy eh;exact bh.rel.along b e k b' e' k' ie s7 ((gP b cg).trans al) ((gP b' r1).trans dD) aR jW
theorem r'.step (ja:pz fF B vs m) (lj:b2 fF (B 0) w0) (bh:r' gl N ds ops m B vs fF w0 a0 φ listed a w) {i:Nat} {o:Oper} (ai:i<m) (hm:m<=ops.size) (ho:ops[i]? =some o) (s8:listed.getD i false=false)
  (uz:∀k,direct ops i k=true->listed.getD k false=true) (mG:∀i j,i<m->j<m->i≠j->∀t,fz ops i=some t->fz ops j≠some t) (cg:∀i t,i<m->fz ops i=some t->t<N)
  {bH:a8} (mT:(B i).n<=bH.low) (rb:B (i+1)={bH with low:=(B i).low}) {db:b4} {aB:J} {w':ax} (aC:aD db (vs.getD i cB) aB) (c0:cF (restrict φ (B i).n) {B i with low:=(B i).n} w db bH w'):
  ∃fp,r' gl N ds ops m B vs fF w0 a0 fp (listed.setIfInBounds i true) (a.put o.dst aB) w':=by
 have hJ:(B (i+1)).n=bH.n:=by rw[rb]
 have aed:(B (i+1)).bl=bH.bl:=by rw[rb]
 have lk:fz ops i=o.dst:=by simp [fz,ho]
 have fj:∀j,(listed.setIfInBounds i true).getD j false=true↔j=i\/listed.getD j false=true:=by
  intro j;by_cases hj:j=i
  ·subst hj
   have:=bh.size;simp [fk,show j<listed.size by omega]
  ·rw[getD_set_ne false (Ne.symm hj)]
   simp [hj]
 let fp:b4:=λb=>if b<(B i).n then φ b else if b<(B (i+1)).n then db b else φ b
 have Fa:∀b,b<(B i).n->fp b=φ b:=λb af=>aY af
 have I6:∀b,own B i b->fp b=db b:=λb af=>by
  show (if _ then _ else if _ then _ else _)=_;rw[a_ (by unfold own at af;omega),aY af.2]
 have Nx:∀b,(B (i+1)).n<=b->fp b=φ b:=λb af=>by
  have:=ja.I5 i ai;show (if _ then _ else if _ then _ else _)=_;rw[a_ aj,a_ aj]
 have mA:∀b,b<(B i).n\/own B i b\/(B (i+1)).n<=b:=λb=>by unfold own;omega
 have Vc:∀b,b<(B i).n->db b=φ b:=λb af=>by
  rw[c0.eE b af];unfold restrict;rw[aY af]
 have Vd:∀b e,db b=some e->b<(B (i+1)).n:=λb e af=>by rw[hJ];exact c0.rel.lt af
 have Ve:∀b e,db b=some e->fp b=some e:=λb e af=>by
  have:=Vd b e af;rcases mA b with h|h|h
  ·rw[Fa b h,<-Vc b h];exact af
  ·rw[I6 b h];exact af
  ·omega
 have aee:∀b,own B i b->φ b=none:=λb af=>by
  cases h:φ b with
  |none=>rfl
  |some e=>
   exfalso;have aL:(B 0).n<=b:=Nat.le_trans (ja.s5 (Nat.zero_le i) aj) af.1;obtain⟨j,hj,mW,iu⟩:=bh.mapped b e aL h;have:=ja.U' ai hj af iu;subst this;rw[s8] at mW;cases mW
 have Ny:∀b e,φ b=some e->fp b=some e:=λb e af=>by
  rcases mA b with h|h|h
  ·rw[Fa b h];exact af
  ·rw[aee b h] at af;cases af
  ·rw[Nx b h];exact af
 have aef:∀b e,own B i b->db b=some e->w.heap.size<=e.bn:=λb e af he=>by
  rcases c0.new b e af.1 he with h|⟨cu,e0,ez,q1,_,b0,_,_⟩
  ·exact h
  ·exfalso
   have:=(uy q1).1;omega
 have aoH:(B 0).n<=(B i).n:=ja.s5 (Nat.zero_le i) aj;have Fb:∀b,b<(B (i+1)).n->(B m).bl.get b=bH.bl.get b:=λb af=>by rw[ja.wY aj (ch _) b af,aed]
 have Nz:∀b e,φ b=some e->e.bn<w.heap.size:=λb e af=>by
  obtain⟨k,_,_,ag⟩:=bh.rel.eE b e af;exact ag.lt
 have Vf:∀b e,fp b=some e->(b<(B (i+1)).n/\db b=some e)\/((B (i+1)).n<=b/\φ b=some e):=λb e af=>by
  have:=ja.I5 i ai;rcases mA b with h|h|h
  ·rw[Fa b h,<-Vc b h] at af;exact .inl ⟨aj,af⟩
  ·rw[I6 b h] at af;exact .inl ⟨h.2,af⟩
  ·rw[Nx b h] at af;exact .inr ⟨h,af⟩
 have wZ:∀b e,fp b=some e->(own B i b/\db b=some e/\w.heap.size<=e.bn)\/(¬own B i b/\φ b=some e/\e.bn<w.heap.size):=λb e af=>by
  rcases mA b with h|h|h
  ·rw[Fa b h] at af;exact .inr ⟨by unfold own;omega,af,Nz b e af⟩
  ·rw[I6 b h] at af;exact .inl ⟨h,af,aef b e h af⟩
  ·rw[Nx b h] at af;exact .inr ⟨by unfold own;omega,af,Nz b e af⟩
 have aeg:∀b e,(B (i+1)).n<=b->φ b=some e->w'.heap[e.bn]? =w.heap[e.bn]? :=λb e af he=>by
  have aL:(B 0).n<=b:=by have:=ja.I5 i ai;omega
  obtain⟨j,hj,mW,iu⟩:=bh.mapped b e aL he;refine c0.keep e.bn (Nz b e he) λcu e0 ez e4 zh _=> ?_
  exfalso;obtain⟨aoI,aeh⟩:=uy e4;refine bh.Nw j b e cu e0 hj iu (λah=> ?_) he aeh zh.symm;have ov:i+1<=j:=by
   rcases Nat.lt_or_ge i j with h|h
   ·exact h
   ·exfalso
    have:=ja.s5 (i:=j+1) (j:=i+1) aj aj;unfold own at iu;omega
  have:=ja.s5 (i:=i) (j:=j) aj aj;unfold own at ah;omega
 refine⟨fp,by simpa using bh.size,?_,?_,by rw[Act.C4];exact bh.defers,by rw[Act.size_put];exact bh.mC,⟨bh.rel.wf,?_,?_,?_,λi o ai=>⟨(c0.rel.dn i o ai).1,λb e af=>by
   rcases Vf b e af with ⟨_,h⟩|⟨_,h⟩
   ·exact(c0.rel.dn i o ai).2 b e h
   ·exact(bh.rel.dn i o ai).2 b e h⟩⟩,?_,?_,?_,?_,?_,?_,Nat.le_trans bh.gN c0.gN,c0.os.trans bh.os,c0.tape.trans bh.tape,c0.output.trans bh.output,Nat.le_trans bh.drawn c0.drawn,?_,?_⟩
 ·intro j k hj bg
  rw[fj] at hj ⊢;rcases hj with rfl|hj
  ·exact .inr (uz k bg)
  ·exact .inr (bh.down j k hj bg)
 ·intro j hj
  rw[getD_set_ne false aj];exact bh.sZ j hj
 ·
  intro b e af;rcases Vf b e af with ⟨mc,eh⟩|⟨mc,eh⟩
  ·obtain⟨k,al,ad,ag⟩:=c0.rel.eE b e eh
   exact⟨k,(Fb b mc).trans al,ad,ag.mono Ve rfl⟩
  ·obtain⟨k,al,ad,ag⟩:=bh.rel.eE b e eh
   exact⟨k,al,ad,ag.mono Ny (aeg b e mc eh)⟩
 ·
  intro b e k b' e' k' af eh al dD c1;rcases wZ b e af with ⟨jn,ih,q1⟩|⟨jn,ih,q1⟩<;>rcases wZ b' e' eh with ⟨kl,hB,aH⟩|⟨kl,hB,aH⟩
  ·exact c0.rel.apart b e k b' e' k' ih hB ((Fb b jn.2).symm.trans al) ((Fb b' kl.2).symm.trans dD) c1
  ·omega
  ·omega
  ·exact bh.rel.apart b e k b' e' k' ih hB al dD c1
 ·intro b e k b' e' k' af eh al dD aR jW
  rcases wZ b e af with ⟨jn,ih,q1⟩|⟨jn,ih,q1⟩<;>rcases wZ b' e' eh with ⟨kl,hB,aH⟩|⟨kl,hB,aH⟩
  ·exact c0.rel.along b e k b' e' k' ih hB ((Fb b jn.2).symm.trans al) ((Fb b' kl.2).symm.trans dD) aR jW
  ·omega
  ·omega
  ·exact bh.rel.along b e k b' e' k' ih hB al dD aR jW
 ·intro b af
  rw[Fa b aj];exact bh.old b af
 ·intro b e aL af
  rcases wZ b e af with ⟨jn,ih,_⟩|⟨jn,ih,_⟩
  ·exact⟨i,ai,(fj i).2 (.inl rfl),jn⟩
  ·obtain⟨j,hj,mW,iu⟩:=bh.mapped b e aL ih
   exact⟨j,hj,(fj j).2 (.inr mW),iu⟩
 ·intro j b hj hl iu
  rcases(fj j).1 hl with rfl|hl
  ·rw[I6 b iu]
   exact c0.rW b iu.1 (by rw[<-hJ];exact iu.2)
  ·obtain⟨e,he⟩:=Option.ne_none_iff_exists'.1 (bh.total j b hj hl iu)
   rw[Ny b e he];simp
 ·intro b e aL af
  rcases wZ b e af with ⟨jn,ih,q1⟩|⟨jn,ih,_⟩
  ·exact Nat.le_trans bh.gN q1
  ·exact bh.new b e aL ih
 ·
  intro j b e b' e' hj iu Vg af eh;rcases wZ b e af with ⟨jn,ih,q1⟩|⟨jn,ih,q1⟩<;>rcases wZ b' e' eh with ⟨kl,hB,aH⟩|⟨kl,hB,aH⟩
  ·exfalso
   have:=ja.U' hj ai iu jn;subst this;exact Vg kl
  ·omega
  ·omega
  ·exact bh.Nw j b e b' e' hj iu Vg ih hB
 ·
  intro k al lD;rw[c0.keep k (Nat.lt_of_lt_of_le al bh.gN) ?_,bh.keep k al lD];intro b e eU af he x6;obtain⟨aoJ,Vh⟩:=uy af;rcases Nat.lt_or_ge b (B 0).n with aL|aL
  ·refine lD b e eU ?_ he ?_
   ·rw[<-bh.old b aL];exact Vh
   ·rw[<-ja.wY (Nat.zero_le i) aj b aL];exact x6
  ·have:=bh.new b e aL Vh
   omega
 ·
  intro t h;have rf:o.dst≠some t:=λah=>h i ai ((fj i).2 (.inl rfl)) (lk.trans ah)
  have:(a.put o.dst aB).tmps.getD t undef=a.tmps.getD t undef:=by
   rcases Nat.lt_or_ge t a.tmps.size with kN|kN
   ·rw[Act.sY _ _ _ _ kN,a_ rf]
   ·simp [fk,Array.getElem?_eq_none kN,Array.getElem?_eq_none (show (a.put o.dst aB).tmps.size<=t by rw[Act.size_put];exact kN)]
  rw[this];exact bh.other t λj hj hl=>h j hj ((fj j).2 (.inr hl))
 ·intro j t hj hl bg
  by_cases ek:j=i
  ·subst ek
   have kN:t<N:=cg j t hj bg;have:(a.put o.dst aB).tmps.getD t undef=aB:=by
    rw[Act.sY _ _ _ _ (by rw[bh.mC];exact kN),aY (lk.symm.trans bg)]
   rw[this];refine aC.mono λb e af=> ?_
   unfold restrict;rw[aY (Vd b e af)];exact Ve b e af
  ·have mW:=((fj j).1 hl).resolve_left ek
   have kN:t<N:=cg j t hj bg;have:(a.put o.dst aB).tmps.getD t undef=a.tmps.getD t undef:=by
    rw[Act.sY _ _ _ _ (by rw[bh.mC];exact kN),a_];intro ah;exact mG i j ai hj (Ne.symm ek) t (lk.trans ah) bg
   rw[this];refine(bh.val j t hj mW bg).mono λb e af=> ?_
   obtain⟨ad,ag⟩:=uy af;unfold restrict;rw[aY ad];exact Ny b e ag
end
end AE
namespace AE
variable [a7]
section
variable {P:aS} {ops:Array Oper}
omit [a7] in
theorem NA {ro:Option Nat} {Q:Exit->Act->ax->Prop} {m:Nat} (o1:∀i j,i<ops.size->direct ops i j=true->j<i) (vA:∀i j,i<ops.size->m<=j->j<i->Ns ops i j):
  ∀(bq k:Nat) (listed:Array Bool) (a:Act) (w:ax),m<=k->listed.size=ops.size->(∀i,listed.getD i false=decide (i<k/\i<ops.size))->
   ra listed<=bq->wpListIn (Fr ro) 0 P ops Q (ops.toList.drop k) a w->wpAnyIn (Fr ro) 0 P .any ops Q bq listed a w:=by
 intro bq
 induction bq with
 |zero=>
  intro k listed a w s9 aw hl aR h;have al:ops.size<=k:=by
   rcases Nat.lt_or_ge k ops.size with al|al
   ·exfalso
    have ad:=hl k;simp only [Nat.lt_irrefl,false_and,decide_false] at ad;have:=x3 (i:=k) (listed:=listed) aj (by rw[qF aj];exact ad);omega
   ·exact al
  have ao:Region.ready .any ops listed=[]:=by
   apply List.eq_nil_iff_forall_not_mem.2;intro i ai;obtain⟨aL,o,ho,_⟩:=mem_ready.1 ai;have la:i<ops.size:=(Array.getElem?_eq_some_iff.1 ho).1;rw[qF aj,hl i] at aL;simp [la] at aL;omega
  rw[List.drop_of_length_le (by simpa using al)] at h;exact⟨ao,h⟩
 |succ bq cA=>
  intro k listed a w s9 aw hl aR h;rcases Nat.lt_or_ge k ops.size with al|al
  ·have x7:listed.getD k false=false:=by rw[hl k];simp
   have ho:ops[k]? =some ops[k]:=Array.getElem?_eq_getElem al;have uA:k∈Region.ready .any ops listed:=by
    refine mem_ready.2 ⟨by rw[qF aj];exact x7,ops[k],ho,λe he af=> ?_⟩;have:direct ops k e.on=true:=by
     simp only [direct,ho];exact Array.any_eq_true'.2 ⟨e,he,by simp [af]⟩
    have:=o1 k e.on al this;rw[hl e.on];simp;omega
   refine⟨λaL=>absurd (aL▸uA) (by simp),λi ai=> ?_⟩;have NB:i=k:=by
    obtain⟨aL,o,mb,_⟩:=mem_ready.1 ai;have la:i<ops.size:=(Array.getElem?_eq_some_iff.1 mb).1;rw[qF aj,hl i] at aL;simp only [la,and_true,decide_eq_false_iff_not,Nat.not_lt] at aL;rcases Nat.lt_or_eq_of_le aL with r_|r_
    ·exfalso
     have down:∀i j,listed.getD i false=true->direct ops i j=true->listed.getD j false=true:=by
      intro i j ad ag;rw[hl i] at ad;simp only [decide_eq_true_eq] at ad;have:=o1 i j ad.2 ag;rw[hl j];simp;omega
     have:=vA i k la aj r_ listed down (qE ai);rw[x7] at this;cases this
    ·exact r_.symm
   subst NB;have aei:ops.toList.drop i=ops[i]::ops.toList.drop (i+1):=by
    rw[List.drop_eq_getElem_cons (by simpa using al)];simp
   rw[aei] at h;have Vi:∀a6 w',wpListIn (Fr ro) 0 P ops Q (ops.toList.drop (i+1)) a6 w'->wpAnyIn (Fr ro) 0 P .any ops Q bq (listed.setIfInBounds i true) a6 w':=by
    intro a6 w' ga;refine cA (i+1) _ a6 w' aj (by simpa using aw) ?_ ?_ ga
    ·intro j
     by_cases hj:j=i
     ·subst hj
      simp [fk,aw,al]
     ·rw[getD_set_ne false (Ne.symm hj),hl j]
      congr 1;simp only [eq_iff_iff];omega
    ·have:=x3 (i:=i) (listed:=listed) aj (by rw[qF aj];exact x7)
     omega
   unfold wpOpIn;simp only [ho];unfold wpListIn at h;split at h
   ·rename_i hw
    rw[aY hw];exact Oper.wpIn_mono Vi h
   ·rename_i hw
    rw[a_ hw];exact⟨h.1,Vi _ _ h.2⟩
  ·refine⟨λ_=> ?_,λi ai=> ?_⟩
   ·rw[List.drop_of_length_le (by simpa using al)] at h
    exact h
   ·exfalso
    obtain⟨aL,o,ho,_⟩:=mem_ready.1 ai;have la:i<ops.size:=(Array.getElem?_eq_some_iff.1 ho).1;rw[qF aj,hl i] at aL;simp [la] at aL;omega
end
section
variable {P:aS} [Lib P] [ej P] {C:iw} {gl:bY Nat} {N:Nat} {ds:List Deferred} {ro:Option Nat} {ops:Array Oper} {m:Nat} {du mD eK:aF} {L:List Nat} {B:Nat->a8} {vs:List J} {fF:b4} {w0:ax} {a0:Act}
theorem aej {Q:Exit->Act->ax->Prop} (hK:uw ops L m N=true) (c4:lT P gl C) (ja:pz fF B vs m) (lj:b2 fF (B 0) w0) (Da:mX gl fF) (zp:fE N ds fF mD a0) (Vb:(B m).n<=dead)
  (fq:hU N ops (λ_=>cB) (List.range m) mD=some du) (ad:hU N ops (λj=>vs.getD j cB) (List.range m) du=some eK)
  (hl:∀i o,i<m->ops[i]? =some o->C8 P C gl N ops L m du i o (vs.take i) (vs.getD i cB) (B i) (B (i+1)))
  (aek:∀φ a w,fE N ds φ eK a->cF fF (B 0) w0 φ (B m) w->wpListIn (Fr ro) 0 P ops Q (ops.toList.drop m) a w):
  ∀(bq:Nat) (listed:Array Bool) (a:Act) (w:ax) (φ:b4),r' gl N ds ops m B vs fF w0 a0 φ listed a w->(∀j∈L,j<m->listed.getD j false=true)->ra listed<=bq->wpAnyIn (Fr ro) 0 P .any ops Q bq listed a w:=by
 obtain⟨hm,oA,mG,cg,r4,o1,vA⟩:=C6 hK;have tail:∀(bq:Nat) (listed:Array Bool) (a:Act) (w:ax) (φ:b4),r' gl N ds ops m B vs fF w0 a0 φ listed a w->ra listed<=bq->(∀i,i<m->listed.getD i false=true)->wpAnyIn (Fr ro) 0 P .any ops Q bq listed a w:=by
  intro bq listed a w φ bh aR lU;refine NA o1 (λi j ai hj ek=>(vA i j ai aj ek).resolve_left aj) bq m listed a w (ch _) bh.size (λi=> ?_) aR ?_
  ·by_cases ai:i<m
   ·rw[lU i ai];simp;omega
   ·rw[bh.sZ i aj];simp;omega
  ·obtain⟨q1,aH⟩:=bh.done ja lj zp lU fq ad
   exact aek φ a w q1 aH
 intro bq
 induction bq with
 |zero=>
  intro listed a w φ bh Db aR;refine tail 0 listed a w φ bh aR λi ai=> ?_
  cases h:listed.getD i false with
  |true=>rfl
  |false=>
   exfalso;have:=x3 (i:=i) (listed:=listed) (by have:=bh.size;omega) (by rw[qF (by have:=bh.size;omega)];exact h);omega
 |succ bq cA=>
  intro listed a w φ bh Db aR;by_cases lU:∀i,i<m->listed.getD i false=true
  ·exact tail (bq+1) listed a w φ bh aR lU
  ·obtain⟨i0,vx⟩:=Classical.not_forall.1 lU
   obtain⟨Dc,rh⟩:=Classical.not_imp.1 vx;have rh:listed.getD i0 false=false:=by simpa using rh
   have uA:Region.ready .any ops listed≠[]:=by
    have key:∀n i,i<n->i<m->listed.getD i false=false->∃k,k∈Region.ready .any ops listed:=by
     intro n
     induction n with
     |zero=>intro i ai;omega
     |succ n Fc=>
      intro i ai mH Fe;by_cases hp:∀k,direct ops i k=true->listed.getD k false=true
      ·refine⟨i,mem_ready.2 ⟨by rw[qF (by have:=bh.size;omega)];exact Fe,ops[i]'(by omega),Array.getElem?_eq_getElem _,λe he af=>hp _ ?_⟩⟩
       have ho:ops[i]? =some (ops[i]'(by omega)):=Array.getElem?_eq_getElem _;simp only [direct,ho];exact Array.any_eq_true'.2 ⟨e,he,by simp [af]⟩
      ·obtain⟨k,al⟩:=Classical.not_forall.1 hp
       obtain⟨bg,x7⟩:=Classical.not_imp.1 al;have:=o1 i k aj bg;exact Fc k aj aj (by simpa using x7)
    obtain⟨k,al⟩:=key (i0+1) i0 aj Dc rh;intro h;rw[h] at al;cases al
   refine⟨λaL=>absurd aL uA,λi ai=> ?_⟩;obtain⟨s8,o,ho,_⟩:=mem_ready.1 ai;have la:i<ops.size:=(Array.getElem?_eq_some_iff.1 ho).1;have uB:listed.getD i false=false:=by rw[<-qF (by have:=bh.size;omega)];exact s8
   have mH:i<m:=by
    rcases Nat.lt_or_ge i m with h|h
    ·exact h
    ·exfalso
     rcases vA i i0 la h aj with ⟨x8,_⟩|ha
     ·have:=Db i0 x8 Dc
      rw[rh] at this;cases this
     ·have:=ha listed bh.down (qE ai)
      rw[rh] at this;cases this
   obtain⟨sl,gK,AX⟩:=hl i o mH ho;have NC:∃bH,vu P C gl ops o sl {B i with low:=(B i).n}=some (vs.getD i cB,bH)/\(B i).n<=bH.low/\B (i+1)={bH with low:=(B i).low}:=by
    rcases AX with ⟨x8,_⟩|⟨_,h⟩
    ·have:=Db i x8 mH
     rw[uB] at this;cases this
    ·exact h
   obtain⟨bH,aC,mT,rb⟩:=NC;have ael:=bh.here ja lj Vb mH;have s4:∀b e,fF b=some e->restrict φ (B i).n b=some e:=λb e af=>by
    have e4:=lj.lt af;have:=ja.s5 (Nat.zero_le i) aj;unfold restrict;rw[aY aj,bh.old b e4];exact af
   have C':∀t v,sl.get t=some v->aD (restrict φ (B i).n) v (a.tmps.getD t undef):=by
    intro t v pX;rcases oZ _ _ _ gK t v pX with ⟨j,hj,bg,rfl⟩|⟨x9,E_⟩
    ·have sa:=r4 i o mH ho j hj
     have ek:=o1 i j la sa;have mW:=qE ai j sa;have hval:=bh.val j t aj mW bg;have e1:(vs.take i).getD j cB=vs.getD j cB:=by
      simp only [dq,List.getElem?_take,aY ek]
     rw[e1];exact hval.mono (Va (ja.s5 aj aj))
    ·rcases oZ _ _ _ fq t v E_ with ⟨j,hj,bg,rfl⟩|⟨I7,vz⟩
     ·exact .cB _
     ·rw[bh.other t λj hj _=>I7 j (List.mem_range.2 hj)]
      exact(zp.get t v vz).mono s4
   unfold wpOpIn;simp only [ho];refine I2 c4 (ael.lower (B i).n) (Da.mono s4) C' aC λdb aB w' xY pV=> ?_
   obtain⟨fp,ND⟩:=bh.step ja lj mH hm ho uB (qE ai) mG cg mT rb xY pV;exact cA _ _ _ fp ND (λj hj fi=>by
    by_cases ek:j=i
    ·subst ek
     have:=bh.size;simp [fk,show j<listed.size by omega]
    ·rw[getD_set_ne false (Ne.symm ek)]
     exact Db j hj fi) (by
    have:=x3 (i:=i) (listed:=listed) (by have:=bh.size;omega) s8
    omega)
end
section
variable {P:aS} [Lib P] [ej P] {C:iw} {gl:bY Nat} {N:Nat} {ds:List Deferred} {ro:Option Nat} {ops:Array Oper} {m:Nat} {du mD:aF} {L:List Nat} {B:Nat->a8} {vs:List J} {fF:b4} {w0:ax} {a0:Act}
omit [Lib P] [ej P] in
theorem r'.aem {φ:b4} {listed:Array Bool} {a:Act} {w:ax} (bh:r' gl N ds ops m B vs fF w0 a0 φ listed a w) {i:Nat} {o:Oper} (ai:i<m) (hm:m<=ops.size) (ho:ops[i]? =some o) (s8:listed.getD i false=false)
  (uz:∀k,direct ops i k=true->listed.getD k false=true) (mG:∀i j,i<m->j<m->i≠j->∀t,fz ops i=some t->fz ops j≠some t) (cg:∀i t,i<m->fz ops i=some t->t<N)
  (rb:B (i+1)=B i) {aB:J} (aC:aD (restrict φ (B i).n) (vs.getD i cB) aB):r' gl N ds ops m B vs fF w0 a0 φ (listed.setIfInBounds i true) (a.put o.dst aB) w:=by
 have lk:fz ops i=o.dst:=by simp [fz,ho]
 have fj:∀j,(listed.setIfInBounds i true).getD j false=true↔j=i\/listed.getD j false=true:=by
  intro j;by_cases hj:j=i
  ·subst hj
   have:=bh.size;simp [fk,show j<listed.size by omega]
  ·rw[getD_set_ne false (Ne.symm hj)]
   simp [hj]
 refine⟨by simpa using bh.size,?_,?_,by rw[Act.C4];exact bh.defers,by rw[Act.size_put];exact bh.mC,bh.rel,bh.old,?_,?_,bh.new,bh.Nw,bh.keep,bh.gN,bh.os,bh.tape,bh.output,bh.drawn,?_,?_⟩
 ·intro j k hj bg
  rw[fj] at hj ⊢;rcases hj with rfl|hj
  ·exact .inr (uz k bg)
  ·exact .inr (bh.down j k hj bg)
 ·intro j hj
  rw[getD_set_ne false aj];exact bh.sZ j hj
 ·intro b e aL af
  obtain⟨j,hj,mW,iu⟩:=bh.mapped b e aL af;exact⟨j,hj,(fj j).2 (.inr mW),iu⟩
 ·intro j b hj hl iu
  rcases(fj j).1 hl with rfl|hl
  ·exfalso
   unfold own at iu;rw[rb] at iu;omega
  ·exact bh.total j b hj hl iu
 ·intro t h
  have rf:o.dst≠some t:=λah=>h i ai ((fj i).2 (.inl rfl)) (lk.trans ah)
  have:(a.put o.dst aB).tmps.getD t undef=a.tmps.getD t undef:=by
   rcases Nat.lt_or_ge t a.tmps.size with kN|kN
   ·rw[Act.sY _ _ _ _ kN,a_ rf]
   ·simp [fk,Array.getElem?_eq_none kN,Array.getElem?_eq_none (show (a.put o.dst aB).tmps.size<=t by rw[Act.size_put];exact kN)]
  rw[this];exact bh.other t λj hj hl=>h j hj ((fj j).2 (.inr hl))
 ·intro j t hj hl bg
  by_cases ek:j=i
  ·subst ek
   have kN:t<N:=cg j t hj bg;have:(a.put o.dst aB).tmps.getD t undef=aB:=by
    rw[Act.sY _ _ _ _ (by rw[bh.mC];exact kN),aY (lk.symm.trans bg)]
   rw[this,rb];exact aC
  ·have mW:=((fj j).1 hl).resolve_left ek
   have kN:t<N:=cg j t hj bg;have:(a.put o.dst aB).tmps.getD t undef=a.tmps.getD t undef:=by
    rw[Act.sY _ _ _ _ (by rw[bh.mC];exact kN),a_];intro ah;exact mG i j ai hj (Ne.symm ek) t (lk.trans ah) bg
   rw[this];exact bh.val j t hj mW bg
theorem aen {Q:Exit->Act->ax->Prop} (hK:uw ops L m N=true) (di:q' P) (ja:pz fF B vs m) (lj:b2 fF (B 0) w0) (Da:mX gl fF) (zp:fE N ds fF mD a0)
  (fq:hU N ops (λ_=>cB) (List.range m) mD=some du) (qG:∀c a w,¬Q (.panic c) a w)
  (hl:∀i o,i<m->ops[i]? =some o->C8 P C gl N ops L m du i o (vs.take i) (vs.getD i cB) (B i) (B (i+1)))
  (zq:∀(bq:Nat) (listed:Array Bool) (a:Act),r' gl N ds ops m B vs fF w0 a0 fF listed a w0->(∀j∈L,j<m->listed.getD j false=true)->ra listed<=bq->wpAnyIn (Fr ro) 0 P .any ops Q bq listed a w0):
  ∀(r:List Nat) (bq:Nat) (listed:Array Bool) (a:Act),(r≠[]->ro=none)->wW ops r listed=true->(∀i∈r,i∈L/\i<m)->(∀j∈L,j<m->listed.getD j false=true\/j∈r)->r' gl N ds ops m B vs fF w0 a0 fF listed a w0->
   ra listed<=bq->wpAnyIn (Fr ro) 0 P .any ops Q bq listed a w0:=by
 obtain⟨hm,oA,mG,cg,r4,o1,vA⟩:=C6 hK;intro r
 induction r with
 |nil=>
  intro bq listed a _ _ _ hL bh aR;exact zq bq listed a bh (λj hj fi=>(hL j hj fi).resolve_right (by simp)) aR
 |cons i r cA=>
  intro bq listed a dL x_ ao hL bh aR;have Ff:ro=none:=dL (by simp);obtain⟨x8,mH⟩:=ao i List.mem_cons_self;simp only [wW,c8] at x_;obtain⟨⟨uA,A0⟩,nW,x_⟩:=x_;have ai:i∈Region.ready .any ops listed:=by simpa using uA
  obtain⟨s8,o,ho,_⟩:=mem_ready.1 ai;have la:i<ops.size:=(Array.getElem?_eq_some_iff.1 ho).1;have uB:listed.getD i false=false:=by rw[<-qF (by have:=bh.size;omega)];exact s8
  rw[ho] at nW;simp only at nW;have Vj:=x3 (i:=i) (listed:=listed) (by have:=bh.size;omega) s8;cases bq with
  |zero=>omega
  |succ bq=>
   obtain⟨sl,gK,AX⟩:=hl i o mH ho;have NC:x5 P (dH gl sl) o=some (vs.getD i cB)/\B (i+1)=B i:=by
    rcases AX with ⟨_,h⟩|⟨av,_⟩
    ·exact h
    ·exact absurd x8 av
   obtain⟨qC,rb⟩:=NC;have s4:∀b e,fF b=some e->restrict fF (B i).n b=some e:=λb e af=>by
    have e4:=lj.lt af;have:=ja.s5 (Nat.zero_le i) aj;unfold restrict;rw[aY aj];exact af
   have C':∀t v,sl.get t=some v->aD (restrict fF (B i).n) v (a.tmps.getD t undef):=by
    intro t v pX;rcases oZ _ _ _ gK t v pX with ⟨j,hj,bg,rfl⟩|⟨x9,E_⟩
    ·have sa:=r4 i o mH ho j hj
     have ek:=o1 i j la sa;have mW:=qE ai j sa;have hval:=bh.val j t aj mW bg;have e1:(vs.take i).getD j cB=vs.getD j cB:=by
      simp only [dq,List.getElem?_take,aY ek]
     rw[e1];exact hval.mono (Va (ja.s5 aj aj))
    ·rcases oZ _ _ _ fq t v E_ with ⟨j,hj,bg,rfl⟩|⟨I7,vz⟩
     ·exact .cB _
     ·rw[bh.other t λj hj _=>I7 j (List.mem_range.2 hj)]
      exact(zp.get t v vz).mono s4
   obtain⟨aB,fy,aC⟩:=E' di (gU (Da.mono s4) C') qC;have w3:Region.wanted o (yielded ops a.tmps)=true:=by
    unfold x4 at nW;unfold Region.wanted;cases aA:o.guard with
    |none=>rfl
    |some g=>rw[aA] at nW;simp at nW
   have NF:∀w,o.about P w a.eval=none:=by
    intro w;unfold Oper.about;unfold x4 at nW;cases cz:o.op<;>simp only [cz,Bool.and_false,Bool.false_eq_true] at nW ⊢
   have NG:YieldsFenced P ops o aB a:=⟨.inl ⟨w3,fy⟩,NF⟩;refine wpAnyIn_take (F:=Fr ro) (by rw[Ff];rfl) ho oA A0 uA (λc a w h=>absurd h (qG c _ w)) NG ?_;refine cA bq _ _ (λ_=>Ff) x_ (λk al=>ao k (List.mem_cons_of_mem _ al)) (λj hj fi=> ?_) (bh.aem mH hm ho uB (qE ai) mG cg rb aC) aj;by_cases ek:j=i
   ·subst ek
    refine .inl ?_;have:=bh.size;simp [fk,show j<listed.size by omega]
   ·rw[getD_set_ne false (Ne.symm ek)]
    rcases hL j hj fi with h|h
    ·exact .inl h
    ·rcases List.mem_cons.1 h with rfl|h
     ·exact absurd rfl ek
     ·exact .inr h
end
omit [a7] in
theorem aeo {ops:Array Oper} {N:Nat} {gV:Bool} {L:List Nat} {m:Nat} (h:Nu ops N gV=some (L,m)):
  uw ops L m N=true/\wW ops L (Array.replicate ops.size false)=true/\(∀i∈L,i<m)/\(gV=true->L=[]):=by
 unfold Nu at h;simp only at h;generalize hm:Nt (U8 (bif gV then [] else vw ops)) ops.toList 0 [] 0=m' at h;generalize hL:(bif gV then [] else vw ops).filter (λi=>Nat.blt i m')=L' at h;cases af:(uw ops L' m' N&&wW ops L' (Array.replicate ops.size false)) with
 |false=>rw[af] at h;cases h
 |true=>
  rw[af] at h;cases h;simp only [c8] at af;refine⟨af.1,af.2,λi ai=> ?_,λao=> ?_⟩
  ·rw[<-hL] at ai
   exact Nat.blt_eq.mp (List.mem_filter.1 ai).2
  ·rw[<-hL,ao];rfl
section
variable {P:aS} [Lib P] [ej P] {C:iw} {gl:bY Nat} {N:Nat}
theorem Vk (cR:P.follows .mixedOrders=true) (c4:lT P gl C) {ro:Option Nat} {ds:List Deferred} {Q:Exit->Act->ax->Prop} {id:Nat} {ops:Array Oper} {sl dO:aF} {A a':a8} {r:List Oper} {φ:b4} {w:ax} {a:Act} (ao:b2 φ A w) (aA:mX gl φ) (aw:fE N ds φ sl a) {gV:Bool} (dL:gV=false->ro=none) (qG:∀c a w,¬Q (.panic c) a w)
  (h:I3 P C gl N gV ops sl A=some (dO,a',r)) (c_:∀db a6 w',fE N ds db dO a6->cF φ A w db a' w'->wpListIn (Fr ro) 0 P ops Q r a6 w'):(Code.region id ops true).wpIn (Fr ro) 0 P Q a w:=by
 unfold I3 at h;split at h
 ·rename_i L m zn
  obtain⟨hK,Fg,NH,aep⟩:=aeo zn;have aeq:m<=ops.size:=(C6 hK).1;split at h
  ·rename_i du fq
   split at h
   ·rename_i vs bH di
    cases af:Nat.ble bH.n dead with
    |false=>rw[af] at h;cases h
    |true=>
     rw[af,bF] at h;split at h
     ·rename_i eK ad
      cases h;obtain⟨B,cu,kk,jC,ud,pw⟩:=U9 _ 0 [] _ _ _ rfl di;have hlen:(ops.toList.take m).length=m:=by simp;omega
      rw[hlen] at kk;subst cu;have hl:∀i o,i<m->ops[i]? =some o->C8 P C gl N ops L m du i o (vs.take i) (vs.getD i cB) (B i) (B (i+1)):=by
       intro i o ai ho;have:=pw i o (by rw[List.getElem?_take,aY ai];simpa using ho);simpa using this
      have lj:b2 φ (B 0) {w with drawn:=w.drawn+1}:=(cF.zd ao (w.drawn+1)).rel;obtain⟨_,_,_,_,r4,o1,_⟩:=C6 hK;have ja:pz φ B vs m:=ad' c4 lj aA rfl aeq (λt v aC=>⟨_,aw.get t v aC⟩) fq (λi o ai ho j hj=>o1 i j aj (r4 i o ai ho j hj)) hl;refine wpIn_region_any cR ?_;refine aen hK c4.facts ja lj aA aw fq qG hl (λbq listed a2 ND Db Vl=>aej hK c4 ja lj aA aw (by rw[kk];exact Nat.ble_eq.mp af) fq ad hl (λgO eG w1 q1 aH=> ?_) bq listed a2 _ φ ND Db Vl) L ops.size _ a ?_ Fg (λi ai=>⟨ai,NH i ai⟩) (λj hj _=> .inr hj) ?_ ?_
      ·rw[kk] at aH
       exact c_ gO eG w1 q1 (cF.trans ao (cF.zd ao (w.drawn+1)) aH)
      ·intro c1
       refine dL ?_;cases ya:gV with
       |false=>rfl
       |true=>exact absurd (aep ya) c1
      ·have aR:∀i,(Array.replicate ops.size false).getD i false=false:=λi=>by
        rw[fk,Array.getElem?_replicate];split<;>rfl
       have NI:∀b e,φ b=some e->¬(B 0).n<=b:=λb e af=>by have:=lj.lt af;omega
       refine⟨by simp,λi j ai=>absurd ai (by rw[aR];simp),λi _=>aR i,aw.defers,aw.size,?_,λ_ _=>rfl,λb e aL af=>absurd aL (NI b e af),λj b _ hl=>absurd hl (by rw[aR];simp),
        λb e aL af=>absurd aL (NI b e af),λj b e b' e' hj ho _ af=> ?_,λ_ _ _=>rfl,ch _,rfl,rfl,rfl,ch _,λ_ _=>rfl,λi t _ hl=>absurd hl (by rw[aR];simp)⟩
       ·obtain⟨ψ,w',g1,_⟩:=ja.ex m (ch _)
        refine⟨g1.wf,λb e af=> ?_,λb e k b' e' k' af eh al dD c1=> ?_,λb e k b' e' k' af eh al dD aR jW=> ?_,lj.dn⟩
        ·obtain⟨k,al,q1,aH⟩:=lj.eE b e af
         exact⟨k,by rw[ja.wY (Nat.zero_le m) (ch _) b (lj.lt af)];exact al,q1,aH⟩
        ·rw[ja.wY (Nat.zero_le m) (ch _) b (lj.lt af)] at al
         rw[ja.wY (Nat.zero_le m) (ch _) b' (lj.lt eh)] at dD;exact lj.apart b e k b' e' k' af eh al dD c1
        ·rw[ja.wY (Nat.zero_le m) (ch _) b (lj.lt af)] at al
         rw[ja.wY (Nat.zero_le m) (ch _) b' (lj.lt eh)] at dD;exact lj.along b e k b' e' k' af eh al dD aR jW
       ·exfalso
        have:=ja.s5 (Nat.zero_le j) aj;exact NI b e af (Nat.le_trans this ho.1)
      ·unfold ra
       exact Nat.le_trans List.count_le_length (by simp)
     ·cases h
   ·cases h
  ·cases h
 ·cases h
theorem aer (cR:P.follows .mixedOrders=true) (c4:lT P gl C) {ro:Option Nat} {ds:List Deferred} {Q:Exit->Act->ax->Prop} {id:Nat} {ops:Array Oper} {sl dO:aF} {A a':a8} {φ:b4} {w:ax} {a:Act} (ao:b2 φ A w) (aA:mX gl φ) (aw:fE N ds φ sl a) {gV:Bool} (dL:gV=false->ro=none) (qG:∀c a w,¬Q (.panic c) a w)
  (h:Nv P C gl N gV ops sl A=some (dO,a')) (c_:∀db a6 w',fE N ds db dO a6->cF φ A w db a' w'->Q .normal a6 w'):(Code.region id ops true).wpIn (Fr ro) 0 P Q a w:=by
 unfold Nv at h;split at h
 ·rename_i eK bH r ad
  refine Vk cR c4 ao aA aw dL qG ad λgO eG w1 q1 aH=> ?_
  refine Np c4 _ _ _ _ _ _ _ _ aH.rel (aA.mono (aH.ext ao)) q1 h λfp a2 w2 cS dy=> ?_
  exact c_ fp a2 w2 cS (cF.trans ao aH dy)
 ·cases h
end
end AE
namespace AE
mutual
def zs:J->J->Bool
 | .bool a,.bool b=>a==b
 | .int k n,.int k' gd=>decide (k=k')&&decide (n=gd)
 | .complex k a b,.complex k' a6 b'=>decide (k=k')&&(Nat.beq a a6&&Nat.beq b b')
 | .string s,.string t=>s.data.toList==t.data.toList
 | .pointer none,.pointer none=>true
 | .pointer (some ⟨b,o,none⟩),.pointer (some ⟨b',o',none⟩)=>Nat.beq b b'&&Nat.beq o o'
 | .slice none l c,.slice none l' c'=>Nat.beq l l'&&Nat.beq c c'
 | .slice (some ⟨b,o,none⟩) l c,.slice (some ⟨b',o',none⟩) l' c'=>(Nat.beq b b'&&Nat.beq o o')&&(Nat.beq l l'&&Nat.beq c c')
 | .map none,.map none=>true
 | .map (some a),.map (some b)=>Nat.beq a b
 | .nilFunc,.nilFunc=>true
 | .nilIface,.nilIface=>true
 | .func (.func f) ⟨a⟩ ⟨b⟩,.func (.func g) ⟨a6⟩ ⟨b'⟩=>Nat.beq f g&&(uC a a6&&uC b b')
 | .func (.yield f) ⟨a⟩ ⟨b⟩,.func (.yield g) ⟨a6⟩ ⟨b'⟩=>Nat.beq f g&&(uC a a6&&uC b b')
 | .iface t v,.iface dr aB=>Nat.beq t dr&&zs v aB
 | .agg ⟨l⟩,.agg ⟨l'⟩=>uC l l'
 | .tuple ⟨l⟩,.tuple ⟨l'⟩=>uC l l'
 |_,_=>false
def uC:List J->List J->Bool
 |[],[]=>true
 |v::r,aB::eo=>zs v aB&&uC r eo
 |_,_=>false
end
mutual
theorem Fh:∀(a b:J),zs a b=true->a=b:=by
 intro a b h;unfold zs at h;split at h<;>try (simp only [c8,decide_eq_true_eq] at h)
 ·rw[eq_of_beq h]
 ·rw[h.1,h.2]
 ·rw[h.1,cI h.2.1,cI h.2.2]
 ·rename_i s t
  have:=eq_of_beq h;obtain⟨⟨s⟩⟩:=s;obtain⟨⟨t⟩⟩:=t;simp only at this;rw[this]
 ·rfl
 ·rw[cI h.1,cI h.2]
 ·rw[cI h.1,cI h.2]
 ·rw[cI h.1.1,cI h.1.2,cI h.2.1,cI h.2.2]
 ·rfl
 ·rw[cI h]
 ·rfl
 ·rfl
 ·rw[cI h.1,zt _ _ h.2.1,zt _ _ h.2.2]
 ·rw[cI h.1,zt _ _ h.2.1,zt _ _ h.2.2]
 ·rename_i t v dr aB
  rw[cI h.1,Fh v aB h.2]
 ·rw[zt _ _ h]
 ·rw[zt _ _ h]
 ·cases h
theorem zt:∀(a b:List J),uC a b=true->a=b
 |[],[],_=>rfl
 |v::r,aB::eo,h=>by
  unfold uC at h;simp only [c8] at h;rw[Fh v aB h.1,zt r eo h.2]
 |[],_::_,h=>by simp [uC] at h
 |_::_,[],h=>by simp [uC] at h
end
def aes {α:Type} (f:α->α->Bool):Option α->Option α->Bool
 |none,none=>true
 |some a,some b=>f a b
 |_,_=>false
def A1 {α:Type} (f:α->α->Bool):bY α->bY α->Bool
 | .nil,.nil=>true
 | .node v l r,.node aB l' eo=>aes f v aB&&(A1 f l l'&&A1 f r eo)
 |_,_=>false
theorem Fi {α:Type} {f:α->α->Bool} (aR:∀a b,f a b=true->a=b):∀(a b:bY α),A1 f a b=true->a=b
 | .nil,.nil,_=>rfl
 | .nil,.node _ _ _,h=>by cases h
 | .node _ _ _,.nil,h=>by cases h
 | .node v l r,.node aB l' eo,h=>by
   unfold A1 at h;simp only [c8] at h;rw[Fi aR l l' h.2.1,Fi aR r eo h.2.2];have ad:=h.1;cases v with
   |none=>cases aB with
    |none=>rfl
    |some b=>cases ad
   |some a=>cases aB with
    |none=>cases ad
    |some b=>rw[aR a b ad]
def Vm (a b:kj):Bool:=zs a.key b.key&&(zs a.val b.val&&Nat.beq a.born b.born)
def I8:List kj->List kj->Bool
 |[],[]=>true
 |a::r,b::eo=>Vm a b&&I8 r eo
 |_,_=>false
theorem Vn:∀(a b:List kj),I8 a b=true->a=b
 |[],[],_=>rfl
 |[],_::_,h=>by cases h
 |_::_,[],h=>by cases h
 |⟨k,v,n⟩::r,⟨k',aB,gd⟩::eo,h=>by
  unfold I8 Vm at h;simp only [c8] at h;rw[Fh _ _ h.1.1,Fh _ _ h.1.2.1,cI h.1.2.2,Vn r eo h.2]
def NJ:q2->q2->Bool
 | .cells c,.cells c'=>uC c c'
 | .map es e6,.map dt aeu=>I8 es dt&&Nat.beq e6 aeu
 | .gw (.xM s p),.gw (.xM fV p')=>s.data.toList==fV.data.toList&&Nat.beq p p'
 | .gw .deferred,.gw .deferred=>true
 | .gw .gone,.gw .gone=>true
 |_,_=>false
theorem aev {a b:q2} (h:NJ a b=true):a=b:=by
 unfold NJ at h;split at h<;>try (simp only [c8] at h)
 ·rw[zt _ _ h]
 ·rw[Vn _ _ h.1,cI h.2]
 ·rename_i s p fV p'
  have:=eq_of_beq h.1;obtain⟨⟨s⟩⟩:=s;obtain⟨⟨fV⟩⟩:=fV;simp only at this;rw[this,cI h.2]
 ·rfl
 ·rfl
 ·cases h
def NK (a b:h6):Bool:=NJ a.obj b.obj&&((Nat.beq a.cT b.cT&&Nat.beq a.pos b.pos)&&((Nat.beq a.eN b.eN&&Nat.beq a.ty b.ty)&&a.ro==b.ro))
theorem aew {a b:h6} (h:NK a b=true):a=b:=by
 obtain⟨o,f,p,s,r,t⟩:=a;obtain⟨o',iQ,p',fV,eo,dr⟩:=b;unfold NK at h;simp only [c8] at h;obtain⟨ad,⟨ag,ay⟩,⟨bG,cJ⟩,cU⟩:=h;rw[aev ad,cI ag,cI ay,cI bG,cI cJ,eq_of_beq cU]
def I9:List Nat->List Nat->Bool
 |[],[]=>true
 |a::r,b::eo=>Nat.beq a b&&I9 r eo
 |_,_=>false
theorem Vo:∀(a b:List Nat),I9 a b=true->a=b
 |[],[],_=>rfl
 |[],_::_,h=>by cases h
 |_::_,[],h=>by cases h
 |a::r,b::eo,h=>by
  unfold I9 at h;simp only [c8] at h;rw[cI h.1,Vo r eo h.2]
def I' (x y:aF×a8):Bool:=A1 zs x.1 y.1&&((A1 NK x.2.bl y.2.bl&&A1 I9 x.2.mem y.2.mem)&&(Nat.beq x.2.n y.2.n&&Nat.beq x.2.low y.2.low))
theorem aex {x y:aF×a8} (h:I' x y=true):x=y:=by
 obtain⟨sl,bl,n,mem,low⟩:=x;obtain⟨dO,aoK,gd,aoL,aoM⟩:=y;unfold I' at h;simp only [c8] at h;obtain⟨ad,⟨ag,ay⟩,bG,cJ⟩:=h;rw[Fi Fh _ _ ad,Fi (λ_ _=>aew) _ _ ag,Fi Vo _ _ ay,cI bG,cI cJ]
def A2 (P:aS) [Lib P] [ej P] (C:iw) (gl:bY Nat) (N:Nat) (ops:Array Oper):Nat->Array Bool->aF->a8->Option (aF×a8)
 |0,listed,sl,A=>match Region.ready .any ops listed with
  |[]=>some (sl,A)
  |_::_=>none
 |f+1,listed,sl,A=>
  let go:=λi=>match ops[i]? with
   |some o=>match wU P C gl N ops o sl A with
    |some (eK,bH)=>A2 P C gl N ops f (listed.setIfInBounds i true) eK bH
    |none=>none
   |none=>none
  match Region.ready .any ops listed with
  |[]=>some (sl,A)
  |i::r=>match go i with
   |some x=>match r.all (λj=>match go j with|some y=>I' x y|none=>false) with
    |true=>some x
    |false=>none
   |none=>none
def I_ (P:aS) [ej P] (gl:bY Nat) (N:Nat) (ops:Array Oper):List Nat->aF->Option aF
 |[],sl=>some sl
 |i::r,sl=>match ops[i]? with
  |some o=>match x5 P (dH gl sl) o with
   |some v=>match g' N sl o.dst v with
    |some eK=>I_ P gl N ops r eK
    |none=>none
   |none=>none
  |none=>none
def Ja:List Nat->Array Bool->Array Bool
 |[],l=>l
 |i::r,l=>Ja r (l.setIfInBounds i true)
def Jb (P:aS) [Lib P] [ej P] (C:iw) (gl:bY Nat) (N:Nat) (gV:Bool) (ops:Array Oper) (sl:aF) (A:a8):Option (aF×a8):=
 let L:=bif gV then [] else vw ops
 bif Nat.ble ops.size (L.length+64)&&(Region.noSelect ops&&(wW ops L (Array.replicate ops.size false)&&Nat.ble L.length ops.size)) then
  match I_ P gl N ops L sl with
  |some eK=>A2 P C gl N ops (ops.size-L.length) (Ja L (Array.replicate ops.size false)) eK A
  |none=>none
 else none
variable [a7]
section
variable {P:aS} [Lib P] [ej P] {C:iw} {gl:bY Nat} {N:Nat} {ds:List Deferred} {ro:Option Nat} {ops:Array Oper} {Q:Exit->Act->ax->Prop}
theorem Vp (c4:lT P gl C):∀(f:Nat) (listed:Array Bool) (sl dO:aF) (A a':a8) (φ:b4) (w:ax) (a:Act),b2 φ A w->mX gl φ->fE N ds φ sl a->A2 P C gl N ops f listed sl A=some (dO,a')->
  (∀db a6 w',fE N ds db dO a6->cF φ A w db a' w'->Q .normal a6 w')->wpAnyIn (Fr ro) 0 P .any ops Q f listed a w
 |0,listed,sl,dO,A,a',φ,w,a,ao,aA,aw,h,c_=>by
  unfold A2 at h;split at h
  ·rename_i w4
   cases h;exact wpAnyIn_done w4 (c_ φ a w aw (cF.refl ao)) 0
  ·cases h
 |f+1,listed,sl,dO,A,a',φ,w,a,ao,aA,aw,h,c_=>by
  unfold A2 at h;simp only at h;split at h
  ·rename_i w4
   cases h;exact wpAnyIn_done w4 (c_ φ a w aw (cF.refl ao)) _
  ·rename_i i r w4
   have lD:∀j∈i::r,(match ops[j]? with
     |some o=>match wU P C gl N ops o sl A with
      |some (eK,bH)=>A2 P C gl N ops f (listed.setIfInBounds j true) eK bH
      |none=>none
     |none=>none)=some (dO,a'):=by
    split at h
    ·rename_i x aq
     split at h
     ·rename_i af
      cases h;intro j hj;rcases List.mem_cons.1 hj with rfl|hj
      ·exact aq
      ·have eh:=List.all_eq_true.1 af j hj
       revert eh;generalize (match ops[j]? with
        |some o=>match wU P C gl N ops o sl A with
         |some (eK,bH)=>A2 P C gl N ops f (listed.setIfInBounds j true) eK bH
         |none=>none
        |none=>none)=z
       intro eh;cases z with
       |none=>cases eh
       |some y=>rw[aex eh]
     ·cases h
    ·cases h
   refine wpAnyIn_all w4 (by simp) λj hj=> ?_
   have gZ:=lD j hj;split at gZ
   ·rename_i o ho
    split at gZ
    ·rename_i eK bH c0
     obtain⟨v,aC,hp⟩:=Nl c0;unfold wpOpIn;rw[ho];refine I2 c4 ao aA aw.get aC λdb aB w' xY pV=> ?_
     exact Vp c4 f _ eK dO bH a' db w' (a.put o.dst aB) pV.rel (aA.mono (pV.ext ao)) ((aw.mono (pV.ext ao)).put xY hp) gZ λfp a2 w2 ad ag=>c_ fp a2 w2 ad (cF.trans ao pV ag)
    ·cases gZ
   ·cases gZ
omit [Lib P] in
theorem Vq (di:q' P) (oA:Region.noSelect ops=true) (Ff:ro=none) (qG:∀c a w,¬Q (.panic c) a w) {φ:b4} {w:ax} (aA:mX gl φ):∀(L:List Nat) (bq:Nat) (listed:Array Bool) (sl dO:aF) (a:Act),fE N ds φ sl a->wW ops L listed=true->I_ P gl N ops L sl=some dO->
  (∀a6,fE N ds φ dO a6->wpAnyIn (Fr ro) 0 P .any ops Q bq (Ja L listed) a6 w)->wpAnyIn (Fr ro) 0 P .any ops Q (bq+L.length) listed a w
 |[],bq,listed,sl,dO,a,aw,_,h,c_=>by
  cases h;exact c_ a aw
 |i::r,bq,listed,sl,dO,a,aw,x_,h,c_=>by
  simp only [wW,c8] at x_;obtain⟨⟨uA,A0⟩,nW,x_⟩:=x_;unfold I_ at h;split at h
  ·rename_i o ho
   rw[ho] at nW;simp only at nW;split at h
   ·rename_i v qC
    split at h
    ·rename_i eK eL
     obtain⟨aB,fy,aC⟩:=E' di (gU aA aw.get) qC;have w3:Region.wanted o (yielded ops a.tmps)=true:=by
      unfold x4 at nW;unfold Region.wanted;cases aA:o.guard with
      |none=>rfl
      |some g=>rw[aA] at nW;simp at nW
     have NF:∀w,o.about P w a.eval=none:=by
      intro w;unfold Oper.about;unfold x4 at nW;cases cz:o.op<;>simp only [cz,Bool.and_false,Bool.false_eq_true] at nW ⊢
     have NG:YieldsFenced P ops o aB a:=⟨.inl ⟨w3,fy⟩,NF⟩;show wpAnyIn (Fr ro) 0 P .any ops Q (bq+r.length+1) listed a w;refine wpAnyIn_take (F:=Fr ro) (by rw[Ff];rfl) ho oA A0 uA (λc a w h=>absurd h (qG c _ w)) NG ?_;exact Vq di oA Ff qG aA r bq _ eK dO (a.put o.dst aB) (aw.put aC eL) x_ h c_
    ·cases h
   ·cases h
  ·cases h
theorem Vr (cR:P.follows .mixedOrders=true) (c4:lT P gl C) {id:Nat} {sl dO:aF} {A a':a8} {φ:b4} {w:ax} {a:Act} (ao:b2 φ A w) (aA:mX gl φ) (aw:fE N ds φ sl a) {gV:Bool} (dL:gV=false->ro=none) (qG:∀c a w,¬Q (.panic c) a w)
  (h:Jb P C gl N gV ops sl A=some (dO,a')) (c_:∀db a6 w',fE N ds db dO a6->cF φ A w db a' w'->Q .normal a6 w'):(Code.region id ops true).wpIn (Fr ro) 0 P Q a w:=by
 unfold Jb at h;simp only at h;cases af:(Nat.ble ops.size ((bif gV then [] else vw ops).length+64)&&(Region.noSelect ops&&(wW ops (bif gV then [] else vw ops) (Array.replicate ops.size false)&&Nat.ble (bif gV then [] else vw ops).length ops.size))) with
 |false=>rw[af] at h;cases h
 |true=>
  rw[af,bF] at h;simp only [c8] at af;obtain⟨_,oA,Fg,hle⟩:=af;have NL:=Nat.ble_eq.mp hle;split at h
  ·rename_i eK aN
   have c0:=cF.zd ao (w.drawn+1) (Nat.le_succ _);refine wpIn_region_any cR ?_;have zq:∀a6,fE N ds φ eK a6->wpAnyIn (Fr ro) 0 P .any ops Q (ops.size-(bif gV then [] else vw ops).length) (Ja (bif gV then [] else vw ops) (Array.replicate ops.size false)) a6 {w with drawn:=w.drawn+1}:=
    λa6 o0=>Vp c4 _ _ eK dO A a' φ _ a6 c0.rel aA o0 h λfp a2 w2 ad ag=>c_ fp a2 w2 ad (cF.trans ao c0 ag)
   cases A3:gV with
   |true=>
    rw[A3] at aN zq;simp only [bF,List.length_nil,Nat.sub_zero] at aN zq;cases aN;exact zq a aw
   |false=>
    rw[A3] at aN zq Fg NL;simp only [eD] at aN zq Fg NL;have:=Vq c4.facts oA (dL A3) qG aA (vw ops) (ops.size-(vw ops).length) _ sl eK a aw Fg aN zq
    rwa [Nat.sub_add_cancel NL] at this
  ·cases h
end
end AE
namespace AE
variable [a7]
def a8.Dd (A:a8) (b:Nat) (x:CD):Option a8:=
 match A.bl.get b with
 |some k=>match k.obj,A.mem.get k.cT with
  | .gw _,some [m]=>bif Nat.beq m b&& !k.ro then
      match bY.set {k with obj:= .gw x} depth A.bl b with
      |some t=>some {A with bl:=t,low:=Nat.min A.low b}
      |none=>none
    else none
  |_,_=>none
 |none=>none
def a8.getLoop (A:a8) (b:Nat):Option Aw:=
 match A.bl.get b with
 |some k=>match k.obj with
  | .gw (.loop fX)=>some fX
  |_=>none
 |none=>none
section
variable {P:aS} {φ:b4} {A a':a8} {w:ax}
theorem Jc (ao:b2 φ A w) {b:Nat} {x:CD} {e:hS} {o':Obj} (he:φ b=some e) (h:A.Dd b x=some a') (ho:rV φ x o'):cF φ A w φ a' {w with heap:=w.heap.setIfInBounds e.bn o'}:=by
 unfold a8.Dd at h;split at h
 ·rename_i k al
  split at h
  ·rename_i fN m fK mU
   cases ar:(Nat.beq m b&& !k.ro) with
   |false=>rw[ar] at h;cases h
   |true=>
    rw[ar,bF] at h;simp only [c8,Bool.not_eq_true'] at ar;have E0:m=b:=cI ar.1;subst E0;have dL:=ar.2;split at h
    ·rename_i t aN
     cases h;have gP:=λj=>bY.oh _ _ _ _ _ j aN
     obtain⟨ez,h1,c0,CT⟩:=ao.eE m e he;rw[al] at h1;cases h1;have cg:=CT.lt;have MX:∀j cp,A.bl.get j=some cp->cp.cT=k.cT->j=m:=by
      intro j cp hj aR;obtain⟨l,q1,aH⟩:=ao.wf.mem j cp hj;rw[aR,mU] at q1;cases q1;simpa using aH
     have c1:∀j gk,j≠m->φ j=some gk->gk.bn≠e.bn:=by
      intro j gk hj ie;obtain⟨cp,h2,_,_⟩:=ao.eE j gk ie;exact ao.apart j gk cp m e k ie he h2 al λaR=>hj (MX j cp h2 aR)
     have qw:∀i,i≠e.bn->(w.heap.setIfInBounds e.bn o')[i]? =w.heap[i]? :=λi ai=>by
      rw[Array.getElem?_setIfInBounds_ne (Ne.symm ai)]
     have gJ:∀j dS,t.get j=some dS->∃cp,A.bl.get j=some cp/\dS.cT=cp.cT/\dS.pos=cp.pos/\dS.ro=cp.ro:=by
      intro j dS hj;rw[gP] at hj;by_cases fi:j=m
      ·rw[aY fi] at hj
       cases hj;subst fi;exact⟨k,al,rfl,rfl,rfl⟩
      ·rw[a_ fi] at hj
       exact⟨dS,hj,rfl,rfl,rfl⟩
     refine {rel:=⟨⟨?_,?_,?_,?_⟩,?_,?_,?_,λi o ai=>⟨by rw[qw i (Ne.symm ((ao.dn i o ai).2 _ _ he))];exact(ao.dn i o ai).1,(ao.dn i o ai).2⟩⟩,eE:=λ_ _=>rfl,rW:=λb ad ag=>absurd ag (by show ¬b<A.n;omega),new:=λb e ad ag=>absurd (ao.lt ag) aj,qv:=ch _,low:=Nat.min_le_left _ _,same:= ?_,ro:= ?_,keep:= ?_,gN:=by simp,os:=rfl,tape:=rfl,output:=rfl,drawn:=ch _}
     ·intro j dS hj
      obtain⟨cp,q1,_⟩:=gJ j dS hj;exact ao.wf.lt j cp q1
     ·intro j dS hj
      obtain⟨cp,q1,aH,_⟩:=gJ j dS hj;rw[aH];exact ao.wf.t' j cp q1
     ·intro j dS hj
      obtain⟨cp,q1,aH,_⟩:=gJ j dS hj;rw[aH];exact ao.wf.mem j cp q1
     ·intro j pT fL pU hj gZ aR
      obtain⟨cp,q1,aH,_,b0⟩:=gJ j pT hj;obtain⟨dS,vk,AB,_,sU⟩:=gJ fL pU gZ;rw[b0,sU];exact ao.wf.ve j cp fL dS q1 vk (by rw[<-aH,<-AB];exact aR)
     ·intro j gk hj
      by_cases fi:j=m
      ·subst fi
       rw[he] at hj;cases hj;refine⟨{k with obj:= .gw x},by rw[gP,aY rfl],c0,?_⟩;unfold fS at CT;simp only [fK] at CT;simp only [fS];exact⟨CT.1,o',by rw[Array.getElem?_setIfInBounds_self_of_lt cg],ho⟩
      ·obtain⟨cp,h2,wJ,iu⟩:=ao.eE j gk hj
       exact⟨cp,by rw[gP,a_ fi];exact h2,wJ,iu.mono (λ_ _ h=>h) (qw _ (c1 j gk fi hj))⟩
     ·intro j gk pT fL q4 pU q1 aH hj gZ nF
      obtain⟨cp,cS,dy,_⟩:=gJ j pT hj;obtain⟨dS,uq,vp,_⟩:=gJ fL pU gZ;exact ao.apart j gk cp fL q4 dS q1 aH cS uq (by rw[<-dy,<-vp];exact nF)
     ·intro j gk pT fL q4 pU q1 aH hj gZ aR af
      obtain⟨cp,cS,dy,gj,_⟩:=gJ j pT hj;obtain⟨dS,uq,vp,CR,_⟩:=gJ fL pU gZ;rw[gj,CR];exact ao.along j gk cp fL q4 dS q1 aH cS uq (by rw[<-dy,<-vp];exact aR) af
     ·intro j hj kL
      show t.get j=_;rw[gP,a_];intro fi;subst fi;exact absurd (Nat.lt_of_lt_of_le kL (Nat.min_le_right A.low j)) (Nat.lt_irrefl j)
     ·intro j cp h2 rZ
      show t.get j=_;rw[gP,a_]
      ·exact h2
      ·intro fi
       subst fi;rw[al] at h2;cases h2;rw[dL] at rZ;cases rZ
     ·intro i ai lD
      refine qw i λqx=> ?_
      have:=lD m e k he qx.symm al;rw[dL] at this;cases this
    ·cases h
  ·cases h
 ·cases h
theorem NM (ao:b2 φ A w) {b:Nat} {fX:Aw} {e:hS} (h:A.getLoop b=some fX) (he:φ b=some e):∃r,w.heap[e.bn]? =some (.loop r)/\rV φ (.loop fX) (.loop r)/\(Instr.getLoop e.bn).run P w= .ok r w/\
  ∀eo,(setObj e.bn (.loop eo)).run P w= .ok () {w with heap:=w.heap.setIfInBounds e.bn (.loop eo)}:=by
 unfold a8.getLoop at h;split at h
 ·rename_i k al
  split at h
  ·rename_i aoN fK
   cases h;obtain⟨k',dD,_,ho⟩:=ao.eE b e he;rw[al] at dD;cases dD;unfold fS at ho;simp only [fK] at ho;obtain⟨_,o',ad,ag⟩:=ho;obtain⟨r,rfl,_⟩:=id ag;refine⟨r,ad,ag,?_,λeo=> ?_⟩
   ·unfold Instr.getLoop
    exact dm (a:= .loop r) (w1:=w) (r7 ad (λ_ _ _ h=>by cases h)) rfl
   ·simp only [setObj,Sem.run,ad]
  ·cases h
 ·cases h
inductive ri (φ:b4):List Nat->List Deferred->Prop where
 |nil:ri φ [] []
 |cons {b:Nat} {e:hS} {ms:List Nat} {ds:List Deferred} (h:φ b=some e) (hm:ri φ ms ds):ri φ (b::ms) ({target:= .collected e.bn,args:= #[]}::ds)
omit [a7] in
theorem ri.mono {φ db:b4} {ms:List Nat} {ds:List Deferred} (ie:∀b e,φ b=some e->db b=some e) (h:ri φ ms ds):ri db ms ds:=by
 induction h with
 |nil=>exact .nil
 |cons h _ cA=>exact .cons (ie _ _ h) cA
def yb (A:a8):List Nat->Option a8
 |[]=>some A
 |b::r=>match A.bl.get b with
  |some k=>match k.obj with
   | .gw .deferred=>match A.Dd b .gone with
     |some bH=>yb bH r
     |none=>none
   |_=>none
  |none=>none
theorem NN {fn:Func} {tmps:Array J} {R:Ending->ax->Prop}:∀(ms:List Nat) (ds:List Deferred) (A a':a8) (w:ax),b2 φ A w->ri φ ms ds->yb A ms=some a'->
  (∀w',cF φ A w φ a' w'->LeavesInM (Fr none) 0 P fn tmps R [] .returning w')->LeavesInM (Fr none) 0 P fn tmps R ds .returning w
 |[],ds,A,a',w,ao,hm,h,c_=>by
  cases hm;cases h;exact c_ w (cF.refl ao)
 |b::ms,ds,A,a',w,ao,hm,h,c_=>by
  cases hm with
  |cons he hm=>
   rename_i e ds;unfold yb at h;split at h
   ·rename_i k al
    split at h
    ·rename_i fK
     split at h
     ·rename_i bH aw
      obtain⟨k',dD,_,ho⟩:=ao.eE b e he;rw[al] at dD;cases dD;unfold fS at ho;simp only [fK] at ho;obtain⟨_,o',ad,ag⟩:=ho;cases ag;have c0:=Jc (o':= .deferred none) ao he aw rfl;refine⟨by simp,.inl ⟨e.bn,_,rfl,?_,NN ms ds bH a' _ c0.rel (hm.mono (c0.ext ao)) h λw' hw=>c_ w' (cF.trans ao c0 hw)⟩⟩;unfold Instr.takeDeferred;refine dm (a:= .deferred (some [])) (w1:=w) (r7 ad (λ_ _ _ h=>by cases h)) ?_;exact dm (a:=()) (by simp only [setObj,Sem.run,ad]) rfl
     ·cases h
    ·cases h
   ·cases h
inductive ll where
 |normal
 |exit (id:Nat)
 |goto (l:Nat)
 |ret
def ll.exit':ll->Exit
 | .normal=> .normal
 | .exit id=> .exit id
 | .goto l=> .goto l
 | .ret=> .ret
structure b8 where
 sl:aF
 ms:List Nat
 A:a8
def yc (φ:b4) (A:a8) (w:ax) (N:Nat) (x:ll) (s:b8) (e:Exit) (a6:Act) (w':ax):Prop:=
 e=x.exit'/\∃db ds,ri db s.ms ds/\fE N ds db s.sl a6/\cF φ A w db s.A w'
theorem yc.trans {φ gO:b4} {A bH:a8} {w w1:ax} {N:Nat} {x:ll} {s:b8} {e:Exit} {a2:Act} {w2:ax} (ao:b2 φ A w) (ad:cF φ A w gO bH w1) (ag:yc gO bH w1 N x s e a2 w2):yc φ A w N x s e a2 w2:=by
 obtain⟨h,fp,ds,kC,q1,aH⟩:=ag;exact⟨h,fp,ds,kC,q1,cF.trans ao ad aH⟩
end
def Jd (f:b8->Option (ll×b8)):Nat->b8->Option (ll×b8)
 |0,_=>none
 |n+1,s=>match f s with
  |some (x,s1)=>match x with
   | .normal=>Jd f n s1
   | .exit id=>some (.exit id,s1)
   | .goto l=>some (.goto l,s1)
   | .ret=>some (.ret,s1)
  |none=>none
def NO:Option Code->Option ll
 |none=>some .normal
 |some .ret=>some .ret
 |some (.exit id)=>some (.exit id)
 |some (.goto l)=>some (.goto l)
 |_=>none
def Vs:LoopState->Bool
 | .busy=>true
 |_=>false
def NP (P:aS) [Lib P] [ej P] (C:iw) (gl:bY Nat) (N:Nat) (g:Operand) (ps:Array Tmp) (nH body:Code) (s:b8):Option (ll×b8):=
 match dH gl s.sl g with
 | .func (.func f) ⟨first⟩ ⟨NQ⟩=>bif enters P f then
     match s.A.push (.gw .deferred) 0 0 with
     |some (d,bH)=>match bH.push (.gw (.loop {state:= .ready,pending:=none,sl:=s.sl,N,params:=ps.toList,assign:=nH,body,EE:=d})) 0 0 with
      |some (l,f_)=>match C.call f (first++[.func (.yield l) ⟨[]⟩ ⟨[]⟩]++NQ) f_ with
       |some (_,A4)=>match A4.getLoop l with
        |some fX=>bif Vs fX.state then none else
         match A4.Dd l (.loop {fX with state:= .exhausted}),NO fX.pending with
         |some pY,some x=>some (x,{sl:=s.sl,ms:=d::s.ms,A:=pY})
         |_,_=>none
        |none=>none
       |none=>none
      |none=>none
     |none=>none
   else none
 |_=>none
def mY (P:aS) [Lib P] [ej P] (C:iw) (gl:bY Nat) (N:Nat) (gV:Bool) (bq:Nat):Code->b8->Option (ll×b8)
 | .skip,s=>some (.normal,s)
 | .label _,s=>some (.normal,s)
 | .exit id,s=>some (.exit id,s)
 | .goto l,s=>some (.goto l,s)
 | .ret,s=>some (.ret,s)
 | .region _ ops d,s=>match (bif d then (match Nv P C gl N gV ops s.sl s.A with|some r=>some r|none=>Jb P C gl N gV ops s.sl s.A) else wV P C gl N ops ops.toList s.sl s.A) with
   |some (eK,bH)=>some (.normal,{sl:=eK,ms:=s.ms,A:=bH})
   |none=>none
 | .seq x y,s=>match mY P C gl N gV bq x s with
   |some (x,s1)=>match x with
    | .normal=>mY P C gl N gV bq y s1
    | .exit id=>some (.exit id,s1)
    | .goto l=>some (.goto l,s1)
    | .ret=>some (.ret,s1)
   |none=>none
 | .cond c x y,s=>match dH gl s.sl c with
   | .bool t=>bif t then mY P C gl N gV bq x s else mY P C gl N gV bq y s
   |v=>match AU P v with
    |some t=>bif t then mY P C gl N gV bq x s else mY P C gl N gV bq y s
    |none=>none
 | .block id x,s=>match mY P C gl N gV bq x s with
   |some (x,s1)=>match x with
    | .normal=>some (.normal,s1)
    | .exit id'=>bif Nat.beq id' id then some (.normal,s1) else some (.exit id',s1)
    | .goto l=>some (.goto l,s1)
    | .ret=>some (.ret,s1)
   |none=>none
 | .loop x,s=>Jd (mY P C gl N gV bq x) bq s
 | .scope _,_=>none
 | .rangeFunc g ps nH body,s=>bif gV then none else NP P C gl N g ps nH body s
 | .refuse _,_=>none
def Vt (P:aS) (gl:bY Nat) (N:Nat) (ro:Option Nat) (c:Code) (f:b8->Option (ll×b8)):Prop:=
 ∀(s:b8) (x:ll) (fV:b8) (φ:b4) (w:ax) (a:Act) (ds:List Deferred),f s=some (x,fV)->b2 φ s.A w->mX gl φ->ri φ s.ms ds->fE N ds φ s.sl a->c.wpIn (Fr ro) 0 P (yc φ s.A w N x fV) a w
section
variable {P:aS} {gl:bY Nat} {N:Nat} {ro:Option Nat}
theorem Vu {c:Code} {f:b8->Option (ll×b8)} (aR:Vt P gl N ro c f):∀(n:Nat) (s:b8) (x:ll) (fV:b8) (φ:b4) (w:ax) (a:Act) (ds:List Deferred),Jd f n s=some (x,fV)->b2 φ s.A w->mX gl φ->ri φ s.ms ds->fE N ds φ s.sl a->
  ∀(Q:Exit->Act->ax->Prop),(∀e a6 w',yc φ s.A w N x fV e a6 w'->Q e a6 w')->Code.roundsIn (Fr ro) 0 P c Q n a w
 |0,s,x,fV,φ,w,a,ds,h,ao,aA,hm,aw,Q,c_=>by cases h
 |n+1,s,x,fV,φ,w,a,ds,h,ao,aA,hm,aw,Q,c_=>by
  unfold Jd at h;show c.wpIn (Fr ro) 0 P (Exit.then (Code.roundsIn (Fr ro) 0 P c Q n) Q) a w;split at h
  ·rename_i eJ s1 ad
   refine wpIn_mono (aR s eJ s1 φ w a ds ad ao aA hm aw) λe eG w1 aq=> ?_
   cases eJ with
   |normal=>
    obtain⟨rfl,gO,De,kC,q1,aH⟩:=aq;exact Vu aR n s1 x fV gO w1 eG De h aH.rel (aA.mono (aH.ext ao)) kC q1 Q λe a6 w' hp=>c_ e a6 w' (yc.trans ao aH hp)
   |exit Df=>cases h;obtain⟨rfl,_⟩:=id aq;exact c_ _ _ _ aq
   |goto l=>cases h;obtain⟨rfl,_⟩:=id aq;exact c_ _ _ _ aq
   |ret=>cases h;obtain⟨rfl,_⟩:=id aq;exact c_ _ _ _ aq
  ·cases h
end
end AE
namespace AE
variable [a7]
section
variable {P:aS} [Lib P] [ej P] {C:iw} {gl:bY Nat} {N:Nat}
omit [a7] in
omit [Lib P] [ej P] in
theorem aey {F:Fence} {n:Nat} {Q:Exit->Act->ax->Prop} {a:Act} {w:ax} {c:Code} {x:ll} (h:NO (some c)=some x) (c_:Q x.exit' a w):c.wpIn F n P Q a w:=by
 cases c<;>simp only [NO,cQ] at h<;>first|(cases h;done)|skip
 case ret=>cases h;exact wpIn_ret c_
 case exit id=>cases h;exact wpIn_exit c_
 case goto l=>cases h;exact wpIn_goto c_
theorem aez (c4:lT P gl C) {g:Operand} {ps:Array Tmp} {nH body:Code} {s:b8} {x:ll} {fV:b8} {φ:b4} {w:ax} {a:Act} {ds:List Deferred} (h:NP P C gl N g ps nH body s=some (x,fV))
  (ao:b2 φ s.A w) (aA:mX gl φ) (hm:ri φ s.ms ds) (aw:fE N ds φ s.sl a):(Code.rangeFunc g ps nH body).wpIn (Fr none) 0 P (yc φ s.A w N x fV) a w:=by
 unfold NP at h;split at h
 ·rename_i f first NQ o2
  cases vv:enters P f with
  |false=>rw[vv] at h;cases h
  |true=>
   rw[vv,bF] at h;split at h
   ·rename_i d bH hp1
    split at h
    ·rename_i l f_ hp2
     split at h
     ·rename_i v A4 ar
      split at h
      ·rename_i fX aeA
       cases af:Vs fX.state with
       |true=>rw[af] at h;cases h
       |false=>
        rw[af,eD] at h;split at h
        ·rename_i pY x' NR hj
         cases h;have w5:=gU aA aw.get g;rw[o2] at w5;have aeB:∃kI cs',a.eval g= .func (.func f) kI cs'/\h7 first φ kI/\h7 NQ φ cs':=by
          generalize a.eval g=u at w5;cases w5 with
          |func _ kI _ cs' av ad ag ay bG=>exact⟨kI,cs',rfl,h7.of ad ay,h7.of ag bG⟩
         obtain⟨kI,cs',aeC,Na,fT⟩:=aeB;have ot:=CG (o':= .deferred (some [])) (e:=⟨w.heap.size,0,0,0⟩) ao hp1 U U (by
          unfold fS
          exact⟨rfl,.deferred (some []),by simp,rfl⟩)
         have bg:=(ao.wf.push hp1).2.1;refine wpIn_rangeFunc λfn _=> ?_
         let pA:Loop:={state:= .ready,pending:=none,fn:=fn,tmps:=a.tmps,params:=ps,assign:=nH,body:=body,defers:=w.heap.size}
         have wL:=CG (o':= .loop pA) (e:=⟨w.heap.size+1,0,0,0⟩) ot.rel hp2 (by simp) rfl (by
          unfold fS;refine⟨rfl,.loop pA,by
           show ((w.heap.push (Obj.deferred (some []))).push (Obj.loop pA))[w.heap.size+1]? =_
           rw[Array.getElem?_push,aY (by simp)],pA,rfl,rfl,rfl,aw.size,rfl,rfl,rfl,⟨⟨w.heap.size,0,0,0⟩,?_,rfl⟩,λt v aC=> ?_⟩
          ·have cg:=(ot.rel.wf.push hp2).2.1
           have hJ:=(ao.wf.push hp1).2.2.1;show hk _ _ _ d=_;unfold hk;rw[a_ aj,aY rfl]
          ·refine(aw.get t v aC).mono λb e af=> ?_
           have cg:=(ot.rel.wf.push hp2).2.1;have hJ:=(ao.wf.push hp1).2.2.1;have:=ao.lt af;unfold hk;rw[a_ aj,a_ aj]
           exact af)
         have zu:=cF.trans ao ot wL;have Je:=zu.ext ao;have Vv:hk (hk φ d ⟨w.heap.size,0,0,0⟩) l ⟨w.heap.size+1,0,0,0⟩ l=some ⟨w.heap.size+1,0,0,0⟩:=by unfold hk;rw[aY rfl]
         have A5:hk (hk φ d ⟨w.heap.size,0,0,0⟩) l ⟨w.heap.size+1,0,0,0⟩ d=some ⟨w.heap.size,0,0,0⟩:=by
          have cg:=(ot.rel.wf.push hp2).2.1;have hJ:=(ao.wf.push hp1).2.2.1;unfold hk;rw[a_ aj,aY rfl]
         have aeD:aD (hk (hk φ d ⟨w.heap.size,0,0,0⟩) l ⟨w.heap.size+1,0,0,0⟩) (.func (.yield l) ⟨[]⟩ ⟨[]⟩) (.func (.yield (w.heap.size+1)) #[] #[]):= .tZ Vv;have Vw:∀{Vx:List J} {Vy:Array J},h7 Vx φ Vy->h7 Vx (hk (hk φ d ⟨w.heap.size,0,0,0⟩) l ⟨w.heap.size+1,0,0,0⟩) Vy:=λh=>⟨h.1,λj hj=>(h.2 j hj).mono Je⟩
         have ad:h7 [.func (.yield l) ⟨[]⟩ ⟨[]⟩] (hk (hk φ d ⟨w.heap.size,0,0,0⟩) l ⟨w.heap.size+1,0,0,0⟩) #[.func (.yield (w.heap.size+1)) #[] #[]]:=⟨rfl,λj hj=>by
          have:j=0:=by simpa using hj
          subst this
          exact aeD⟩
         have gM:=((Vw Na).append ad).append (Vw fT);refine⟨w.heap.size+1,[{target:= .collected w.heap.size,args:= #[]}],{w with heap:=(w.heap.push (.deferred (some []))).push (.loop pA)},{target:= .fn (.func f) cs',args:=kI++ #[.func (.yield (w.heap.size+1)) #[] #[]]},{w with heap:=(w.heap.push (.deferred (some []))).push (.loop pA)},f,kI++ #[.func (.yield (w.heap.size+1)) #[] #[]]++cs',{w with heap:=(w.heap.push (.deferred (some []))).push (.loop pA)},?_,?_,λ_ _=>trivial,?_,λh=>absurd h (by simp [Fr,Fence.wide]),
          CallsIn.mono (C3 (c4.call f _ f_ v A4 _ _ _ ar zu.rel (aA.mono Je) gM)) λe Jf he=> ?_⟩
         ·unfold Instr.enterLoop
          simp only [Fr];have Mq:(newObj (.deferred (some []))).run P w= .ok w.heap.size {w with heap:=w.heap.push (.deferred (some []))}:=rfl;have gJ:(newObj (.loop pA)).run P {w with heap:=w.heap.push (.deferred (some []))}= .ok (w.heap.size+1) {w with heap:=(w.heap.push (.deferred (some []))).push (.loop pA)}:=by
           simp only [newObj,Sem.run,Array.size_push]
          refine dm Mq ?_;refine c9 (a:=(w.heap.size,[({target:= .collected w.heap.size,args:= #[]}:Deferred)])) rfl ?_;exact dm (k:=λx=>pure (x,[({target:= .collected w.heap.size,args:= #[]}:Deferred)])) gJ rfl
         ·unfold resolve
          simp only [rangeCall,aeC,List.map_toArray,List.map_cons,List.map_nil];rfl
         ·exact jD (E4 vv _) _
         ·cases e with
          |returned aB=>
           obtain⟨Fj,_,w6⟩:=he;have Fk:=w6.ext zu.rel _ _ Vv;obtain⟨r,q1,aH,b0,eF⟩:=NM (P:=P) w6.rel aeA Fk;obtain⟨eo,T8,aeE,NS,wM⟩:=id aH;cases T8;have NT:=Jc (o':= .loop {r with state:= .exhausted}) w6.rel Fk NR (by
            obtain⟨uD,yd,A6,A7,Fl,Fm⟩:=wM
            exact⟨{r with state:= .exhausted},rfl,rfl,NS,uD,yd,A6,A7,Fl,Fm⟩)
           have NU:=cF.trans ao zu (cF.trans zu.rel w6 NT);have aeF:ri Fj (d::s.ms) ({target:= .collected w.heap.size,args:= #[]}::ds):= .cons (w6.ext zu.rel _ _ A5) (hm.mono λb e af=>w6.ext zu.rel _ _ (Je b e af));have ye:fE N ({target:= .collected w.heap.size,args:= #[]}::ds) Fj s.sl {a with defers:=[{target:= .collected w.heap.size,args:= #[]}]++a.defers}:=
            ⟨aw.size,by simp [aw.defers],λt v aC=>(aw.get t v aC).mono λb e af=>w6.ext zu.rel _ _ (Je b e af)⟩
           refine⟨fX.pending,{Jf with heap:=Jf.heap.setIfInBounds (w.heap.size+1) (.loop {r with state:= .exhausted})},?_,?_⟩
           ·unfold Instr.endLoop
            refine dm b0 ?_;have AJ:(r.state==LoopState.busy)=false:=by
             rw[aeE];cases c0:fX.state<;>rw[c0] at af<;>first|rfl|cases af
            rw[AJ];simp only [Bool.false_eq_true,if_false];refine dm (a:=()) (eF _) ?_;rw[NS];rfl
           ·have post:yc φ s.A w N x ⟨s.sl,d::s.ms,pY⟩ x.exit' {a with defers:=[{target:= .collected w.heap.size,args:= #[]}]++a.defers} {Jf with heap:=Jf.heap.setIfInBounds (w.heap.size+1) (.loop {r with state:= .exhausted})}:=
             ⟨rfl,Fj,_,aeF,ye,NU⟩
            cases zv:fX.pending with
            |none=>
             rw[zv] at hj;cases hj;exact post
            |some c=>
             rw[zv] at hj;exact aey hj post
          |panicked cn=>exact he.elim
          |outgrown=>exact he.elim
        ·cases h
      ·cases h
     ·cases h
    ·cases h
   ·cases h
 ·cases h
end
section
variable {P:aS} [Lib P] [ej P] {C:iw} {gl:bY Nat} {N:Nat}
theorem uE (cR:P.follows .mixedOrders=true) (c4:lT P gl C) (gV:Bool) {ro:Option Nat} (dL:gV=false->ro=none) (bq:Nat):∀c:Code,Vt P gl N ro c (mY P C gl N gV bq c)
 | .skip,s,x,fV,φ,w,a,ds,h,ao,aA,hm,aw=>by cases h;exact wpIn_skip ⟨rfl,φ,ds,hm,aw,cF.refl ao⟩
 | .label _,s,x,fV,φ,w,a,ds,h,ao,aA,hm,aw=>by cases h;exact wpIn_label ⟨rfl,φ,ds,hm,aw,cF.refl ao⟩
 | .exit id,s,x,fV,φ,w,a,ds,h,ao,aA,hm,aw=>by cases h;exact wpIn_exit ⟨rfl,φ,ds,hm,aw,cF.refl ao⟩
 | .goto l,s,x,fV,φ,w,a,ds,h,ao,aA,hm,aw=>by cases h;exact wpIn_goto ⟨rfl,φ,ds,hm,aw,cF.refl ao⟩
 | .ret,s,x,fV,φ,w,a,ds,h,ao,aA,hm,aw=>by cases h;exact wpIn_ret ⟨rfl,φ,ds,hm,aw,cF.refl ao⟩
 | .region id ops d,s,x,fV,φ,w,a,ds,h,ao,aA,hm,aw=>by
   unfold mY at h;cases d with
   |true=>
    simp only [bF] at h;split at h
    ·rename_i s1 bH ad
     cases h;split at ad
     ·rename_i pA aL
      cases ad;exact aer cR c4 ao aA aw dL (λc a w aq=>by obtain⟨he,_⟩:=aq;cases he) aL λfp a2 w2 cS dy=>⟨rfl,fp,ds,hm.mono (dy.ext ao),cS,dy⟩
     ·exact Vr cR c4 ao aA aw dL (λc a w aq=>by obtain⟨he,_⟩:=aq;cases he) ad λfp a2 w2 cS dy=>⟨rfl,fp,ds,hm.mono (dy.ext ao),cS,dy⟩
    ·cases h
   |false=>
    simp only [eD] at h;split at h
    ·rename_i s1 bH ad
     cases h;exact wpIn_region_list (Np c4 _ _ _ _ _ _ _ _ ao aA aw ad λfp a2 w2 cS dy=>⟨rfl,fp,ds,hm.mono (dy.ext ao),cS,dy⟩)
    ·cases h
 | .seq hA c2,s,x,fV,φ,w,a,ds,h,ao,aA,hm,aw=>by
   unfold mY at h;refine wpIn_seq ?_;split at h
   ·rename_i eJ s1 ad
    refine wpIn_mono (uE cR c4 gV dL bq hA s eJ s1 φ w a ds ad ao aA hm aw) λe eG w1 aq=> ?_
    cases eJ with
    |normal=>
     obtain⟨rfl,gO,De,kC,q1,aH⟩:=aq;exact wpIn_mono (uE cR c4 gV dL bq c2 s1 x fV gO w1 eG De h aH.rel (aA.mono (aH.ext ao)) kC q1) λe a2 w2 hp=>yc.trans ao aH hp
    |exit Df=>cases h;obtain⟨rfl,_⟩:=id aq;exact aq
    |goto l=>cases h;obtain⟨rfl,_⟩:=id aq;exact aq
    |ret=>cases h;obtain⟨rfl,_⟩:=id aq;exact aq
   ·cases h
 | .cond c hA c2,s,x,fV,φ,w,a,ds,h,ao,aA,hm,aw=>by
   unfold mY at h;split at h
   ·rename_i t ar
    have A8:=gU aA aw.get c;rw[ar] at A8;have aeG:a.eval c= .bool t:=by
     cases A9:a.eval c<;>rw[A9] at A8<;>cases A8
     rfl
    refine wpIn_cond aeG ?_;cases t with
    |true=>exact uE cR c4 gV dL bq hA s x fV φ w a ds h ao aA hm aw
    |false=>exact uE cR c4 gV dL bq c2 s x fV φ w a ds h ao aA hm aw
   ·split at h
    ·rename_i t aN
     refine wpIn_cond (IZ c4.facts w aN (gU aA aw.get c)) ?_;cases t with
     |true=>exact uE cR c4 gV dL bq hA s x fV φ w a ds h ao aA hm aw
     |false=>exact uE cR c4 gV dL bq c2 s x fV φ w a ds h ao aA hm aw
    ·cases h
 | .block Vz c,s,x,fV,φ,w,a,ds,h,ao,aA,hm,aw=>by
   unfold mY at h;refine wpIn_block ?_;split at h
   ·rename_i eJ s1 ad
    refine wpIn_mono (uE cR c4 gV dL bq c s eJ s1 φ w a ds ad ao aA hm aw) λe eG w1 aq=> ?_
    cases eJ with
    |normal=>cases h;obtain⟨rfl,_⟩:=id aq;exact aq
    |goto l=>cases h;obtain⟨rfl,_⟩:=id aq;exact aq
    |ret=>cases h;obtain⟨rfl,_⟩:=id aq;exact aq
    |exit Df=>
     obtain⟨rfl,aq⟩:=aq;show if Df=Vz then _ else _
     cases af:Nat.beq Df Vz with
     |true=>
      simp only [af,bF] at h;cases h;rw[aY (cI af)];exact⟨rfl,aq⟩
     |false=>
      simp only [af,eD] at h;cases h;rw[a_ (λe=>by subst e;rw[Nat.beq_refl] at af;cases af)];exact⟨rfl,aq⟩
   ·cases h
 | .loop c,s,x,fV,φ,w,a,ds,h,ao,aA,hm,aw=>by
   unfold mY at h;exact wpIn_loop_rounds bq (Vu (uE cR c4 gV dL bq c) bq s x fV φ w a ds h ao aA hm aw _ λ_ _ _ aq=>aq)
 | .scope c,s,x,fV,φ,w,a,ds,h,ao,aA,hm,aw=>by cases h
 | .rangeFunc g ps nH body,s,x,fV,φ,w,a,ds,h,ao,aA,hm,aw=>by
   unfold mY at h;cases A3:gV with
   |true=>rw[A3] at h;cases h
   |false=>
    rw[A3,eD] at h;have:=dL A3;subst this;exact aez c4 h ao aA hm aw
 | .refuse _,s,x,fV,φ,w,a,ds,h,ao,aA,hm,aw=>by cases h
end
def setArgs:Nat->List J->aF->Option aF
 |_,[],sl=>some sl
 |i,v::r,sl=>match bY.set v depth sl i with
  |some s=>setArgs (i+1) r s
  |none=>none
omit [a7] in
theorem NV:∀(l:List J) (i:Nat) (sl dO:aF),setArgs i l sl=some dO->∀t v,dO.get t=some v->(∃j,j<l.length/\t=i+j/\v=l.getD j undef)\/sl.get t=some v
 |[],i,sl,dO,h,t,v,aC=>by
  cases h;exact .inr aC
 |u::r,i,sl,dO,h,t,v,aC=>by
  unfold setArgs at h;split at h
  ·rename_i s aw
   rcases NV r (i+1) s dO h t v aC with ⟨j,hj,aN,aeH⟩|aA
   ·exact .inl ⟨j+1,by simp;omega,aj,by simpa using aeH⟩
   ·rw[bY.oh _ _ _ _ _ t aw] at aA
    by_cases aN:t=i
    ·subst aN
     rw[aY rfl] at aA;cases aA;exact .inl ⟨0,by simp,rfl,rfl⟩
    ·rw[a_ aN] at aA
     exact .inr aA
  ·cases h
def w7 (P:aS) (A:a8) (sl:aF):List ResultVar->Option (List J)
 |[]=>some []
 | .tmp t::r=>match w7 P A sl r with
   |some vs=>some (slot sl t::vs)
   |none=>none
 | .cell a t::r=>match CL P A t (slot sl a),w7 P A sl r with
   |some v,some vs=>some (v::vs)
   |_,_=>none
def yf:List J->J
 |[v]=>v
 |vs=> .tuple ⟨vs⟩
section
variable {P:aS} {φ:b4} {A a':a8} {w:ax}
theorem aeI (ao:b2 φ A w) {t:aK} {p p' v:J} (hp:aD φ p p') (h:CL P A t p=some v):∃aB,(do loadVar t (<-asAddr p')).run P w= .ok aB w/\aD φ v aB:=by
 unfold CL at h;split at h
 ·rename_i b off
  cases hp with
  |ptr he=>
   unfold loadVar;cases qy:bk P (isAgg t) with
   |none=>rw[qy] at h;cases h
   |some EK=>
    rw[qy] at h;cases EK with
    |false=>
     simp only at h;obtain⟨aB,ad,ag⟩:=vi ao h he;refine⟨aB,c9 (a:=(⟨_,_,none⟩:Addr)) rfl (c9 qy ?_),ag⟩;simp [Go.load,Sem.run,ad]
    |true=>
     simp only at h;cases cv:bk P (sizeOf t) with
     |none=>rw[cv] at h;cases h
     |some n=>
      rw[cv] at h;simp only at h;obtain⟨l,hl,rfl⟩:=Option.map_eq_some_iff.1 h;obtain⟨cN,ad,ag,ay⟩:=EH ao P hl he;refine⟨.agg cN,c9 (a:=(⟨_,_,none⟩:Addr)) rfl (c9 qy ?_),.agg _ _ (by simp [ag]) λi ai=>by simpa using ay i (by simpa using ai)⟩;simp only [if_true];exact c9 cv (dm ad rfl)
 ·cases h
def NW (tmps:Array J):ResultVar->Sem J
 | .tmp t=>pure (tmps.getD t undef)
 | .cell a t=>do loadVar t (<-asAddr (tmps.getD a undef))
theorem NY (ao:b2 φ A w) {sl:aF} {tmps:Array J} (aw:∀t v,sl.get t=some v->aD φ v (tmps.getD t undef)):∀(l:List ResultVar) (vs:List J),w7 P A sl l=some vs->
  ∃cN,(l.mapM (NW tmps)).run P w= .ok cN w/\h7 vs φ ⟨cN⟩
 |[],vs,h=>by
  cases h;exact⟨[],rfl,rfl,λj hj=>absurd hj (by simp)⟩
 | .tmp t::r,vs,h=>by
   unfold w7 at h;split at h
   ·rename_i us hu
    cases h;obtain⟨NZ,ad,ag,ay⟩:=NY ao aw r us hu;refine⟨tmps.getD t undef::NZ,?_,by simpa using ag,λj hj=> ?_⟩
    ·rw[List.mapM_cons]
     exact c9 (a:=tmps.getD t undef) rfl (dm ad rfl)
    ·cases j with
     |zero=>exact I0 (aw t)
     |succ j=>simpa using ay j (by simpa using hj)
   ·cases h
 | .cell a t::r,vs,h=>by
   unfold w7 at h;split at h
   ·rename_i v us aC hu
    cases h;obtain⟨NZ,ad,ag,ay⟩:=NY ao aw r us hu;obtain⟨aB,g1,g2⟩:=aeI ao (I0 (aw a)) aC;refine⟨aB::NZ,?_,by simpa using ag,λj hj=> ?_⟩
    ·rw[List.mapM_cons]
     exact dm g1 (dm ad rfl)
    ·cases j with
     |zero=>exact g2
     |succ j=>simpa using ay j (by simpa using hj)
   ·cases h
theorem VA (ao:b2 φ A w) {sl:aF} {fn:Func} {tmps:Array J} (aw:∀t v,sl.get t=some v->aD φ v (tmps.getD t undef)) {vs:List J} (h:w7 P A sl fn.results.toList=some vs):
  ∃aB,(results fn tmps).run P w= .ok aB w/\aD φ (yf vs) aB:=by
 obtain⟨cN,ad,ag,ay⟩:=NY ao aw _ vs h;have e:results fn tmps=(fn.results.mapM (NW tmps)) >>= λvs=>pure (if h:vs.size=1 then vs[0] else .tuple vs):=by
  unfold results;congr 1
 rw[e,Array.mapM_eq_mapM_toList];refine⟨_,dm (a:=(⟨cN⟩:Array J)) (dm ad rfl) rfl,?_⟩
 match vs,cN,ag,ay with
 |[v],[aB],_,ay=>exact ay 0 (by simp)
 |[],[],_,_=>exact .tuple _ _ rfl λi ai=>absurd ai (by simp)
 |a::b::r,a6::b'::eo,ag,ay=>exact .tuple _ _ (by simpa using ag.symm) λi ai=>by simpa using ay i (by simpa using ai)
end
def A' (N:Nat):List Tmp->List J->aF->Option aF
 |[],[],sl=>some sl
 |t::c7,v::vs,sl=>match g' N sl (some t) v with
  |some s=>A' N c7 vs s
  |none=>none
 |_,_,_=>none
def VB:LoopState->Bool
 | .ready=>true
 |_=>false
def zw:ll->Option Code
 | .normal=>none
 | .exit id=>some (.exit id)
 | .goto l=>some (.goto l)
 | .ret=>some .ret
def Dg:ll->LoopState
 | .normal=> .ready
 |_=> .done
def Fo:ll->Bool
 | .normal=>true
 |_=>false
def N0 (P:aS) [Lib P] [ej P] (gl:bY Nat) (bq:Nat) (C:iw) (b:Nat) (args:List J) (A:a8):Option (J×a8):=
 match A.getLoop b with
 |some fX=>match A' fX.N fX.params args fX.sl with
  |some mD=>match mY P C gl fX.N true bq fX.assign {sl:=mD,ms:=[],A} with
   |some (.normal,s1)=>match s1.A.getLoop b with
    |some Fp=>bif VB Fp.state then
      match s1.A.Dd b (.loop {Fp with state:= .busy}) with
      |some f_=>match mY P C gl fX.N true bq fX.body {sl:=s1.sl,ms:=s1.ms,A:=f_} with
       |some (x,sb)=>match sb.A.getLoop b with
        |some VC=>match sb.A.Dd b (.loop {VC with state:=Dg x,pending:=zw x}) with
         |some pY=>some (.bool (Fo x),pY)
         |none=>none
        |none=>none
       |none=>none
      |none=>none
     else none
    |none=>none
   |_=>none
  |none=>none
 |none=>none
def N1 (P:aS) [Lib P] [ej P] (gl:bY Nat) (bq:Nat) (C:iw) (f:FuncId) (args:List J) (A:a8):Option (J×a8):=
 match P.funcs[f]? with
 |some fn=>match fn.body with
  |some c=>match setArgs 0 args .nil with
   |some sl=>match mY P C gl (args.length+(fn.ntmps-args.length)) false bq c {sl,ms:=[],A} with
    |some (x,s1)=>match x with
     | .exit _=>none
     | .goto _=>none
     |_=>match yb s1.A s1.ms with
      |some f_=>match w7 P f_ s1.sl fn.results.toList with
       |some vs=>some (yf vs,f_)
       |none=>none
      |none=>none
    |none=>none
   |none=>none
  |none=>none
 |none=>none
section
variable {P:aS} {gl:bY Nat}
theorem fE.A' {N:Nat} {ds:List Deferred} {φ:b4}:∀(c7:List Tmp) (vs:List J) (us:List J) (sl dO:aF) (a:Act),fE N ds φ sl a->AE.A' N c7 vs sl=some dO->us.length=vs.length->(∀j,j<vs.length->aD φ (vs.getD j undef) (us.getD j undef))->
  c7.length=us.length/\fE N ds φ dO {a with tmps:=(c7.zip us).foldl (λtmps p=>tmps.setIfInBounds p.1 p.2) a.tmps}
 |[],[],us,sl,dO,a,aw,h,hl,aC=>by
  cases h;have:us=[]:=by simpa using hl
  subst this;exact⟨rfl,aw⟩
 |t::c7,v::vs,us,sl,dO,a,aw,h,hl,aC=>by
  unfold AE.A' at h;split at h
  ·rename_i s1 ad
   cases us with
   |nil=>simp at hl
   |cons u us=>
    have eL:=aw.put (by simpa using aC 0 (by simp)) ad;obtain⟨q1,aH⟩:=fE.A' c7 vs us s1 dO _ eL h (by simpa using hl) (λj hj=>by simpa using aC (j+1) (by simpa using hj));exact⟨by simp [q1],aH⟩
  ·cases h
 |[],_::_,_,_,_,_,_,h,_,_=>by cases h
 |_::_,[],_,_,_,_,_,h,_,_=>by cases h
end
end AE
namespace AE
variable [a7]
section
variable {P:aS} [Lib P] [ej P] {gl:bY Nat} {bq:Nat} {C:iw}
theorem aeJ (cR:P.follows .mixedOrders=true) (c4:lT P gl C) {f:FuncId} {args:List J} {A:a8} {v:J} {a':a8} {φ:b4} {w:ax} {gx:Array J} (h:N1 P gl bq C f args A=some (v,a')) (ao:b2 φ A w) (aA:mX gl φ)
  (gM:h7 args φ gx):Calls P f gx w (zl φ A w v a'):=by
 unfold N1 at h;split at h
 ·rename_i fn mZ
  split at h
  ·rename_i c ar
   split at h
   ·rename_i sl gK
    split at h
    ·rename_i x s1 pZ
     have cv:gx.size=args.length:=gM.1;have aw:fE (args.length+(fn.ntmps-args.length)) [] φ sl {tmps:=gx++Array.replicate (fn.ntmps-gx.size) undef,defers:=[]}:=by
      refine⟨by simp [cv],rfl,λt u hu=> ?_⟩;rcases NV _ _ _ _ gK t u hu with ⟨j,hj,aN,rfl⟩|aA
      ·have:=gM.2 j hj
       simp only [Nat.zero_add] at aN;subst aN;simp only [fk] at this ⊢;rw[Array.getElem?_append_left aj];exact this
      ·cases aA
     have fU:∀(vs:List J) (f_:a8),(x= .normal\/x= .ret)->yb s1.A s1.ms=some f_->w7 P f_ s1.sl fn.results.toList=some vs->v=yf vs->a'=f_->Calls P f gx w (zl φ A w v a'):=by
      intro vs f_ aq aeK kM aC lV;subst aC;subst lV;refine(callsIn_wide (n:=0)).1 ?_;refine callsIn_of_wp_marks mZ ar trivial ?_ rfl;have aeL:=uE (ro:=none) cR c4 false (λ_=>rfl) bq c {sl,ms:=[],A} x s1 φ w _ [] pZ ao aA .nil aw;refine wpIn_mono (F:=Fr none) aeL λe eG w1 hp=> ?_
      obtain⟨rfl,gO,ds,kC,q1,aH⟩:=hp;have main:LeavesInM (Fr none) 0 P fn eG.tmps (zl φ A w (yf vs) a') eG.defers .returning w1:=by
       rw[q1.defers];refine NN s1.ms ds s1.A a' w1 aH.rel kC aeK λw2 b0=> ?_
       obtain⟨aB,g1,g2⟩:=VA (fn:=fn) b0.rel q1.get kM;exact⟨aB,g1,gO,g2,cF.trans ao aH b0⟩
      rcases aq with rfl|rfl
      ·exact main
      ·exact main
     cases x with
     |exit Df=>cases h
     |goto l=>cases h
     |normal=>
      simp only at h;split at h
      ·rename_i f_ hl
       split at h
       ·rename_i vs kM
        cases h;exact fU vs a' (.inl rfl) hl kM U U
       ·cases h
      ·cases h
     |ret=>
      simp only at h;split at h
      ·rename_i f_ hl
       split at h
       ·rename_i vs kM
        cases h;exact fU vs a' (.inr rfl) hl kM U U
       ·cases h
      ·cases h
    ·cases h
   ·cases h
  ·cases h
 ·cases h
theorem aeM (cR:P.follows .mixedOrders=true) (c4:lT P gl C) {b:Nat} {args:List J} {A:a8} {v:J} {a':a8} {φ:b4} {w:ax} {gx:Array J} {e:hS} {k:h6} {fX:Aw} {r:Loop}
  (h:N0 P gl bq C b args A=some (v,a')) (ao:b2 φ A w) (aA:mX gl φ) (gM:h7 args φ gx) (he:φ b=some e) (al:A.bl.get b=some k) (fK:k.obj= .gw (.loop fX)) (rX:w.heap[e.bn]? =some (.loop r)) (AV:rV φ (.loop fX) (.loop r)):
  gx.size=r.params.size/\RoundIn Fence.wide 0 P e.bn r.fn ((r.params.zip gx).foldl (λtmps (t,a)=>tmps.setIfInBounds t a) r.tmps) r.assign r.body w (zl φ A w v a'):=by
 unfold N0 at h;have aeN:A.getLoop b=some fX:=by unfold a8.getLoop;rw[al];simp only [fK]
 rw[aeN] at h;simp only at h;obtain⟨pA,lj,c0,NS,kn,N2,has,zg,aoO,gK⟩:=id AV;cases lj;split at h
 ·rename_i mD fj
  have zp:fE fX.N [] φ fX.sl {tmps:=r.tmps,defers:=[]}:=⟨kn,rfl,gK⟩;obtain⟨N3⟩:=gx;obtain⟨VD,ui⟩:=gM;simp only [List.size_toArray] at VD;obtain⟨hlen,xR⟩:=fE.A' fX.params args N3 fX.sl mD _ zp fj VD (λj hj=>by simpa [fk] using ui j hj);refine⟨by rw[N2];simp [hlen],?_⟩;have aeO:(r.params.zip ⟨N3⟩).foldl (λtmps (t,a)=>tmps.setIfInBounds t a) r.tmps=(fX.params.zip N3).foldl (λtmps p=>tmps.setIfInBounds p.1 p.2) r.tmps:=by
   rw[N2,<-Array.foldl_toList];simp
  rw[aeO];split at h
  ·rename_i s1 aeP
   split at h
   ·rename_i Fp Dh
    cases w4:VB Fp.state with
    |false=>rw[w4] at h;cases h
    |true=>
     rw[w4,bF] at h;split at h
     ·rename_i f_ NR
      split at h
      ·rename_i x sb rj
       split at h
       ·rename_i VC Fk
        split at h
        ·rename_i pY aeQ
         cases h;refine roundIn_of_wpIn trivial ?_;rw[has,zg];have aeR:=uE (ro:=some e.bn) cR c4 true (λh=>by cases h) bq fX.assign {sl:=mD,ms:=[],A} .normal s1 φ w _ [] aeP ao aA .nil xR;refine wpIn_mono (F:=Fr (some e.bn)) aeR λe1 eG w1 hp=> ?_
         obtain⟨rfl,gO,De,kC,q1,aH⟩:=hp;have N4:=aH.ext ao _ _ he;obtain⟨cS,g1,g2,g3,g4⟩:=NM (P:=P) aH.rel Dh N4;obtain⟨uq,lg,EV,aeS⟩:=id g2;cases lg;have wL:=Jc (o':= .loop {cS with state:= .busy}) aH.rel N4 NR ⟨{cS with state:= .busy},rfl,rfl,aeS⟩;refine⟨{w1 with heap:=w1.heap.setIfInBounds e.bn (.loop {cS with state:= .busy})},?_,?_⟩
         ·unfold Instr.beginRound
          refine dm g3 ?_;refine dm (a:=()) (g4 _) ?_;rw[EV];cases Jg:Fp.state<;>rw[Jg] at w4<;>first|rfl|cases w4
         ·have VE:=cF.trans ao aH wL
          have aeT:=uE (ro:=some e.bn) cR c4 true (λh=>by cases h) bq fX.body {sl:=s1.sl,ms:=s1.ms,A:=f_} x sb gO _ eG De rj wL.rel (aA.mono (VE.ext ao)) kC q1;refine wpIn_mono (F:=Fr (some e.bn)) aeT λe2 a2 w2 hp2=> ?_
          obtain⟨rfl,Fj,aeU,sW,ih,hB⟩:=hp2;have VF:=hB.ext wL.rel _ _ N4;obtain⟨gj,uD,yd,A6,A7⟩:=NM (P:=P) hB.rel Fk VF;obtain⟨CR,Jh,aoP,aoQ,aeV⟩:=id yd;cases Jh;have NT:=Jc (o':= .loop {gj with state:=Dg x,pending:=zw x}) hB.rel VF aeQ ⟨{gj with state:=Dg x,pending:=zw x},rfl,rfl,rfl,aeV⟩;have NU:=cF.trans ao VE (cF.trans wL.rel hB NT);have Ji:∀(j:Option Code),j=zw x->(Instr.endRound e.bn j).run P w2= .ok (.bool (Fo x)) {w2 with heap:=w2.heap.setIfInBounds e.bn (.loop {gj with state:=Dg x,pending:=zw x})}:=by
           intro j hj;subst hj;unfold Instr.endRound;refine dm A6 ?_;have c0:(if (zw x).isNone then LoopState.ready else LoopState.done)=Dg x:=by cases x<;>rfl
           have av:(zw x).isNone=Fo x:=by cases x<;>rfl
           rw[c0,av];exact dm (a:=()) (A7 _) rfl
          have post:zl φ A w (.bool (Fo x)) a' (.returned (.bool (Fo x))) {w2 with heap:=w2.heap.setIfInBounds e.bn (.loop {gj with state:=Dg x,pending:=zw x})}:=⟨Fj,.bool _,NU⟩;cases x with
          |normal=>exact⟨_,_,Ji _ rfl,post⟩
          |ret=>exact⟨_,_,Ji _ rfl,post⟩
          |exit Df=>exact⟨_,_,Ji _ rfl,post⟩
          |goto l=>exact⟨_,_,Ji _ rfl,post⟩
        ·cases h
       ·cases h
      ·cases h
     ·cases h
   ·cases h
  ·cases h
 ·cases h
end
end AE
end Go.Proofs.YtepcfjbfkedlpaaDoor
namespace Go.Proofs.YtepcfjbfkedlpaaDoor
open Go Go.RowKit
namespace AE
structure cj (B:Nat) (w w':ax):Prop where
 below:Below B w w'
 drawn:iF w<=iF w'
theorem cj.refl (B:Nat) (w:ax):cj B w w:=⟨Below.refl _ _,ch _⟩
theorem cj.trans {B:Nat} {a w w':ax} (h:cj B a w) (g:cj B w w'):cj B a w':=⟨h.below.trans g.below,Nat.le_trans h.drawn g.drawn⟩
theorem cj.mono {B vB:Nat} {w w':ax} (h:cj B w w') (af:vB<=B):cj vB w w':=⟨h.below.mono af,h.drawn⟩
theorem cj.size {B:Nat} {w w':ax} (h:cj B w w'):w.heap.size<=w'.heap.size:=h.below.size
theorem cj.block {B:Nat} {w w':ax} (h:cj B w w'):∀k,k<B->w'.heap[k]? =w.heap[k]? :=h.below.block
class s' (P:aS) where
 calls:List (FuncId×List J×J)
def Jj (f:FuncId) (args:List J):List (FuncId×List J×J)->Option J
 |[]=>none
 |p::r=>bif Nat.beq f p.1&&ox args p.2.1 then some p.2.2 else Jj f args r
theorem VG {f:FuncId} {args:List J} {v:J}:∀{l:List (FuncId×List J×J)},Jj f args l=some v->(f,args,v)∈l
 |[],h=>by cases h
 |p::r,h=>by
  unfold Jj at h;cases he:(Nat.beq f p.1&&ox args p.2.1) with
  |true=>
   rw[he,bF,cQ] at h;simp only [c8] at he;have ad:=cI he.1;have ag:=q9 _ _ he.2;subst ad;subst ag;subst h;exact List.mem_cons_self
  |false=>
   rw[he,eD] at h;exact List.mem_cons_of_mem _ (VG h)
def zx (g:FuncId) (u:J):J:= .func (.func g) ⟨[]⟩ ⟨[.agg ⟨[.slice none 7 7,u]⟩]⟩
def N5 (A:a8) (v:J):Option J:=
 bif aM v then some v else match v with
 | .func (.func g) ⟨[]⟩ ⟨[.pointer (some ⟨b,off,none⟩)]⟩=>match A.load b off with
   |some u=>bif aM u then some (zx g u) else none
   |none=>none
 |_=>none
def Jk (A:a8):List J->Option (List J)
 |[]=>some []
 |v::r=>match N5 A v,Jk A r with
  |some aB,some eo=>some (aB::eo)
  |_,_=>none
def Jl (P:aS) [s' P] (C:iw):iw where
 call:=λf args A=>match s'.calls P with
  |[]=>C.call f args A
  |l=>match Jk A args with
   |some us=>match Jj f us l with
    |some v=>some (v,A)
    |none=>C.call f args A
   |none=>C.call f args A
 round:=C.round
def s_ (P:aS) [Lib P] [ej P] [s' P] (gl:bY Nat) (bq:Nat):Nat->iw
 |0=>Jl P {call:=λ_ _ _=>none,round:=λ_ _ _=>none}
 |d+1=>Jl P {call:=N1 P gl bq (s_ P gl bq d),round:=N0 P gl bq (s_ P gl bq d)}
variable [a7]
def jb (P:aS) (p:FuncId×List J×J):Prop:=
 dM p.2.1=true/\aM p.2.2=true/\∀w,oz w->Calls P p.1 ⟨ep p.2.1⟩ w λe w'=>e= .returned (aJ p.2.2)/\cj w.heap.size w w'
def VH (w:ax) (v a:J):Prop:=
 (aM v=true/\a=aJ v)\/∃g u B off,v=zx g u/\aM u=true/\a= .func (.func g) #[] #[.pointer (some ⟨B,off,none⟩)]/\B<w.heap.size/\w.cell? ⟨B,off,none⟩=some (aJ u)
def Di (w:ax):List J->List J->Prop
 |[],[]=>True
 |v::r,a::s=>VH w v a/\Di w r s
 |_,_=>False
def A_ (P:aS) (p:FuncId×List J×J):Prop:=
 ∀w,oz w->∀us,Di w p.2.1 us->Calls P p.1 ⟨us⟩ w λe w'=>∃aB,e= .returned aB/\(∀φ,aD φ p.2.2 aB)/\cj w.heap.size w w'
theorem Di.plain {w:ax}:∀{l us:List J},dM l=true->Di w l us->us=ep l
 |[],[],_,_=>rfl
 |v::r,a::s,hp,h=>by
  simp only [dM,c8] at hp;have ag:=Di.plain hp.2 h.2;rcases h.1 with ⟨_,ad⟩|⟨g,u,B,off,rfl,_⟩
  ·rw[ad,ag];rfl
  ·have:aM (zx g u)=false:=by unfold zx;simp [aM,dM]
   rw[this] at hp;exact absurd hp.1 (by simp)
 |[],_::_,_,h=>h.elim
 |_::_,[],_,h=>h.elim
theorem A_.of {P:aS} {p:FuncId×List J×J} (ad:dM p.2.1=true) (h:∀w,oz w->Calls P p.1 ⟨ep p.2.1⟩ w λe w'=>∃aB,e= .returned aB/\(∀φ,aD φ p.2.2 aB)/\cj w.heap.size w w'):A_ P p:=
 λw hw us ha=>by rw[ha.plain ad];exact h w hw
theorem jb.N6 {P:aS} {p:FuncId×List J×J} (h:jb P p):A_ P p:=
 .of h.1 λw hw=>(h.2.2 w hw).mono λe w' ⟨he,af⟩=>⟨_,he,λφ=>aD.vt φ _ h.2.1,af⟩
def VI (P:aS) [s' P]:Prop:=∀p∈s'.calls P,A_ P p
theorem cF.below {φ:b4} {A:a8} {w w':ax} (ao:b2 φ A w) (af:cj w.heap.size w w'):cF φ A w φ A w' where
 rel:=⟨ao.wf,λb e h=>by
  obtain⟨k,ad,ag,ay⟩:=ao.eE b e h;exact⟨k,ad,ag,ay.mono (λ_ _ h=>h) (af.block _ ay.lt)⟩,ao.apart,ao.along,λi o ai=>by
  obtain⟨ad,ag⟩:=ao.dn i o ai
  exact⟨by rw[af.block i (Array.getElem?_eq_some_iff.1 ad).1];exact ad,ag⟩⟩
 eE:=λ_ _=>rfl
 rW:=λb ad ag=>by omega
 new:=λb e ad ag=>absurd (ao.lt ag) aj
 qv:=ch _
 low:=ch _
 same:=λ_ _ _=>rfl
 ro:=λ_ _ h _=>h
 keep:=λi ai _=>af.block i ai
 gN:=af.size
 os:=af.below.os
 tape:=af.below.tape
 output:=af.below.output
 drawn:=af.drawn
theorem aeW {φ:b4} {A:a8} {w:ax} (ao:b2 φ A w) {v aB a:J} (h:N5 A v=some aB) (ha:aD φ v a):VH w aB a:=by
 unfold N5 at h;cases hp:aM v with
 |true=>
  rw[hp,bF,cQ] at h;subst h;exact .inl ⟨hp,aD.jj v hp ha⟩
 |false=>
  rw[hp,eD] at h;split at h
  ·rename_i g b off
   split at h
   ·rename_i u hu
    cases Jm:aM u with
    |false=>rw[Jm] at h;cases h
    |true=>
     rw[Jm,bF,cQ] at h;subst h;cases ha with
     |func fs kI cs cs' av ad ag aR ar=>
      have e1:kI= #[]:=by
       apply Array.eq_empty_of_size_eq_zero;have:=ad;simp at this;omega
      have aw:cs'.size=1:=by
       have:=ag;simp at this;omega
      have aL:=ar 0 (by simp);obtain⟨dE,rfl⟩:∃dE,cs'= #[dE]:=by
       obtain⟨l⟩:=cs'
       match l,aw with
       |[dE],_=>exact⟨dE,rfl⟩
      have aeX:aD φ (.pointer (some ⟨b,off,none⟩)) dE:=by simpa using aL
      cases aeX with
      |ptr he=>
       rename_i e;obtain⟨u',g1,g2⟩:=vi ao hu he;refine .inr ⟨g,u,e.bn,e.sh+off,rfl,Jm,by rw[e1],?_,?_⟩
       ·obtain⟨k,_,_,ay⟩:=ao.eE b e he
        exact ay.lt
       ·rw[g1,aD.jj u Jm g2]
   ·cases h
  ·cases h
theorem VJ {φ:b4} {A:a8} {w:ax} (ao:b2 φ A w):∀{args us l:List J},Jk A args=some us->args.length=l.length->(∀j,j<args.length->aD φ (args.getD j Go.undef) (l.getD j Go.undef))->Di w us l
 |[],us,[],h,_,_=>by cases h;trivial
 |v::r,us,a::s,h,hl,hj=>by
  unfold Jk at h;split at h
  ·rename_i aB eo ad ag
   cases h;exact⟨aeW ao ad (by simpa using hj 0 (by simp)),VJ ao ag (by simpa using hl) λj gZ=>by simpa using hj (j+1) (by simpa using gZ)⟩
  ·cases h
 |[],_,_::_,_,h,_=>by cases h
 |_::_,_,[],_,h,_=>by cases h
theorem VK {P:aS} [ej P] [s' P] {gl:bY Nat} {C:iw} (Dj:VI P) (h:lT P gl C):lT P gl (Jl P C):=by
 refine⟨h.facts,λf args A v a' φ w gx ar ao aA gM=> ?_,h.round⟩;unfold Jl at ar;simp only at ar;split at ar
 ·exact h.call f args A v a' φ w gx ar ao aA gM
 split at ar
 ·rename_i us has
  split at ar
  ·rename_i u hu
   cases ar;have ay:=Dj _ (VG hu);obtain⟨l⟩:=gx;have hl:=VJ ao has gM.1.symm (l:=l) (λi ai=>by simpa using gM.2 i ai);refine(ay w (λi o ai=>(ao.dn i o ai).1) l hl).mono λe w' he=> ?_
   obtain⟨aB,rfl,aC,af⟩:=he;exact⟨φ,aC φ,cF.below ao af⟩
  ·exact h.call f args A v a' φ w gx ar ao aA gM
 ·exact h.call f args A v a' φ w gx ar ao aA gM
theorem zy {P:aS} [Lib P] [ej P] [s' P] {gl:bY Nat} {bq:Nat} (cR:P.follows .mixedOrders=true) (di:q' P) (Dj:VI P):∀d,lT P gl (s_ P gl bq d)
 |0=>VK Dj ⟨di,λf args A v a' φ w gx h=>(by cases h),λb args A v a' φ w gx e k fX r h=>(by cases h)⟩
 |d+1=>VK Dj ⟨di,λf args A v a' φ w gx h ao aA gM=>aeJ cR (zy cR di Dj d) h ao aA gM,
   λb args A v a' φ w gx e k fX r h ao aA gM he al fK rX AV=>aeM cR (zy cR di Dj d) h ao aA gM he al fK rX AV⟩
def start:a8:={bl:= .nil,n:=0,mem:= .nil,low:=0}
theorem VL {w:ax} (ai:oz w):b2 (λ_=>none) start w:=
 ⟨⟨λ_ _ h=>(by cases h),λ_ _ h=>(by cases h),λ_ _ h=>(by cases h),λ_ _ _ _ h=>(by cases h)⟩,λ_ _ h=>(by cases h),λ_ _ _ _ _ _ h=>(by cases h),λ_ _ _ _ _ _ h=>(by cases h),λi o h=>⟨ai i o h,λ_ _ h=>by cases h⟩⟩
end AE
end Go.Proofs.YtepcfjbfkedlpaaDoor
namespace Go.Proofs.YtepcfjbfkedlpaaDoor
open Go Go.Proofs Go.RowKit
namespace AE
noncomputable instance:Lib Tryd.prog where
 same:=[]
 UA:=λf aR x=>by cases aR
 MO:=[]
 UB:=λp hp=>by cases hp
theorem mixed:Tryd.prog.follows .mixedOrders=true:=au
end AE
end Go.Proofs.YtepcfjbfkedlpaaDoor
namespace Go.Proofs.YtepcfjbfkedlpaaDoor
open Go Go.RowKit
namespace AE
class cV where
 fF:b4
 ev:Nat
@[reducible] def gp:cV:=⟨λ_=>none,0⟩
def vC [cV] (φ:b4) (A:a8):Prop:=cV.ev<=A.n/\∀b,b<cV.ev->φ b=cV.fF b
theorem vC.step [a7] [cV] {φ db:b4} {A a':a8} {w w':ax} (h:vC φ A) (aw:cF φ A w db a' w'):vC db a':=
 ⟨Nat.le_trans h.1 aw.qv,λb af=>by rw[aw.eE b (Nat.lt_of_lt_of_le af h.1)];exact h.2 b af⟩
theorem vC.none (φ:b4) (A:a8): @vC gp φ A:=⟨Nat.zero_le _,λb af=>absurd af (Nat.not_lt_zero _)⟩
structure Here [a7] [cV] (N:Nat) (s:b8) (B:Nat) (w0:ax) (a:Act) (w:ax):Prop where
 ex:∃φ ds,ri φ s.ms ds/\fE N ds φ s.sl a/\b2 φ s.A w/\(∀b e,φ b=some e->B<=e.bn)/\vC φ s.A
 below:cj B w0 w
 size:B<=w.heap.size
section
variable [a7]
theorem Dk {φ db:b4} {A a':a8} {w w':ax} {B:Nat} (cX:∀b e,φ b=some e->B<=e.bn) (aw:cF φ A w db a' w') (cv:B<=w.heap.size):(∀b e,db b=some e->B<=e.bn)/\cj B w w':=by
 refine⟨λb e he=> ?_,⟨aw.os,aw.tape,aw.output,aw.gN,λk al=>aw.keep k aj λb e eU af he _=>by have:=cX b e af;omega⟩,aw.drawn⟩;rcases Nat.lt_or_ge b A.n with h|h
 ·rw[aw.eE b h] at he
  exact cX b e he
 ·rcases aw.new b e h he with ad|⟨cu,e0,ez,q1,aH,_⟩
  ·omega
  ·rw[<-aH]
   exact cX cu e0 q1
omit [a7] in
theorem iG (φ:b4):mX .nil φ:=λg b aA=>by cases aA
variable [cV]
variable {P:aS} [Lib P] [ej P] {C:iw} {N B:Nat} {w0 w:ax} {a:Act} {s fV:b8}
theorem aeY (cR:P.follows .mixedOrders=true) (c4:lT P .nil C) (bq:Nat) {c:Code} {x:ll} (h:mY P C .nil N false bq c s=some (x,fV)) (ah:Here N s B w0 a w):
  c.wpIn (Fr none) 0 P (λe a6 w'=>e=x.exit'/\Here N fV B w0 a6 w') a w:=by
 obtain⟨⟨φ,ds,ad,ag,ay,bG,fR⟩,cJ,cU⟩:=ah;refine wpIn_mono (uE (ro:=none) cR c4 false (λ_=>rfl) bq c s x fV φ w a ds h ay (iG φ) ad ag) λe a6 w' hp=> ?_
 obtain⟨rfl,db,aeZ,q1,aH,b0⟩:=hp;obtain⟨de,dv⟩:=Dk bG b0 cU;exact⟨rfl,⟨db,aeZ,q1,aH,b0.rel,de,fR.step b0⟩,cJ.trans dv,Nat.le_trans cU b0.gN⟩
theorem ae0 {c:Operand} {t:Bool} (h:dH .nil s.sl c= .bool t) (ah:Here N s B w0 a w):a.eval c= .bool t:=by
 obtain⟨⟨φ,ds,ad,ag,ay,bG,_⟩,_,_⟩:=ah;have:=gU (iG φ) ag.get c;rw[h] at this;cases aC:a.eval c<;>rw[aC] at this<;>cases this
 rfl
omit [Lib P] in
theorem ae1 (di:q' P) {c:Operand} {t:Bool} (h:AU P (dH .nil s.sl c)=some t) (ah:Here N s B w0 a w):a.eval c= .bool t:=by
 obtain⟨⟨φ,ds,ad,ag,ay,bG,_⟩,_,_⟩:=ah;exact IZ di w h (gU (iG φ) ag.get c)
omit [cV] in
theorem VM (c4:lT P .nil C) {ds:List Deferred} {ops:Array Oper} {Q:Exit->Act->ax->Prop} {mf:List Oper}:∀(l:List Oper) (sl dO:aF) (A a':a8) (φ:b4) (w:ax) (a:Act),b2 φ A w->fE N ds φ sl a->wV P C .nil N ops l sl A=some (dO,a')->
  (∀db a6 w',fE N ds db dO a6->cF φ A w db a' w'->wpListIn (Fr none) 0 P ops Q mf a6 w')->wpListIn (Fr none) 0 P ops Q (l++mf) a w
 |[],sl,dO,A,a',φ,w,a,ao,aw,h,c_=>by
  cases h;exact c_ φ a w aw (cF.refl ao)
 |o::r,sl,dO,A,a',φ,w,a,ao,aw,h,c_=>by
  unfold wV at h;split at h
  ·rename_i eK bH c0
   obtain⟨v,aC,hp⟩:=Nl c0;rw[List.cons_append];unfold wpListIn;refine I2 c4 ao (iG φ) aw.get aC λdb aB w' xY pV=> ?_
   exact VM c4 r eK dO bH a' db w' (a.put o.dst aB) pV.rel ((aw.mono (pV.ext ao)).put xY hp) h λfp a2 w2 ad ag=>c_ fp a2 w2 ad (cF.trans ao pV ag)
  ·cases h
theorem VN (c4:lT P .nil C) {ops:Array Oper} {Q:Exit->Act->ax->Prop} (l1 mf:List Oper) {eK:aF} {bH:a8} (h:wV P C .nil N ops l1 s.sl s.A=some (eK,bH)) (ah:Here N s B w0 a w)
  (c_:∀a6 w',Here N {sl:=eK,ms:=s.ms,A:=bH} B w0 a6 w'->wpListIn (Fr none) 0 P ops Q mf a6 w'):wpListIn (Fr none) 0 P ops Q (l1++mf) a w:=by
 obtain⟨⟨φ,ds,ad,ag,ay,bG,fR⟩,cJ,cU⟩:=ah;refine VM c4 l1 _ _ _ _ φ w a ay ag h λdb a6 w' q1 aH=> ?_
 obtain⟨de,dv⟩:=Dk bG aH cU;exact c_ a6 w' ⟨⟨db,ds,ad.mono (aH.ext ay),q1,aH.rel,de,fR.step aH⟩,cJ.trans dv,Nat.le_trans cU aH.gN⟩
theorem Here.quiet {w':ax} (ah:Here N s B w0 a w) (af:cj w.heap.size w w'):Here N s B w0 a w':=by
 obtain⟨⟨φ,ds,ad,ag,ay,bG,fR⟩,cJ,cU⟩:=ah;exact⟨⟨φ,ds,ad,ag,(cF.below ay af).rel,bG,fR⟩,cJ.trans (af.mono cU),Nat.le_trans cU af.size⟩
theorem Here.put {d:Option Tmp} {v:J} {dO:aF} (ah:Here N s B w0 a w) (hp:aM v=true) (fj:g' N s.sl d v=some dO):Here N {s with sl:=dO} B w0 (a.put d (aJ v)) w:=by
 obtain⟨⟨φ,ds,ad,ag,ay,bG,fR⟩,cJ,cU⟩:=ah;exact⟨⟨φ,ds,ad,ag.put (aD.vt φ v hp) fj,ay,bG,fR⟩,cJ,cU⟩
end
theorem VO [cV] {P:aS} {N B:Nat} {w0 w:ax} {a:Act} {X:Type} (gq:X->a7) (aO:b8) (gf:X->Prop) (iR:X->Nat) {body:Code} {Q:Exit->Act->ax->Prop}
  (round:∀x,gf x->∀a w,@Here (gq x) _ N aO B w0 a w->body.wpIn (Fr none) 0 P (Exit.then (λa6 w'=>∃x',gf x'/\iR x'<iR x/\ @Here (gq x') _ N aO B w0 a6 w') Q) a w)
  (x:X) (aq:gf x) (ah: @Here (gq x) _ N aO B w0 a w):(Code.loop body).wpIn (Fr none) 0 P Q a w:=by
 have key:∀n x a w,iR x<=n->gf x-> @Here (gq x) _ N aO B w0 a w->Code.roundsIn (Fr none) 0 P body Q (n+1) a w:=by
  intro n
  induction n with
  |zero=>
   intro x a w av aq ah;rw[roundsIn_succ];refine wpIn_mono (round x aq a w ah) λe a6 w' hp=> ?_
   cases e with
   |normal=>obtain⟨x',_,cg,_⟩:=hp;omega
   |_=>exact hp
  |succ n cA=>
   intro x a w av aq ah;rw[roundsIn_succ];refine wpIn_mono (round x aq a w ah) λe a6 w' hp=> ?_
   cases e with
   |normal=>
    obtain⟨x',r6,cg,yg⟩:=hp;exact cA x' a6 w' aj r6 yg
   |_=>exact hp
 exact wpIn_loop_rounds _ (key (iR x) x a w (ch _) aq ah)
def Jn (v:J) (A:a8):b8:={sl:= .node (some v) .nil .nil,ms:=[],A}
def N7 (v:J):Act:={tmps:= #[v],defers:=[]}
def ae2 [a7] (P:aS) (fn:Func) (A:a8) (sl:aF) (v:J):Prop:=
 ∀(φ:b4) (w:ax) (tmps:Array J),b2 φ A w->(∀t u,sl.get t=some u->aD φ u (tmps.getD t undef))->∃aB,(results fn tmps).run P w= .ok aB w/\aD φ v aB
def Fq [cV] (P:aS) (fn:Func) (N B:Nat) (w0:ax) (R:Ending->ax->Prop) (a:Act) (w:ax):Prop:=
 ∃(gq:a7) (s:b8) (f_:a8) (v:J),@Here gq _ N s B w0 a w/\ @yb s.A s.ms=some f_/\ @ae2 gq P fn f_ s.sl v/\
  ∀aB w2,@Here gq _ 1 (Jn v f_) B w0 (N7 aB) w2->R (.returned aB) w2
def rk [cV] (P:aS) (fn:Func) (N B:Nat) (w0:ax) (R:Ending->ax->Prop):Exit->Act->ax->Prop
 | .normal,a,w=>Fq P fn N B w0 R a w
 | .ret,a,w=>Fq P fn N B w0 R a w
 |_,_,_=>False
theorem N8 [a7] [cV] {P:aS} {f:FuncId} {fn:Func} {c:Code} (mZ:P.funcs[f]? =some fn) (ar:fn.body=some c) {args:List J} {sl:aF} (gK:setArgs 0 args .nil=some sl) {φ:b4} {A:a8} {w0 w:ax} {B:Nat} {gx:Array J}
  (ao:b2 φ A w) (cX:∀b e,φ b=some e->B<=e.bn) (ho:vC φ A) (gM:h7 args φ gx) (af:cj B w0 w) (cv:B<=w.heap.size) {R:Ending->ax->Prop}
  (pZ:∀a,Here (args.length+(fn.ntmps-args.length)) {sl,ms:=[],A} B w0 a w->c.wpIn (Fr none) 0 P (rk P fn (args.length+(fn.ntmps-args.length)) B w0 R) a w):Calls P f gx w R:=by
 have N9:gx.size=args.length:=gM.1;have aw:fE (args.length+(fn.ntmps-args.length)) [] φ sl {tmps:=gx++Array.replicate (fn.ntmps-gx.size) undef,defers:=[]}:=by
  refine⟨by simp [N9],rfl,λt u hu=> ?_⟩;rcases NV _ _ _ _ gK t u hu with ⟨j,hj,aN,rfl⟩|aA
  ·have:=gM.2 j hj
   simp only [Nat.zero_add] at aN;subst aN;simp only [fk] at this ⊢;rw[Array.getElem?_append_left aj];exact this
  ·cases aA
 refine(callsIn_wide (n:=0)).1 ?_;refine callsIn_of_wp_marks mZ ar trivial ?_ rfl;refine wpIn_mono (F:=Fr none) (pZ _ ⟨⟨φ,[],.nil,aw,ao,cX,ho⟩,af,cv⟩) λe eG w1 hp=> ?_
 have main:Fq P fn (args.length+(fn.ntmps-args.length)) B w0 R eG w1->LeavesInM (Fr none) 0 P fn eG.tmps R eG.defers .returning w1:=by
  rintro ⟨gq,s,f_,v,ah,hl,kM,jE⟩;letI:=gq;obtain⟨⟨gO,ds,kC,q1,aH,b0,ld⟩,eF,hz⟩:=ah;rw[q1.defers];refine NN s.ms ds s.A f_ w1 aH kC hl λw2 de=> ?_
  obtain⟨aB,g1,g2⟩:=kM gO w2 eG.tmps de.rel q1.get;refine⟨aB,g1,?_⟩;obtain⟨uD,yd⟩:=Dk b0 de hz;refine jE aB w2 ⟨⟨gO,[],.nil,⟨rfl,rfl,λt u hu=> ?_⟩,de.rel,uD,ld.step de⟩,eF.trans yd,Nat.le_trans hz de.gN⟩;unfold Jn at hu;simp only [bY.get] at hu;cases aN:(t==0) with
  |true=>
   rw[aN,bF,cQ] at hu;subst hu;have:t=0:=by simpa using aN
   subst this;exact g2
  |false=>
   rw[aN,eD] at hu;cases hp:(t%2==1)<;>rw[hp] at hu<;>cases hu
 cases e with
 |normal=>exact main hp
 |ret=>exact main hp
 |_=>exact hp.elim
end AE
namespace AE
abbrev eH:=List (J×J)
def both:Option eH->Option eH->Option eH
 |some a,some b=>some (a++b)
 |_,_=>none
theorem uF {a b:Option eH} {l:eH} (h:both a b=some l):∃x y,a=some x/\b=some y/\l=x++y:=by
 cases a<;>cases b<;>simp [both] at h
 exact⟨_,_,rfl,rfl,h.symm⟩
def yh:J->Bool
 | .complex .f32 a b=>Nat.beq a 77&&Nat.beq b 77
 |_=>false
theorem VP {v:J} (h:yh v=true):v=cB:=by
 unfold yh at h;split at h
 ·simp only [c8] at h
  rw[cI h.1,cI h.2];rfl
 ·cases h
def Dl (v1 gL:J):Option eH:=bif yh gL then some [] else bif aM v1&&aM gL then (bif gm v1 gL&&plain v1 then some [] else some [(v1,gL)]) else none
mutual
def vD (n:Nat):J->J->Option eH
 | .pointer (some ⟨b,o,none⟩),.pointer (some ⟨b',o',none⟩)=>bif Nat.blt b n&&(Nat.beq b b'&&Nat.beq o o') then some [] else none
 | .slice (some ⟨b,o,none⟩) m c,.slice (some ⟨b',o',none⟩) m' c'=>bif Nat.blt b n&&(Nat.beq b b'&&(Nat.beq o o'&&(Nat.beq m m'&&Nat.beq c c'))) then some [] else none
 | .agg ⟨l⟩,.agg ⟨l'⟩=>yi n l l'
 | .func (.func f) ⟨l⟩ ⟨k⟩,.func (.func iQ) ⟨l'⟩ ⟨k'⟩=>bif Nat.beq f iQ then both (yi n l l') (yi n k k') else none
 | .func (.yield b) ⟨[]⟩ ⟨[]⟩,.func (.yield b') ⟨[]⟩ ⟨[]⟩=>bif Nat.blt b n&&Nat.beq b b' then some [] else none
 |v1,gL=>Dl v1 gL
def yi (n:Nat):List J->List J->Option eH
 |[],[]=>some []
 |v::r,aB::eo=>both (vD n v aB) (yi n r eo)
 |_,_=>none
end
def nX (n:Nat) (φ:b4):b4:=λb=>if b<n then φ b else none
theorem Dm {n b:Nat} {φ:b4} {e:hS} (h:φ b=some e) (af:b<n):nX n φ b=some e:=by unfold nX;rw[aY af];exact h
theorem qH {n b:Nat} {φ:b4} {e:hS} (h:nX n φ b=some e):b<n/\φ b=some e:=by
 unfold nX at h;split at h
 ·rename_i af;exact⟨af,h⟩
 ·cases h
def fO (s1 s2:a7) (l:eH):Prop:=∀p∈l,@aJ s1 p.1= @aJ s2 p.2
theorem fO.left {s1 s2:a7} {a b:eH} (h:fO s1 s2 (a++b)):fO s1 s2 a:=λp hp=>h p (List.mem_append_left _ hp)
theorem fO.right {s1 s2:a7} {a b:eH} (h:fO s1 s2 (a++b)):fO s1 s2 b:=λp hp=>h p (List.mem_append_right _ hp)
theorem ae3 {s1 s2:a7} {φ fp:b4} {v1 gL aB:J} {l:eH} (h:Dl v1 gL=some l) (hm:fO s1 s2 l) (aC: @aD s1 φ v1 aB): @aD s2 fp gL aB:=by
 unfold Dl at h;cases ad:yh gL with
 |true=>rw[VP ad];exact @aD.cB s2 fp aB
 |false=>
  rw[ad,eD] at h;cases ag:(aM v1&&aM gL) with
  |false=>rw[ag] at h;cases h
  |true=>
   rw[ag,bF] at h;simp only [c8] at ag;cases ay:(gm v1 gL&&plain v1) with
   |true=>
    simp only [c8] at ay;have he:=hM _ _ ay.1;subst he;rw[@aD.lf s1 φ v1 aB ay.2 aC];exact @aD.ky s2 fp v1 ay.2
   |false=>
    rw[ay,eD,cQ] at h;subst h;have:=hm (v1,gL) (by simp);rw[@aD.jj s1 φ v1 aB ag.1 aC];simp only at this;rw[this];exact @aD.vt s2 fp gL ag.2
mutual
theorem VQ {s1 s2:a7} {φ:b4} {n:Nat}:∀(v1 gL:J) {aB:J} {l:eH},vD n v1 gL=some l->fO s1 s2 l-> @aD s1 φ v1 aB-> @aD s2 (nX n φ) gL aB:=by
 intro v1 gL aB l h hm aC;unfold vD at h;split at h
 ·rename_i b o b' o'
  cases af:(Nat.blt b n&&(Nat.beq b b'&&Nat.beq o o')) with
  |false=>rw[af] at h;cases h
  |true=>
   simp only [c8] at af;have e1:=cI af.2.1;have e2:=cI af.2.2;subst e1;subst e2;cases aC with
   |ptr h=>exact @aD.ptr s2 (nX n φ) _ _ _ (Dm h (Nat.blt_eq.mp af.1))
 ·rename_i b o m c b' o' m' c'
  cases af:(Nat.blt b n&&(Nat.beq b b'&&(Nat.beq o o'&&(Nat.beq m m'&&Nat.beq c c')))) with
  |false=>rw[af] at h;cases h
  |true=>
   simp only [c8] at af;have e1:=cI af.2.1;have e2:=cI af.2.2.1;have e3:=cI af.2.2.2.1;have hD:=cI af.2.2.2.2;subst e1;subst e2;subst e3;subst hD;cases aC with
   |i_ a6 ad=>exact @aD.i_ s2 (nX n φ) _ _ a6 ad
   |iD _ _ h=>exact @aD.iD s2 (nX n φ) _ _ _ _ _ (Dm h (Nat.blt_eq.mp af.1))
   |iE _ _ c' h aw ar hl=>exact @aD.iE s2 (nX n φ) _ _ _ _ _ c' (Dm h (Nat.blt_eq.mp af.1)) aw ar hl
 ·rename_i l1 mf
  cases aC with
  |agg cs cs' ad ag=>
   obtain⟨q1,aH⟩:=Dn l1 mf h hm cs'.toList (by simpa using ad.symm) λi ai=>by simpa [fk] using ag i (by simpa using ai)
   exact @aD.agg s2 (nX n φ) _ _ (by simpa using q1.symm) λi ai=>by simpa [fk] using aH i (by simpa using ai)
 ·rename_i f l1 de iQ mf dv
  cases aR:Nat.beq f iQ with
  |false=>rw[aR] at h;cases h
  |true=>
   rw[aR,bF] at h;have e1:=cI aR;subst e1;obtain⟨x,y,aq,bE,rfl⟩:=uF h;cases aC with
   |func fs kI cs cs' av ad ag ay bG=>
    obtain⟨q1,aH⟩:=Dn l1 mf aq hm.left kI.toList (by simpa using ad.symm) λi ai=>by simpa [fk] using ay i (by simpa using ai)
    obtain⟨b0,eF⟩:=Dn de dv bE hm.right cs'.toList (by simpa using ag.symm) λi ai=>by simpa [fk] using bG i (by simpa using ai)
    exact @aD.func s2 (nX n φ) _ _ _ _ _ av (by simpa using q1.symm) (by simpa using b0.symm) (λi ai=>by simpa [fk] using aH i (by simpa using ai)) λi ai=>by simpa [fk] using eF i (by simpa using ai)
 ·rename_i b b'
  cases af:(Nat.blt b n&&Nat.beq b b') with
  |false=>rw[af] at h;cases h
  |true=>
   simp only [c8] at af;have e1:=cI af.2;subst e1;cases aC with
   |tZ h=>exact @aD.tZ s2 (nX n φ) _ _ (Dm h (Nat.blt_eq.mp af.1))
   |func _ _ _ _ av _ _ _ _=>exact absurd rfl (av _)
 ·exact ae3 h hm aC
theorem Dn {s1 s2:a7} {φ:b4} {n:Nat}:∀(l1 mf:List J) {l:eH},yi n l1 mf=some l->fO s1 s2 l->∀(u:List J),u.length=l1.length->(∀i,i<l1.length-> @aD s1 φ (l1.getD i Go.undef) (u.getD i Go.undef))->
  u.length=mf.length/\∀i,i<mf.length-> @aD s2 (nX n φ) (mf.getD i Go.undef) (u.getD i Go.undef)
 |[],[],_,_,_,u,hu,_=>⟨hu,λi ai=>absurd ai (by simp)⟩
 |[],_::_,_,h,_,_,_,_=>by cases h
 |_::_,[],_,h,_,_,_,_=>by cases h
 |v::r,gL::dy,l,h,hm,u,hu,aC=>by
  unfold yi at h;obtain⟨x,y,aq,bE,rfl⟩:=uF h;cases u with
  |nil=>simp at hu
  |cons w u=>
   obtain⟨q1,aH⟩:=Dn r dy bE hm.right u (by simpa using hu) λi ai=>by simpa using aC (i+1) (by simpa using ai)
   refine⟨by simp [q1],λi ai=> ?_⟩;cases i with
   |zero=>simpa using VQ v gL aq hm.left (by simpa using aC 0 (by simp))
   |succ i=>simpa using aH i (by simpa using ai)
end
def Jo (n:Nat):Option J->Option J->Option eH
 |_,none=>some []
 |some a,some b=>vD n a b
 |none,some b=>bif yh b then some [] else none
def Fs (n:Nat):bY J->Option eH
 | .nil=>some []
 | .node v l r=>both (Jo n none v) (both (Fs n l) (Fs n r))
def ta (n:Nat):bY J->bY J->Option eH
 |_,.nil=>some []
 | .nil,.node v l r=>Fs n (.node v l r)
 | .node v1 l1 cS,.node v l r=>both (Jo n v1 v) (both (ta n l1 l) (ta n cS r))
theorem VR {s1 s2:a7} {φ:b4} {n:Nat} {a b:Option J} {l:eH} (h:Jo n a b=some l) (hm:fO s1 s2 l) {aB gL:J} (af:b=some gL) (aC:∀v1,a=some v1-> @aD s1 φ v1 aB): @aD s2 (nX n φ) gL aB:=by
 subst af;cases a with
 |none=>
  simp only [Jo] at h;cases hp:yh gL with
  |false=>rw[hp] at h;cases h
  |true=>rw[VP hp];exact @aD.cB s2 (nX n φ) aB
 |some v1=>exact VQ v1 gL h hm (aC v1 rfl)
theorem N' {s1 s2:a7} {φ:b4} {n:Nat}:∀(t:bY J) {l:eH},Fs n t=some l->fO s1 s2 l->∀(i:Nat) (gL aB:J),t.get i=some gL-> @aD s2 (nX n φ) gL aB
 | .nil,_,_,_,i,gL,aB,h=>by cases h
 | .node v Ft pB,l,h,hm,i,gL,aB,aA=>by
   unfold Fs at h;obtain⟨x,y,aq,bE,rfl⟩:=uF h;obtain⟨zz,Jp,ad,ag,rfl⟩:=uF bE;unfold bY.get at aA;cases ai:(i==0) with
   |true=>
    rw[ai,bF] at aA;exact VR (s1:=s1) aq hm.left aA (λv1 h=>by cases h)
   |false=>
    rw[ai,eD] at aA;cases hp:(i%2==1) with
    |true=>rw[hp,bF] at aA;exact N' Ft ad hm.right.left _ gL aB aA
    |false=>rw[hp,eD] at aA;exact N' pB ag hm.right.right _ gL aB aA
theorem Dp {s1 s2:a7} {φ:b4} {n:Nat}:∀(t1 t2:bY J) {l:eH},ta n t1 t2=some l->fO s1 s2 l->∀(i:Nat) (gL aB:J),t2.get i=some gL->(∀v1,t1.get i=some v1-> @aD s1 φ v1 aB)-> @aD s2 (nX n φ) gL aB
 |t1,.nil,_,_,_,i,gL,aB,h,_=>by cases h
 | .nil,.node v Ft pB,l,h,hm,i,gL,aB,aA,_=>N' (s1:=s1) (.node v Ft pB) (by simpa [ta] using h) hm i gL aB aA
 | .node v1 l1 cS,.node v Ft pB,l,h,hm,i,gL,aB,aA,aC=>by
   unfold ta at h;obtain⟨x,y,aq,bE,rfl⟩:=uF h;obtain⟨zz,Jp,ad,ag,rfl⟩:=uF bE;unfold bY.get at aA aC;cases ai:(i==0) with
   |true=>
    simp only [ai,bF] at aA aC;exact VR aq hm.left aA aC
   |false=>
    simp only [ai,eD] at aA aC;cases hp:(i%2==1) with
    |true=>simp only [hp,bF] at aA aC;exact Dp l1 Ft ad hm.right.left _ gL aB aA aC
    |false=>simp only [hp,eD] at aA aC;exact Dp cS pB ag hm.right.right _ gL aB aA aC
structure bx where
 obj:q2
 ty:aK
 eN:Nat
def bx.bn (b:bx) (i:Nat):h6:={obj:=b.obj,cT:=i,pos:=0,eN:=b.eN,ro:=false,ty:=b.ty}
def Dq:List bx->Nat->bY h6->bY h6
 |[],_,t=>t
 |b::r,i,t=>Dq r (i+1) (match bY.set (b.bn i) depth t i with|some dr=>dr|none=>t)
def N_:Nat->Nat->bY (List Nat)->bY (List Nat)
 |0,_,t=>t
 |n+1,i,t=>N_ n (i+1) (match bY.set [i] depth t i with|some dr=>dr|none=>t)
def da (l:List bx):a8:={bl:=Dq l 0 .nil,n:=l.length,mem:=N_ l.length 0 .nil,low:=0}
def zA (l:List bx):Bool:=(List.range l.length).all λi=>(match (N_ l.length 0 .nil).get i with|some m=>m.contains i|none=>false)&&(match (Dq l 0 .nil).get i with|some _=>true|none=>false)
theorem VS:∀(l:List bx) (i:Nat) (t:bY h6) (b:Nat) (k:h6),(Dq l i t).get b=some k->(∃j x,l[j]? =some x/\b=i+j/\k=x.bn b)\/((b<i\/i+l.length<=b\/True)/\t.get b=some k)
 |[],i,t,b,k,h=> .inr ⟨.inr (.inr trivial),h⟩
 |x::r,i,t,b,k,h=>by
  unfold Dq at h;rcases VS r (i+1) _ b k h with ⟨j,y,ad,ag,ay⟩|⟨_,ad⟩
  ·exact .inl ⟨j+1,y,by simpa using ad,aj,ay⟩
  ·split at ad
   ·rename_i dr aN
    rw[bY.oh _ _ _ _ _ b aN] at ad;split at ad
    ·rename_i af
     cases ad;exact .inl ⟨0,x,by simp,aj,by rw[af]⟩
    ·exact .inr ⟨.inr (.inr trivial),ad⟩
   ·exact .inr ⟨.inr (.inr trivial),ad⟩
theorem zB {l:List bx} {b:Nat} {k:h6} (h:(da l).bl.get b=some k):∃x,l[b]? =some x/\k=x.bn b:=by
 rcases VS l 0 .nil b k h with ⟨j,x,ad,ag,ay⟩|⟨_,ad⟩
 ·have:b=j:=by omega
  subst this;exact⟨x,ad,ay⟩
 ·cases ad
theorem VT {l:List bx} (hK:zA l=true):Az (da l) where
 lt:=λb k h=>by
  obtain⟨x,ad,_⟩:=zB h;have:=(List.getElem?_eq_some_iff.1 ad).1;exact this
 t':=λb k h=>by
  obtain⟨x,ad,rfl⟩:=zB h;have:=(List.getElem?_eq_some_iff.1 ad).1;exact this
 mem:=λb k h=>by
  obtain⟨x,ad,rfl⟩:=zB h;have af:=(List.getElem?_eq_some_iff.1 ad).1;have:=List.all_eq_true.1 hK b (by simpa using af);simp only [c8] at this;obtain⟨hm,_⟩:=this;split at hm
  ·rename_i m sT
   exact⟨m,sT,by simpa using hm⟩
  ·cases hm
 ve:=λb k b' k' h ga _=>by
  obtain⟨x,_,rfl⟩:=zB h;obtain⟨x',_,rfl⟩:=zB ga;rfl
def VU:LoopState->LoopState->Bool
 | .ready,.ready=>true
 | .busy,.busy=>true
 | .done,.done=>true
 | .exhausted,.exhausted=>true
 |_,_=>false
theorem VV {a b:LoopState} (h:VU a b=true):a=b:=by cases a<;>cases b<;>first|rfl|cases h
def Fu (n:Nat) (a b:Aw):Bool:=VU a.state b.state&&(a.pending.isNone&&(b.pending.isNone&&(Nat.beq a.N b.N&&(decide (a.params=b.params)&&(Nat.beq a.EE b.EE&&Nat.blt a.EE n)))))
def Ba (n:Nat):q2->q2->Option eH
 | .cells c,.cells c'=>yi n c c'
 | .gw (.loop a),.gw (.loop b)=>bif Fu n a b then ta n a.sl b.sl else none
 | .gw .deferred,.gw .deferred=>some []
 | .gw .gone,.gw .gone=>some []
 |_,_=>none
def zC (n:Nat) (A:a8):List bx->Nat->Option eH
 |[],_=>some []
 |x::r,i=>match A.bl.get i with
  |some k=>bif Nat.beq k.cT i&&(Nat.beq k.eN x.eN&&(Nat.beq k.ty x.ty&& !k.ro)) then both (Ba n k.obj x.obj) (zC n A r (i+1)) else none
  |none=>none
theorem Dr {n:Nat} {A:a8}:∀(l:List bx) (i:Nat) {bN:eH},zC n A l i=some bN->∀(j:Nat) (x:bx),l[j]? =some x->∃k o,A.bl.get (i+j)=some k/\k.cT=i+j/\k.eN=x.eN/\k.ty=x.ty/\k.ro=false/\Ba n k.obj x.obj=some o/\∀p∈o,p∈bN
 |[],i,bN,h,j,x,hj=>by simp at hj
 |y::r,i,bN,h,j,x,hj=>by
  unfold zC at h;split at h
  ·rename_i k al
   cases ar:(Nat.beq k.cT i&&(Nat.beq k.eN y.eN&&(Nat.beq k.ty y.ty&& !k.ro))) with
   |false=>rw[ar] at h;cases h
   |true=>
    rw[ar,bF] at h;simp only [c8,Bool.not_eq_true'] at ar;obtain⟨a,b,ad,ag,rfl⟩:=uF h;cases j with
    |zero=>
     simp only [List.getElem?_cons_zero,cQ] at hj;subst hj;exact⟨k,a,al,cI ar.1,cI ar.2.1,cI ar.2.2.1,ar.2.2.2,ad,λp hp=>List.mem_append_left _ hp⟩
    |succ j=>
     obtain⟨k',o,q1,aH,b0,eF,hz,ld,oX⟩:=Dr r (i+1) ag j x (by simpa using hj);exact⟨k',o,by rw[show i+(j+1)=i+1+j by omega];exact q1,aj,b0,eF,hz,ld,λp hp=>List.mem_append_right _ (oX p hp)⟩
  ·cases h
def Jq (A:a8) (i:Nat):Option (Code×Code):=match A.bl.get i with
 |some k=>match k.obj with
  | .gw (.loop fX)=>some (fX.assign,fX.body)
  |_=>none
 |none=>none
def ix (A:a8):List bx->Nat->Prop
 |[],_=>True
 |x::r,i=>(match x.obj with| .gw (.loop fX)=>Jq A i=some (fX.assign,fX.body)|_=>True)/\ix A r (i+1)
def rl:List bx->Bool
 |[]=>true
 |x::r=>(match x.obj with| .gw (.loop _)=>false|_=>true)&&rl r
theorem Oa {A:a8}:∀{l:List bx} {i j:Nat} {x:bx} {fX:Aw},ix A l i->l[j]? =some x->x.obj= .gw (.loop fX)->Jq A (i+j)=some (fX.assign,fX.body)
 |[],i,j,x,fX,_,hj,_=>by simp at hj
 |y::r,i,0,x,fX,h,hj,ho=>by
  simp only [List.getElem?_cons_zero,cQ] at hj;subst hj;have:=h.1;rw[ho] at this;exact this
 |y::r,i,j+1,x,fX,h,hj,ho=>by
  rw[show i+(j+1)=i+1+j by omega];exact Oa h.2 (by simpa using hj) ho
theorem gW {A:a8}:∀{l:List bx} {i:Nat},rl l=true->ix A l i
 |[],_,_=>trivial
 |x::r,i,h=>by
  unfold rl at h;simp only [c8] at h;refine⟨?_,gW h.2⟩;split
  ·rename_i fX aq
   rw[aq] at h;cases h.1
  ·trivial
def cr (s1:b8) (sl:aF) (l:List bx):Option eH:=
 match s1.ms with
 |[]=>bif zA l then both (ta l.length s1.sl sl) (zC l.length s1.A l 0) else none
 |_=>none
theorem Here.Bb [cV] {s1 s2:a7} {N B:Nat} {st:b8} {w0 w w':ax} {a:Act} {sl:aF} {l:List bx} {bN:eH} (T:Nat->Prop) (dg:cr st sl l=some bN) (hm:fO s1 s2 bN) (eA:∀i,T i->s1.dn i≠none/\B<=i)
  (uG:w'.os=w.os/\w'.tape=w.tape/\w'.output=w.output/\iF w<=iF w') (cv:w.heap.size<=w'.heap.size) (hw:∀i,i<w.heap.size->¬T i->w'.heap[i]? =w.heap[i]?)
  (qI:∀i o,s2.dn i=some o->w'.heap[i]? =some o/\(s1.dn i≠none\/w.heap.size<=i\/i<B)) (av:cV.ev<=l.length) (ar:ix st.A l 0) (ah: @Here s1 _ N st B w0 a w): @Here s2 _ N {sl,ms:=[],A:=da l} B w0 a w':=by
 unfold cr at dg;split at dg
 ·rename_i vE
  cases hK:zA l with
  |false=>rw[hK] at dg;cases dg
  |true=>
   rw[hK,bF] at dg;obtain⟨x,y,aq,bE,rfl⟩:=uF dg;obtain⟨⟨φ,ds,ad,ag,ay,bG,fR⟩,cJ,cU⟩:=ah;rw[vE] at ad;cases ad;have hold:∀b k,(da l).bl.get b=some k->∃x eU o,l[b]? =some x/\k=x.bn b/\st.A.bl.get b=some eU/\eU.cT=b/\eU.eN=x.eN/\eU.ty=x.ty/\eU.ro=false/\Ba l.length eU.obj x.obj=some o/\∀p∈o,p∈y:=λb k al=>by
    obtain⟨x,q1,aH⟩:=zB al;obtain⟨eU,o,cS,dy,gj⟩:=Dr l 0 bE b x q1;rw[Nat.zero_add] at cS dy;exact⟨x,eU,o,q1,aH,cS,dy,gj⟩
   have t_:∀b e,φ b=some e->e.bn<w.heap.size/\¬T e.bn/\s1.dn e.bn=none:=λb e af=>by
    obtain⟨k,_,_,q⟩:= @b2.eE s1 _ _ _ ay b e af;have tc:s1.dn e.bn=none:=by
     cases ai:s1.dn e.bn with
     |none=>rfl
     |some o=>exact absurd rfl ((@b2.dn s1 _ _ _ ay e.bn o ai).2 b e af)
    exact⟨@fS.lt s1 _ _ _ _ q,λaN=>(eA _ aN).1 tc,tc⟩
   have zD:∀b e,φ b=some e->w'.heap[e.bn]? =w.heap[e.bn]? :=λb e af=>hw _ (t_ b e af).1 (t_ b e af).2.1
   have gP:∀b,b<l.length->∃k,(da l).bl.get b=some k:=λb af=>by
    have:=List.all_eq_true.1 hK b (by simpa using af);simp only [c8] at this;obtain⟨_,hm⟩:=this;split at hm
    ·rename_i k al;exact⟨k,al⟩
    ·cases hm
   refine⟨⟨nX l.length φ,[],.nil,⟨@fE.size s1 _ _ _ _ _ ag,@fE.defers s1 _ _ _ _ _ ag,λt gL yj=>Dp st.sl sl aq hm.left t gL _ yj λv1 w8=> @fE.get s1 _ _ _ _ _ ag t v1 w8⟩,⟨VT hK,?_,?_,?_,λi o ai=> ?_⟩,λb e af=>bG b e (qH af).2,av,λb af=>by unfold nX;rw[aY (Nat.lt_of_lt_of_le af av)];exact fR.2 b af⟩,cJ.trans ⟨⟨uG.1,uG.2.1,uG.2.2.1,cv,λk al=>hw k aj λaN=>by have:=(eA k aN).2;omega⟩,uG.2.2.2⟩,Nat.le_trans cU cv⟩
   ·intro b e af
    obtain⟨cg,ie⟩:=qH af;obtain⟨k,al⟩:=gP b cg;obtain⟨x,eU,o,q1,rfl,b0,eF,hz,ld,oX,g_,AY⟩:=hold b k al;obtain⟨de,cS,dy,gj⟩:= @b2.eE s1 _ _ _ ay b e ie;rw[b0] at cS;cases cS;refine⟨_,al,by rw[dy,hz];rfl,?_⟩;unfold fS at gj ⊢;show match x.obj with| .cells c=>_| .map es e6=>_| .gw x=>_
    cases fK:eU.obj with
    |cells c=>
     rw[fK] at g_;simp only [fK] at gj;cases iH:x.obj with
     |cells c2=>
      rw[iH] at g_;obtain⟨c',jl,g1,g2,g3,g4,lb⟩:=gj;have oq:∀i,i<c.length->((List.range c.length).map λj=>c'.getD (e.sh+j) undef).getD i undef=c'.getD (e.sh+i) undef:=λi ai=>by
       rw[dq,List.getElem?_map,List.getElem?_range ai];rfl
      have:=Dn (s1:=s1) (s2:=s2) (φ:=φ) c c2 g_ (λp hp=>hm.right p (AY p hp)) ((List.range c.length).map λj=>c'.getD (e.sh+j) undef) (by simp) λi ai=>by
       rw[oq i ai];exact g4 i ai
      obtain⟨t1,t2⟩:=this;simp only [List.length_map,List.length_range] at t1;refine⟨c',jl,by rw[zD b e ie,show (x.bn b).ty=eU.ty from ld.symm];exact g1,g2,by rw[<-t1,show (x.bn b).eN=eU.eN from hz.symm];exact g3,λj hj=> ?_,λ_=>lb oX⟩;have:=t2 j hj;rw[oq j aj] at this;exact this
     |map es e6=>rw[iH] at g_;cases g_
     |gw z=>rw[iH] at g_;cases g_
    |map es e6=>
     rw[fK] at g_;cases iH:x.obj<;>rw[iH] at g_<;>cases g_
    |gw z=>
     rw[fK] at g_;simp only [fK] at gj;obtain⟨eI,o',g1,g2⟩:=gj;cases iH:x.obj with
     |cells c2=>rw[iH] at g_;cases z<;>cases g_
     |map es e6=>rw[iH] at g_;cases z<;>cases g_
     |gw z2=>
      rw[iH] at g_;refine⟨eI,o',(zD b e ie).trans g1,?_⟩;cases z with
      |loop a=>
       cases z2 with
       |loop b=>
        unfold Ba at g_;simp only at g_;cases aw:Fu l.length a b with
        |false=>rw[aw] at g_;cases g_
        |true=>
         rw[aw,bF] at g_;unfold Fu at aw;simp only [c8,decide_eq_true_eq,Option.isNone_iff_eq_none] at aw;obtain⟨hA,c2,c3,nV,Jr,Js,Jt⟩:=aw;have pZ:=Oa ar q1 iH;rw[Nat.zero_add] at pZ;unfold Jq at pZ;rw[b0] at pZ;simp only [fK,cQ,Prod.mk.injEq] at pZ;obtain⟨r,mh,uD,yd,A6,A7,Fl,Fm,⟨e',Ob,u8⟩,Oc⟩:=g2;refine⟨r,mh,uD.trans (VV hA),by rw[yd,c2,c3],by rw[A6,cI nV],by rw[A7,Jr],by rw[Fl,pZ.1],by rw[Fm,pZ.2],⟨e',?_,u8⟩,λt v aC=> ?_⟩
         ·rw[<-cI Js]
          exact Dm Ob (Nat.blt_eq.mp Jt)
         ·exact Dp (s1:=s1) a.sl b.sl g_ (λp hp=>hm.right p (AY p hp)) t v _ aC λv1 w8=>Oc t v1 w8
       |_=>cases g_
      |_=>cases z2<;>first|(cases g_;done)|exact g2
   ·intro b e k b' e' k' af eh al dD c1
    obtain⟨_,ie⟩:=qH af;obtain⟨_,s7⟩:=qH eh;obtain⟨x,eU,o,q1,rfl,b0,eF,_⟩:=hold b k al;obtain⟨x',Fv,o',vk,rfl,sU,Fw,_⟩:=hold b' k' dD;exact @b2.apart s1 _ _ _ ay b e eU b' e' Fv ie s7 b0 sU (by rw[eF,Fw];exact c1)
   ·intro b e k b' e' k' af eh al dD aR _
    obtain⟨_,ie⟩:=qH af;obtain⟨_,s7⟩:=qH eh;obtain⟨x,eU,o,q1,rfl,b0,eF,_⟩:=hold b k al;obtain⟨x',Fv,o',vk,rfl,sU,Fw,_⟩:=hold b' k' dD;have:b=b':=aR;subst this;rw[ie] at s7;cases s7;rfl
   ·obtain⟨g1,g2⟩:=qI i o ai
    refine⟨g1,λb e af ae4=> ?_⟩;obtain⟨q1,_,b0⟩:=t_ b e (qH af).2;have eF:=bG b e (qH af).2;rw[ae4] at q1 b0 eF;rcases g2 with g2|g2|g2
    ·exact g2 b0
    ·omega
    ·omega
 ·cases dg
theorem Here.move [cV] {s1 s2:a7} {N B:Nat} {st:b8} {w0 w:ax} {a:Act} {sl:aF} {l:List bx} {bN:eH} (dg:cr st sl l=some bN) (hm:fO s1 s2 bN)
  (qI:∀i o,s2.dn i=some o->s1.dn i=some o) (av:cV.ev<=l.length) (ar:ix st.A l 0) (ah: @Here s1 _ N st B w0 a w): @Here s2 _ N {sl,ms:=[],A:=da l} B w0 a w:=by
 have ai:=ah;obtain⟨⟨φ,ds,ad,ag,ay,bG,fR⟩,cJ,cU⟩:=ai;exact Here.Bb (λ_=>False) dg hm (λ_ h=>h.elim) ⟨rfl,rfl,rfl,ch _⟩ (ch _) (λ_ _ _=>rfl) (λi o h=>⟨(@b2.dn s1 _ _ _ ay i o (qI i o h)).1,.inl (by rw[qI i o h];simp)⟩) av ar ah
theorem Here.nY [a7] [cV] {N B:Nat} {st:b8} {w0 w:ax} {a:Act} (ah:Here N st B w0 a w):oz w:=by
 obtain⟨⟨φ,ds,ad,ag,ay,bG,fR⟩,cJ,cU⟩:=ah;exact λi o ai=>(ay.dn i o ai).1
end AE
namespace AE
inductive fl where
 |na (y:Code)
 |vF (id:Nat)
 |td (c:Code) (m:Nat)
inductive b1 where
 |done (x:ll) (s:b8)
 |loop (body:Code) (s:b8) (ks:List fl)
 |oper (o:Oper) (r:List Oper) (ops:Array Oper) (s:b8) (ks:List fl)
 |range (g:Operand) (ps:Array Tmp) (nH body:Code) (s:b8) (ks:List fl)
 |draw (id:Nat) (ops:Array Oper) (s:b8) (ks:List fl)
 |cond (c:Operand) (x y:Code) (s:b8) (ks:List fl)
def b1.push (k:fl):b1->b1
 | .loop b s ks=> .loop b s (ks++[k])
 | .oper o r ops s ks=> .oper o r ops s (ks++[k])
 | .range g ps nH b s ks=> .range g ps nH b s (ks++[k])
 | .draw id ops s ks=> .draw id ops s (ks++[k])
 | .cond c x y s ks=> .cond c x y s (ks++[k])
 |st=>st
def b1.w9 (k:List fl):b1->b1
 | .loop b s ks=> .loop b s (ks++k)
 | .oper o r ops s ks=> .oper o r ops s (ks++k)
 | .range g ps nH b s ks=> .range g ps nH b s (ks++k)
 | .draw id ops s ks=> .draw id ops s (ks++k)
 | .cond c x y s ks=> .cond c x y s (ks++k)
 |st=>st
def Ds (P:aS) [Lib P] [ej P] (C:iw) (N:Nat) (ops:Array Oper) (ms:List Nat):List Oper->aF->a8->b1
 |[],sl,A=> .done .normal {sl,ms,A}
 |o::r,sl,A=>match wU P C .nil N ops o sl A with
  |some (eK,bH)=>Ds P C N ops ms r eK bH
  |none=> .oper o r ops {sl,ms,A} []
def p0 (P:aS) [Lib P] [ej P] (C:iw) (N bq:Nat):Code->b8->Option b1
 | .loop b,s=>match mY P C .nil N false bq (.loop b) s with
   |some (x,s1)=>some (.done x s1)
   |none=>some (.loop b s [])
 | .region id ops d,s=>bif d then match I3 P C .nil N false ops s.sl s.A with
     |some (eK,bH,r)=>some (Ds P C N ops s.ms r eK bH)
     |none=>match Jb P C .nil N false ops s.sl s.A with
      |some (eK,bH)=>some (.done .normal {sl:=eK,ms:=s.ms,A:=bH})
      |none=>some (.draw id ops s [])
   else some (Ds P C N ops s.ms ops.toList s.sl s.A)
 | .seq x y,s=>match p0 P C N bq x s with
   |some (.done x s1)=>match x with
    | .normal=>p0 P C N bq y s1
    |x=>some (.done x s1)
   |some st=>some (st.push (.na y))
   |none=>none
 | .cond c x y,s=>match dH .nil s.sl c with
   | .bool t=>bif t then p0 P C N bq x s else p0 P C N bq y s
   |v=>match AU P v with
    |some t=>bif t then p0 P C N bq x s else p0 P C N bq y s
    |none=>some (.cond c x y s [])
 | .block id x,s=>match p0 P C N bq x s with
   |some (.done x s1)=>match x with
    | .exit id'=>bif Nat.beq id' id then some (.done .normal s1) else some (.done (.exit id') s1)
    |x=>some (.done x s1)
   |some st=>some (st.push (.vF id))
   |none=>none
 | .rangeFunc g ps nH b,s=>match mY P C .nil N false bq (.rangeFunc g ps nH b) s with
   |some (x,s1)=>some (.done x s1)
   |none=>some (.range g ps nH b s [])
 |c,s=>match mY P C .nil N false bq c s with
  |some (x,s1)=>some (.done x s1)
  |none=>none
def Fx (P:aS) [Lib P] [ej P] (C:iw) (N bq:Nat) (c:Code):Nat->b8->Option b1
 |0,_=>none
 |m+1,s=>match p0 P C N bq c s with
  |some (.done x s1)=>match x with
   | .normal=>Fx P C N bq c m s1
   |x=>some (.done x s1)
  |some st=>some (st.push (.td c m))
  |none=>none
def resume (P:aS) [Lib P] [ej P] (C:iw) (N bq:Nat):List fl->ll->b8->Option b1
 |[],x,s=>some (.done x s)
 | .na y::ks,x,s=>match x with
   | .normal=>match p0 P C N bq y s with
     |some (.done x s1)=>resume P C N bq ks x s1
     |some st=>some (st.w9 ks)
     |none=>none
   |x=>resume P C N bq ks x s
 | .vF id::ks,x,s=>match x with
   | .exit id'=>bif Nat.beq id' id then resume P C N bq ks .normal s else resume P C N bq ks (.exit id') s
   |x=>resume P C N bq ks x s
 | .td c m::ks,x,s=>match x with
   | .normal=>match Fx P C N bq c m s with
     |some (.done x s1)=>resume P C N bq ks x s1
     |some st=>some (st.w9 ks)
     |none=>none
   |x=>resume P C N bq ks x s
def d' (P:aS):List fl->(Exit->Act->ax->Prop)->Exit->Act->ax->Prop
 |[],Q=>Q
 | .na y::ks,Q=>Exit.then (y.wpIn (Fr none) 0 P (d' P ks Q)) (d' P ks Q)
 | .vF id::ks,Q=>Exit.inBlock id (d' P ks Q)
 | .td c m::ks,Q=>Exit.then (Code.roundsIn (Fr none) 0 P c (d' P ks Q) m) (d' P ks Q)
theorem te (P:aS):∀(de dv:List fl) (Q:Exit->Act->ax->Prop),d' P (de++dv) Q=d' P de (d' P dv Q)
 |[],_,_=>rfl
 | .na y::ks,dv,Q=>by simp only [List.cons_append,d',te P ks dv Q]
 | .vF id::ks,dv,Q=>by simp only [List.cons_append,d',te P ks dv Q]
 | .td c m::ks,dv,Q=>by simp only [List.cons_append,d',te P ks dv Q]
def oB (Q:Exit->Act->ax->Prop):Prop:=∀c a w,¬Q (.panic c) a w
theorem oB.then {Q:Exit->Act->ax->Prop} (h:oB Q) (R:Act->ax->Prop):oB (Exit.then R Q):=λc a w bf=>h c a w bf
theorem oB.inBlock {Q:Exit->Act->ax->Prop} (h:oB Q) (id:Nat):oB (Exit.inBlock id Q):=λc a w bf=>h c a w bf
theorem oB.vG {P:aS} {Q:Exit->Act->ax->Prop} (h:oB Q):∀ks:List fl,oB (d' P ks Q)
 |[]=>h
 | .na y::ks=>(oB.vG h ks).then _
 | .vF id::ks=>(oB.vG h ks).inBlock id
 | .td c m::ks=>(oB.vG h ks).then _
section
variable [a7] [cV]
def mI (P:aS) (N B:Nat) (w0:ax) (Q:Exit->Act->ax->Prop):b1->Prop
 | .done x s=>∀a w,Here N s B w0 a w->Q x.exit' a w
 | .loop b s ks=>∀a w,Here N s B w0 a w->(Code.loop b).wpIn (Fr none) 0 P (d' P ks Q) a w
 | .oper o r ops s ks=>∀a w,Here N s B w0 a w->wpListIn (Fr none) 0 P ops (d' P ks Q) (o::r) a w
 | .range g ps nH b s ks=>∀a w,Here N s B w0 a w->(Code.rangeFunc g ps nH b).wpIn (Fr none) 0 P (d' P ks Q) a w
 | .draw id ops s ks=>∀a w,Here N s B w0 a w->(Code.region id ops true).wpIn (Fr none) 0 P (d' P ks Q) a w
 | .cond c x y s ks=>∀a w,Here N s B w0 a w->(Code.cond c x y).wpIn (Fr none) 0 P (d' P ks Q) a w
omit [a7] [cV] in
theorem Ju {P:aS} {y:Code} {Q:Exit->Act->ax->Prop} {x:ll} {a:Act} {w:ax} (aq:x≠.normal) (h:Q x.exit' a w) (R:Act->ax->Prop):Exit.then R Q x.exit' a w:=by
 cases x<;>first|exact absurd rfl aq|exact h
variable {P:aS} [Lib P] [ej P] {C:iw} {N B:Nat} {w0:ax}
omit [Lib P] [ej P] in
theorem mI.push {k:fl} {Q:Exit->Act->ax->Prop} {st:b1} (bg:∀x s,st≠.done x s) (h:mI P N B w0 Q (st.push k)):mI P N B w0 (d' P [k] Q) st:=by
 cases st with
 |done x s=>exact absurd rfl (bg x s)
 |loop b s ks=>intro a w ah;have:=h a w ah;rw[te] at this;exact this
 |oper o r ops s ks=>intro a w ah;have:=h a w ah;rw[te] at this;exact this
 |range g ps nH b s ks=>intro a w ah;have:=h a w ah;rw[te] at this;exact this
 |draw id ops s ks=>intro a w ah;have:=h a w ah;rw[te] at this;exact this
 |cond c x y s ks=>intro a w ah;have:=h a w ah;rw[te] at this;exact this
omit [Lib P] [ej P] in
theorem mI.w9 {k:List fl} {Q:Exit->Act->ax->Prop} {st:b1} (bg:∀x s,st≠.done x s) (h:mI P N B w0 Q (st.w9 k)):mI P N B w0 (d' P k Q) st:=by
 cases st with
 |done x s=>exact absurd rfl (bg x s)
 |loop b s ks=>intro a w ah;have:=h a w ah;rw[te] at this;exact this
 |oper o r ops s ks=>intro a w ah;have:=h a w ah;rw[te] at this;exact this
 |range g ps nH b s ks=>intro a w ah;have:=h a w ah;rw[te] at this;exact this
 |draw id ops s ks=>intro a w ah;have:=h a w ah;rw[te] at this;exact this
 |cond c x y s ks=>intro a w ah;have:=h a w ah;rw[te] at this;exact this
theorem Jv (c4:lT P .nil C) {ops:Array Oper} {ms:List Nat} {Q:Exit->Act->ax->Prop}:∀(l:List Oper) (sl:aF) (A:a8) (a:Act) (w:ax),mI P N B w0 Q (Ds P C N ops ms l sl A)->Here N {sl,ms,A} B w0 a w->wpListIn (Fr none) 0 P ops Q l a w
 |[],sl,A,a,w,c_,ah=>c_ a w ah
 |o::r,sl,A,a,w,c_,ah=>by
  unfold Ds at c_;split at c_
  ·rename_i eK bH c0
   exact VN (l1:=[o]) (s:={sl,ms,A}) c4 r (by simp only [wV,c0]) ah λa6 w' yg=>Jv c4 r eK bH a6 w' c_ yg
  ·exact c_ a w ah
theorem yk (cR:P.follows .mixedOrders=true) (c4:lT P .nil C) {bq:Nat} {c:Code} {s:b8} {st:b1} {Q:Exit->Act->ax->Prop} {a:Act} {w:ax}
  (h:(match mY P C .nil N false bq c s with|some (x,s1)=>some (b1.done x s1)|none=>none)=some st) (c_:mI P N B w0 Q st) (ah:Here N s B w0 a w):c.wpIn (Fr none) 0 P Q a w:=by
 split at h
 ·rename_i x s1 ad
  cases h;refine wpIn_mono (aeY cR c4 bq ad ah) λe a6 w' hp=> ?_
  obtain⟨rfl,yg⟩:=hp;exact c_ a6 w' yg
 ·cases h
theorem sc (cR:P.follows .mixedOrders=true) (c4:lT P .nil C) {bq:Nat}:∀(c:Code) (s:b8) (st:b1) (Q:Exit->Act->ax->Prop) (a:Act) (w:ax),oB Q->p0 P C N bq c s=some st->mI P N B w0 Q st->Here N s B w0 a w->c.wpIn (Fr none) 0 P Q a w
 | .loop b,s,st,Q,a,w,bf,h,c_,ah=>by
   unfold p0 at h;split at h
   ·rename_i x s1 ad
    exact yk (bq:=bq) (c:= .loop b) cR c4 (by rw[ad];exact h) c_ ah
   ·cases h
    exact c_ a w ah
 | .region id ops d,s,st,Q,a,w,bf,h,c_,ah=>by
   unfold p0 at h;cases d with
   |false=>
    rw[eD,cQ] at h;subst h;exact wpIn_region_list (Jv c4 _ _ _ a w c_ ah)
   |true=>
    rw[bF] at h;split at h
    ·rename_i eK bH r ad
     cases h;obtain⟨⟨φ,ds,g1,g2,g3,g4,g7⟩,lb,g6⟩:=ah;refine Vk cR c4 g3 (iG φ) g2 (λ_=>rfl) bf ad λgO eG w1 q1 aH=> ?_
     obtain⟨de,dv⟩:=Dk g4 aH g6;exact Jv c4 _ _ _ eG w1 c_ ⟨⟨gO,ds,g1.mono (aH.ext g3),q1,aH.rel,de,g7.step aH⟩,lb.trans dv,Nat.le_trans g6 aH.gN⟩
    ·split at h
     ·rename_i eK bH ad
      cases h;obtain⟨⟨φ,ds,g1,g2,g3,g4,g7⟩,lb,g6⟩:=ah;refine Vr cR c4 g3 (iG φ) g2 (λ_=>rfl) bf ad λgO eG w1 q1 aH=> ?_
      obtain⟨de,dv⟩:=Dk g4 aH g6;exact c_ eG w1 ⟨⟨gO,ds,g1.mono (aH.ext g3),q1,aH.rel,de,g7.step aH⟩,lb.trans dv,Nat.le_trans g6 aH.gN⟩
     ·cases h
      exact c_ a w ah
 | .seq x y,s,st,Q,a,w,bf,h,c_,ah=>by
   unfold p0 at h;refine wpIn_seq ?_;split at h
   ·rename_i eJ s1 ad
    refine sc cR c4 x s _ _ a w (bf.then _) ad (λeG w1 lW=> ?_) ah;split at h
    ·exact sc cR c4 y s1 st Q eG w1 bf h c_ lW
    ·rename_i aq
     cases h;exact Ju (P:=P) (y:=y) (λh=>aq h) (c_ eG w1 lW) _
   ·rename_i ot ad bg
    cases h;exact sc cR c4 x s _ _ a w (bf.then _) bg (mI.push (Q:=Q) (k:= .na y) ad c_) ah
   ·cases h
 | .cond c x y,s,st,Q,a,w,bf,h,c_,ah=>by
   unfold p0 at h;split at h
   ·rename_i t aN
    refine wpIn_cond (ae0 aN ah) ?_;cases t with
    |true=>exact sc cR c4 x s st Q a w bf h c_ ah
    |false=>exact sc cR c4 y s st Q a w bf h c_ ah
   ·split at h
    ·rename_i t aN
     refine wpIn_cond (ae1 c4.facts aN ah) ?_;cases t with
     |true=>exact sc cR c4 x s st Q a w bf h c_ ah
     |false=>exact sc cR c4 y s st Q a w bf h c_ ah
    ·cases h
     exact c_ a w ah
 | .block id x,s,st,Q,a,w,bf,h,c_,ah=>by
   unfold p0 at h;refine wpIn_block ?_;split at h
   ·rename_i eJ s1 ad
    refine sc cR c4 x s _ _ a w (bf.inBlock id) ad (λeG w1 lW=> ?_) ah;split at h
    ·rename_i id'
     show if id'=id then Q .normal eG w1 else Q (.exit id') eG w1
     cases af:Nat.beq id' id with
     |true=>
      rw[af] at h;cases h;rw[aY (cI af)];exact c_ eG w1 lW
     |false=>
      rw[af] at h;cases h;rw[a_ (Nat.ne_of_beq_eq_false af)];exact c_ eG w1 lW
    ·rename_i aq
     cases h;have:=c_ eG w1 lW;cases eJ with
     |exit id'=>exact absurd rfl (aq id')
     |_=>exact this
   ·rename_i ot ad bg
    cases h;exact sc cR c4 x s _ _ a w (bf.inBlock id) bg (mI.push (Q:=Q) (k:= .vF id) ad c_) ah
   ·cases h
 | .skip,s,st,Q,a,w,bf,h,c_,ah=>yk (bq:=bq) cR c4 h c_ ah
 | .rangeFunc g ps nH b,s,st,Q,a,w,bf,h,c_,ah=>by
   unfold p0 at h;split at h
   ·rename_i x s1 ad
    exact yk (bq:=bq) (c:= .rangeFunc g ps nH b) cR c4 (by rw[ad];exact h) c_ ah
   ·cases h
    exact c_ a w ah
 | .exit _,s,st,Q,a,w,bf,h,c_,ah=>yk (bq:=bq) cR c4 h c_ ah
 | .scope _,s,st,Q,a,w,bf,h,c_,ah=>yk (bq:=bq) cR c4 h c_ ah
 | .label _,s,st,Q,a,w,bf,h,c_,ah=>yk (bq:=bq) cR c4 h c_ ah
 | .goto _,s,st,Q,a,w,bf,h,c_,ah=>yk (bq:=bq) cR c4 h c_ ah
 | .ret,s,st,Q,a,w,bf,h,c_,ah=>yk (bq:=bq) cR c4 h c_ ah
 | .refuse _,s,st,Q,a,w,bf,h,c_,ah=>yk (bq:=bq) cR c4 h c_ ah
theorem Fy (cR:P.follows .mixedOrders=true) (c4:lT P .nil C) {bq:Nat} {c:Code}:∀(m:Nat) (s:b8) (st:b1) (Q:Exit->Act->ax->Prop) (a:Act) (w:ax),oB Q->Fx P C N bq c m s=some st->mI P N B w0 Q st->Here N s B w0 a w->Code.roundsIn (Fr none) 0 P c Q m a w
 |0,s,st,Q,a,w,bf,h,c_,ah=>by cases h
 |m+1,s,st,Q,a,w,bf,h,c_,ah=>by
  unfold Fx at h;rw[roundsIn_succ];split at h
  ·rename_i eJ s1 ad
   refine sc cR c4 c s _ _ a w (bf.then _) ad (λeG w1 lW=> ?_) ah;split at h
   ·exact Fy cR c4 m s1 st Q eG w1 bf h c_ lW
   ·rename_i aq
    cases h;exact Ju (P:=P) (y:= .skip) (λh=>aq h) (c_ eG w1 lW) _
  ·rename_i ot ad bg
   cases h;exact sc cR c4 c s _ _ a w (bf.then _) bg (mI.push (Q:=Q) (k:= .td c m) ad c_) ah
  ·cases h
theorem p1 (cR:P.follows .mixedOrders=true) (c4:lT P .nil C) {bq:Nat}:∀(ks:List fl) (x:ll) (s:b8) (st:b1) (Q:Exit->Act->ax->Prop) (a:Act) (w:ax),oB Q->resume P C N bq ks x s=some st->mI P N B w0 Q st->Here N s B w0 a w->d' P ks Q x.exit' a w
 |[],x,s,st,Q,a,w,bf,h,c_,ah=>by
  cases h;exact c_ a w ah
 | .na y::ks,x,s,st,Q,a,w,bf,h,c_,ah=>by
   unfold resume at h;unfold d';cases x with
   |normal=>
    simp only at h;show y.wpIn (Fr none) 0 P (d' P ks Q) a w;split at h
    ·rename_i eJ s1 ad
     exact sc cR c4 y s _ _ a w (bf.vG ks) ad (λeG w1 lW=>p1 cR c4 ks eJ s1 st Q eG w1 bf h c_ lW) ah
    ·rename_i ot ad bg
     cases h;exact sc cR c4 y s _ _ a w (bf.vG ks) bg (mI.w9 (Q:=Q) (k:=ks) ad c_) ah
    ·cases h
   |exit id=>exact p1 cR c4 ks (.exit id) s st Q a w bf h c_ ah
   |goto l=>exact p1 cR c4 ks (.goto l) s st Q a w bf h c_ ah
   |ret=>exact p1 cR c4 ks .ret s st Q a w bf h c_ ah
 | .vF id::ks,x,s,st,Q,a,w,bf,h,c_,ah=>by
   unfold resume at h;unfold d';cases x with
   |exit id'=>
    simp only at h;show if id'=id then d' P ks Q .normal a w else d' P ks Q (.exit id') a w
    cases af:Nat.beq id' id with
    |true=>
     rw[af,bF] at h;rw[aY (cI af)];exact p1 cR c4 ks .normal s st Q a w bf h c_ ah
    |false=>
     rw[af,eD] at h;rw[a_ (Nat.ne_of_beq_eq_false af)];exact p1 cR c4 ks (.exit id') s st Q a w bf h c_ ah
   |normal=>exact p1 cR c4 ks .normal s st Q a w bf h c_ ah
   |goto l=>exact p1 cR c4 ks (.goto l) s st Q a w bf h c_ ah
   |ret=>exact p1 cR c4 ks .ret s st Q a w bf h c_ ah
 | .td c m::ks,x,s,st,Q,a,w,bf,h,c_,ah=>by
   unfold resume at h;unfold d';cases x with
   |normal=>
    simp only at h;show Code.roundsIn (Fr none) 0 P c (d' P ks Q) m a w;split at h
    ·rename_i eJ s1 ad
     exact Fy cR c4 m s _ _ a w (bf.vG ks) ad (λeG w1 lW=>p1 cR c4 ks eJ s1 st Q eG w1 bf h c_ lW) ah
    ·rename_i ot ad bg
     cases h;exact Fy cR c4 m s _ _ a w (bf.vG ks) bg (mI.w9 (Q:=Q) (k:=ks) ad c_) ah
    ·cases h
   |exit id=>exact p1 cR c4 ks (.exit id) s st Q a w bf h c_ ah
   |goto l=>exact p1 cR c4 ks (.goto l) s st Q a w bf h c_ ah
   |ret=>exact p1 cR c4 ks .ret s st Q a w bf h c_ ah
end
end AE
namespace AE
def aE (W:ax) (i:Nat):Option Obj:=W.heap[i]?
inductive cE {α:Type} (M:Nat->Option Obj) (k:Nat) (enc:α->List J):J->List α->Prop
 |nil (a:Option Addr) (c:Nat):cE M k enc (.slice a 0 c) []
 |mk {b off c:Nat} {l:List α} {cs:Array J} {ty:aK} {fr:Nat×Nat} (af:M b=some (.cells cs ty fr)) (ar:l.length<=c) (h:∀(i:Nat) (x:α),l[i]? =some x->∀(j:Nat) (u:J),(enc x)[j]? =some u->cs[off+i*k+j]? =some u):
   cE M k enc (.slice (some ⟨b,off,none⟩) l.length c) l
theorem cE.mono {α:Type} {M M':Nat->Option Obj} {k:Nat} {enc:α->List J} {v:J} {l:List α} (h:cE M k enc v l) (hm:∀i o,M i=some o->M' i=some o):cE M' k enc v l:=by
 cases h with
 |nil=>exact .nil _ _
 |mk ad ag ay=>exact .mk (hm _ _ ad) ag ay
theorem cE.below {α:Type} {W W':ax} {k:Nat} {enc:α->List J} {v:J} {l:List α} (h:cE (aE W) k enc v l) (af:cj W.heap.size W W'):cE (aE W') k enc v l:=
 h.mono λi o ai=>by
   have lQ:W.heap[i]? =some o:=ai;show W'.heap[i]? =some o;rw[af.block i (Array.getElem?_eq_some_iff.1 lQ).1];exact lQ
theorem cE.slice {α:Type} {M:Nat->Option Obj} {k:Nat} {enc:α->List J} {v:J} {l:List α} (h:cE M k enc v l):∃a c,v= .slice a l.length c:=by
 cases h with
 |nil=>exact⟨_,_,rfl⟩
 |mk=>exact⟨_,_,rfl⟩
def cellAt:J->Nat->Option Addr
 | .slice (some ⟨b,off,_⟩) _ _,o=>some ⟨b,off+o,none⟩
 |_,_=>none
def hd (v:J) (o:Nat):J:= .pointer (cellAt v o)
variable [a7]
section
variable {P:aS}
theorem aV.len {t ty e:aK} {x r:J} {a:Option Addr} {n c:Nat} (aq:aM x=true) (ao:aM r=true) (aN:P.underlying t=some (.slice e)) (ex:aJ x= .slice a n c) (ca:aJ r= .int .i64 n):aV P (.len #[t] ty x,r):=by
 refine⟨aq,ao,λeb ec w=> ?_⟩;show (gn eb ec (.len #[t] ty (aJ x))).run P w=_;rw[ex];unfold gn;have:(Builtin.len_ #[t] ty #[.slice a n c]).run P w= .ok (.int .i64 n) w:=by
  simp [Builtin.len_,run_underlying aN];rfl
 simp only [Sem.run_bind,this,Result.andThen_ok,ca];rfl
theorem uH {op:BinOp} {t:aK} {x y r:J} {a b:J} (aq:aM x=true) (bE:aM y=true) (ao:aM r=true) (ex:aJ x=a) (hN:aJ y=b)
  (h:∀eb ec w,(gn eb ec (.bin op t a b)).run P w= .ok (.value (aJ r)) w):aV P (.bin op t x y,r):=by
 refine⟨by simp [oy,aq,bE],ao,?_⟩;show ∀eb ec w,(gn eb ec (.bin op t (aJ x) (aJ y))).run P w=_;rw[ex,hN];exact h
def w_ (op:BinOp) (k:IntKind) (a b:Int):J:=
 match op with
 | .lss=> .bool (decide (a<b))
 | .leq=> .bool (decide (a<=b))
 | .gtr=> .bool (decide (b<a))
 | .geq=> .bool (decide (b<=a))
 | .eql=> .bool (decide (a=b))
 | .neq=> .bool (!decide (a=b))
 | .add=> .int k (k.wrap (a+b))
 | .sub=> .int k (k.wrap (a-b))
 | .mul=> .int k (k.wrap (a*b))
 |_=>undef
def yl:BinOp->Bool
 | .lss| .leq| .gtr| .geq| .eql| .neq| .add| .sub| .mul=>true
 |_=>false
omit [a7] in
theorem ae5 {op:BinOp} (cz:yl op=true) (t:aK) (k:IntKind) (a b:Int) (eb ec:Operand) (w:ax):(gn eb ec (.bin op t (.int k a) (.int k b))).run P w= .ok (.value (w_ op k a b)) w:=by
 have e1:(a==b)=decide (a=b):=by rw[Bool.eq_iff_iff];simp
 cases op<;>first|(cases cz;done)|skip
 all_goals unfold gn
 all_goals simp [eqGuard,binOp,Op.intCmp,Op.intArith,w_,e1,bne]
theorem aV.bi {op:BinOp} {t:aK} {x y r:J} {k:IntKind} {a b:Int} (aq:aM x=true) (bE:aM y=true) (ao:aM r=true) (cz:yl op=true) (ex:aJ x= .int k a) (hN:aJ y= .int k b)
 (ca:aJ r=w_ op k a b):aV P (.bin op t x y,r):=uH aq bE ao ex hN λeb ec w=>by rw[ca];exact ae5 cz t k a b eb ec w
theorem aV.p2 {c7:Array aK} {ty:aK} {x y r:J} {k:IntKind} {a b:Int} (aq:aM x=true) (bE:aM y=true) (ao:aM r=true) (ex:aJ x= .int k a) (hN:aJ y= .int k b) (ca:aJ r= .int k (max a b)):aV P (.e5 c7 ty x y,r):=by
 refine⟨by simp [oy,aq,bE],ao,λeb ec w=> ?_⟩;show (gn eb ec (.e5 c7 ty (aJ x) (aJ y))).run P w=_;rw[ex,hN,ca];unfold gn;simp only [Sem.run_bind,run_max_int2,Result.andThen_ok];rw[show (if b>a then b else a)=max a b by rw[Int.max_def];split<;>split<;>omega];rfl
theorem aV.tf {c7:Array aK} {ty:aK} {x y r:J} {k:IntKind} {a b:Int} (aq:aM x=true) (bE:aM y=true) (ao:aM r=true) (ex:aJ x= .int k a) (hN:aJ y= .int k b) (ca:aJ r= .int k (min a b)):aV P (.lS c7 ty x y,r):=by
 refine⟨by simp [oy,aq,bE],ao,λeb ec w=> ?_⟩;show (gn eb ec (.lS c7 ty (aJ x) (aJ y))).run P w=_;rw[ex,hN,ca];unfold gn;simp only [Sem.run_bind,run_min_int2,Result.andThen_ok];rw[show (if b<a then b else a)=min a b by rw[Int.min_def];split<;>split<;>omega];rfl
theorem aV.dB {t e:aK} {x i r:J} {b off n c bc:Nat} {j:Nat} {k:IntKind} (aq:aM x=true) (ai:aM i=true) (ao:aM r=true) (aN:P.underlying t=some (.slice e)) (cv:bk P (sizeOf e)=some bc)
  (ex:aJ x= .slice (some ⟨b,off,none⟩) n c) (hE:aJ i= .int k j) (hj:j<n) (ca:aJ r= .pointer (some ⟨b,off+j*bc,none⟩)):aV P (.dB t x i,r):=by
 refine⟨by simp [oy,aq,ai],ao,λeb ec w=> ?_⟩;show (gn eb ec (.dB t (aJ x) (aJ i))).run P w=_;rw[ex,hE];unfold gn;have:(Instr.indexAt t (.slice (some ⟨b,off,none⟩) n c) (.int k j)).run P w= .ok (.pointer (some ⟨b,off+j*bc,none⟩)) w:=by
  simp [Instr.indexAt,run_underlying aN,asIntOf,hj,jD cv w,Addr.kz]
 simp only [Sem.run_bind,this,Result.andThen_ok,ca];rfl
theorem aV.cq {s:aK} {x r:J} {f b o:Nat} {fields:Array Field} {iv:Field} {n:Nat} (aq:aM x=true) (ao:aM r=true) (aw:bk P (underlying s)=some (.struct fields)) (aR:fields[f]? =some iv) (av:bk P (sizeOf iv.type)=some n) (aL:n≠0)
  (ex:aJ x= .pointer (some ⟨b,o,none⟩)) (ca:aJ r= .pointer (some ⟨b,o+iv.offset,none⟩)):aV P (.cq s x f,r):=by
 refine⟨aq,ao,λeb ec w=> ?_⟩;show (gn eb ec (.cq s (aJ x) f)).run P w=_;rw[ex];unfold gn;have:(Instr.fieldAt s (.pointer (some ⟨b,o,none⟩)) f).run P w= .ok (.pointer (some ⟨b,o+iv.offset,none⟩)) w:=by
  unfold Instr.fieldAt;refine c9 aw ?_;simp only [aR];refine c9 (a:=(⟨b,o,none⟩:Addr)) rfl ?_;unfold fieldPlace;simp only [Sem.run_bind,jD av w,Result.andThen_ok,a_ aL,Addr.kz];rfl
 simp only [Sem.run_bind,this,Result.andThen_ok,ca];rfl
theorem aV.bB {t:aK} {x r:J} {b o n:Nat} {l:List J} (aq:aM x=true) (ao:aM r=true) (ha:bk P (isAgg t)=some true) (av:bk P (sizeOf t)=some n) (ex:aJ x= .pointer (some ⟨b,o,none⟩))
  (hl:l.length=n) (ar:∀w,oz w->∀j u,l[j]? =some u->w.cell? ⟨b,o+j,none⟩=some u) (ca:aJ r= .agg ⟨l⟩):aV P (.bB t x,r):=by
 refine⟨aq,ao,λeb ec w hw=> ?_⟩;show (gn eb ec (.bB t (aJ x))).run P w=_;rw[ex];unfold gn;have AN:∀j,j<n->w.cell? ((⟨b,o,none⟩:Addr).add j)=some (l.getD j undef):=λj hj=>by
  rw[Addr.kz];refine ar w hw j _ ?_;rw[gi aj,dq,gi aj];rfl
 have:(Instr.loadAt t (.pointer (some ⟨b,o,none⟩))).run P w= .ok (.agg ⟨l⟩) w:=by
  unfold Instr.loadAt;refine c9 (a:=(⟨b,o,none⟩:Addr)) rfl ?_;unfold loadVar;refine c9 ha ?_;simp only [if_true];refine c9 av ?_;refine dm (run_loadCells _ _ n (λj=>l.getD j undef) AN) ?_;have:(List.range n).map (λj=>l.getD j undef)=l:=by
   apply List.ext_getElem
   ·simp [hl]
   ·intro i ad ag
    simp only [List.getElem_map,List.getElem_range,dq];rw[gi ag];rfl
  show Result.ok (Value.agg (List.map (λj=>l.getD j undef) (List.range n)).toArray) w=_;rw[this]
 simp only [Sem.run_bind,this,Result.andThen_ok,ca];rfl
theorem aV.VW {t:aK} {x r:J} {b o:Nat} {u:J} (aq:aM x=true) (ao:aM r=true) (ha:bk P (isAgg t)=some false) (ex:aJ x= .pointer (some ⟨b,o,none⟩))
  (ar:∀w,oz w->w.cell? ⟨b,o,none⟩=some u) (ca:aJ r=u):aV P (.bB t x,r):=by
 refine⟨aq,ao,λeb ec w hw=> ?_⟩;show (gn eb ec (.bB t (aJ x))).run P w=_;rw[ex];unfold gn;have:(Instr.loadAt t (.pointer (some ⟨b,o,none⟩))).run P w= .ok u w:=by
  unfold Instr.loadAt;refine c9 (a:=(⟨b,o,none⟩:Addr)) rfl ?_;unfold loadVar;refine c9 ha ?_;simp [Go.load,Sem.run,ar w hw]
 simp only [Sem.run_bind,this,Result.andThen_ok,ca];rfl
omit [a7] in
theorem cE.at' {α:Type} {M:Nat->Option Obj} {k:Nat} {enc:α->List J} {v:J} {l:List α} (h:cE M k enc v l) {i:Nat} {x:α} (ai:l[i]? =some x):∃b off c cs ty fr,v= .slice (some ⟨b,off,none⟩) l.length c/\M b=some (.cells cs ty fr)/\
  ∀(j:Nat) (u:J),(enc x)[j]? =some u->cs[off+i*k+j]? =some u:=by
 cases h with
 |nil=>simp at ai
 |mk ad ag ay=>exact⟨_,_,_,_,_,_,rfl,ad,ay i x ai⟩
theorem aV.ae6 {α:Type} {k:Nat} {enc:α->List J} {v:J} {l:List α} (h:cE a7.dn k enc v l) {t ty e:aK} {x r:J} (aq:aM x=true) (ao:aM r=true) (aN:P.underlying t=some (.slice e)) (ex:aJ x=v) (ca:aJ r= .int .i64 l.length):
  aV P (.len #[t] ty x,r):=by
 obtain⟨a,c,aC⟩:=h.slice;exact aV.len aq ao aN (ex.trans aC) ca
theorem aV.Fz {α:Type} {k:Nat} {enc:α->List J} {v:J} {l:List α} (h:cE a7.dn k enc v l) {t e:aK} {x i r:J} {j:Nat} {gB:IntKind} (hj:j<l.length) (aq:aM x=true) (ai:aM i=true) (ao:aM r=true) (aN:P.underlying t=some (.slice e))
  (cv:bk P (sizeOf e)=some k) (ex:aJ x=v) (hE:aJ i= .int gB j) (ca:aJ r=hd v (j*k)):aV P (.dB t x i,r):=by
 obtain⟨b,off,c,_,_,_,aC,_⟩:=h.at' (gi hj);refine aV.dB aq ai ao aN cv (ex.trans aC) hE hj ?_;rw[ca,aC];rfl
theorem aV.VX {s:aK} {x r v:J} {f o o':Nat} {fields:Array Field} {iv:Field} {n:Nat} (aq:aM x=true) (ao:aM r=true) (aw:bk P (underlying s)=some (.struct fields)) (aR:fields[f]? =some iv) (av:bk P (sizeOf iv.type)=some n) (aL:n≠0)
  (aC:∃b off n c,v= .slice (some ⟨b,off,none⟩) n c) (ho:o'=o+iv.offset) (ex:aJ x=hd v o) (ca:aJ r=hd v o'):aV P (.cq s x f,r):=by
 obtain⟨b,off,m,c,rfl⟩:=aC;refine aV.cq aq ao aw aR av aL ex ?_;rw[ca,ho];show Value.pointer (some ⟨b,off+(o+iv.offset),none⟩)=_;rw[Nat.add_assoc]
theorem aV.sd {α:Type} {k:Nat} {enc:α->List J} {v:J} {l:List α} (h:cE a7.dn k enc v l) {t:aK} {p r:J} {i:Nat} {x:α} (ai:l[i]? =some x) (hp:aM p=true) (ao:aM r=true)
  (ha:bk P (isAgg t)=some true) (av:bk P (sizeOf t)=some k) (al:(enc x).length=k) (ex:aJ p=hd v (i*k)) (ca:aJ r= .agg ⟨enc x⟩):aV P (.bB t p,r):=by
 obtain⟨b,off,c,cs,ty,fr,aC,af,ar⟩:=h.at' ai;rw[aC] at ex;refine aV.bB hp ao ha av ex al (λw hw j u hj=> ?_) ca;rw[cell_of_row w b _ cs ty fr (hw b _ af)];exact ar j u hj
theorem aV.VY {α:Type} {k:Nat} {enc:α->List J} {v:J} {l:List α} (h:cE a7.dn k enc v l) {t:aK} {p r:J} {i o j:Nat} {x:α} {u:J} (ai:l[i]? =some x) (hp:aM p=true) (ao:aM r=true)
  (ha:bk P (isAgg t)=some false) (ho:o=i*k+j) (hu:(enc x)[j]? =some u) (ex:aJ p=hd v o) (ca:aJ r=u):aV P (.bB t p,r):=by
 obtain⟨b,off,c,cs,ty,fr,aC,af,ar⟩:=h.at' ai;rw[aC] at ex;refine aV.VW hp ao ha ex (λw hw=> ?_) ca;rw[cell_of_row w b _ cs ty fr (hw b _ af),ho,<-Nat.add_assoc];exact ar j u hu
end
end AE
namespace AE
def o3:J->J
 | .agg _=> .bool false
 | .tuple _=> .bool false
 |v=>v
theorem ae7 (v:J):∀cs,o3 v≠.agg cs/\o3 v≠.tuple cs:=by
 intro cs;cases v<;>simp [o3]
def mi (bs:List J) (k:Nat):J:=bif Nat.blt k eZ then o3 (bs.getD k (.bool false)) else .pointer (some ⟨k-eZ,0,none⟩)
theorem ae8 (bs:List J) (k:Nat):∀cs,mi bs k≠.agg cs/\mi bs k≠.tuple cs:=by
 unfold mi;cases Nat.blt k eZ with
 |true=>exact ae7 _
 |false=>exact λcs=>⟨λh=>(by cases h),λh=>(by cases h)⟩
theorem ae9 (bs:List J) (g:Nat):mi bs (eZ+g)= .pointer (some ⟨g,0,none⟩):=by
 unfold mi;rw[show Nat.blt (eZ+g) eZ=false from Bool.eq_false_iff.2 λh=>by rw[Nat.blt_eq] at h;omega,eD,Nat.add_sub_cancel_left]
@[reducible] def aX (M:Nat->Option Obj) (bs:List J):a7:=⟨mi bs,ae8 bs,M,ae9 bs⟩
theorem Od (W:ax) (bs:List J): @oz (aX (aE W) bs) W:=λi o h=>h
class nb (Q:Exit->Act->ax->Prop):Prop where
 calm:oB Q
instance [cV] {P:aS} {fn:Func} {N B:Nat} {w0:ax} {R:Ending->ax->Prop}:nb (rk P fn N B w0 R):=⟨λ_ _ _ h=>h⟩
instance {Q:Exit->Act->ax->Prop} [nb Q] {R:Act->ax->Prop}:nb (Exit.then R Q):=⟨(nb.calm (Q:=Q)).then R⟩
instance {P:aS} {Q:Exit->Act->ax->Prop} [nb Q] {ks:List fl}:nb (d' P ks Q):=⟨(nb.calm (Q:=Q)).vG ks⟩
def Dt:ll->Bool
 | .normal| .ret=>true
 |_=>false
def fm (P:aS) (fn:Func):Option b1->Option J
 |some (.done x s)=>bif Dt x then match yb s.A s.ms with
  |some f_=>match w7 P f_ s.sl fn.results.toList with
   |some vs=>bif aM (yf vs) then some (yf vs) else none
   |none=>none
  |none=>none
  else none
 |_=>none
def qJ (head:aF) (a1:List bx):Option b1->Option eH
 |some (.done .normal s)=>cr s head a1
 |_=>none
def p3 (head:aF) (a1:List bx):Option b1->Option eH
 |some (.loop _ s _)=>cr s head a1
 |_=>none
def pC:Option b1->Code
 |some (.loop b _ _)=>b
 |_=> .skip
def gC:Option b1->List fl
 |some (.loop _ _ ks)=>ks
 |some (.oper _ _ _ _ ks)=>ks
 |some (.range _ _ _ _ _ ks)=>ks
 |some (.draw _ _ _ ks)=>ks
 |some (.cond _ _ _ _ ks)=>ks
 |_=>[]
def b9:Option b1->b8
 |some (.done _ s)=>s
 |some (.loop _ s _)=>s
 |some (.oper _ _ _ s _)=>s
 |some (.range _ _ _ _ s _)=>s
 |some (.draw _ _ s _)=>s
 |some (.cond _ _ _ s _)=>s
 |none=>{sl:= .nil,ms:=[],A:=start}
def kO:Option b1->List Oper
 |some (.oper _ r _ _ _)=>r
 |_=>[]
def kP:Option b1->Array Oper
 |some (.oper _ _ ops _ _)=>ops
 |_=> #[]
def kc:Option b1->Option Tmp
 |some (.oper o _ _ _ _)=>o.dst
 |_=>none
def Jw (P:aS) [Lib P] [ej P] (C:iw) (N bq:Nat) (ks:List fl):Option b1->Option b1
 |some (.done .normal _)=>none
 |some (.done x s)=>resume P C N bq ks x s
 |_=>none
def b5 (head:aF) (a1:List bx):b8:={sl:=head,ms:=[],A:=da a1}
def b3:List (Nat×J)->aF
 |[]=> .nil
 |(t,v)::r=>match bY.set v depth (b3 r) t with
  |some s=>s
  |none=> .nil
def Jx (P:aS) (fn:Func):Option b1->Option (J×a8)
 |some (.done x s)=>bif Dt x then match yb s.A s.ms with
  |some f_=>match w7 P f_ s.sl fn.results.toList with
   |some vs=>some (yf vs,f_)
   |none=>none
  |none=>none
  else none
 |_=>none
theorem ae' [a7] [cV] {P:aS} {fn:Func} {N B:Nat} {w0:ax} {R:Ending->ax->Prop} {st:b1} {v:J} {f_:a8} (h:Jx P fn (some st)=some (v,f_)) (jE:∀aB w2,Here 1 (Jn v f_) B w0 (N7 aB) w2->R (.returned aB) w2):mI P N B w0 (rk P fn N B w0 R) st:=by
 unfold Jx at h;split at h
 ·rename_i x s c0
  cases c0;cases aq:Dt x with
  |false=>rw[aq] at h;cases h
  |true=>
   rw[aq,bF] at h;split at h
   ·rename_i A4 hl
    split at h
    ·rename_i vs kM
     cases h;intro a w ah;have main:Fq P fn N B w0 R a w:=⟨inferInstance,s,f_,yf vs,ah,hl,λ_ _ _ ao aw=>VA ao aw kM,jE⟩;cases x with
     |normal=>exact main
     |ret=>exact main
     |exit id=>cases aq
     |goto l=>cases aq
    ·cases h
   ·cases h
 ·cases h
theorem ae_ {P:aS} {fn:Func} {o:Option b1} {v:J} (h:fm P fn o=some v):∃f_,Jx P fn o=some (v,f_)/\aM v=true:=by
 unfold fm at h;unfold Jx;split at h
 ·rename_i x s
  cases aq:Dt x with
  |false=>rw[aq] at h;cases h
  |true=>
   rw[aq,bF] at h;simp only [aq,bF];split at h
   ·rename_i f_ hl
    split at h
    ·rename_i vs kM
     cases hp:aM (yf vs) with
     |false=>rw[hp] at h;cases h
     |true=>
      rw[hp,bF,cQ] at h;subst h;exact⟨f_,by simp only [hl,kM],hp⟩
    ·cases h
   ·cases h
 ·cases h
theorem VZ [a7] [cV] {P:aS} {fn:Func} {N B:Nat} {w0:ax} {R:Ending->ax->Prop} {st:b1} {v:J} (h:fm P fn (some st)=some v) (jE:∀w2,cj B w0 w2->oz w2->R (.returned (aJ v)) w2):mI P N B w0 (rk P fn N B w0 R) st:=by
 obtain⟨f_,ad,hp⟩:=ae_ h;refine ae' ad λaB w2 ah=> ?_
 have ai:=ah.nY;obtain⟨⟨φ,ds,q1,aH,b0,eF,_⟩,hz,ld⟩:=ah;have:=aH.get 0 v rfl;rw[show aB=aJ v from aD.jj v hp this];exact jE w2 hz ai
theorem afa [a7] [cV] {P:aS} [Lib P] [ej P] {C:iw} {N B bq:Nat} {w0:ax} {ks:List fl} {st s2:b1} {Q:Exit->Act->ax->Prop} [nb Q] {R:Act->ax->Prop} (cR:P.follows .mixedOrders=true) (c4:lT P .nil C) (h:Jw P C N bq ks (some st)=some s2) (ag:mI P N B w0 Q s2):mI P N B w0 (Exit.then R (d' P ks Q)) st:=by
 unfold Jw at h;split at h
 ·cases h
 ·rename_i x s aq c0
  cases c0;intro a w ah;exact Ju (Q:=d' P ks Q) (P:=P) (y:= .skip) (λav=>aq av) (p1 cR c4 ks x s s2 Q a w nb.calm h ag ah) R
 ·cases h
theorem afb [cV] {P:aS} {N B:Nat} {w0:ax} {s1:a7} {X:Type} {gq:X->a7} (gf:X->Prop) (iR:X->Nat) {head:aF} {a1:List bx} {st:b1} {bN:eH} {Q:Exit->Act->ax->Prop} (x:X) (af:p3 head a1 (some st)=some bN) (hm:fO s1 (gq x) bN)
  (qI:∀i o,(gq x).dn i=some o->s1.dn i=some o) (aq:gf x)
  (round:∀x,gf x->∀a w,@Here (gq x) _ N (b5 head a1) B w0 a w->(pC (some st)).wpIn (Fr none) 0 P (Exit.then (λa6 w'=>∃x',gf x'/\iR x'<iR x/\ @Here (gq x') _ N (b5 head a1) B w0 a6 w') (d' P (gC (some st)) Q)) a w) (av:cV.ev<=a1.length) (ar:ix (b9 (some st)).A a1 0): @mI s1 _ P N B w0 Q st:=by
 unfold p3 at af;split at af
 ·rename_i b s ks c0
  cases c0;intro a w ah;exact VO gq (b5 head a1) gf iR round x aq (Here.move af hm qI av ar ah)
 ·cases af
def fA [a7] [cV] (P:aS) (N B:Nat) (w0:ax) (Q:Exit->Act->ax->Prop) (o:Option b1):Prop:=∃st,o=some st/\mI P N B w0 Q st
theorem jo [a7] [cV] {P:aS} {fn:Func} {N B:Nat} {w0:ax} {R:Ending->ax->Prop} {o:Option b1} {v:J} (h:fm P fn o=some v) (jE:∀w2,cj B w0 w2->oz w2->R (.returned (aJ v)) w2):fA P N B w0 (rk P fn N B w0 R) o:=by
 cases o with
 |none=>cases h
 |some st=>exact⟨st,rfl,VZ h jE⟩
theorem afc [a7] [cV] {P:aS} [Lib P] [ej P] {C:iw} {N B bq:Nat} {w0:ax} {ks:List fl} {o:Option b1} {Q:Exit->Act->ax->Prop} [nb Q] {R:Act->ax->Prop} (cR:P.follows .mixedOrders=true) (c4:lT P .nil C) (ag:fA P N B w0 Q (Jw P C N bq ks o)):fA P N B w0 (Exit.then R (d' P ks Q)) o:=by
 obtain⟨s2,h,ag⟩:=ag;cases o with
 |none=>cases h
 |some st=>exact⟨st,rfl,afa cR c4 h ag⟩
theorem afd [cV] {P:aS} {N B:Nat} {w0:ax} {s1:a7} {X:Type} {gq:X->a7} (gf:X->Prop) (iR:X->Nat) {head:aF} {a1:List bx} {o:Option b1} {bN:eH} {Q:Exit->Act->ax->Prop} (x:X) (af:p3 head a1 o=some bN) (hm:fO s1 (gq x) bN)
  (qI:∀i o,(gq x).dn i=some o->s1.dn i=some o) (aq:gf x)
  (round:∀x,gf x->∀a w,@Here (gq x) _ N (b5 head a1) B w0 a w->(pC o).wpIn (Fr none) 0 P (Exit.then (λa6 w'=>∃x',gf x'/\iR x'<iR x/\ @Here (gq x') _ N (b5 head a1) B w0 a6 w') (d' P (gC o) Q)) a w) (av:cV.ev<=a1.length:=by first|exact Nat.zero_le _|exact gI rfl) (ar:ix (b9 o).A a1 0:=by exact gW rfl): @fA s1 _ P N B w0 Q o:=by
 cases o with
 |none=>cases af
 |some st=>exact⟨st,rfl,afb gf iR x af hm qI aq round av ar⟩
def V0 (P:aS) [Lib P] (F:List (gh×J)) (T:List (FuncId×List J×J)) (N bq d:Nat) (c:Code) (s:b8):Option b1:=
 @p0 P _ ⟨F⟩ (@s_ P _ ⟨F⟩ ⟨T⟩ .nil bq d) N bq c s
def V1 (P:aS) [Lib P] (F:List (gh×J)) (T:List (FuncId×List J×J)) (N bq d:Nat) (ks:List fl) (o:Option b1):Option b1:=
 @Jw P _ ⟨F⟩ (@s_ P _ ⟨F⟩ ⟨T⟩ .nil bq d) N bq ks o
def tg [a7] (P:aS) (F:List (gh×J)):Prop:=∀p∈F,aV P p
def se [a7] (P:aS) (T:List (FuncId×List J×J)):Prop:=∀p∈T,A_ P p
theorem aP [a7] {P:aS}:tg P []:=λ_ h=>by cases h
theorem ae [a7] {P:aS} {p:gh×J} {l:List (gh×J)} (h:aV P p) (hl:tg P l):tg P (p::l):=λq bf=>by
 rcases List.mem_cons.1 bf with rfl|bf
 ·exact h
 ·exact hl q bf
theorem aQ [a7] {P:aS}:se P []:=λ_ h=>by cases h
theorem Oe [a7] {P:aS} {p:FuncId×List J×J} {l:List (FuncId×List J×J)} (h:A_ P p) (hl:se P l):se P (p::l):=λq bf=>by
 rcases List.mem_cons.1 bf with rfl|bf
 ·exact h
 ·exact hl q bf
theorem cG [a7] {P:aS} {p:FuncId×List J×J} {l:List (FuncId×List J×J)} (h:jb P p) (hl:se P l):se P (p::l):=Oe h.N6 hl
theorem afe [a7] [cV] {P:aS} [Lib P] {F:List (gh×J)} {T:List (FuncId×List J×J)} {N B bq d:Nat} {w0 w:ax} {a:Act} {c:Code} {s:b8} {Q:Exit->Act->ax->Prop} [nb Q] (cR:P.follows .mixedOrders=true) (di:tg P F) (eA:se P T)
  (h:fA P N B w0 Q (V0 P F T N bq d c s)) (ah:Here N s B w0 a w):c.wpIn (Fr none) 0 P Q a w:=by
 obtain⟨st,ad,ag⟩:=h;letI:ej P:=⟨F⟩;letI:s' P:=⟨T⟩;exact sc cR (zy cR di eA d) c s st Q a w nb.calm ad ag ah
theorem aff [a7] [cV] {P:aS} [Lib P] {F:List (gh×J)} {T:List (FuncId×List J×J)} {N B bq d:Nat} {w0:ax} {ks:List fl} {o:Option b1} {Q:Exit->Act->ax->Prop} [nb Q] {R:Act->ax->Prop} (cR:P.follows .mixedOrders=true) (di:tg P F) (eA:se P T)
  (ag:fA P N B w0 Q (V1 P F T N bq d ks o)):fA P N B w0 (Exit.then R (d' P ks Q)) o:=by
 letI:ej P:=⟨F⟩;letI:s' P:=⟨T⟩;exact afc cR (zy cR di eA d) ag
def Bc (P:aS) [Lib P] (F:List (gh×J)) (T:List (FuncId×List J×J)) (N bq d:Nat) (r:List Oper) (ops:Array Oper) (ks:List fl) (s:b8):Option b1:=
 match @Ds P _ ⟨F⟩ (@s_ P _ ⟨F⟩ ⟨T⟩ .nil bq d) N ops s.ms r s.sl s.A with
 | .done .normal s1=> @resume P _ ⟨F⟩ (@s_ P _ ⟨F⟩ ⟨T⟩ .nil bq d) N bq ks .normal s1
 | .done _ _=>none
 |st=>some (st.w9 ks)
theorem FA [a7] [cV] {P:aS} [Lib P] {F:List (gh×J)} {T:List (FuncId×List J×J)} {N B bq d:Nat} {w0 w:ax} {a:Act} {r:List Oper} {ops:Array Oper} {ks:List fl} {s:b8} {Q:Exit->Act->ax->Prop} [nb Q] (cR:P.follows .mixedOrders=true) (di:tg P F) (eA:se P T)
  (h:fA P N B w0 Q (Bc P F T N bq d r ops ks s)) (ah:Here N s B w0 a w):wpListIn (Fr none) 0 P ops (d' P ks Q) r a w:=by
 obtain⟨st,ad,ag⟩:=h;letI:ej P:=⟨F⟩;letI:s' P:=⟨T⟩;have ar:=zy (gl:= .nil) (bq:=bq) cR di eA d;unfold Bc at ad;refine Jv (ms:=s.ms) ar r s.sl s.A a w ?_ ah;split at ad
 ·rename_i s1 he
  rw[he];intro a6 w' yg;exact p1 cR ar ks .normal s1 st Q a6 w' nb.calm ad ag yg
 ·cases ad
 ·rename_i ot bg he
  cases ad;exact mI.w9 (λx s aq=>by
   cases x with
   |normal=>exact bg _ aq
   |_=>exact he _ _ aq) ag
theorem V2 [a7] {P:aS} {f:FuncId} {fn:Func} {c:Code} {args:List J} {sl:aF} {N:Nat} {W:ax} {R:Ending->ax->Prop} (mZ:P.funcs[f]? =some fn) (ar:fn.body=some c) (gK:setArgs 0 args .nil=some sl) (hp:dM args=true)
  (kn:args.length+(fn.ntmps-args.length)=N) (pD:oz W) (rj:∀a,@Here _ gp N {sl,ms:=[],A:=start} W.heap.size W a W->c.wpIn (Fr none) 0 P (@rk gp P fn N W.heap.size W R) a W):Calls P f ⟨ep args⟩ W R:=by
 subst kn;letI:=gp;exact N8 mZ ar gK (VL pD) (λb e h=>by cases h) (vC.none _ _) ⟨by simp [x0],λj hj=>by simpa using aD.AT (λ_=>none) args hp j hj⟩ (cj.refl _ _) (ch _) rj
theorem zE {s1 s2:a7}:fO s1 s2 []:=λ_ h=>by cases h
theorem afg {s1 s2:a7} {p:J×J} {l:eH} (h: @aJ s1 p.1= @aJ s2 p.2) (hl:fO s1 s2 l):fO s1 s2 (p::l):=λq bf=>by
 rcases List.mem_cons.1 bf with rfl|bf
 ·exact h
 ·exact hl q bf
theorem afh {k:IntKind} {a b:Int} (h:a=b):Value.int k a= .int k b:=by rw[h]
theorem V3 {M M':Nat->Option Obj} {bs vals':List J} {a b:Nat} (v:J) (ad:mi bs a=v) (ag:mi vals' b=v): @aJ (aX M bs) (ak a)= @aJ (aX M' vals') (ak b):=by
 exact((@IW (aX M bs) a).trans ad).trans ((@IW (aX M' vals') b).trans ag).symm
theorem afi {M M':Nat->Option Obj} {bs vals':List J} {a b:Nat} {k:IntKind} {x y:Int} (ad:mi bs a= .int k x) (ag:mi vals' b= .int k y) (h:x=y): @aJ (aX M bs) (ak a)= @aJ (aX M' vals') (ak b):=by
 subst h;exact V3 (.int k x) ad ag
theorem wrap64 {n:Int} (ad: -9223372036854775808<=n) (ag:n<=9223372036854775807):IntKind.i64.wrap n=n:=IntWalk.i64_in n ⟨ad,ag⟩
attribute [instance] gp
end AE
namespace AE
theorem V4:∀{l:List J},dM l=true->∀{v:J},v∈l->aM v=true
 |[],_,v,aC=>by cases aC
 |x::r,h,v,aC=>by
  unfold dM at h;simp only [c8] at h;rcases List.mem_cons.1 aC with rfl|aC
  ·exact h.1
  ·exact V4 h.2 aC
end AE
namespace AE
def V5 [cV] {Y:Type} (Du:Y->a7) (R:Y->Prop) (eO:J) (Dv:List bx) (B:Nat) (w0:ax) (e:Ending) (w':ax):Prop:=
 ∃aB y,e= .returned aB/\R y/\ @Here (Du y) _ 1 (Jn eO (da Dv)) B w0 (N7 aB) w'
def V6 [a7] (P:aS) (f:FuncId) (args:List J) (A:a8) (B:Nat) (w0:ax) {Y:Type} (Du:Y->a7) (R:Y->Prop) (eO:J) (Dv:List bx):Prop:=
 ∀φ w gx,b2 φ A w->(∀b e,φ b=some e->B<=e.bn)->h7 args φ gx->cj B w0 w->B<=w.heap.size->Calls P f gx w (@V5 ⟨φ,A.n⟩ Y Du R eO Dv B w0)
theorem V6.of [a7] {P:aS} {f:FuncId} {fn:Func} {c:Code} {args:List J} {sl:aF} {A:a8} {N B:Nat} {w0:ax} {Y:Type} {Du:Y->a7} {R:Y->Prop} {eO:J} {Dv:List bx} (mZ:P.funcs[f]? =some fn) (ar:fn.body=some c) (gK:setArgs 0 args .nil=some sl)
  (kn:args.length+(fn.ntmps-args.length)=N) (rj:∀φ a w,@Here _ ⟨φ,A.n⟩ N {sl,ms:=[],A} B w0 a w->c.wpIn (Fr none) 0 P (@rk ⟨φ,A.n⟩ P fn N B w0 (@V5 ⟨φ,A.n⟩ Y Du R eO Dv B w0)) a w):V6 P f args A B w0 Du R eO Dv:=by
 subst kn;intro φ w gx ao cX gM af cv;letI:cV:=⟨φ,A.n⟩;exact N8 mZ ar gK ao cX ⟨ch _,λ_ _=>rfl⟩ gM af cv λa ah=>rj φ a w ah
def vH (P:aS) [Lib P]:Option b1->Option (FuncId×List J×a8)
 |some (.oper o _ ops s _)=>match q_ ops o s.sl with
  |some true=>match E6 P (dH .nil s.sl) s.A o with
   |some (.enter f args,bH)=>some (f,args,bH)
   |_=>none
  |_=>none
 |_=>none
theorem afj {α:Type} {o:Option α} {d:α} (h:o.isSome=true):o=some (o.getD d):=by
 cases o with
 |none=>cases h
 |some a=>rfl
def Og (P:aS) [Lib P] (F:List (gh×J)) (T:List (FuncId×List J×J)) (N bq d m:Nat):Option b1->Option b1
 |some (.loop b s ks)=>match @Fx P _ ⟨F⟩ (@s_ P _ ⟨F⟩ ⟨T⟩ .nil bq d) N bq b m s with
  |some (.done x s1)=> @resume P _ ⟨F⟩ (@s_ P _ ⟨F⟩ ⟨T⟩ .nil bq d) N bq ks x s1
  |some st=>some (st.w9 ks)
  |none=>none
 |_=>none
theorem ti [a7] [cV] {P:aS} [Lib P] {F:List (gh×J)} {T:List (FuncId×List J×J)} {N B bq d m:Nat} {w0:ax} {o:Option b1} {Q:Exit->Act->ax->Prop} [nb Q] (cR:P.follows .mixedOrders=true) (di:tg P F) (eA:se P T)
  (h:fA P N B w0 Q (Og P F T N bq d m o)):fA P N B w0 Q o:=by
 obtain⟨st,ad,ag⟩:=h;letI:ej P:=⟨F⟩;letI:s' P:=⟨T⟩;have ar:=zy (gl:= .nil) (bq:=bq) cR di eA d;unfold Og at ad;split at ad
 ·rename_i b s ks
  refine⟨_,rfl,λa w ah=>wpIn_loop_rounds m ?_⟩;have bf:oB (d' P ks Q):=(nb.calm (Q:=Q)).vG ks;split at ad
  ·rename_i eJ s1 he
   exact Fy cR ar m s _ _ a w bf he (λeG w1 lW=>p1 cR ar ks eJ s1 st Q eG w1 nb.calm ad ag lW) ah
  ·rename_i ot bg he
   cases ad;exact Fy cR ar m s _ _ a w bf he (mI.w9 (Q:=Q) (k:=ks) (λx s aq=>bg x s aq) ag) ah
  ·cases ad
 ·cases ad
end AE
namespace AE
abbrev Mem:=Nat->Option Obj
def eP:J->Option Nat
 | .slice (some a) _ c=>if c=0 then none else some a.block
 |_=>none
theorem FB (a:Option Addr) (n:Nat):eP (.slice a n 0)=none:=by cases a<;>rfl
theorem nZ (a:Addr) (n:Nat) {c:Nat} (h:0<c):eP (.slice (some a) n c)=some a.block:=by
 show (if c=0 then none else some a.block)=_;rw[a_ aj]
theorem Bd {v:J} {i:Nat} (h:some i=eP v):some i=v.ownBlock:=by
 cases v<;>first|(cases h;done)|skip
 rename_i a n c;cases a with
 |none=>cases h
 |some a=>
  rcases Nat.eq_zero_or_pos c with ar|ar
  ·subst ar;cases h
  ·rw[nZ a n ar] at h;exact h
def dw {α:Type} (B:Nat) (M:Mem) (e:aK) (k:Nat) (enc:α->List J) (v:J) (l:List α):Prop:=
 (∃a,v= .slice a 0 0/\l=[])\/
 ∃g cap cur,v= .slice (some ⟨g,0,none⟩) l.length cap/\0<cap/\B<=g/\M g=some (.cells cur e (0,0))/\l.length<=cap/\cap<=maxLen/\cur.size=cap*k/\cur.toList.take (l.length*k)=l.flatMap enc
theorem rm {α:Type} {k:Nat} {enc:α->List J} (al:∀x,(enc x).length=k):∀l:List α,(l.flatMap enc).length=l.length*k
 |[]=>by simp
 |x::r=>by rw[List.flatMap_cons,List.length_append,al,rm al r,List.length_cons,Nat.add_mul,Nat.one_mul,Nat.add_comm]
theorem zF {α:Type} {k:Nat} {enc:α->List J} (al:∀x,(enc x).length=k):∀(l:List α) (i:Nat) (x:α),l[i]? =some x->∀(j:Nat) (u:J),(enc x)[j]? =some u->(l.flatMap enc)[i*k+j]? =some u
 |[],i,x,h,_,_,_=>by simp at h
 |y::r,0,x,h,j,u,hu=>by
  simp only [List.getElem?_cons_zero,cQ] at h;subst h;have hj:j<(enc y).length:=(List.getElem?_eq_some_iff.1 hu).1;rw[List.flatMap_cons,List.getElem?_append_left aj,Nat.zero_mul,Nat.zero_add];exact hu
 |y::r,i+1,x,h,j,u,hu=>by
  rw[List.flatMap_cons,List.getElem?_append_right (by rw[al,Nat.add_mul];omega),al,show (i+1)*k+j-k=i*k+j by rw[Nat.add_mul];omega];exact zF al r i x (by simpa using h) j u hu
section
variable {α:Type} {B:Nat} {M:Mem} {e:aK} {k:Nat} {enc:α->List J} {v:J} {l:List α}
theorem dw.nil (B:Nat) (M:Mem) (e:aK) (k:Nat) (enc:α->List J) (a:Option Addr):dw B M e k enc (.slice a 0 0) []:= .inl ⟨a,rfl,rfl⟩
theorem dw.slice (h:dw B M e k enc v l):∃a c,v= .slice a l.length c:=by
 rcases h with ⟨a,rfl,rfl⟩|⟨g,cap,cur,rfl,_⟩
 ·exact⟨a,0,rfl⟩
 ·exact⟨_,_,rfl⟩
theorem dw.known (h:dw B M e k enc v l):∀i,some i=eP v->M i≠none/\B<=i:=by
 intro i ai;rcases h with ⟨a,rfl,rfl⟩|⟨g,cap,cur,rfl,aL,ad,ag,_⟩
 ·rw[FB] at ai;cases ai
 ·have:i=g:=by
   rw[nZ _ _ aL] at ai;simpa using ai
  subst this;exact⟨by rw[ag];simp,ad⟩
theorem dw.mono {vB:Nat} {M':Mem} (h:dw B M e k enc v l) (cX:vB<=B) (hm:∀i,some i=eP v->∀o,M i=some o->M' i=some o):dw vB M' e k enc v l:=by
 rcases h with ⟨a,rfl,rfl⟩|⟨g,cap,cur,rfl,aL,ad,ag,ay,bG,cJ,cU⟩
 ·exact .inl ⟨a,rfl,rfl⟩
 ·exact .inr ⟨g,cap,cur,rfl,aL,Nat.le_trans cX ad,hm g (by rw[nZ _ _ aL]) _ ag,ay,bG,cJ,cU⟩
def sf (w:ax) (k:Nat) (enc:α->List J) (v:J) (l:List α):Prop:=
 ∃a c,v= .slice a l.length c/\(a=none->l=[])/\∀hf,a=some hf->∀j u,(l.flatMap enc)[j]? =some u->w.cell? (hf.add j)=some u
theorem afk {enc:α->List J} (al:∀x,(enc x).length=k) {l:List α} {j:Nat} {u:J} (h:(l.flatMap enc)[j]? =some u):∃i x r,l[i]? =some x/\(enc x)[r]? =some u/\j=i*k+r:=by
 have hj:j<l.length*k:=by
  have:=(List.getElem?_eq_some_iff.1 h).1
  rwa [rm al] at this
 have ez:0<k:=by rcases Nat.eq_zero_or_pos k with h|h;· subst h;simp at hj
                 ·exact h
 have ai:j/k<l.length:=Nat.div_lt_of_lt_mul (by rwa [Nat.mul_comm] at hj);have ao:j%k<k:=Nat.mod_lt _ ez;refine⟨j/k,l[j/k],j%k,gi ai,?_,(Nat.div_add_mod' j k).symm⟩;have ag:=zF al l (j/k) _ (gi ai) (j%k) ((enc l[j/k])[j%k]'(by rw[al];exact ao)) (gi _);rw[Nat.div_add_mod',h] at ag;rw[gi (by rw[al];exact ao)];exact ag.symm
theorem cE.reads {w:ax} (h:cE M k enc v l) (al:∀x,(enc x).length=k) (hw:∀i o,M i=some o->w.heap[i]? =some o):sf w k enc v l:=by
 cases h with
 |nil a c=>exact⟨a,c,rfl,λ_=>rfl,λhf _ j u h=>by simp at h⟩
 |mk ad ag ay=>
  refine⟨_,_,rfl,(λh=>by cases h),λhf had j u hj=> ?_⟩;cases had;obtain⟨i,x,r,q1,aH,rfl⟩:=afk al hj;rw[Addr.kz,cell_of_row w _ _ _ _ _ (hw _ _ ad),<-Nat.add_assoc];exact ay i x q1 r u aH
theorem dw.reads {w:ax} (h:dw B M e k enc v l) (hw:∀i o,M i=some o->w.heap[i]? =some o):sf w k enc v l:=by
 rcases h with ⟨a,rfl,rfl⟩|⟨g,cap,cur,rfl,aL,ad,ag,ay,bG,cJ,cU⟩
 ·exact⟨a,0,rfl,λ_=>rfl,λhf _ j u h=>by simp at h⟩
 ·refine⟨_,_,rfl,(λh=>by cases h),λhf had j u hj=> ?_⟩
  cases had;rw[Addr.kz,cell_of_row w _ _ _ _ _ (hw _ _ ag),Nat.zero_add];rw[<-cU,List.getElem?_take] at hj;split at hj
  ·simpa using hj
  ·cases hj
theorem dw.arr (h:dw B M e k enc v l) (al:∀x,(enc x).length=k):cE M k enc v l:=by
 rcases h with ⟨a,rfl,rfl⟩|⟨g,cap,cur,rfl,ar,ad,ag,ay,bG,cJ,cU⟩
 ·exact .nil _ _
 ·refine .mk ag ay λi x aq j u hu=> ?_
  have fR:=zF al l i x aq j u hu;rw[<-cU,List.getElem?_take] at fR;split at fR
  ·rw[Nat.zero_add]
   simpa using fR
  ·cases fR
theorem dw.row (h:dw B M e k enc v l) (al:∀x,(enc x).length=k) (ar:eP v≠none) {w:ax} (hw:∀i o,M i=some o->w.heap[i]? =some o):w.ownsRow B e k v l.length (l.flatMap enc):=by
 refine⟨rm al l,?_⟩;rcases h with ⟨a,rfl,rfl⟩|⟨g,cap,cur,rfl,aL,ad,ag,ay,bG,cJ,cU⟩
 ·exact absurd (FB _ _) ar
 ·exact .inr ⟨g,cap,cur,rfl,ad,hw _ _ ag,ay,bG,cJ,cU⟩
theorem dw.Oh {w:ax} (h:w.ownsRow B e k v l.length (l.flatMap enc)):dw B (aE w) e k enc v l:=by
 obtain⟨_,⟨rfl,aL⟩|⟨g,cap,cur,rfl,ad,ag,ay,bG,cJ,cU⟩⟩:=h
 ·exact .inl ⟨none,rfl,List.eq_nil_of_length_eq_zero aL⟩
 ·rcases Nat.eq_zero_or_pos cap with ar|ar
  ·subst ar
   have:l=[]:=List.eq_nil_of_length_eq_zero aj;subst this;exact .inl ⟨_,rfl,rfl⟩
  ·exact .inr ⟨g,cap,cur,rfl,ar,ad,ag,ay,bG,cJ,cU⟩
end
def h8 (M M':Mem) (T:Option Nat):Prop:=∀i o,M i=some o->some i≠T->M' i=some o
theorem h8.up {B:Nat} {W:ax} {M M':Mem} {T:Option Nat} (al:h8 M M' T) (cX:∀i,some i=T->B<=i) (afl:W.heap.size<=B) (bw:∀i o,aE W i=some o->M i=some o):∀i o,aE W i=some o->M' i=some o:=λi o h=>
 al i o (bw i o h) λai=>by
  have ad:=cX i ai;have ag:i<W.heap.size:=(Array.getElem?_eq_some_iff.1 h).1;omega
theorem h8.own {α:Type} {B:Nat} {M M':Mem} {T:Option Nat} {e:aK} {k:Nat} {enc:α->List J} {v:J} {l:List α} (al:h8 M M' T) (h:dw B M e k enc v l) (c1:∀i,some i=eP v->some i≠T):dw B M' e k enc v l:=
 h.mono (ch _) λi ai o ho=>al i o ho (c1 i ai)
structure Be (B:Nat) (M M':Mem) (T:Option Nat) (w w':ax):Prop where
 known:∀i,some i=T->M i≠none/\B<=i
 os:w'.os=w.os
 tape:w'.tape=w.tape
 output:w'.output=w.output
 drawn:iF w<=iF w'
 size:w.heap.size<=w'.heap.size
 block:∀i,i<w.heap.size->some i≠T->w'.heap[i]? =w.heap[i]?
 dn:∀i o,M' i=some o->w'.heap[i]? =some o/\(M i≠none\/w.heap.size<=i\/i<B)
theorem Here.turns [cV] {M M':Mem} {bs vals':List J} {T:Option Nat} {N B:Nat} {st:b8} {w0 w w':ax} {a:Act} {sl:aF} {l:List bx} {bN:eH} (dg:cr st sl l=some bN) (hm:fO (aX M bs) (aX M' vals') bN) (aN:Be B M M' T w w') (av:cV.ev<=l.length) (ar:ix st.A l 0)
  (ah: @Here (aX M bs) _ N st B w0 a w): @Here (aX M' vals') _ N {sl,ms:=[],A:=da l} B w0 a w':=
 Here.Bb (λi=>some i=T) dg hm (λi ai=>aN.known i ai) ⟨aN.os,aN.tape,aN.output,aN.drawn⟩ aN.size (λi ai aC=>aN.block i ai aC) (λi o ai=>aN.dn i o ai) av ar ah
def h9 (M:Mem) (w':ax) (T bt:Option Nat):Mem:=λi=>if some i=bt then w'.heap[i]? else if some i=T then none else M i
theorem qK {B:Nat} {M:Mem} {T bt:Option Nat} {w w':ax} (hw:∀i o,M i=some o->w.heap[i]? =some o) (eA:∀i,some i=T->M i≠none/\B<=i) (Dw:∀i,some i=bt->some i=T\/w.heap.size<=i)
  (uG:w'.os=w.os/\w'.tape=w.tape/\w'.output=w.output) (bg:iF w<=iF w') (cv:w.heap.size<=w'.heap.size) (af:∀i,i<w.heap.size->some i≠T->w'.heap[i]? =w.heap[i]?):Be B M (h9 M w' T bt) T w w'/\h8 M (h9 M w' T bt) T:=by
 have zD:∀i o,M i=some o->some i≠T->w'.heap[i]? =some o:=λi o ai aC=>by
  have h:=hw i o ai;rw[af i (Array.getElem?_eq_some_iff.1 h).1 aC];exact h
 refine⟨⟨eA,uG.1,uG.2.1,uG.2.2,bg,cv,af,λi o ai=> ?_⟩,λi o ai aC=> ?_⟩
 ·unfold h9 at ai
  split at ai
  ·rename_i h
   refine⟨ai,?_⟩;rcases Dw i h with h|h
   ·exact .inl (eA i h).1
   ·exact .inr (.inl h)
  ·split at ai
   ·cases ai
   ·rename_i ad ag
    exact⟨zD i o ai ag,.inl (by rw[ai];simp)⟩
 ·unfold h9
  split
  ·exact zD i o ai aC
  ·first
    |exact ai
    |(rw[a_ aC];exact ai)
theorem Oi {P:aS} {w:ax} {t ty e:aK} {i:TypeInfo} (aN:P.underlying t=some (.slice e)) (ai:P.info? e=some i) {a b:Option Addr} {n cap c:Nat} (h:n<=cap):
  (Builtin.append_ #[t,t] ty #[.slice a n cap,.slice b 0 c]).run P w= .ok (.slice a n cap) w:=by
 cases b<;>cases a<;>simp [Builtin.append_,run_underlying aN,sizeOf,typeInfo,ai,Builtin.lenOf,Builtin.firstCells,loadCells,loadCellsFrom,h,storeCells]
theorem Oj {P:aS} {w w':ax} {base:Nat} {t ty e:aK} {i:TypeInfo} {z:J} {size bytes:Nat} (aN:P.underlying t=some (.slice e)) (ai:P.info? e=some i) (bW:i.zero=some z) (gN:i.size=size) (jY:i.bytes=bytes) (mj:z.cells.size=size) (cv:0<size)
  {v aB:J} {n:Nat} {xs:List J} (xb:w.ownsRow base e size v n xs) (a:Addr) (m c:Nat) {df:List J} (hl:df.length=m*size) (AI:∀j u,df[j]? =some u->w.cell? (a.add j)=some u) (ad:∀u∈df,u.oneCell'=true)
  (iS:n+m<=maxLen) (lR:(n+m)*bytes<=140737488355328) (ao:(Builtin.append_ #[t,t] ty #[v,.slice (some a) m c]).run P w= .ok aB w'):∀j,some j=aB.ownBlock->some j=v.ownBlock\/w.heap.size<=j:=by
 subst gN;subst jY;have Ok:n+m<=9223372036854775807:=by simp only [maxLen] at iS;omega
 rcases xb.2 with ⟨rfl,rfl⟩|⟨g,cap,cur,rfl,aoR,aA,iy,Jy,fT,vy⟩
 ·by_cases hm:m=0
  ·subst hm
   have av:df=[]:=List.eq_nil_of_length_eq_zero (by simpa using hl);subst av;have ag:(Builtin.append_ #[t,t] ty #[.slice none 0 0,.slice (some a) 0 c]).run P w= .ok (.slice none 0 0) w:=by
    simp [Builtin.append_,run_underlying aN,sizeOf,typeInfo,ai,Builtin.lenOf,Builtin.firstCells,loadCells,loadCellsFrom]
   rw[ag] at ao;cases ao;intro j hj;cases hj
  ·have ag:=run_append_nil (P:=P) w t ty e i z aN ai bW a m c df hl AI aj aj (by have af:=lR;simp only [Nat.zero_add] at af;omega)
   rw[ag] at ao;cases ao;intro j hj;have:j=w.heap.size:=by simpa [Value.ownBlock] using hj
   exact .inr aj
 ·by_cases Dx:n+m<=cap
  ·have qA:n*i.size+df.length<=cur.size:=by rw[hl,fT,<-Nat.add_mul];exact Nat.mul_le_mul_right _ Dx
   have ag:=run_append_room (P:=P) w t ty e i aN ai g n cap cur aA a m c df hl AI ad Dx qA;rw[ag] at ao;cases ao;intro j hj;exact .inl hj
  ·have holds:∀j u,xs[j]? =some u->w.cell? ((⟨g,0,none⟩:Addr).add j)=some u:=xb.cells (g:=g) rfl
   have ag:=run_append_grow (P:=P) w t ty e i z aN ai bW ⟨g,0,none⟩ n cap xs xb.1 holds a m c df hl AI aj aj (growslice_fits aj lR);rw[ag] at ao;cases ao;intro j hj;have:j=w.heap.size:=by simpa [Value.ownBlock] using hj
   exact .inr aj
theorem Ol {α:Type} {P:aS} {w:ax} {B:Nat} {M:Mem} {t ty e:aK} {i:TypeInfo} {z:J} {k bytes:Nat} (aN:P.underlying t=some (.slice e)) (ai:P.info? e=some i) (bW:i.zero=some z) (gN:i.size=k) (jY:i.bytes=bytes) (mj:z.cells.size=k) (h1:0<k)
  {enc:α->List J} (al:∀x,(enc x).length=k) (kd:∀x,∀u∈enc x,u.oneCell'=true) {v x:J} {l lx:List α} (cO:dw B M e k enc v l) (aq:sf w k enc x lx) (hw:∀i o,M i=some o->w.heap[i]? =some o) (cX:B<=w.heap.size)
  (iS:l.length+lx.length<=maxLen) (lR:(l.length+lx.length)*bytes<=140737488355328):
  ∃aB w' M',(Builtin.append_ #[t,t] ty #[v,x]).run P w= .ok aB w'/\dw B M' e k enc aB (l++lx)/\Be B M M' (eP v) w w'/\h8 M M' (eP v):=by
 obtain⟨xd,c,rfl,ym,km⟩:=aq;by_cases hm:lx=[]
 ·subst hm
  obtain⟨a,cap,rfl⟩:=cO.slice;have hle:l.length<=cap:=by
   rcases cO with ⟨a6,h,rfl⟩|⟨g,wQ,cur,h,aL,ad,ag,ay,_⟩
   ·exact Nat.zero_le _
   ·cases h;exact ay
  refine⟨_,w,M,Oi aN ai hle,by rw[List.append_nil];exact cO,⟨cO.known,rfl,rfl,rfl,ch _,ch _,λ_ _ _=>rfl,λi o h=>⟨hw i o h,.inl (by rw[h];simp)⟩⟩,λi o h _=>h⟩
 ·cases xd with
  |none=>exact absurd (ym rfl) hm
  |some hf=>
   have hlen:=rm al lx;have uc:0<lx.length:=List.length_pos_iff.2 hm;have ad:∀u∈lx.flatMap enc,u.oneCell'=true:=λu hu=>by
    obtain⟨y,_,bE⟩:=List.mem_flatMap.1 hu;exact kd y u bE
   have fU:∀{v0:J},w.ownsRow B e k v0 l.length (l.flatMap enc)->(∀i,some i=v0.ownBlock->M i≠none/\B<=i)->∃aB w' M',(Builtin.append_ #[t,t] ty #[v0,.slice (some hf) lx.length c]).run P w= .ok aB w'/\dw B M' e k enc aB (l++lx)/\Be B M M' v0.ownBlock w w'/\h8 M M' v0.ownBlock:=by
    intro v0 oq gX;obtain⟨aB,w',g1,g2,g3,_⟩:=run_append_own (P:=P) w B t ty e i z k bytes aN ai bW gN jY mj h1 v0 l.length _ oq hf lx.length c _ hlen (km hf rfl) ad iS lR cX;have gJ:=Oj aN ai bW gN jY mj h1 oq hf lx.length c hlen (km hf rfl) ad iS lR g1;have ag:w'.ownsRow B e k aB (l++lx).length ((l++lx).flatMap enc):=by rw[List.length_append,List.flatMap_append];exact g2
    obtain⟨q1,aH⟩:=qK (B:=B) (M:=M) (T:=v0.ownBlock) (bt:=aB.ownBlock) hw gX gJ ⟨g3.os,g3.tape,g3.output⟩ (ch _) g3.size g3.block;refine⟨aB,w',_,g1,(dw.Oh ag).mono (ch _) λi ai o ho=> ?_,q1,aH⟩;have:some i=aB.ownBlock:=Bd ai;unfold h9;rw[aY this];exact ho
   by_cases ar:eP v=none
   ·rcases cO with ⟨a,rfl,rfl⟩|⟨g,cap,cur,rfl,aL,_⟩
    ·have e0:(Builtin.append_ #[t,t] ty #[.slice a 0 0,.slice (some hf) lx.length c]).run P w=(Builtin.append_ #[t,t] ty #[.slice none 0 0,.slice (some hf) lx.length c]).run P w:=by
      cases a with
      |none=>rfl
      |some a=>
       subst gN;subst jY;have Ok:lx.length<=9223372036854775807:=by simp only [maxLen,List.length_nil] at iS;omega
       have cS:=run_append_nil (P:=P) w t ty e i z aN ai bW hf lx.length c _ hlen (km hf rfl) aj aj (by have af:=lR;simp only [List.length_nil,Nat.zero_add] at af;omega);have dy:=run_append_grow (P:=P) w t ty e i z aN ai bW a 0 0 [] (by simp) (λj u h=>by simp at h) hf lx.length c _ hlen (km hf rfl) aj aj (growslice_fits aj (by have af:=lR;simp only [List.length_nil] at af;exact af));rw[cS,dy];simp
     obtain⟨aB,w',M',q1,aH,b0,eF⟩:=fU (v0:= .slice none 0 0) (World.ownsRow_nil w B e k) (λi h=>by cases h);rw[ar];exact⟨aB,w',M',e0.trans q1,aH,b0,eF⟩
    ·exact absurd ar (by rw[nZ _ _ aL];simp)
   ·have heq:eP v=v.ownBlock:=by
     cases h:eP v with
     |none=>exact absurd h ar
     |some i=>exact Bd h.symm
    have:=fU (v0:=v) (cO.row al ar hw) (λi h=>cO.known i (by rw[heq];exact h));rw[heq];exact this
def p4 (t:aK):Option b1->Option (J×J)
 |some (.oper o _ ops s _)=>match o.op with
  | .call c=>match c.callee,c.args with
    | .builtin .append,⟨[nI,hg]⟩=>bif decide (c.argTypes= #[t,t]) then match q_ ops o s.sl with
      |some true=>some (dH .nil s.sl nI,dH .nil s.sl hg)
      |_=>none
      else none
    |_,_=>none
  |_=>none
 |_=>none
theorem Bf [cV] {α:Type} {P:aS} {N B:Nat} {w0:ax} {Q:Exit->Act->ax->Prop} {M:Mem} {bs:List J} {o:Option b1} {t e:aK} {k bytes:Nat} {i:TypeInfo} {z vs lH eO:J} {enc:α->List J} {l lx l':List α} {bm:Option Addr->Nat->List J} {ef dK:aF} {a1:List bx} {bN:eH}
  (gb:l'=l++lx) (h:p4 t o=some (vs,lH)) (aN:P.underlying t=some (.slice e)) (ai:P.info? e=some i) (bW:i.zero=some z) (gN:i.size=k) (jY:i.bytes=bytes) (mj:z.cells.size=k) (h1:0<k) (al:∀x,(enc x).length=k) (kd:∀x,∀u∈enc x,u.oneCell'=true)
  (dg:cr (b9 o) ef a1=some bN) (eL:g' N ef (kc o) eO=some dK) (fD:aM eO=true) (T:Option Nat)
  (cO:∀φ w v,@b2 (aX M bs) φ (b9 o).A w-> @aD (aX M bs) φ vs v->dw B M e k enc v l/\eP v=T)
  (jZ:∀φ w x,@b2 (aX M bs) φ (b9 o).A w-> @aD (aX M bs) φ lH x->sf w k enc x lx)
  (iS:l.length+lx.length<=maxLen) (lR:(l.length+lx.length)*bytes<=140737488355328)
  (hm:∀M' a c,fO (aX M bs) (aX M' (bm a c)) bN) (aC:∀M' a c,@aJ (aX M' (bm a c)) eO= .slice a l'.length c)
  (rest:∀M' a c,dw B M' e k enc (.slice a l'.length c) l'->h8 M M' T->(∀i,some i=T->B<=i)->∀a6 w,@Here (aX M' (bm a c)) _ N {sl:=dK,ms:=[],A:=da a1} B w0 a6 w->wpListIn (Fr none) 0 P (kP o) (d' P (gC o) Q) (kO o) a6 w)
  (av:cV.ev<=a1.length:=by first|exact Nat.zero_le _|exact gI rfl) (ar:ix (b9 o).A a1 0:=by exact gW rfl): @fA (aX M bs) _ P N B w0 Q o:=by
 subst gb;letI:=aX M bs;unfold p4 at h;split at h
 ·rename_i op r ops s ks
  refine⟨_,rfl,λa w ah=> ?_⟩;split at h
  ·rename_i c cz
   split at h
   ·rename_i nI hg pW gM
    cases hty:decide (c.argTypes= #[t,t]) with
    |false=>rw[hty] at h;cases h
    |true=>
     rw[hty,bF] at h;have yn:c.argTypes= #[t,t]:=of_decide_eq_true hty;split at h
     ·rename_i jP
      cases h;have hF:=ah;obtain⟨⟨φ,ds,ad,ag,ay,bG,_⟩,cJ,cU⟩:=ah;unfold wpListIn;rw[py ag.get jP,aY rfl];have es:=gU (iG φ) ag.get nI;have ex:=gU (iG φ) ag.get hg;obtain⟨Jz,eA⟩:=cO φ w _ ay es;subst eA;have hw:∀i o,M i=some o->w.heap[i]? =some o:=hF.nY;obtain⟨aB,w',M',g1,g2,g3,g4⟩:=Ol (ty:=op.type) aN ai bW gN jY mj h1 al kd Jz (jZ φ w _ ay ex) hw cU iS lR;have fy:(execOp a.eval op).run P w= .ok (.value aB) w':=by
       unfold execOp resolve;rw[cz];simp only [pW,gM,yn,List.map_toArray,List.map_cons,List.map_nil];show (do pure (Next.value (<-Builtin.append_ #[t,t] op.type #[a.eval nI,a.eval hg])):Sem Next).run P w=_;simp only [Sem.run_bind,g1,Result.andThen_ok];rfl
      have fB:∀c',op.op≠.defer c':=λc' h=>by rw[cz] at h;cases h
      refine⟨λ_ _=>trivial,?_⟩;rw[Oper.semAt_eq _ _ _ fB,fy,Oper.uponIn_value];obtain⟨a6,c',rfl⟩:=g2.slice;have hV:=Here.turns (vals':=bm a6 c') dg (hm M' a6 c') g3 av ar hF;letI:=aX M' (bm a6 c');have lX:=Here.put (d:=op.dst) hV fD eL;rw[aC M' a6 c'] at lX;exact rest M' a6 c' g2 g4 (λi ai=>(g3.known i ai).2) _ w' lX
     ·cases h
   ·cases h
  ·cases h
 ·cases h
theorem FC {α:Type} {A:a8} {B:Nat} {M:Mem} {bs:List J} {e:aK} {k:Nat} {enc:α->List J} {vs u:J} {l:List α} (hp:aM vs=true) (br: @aJ (aX M bs) vs=u) (cO:dw B M e k enc u l):∀φ w v,@b2 (aX M bs) φ A w-> @aD (aX M bs) φ vs v->dw B M e k enc v l/\eP v=eP u:=λφ w v _ aC=>by
 letI:=aX M bs;rw[aD.jj vs hp aC,br];exact⟨cO,rfl⟩
def V7 (A:a8) (b:Nat):Bool:=match A.bl.get b with
 |some k=>Nat.beq k.eN 0&& !Nat.beq b dead
 |none=>false
theorem JA {α:Type} {A:a8} {B:Nat} {M:Mem} {bs:List J} {e:aK} {k:Nat} {enc:α->List J} {b o:Nat} (lV:V7 A b=true):∀φ w v,@b2 (aX M bs) φ A w-> @aD (aX M bs) φ (.slice (some ⟨b,o,none⟩) 0 0) v->dw B M e k enc v ([]:List α)/\eP v=none:=λφ w v ao aC=>by
 letI:=aX M bs;unfold V7 at lV;split at lV
 ·rename_i eU al
  simp only [c8,Bool.not_eq_true'] at lV;cases aC with
  |i_ a6 h=>exact absurd lV.2 (by simp)
  |iD _ _ h=>exact⟨dw.nil _ _ _ _ _ _,FB _ _⟩
  |iE _ _ c' h aw ar hl=>
   obtain⟨k',ad,ag,_⟩:=ao.eE _ _ h;rw[al] at ad;cases ad;have:=cI lV.1;omega
 ·cases lV
theorem zG {α:Type} {M:Mem} {bs:List J} {A:a8} {k:Nat} {enc:α->List J} {lH u:J} {lx:List α} (hp:aM lH=true) (br: @aJ (aX M bs) lH=u) (jZ:∀w,(∀i o,M i=some o->w.heap[i]? =some o)->sf w k enc u lx):∀φ w x,@b2 (aX M bs) φ A w-> @aD (aX M bs) φ lH x->sf w k enc x lx:=λφ w x ao aC=>by
 letI:=aX M bs;rw[aD.jj lH hp aC,br];exact jZ w λi o h=>(ao.dn i o h).1
def Bg (A:a8) (k:Nat):J->Option (List J)
 | .slice (some ⟨b,off,none⟩) m _=>match A.r0 b off (m*k) with
   |some bs=>bif dM bs&&(bs.all xP&&(Nat.blt 0 m&&Nat.beq bs.length (m*k))) then some bs else none
   |none=>none
 |_=>none
theorem Dy {α:Type} {M:Mem} {bs:List J} {A:a8} {k:Nat} {enc:α->List J} {lH:J} {cs:List J} {lx:List α} (h:Bg A k lH=some cs) (al:∀x,(enc x).length=k) (h1:0<k) (he: @ep (aX M bs) cs=lx.flatMap enc):∀φ w x,@b2 (aX M bs) φ A w-> @aD (aX M bs) φ lH x->sf w k enc x lx:=λφ w x ao aC=>by
 letI:=aX M bs;unfold Bg at h;split at h
 ·rename_i b off m aoS
  split at h
  ·rename_i vs hl
   cases hp:(dM vs&&(vs.all xP&&(Nat.blt 0 m&&Nat.beq vs.length (m*k)))) with
   |false=>rw[hp] at h;cases h
   |true=>
    rw[hp,bF,cQ] at h;subst h;simp only [c8] at hp;obtain⟨hB,ux,s6,zo⟩:=hp;have hm:0<m:=Nat.blt_eq.mp s6;have hlen:vs.length=m*k:=cI zo;have r5:m=lx.length:=by
     have ad:=congrArg List.length he;rw[x0,hlen,rm al] at ad;exact Nat.eq_of_mul_eq_mul_right h1 ad
    have AG:∃ee V8,φ b=some ee/\x= .slice (some ⟨ee.bn,ee.sh+off,none⟩) m V8:=by
     cases aC with
     |i_ a6 h=>exact absurd hm aj
     |iD _ _ h=>exact⟨_,_,h,rfl⟩
     |iE _ _ c' h _ _ _=>exact⟨_,_,h,rfl⟩
    obtain⟨ee,V8,af,rfl⟩:=AG;refine⟨_,_,by rw[r5],(λh=>by cases h),λhf had j u hj=> ?_⟩;cases had;rw[<-he] at hj;obtain⟨q1,aH⟩:=AF hl;have kL:j<vs.length:=by
     have:=(List.getElem?_eq_some_iff.1 hj).1
     rwa [x0] at this
    obtain⟨aB,g1,g2⟩:=vi ao (aH j aj) af;rw[Addr.kz,Nat.add_assoc,g1];have wK:aM (vs.getD j undef)=true:=by
     rw[dq,gi kL];exact V4 hB (List.getElem_mem kL)
    rw[aD.jj _ wK g2];rw[Nc,List.getElem?_map,gi kL] at hj;rw[dq,gi kL];simpa using hj
  ·cases h
 ·cases h
def gQ:Option b1->Array Oper
 |some (.draw _ ops _ _)=>ops
 |_=> #[]
theorem yo {n:Nat} (h:n<=1000000):n<=maxLen:=Nat.le_trans h (by unfold maxLen;decide)
theorem cE.isNil {α:Type} {M:Mem} {k:Nat} {enc:α->List J} {n c:Nat} {l:List α} (h:cE M k enc (.slice none n c) l):l=[]:=by cases h;rfl
theorem JB {α:Type} {B:Nat} {M:Mem} {e:aK} {k:Nat} {enc:α->List J} {l:List α} (h:l=[]):∃a c,Ending.returned (.slice none 0 0)= .returned (.slice a l.length c)/\dw B M e k enc (.slice a l.length c) l:=by
 subst h;exact⟨none,0,rfl,dw.nil _ _ _ _ _ _⟩
theorem Bh {α:Type} {B:Nat} {M:Mem} {e:aK} {k:Nat} {enc:α->List J} {l b:List α} {a:Option Addr} {c:Nat} {w:ax} (cO:dw B M e k enc (.slice a b.length c) b) (af:b=l) (ai:∀i o,M i=some o->w.heap[i]? =some o):∃a6 c',Ending.returned (.slice a b.length c)= .returned (.slice a6 l.length c')/\dw B (aE w) e k enc (.slice a6 l.length c') l:=by
 subst af;exact⟨a,c,rfl,cO.mono (ch _) λi _ o ho=>ai i o ho⟩
section
variable [a7] {P:aS}
omit [a7] in
theorem V9 {op:BinOp} {t e:aK} (aN:P.underlying t=some (.slice e)) (a:Option Addr) (n c:Nat) (eb ec:Operand) (w:ax) (cz:op= .eql\/op= .neq):
  (gn eb ec (.bin op t (.slice a n c) (.slice none 0 0))).run P w= .ok (.value (.bool (if op= .eql then a.isNone else !a.isNone))) w:=by
 have he:(Op.equal t (.slice a n c) (.slice none 0 0)).run P w= .ok a.isNone w:=by
  unfold Op.equal Op.maxDepth;exact Lib.run_equalIn_slice_nil w 9999 t e a n c 0 0 aN
 rcases cz with rfl|rfl<;>unfold gn<;>simp [eqGuard,binOp,he]
theorem aV.JC {t e:aK} {x:J} {a:Option Addr} {n c:Nat} (aq:aM x=true) (aN:P.underlying t=some (.slice e)) (ex:aJ x= .slice a n c) (h:a=none):aV P (.bin .eql t x (.slice none 0 0),.bool true):=
 uH aq U U ex rfl λeb ec w=>(V9 aN a n c eb ec w (.inl rfl)).trans (by rw[h];rfl)
theorem aV.JD {t e:aK} {x:J} {a:Option Addr} {n c:Nat} (aq:aM x=true) (aN:P.underlying t=some (.slice e)) (ex:aJ x= .slice a n c) (h:¬a=none):aV P (.bin .eql t x (.slice none 0 0),.bool false):=
 uH aq U U ex rfl λeb ec w=>(V9 aN a n c eb ec w (.inl rfl)).trans (by
  cases a with
  |none=>exact absurd rfl h
  |some a=>rfl)
end
end AE
namespace AE
theorem Om {α:Type} {k:Nat} {enc:α->List J} (al:∀x,(enc x).length=k):∀(l:List α) (j:Nat),(l.take j).flatMap enc=(l.flatMap enc).take (j*k)
 |[],j=>by simp
 |x::r,0=>by simp
 |x::r,j+1=>by
  have ad:(enc x).take ((j+1)*k)=enc x:=List.take_of_length_le (by rw[al,Nat.add_mul];omega);rw[List.take_succ_cons,List.flatMap_cons,List.flatMap_cons,Om al r j,List.take_append,ad,al,show (j+1)*k-k=j*k by rw[Nat.add_mul];omega]
theorem On {α:Type} {k:Nat} {enc:α->List J} (al:∀x,(enc x).length=k):∀(l:List α) (j:Nat),(l.drop j).flatMap enc=(l.flatMap enc).drop (j*k)
 |[],j=>by simp
 |x::r,0=>by simp
 |x::r,j+1=>by
  have ad:(enc x).drop ((j+1)*k)=[]:=List.drop_eq_nil_of_le (by rw[al,Nat.add_mul];omega);rw[List.drop_succ_cons,List.flatMap_cons,On al r j,List.drop_append,ad,al,List.nil_append,show (j+1)*k-k=j*k by rw[Nat.add_mul];omega]
def ln (a:Option Addr) (c j k:Nat):Option Addr:=if c=j then a else a.map λa=>a.add (j*k)
section
variable {α:Type} {B:Nat} {M:Mem} {e:aK} {k:Nat} {enc:α->List J} {a:Option Addr} {c:Nat} {l:List α}
theorem cE.take {j n:Nat} (h:cE M k enc (.slice a n c) l) (hj:j<=n):cE M k enc (.slice a j c) (l.take j):=by
 obtain rfl:n=l.length:=by obtain⟨_,_,ag⟩:=h.slice;cases ag;rfl
 generalize aC:Value.slice a l.length c=v at h;have hlen:(l.take j).length=j:=by rw[List.length_take];omega
 cases h with
 |nil a6 c'=>
  have:j=0:=by simpa using hj
  subst this;exact .nil _ _
 |mk ad ag ay=>
  cases aC;have:=cE.mk (enc:=enc) (k:=k) (l:=l.take j) (c:=c) ad (by rw[hlen];omega) λi x aq u w hw=>by
   rw[List.getElem?_take] at aq;split at aq
   ·exact ay i x aq u w hw
   ·cases aq
  rw[hlen] at this;exact this
theorem cE.drop {j n:Nat} (h:cE M k enc (.slice a n c) l) (hj:j<=n):cE M k enc (.slice (ln a c j k) (n-j) (c-j)) (l.drop j):=by
 obtain rfl:n=l.length:=by obtain⟨_,_,ag⟩:=h.slice;cases ag;rfl
 have hlen:(l.drop j).length=l.length-j:=List.length_drop;rcases Nat.lt_or_ge j l.length with cg|kJ
 ·generalize aC:Value.slice a l.length c=v at h
  cases h with
  |nil a6 c'=>simp at cg
  |mk ad ag ay=>
   rename_i b off c' cs ty fr;cases aC;have bg:ln (some ⟨b,off,none⟩) c j k=some ⟨b,off+j*k,none⟩:=by
    unfold ln;rw[a_ aj];simp only [Option.map_some,Addr.kz]
   rw[bg];have:=cE.mk (enc:=enc) (k:=k) (l:=l.drop j) (off:=off+j*k) (c:=c-j) ad (by rw[hlen];omega) λi x aq u w hw=>by
    rw[List.getElem?_drop] at aq;have:=ay (j+i) x aq u w hw;rw[Nat.add_mul] at this;rw[<-this];congr 1;omega
   rw[hlen] at this;exact this
 ·have aL:l.length-j=0:=by omega
  rw[aL,List.drop_eq_nil_of_le kJ];exact .nil _ _
theorem dw.take (al:∀x,(enc x).length=k) {j n:Nat} (h:dw B M e k enc (.slice a n c) l) (hj:j<=l.length):dw B M e k enc (.slice a j c) (l.take j):=by
 have hlen:(l.take j).length=j:=by rw[List.length_take];omega
 rcases h with ⟨a6,aL,rfl⟩|⟨g,cap,cur,aL,ad,ag,ay,bG,cJ,cU,fR⟩
 ·cases aL
  have:j=0:=by simpa using hj
  subst this;exact .inl ⟨_,rfl,rfl⟩
 ·cases aL
  refine .inr ⟨g,c,cur,by rw[hlen],ad,ag,ay,by rw[hlen];omega,cJ,cU,?_⟩;rw[hlen];have pv:(cur.toList.take (l.length*k)).take (j*k)=(l.flatMap enc).take (j*k):=by rw[fR]
  rw[List.take_take,Nat.min_eq_left (Nat.mul_le_mul_right k hj)] at pv;rw[pv,Om al]
theorem afm {v:J} {w:ax} (al:∀x,(enc x).length=k) (kd:∀x,∀u∈enc x,u.oneCell'=true) (lV:dw B M e k enc v l) (hw:∀i o,M i=some o->w.heap[i]? =some o) (aL:0<l.length) (i:Nat) (xs:List α) (ai:i+xs.length<=l.length):
  ∃g c w',v= .slice (some ⟨g,0,none⟩) l.length c/\l.length<=c/\(∀P,(storeCells ⟨g,i*k,none⟩ (xs.flatMap enc)).run P w= .ok () w')/\∃M',dw B M' e k enc v (l.take i++xs++l.drop (i+xs.length))/\Be B M M' (eP v) w w'/\h8 M M' (eP v):=by
 rcases lV with ⟨a,rfl,rfl⟩|⟨g,cap,cur,rfl,kB,yp,bw,vI,Jy,fT,vy⟩
 ·exact absurd aL (by simp)
 ·have aA:=hw _ _ bw
  have yq:=rm al xs;have NB:i*k+xs.length*k<=l.length*k:=by rw[<-Nat.add_mul];exact Nat.mul_le_mul_right k ai
  have AX:l.length*k<=cur.size:=by rw[fT];exact Nat.mul_le_mul_right k vI
  have ad:∀u∈xs.flatMap enc,u.oneCell'=true:=λu hu=>by
   obtain⟨y,_,bE⟩:=List.mem_flatMap.1 hu;exact kd y u bE
  let fP:Array J:=(cur.toList.take (i*k)++xs.flatMap enc++cur.toList.drop (i*k+(xs.flatMap enc).length)).toArray
  have fy:∀P,(storeCells ⟨g,i*k,none⟩ (xs.flatMap enc)).run P w= .ok () (w.setRow g fP):=λP=>by
   have:=run_storeCells_at P g (i*k) e (xs.flatMap enc) 0 cur w aA (by rw[yq];omega) ad;simpa only [Nat.add_zero] using this
  have cv:fP.size=cap*k:=by
   show (cur.toList.take (i*k)++xs.flatMap enc++cur.toList.drop (i*k+(xs.flatMap enc).length)).toArray.size=_;simp only [List.size_toArray,List.length_append,List.length_take,List.length_drop,Array.length_toList,yq];omega
  obtain⟨q1,aH⟩:=qK (B:=B) (M:=M) (w':=w.setRow g fP) (T:=some g) (bt:=some g) hw (λi ai=>by cases ai;exact⟨by rw[bw];simp,yp⟩) (λi ai=> .inl ai) ⟨rfl,rfl,rfl⟩ (ch _) (by simp [World.setRow]) (λj _ hj=>setRow_other w g j fP (λh=>hj (by rw[h])));have Oo:(l.take i++xs++l.drop (i+xs.length)).length=l.length:=by
   simp only [List.length_append,List.length_take,List.length_drop];omega
  refine⟨g,cap,w.setRow g fP,rfl,vI,fy,?_⟩;rw[nZ _ _ kB];refine⟨_,.inr ⟨g,cap,fP,by rw[Oo],kB,yp,?_,by rw[Oo];exact vI,Jy,cv,?_⟩,q1,aH⟩
  ·unfold h9
   rw[aY rfl];exact setRow_heap w g cur fP e (0,0) aA
  ·rw[Oo,List.flatMap_append,List.flatMap_append,Om al,On al,<-vy]
   show (cur.toList.take (i*k)++xs.flatMap enc++cur.toList.drop (i*k+(xs.flatMap enc).length)).take (l.length*k)=_;have l1:(cur.toList.take (i*k)++xs.flatMap enc).length=i*k+xs.length*k:=by
    rw[List.length_append,List.length_take,Array.length_toList,yq,Nat.min_eq_left aj]
   rw[yq,List.take_append,l1,List.take_of_length_le (by rw[l1];exact NB),List.take_take,Nat.min_eq_left aj,Nat.add_mul,List.drop_take]
end
section
variable [a7] {P:aS}
omit [a7] in
theorem afn (a:Addr) (n:Nat):a.add (0*n)=a:=by
 rw[Nat.zero_mul];cases a;simp [Addr.add]
omit [a7] in
theorem afo {t e:aK} {bc:Nat} (aN:P.underlying t=some (.slice e)) (cv:bk P (sizeOf e)=some bc) (a:Option Addr) (n c j:Nat) (hj:j<=n) (w:ax):
  (Instr.sliceAt t (.slice a n c) (some (.int .i64 j)) none none).run P w= .ok (.slice (ln a c j bc) (n-j) (c-j)) w:=by
 have af:(Instr.sliceBound (.int .i64 (j:Int)) n .sliceB).run P w= .ok j w:=by
  have:=run_sliceBound (P:=P) (w:=w) .i64 (j:Int) n .sliceB aj aj;simpa using this
 simp [Instr.sliceAt,Instr.slice,run_underlying aN,Instr.sliceBounds,af,jD cv w,ln]
omit [a7] in
theorem afp {t e:aK} {bc:Nat} (aN:P.underlying t=some (.slice e)) (cv:bk P (sizeOf e)=some bc) (a:Option Addr) (n c j:Nat) (hj:j<=c) (w:ax):
  (Instr.sliceAt t (.slice a n c) none (some (.int .i64 j)) none).run P w= .ok (.slice a j c) w:=by
 have af:(Instr.sliceBound (.int .i64 (j:Int)) c .sliceAcap).run P w= .ok j w:=by
  have:=run_sliceBound (P:=P) (w:=w) .i64 (j:Int) c .sliceAcap aj aj;simpa using this
 simp [Instr.sliceAt,Instr.slice,run_underlying aN,Instr.sliceBounds,af,jD cv w];intro _;cases a with
 |none=>rfl
 |some a=>
  have:=afn a bc;rw[Nat.zero_mul] at this;simpa using this
theorem aV.V' {t e:aK} {bc:Nat} {x i r:J} {a:Option Addr} {n c j:Nat} (aq:aM x=true) (ai:aM i=true) (ao:aM r=true) (aN:P.underlying t=some (.slice e)) (cv:bk P (sizeOf e)=some bc) (ex:aJ x= .slice a n c) (hE:aJ i= .int .i64 (j:Int)) (hj:j<=n)
  (ca:aJ r= .slice (ln a c j bc) (n-j) (c-j)):aV P (.mg t x (some i) none none,r):=by
 refine⟨by simp [oy,plainO,aq,ai],ao,λeb ec w _=> ?_⟩;show (gn eb ec (.mg t (aJ x) (some (aJ i)) none none)).run P w=_;rw[ex,hE,ca];unfold gn;simp only [Sem.run_bind,afo aN cv a n c j hj w,Result.andThen_ok];rfl
theorem aV.afq {t e:aK} {bc:Nat} {x i r:J} {a:Option Addr} {n c j:Nat} (aq:aM x=true) (ai:aM i=true) (ao:aM r=true) (aN:P.underlying t=some (.slice e)) (cv:bk P (sizeOf e)=some bc) (ex:aJ x= .slice a n c) (hE:aJ i= .int .i64 (j:Int)) (hj:j<=c)
  (ca:aJ r= .slice a j c):aV P (.mg t x none (some i) none,r):=by
 refine⟨by simp [oy,plainO,aq,ai],ao,λeb ec w _=> ?_⟩;show (gn eb ec (.mg t (aJ x) none (some (aJ i)) none)).run P w=_;rw[ex,hE,ca];unfold gn;simp only [Sem.run_bind,afp aN cv a n c j hj w,Result.andThen_ok];rfl
end
def nJ:Option b1->Option (aK×J×J)
 |some (.oper o _ ops s _)=>match o.op with
  | .store t oC hg=>match q_ ops o s.sl with
    |some true=>some (t,dH .nil s.sl oC,dH .nil s.sl hg)
    |_=>none
  |_=>none
 |_=>none
theorem afr [cV] {α:Type} {P:aS} {N B:Nat} {w0:ax} {Q:Exit->Act->ax->Prop} {M:Mem} {bs bm:List J} {o:Option b1} {t e:aK} {k:Nat} {p x u:J} {enc:α->List J} {l l':List α} {i:Nat} {y:α} {ef dK:aF} {a1:List bx} {bN:eH}
  (gb:l'=l.set i y) (h:nJ o=some (t,p,x)) (cv:bk P (sizeOf t)=some k) (al:∀x,(enc x).length=k) (kd:∀x,∀u∈enc x,u.oneCell'=true)
  (dg:cr (b9 o) ef a1=some bN) (eL:g' N ef (kc o) undef=some dK) (hp:aM p=true) (aq:aM x=true) (ml: @aJ (aX M bs) p=hd u (i*k)) (ex: @aJ (aX M bs) x= .agg ⟨enc y⟩)
  (cO:dw B M e k enc u l) (ai:i<l.length) (hm:∀M',fO (aX M bs) (aX M' bm) bN)
  (rest:∀M',dw B M' e k enc u l'->h8 M M' (eP u)->∀a6 w,@Here (aX M' bm) _ N {sl:=dK,ms:=[],A:=da a1} B w0 a6 w->wpListIn (Fr none) 0 P (kP o) (d' P (gC o) Q) (kO o) a6 w)
  (av:cV.ev<=a1.length:=by first|exact Nat.zero_le _|exact gI rfl) (ar:ix (b9 o).A a1 0:=by exact gW rfl): @fA (aX M bs) _ P N B w0 Q o:=by
 letI:=aX M bs;unfold nJ at h;split at h
 ·rename_i op r ops s ks
  refine⟨_,rfl,λa w ah=> ?_⟩;split at h
  ·rename_i dr oC hg cz
   split at h
   ·rename_i jP
    cases h;have hF:=ah;obtain⟨⟨φ,ds,ad,ag,ay,bG,_⟩,cJ,cU⟩:=ah;unfold wpListIn;rw[py ag.get jP,aY rfl];have es:a.eval oC=hd u (i*k):=(aD.jj _ hp (gU (iG φ) ag.get oC)).trans ml;have o4:a.eval hg= .agg ⟨enc y⟩:=(aD.jj _ aq (gU (iG φ) ag.get hg)).trans ex;have hw:∀i o,M i=some o->w.heap[i]? =some o:=hF.nY;obtain⟨g,c,w',rfl,vI,afs,M',g2,g3,g4⟩:=afm al kd cO hw aj i [y] (by simp only [List.length_cons,List.length_nil];omega);have fj:l.take i++[y]++l.drop (i+[y].length)=l.set i y:=by
     rw[List.set_eq_take_append_cons_drop,aY ai];simp
    rw[fj,<-gb] at g2;have fy:(execOp a.eval op).run P w= .ok .skip w':=by
     unfold execOp;rw[cz];simp only [es,o4];show (do Instr.storeAt t (hd (.slice (some ⟨g,0,none⟩) l.length c) (i*k)) (.agg ⟨enc y⟩);pure Next.skip:Sem Next).run P w=_;have c0:(Instr.storeAt t (hd (.slice (some ⟨g,0,none⟩) l.length c) (i*k)) (.agg ⟨enc y⟩)).run P w= .ok () w':=by
      unfold Instr.storeAt;refine c9 (a:=(⟨g,0+i*k,none⟩:Addr)) rfl ?_;unfold storeVar;refine c9 cv ?_;rw[a_ (by simp [Value.cells,al])];have:=afs P;rw[List.flatMap_cons,List.flatMap_nil,List.append_nil] at this;rw[Nat.zero_add];exact this
     simp only [Sem.run_bind,c0,Result.andThen_ok];rfl
    have fB:∀c',op.op≠.defer c':=λc' h=>by rw[cz] at h;cases h
    refine⟨λ_ _=>trivial,?_⟩;rw[Oper.semAt_eq _ _ _ fB,fy,Oper.uponIn_skip];have hV:=Here.turns (vals':=bm) dg (hm M') g3 av ar hF;letI:=aX M' bm;exact rest M' g2 g4 _ w' (Here.put (d:=op.dst) hV (v:=undef) rfl eL)
   ·cases h
  ·cases h
 ·cases h
theorem V_ [a7] {P:aS} {f:FuncId} {fn:Func} {c:Code} {args:List J} {sl:aF} {N:Nat} {W:ax} {R:Ending->ax->Prop} (mZ:P.funcs[f]? =some fn) (ar:fn.body=some c) (gK:setArgs 0 args .nil=some sl) (hp:dM args=true)
  (kn:args.length+(fn.ntmps-args.length)=N) (pD:oz W) (rj:∀a,@Here _ gp N {sl,ms:=[],A:=start} 0 W a W->c.wpIn (Fr none) 0 P (@rk gp P fn N 0 W R) a W):Calls P f ⟨ep args⟩ W R:=by
 subst kn;letI:=gp;exact N8 mZ ar gK (VL pD) (λb e h=>by cases h) (vC.none _ _) ⟨by simp [x0],λj hj=>by simpa using aD.AT (λ_=>none) args hp j hj⟩ (cj.refl _ _) (Nat.zero_le _) rj
theorem dw.cap {α:Type} {B:Nat} {M:Mem} {e:aK} {k:Nat} {enc:α->List J} {a:Option Addr} {n c:Nat} {l:List α} (h:dw B M e k enc (.slice a n c) l):n<=c:=by
 rcases h with ⟨a6,aL,rfl⟩|⟨g,cap,cur,aL,ad,ag,ay,bG,cJ,cU,fR⟩
 ·cases aL;exact ch _
 ·cases aL;exact bG
end AE
end Go.Proofs.YtepcfjbfkedlpaaDoor
namespace Go.Proofs.YtepcfjbfkedlpaaDoor
open Go Go.Proofs Go.RowKit
namespace AE
theorem Wa {α:Type} {P:aS} {w:ax} {B:Nat} {M:Mem} {t ty e:aK} {i:TypeInfo} {z:J} {k bytes:Nat} (aN:P.underlying t=some (.slice e)) (ai:P.info? e=some i) (bW:i.zero=some z) (gN:i.size=k) (jY:i.bytes=bytes) (mj:z.cells.size=k) (h1:0<k)
  {enc:α->List J} (al:∀x,(enc x).length=k) (kd:∀x,∀u∈enc x,u.oneCell'=true) {v x:J} {l lx:List α} (cO:dw B M e k enc v l) (aq:sf w k enc x lx) (hw:∀i o,M i=some o->w.heap[i]? =some o)
  (iS:l.length+lx.length<=maxLen) (lR:(l.length+lx.length)*bytes<=140737488355328) {aB:J} {w':ax} (ao:(Builtin.append_ #[t,t] ty #[v,x]).run P w= .ok aB w'):
  ∀j,some j=eP aB->some j=eP v\/w.heap.size<=j:=by
 obtain⟨xd,c,rfl,ym,km⟩:=aq;by_cases hm:lx=[]
 ·subst hm
  obtain⟨a,cap,rfl⟩:=cO.slice;have hle:l.length<=cap:=by
   rcases cO with ⟨a6,h,rfl⟩|⟨g,wQ,cur,h,aL,ad,ag,ay,_⟩
   ·exact Nat.zero_le _
   ·cases h;exact ay
  have ag:=Oi (P:=P) (w:=w) (ty:=ty) (a:=a) (b:=xd) (c:=c) aN ai hle;cases ag.symm.trans ao;exact λj h=> .inl h
 ·cases xd with
  |none=>exact absurd (ym rfl) hm
  |some hf=>
   have hlen:=rm al lx;have ad:∀u∈lx.flatMap enc,u.oneCell'=true:=λu hu=>by
    obtain⟨y,_,bE⟩:=List.mem_flatMap.1 hu;exact kd y u bE
   by_cases ar:eP v=none
   ·rcases cO with ⟨a,rfl,rfl⟩|⟨g,cap,cur,rfl,aL,_⟩
    ·have e0:(Builtin.append_ #[t,t] ty #[.slice a 0 0,.slice (some hf) lx.length c]).run P w=(Builtin.append_ #[t,t] ty #[.slice none 0 0,.slice (some hf) lx.length c]).run P w:=by
      cases a with
      |none=>rfl
      |some a=>
       subst gN;subst jY;have Ok:lx.length<=9223372036854775807:=by simp only [maxLen,List.length_nil] at iS;omega
       have uc:0<lx.length:=List.length_pos_iff.2 hm;have cS:=run_append_nil (P:=P) w t ty e i z aN ai bW hf lx.length c _ hlen (km hf rfl) aj aj (by have af:=lR;simp only [List.length_nil,Nat.zero_add] at af;omega);have dy:=run_append_grow (P:=P) w t ty e i z aN ai bW a 0 0 [] (by simp) (λj u h=>by simp at h) hf lx.length c _ hlen (km hf rfl) aj aj (growslice_fits aj (by have af:=lR;simp only [List.length_nil] at af;exact af));rw[cS,dy];simp
     have av:=Oj aN ai bW gN jY mj h1 (World.ownsRow_nil w B e k) hf lx.length c hlen (km hf rfl) ad iS lR (e0.symm.trans ao);intro j hj;rcases av j (Bd hj) with h|h
     ·cases h
     ·exact .inr h
    ·exact absurd ar (by rw[nZ _ _ aL];simp)
   ·have heq:eP v=v.ownBlock:=by
     cases h:eP v with
     |none=>exact absurd h ar
     |some i=>exact Bd h.symm
    have av:=Oj aN ai bW gN jY mj h1 (cO.row al ar hw) hf lx.length c hlen (km hf rfl) ad iS lR ao;intro j hj;rw[heq];exact av j (Bd hj)
theorem Wb [cV] {α:Type} {P:aS} {N B:Nat} {w0:ax} {Q:Exit->Act->ax->Prop} {M:Mem} {bs:List J} {o:Option b1} {t e:aK} {k bytes:Nat} {i:TypeInfo} {z vs lH eO:J} {enc:α->List J} {l lx l':List α} {bm:Option Addr->Nat->List J} {ef dK:aF} {a1:List bx} {bN:eH}
  (gb:l'=l++lx) (h:p4 t o=some (vs,lH)) (aN:P.underlying t=some (.slice e)) (ai:P.info? e=some i) (bW:i.zero=some z) (gN:i.size=k) (jY:i.bytes=bytes) (mj:z.cells.size=k) (h1:0<k) (al:∀x,(enc x).length=k) (kd:∀x,∀u∈enc x,u.oneCell'=true)
  (dg:cr (b9 o) ef a1=some bN) (eL:g' N ef (kc o) eO=some dK) (fD:aM eO=true) (T:Option Nat)
  (cO:∀φ w v,@b2 (aX M bs) φ (b9 o).A w-> @aD (aX M bs) φ vs v->dw B M e k enc v l/\eP v=T)
  (jZ:∀φ w x,@b2 (aX M bs) φ (b9 o).A w-> @aD (aX M bs) φ lH x->sf w k enc x lx)
  (iS:l.length+lx.length<=maxLen) (lR:(l.length+lx.length)*bytes<=140737488355328)
  (hm:∀M' a c,fO (aX M bs) (aX M' (bm a c)) bN) (aC:∀M' a c,@aJ (aX M' (bm a c)) eO= .slice a l'.length c)
  (rest:∀M' a c,dw B M' e k enc (.slice a l'.length c) l'->h8 M M' T->(∀i,some i=T->B<=i)->(∀i,some i=eP (.slice a l'.length c)->some i=T\/M i=none)->∀a6 w,@Here (aX M' (bm a c)) _ N {sl:=dK,ms:=[],A:=da a1} B w0 a6 w->wpListIn (Fr none) 0 P (kP o) (d' P (gC o) Q) (kO o) a6 w)
  (av:cV.ev<=a1.length:=by first|exact Nat.zero_le _|exact gI rfl) (ar:ix (b9 o).A a1 0:=by exact gW rfl): @fA (aX M bs) _ P N B w0 Q o:=by
 subst gb;letI:=aX M bs;unfold p4 at h;split at h
 ·rename_i op r ops s ks
  refine⟨_,rfl,λa w ah=> ?_⟩;split at h
  ·rename_i c cz
   split at h
   ·rename_i nI hg pW gM
    cases hty:decide (c.argTypes= #[t,t]) with
    |false=>rw[hty] at h;cases h
    |true=>
     rw[hty,bF] at h;have yn:c.argTypes= #[t,t]:=of_decide_eq_true hty;split at h
     ·rename_i jP
      cases h;have hF:=ah;obtain⟨⟨φ,ds,ad,ag,ay,bG,_⟩,cJ,cU⟩:=ah;unfold wpListIn;rw[py ag.get jP,aY rfl];have es:=gU (iG φ) ag.get nI;have ex:=gU (iG φ) ag.get hg;obtain⟨Jz,eA⟩:=cO φ w _ ay es;subst eA;have hw:∀i o,M i=some o->w.heap[i]? =some o:=hF.nY;obtain⟨aB,w',M',g1,g2,g3,g4⟩:=Ol (ty:=op.type) aN ai bW gN jY mj h1 al kd Jz (jZ φ w _ ay ex) hw cU iS lR;have zf:=Wa aN ai bW gN jY mj h1 al kd Jz (jZ φ w _ ay ex) hw iS lR g1;have fy:(execOp a.eval op).run P w= .ok (.value aB) w':=by
       unfold execOp resolve;rw[cz];simp only [pW,gM,yn,List.map_toArray,List.map_cons,List.map_nil];show (do pure (Next.value (<-Builtin.append_ #[t,t] op.type #[a.eval nI,a.eval hg])):Sem Next).run P w=_;simp only [Sem.run_bind,g1,Result.andThen_ok];rfl
      have fB:∀c',op.op≠.defer c':=λc' h=>by rw[cz] at h;cases h
      refine⟨λ_ _=>trivial,?_⟩;rw[Oper.semAt_eq _ _ _ fB,fy,Oper.uponIn_value];obtain⟨a6,c',rfl⟩:=g2.slice;have hV:=Here.turns (vals':=bm a6 c') dg (hm M' a6 c') g3 av ar hF;letI:=aX M' (bm a6 c');have lX:=Here.put (d:=op.dst) hV fD eL;rw[aC M' a6 c'] at lX;exact rest M' a6 c' g2 g4 (λi ai=>(g3.known i ai).2) (λi ai=>(zf i ai).imp id λaw=>by
       cases bw:M i with
       |none=>rfl
       |some o=>
        have:=(Array.getElem?_eq_some_iff.1 (hw i o bw)).1
        omega) _ w' lX
     ·cases h
   ·cases h
  ·cases h
 ·cases h
end AE
end Go.Proofs.YtepcfjbfkedlpaaDoor
namespace Go.Proofs.YtepcfjbfkedlpaaDoor
open Go Go.RowKit
namespace AE
abbrev fG:=List UInt8
def cD (l:fG):J:= .string ⟨l.toArray⟩
variable [a7]
section
variable {P:aS}
omit [a7] in
theorem Oq (l:fG):(⟨l.toArray⟩:ByteArray).size=l.length:=by simp [ByteArray.size]
theorem Dz {f:gh} {r:J} (aR:oy f=true) (ao:aM r=true) (av:CZ f=false) (h:∀eb ec w,oz w->(gn eb ec (x2 f)).run P w= .ok (.value (aJ r)) w):aV P (f,r):=by
 refine⟨aR,ao,?_⟩;simp only [av];exact h
theorem JE {f:gh} {r:J} (aR:oy f=true) (ao:aM r=true) (av:CZ f=true) (h:∀eb ec w,(gn eb ec (x2 f)).run P w= .ok (.value (aJ r)) w):aV P (f,r):=by
 refine⟨aR,ao,?_⟩;simp only [av];exact h
theorem aV.ea {x:J} {b:Bool} (aq:aM x=true) (h:aJ x= .bool b):aV P (.ea x,.bool b):=by
 refine⟨aq,rfl,?_⟩;show ∀eb ec w,(gn eb ec (.ea (aJ x))).run P w=_;intro eb ec w;rw[h];rfl
theorem aV.zH {t ty:aK} {x r:J} {l:fG} (aq:aM x=true) (ao:aM r=true) (aN:P.underlying t=some .string) (ex:aJ x=cD l) (ca:aJ r= .int .i64 l.length):aV P (.len #[t] ty x,r):=by
 refine JE aq ao rfl λeb ec w=> ?_
 show (gn eb ec (.len #[t] ty (aJ x))).run P w=_;rw[ex,ca];unfold gn cD;simp only [Sem.run_bind,run_len_string w t ty _ aN,Result.andThen_ok,Oq];rfl
theorem aV.Bi {t:aK} {x i r:J} {l:fG} {j:Nat} {k:IntKind} (hj:j<l.length) (aq:aM x=true) (ai:aM i=true) (ao:aM r=true) (aN:P.underlying t=some .string) (ex:aJ x=cD l) (hE:aJ i= .int k j)
  (ca:aJ r= .int .u8 ((l.getD j 0).toNat:Nat)):aV P (.fW t x i,r):=by
 refine Dz (by simp [oy,aq,ai]) ao rfl λeb ec w _=> ?_
 show (gn eb ec (.fW t (aJ x) (aJ i))).run P w=_;rw[ex,hE,ca];unfold gn cD;have ah:(0:Int)<=(j:Int)/\(j:Int)<((⟨l.toArray⟩:ByteArray).size:Nat):=⟨aj,by rw[Oq];omega⟩;simp only [Sem.run_bind,run_index_string w t _ k _ aN,dif_pos ah,Result.andThen_ok,Int.toNat_natCast];have:((⟨l.toArray⟩:ByteArray)[j]'(by rw[Oq];exact hj))=l.getD j 0:=by
  rw[dq,gi hj];rfl
 rw[this];rfl
omit [a7] in
theorem Wc (t:aK) (op:BinOp) (cz:op= .eql\/op= .neq) (l m:fG) (eb ec:Operand) (w:ax):(gn eb ec (.bin op t (cD l) (cD m))).run P w= .ok (.value (.bool (if op= .eql then decide (l=m) else !decide (l=m)))) w:=by
 unfold gn cD;rcases cz with rfl|rfl
 ·simp [eqGuard,binOp,Op.stringOp]
  rw[Bool.eq_iff_iff];simp
 ·simp [eqGuard,binOp,Op.stringOp]
  rw[Bool.eq_iff_iff];simp
theorem aV.Bj {t:aK} {x y:J} {l m:fG} (aq:aM x=true) (bE:aM y=true) (ex:aJ x=cD l) (hN:aJ y=cD m) (h:l=m):aV P (.bin .neq t x y,.bool false):=
 uH aq bE rfl ex hN λeb ec w=>by rw[Wc t .neq (.inr rfl) l m,a_ (by simp),eC h];rfl
theorem aV.n0 {t:aK} {x y:J} {l m:fG} (aq:aM x=true) (bE:aM y=true) (ex:aJ x=cD l) (hN:aJ y=cD m) (h:¬l=m):aV P (.bin .neq t x y,.bool true):=
 uH aq bE rfl ex hN λeb ec w=>by rw[Wc t .neq (.inr rfl) l m,a_ (by simp),cy h];rfl
theorem aV.DA {s d:aK} {x r:J} {k k':IntKind} {n:Int} (aq:aM x=true) (ao:aM r=true) (aw:(P.underlying s).isSome=true) (bg:P.underlying d=some (.int (P.intKind d))) (al:P.intKind d=k') (hw:k'.wrap n=n) (ex:aJ x= .int k n) (ca:aJ r= .int k' n):aV P (.conv s d x,r):=by
 refine Dz aq ao rfl λeb ec w _=> ?_
 show (gn eb ec (.conv s d (aJ x))).run P w=_;rw[ex,ca];unfold gn;simp only [Sem.run_bind,run_convert_int w s d k n aw bg,Result.andThen_ok,al,hw];rfl
omit [a7] in
theorem Wd {t:aK} (aN:P.underlying t=some .bool) (op:BinOp) (cz:op= .eql\/op= .neq) (l m:Bool) (eb ec:Operand) (w:ax):(gn eb ec (.bin op t (.bool l) (.bool m))).run P w= .ok (.value (.bool (if op= .eql then l==m else !(l==m)))) w:=by
 unfold gn;rcases cz with rfl|rfl
 ·simp [eqGuard,binOp,Op.equal,Op.maxDepth,run_equalIn_bool w 9999 t _ _ aN]
 ·simp [eqGuard,binOp,Op.equal,Op.maxDepth,run_equalIn_bool w 9999 t _ _ aN]
theorem aV.FD {t:aK} {x y:J} {l m r:Bool} (aN:P.underlying t=some .bool) (aq:aM x=true) (bE:aM y=true) (ex:aJ x= .bool l) (hN:aJ y= .bool m) (h:r=(l==m)):aV P (.bin .eql t x y,.bool r):=
 uH aq bE rfl ex hN λeb ec w=>by rw[Wd aN .eql (.inl rfl) l m,aY rfl,h];rfl
theorem aV.aft {t:aK} {x y:J} {l m r:Bool} (aN:P.underlying t=some .bool) (aq:aM x=true) (bE:aM y=true) (ex:aJ x= .bool l) (hN:aJ y= .bool m) (h:r= !(l==m)):aV P (.bin .neq t x y,.bool r):=
 uH aq bE rfl ex hN λeb ec w=>by rw[Wd aN .neq (.inr rfl) l m,a_ (by simp),h];rfl
theorem aV.Ot {x:J} {l r:Bool} (aq:aM x=true) (ex:aJ x= .bool l) (h:r= !l):aV P (.un .not x,.bool r):=by
 refine⟨aq,rfl,?_⟩;show ∀eb ec w,(gn eb ec (.un .not (aJ x))).run P w=_;intro eb ec w;rw[ex,h];rfl
theorem aV.afu {α:Type} {k:Nat} {enc:α->List J} {v:J} {l:List α} (h:cE a7.dn k enc v l) {t:aK} {p r:J} {i o j n:Nat} {x:α} {us:List J} (ai:l[i]? =some x) (hp:aM p=true) (ao:aM r=true)
  (ha:bk P (isAgg t)=some true) (av:bk P (sizeOf t)=some n) (ho:o=i*k+j) (hl:us.length=n) (hu:∀q u,us[q]? =some u->(enc x)[j+q]? =some u) (ex:aJ p=hd v o) (ca:aJ r= .agg ⟨us⟩):aV P (.bB t p,r):=by
 obtain⟨b,off,c,cs,ty,fr,rfl,af,ar⟩:=h.at' ai;refine aV.bB (b:=b) (o:=off+o) (l:=us) hp ao ha av ex hl (λw hw q u bf=> ?_) ca;have ad:=hw b _ af;have ag:=ar (j+q) u (hu q u bf);show w.cell? ⟨b,off+o+q,none⟩=some u;rw[show off+o+q=off+i*k+(j+q) by omega];unfold World.cell?;simp only [ad];exact ag
theorem aV.We {t e:aK} {x i r:J} {g o n bc:Nat} {j:Nat} {k:IntKind} (aq:aM x=true) (ai:aM i=true) (ao:aM r=true) (aN:P.underlying t=some (.array n e)) (cv:bk P (sizeOf e)=some bc)
  (ex:aJ x= .pointer (some ⟨g,o,none⟩)) (hE:aJ i= .int k j) (hj:j<n) (ca:aJ r= .pointer (some ⟨g,o+j*bc,none⟩)):aV P (.dB t x i,r):=by
 refine JE (by simp [oy,aq,ai]) ao rfl λeb ec w=> ?_
 show (gn eb ec (.dB t (aJ x) (aJ i))).run P w=_;rw[ex,hE];unfold gn;have:(Instr.indexAt t (.pointer (some ⟨g,o,none⟩)) (.int k j)).run P w= .ok (.pointer (some ⟨g,o+j*bc,none⟩)) w:=by
  have aL:(Instr.sureAddr (.pointer (some ⟨g,o,none⟩))).run P w= .ok (⟨g,o,none⟩:Addr) w:=rfl;simp [Instr.indexAt,run_underlying aN,asIntOf,hj,aL,jD cv w,Addr.kz]
 simp only [Sem.run_bind,this,Result.andThen_ok,ca];rfl
theorem aV.afv {t e:aK} {x i r v:J} {n m j o o':Nat} {gB:IntKind} (aq:aM x=true) (ai:aM i=true) (ao:aM r=true) (aN:P.underlying t=some (.array n e)) (cv:bk P (sizeOf e)=some m)
  (aC:∃b off n c,v= .slice (some ⟨b,off,none⟩) n c) (hj:j<n) (ho:o'=o+j*m) (ex:aJ x=hd v o) (hE:aJ i= .int gB j) (ca:aJ r=hd v o'):aV P (.dB t x i,r):=by
 obtain⟨b,off,gd,c,rfl⟩:=aC;exact aV.We (g:=b) (o:=off+o) aq ai ao aN cv ex hE hj (by rw[ca,ho];simp [hd,cellAt,Nat.add_assoc])
theorem aV.afw {t e:aK} {x r:J} {g o n bc:Nat} (aq:aM x=true) (ao:aM r=true) (aN:P.underlying t=some (.array n e)) (cv:bk P (sizeOf e)=some bc)
  (ex:aJ x= .pointer (some ⟨g,o,none⟩)) (av:0<n) (ca:aJ r= .slice (some ⟨g,o,none⟩) n n):aV P (.mg t x none none none,r):=by
 refine Dz (by simp [oy,plainO,aq]) ao rfl λeb ec w _=> ?_
 show (gn eb ec (.mg t (aJ x) none none none)).run P w=_;rw[ex];unfold gn;have:(Instr.sliceAt t (.pointer (some ⟨g,o,none⟩)) none none none).run P w= .ok (.slice (some ⟨g,o,none⟩) n n) w:=by
  have aL:(Instr.sureAddr (.pointer (some ⟨g,o,none⟩))).run P w= .ok (⟨g,o,none⟩:Addr) w:=rfl;unfold Instr.sliceAt;simp only [Sem.run_bind,run_underlying aN,Result.andThen_ok,aL];have c1:n≠0:=by omega
  simp [Instr.sliceBounds,jD cv w,c1];rfl
 simp only [Sem.run_bind,this,Result.andThen_ok,ca];rfl
section
omit [a7]
def FE (P:aS) (f:aK->J->J->Option Bool) (xs ys:Array J):List Field->Option Bool
 |[]=>some true
 |iv::r=>bif iv.name== "_" then FE P f xs ys r else
  match bk P (part iv.type xs iv.offset),bk P (part iv.type ys iv.offset) with
  |some a,some b=>match f iv.type a b,FE P f xs ys r with
   |some p,some q=>some (p&&q)
   |_,_=>none
  |_,_=>none
def JF (P:aS) (f:aK->J->J->Option Bool) (e:aK) (c:Nat) (xs ys:Array J):List Nat->Option Bool
 |[]=>some true
 |i::r=>match bk P (part e xs (i*c)),bk P (part e ys (i*c)) with
  |some a,some b=>match f e a b,JF P f e c xs ys r with
   |some p,some q=>some (p&&q)
   |_,_=>none
  |_,_=>none
def rn (P:aS):Nat->aK->J->J->Option Bool
 |0,_,_,_=>none
 |d+1,t,x,y=>match P.underlying t with
  |some .bool=>match x,y with
   | .bool a,.bool b=>some (a==b)
   |_,_=>none
  |some (.int _)=>match x,y with
   | .int k a,.int k' b=>bif decide (k=k') then some (a==b) else none
   |_,_=>none
  |some .string=>match x,y with
   | .string a,.string b=>some (a.data.toList==b.data.toList)
   |_,_=>none
  |some (.struct _)=>match x,y with
   | .agg xs,.agg ys=>bif P.stoodInHeld t then none else FE P (rn P d) xs ys (P.fieldsOf t).toList
   |_,_=>none
  |some (.array n e)=>match x,y with
   | .agg xs,.agg ys=>match P.info? e with
     |some _=>JF P (rn P d) e (P.cellsOf e) xs ys (List.range n)
     |none=>none
   |_,_=>none
  |_=>none
theorem Ou {d:Nat} (cA:∀t x y b,rn P d t x y=some b->∀w,(Op.equalIn d t x y).run P w= .ok b w) {xs ys:Array J}:∀(l:List Field) (b:Bool),FE P (rn P d) xs ys l=some b->∀w,(Op.eqFields d xs ys l).run P w= .ok b w
 |[],b,h,w=>by cases h;rfl
 |iv::r,b,h,w=>by
  unfold FE at h;unfold Op.eqFields;by_cases av:iv.name= "_"
  ·rw[show (iv.name== "_")=true by simpa using av,bF] at h
   rw[a_ (λah=>ah av)];exact Ou cA r b h w
  ·rw[show (iv.name== "_")=false by simpa using av,eD] at h
   rw[aY av];split at h
   ·rename_i a c ha ar
    split at h
    ·rename_i p q hp bf
     cases h;simp only [Sem.run_bind,jD ha,jD ar,cA _ _ _ _ hp,Result.andThen_ok];cases p with
     |true=>simpa using Ou cA r q bf w
     |false=>rfl
    ·cases h
   ·cases h
theorem Wf {d:Nat} (cA:∀t x y b,rn P d t x y=some b->∀w,(Op.equalIn d t x y).run P w= .ok b w) {e:aK} {c:Nat} {xs ys:Array J}:∀(l:List Nat) (b:Bool),JF P (rn P d) e c xs ys l=some b->∀w,(Op.eqItems d e c xs ys l).run P w= .ok b w
 |[],b,h,w=>by cases h;rfl
 |i::r,b,h,w=>by
  unfold JF at h;unfold Op.eqItems;split at h
  ·rename_i a c ha ar
   split at h
   ·rename_i p q hp bf
    cases h;simp only [Sem.run_bind,jD ha,jD ar,cA _ _ _ _ hp,Result.andThen_ok];cases p with
    |true=>simpa using Wf cA r q bf w
    |false=>rfl
   ·cases h
  ·cases h
theorem JG:∀(d:Nat) (t:aK) (x y:J) (b:Bool),rn P d t x y=some b->∀w,(Op.equalIn d t x y).run P w= .ok b w
 |0,_,_,_,_,h,_=>by cases h
 |d+1,t,x,y,b,h,w=>by
  unfold rn at h;split at h
  ·rename_i hu
   split at h
   ·cases h;exact run_equalIn_bool' w d t _ _ hu
   ·cases h
  ·rename_i ez hu
   split at h
   ·rename_i k a k' b'
    by_cases al:k=k'
    ·subst al
     simp only [decide_true,bF,cQ] at h;subst h;exact run_equalIn_int w d t k ez a b' hu
    ·rw[cy al,eD] at h
     cases h
   ·cases h
  ·rename_i hu
   split at h
   ·rename_i a c
    cases h;rw[run_equalIn_string w d t _ _ hu,ByteArray.toList_eq,ByteArray.toList_eq]
   ·cases h
  ·rename_i fs hu
   split at h
   ·rename_i xs ys
    cases aw:P.stoodInHeld t with
    |true=>rw[aw] at h;cases h
    |false=>
     rw[aw,eD] at h;have afx:P.underlying t=some (.struct (P.fieldsOf t)):=by unfold Program.fieldsOf;rw[hu]
     rw[run_equalIn_struct w d t xs ys afx aw];exact Ou (λt x y b h=>JG d t x y b h) _ b h w
   ·cases h
  ·rename_i n e hu
   split at h
   ·rename_i xs ys
    split at h
    ·rename_i i ai
     rw[run_equalIn_array (w:=w) d xs ys hu ai];exact Wf (λt x y b h=>JG d t x y b h) _ b h w
    ·cases h
   ·cases h
  ·cases h
end
theorem aV.zs {t:aK} {x y:J} {xs ys:Array J} {b:Bool} (aA:P.eqGuardType P.depth t=false) (aq:aM x=true) (bE:aM y=true) (ex:aJ x= .agg xs) (hN:aJ y= .agg ys) (h:rn P 10000 t (.agg xs) (.agg ys)=some b):aV P (.bin .eql t x y,.bool b):=
 uH aq bE rfl ex hN λeb ec w=>by
  unfold gn;simp only [Sem.run_bind,run_eqGuard_agg w .eql t eb ec xs ys aA,Result.andThen_ok,run_eql_struct,JG 10000 t _ _ b h w];rfl
theorem aV.JH {t:aK} {x y:J} {xs ys:Array J} {b:Bool} (aA:P.eqGuardType P.depth t=false) (aq:aM x=true) (bE:aM y=true) (ex:aJ x= .agg xs) (hN:aJ y= .agg ys) (h:rn P 10000 t (.agg xs) (.agg ys)=some b):aV P (.bin .neq t x y,.bool (!b)):=
 uH aq bE rfl ex hN λeb ec w=>by
  unfold gn;simp only [Sem.run_bind,run_eqGuard_agg w .neq t eb ec xs ys aA,Result.andThen_ok,run_neq_struct,JG 10000 t _ _ b h w];rfl
end
end AE
end Go.Proofs.YtepcfjbfkedlpaaDoor
namespace Go.Proofs.YtepcfjbfkedlpaaDoor
open Go Go.Proofs Go.RowKit
namespace AE
theorem afy {p:Prop} [Decidable p] (h:p):Value.bool true= .bool (decide p):=by rw[eC h]
theorem afz {p:Prop} [Decidable p] (h:¬p):Value.bool false= .bool (decide p):=by rw[cy h]
theorem afA {p:Prop} [Decidable p] (h:¬p):Value.bool true= .bool (!decide p):=by rw[cy h];rfl
theorem afB {p:Prop} [Decidable p] (h:p):Value.bool false= .bool (!decide p):=by rw[eC h];rfl
theorem mm {a b:Int} (h:a=b) (ad: -9223372036854775808<=a) (ag:a<=9223372036854775807):Value.int .i64 a= .int .i64 (IntKind.i64.wrap b):=by rw[<-h,wrap64 ad ag]
theorem FF {a:Int} (h:0<=a):Value.int .i64 a= .int .i64 ((a.toNat:Nat):Int):=by rw[Int.toNat_of_nonneg h]
theorem FG {α:Type} [Inhabited α] {l:List α} {i:Nat} (h:i<l.length):l[i]? =some (l.getD i default):=by rw[dq,gi h];rfl
theorem uI:bk Tryd.prog (sizeOf 3)=some 1:=au
theorem vJ:bk Tryd.prog (isAgg 3)=some false:=au
theorem JI:bk Tryd.prog (isAgg 4)=some false:=au
theorem Wg:bk Tryd.prog (isAgg 9)=some false:=au
theorem afC:bk Tryd.prog (sizeOf 9)=some 1:=au
theorem rp:Tryd.prog.underlying 9=some .string:=au
theorem JJ:Tryd.prog.underlying 4=some .bool:=au
abbrev kQ:aK:=3
theorem iz:Tryd.prog.underlying 26=some (.slice kQ):=au
noncomputable def JK:TypeInfo:=(Tryd.prog.info? kQ).getD default
theorem JL:Tryd.prog.info? kQ=some JK:=au
theorem JM:JK.zero=some (.int .i64 0):=au
theorem JN:JK.size=1:=au
abbrev yr:Nat:=8
theorem JO:JK.bytes=yr:=au
theorem JP:(Value.int .i64 0).cells.size=1:=rfl
def fQ (n:Int):List J:=[.int .i64 n]
theorem ko:∀x,(fQ x).length=1:=λ_=>rfl
theorem JQ:∀x,∀u∈fQ x,u.oneCell'=true:=λx u hu=>by
 simp only [fQ,List.mem_cons,List.not_mem_nil,or_false] at hu;subst hu;rfl
abbrev cW:=fG×Bool×Bool×Bool×Int×Int×Int×Int
instance aoT:DecidableEq (Bool×Bool×Bool×Int×Int×Int×Int):=λp q=>decidable_of_iff (p.1=q.1/\p.2.1=q.2.1/\p.2.2=q.2.2) ⟨λh=>Prod.ext h.1 (Prod.ext h.2.1 h.2.2),λh=>by subst h;exact⟨rfl,rfl,rfl⟩⟩
instance aoU:DecidableEq cW:=λp q=>decidable_of_iff (p.1=q.1/\p.2=q.2) ⟨λh=>Prod.ext h.1 h.2,λh=>by subst h;exact⟨rfl,rfl⟩⟩
def jF (x:cW):List J:=[cD x.1,.bool x.2.1,.bool x.2.2.1,.bool x.2.2.2.1,.int .i64 x.2.2.2.2.1,.int .i64 x.2.2.2.2.2.1,.int .i64 x.2.2.2.2.2.2.1,.int .i64 x.2.2.2.2.2.2.2]
abbrev M.val (x:cW):J:= .agg ⟨jF x⟩
abbrev oD:aK:=70
theorem qL:bk Tryd.prog (sizeOf oD)=some 8:=au
theorem Bk:bk Tryd.prog (isAgg oD)=some true:=au
theorem lY:Tryd.prog.underlying 29=some (.slice oD):=au
theorem afD:bk Tryd.prog (underlying oD)=some (.struct (Tryd.prog.fieldsOf oD)):=au
noncomputable def JR:TypeInfo:=(Tryd.prog.info? oD).getD default
theorem afE:Tryd.prog.info? oD=some JR:=au
theorem afF:JR.zero=some (.agg ⟨[cD [],.bool false,.bool false,.bool false,.int .i64 0,.int .i64 0,.int .i64 0,.int .i64 0]⟩):=au
theorem afG:JR.size=8:=au
abbrev Ov:Nat:=56
theorem afH:JR.bytes=Ov:=au
theorem afI:(Value.agg ⟨[cD [],.bool false,.bool false,.bool false,.int .i64 0,.int .i64 0,.int .i64 0,.int .i64 0]⟩).cells.size=8:=rfl
theorem JS:∀x,(jF x).length=8:=λ_=>rfl
theorem afJ:∀x,∀u∈jF x,u.oneCell'=true:=λx u hu=>by
 simp only [jF,List.mem_cons,List.not_mem_nil,or_false] at hu;rcases hu with rfl|rfl|rfl|rfl|rfl|rfl|rfl|rfl<;>rfl
section
variable [a7]
theorem Ow {α:Type} {k:Nat} {enc:α->List J} {v:J} {l:List α} (h:cE a7.dn k enc v l) {n:Nat} (av:n<l.length):∃b off n c,v= .slice (some ⟨b,off,none⟩) n c:=by
 obtain⟨b,off,c,_,_,_,aC,_⟩:=h.at' (gi av);exact⟨b,off,_,c,aC⟩
theorem afK {P:aS} {α:Type} {k:Nat} {enc:α->List J} {v:J} {l:List α} {s:aK} {f m off ty:Nat} (aw:bk P (underlying s)=some (.struct (P.fieldsOf s))) (aR:((P.fieldsOf s)[f]?).map (λf=>(f.type,f.offset))=some (ty,off)) (hm:bk P (sizeOf ty)=some m) (aL:m≠0)
  (h:cE a7.dn k enc v l) {n:Nat} (av:n<l.length) {x r:J} {o:Nat} (aq:aM x=true) (ao:aM r=true) (ex:aJ x=hd v o) (ca:aJ r=hd v (o+off)):aV P (.cq s x f,r):=by
 rw[xL] at aR;obtain⟨iv,ad,ag⟩:=aR;cases ag;exact aV.VX aq ao aw ad hm aL (Ow h av) rfl ex ca
variable {α:Type} {k:Nat} {enc:α->List J} {v:J} {l:List α} {n o:Nat} {x r:J}
theorem Wh (h:cE a7.dn k enc v l) (av:n<l.length) (aq:aM x=true) (ao:aM r=true) (ex:aJ x=hd v o) (ca:aJ r=hd v (o+0)):aV Tryd.prog (.cq oD x 0,r):=afK (ty:=9) afD au afC cw h av aq ao ex ca
end
abbrev Wi:=Int×Int×Int
def afL (x:Wi):List J:=[.int .i64 x.1,.int .i64 x.2.1,.int .i64 x.2.2]
abbrev E.val (x:Wi):J:= .agg ⟨afL x⟩
theorem afM (p q:cW):rn Tryd.prog 10000 oD (M.val p) (M.val q)=some (p.1==q.1&&(p.2.1==q.2.1&&(p.2.2.1==q.2.2.1&&(p.2.2.2.1==q.2.2.2.1&&(p.2.2.2.2.1==q.2.2.2.2.1&&((p.2.2.2.2.2.1==q.2.2.2.2.2.1&&(p.2.2.2.2.2.2.1==q.2.2.2.2.2.2.1&&(p.2.2.2.2.2.2.2==q.2.2.2.2.2.2.2&&true)))&&true)))))):=au
theorem afN:Tryd.prog.eqGuardType Tryd.prog.depth oD=false:=au
theorem afO (p q:cW):(p.1==q.1&&(p.2.1==q.2.1&&(p.2.2.1==q.2.2.1&&(p.2.2.2.1==q.2.2.2.1&&(p.2.2.2.2.1==q.2.2.2.2.1&&((p.2.2.2.2.2.1==q.2.2.2.2.2.1&&(p.2.2.2.2.2.2.1==q.2.2.2.2.2.2.1&&(p.2.2.2.2.2.2.2==q.2.2.2.2.2.2.2&&true)))&&true))))))=decide (p=q):=by
 obtain⟨a,b,c,d,e,f,g,h⟩:=p;obtain⟨a6,b',c',ou,e',iQ,afP,ga⟩:=q;rw[Bool.eq_iff_iff];simp
section
variable [a7]
theorem Wj {x y:J} {p q:cW} (aq:aM x=true) (bE:aM y=true) (ex:aJ x=M.val p) (hN:aJ y=M.val q) {d:Bool} (bg:d= !decide (p=q)):aV Tryd.prog (.bin .neq oD x y,.bool d):=by
 subst bg;exact aV.JH afN aq bE ex hN ((afM p q).trans (by rw[afO]))
theorem DB {P:aS} {x:J} {t:Bool} (aq:aM x=true) (ex:aJ x= .bool t) (h:t=true):aV P (.ea x,.bool true):=aV.ea aq (by rw[ex,h])
theorem Ox {P:aS} {x:J} {t:Bool} (aq:aM x=true) (ex:aJ x= .bool t) (h:¬t=true):aV P (.ea x,.bool false):=aV.ea aq (by rw[ex,Bool.eq_false_iff.2 h])
theorem afQ {P:aS} {x:J} {t:Bool} (aq:aM x=true) (ex:aJ x= .bool t) (h:t=true):aV P (.un .not x,.bool false):=aV.Ot aq ex (by rw[h];rfl)
theorem afR {P:aS} {x:J} {t:Bool} (aq:aM x=true) (ex:aJ x= .bool t) (h:¬t=true):aV P (.un .not x,.bool true):=aV.Ot aq ex (by rw[Bool.eq_false_iff.2 h];rfl)
variable {x y:J} {s t:Bool}
theorem DC (aq:aM x=true) (bE:aM y=true) (ex:aJ x= .bool s) (hN:aJ y= .bool t) (h:s=true) (ga:t=true):aV Tryd.prog (.bin .eql 4 x y,.bool true):=aV.FD JJ aq bE ex hN (by rw[h,ga];rfl)
theorem JT (aq:aM x=true) (bE:aM y=true) (ex:aJ x= .bool s) (hN:aJ y= .bool t) (h:s=true) (ga:¬t=true):aV Tryd.prog (.bin .eql 4 x y,.bool false):=aV.FD JJ aq bE ex hN (by rw[h,Bool.eq_false_iff.2 ga];rfl)
theorem yt (aq:aM x=true) (bE:aM y=true) (ex:aJ x= .bool s) (hN:aJ y= .bool t) (h:¬s=true) (ga:t=true):aV Tryd.prog (.bin .eql 4 x y,.bool false):=aV.FD JJ aq bE ex hN (by rw[Bool.eq_false_iff.2 h,ga];rfl)
theorem vK (aq:aM x=true) (bE:aM y=true) (ex:aJ x= .bool s) (hN:aJ y= .bool t) (h:¬s=true) (ga:¬t=true):aV Tryd.prog (.bin .eql 4 x y,.bool true):=aV.FD JJ aq bE ex hN (by rw[Bool.eq_false_iff.2 h,Bool.eq_false_iff.2 ga];rfl)
end
def JU:List J:=[cD [103,97,115],.bool false,.bool false,.bool false,cD [115,111,108,105,100],.bool true,.bool false,.bool false,cD [102,97,108,108,105,110,103],.bool true,.bool false,.bool true,cD [108,105,113,117,105,100],.bool false,.bool true,.bool false]
def mJ (M:Mem):Prop:=∃ty fr,M 0=some (.cells ⟨JU⟩ ty fr)
theorem mJ.mono {M M':Mem} (h:mJ M) (hm:∀i o,M i=some o->M' i=some o):mJ M':=by
 obtain⟨ty,fr,h⟩:=h;exact⟨ty,fr,hm _ _ h⟩
section
variable [a7] {P:aS}
theorem afS (cC:mJ a7.dn) {w:ax} (hw:oz w) {o:Nat} {u:J} (hu:JU[o]? =some u):w.cell? ⟨0,o,none⟩=some u:=by
 obtain⟨ty,fr,h⟩:=cC;have:=hw _ _ h;unfold World.cell?;simp only [this];simpa using hu
theorem Bl (cC:mJ a7.dn) {t:aK} {x r:J} {o n:Nat} {l:List J} (aq:aM x=true) (ao:aM r=true) (ha:bk P (isAgg t)=some true) (av:bk P (sizeOf t)=some n) (ex:aJ x= .pointer (some ⟨0,o,none⟩)) (ca:aJ r= .agg ⟨l⟩) (hl:(JU.drop o).take n=l) (lh:l.length=n):aV P (.bB t x,r):=
 aV.bB (b:=0) (o:=o) (l:=l) aq ao ha av ex lh (λw hw j u hj=>afS cC hw (by
  rw[<-hl,List.getElem?_take] at hj;split at hj
  ·rwa [List.getElem?_drop] at hj
  ·cases hj)) ca
theorem kR {f:FuncId} {args:List J} {v:J} {a:Array J} {u:J} (hp:dM args=true) (aC:aM v=true) (ha:ep args=a.toList) (hu:aJ v=u)
  (h:∀w,oz w->Calls P f a w λe w'=>e= .returned u/\cj w.heap.size w w'):jb P (f,args,v):=
 ⟨hp,aC,λw hw=>by show Calls P f ⟨ep args⟩ w _;rw[ha,hu];exact h w hw⟩
end
end AE
end Go.Proofs.YtepcfjbfkedlpaaDoor
namespace Go.Proofs.YtepcfjbfkedlpaaDoor
open Go Go.ChangeShapes Go.WideShapes Go.ChangeAt Go.RowKit
section
theorem own:ownKnob Tryd.prog.godebug=none:=au
theorem afT:laidOutB Tryd.prog=true:=au
theorem Wk {H:Type} {enc:aK×J->H} {P:aS} (hl:laidOutB P=true) {W W':ax} (af:Below W.heap.size W W'):∀(c7:List aK) (vs:List J) (ds:List (DataW H)) (ps:List MemPlace),
  c7.all (λt=>P.readableRec t&&decide (t<P.types.size))=true->DataW.TrodAll enc P W 0 (λ_=>true) true c7 vs ds ps->(∀x∈ps,x.block<W.heap.size)->DataW.TrodAll enc P W' 0 (λb=>decide (b<W.heap.size)) true c7 vs ds ps
 |[],[],[],ps,_,h,_=>h
 |t::c7,v::vs,d::ds,ps,aN,h,cg=>by
  obtain⟨p,q,ad,ag,rfl⟩:=h;simp only [List.all_cons,c8,decide_eq_true_eq] at aN;exact⟨p,q,Below.trod hl aN.1.1 aN.1.2 ad af (λx aq=>cg x (List.mem_append_left _ aq)),Wk hl af c7 vs ds q aN.2 ag λx aq=>cg x (List.mem_append_right _ aq),rfl⟩
 |[],_::_,_,_,_,h,_=>by cases h
 |[],[],_::_,_,_,h,_=>by cases h
 |_::_,[],_,_,_,h,_=>by cases h
 |_::_,_::_,[],_,_,h,_=>by cases h
theorem Wl:Tryd.prog.cellsOf AE.oD=8:=au
theorem DE:Tryd.prog.cellsOf 3=1:=au
theorem Wm:Tryd.prog.cellsOf 9=1:=au
theorem Bm:Tryd.prog.cellsOf 4=1:=au
theorem afU:Tryd.prog.cellsOf 68=3:=au
abbrev FH:aK:=141
theorem Wn:Tryd.prog.cellsOf FH=4:=au
theorem afV:Tryd.prog.cellsOf 151=16:=au
theorem Bn:Tryd.prog.underlying AE.oD=some (.struct (Tryd.prog.fieldsOf AE.oD)):=au
theorem FI:Tryd.prog.underlying FH=some (.struct (Tryd.prog.fieldsOf FH)):=au
section
variable {H:Type} {enc:aK×J->H} {W:ax} {r:Reach} {cu:Nat} {base:Nat} {n1:Nat->Bool} {n3:Bool} {v:J} {d:DataW H} {p:List MemPlace}
theorem p5 {P:aS} {t ty off k i n:Nat} {cs:List J} {x:DataW H×List MemPlace} (hu:P.underlying t=some (.struct (P.fieldsOf t))) (aR:((P.fieldsOf t)[i]?).map (λf=>(f.type,f.offset))=some (ty,off)) (al:P.cellsOf ty=k)
  (h:DataW.trod enc P W base n1 n3 n t cs=some x):∃m y,DataW.trod enc P W base n1 n3 m ty ((cs.drop off).take k)=some y/\∀l,x.1= .agg l->l[i]? =some y.1:=by
 obtain⟨xs,m,_,ex,hlen,Bo,ow⟩:=DataW.trod_struct hu h;rw[xL] at aR;obtain⟨iv,ad,ag⟩:=aR;cases ag;have cJ:=ow i iv ad;have cg:i<xs.length:=by rw[Bo];exact(Array.getElem?_eq_some_iff.1 ad).1
 rw[al,gi cg] at cJ;refine⟨m,_,cJ,λl hl=> ?_⟩;rw[ex] at hl;injection hl with hl;rw[<-hl,List.getElem?_map,gi cg];rfl
theorem Wo (s:ByteArray):Value.string s=AE.cD s.data.toList:=by cases s;rfl
theorem afW {n:Nat} {cs:List J} {x:DataW H×List MemPlace} (h:DataW.trod enc Tryd.prog W base n1 n3 n FH cs=some x):cs.length=4:=by
 obtain⟨_,_,_,_,hlen,_,_⟩:=DataW.trod_struct FI h;rw[hlen,Wn]
theorem JV {n:Nat} {cs:List J} {x:DataW H×List MemPlace} {s:List UInt8} {a b c:Bool} (h:DataW.trod enc Tryd.prog W base n1 n3 n FH cs=some x) (aq:x.1= .agg [.lit (.string s),.lit (.bool a),.lit (.bool b),.lit (.bool c)]):
  cs=[AE.cD s,.bool a,.bool b,.bool c]:=by
 have hlen:=afW h;obtain⟨_,vq,aL,eI⟩:=p5 (i:=0) (ty:=9) (off:=0) FI au Wm h;obtain⟨_,zz,ad,g1⟩:=p5 (i:=1) (ty:=4) (off:=1) FI au Bm h;obtain⟨_,Jp,ag,g2⟩:=p5 (i:=2) (ty:=4) (off:=2) FI au Bm h;obtain⟨_,afX,ay,g3⟩:=p5 (i:=3) (ty:=4) (off:=3) FI au Bm h;obtain⟨aO,e0,rfl,_⟩:=DataW.trod_string Tryd.underlying9 aL;obtain⟨s1,e1,rfl⟩:=DataW.trod_bool Tryd.underlying4 ad;obtain⟨s2,e2,rfl⟩:=DataW.trod_bool Tryd.underlying4 ag;obtain⟨sb,e3,rfl⟩:=DataW.trod_bool Tryd.underlying4 ay;have ez:=eI _ aq;have de:=g1 _ aq;have dv:=g2 _ aq;have vM:=g3 _ aq;simp only [List.getElem?_cons_zero,List.getElem?_cons_succ,cQ,DataW.lit.injEq,Lit.string.injEq,Lit.bool.injEq] at ez de dv vM;subst ez de dv vM
 match cs,hlen,e0,e1,e2,e3 with
 |[dE,hA,c2,c3],_,e0,e1,e2,e3=>
  simp only [List.drop_zero,List.drop_succ_cons,List.take_succ_cons,List.take_zero,List.cons.injEq,and_true] at e0 e1 e2 e3;rw[e0,e1,e2,e3,Wo]
theorem afY {n:Nat} {cs:List J} {x:DataW H×List MemPlace} (h:DataW.trod enc Tryd.prog W base n1 n3 n AE.oD cs=some x):∃s:AE.cW,cs=AE.jF s:=by
 have hlen:cs.length=8:=by
  obtain⟨_,_,_,_,hlen,_,_⟩:=DataW.trod_struct Bn h;rw[hlen,Wl]
 obtain⟨_,vq,aL,_⟩:=p5 (i:=0) (ty:=9) (off:=0) Bn au Wm h;obtain⟨_,zz,ad,_⟩:=p5 (i:=1) (ty:=4) (off:=1) Bn au Bm h;obtain⟨_,Jp,ag,_⟩:=p5 (i:=2) (ty:=4) (off:=2) Bn au Bm h;obtain⟨_,afX,ay,_⟩:=p5 (i:=3) (ty:=4) (off:=3) Bn au Bm h;obtain⟨_,aoV,bG,_⟩:=p5 (i:=4) (ty:=3) (off:=4) Bn au DE h;obtain⟨_,aoW,cJ,_⟩:=p5 (i:=5) (ty:=68) (off:=5) Bn au afU h;obtain⟨aO,e0,_⟩:=DataW.trod_string Tryd.underlying9 aL;obtain⟨s1,e1,_⟩:=DataW.trod_bool Tryd.underlying4 ad;obtain⟨s2,e2,_⟩:=DataW.trod_bool Tryd.underlying4 ag;obtain⟨sb,e3,_⟩:=DataW.trod_bool Tryd.underlying4 ay;obtain⟨Bp,hD,_⟩:=DataW.trod_int Tryd.underlying3 bG;obtain⟨xs,m,_,_,Fk,Bo,aR⟩:=DataW.trod_array Tryd.underlying68 cJ;have ai:∀i,i<3->∃z:Int,(((cs.drop 5).take 3).drop i).take 1=[.int .i64 z]:=λi ay=>by
  have cU:=aR i ay;rw[DE,Nat.mul_one,gi (show i<xs.length by omega)] at cU;obtain⟨z,e,_⟩:=DataW.trod_int Tryd.underlying3 cU;exact⟨z,e⟩
 obtain⟨z0,f0⟩:=ai 0 aj;obtain⟨FJ,f1⟩:=ai 1 aj;obtain⟨z2,f2⟩:=ai 2 aj
 match cs,hlen,e0,e1,e2,e3,hD,f0,f1,f2 with
 |[dE,hA,c2,c3,nV,Jr,Js,Jt],_,e0,e1,e2,e3,hD,f0,f1,f2=>
  simp only [List.drop_zero,List.drop_succ_cons,List.take_succ_cons,List.take_zero,List.cons.injEq,and_true] at e0 e1 e2 e3 hD f0 f1 f2;exact⟨(aO.data.toList,s1,s2,sb,Bp,z0,FJ,z2),by rw[e0,e1,e2,e3,hD,f0,f1,f2,Wo];rfl⟩
theorem afZ (aC:Value.okWide Tryd.prog W r cu 29 v) (h:DataW.Trod enc Tryd.prog W base n1 n3 29 v d p):∃l:List AE.cW,AE.cE (AE.aE W) 8 AE.jF v l:=by
 obtain⟨a0,Bq,Br,rfl⟩:=okWide_slice Tryd.underlying29 aC;obtain⟨bq,h⟩:=h;rcases Deep.open_slice Tryd.underlying29 h with ⟨fT,_⟩|⟨a,len,cap,m,n,zI,jq,fT,af,hl,hm,sT,aq,ai⟩
 ·have e:Value.slice a0 Bq Br= .slice none 0 0:=(List.cons.inj (show [Value.slice a0 Bq Br]=[.slice none 0 0] from fT)).1
  rw[e];exact⟨[],.nil _ _⟩
 ·have e:Value.slice a0 Bq Br= .slice (some a) len cap:=(List.cons.inj (show [Value.slice a0 Bq Br]=[.slice (some a) len cap] from fT)).1
  rw[e];have r5:len<=m:=by rw[sT];split<;>omega
  have Bs:∀i,i<len->∃s:AE.cW,∀j u,(AE.jF s)[j]? =some u->W.cell? (a.add (i*8+j))=some u:=λi p6=>by
   obtain⟨cs',ar,aN⟩:=ai i aj;rw[Wl] at ar;obtain⟨s,rfl⟩:=afY aN;obtain⟨_,_,DF⟩:=World.cells?_some ar;refine⟨s,λj u hj=> ?_⟩;have Oy:j<8:=(List.getElem?_eq_some_iff.1 hj).1;rw[<-Deep.add_add,DF j Oy];exact hj
  let f:Nat->AE.cW:=λi=>if h:i<len then (Bs i h).choose else default
  have aR:∀i,i<len->∀j u,(AE.jF (f i))[j]? =some u->W.cell? (a.add (i*8+j))=some u:=λi p6=>by
   show ∀j u,(AE.jF (if h:i<len then (Bs i h).choose else default))[j]? =some u->_;rw[dif_pos p6];exact(Bs i p6).choose_spec
  refine⟨(List.range len).map f,?_⟩;rcases Nat.eq_zero_or_pos len with aL|aL
  ·subst aL
   exact .nil _ _
  ·have n4:=aR 0 aL 0 _ rfl
   obtain⟨bn,off,spot⟩:=a;have Oz:∃cs ty fr,W.heap[bn]? =some (.cells cs ty fr)/\spot=none:=by
    unfold World.cell? at n4;split at n4
    ·rename_i hA t1 f1 mc
     split at n4
     ·cases n4
     ·rename_i j0
      refine⟨hA,t1,f1,mc,?_⟩;cases spot with
      |none=>rfl
      |some x=>exact absurd rfl j0
    ·cases n4
   obtain⟨cs,ty,fr,jW,rfl⟩:=Oz;have hlen:((List.range len).map f).length=len:=by simp
   have key:AE.cE (AE.aE W) 8 AE.jF (.slice (some ⟨bn,off,none⟩) ((List.range len).map f).length cap) ((List.range len).map f):=by
    refine .mk (cs:=cs) (ty:=ty) (fr:=fr) jW (by rw[hlen];exact hl) λi x aq j u hj=> ?_
    have p6:i<len:=by
     have:=(List.getElem?_eq_some_iff.1 aq).1
     rwa [hlen] at this
    have OA:x=f i:=by
     rw[List.getElem?_map,List.getElem?_range p6] at aq;exact(Option.some.inj aq).symm
    subst OA;have:=aR i p6 j u hj;rw[AE.Addr.kz,cell_of_row W _ _ _ _ _ jW,<-Nat.add_assoc] at this;exact this
   rw[hlen] at key;exact key
end
theorem af0 {W:ax} {l:List (String×DataW Unit)} (h:laidMetH Tryd.prog l W) (hl:(l.filter λx=>x.1== "voxel/material.kinds")=[("voxel/material.kinds",Rows.laid_voxel_material_kinds)]):AE.mJ (AE.aE W):=by
 have ad:=laidMetH.filter (λx=>x.1== "voxel/material.kinds") h;rw[hl,MakeChecks.laidMetH_plain _ _ _ au] at ad;obtain⟨ps,⟨g,t,cs,bq,p,q,aA,aN,aC,bg,_,_⟩,_,_⟩:=ad;obtain rfl:=Option.some.inj ((show Tryd.prog.globalNamed "voxel/material.kinds"=some 0 by kernel_rfl).symm.trans aA);obtain rfl:=Option.some.inj ((show (Tryd.prog.globals[0]?).map (·.type)=some 151 by kernel_rfl).symm.trans aN);obtain⟨xs,m,_,ex,hlen,Bo,aR⟩:=DataW.trod_array Tryd.underlying151 bg;rw[afV] at hlen
 match xs,Bo with
 |[fN,eJ,gR,hh],_=>
  have e3:=DataW.agg.inj (Prod.mk.inj ex).1;simp only [List.map_cons,List.map_nil,List.cons.injEq,and_true] at e3;obtain⟨eI,g1,g2,g3⟩:=e3;have ez:=aR 0 aj;have de:=aR 1 aj;have dv:=aR 2 aj;have vM:=aR 3 aj;rw[Wn] at ez de dv vM;have e0:=JV ez eI.symm;have e1:=JV de g1.symm;have e2:=JV dv g2.symm;have e3:=JV vM g3.symm;have fT:cs.toList=AE.JU:=by
   match cs.toList,hlen,e0,e1,e2,e3 with
   |[a0,eG,a2,a3,a4,T5,T6,T7,aoX,a9,aa,ab,ac,hf,aoY,aoZ],_,e0,e1,e2,e3=>
    simp only [Nat.zero_mul,Nat.one_mul,Nat.reduceMul,List.drop_zero,List.drop_succ_cons,List.take_succ_cons,List.take_zero,List.cons.injEq,and_true] at e0 e1 e2 e3;obtain⟨rfl,rfl,rfl,rfl⟩:=e0;obtain⟨rfl,rfl,rfl,rfl⟩:=e1;obtain⟨rfl,rfl,rfl,rfl⟩:=e2;obtain⟨rfl,rfl,rfl,rfl⟩:=e3;rfl
  unfold World.var? at aC;rw[aA] at aC;simp only [Option.bind_some] at aC;split at aC
  ·rename_i cs' ty fr af
   cases aC;refine⟨ty,fr,?_⟩;show W.heap[0]? =_;rw[af,<-fT]
  ·cases aC
end
end Go.Proofs.YtepcfjbfkedlpaaDoor
namespace Go.Proofs.YtepcfjbfkedlpaaDoor
open Go Go.RowKit
namespace AE
def sg:Nat->List fG->List MapEntry
 |_,[]=>[]
 |i,n::r=>{key:=cD n,val:= .bool true,born:=i}::sg (i+1) r
theorem Wp:∀(i:Nat) (l:List fG) (n:fG),sg i (l++[n])=sg i l++[{key:=cD n,val:= .bool true,born:=i+l.length}]
 |i,[],n=>by simp [sg]
 |i,x::r,n=>by
  simp only [List.cons_append,sg,Wp (i+1) r n,List.length_cons];rw[show i+1+r.length=i+(r.length+1) by omega]
def uJ (B:Nat) (M:Mem) (v:J) (ns:List fG):Prop:=∃b,v= .map (some b)/\B<=b/\M b=some (.map ⟨sg 0 ns⟩ ns.length)
def OB:J->Option Nat
 | .map b=>b
 |_=>none
theorem uJ.known {B:Nat} {M:Mem} {v:J} {ns:List fG} (h:uJ B M v ns):∀i,some i=OB v->M i≠none/\B<=i:=by
 obtain⟨b,rfl,ad,ag⟩:=h;intro i ai;cases ai;exact⟨by rw[ag];simp,ad⟩
theorem Wq (a b:fG):Instr.sameNow .string (cD a) (cD b)=some (decide (a=b)):=by
 show some ((⟨a.toArray⟩:ByteArray)==⟨b.toArray⟩)=_;congr 1;rw[Bool.eq_iff_iff];show (a.toArray==b.toArray)=true↔_;simp
theorem Wr {n:fG}:∀{ns:List fG} (i j:Nat),n∈ns->∃q,Instr.findNow .string (cD n) (sg i ns) j=some (some (q,.bool true))
 |[],_,_,h=>by cases h
 |x::r,i,j,h=>by
  unfold sg Instr.findNow;simp only [Wq];by_cases aq:n=x
  ·rw[eC aq]
   exact⟨j,rfl⟩
  ·rw[cy aq]
   exact Wr (i+1) (j+1) ((List.mem_cons.1 h).resolve_left aq)
theorem Ws {n:fG}:∀{ns:List fG} (i j:Nat),n∉ns->Instr.findNow .string (cD n) (sg i ns) j=some none
 |[],_,_,_=>rfl
 |x::r,i,j,h=>by
  unfold sg Instr.findNow;simp only [Wq];rw[cy (λe=>h (by rw[e];exact List.mem_cons_self))];exact Ws (i+1) (j+1) λga=>h (List.mem_cons_of_mem _ ga)
section
variable {P:aS} {hq:aK} {n:fG} {ns:List fG}
theorem af1 (al:bk P (underlying hq)=some .string) (h:n∈ns) (w:ax):∃q,(Instr.findKey hq (cD n) (sg 0 ns)).run P w= .ok (some (q,.bool true)) w:=by
 obtain⟨q,bf⟩:=Wr (ns:=ns) 0 0 h;refine⟨q,?_⟩;unfold Instr.findKey;refine c9 al ?_;rw[bf];rfl
theorem Wt (al:bk P (underlying hq)=some .string) (h:n∉ns) (w:ax):(Instr.findKey hq (cD n) (sg 0 ns)).run P w= .ok none w:=by
 have bf:=Ws (ns:=ns) 0 0 h;unfold Instr.findKey;refine c9 al ?_;rw[bf];rfl
variable [a7]
theorem aV.af2 {t DG:aK} {x i:J} {u:J} {B:Nat} (aq:aM x=true) (ai:aM i=true) (aN:bk P (underlying t)=some (.map hq DG)) (al:bk P (underlying hq)=some .string) (nG:∀b n,bk P (Instr.checkKey b 10000 hq (cD n))=some ()) (cO:uJ B a7.dn u ns)
  (ex:aJ x=u) (hE:aJ i=cD n) (h:n∈ns):aV P (.mB t x i false,.bool true):=by
 obtain⟨b,rfl,_,af⟩:=cO;refine Dz (by simp [oy,aq,ai]) U U λeb ec w hw=> ?_
 show (gn eb ec (.mB t (aJ x) (aJ i) false)).run P w=_;obtain⟨q,bf⟩:=af1 (P:=P) al h w;have:=IN (P:=P) (w:=w) (z:=undef) (ok:=false) (.inr ⟨b,ns.length,rfl,hw _ _ af⟩) aN (nG _ n) bf (λh=>by cases h);rw[ex,hE];unfold gn;simp only [Sem.run_bind,this,Result.andThen_ok];rfl
theorem aV.af3 {t DG:aK} {x i:J} {u:J} {B:Nat} (aq:aM x=true) (ai:aM i=true) (aN:bk P (underlying t)=some (.map hq DG)) (al:bk P (underlying hq)=some .string) (bW:bk P (zeroValue DG)=some (.bool false)) (nG:∀b n,bk P (Instr.checkKey b 10000 hq (cD n))=some ()) (cO:uJ B a7.dn u ns)
  (ex:aJ x=u) (hE:aJ i=cD n) (h:n∉ns):aV P (.mB t x i false,.bool false):=by
 obtain⟨b,rfl,_,af⟩:=cO;refine Dz (by simp [oy,aq,ai]) U U λeb ec w hw=> ?_
 show (gn eb ec (.mB t (aJ x) (aJ i) false)).run P w=_;have:=IN (P:=P) (w:=w) (z:= .bool false) (ok:=false) (.inr ⟨b,ns.length,rfl,hw _ _ af⟩) aN (nG _ n) (Wt (P:=P) al h w) (λ_=>bW);rw[ex,hE];unfold gn;simp only [Sem.run_bind,this,Result.andThen_ok];rfl
end
def OC:Option b1->Option aK
 |some (.oper o _ ops s _)=>match o.op with
  | .makeMap t none=>match q_ ops o s.sl with
    |some true=>some t
    |_=>none
  |_=>none
 |_=>none
theorem af4 [cV] {P:aS} {N B:Nat} {w0:ax} {Q:Exit->Act->ax->Prop} {M:Mem} {bs:List J} {o:Option b1} {t:aK} {eO:J} {bm:Nat->List J} {ef dK:aF} {a1:List bx} {bN:eH} {ns:List fG}
  (gb:ns=[]) (h:OC o=some t) (dg:cr (b9 o) ef a1=some bN) (eL:g' N ef (kc o) eO=some dK) (fD:aM eO=true)
  (hm:∀M' g,fO (aX M bs) (aX M' (bm g)) bN) (aC:∀M' g,@aJ (aX M' (bm g)) eO= .map (some g))
  (rest:∀M' g,uJ B M' (.map (some g)) ns->h8 M M' none->∀a6 w,@Here (aX M' (bm g)) _ N {sl:=dK,ms:=[],A:=da a1} B w0 a6 w->wpListIn (Fr none) 0 P (kP o) (d' P (gC o) Q) (kO o) a6 w)
  (av:cV.ev<=a1.length:=by first|exact Nat.zero_le _|exact gI rfl) (ar:ix (b9 o).A a1 0:=by exact gW rfl): @fA (aX M bs) _ P N B w0 Q o:=by
 subst gb;letI:=aX M bs;unfold OC at h;split at h
 ·rename_i op r ops s ks
  refine⟨_,rfl,λa w ah=> ?_⟩;split at h
  ·rename_i dr cz
   split at h
   ·rename_i jP
    cases h;have hF:=ah;obtain⟨⟨φ,ds,ad,ag,ay,bG,_⟩,cJ,cU⟩:=ah;unfold wpListIn;rw[py ag.get jP,aY rfl];have hw:∀i o,M i=some o->w.heap[i]? =some o:=hF.nY
    let w':ax:={w with heap:=w.heap.push (.map #[] 0)}
    have fy:(execOp a.eval op).run P w= .ok (.value (.map (some w.heap.size))) w':=by
     unfold execOp;rw[cz];rfl
    have fB:∀c',op.op≠.defer c':=λc' h=>by rw[cz] at h;cases h
    refine⟨λ_ _=>trivial,?_⟩;rw[Oper.semAt_eq _ _ _ fB,fy,Oper.uponIn_value];obtain⟨q1,aH⟩:=qK (B:=B) (M:=M) (w:=w) (w':=w') (T:=none) (bt:=some w.heap.size) hw (λi h=>by cases h) (λi ai=> .inr (by cases ai;exact ch _)) ⟨rfl,rfl,rfl⟩ (ch _) (by simp [w']) (λi ai _=>by
     show (w.heap.push _)[i]? =_
     rw[Array.getElem?_push,a_ aj])
    have cO:uJ B (h9 M w' none (some w.heap.size)) (.map (some w.heap.size)) []:=by
     refine⟨_,rfl,cU,?_⟩;unfold h9;rw[aY rfl];show (w.heap.push _)[w.heap.size]? =_;rw[Array.getElem?_push,aY rfl];rfl
    have hV:=Here.turns (vals':=bm w.heap.size) dg (hm _ _) q1 av ar hF;letI:=aX (h9 M w' none (some w.heap.size)) (bm w.heap.size);have lX:=Here.put (d:=op.dst) hV (v:=eO) fD eL;rw[aC] at lX;exact rest _ _ cO aH _ w' lX
   ·cases h
  ·cases h
 ·cases h
def OD:Option b1->Option (aK×J×J×J)
 |some (.oper o _ ops s _)=>match o.op with
  | .mapUpdate t m k x=>match q_ ops o s.sl with
    |some true=>some (t,dH .nil s.sl m,dH .nil s.sl k,dH .nil s.sl x)
    |_=>none
  |_=>none
 |_=>none
theorem af5 [cV] {P:aS} {N B:Nat} {w0:ax} {Q:Exit->Act->ax->Prop} {M:Mem} {bs bm:List J} {o:Option b1} {t hq DG:aK} {m k u:J} {n:fG} {ns ns':List fG} {ef dK:aF} {a1:List bx} {bN:eH}
  (gb:ns'=ns++[n]) (h:OD o=some (t,m,k,.bool true)) (aN:bk P (underlying t)=some (.map hq DG)) (al:bk P (underlying hq)=some .string) (nG:∀b n,bk P (Instr.checkKey b 10000 hq (cD n))=some ())
  (dg:cr (b9 o) ef a1=some bN) (eL:g' N ef (kc o) undef=some dK) (hp:aM m=true) (aq:aM k=true) (em: @aJ (aX M bs) m=u) (OE: @aJ (aX M bs) k=cD n)
  (cO:uJ B M u ns) (gJ:n∉ns) (hm:∀M',fO (aX M bs) (aX M' bm) bN)
  (rest:∀M',uJ B M' u ns'->h8 M M' (OB u)->∀a6 w,@Here (aX M' bm) _ N {sl:=dK,ms:=[],A:=da a1} B w0 a6 w->wpListIn (Fr none) 0 P (kP o) (d' P (gC o) Q) (kO o) a6 w)
  (av:cV.ev<=a1.length:=by first|exact Nat.zero_le _|exact gI rfl) (ar:ix (b9 o).A a1 0:=by exact gW rfl): @fA (aX M bs) _ P N B w0 Q o:=by
 subst gb;letI:=aX M bs;unfold OD at h;split at h
 ·rename_i op r ops s ks
  refine⟨_,rfl,λa w ah=> ?_⟩;split at h
  ·rename_i dr Wu si hg cz
   split at h
   ·rename_i jP
    simp only [cQ,Prod.mk.injEq] at h;obtain⟨rfl,rfl,rfl,hD⟩:=h;have hF:=ah;obtain⟨⟨φ,ds,ad,ag,ay,bG,_⟩,cJ,cU⟩:=ah;unfold wpListIn;rw[py ag.get jP,aY rfl];have es:a.eval Wu=u:=(aD.jj _ hp (gU (iG φ) ag.get Wu)).trans em;have o4:a.eval si=cD n:=(aD.jj _ aq (gU (iG φ) ag.get si)).trans OE;have af6:a.eval hg= .bool true:=by
     have xN:=gU (iG φ) ag.get hg;rw[hD] at xN;exact aD.jj _ rfl xN
    have hw:∀i o,M i=some o->w.heap[i]? =some o:=hF.nY;obtain⟨b,rfl,cX,af⟩:=cO;have aA:=hw _ _ af
    let o':Obj:= .map ⟨sg 0 (ns++[n])⟩ (ns++[n]).length
    let w':ax:={w with heap:=w.heap.setIfInBounds b o'}
    have fK:Obj.map ((⟨sg 0 ns⟩:Array MapEntry).push {key:=cD n,val:= .bool true,born:=ns.length}) (ns.length+1)=o':=by
     show _=Obj.map _ _;rw[Wp,List.length_append,Nat.zero_add];simp
    have fy:(execOp a.eval op).run P w= .ok .skip w':=by
     unfold execOp;rw[cz];simp only [es,o4,af6];show (do Instr.mapUpdate dr (.map (some b)) (cD n) (.bool true);pure Next.skip:Sem Next).run P w=_;have c0:(Instr.mapUpdate dr (.map (some b)) (cD n) (.bool true)).run P w= .ok () w':=by
      unfold Instr.mapUpdate;refine c9 aN ?_;simp only;refine dm (r7 aA (by simp)) ?_;simp only;refine c9 (nG _ n) ?_;refine dm (Wt al gJ w) ?_;simp only;rw[fK];exact xX aA (by simp)
     simp only [Sem.run_bind,c0,Result.andThen_ok];rfl
    have fB:∀c',op.op≠.defer c':=λc' h=>by rw[cz] at h;cases h
    refine⟨λ_ _=>trivial,?_⟩;rw[Oper.semAt_eq _ _ _ fB,fy,Oper.uponIn_skip];have af7:b<w.heap.size:=(Array.getElem?_eq_some_iff.1 aA).1;obtain⟨q1,aH⟩:=qK (B:=B) (M:=M) (w:=w) (w':=w') (T:=some b) (bt:=some b) hw (λi ai=>by cases ai;exact⟨by rw[af];simp,cX⟩) (λi ai=> .inl ai) ⟨rfl,rfl,rfl⟩ (ch _) (by simp [w']) (λi ai c1=>by
     show (w.heap.setIfInBounds b o')[i]? =_
     rw[Array.getElem?_setIfInBounds,a_ (λe=>c1 (by rw[e]))])
    have cO:uJ B (h9 M w' (some b) (some b)) (.map (some b)) (ns++[n]):=by
     refine⟨_,rfl,cX,?_⟩;unfold h9;rw[aY rfl];show (w.heap.setIfInBounds b o')[b]? =_;rw[Array.getElem?_setIfInBounds,aY rfl,aY af7]
    have hV:=Here.turns (vals':=bm) dg (hm _) q1 av ar hF;letI:=aX (h9 M w' (some b) (some b)) bm;exact rest _ cO aH _ w' (Here.put (d:=op.dst) hV (v:=undef) rfl eL)
   ·cases h
  ·cases h
 ·cases h
theorem h8.map {B:Nat} {M M':Mem} {T:Option Nat} {v:J} {l:List fG} (al:h8 M M' T) (h:uJ B M v l) (c1:∀i,some i=OB v->some i≠T):uJ B M' v l:=by
 obtain⟨b,rfl,ad,ag⟩:=h;exact⟨b,rfl,ad,al _ _ ag (c1 b rfl)⟩
end AE
namespace AE
def sj (P:aS) [Lib P] (o:Option b1):FuncId×List J×a8:=(vH P o).getD (0,[],start)
end AE
namespace AE
structure DH (B:Nat) (M M':Mem) (S:Nat->Prop) (w w':ax):Prop where
 known:∀i,S i->M i≠none/\B<=i
 os:w'.os=w.os
 tape:w'.tape=w.tape
 output:w'.output=w.output
 size:w.heap.size<=w'.heap.size
 block:∀i,i<w.heap.size->¬S i->w'.heap[i]? =w.heap[i]?
 dn:∀i o,M' i=some o->w'.heap[i]? =some o/\(M i≠none\/w.heap.size<=i\/i<B)
def Bt (M M':Mem) (S:Nat->Prop):Prop:=∀i o,M i=some o->¬S i->M' i=some o
theorem Bt.up {B:Nat} {W:ax} {M M':Mem} {S:Nat->Prop} (al:Bt M M' S) (cX:∀i,S i->B<=i) (afl:W.heap.size<=B) (bw:∀i o,aE W i=some o->M i=some o):∀i o,aE W i=some o->M' i=some o:=λi o h=>
 al i o (bw i o h) λai=>by
  have ad:=cX i ai;have ag:=(Array.getElem?_eq_some_iff.1 (show W.heap[i]? =some o from h)).1;omega
theorem Bt.own {α:Type} {B:Nat} {M M':Mem} {S:Nat->Prop} {e:aK} {k:Nat} {enc:α->List J} {v:J} {l:List α} (al:Bt M M' S) (h:dw B M e k enc v l) (c1:∀i,some i=eP v->¬S i):dw B M' e k enc v l:=
 h.mono (ch _) λi ai o ho=>al i o ho (c1 i ai)
theorem Here.OF [cV] {M M':Mem} {bs vals':List J} {S:Nat->Prop} {N B:Nat} {st:b8} {w0 w w':ax} {a:Act} {sl:aF} {l:List bx} {bN:eH} (dg:cr st sl l=some bN) (hm:fO (aX M bs) (aX M' vals') bN) (aN:DH B M M' S w w') (av:cV.ev<=l.length) (ar:ix st.A l 0)
  (ah: @Here (aX M bs) _ N st B w0 a w): @Here (aX M' vals') _ N {sl,ms:=[],A:=da l} B w0 a w':=
 Here.Bb S dg hm (λi ai=>aN.known i ai) ⟨aN.os,aN.tape,aN.output,ch _⟩ aN.size (λi ai aC=>aN.block i ai aC) (λi o ai=>aN.dn i o ai) av ar ah
def yu (B:Nat) (M:Mem) (w w':ax):Mem:=λi=>if (M i).isSome=true\/w.heap.size<=i\/i<B then w'.heap[i]? else none
theorem OG {B:Nat} {M:Mem} {w w':ax} {i:Nat} (h:(M i).isSome=true\/w.heap.size<=i\/i<B):yu B M w w' i=w'.heap[i]? :=by unfold yu;rw[aY h]
theorem Wv {B:Nat} {M:Mem} {S:Nat->Prop} {w w':ax} (hw:∀i o,M i=some o->w.heap[i]? =some o) (aI:∀i,S i->M i≠none/\B<=i) (uG:w'.os=w.os/\w'.tape=w.tape/\w'.output=w.output) (cv:w.heap.size<=w'.heap.size)
  (af:∀i,i<w.heap.size->¬S i->w'.heap[i]? =w.heap[i]?):DH B M (yu B M w w') S w w'/\Bt M (yu B M w w') S:=by
 refine⟨⟨aI,uG.1,uG.2.1,uG.2.2,cv,af,λi o ai=> ?_⟩,λi o ai aC=> ?_⟩
 ·unfold yu at ai
  split at ai
  ·rename_i h
   refine⟨ai,?_⟩;rcases h with h|h|h
   ·exact .inl λag=>by rw[ag] at h;cases h
   ·exact .inr (.inl h)
   ·exact .inr (.inr h)
  ·cases ai
 ·rw[OG (.inl (by rw[ai];rfl)),af i (Array.getElem?_eq_some_iff.1 (hw i o ai)).1 aC]
  exact hw i o ai
theorem zJ {M:Mem} {w:ax} (hw:∀i o,M i=some o->w.heap[i]? =some o) {i:Nat} (h:w.heap.size<=i):M i=none:=by
 cases ai:M i with
 |none=>rfl
 |some o=>
  have:=(Array.getElem?_eq_some_iff.1 (hw i o ai)).1;omega
theorem gD [a7] {P:aS} (n:Int):aV P (.ea (.int .i64 n),.int .i64 n):=
 JE U U U λ_ _ _=>rfl
def FK:Option b1->Option aK
 |some (.oper o _ ops s _)=>match o.op with
  | .alloc t=>match q_ ops o s.sl with
    |some true=>some t
    |_=>none
  |_=>none
 |_=>none
theorem OH [cV] {P:aS} {N B:Nat} {w0:ax} {Q:Exit->Act->ax->Prop} {M:Mem} {bs:List J} {o:Option b1} {t:aK} {z eO:J} {bm:Nat->List J} {ef dK:aF} {a1:List bx} {bN:eH}
  (h:FK o=some t) (bW:bk P (zeroValue t)=some z) (dg:cr (b9 o) ef a1=some bN) (eL:g' N ef (kc o) eO=some dK) (fD:aM eO=true)
  (hm:∀M' g,fO (aX M bs) (aX M' (bm g)) bN) (aC:∀M' g,@aJ (aX M' (bm g)) eO= .pointer (some ⟨g,0,none⟩))
  (rest:∀M' g,B<=g->M g=none->M' g=some (.cells z.cells t (0,0))->h8 M M' none->∀a6 w,@Here (aX M' (bm g)) _ N {sl:=dK,ms:=[],A:=da a1} B w0 a6 w->wpListIn (Fr none) 0 P (kP o) (d' P (gC o) Q) (kO o) a6 w)
  (av:cV.ev<=a1.length:=by first|exact Nat.zero_le _|exact gI rfl) (ar:ix (b9 o).A a1 0:=by exact gW rfl): @fA (aX M bs) _ P N B w0 Q o:=by
 letI:=aX M bs;unfold FK at h;split at h
 ·rename_i op r ops s ks
  refine⟨_,rfl,λa w ah=> ?_⟩;split at h
  ·rename_i dr cz
   split at h
   ·rename_i jP
    cases h;have hF:=ah;obtain⟨⟨φ,ds,ad,ag,ay,bG,_⟩,cJ,cU⟩:=ah;unfold wpListIn;rw[py ag.get jP,aY rfl];have hw:∀i o,M i=some o->w.heap[i]? =some o:=hF.nY
    let w':ax:={w with heap:=w.heap.push (.cells z.cells t)}
    have fy:(execOp a.eval op).run P w= .ok (.value (.pointer (some ⟨w.heap.size,0,none⟩))) w':=by
     unfold execOp;rw[cz];show (do pure (Next.value (<-Instr.alloc t true (.tuple #[]))):Sem Next).run P w=_;have ha:(Instr.alloc t true (.tuple #[])).run P w= .ok (.pointer (some ⟨w.heap.size,0,none⟩)) w':=by
      unfold Instr.alloc;refine c9 bW ?_;simp [newVar,newRow,newObj,Sem.run,w']
     simp only [Sem.run_bind,ha,Result.andThen_ok];rfl
    have fB:∀c',op.op≠.defer c':=λc' h=>by rw[cz] at h;cases h
    refine⟨λ_ _=>trivial,?_⟩;rw[Oper.semAt_eq _ _ _ fB,fy,Oper.uponIn_value];obtain⟨q1,aH⟩:=qK (B:=B) (M:=M) (w:=w) (w':=w') (T:=none) (bt:=some w.heap.size) hw (λi h=>by cases h) (λi ai=> .inr (by cases ai;exact ch _)) ⟨rfl,rfl,rfl⟩ (ch _) (by simp [w']) (λi ai _=>by
     show (w.heap.push _)[i]? =_
     rw[Array.getElem?_push,a_ aj])
    have cO:h9 M w' none (some w.heap.size) w.heap.size=some (.cells z.cells t (0,0)):=by
     unfold h9;rw[aY rfl];show (w.heap.push _)[w.heap.size]? =_;rw[Array.getElem?_push,aY rfl]
    have hV:=Here.turns (vals':=bm w.heap.size) dg (hm _ _) q1 av ar hF;letI:=aX (h9 M w' none (some w.heap.size)) (bm w.heap.size);have lX:=Here.put (d:=op.dst) hV (v:=eO) fD eL;rw[aC] at lX;exact rest _ _ cU (zJ hw (ch _)) cO aH _ w' lX
   ·cases h
  ·cases h
 ·cases h
def kS (P:aS) [Lib P] (o:Option b1):b8:={b9 o with A:=(sj P o).2.2}
theorem af8 [a7] [cV] {P:aS} [Lib P] {N B:Nat} {w0:ax} {Q:Exit->Act->ax->Prop} {o:Option b1} {f:FuncId} {args:List J} {R:ax->J->ax->Prop} (h:(vH P o).isSome=true) (aR:(sj P o).1=f) (ha:(sj P o).2.1=args) (hp:dM args=true)
  (fC:∀a w,Here N (kS P o) B w0 a w->Calls P f ⟨ep args⟩ w λe w'=>∃v,e= .returned v/\R w v w')
  (cC:∀a w v w',Here N (kS P o) B w0 a w->R w v w'->wpListIn (Fr none) 0 P (kP o) (d' P (gC o) Q) (kO o) (a.put (kc o) v) w'):fA P N B w0 Q o:=by
 have bg:=afj (d:=(0,[],start)) h
 change vH P o=some (sj P o) at bg
 generalize he:sj P o=d at bg aR ha;obtain⟨f0,OI,bH⟩:=d;simp only at aR ha;subst aR ha;have uk:kS P o={b9 o with A:=bH}:=by unfold kS;rw[he]
 rw[uk] at fC cC;unfold vH at bg;split at bg
 ·rename_i op r ops s ks
  split at bg
  ·rename_i hw
   split at bg
   ·rename_i iQ gx ao0 ha
    cases bg;refine⟨_,rfl,λa w ah=> ?_⟩;obtain⟨⟨φ,ds,ad,ag,ay,bG,fR⟩,cJ,cU⟩:=ah;unfold wpListIn;rw[py ag.get hw,aY rfl];obtain⟨gO,w1,n,g1,g2,g3⟩:=UW ay (gU (iG φ) ag.get) ha;refine⟨λ_ _=>trivial,?_⟩;letI:ej P:=⟨[]⟩;have af9:C0 P (dH .nil s.sl) s.A op=some (.enter f0 OI,bH):=ha;rw[Oper.semAt_eq _ _ _ (I1 af9),g1];obtain⟨Ww,rfl,gM⟩:=g2;rw[Oper.uponIn_enter];refine⟨λh=>absurd h (by simp [Fr,Fence.wide]),?_⟩;obtain⟨de,dv⟩:=Dk bG g3 cU;have af':Ww=⟨ep OI⟩:=by
     obtain⟨q1,aH⟩:=gM;obtain⟨u⟩:=Ww;rw[aD.x1 OI u hp (by simpa using q1.symm) (λi ai=>by simpa using aH i ai)]
    subst af';have lW:Here N {b9 (some (.oper op r ops s ks)) with A:=bH} B w0 a w1:=⟨⟨gO,ds,ad.mono (g3.ext ay),ag.mono (g3.ext ay),g3.rel,de,fR.step g3⟩,cJ.trans dv,Nat.le_trans cU g3.gN⟩;refine CallsIn.mono (C3 (fC a w1 lW)) λe w2 he=> ?_
    obtain⟨v,rfl,jE⟩:=he;exact cC a w1 v w2 lW jE
   ·cases bg
  ·cases bg
 ·cases bg
theorem af_ [cV] {P:aS} [Lib P] {N B:Nat} {w0:ax} {Q:Exit->Act->ax->Prop} {M:Mem} {bs:List J} {o:Option b1} {f:FuncId} {args:List J} {eO:J} {Y:Type} {bm:Y->List J} {ef dK:aF} {a1:List bx} {bN:eH} {S:Nat->Prop} {R:Y->Mem->Prop}
  (h:(vH P o).isSome=true) (aR:(sj P o).1=f) (ha:(sj P o).2.1=args) (hp:dM args=true) (dg:cr (kS P o) ef a1=some bN) (eL:g' N ef (kc o) eO=some dK) (fD:aM eO=true)
  (fC:∀w,(∀i o,M i=some o->w.heap[i]? =some o)->B<=w.heap.size->Calls P f ⟨@ep (aX M bs) args⟩ w λe w'=>∃y M',e= .returned (@aJ (aX M' (bm y)) eO)/\R y M'/\DH B M M' S w w')
  (hm:∀M' y,R y M'->fO (aX M bs) (aX M' (bm y)) bN)
  (rest:∀M' y,R y M'->∀a6 w,@Here (aX M' (bm y)) _ N {sl:=dK,ms:=[],A:=da a1} B w0 a6 w->wpListIn (Fr none) 0 P (kP o) (d' P (gC o) Q) (kO o) a6 w)
  (av:cV.ev<=a1.length:=by first|exact Nat.zero_le _|exact gI rfl) (ar:ix (kS P o).A a1 0:=by exact gW rfl): @fA (aX M bs) _ P N B w0 Q o:=by
 letI:=aX M bs;refine af8 (R:=λw v w'=>∃y M',v= @aJ (aX M' (bm y)) eO/\R y M'/\DH B M M' S w w') h aR ha hp (λa w ah=>(fC w ah.nY ah.size).mono λe w' he=> ?_) λa w v w' ah jE=> ?_
 ·obtain⟨y,M',rfl,ad,ag⟩:=he
  exact⟨_,rfl,y,M',rfl,ad,ag⟩
 ·obtain⟨y,M',rfl,ad,ag⟩:=jE
  have hV:=Here.OF (vals':=bm y) dg (hm M' y ad) ag av ar ah;exact rest M' y ad _ w' (@Here.put (aX M' (bm y)) _ _ _ _ _ _ _ _ _ _ hV fD eL)
end AE
namespace AE
def jr (B:Nat) (M:Mem) (v:J) (ty:aK) (cs:List J):Prop:=∃g,v= .pointer (some ⟨g,0,none⟩)/\B<=g/\M g=some (.cells ⟨cs⟩ ty (0,0))
theorem jr.known {B g:Nat} {M:Mem} {ty:aK} {cs:List J} (h:jr B M (.pointer (some ⟨g,0,none⟩)) ty cs):M g=some (.cells ⟨cs⟩ ty (0,0))/\B<=g:=by
 obtain⟨afP,e,ad,ag⟩:=h;cases e;exact⟨ag,ad⟩
theorem jr.ptr {B:Nat} {M:Mem} {v:J} {ty:aK} {cs:List J} (h:jr B M v ty cs):∃g,v= .pointer (some ⟨g,0,none⟩):=by
 obtain⟨g,e,_⟩:=h;exact⟨g,e⟩
theorem h8.box {B g:Nat} {M M':Mem} {T:Option Nat} {ty:aK} {cs:List J} (al:h8 M M' T) (h:jr B M (.pointer (some ⟨g,0,none⟩)) ty cs) (c1:∀i,some i=T->some i≠some g):jr B M' (.pointer (some ⟨g,0,none⟩)) ty cs:=
 ⟨g,rfl,h.known.2,al _ _ h.known.1 λe=>c1 g e rfl⟩
theorem cE.kept {α:Type} {M M':Mem} {T:Option Nat} {k:Nat} {enc:α->List J} {a:Option Addr} {n c:Nat} {l:List α} (al:h8 M M' T) (h:cE M k enc (.slice a n c) l) (c1:∀p,a=some p->some p.block≠T):cE M' k enc (.slice a n c) l:=by
 cases h with
 |nil a c=>exact .nil a c
 |mk af ar h=>exact .mk (al _ _ af (c1 _ rfl)) ar h
section
variable [a7] {P:aS}
theorem aV.Wx {B g j:Nat} {ty t:aK} {cs:List J} {p r u:J} (cO:jr B a7.dn (.pointer (some ⟨g,0,none⟩)) ty cs) (hj:cs[j]? =some u) (hp:aM p=true) (ao:aM r=true) (ha:bk P (isAgg t)=some false) (ml:aJ p= .pointer (some ⟨g,j,none⟩)) (ca:aJ r=u):aV P (.bB t p,r):=
 aV.VW hp ao ha ml (λw hw=>by
  have:=hw _ _ cO.known.1;simp only [World.cell?,this]
  simpa using hj) ca
theorem aV.Wy {x r:J} {a:Addr} (aq:aM x=true) (ao:aM r=true) (ex:aJ x= .pointer (some a)) (ca:aJ r= .pointer (some a)):aV P (.dN x,r):=
 JE (by simpa [oy] using aq) ao rfl λeb ec w=>by
  show (gn eb ec (.dN (aJ x))).run P w=_;rw[ex,ca];rfl
theorem aV.Wz {s:aK} {x r:J} {f g o ty off m:Nat} (aR:((P.fieldsOf s)[f]?).map (λf=>(f.type,f.offset))=some (ty,off)) (aw:bk P (underlying s)=some (.struct (P.fieldsOf s))) (hm:bk P (sizeOf ty)=some m) (aL:m≠0) (aq:aM x=true) (ao:aM r=true)
  (ex:aJ x= .pointer (some ⟨g,o,none⟩)) (ca:aJ r= .pointer (some ⟨g,o+off,none⟩)):aV P (.cq s x f,r):=by
 obtain⟨iv,ad,ag⟩:=Option.map_eq_some_iff.1 aR;cases ag;exact aV.cq aq ao aw ad hm aL ex ca
end
def uK:Option b1->Option (aK×J)
 |some (.oper o _ ops s _)=>match o.op with
  | .box t hg=>match q_ ops o s.sl with
    |some true=>some (t,dH .nil s.sl hg)
    |_=>none
  |_=>none
 |_=>none
theorem xe [cV] {P:aS} {N B:Nat} {w0:ax} {Q:Exit->Act->ax->Prop} {M:Mem} {bs:List J} {o:Option b1} {t:aK} {x u eO:J} {cs:List J} {bm:Nat->List J} {ef dK:aF} {a1:List bx} {bN:eH}
  (h:uK o=some (t,x)) (aq:aM x=true) (ex: @aJ (aX M bs) x=u) (fT:u.cells=⟨cs⟩) (dg:cr (b9 o) ef a1=some bN) (eL:g' N ef (kc o) eO=some dK) (fD:aM eO=true)
  (hm:∀M' g,fO (aX M bs) (aX M' (bm g)) bN) (aC:∀M' g,@aJ (aX M' (bm g)) eO= .pointer (some ⟨g,0,none⟩))
  (rest:∀M' g,M g=none->jr B M' (.pointer (some ⟨g,0,none⟩)) t cs->h8 M M' none->∀a6 w,@Here (aX M' (bm g)) _ N {sl:=dK,ms:=[],A:=da a1} B w0 a6 w->wpListIn (Fr none) 0 P (kP o) (d' P (gC o) Q) (kO o) a6 w)
  (av:cV.ev<=a1.length:=by first|exact Nat.zero_le _|exact gI rfl) (ar:ix (b9 o).A a1 0:=by exact gW rfl): @fA (aX M bs) _ P N B w0 Q o:=by
 letI:=aX M bs;unfold uK at h;split at h
 ·rename_i op r ops s ks
  refine⟨_,rfl,λa w ah=> ?_⟩;split at h
  ·rename_i dr hg cz
   split at h
   ·rename_i jP
    cases h;have hF:=ah;obtain⟨⟨φ,ds,ad,ag,ay,bG,_⟩,cJ,cU⟩:=ah;unfold wpListIn;rw[py ag.get jP,aY rfl];have o4:a.eval hg=u:=(aD.jj _ aq (gU (iG φ) ag.get hg)).trans ex;have hw:∀i o,M i=some o->w.heap[i]? =some o:=hF.nY
    let w':ax:={w with heap:=w.heap.push (.cells ⟨cs⟩ t)}
    have fy:(execOp a.eval op).run P w= .ok (.value (.pointer (some ⟨w.heap.size,0,none⟩))) w':=by
     unfold execOp;rw[cz];simp only [o4];show (do pure (Next.value (<-Instr.box t u)):Sem Next).run P w=_;have ha:(Instr.box t u).run P w= .ok (.pointer (some ⟨w.heap.size,0,none⟩)) w':=by
      unfold Instr.box newVar newRow;rw[fT];simp [newObj,Sem.run,w']
     simp only [Sem.run_bind,ha,Result.andThen_ok];rfl
    have fB:∀c',op.op≠.defer c':=λc' h=>by rw[cz] at h;cases h
    refine⟨λ_ _=>trivial,?_⟩;rw[Oper.semAt_eq _ _ _ fB,fy,Oper.uponIn_value];obtain⟨q1,aH⟩:=qK (B:=B) (M:=M) (w:=w) (w':=w') (T:=none) (bt:=some w.heap.size) hw (λi h=>by cases h) (λi ai=> .inr (by cases ai;exact ch _)) ⟨rfl,rfl,rfl⟩ (ch _) (by simp [w']) (λi ai _=>by
     show (w.heap.push _)[i]? =_
     rw[Array.getElem?_push,a_ aj])
    have cO:jr B (h9 M w' none (some w.heap.size)) (.pointer (some ⟨w.heap.size,0,none⟩)) t cs:=by
     refine⟨_,rfl,cU,?_⟩;unfold h9;rw[aY rfl];show (w.heap.push _)[w.heap.size]? =_;rw[Array.getElem?_push,aY rfl]
    have hV:=Here.turns (vals':=bm w.heap.size) dg (hm _ _) q1 av ar hF;letI:=aX (h9 M w' none (some w.heap.size)) (bm w.heap.size);have lX:=Here.put (d:=op.dst) hV (v:=eO) fD eL;rw[aC] at lX;exact rest _ _ (zJ hw (ch _)) cO aH _ w' lX
   ·cases h
  ·cases h
 ·cases h
theorem WA [cV] {P:aS} {N B:Nat} {w0:ax} {Q:Exit->Act->ax->Prop} {M:Mem} {bs bm:List J} {o:Option b1} {t ty:aK} {g j:Nat} {p x u:J} {cs cs':List J} {ef dK:aF} {a1:List bx} {bN:eH}
  (gb:cs'=cs.set j u) (h:nJ o=some (t,p,x)) (cv:bk P (sizeOf t)=some 1)
  (dg:cr (b9 o) ef a1=some bN) (eL:g' N ef (kc o) undef=some dK) (hp:aM p=true) (aq:aM x=true) (ml: @aJ (aX M bs) p= .pointer (some ⟨g,j,none⟩)) (ex: @aJ (aX M bs) x=u) (hu:u.cells= #[u]) (kd:u.oneCell'=true)
  (cO:jr B M (.pointer (some ⟨g,0,none⟩)) ty cs) (hj:j<cs.length) (hm:∀M',fO (aX M bs) (aX M' bm) bN)
  (rest:∀M',jr B M' (.pointer (some ⟨g,0,none⟩)) ty cs'->h8 M M' (some g)->∀a6 w,@Here (aX M' bm) _ N {sl:=dK,ms:=[],A:=da a1} B w0 a6 w->wpListIn (Fr none) 0 P (kP o) (d' P (gC o) Q) (kO o) a6 w)
  (av:cV.ev<=a1.length:=by first|exact Nat.zero_le _|exact gI rfl) (ar:ix (b9 o).A a1 0:=by exact gW rfl): @fA (aX M bs) _ P N B w0 Q o:=by
 subst gb;letI:=aX M bs;unfold nJ at h;split at h
 ·rename_i op r ops s ks
  refine⟨_,rfl,λa w ah=> ?_⟩;split at h
  ·rename_i dr oC hg cz
   split at h
   ·rename_i jP
    cases h;have hF:=ah;obtain⟨⟨φ,ds,ad,ag,ay,bG,_⟩,cJ,cU⟩:=ah;unfold wpListIn;rw[py ag.get jP,aY rfl];have es:a.eval oC= .pointer (some ⟨g,j,none⟩):=(aD.jj _ hp (gU (iG φ) ag.get oC)).trans ml;have o4:a.eval hg=u:=(aD.jj _ aq (gU (iG φ) ag.get hg)).trans ex;have hw:∀i o,M i=some o->w.heap[i]? =some o:=hF.nY;obtain⟨bw,cX⟩:=cO.known;have aA:=hw _ _ bw
    let fP:Array J:=(cs.take j++[u]++cs.drop (j+1)).toArray
    have fj:fP=⟨cs.set j u⟩:=by
     show (cs.take j++[u]++cs.drop (j+1)).toArray=_;rw[List.set_eq_take_append_cons_drop,aY hj];simp
    have xS:(storeCells ⟨g,j,none⟩ [u]).run P w= .ok () (w.setRow g fP):=by
     have:=run_storeCells_at P g j ty [u] 0 ⟨cs⟩ w aA (by simp only [List.length_cons,List.length_nil,List.size_toArray];omega) (λv aC=>by rw[List.mem_singleton.1 aC];exact kd);simpa only [Nat.add_zero,List.length_cons,List.length_nil] using this
    have fy:(execOp a.eval op).run P w= .ok .skip (w.setRow g fP):=by
     unfold execOp;rw[cz];simp only [es,o4];show (do Instr.storeAt t (.pointer (some ⟨g,j,none⟩)) u;pure Next.skip:Sem Next).run P w=_;have c0:(Instr.storeAt t (.pointer (some ⟨g,j,none⟩)) u).run P w= .ok () (w.setRow g fP):=by
      unfold Instr.storeAt;refine c9 (a:=(⟨g,j,none⟩:Addr)) rfl ?_;unfold storeVar;refine c9 cv ?_;rw[a_ (by rw[hu];simp),hu];exact xS
     simp only [Sem.run_bind,c0,Result.andThen_ok];rfl
    have fB:∀c',op.op≠.defer c':=λc' h=>by rw[cz] at h;cases h
    refine⟨λ_ _=>trivial,?_⟩;rw[Oper.semAt_eq _ _ _ fB,fy,Oper.uponIn_skip];obtain⟨q1,aH⟩:=qK (B:=B) (M:=M) (w':=w.setRow g fP) (T:=some g) (bt:=some g) hw (λi ai=>by cases ai;exact⟨by rw[bw];simp,cX⟩) (λi ai=> .inl ai) ⟨rfl,rfl,rfl⟩ (ch _) (by simp [World.setRow]) (λj _ hj=>setRow_other w g j fP (λh=>hj (by rw[h])));have vN:jr B (h9 M (w.setRow g fP) (some g) (some g)) (.pointer (some ⟨g,0,none⟩)) ty (cs.set j u):=by
     refine⟨g,rfl,cX,?_⟩;unfold h9;rw[aY rfl,<-fj];exact setRow_heap w g ⟨cs⟩ fP ty (0,0) aA
    have hV:=Here.turns (vals':=bm) dg (hm _) q1 av ar hF;letI:=aX (h9 M (w.setRow g fP) (some g) (some g)) bm;exact rest _ vN aH _ _ (Here.put (d:=op.dst) hV (v:=undef) rfl eL)
   ·cases h
  ·cases h
 ·cases h
def oE:Code->List Nat->List fl->List fl
 | .seq x y,n::p,acc=>bif Nat.beq n 0 then oE x p (.na y::acc) else oE y p acc
 | .cond _ x y,n::p,acc=>bif Nat.beq n 2 then oE x p acc else oE y p acc
 | .block id x,_::p,acc=>oE x p (.vF id::acc)
 | .loop x,n::p,acc=>oE x p (.td x (n-5)::acc)
 |_,_,acc=>acc
def zK:Code->List Nat->Code
 | .seq x y,n::p=>bif Nat.beq n 0 then zK x p else zK y p
 | .cond _ x y,n::p=>bif Nat.beq n 2 then zK x p else zK y p
 | .block _ x,_::p=>zK x p
 | .loop x,_::p=>zK x p
 |c,_=>c
def aga (c:Code) (p:List Nat):Array Oper:=match zK c p with
 | .region _ ops _=>ops
 |_=> #[]
def tj (c:Code) (p:List Nat):Code:=match zK c p with
 | .loop b=>b
 |_=> .skip
theorem agb [a7] [cV] {P:aS} [Lib P] {F:List (gh×J)} {T:List (FuncId×List J×J)} {N B bq d:Nat} {w0 w:ax} {a:Act} {o:Option b1} {r:List Oper} {ops:Array Oper} {ks:List fl} {s:b8} {Q:Exit->Act->ax->Prop} [nb Q]
  (ao:kO o=r) (ho:kP o=ops) (al:gC o=ks) (cR:P.follows .mixedOrders=true) (di:tg P F) (eA:se P T)
  (h:fA P N B w0 Q (Bc P F T N bq d r ops ks s)) (ah:Here N s B w0 a w):wpListIn (Fr none) 0 P (kP o) (d' P (gC o) Q) (kO o) a w:=by
 subst ao ho al;exact FA cR di eA h ah
theorem tk {P:aS} {o:Option b1} {b:Code} {ks:List fl} {a:Act} {w:ax} {R:Act->ax->Prop} {Q:Exit->Act->ax->Prop} (af:pC o=b) (al:gC o=ks)
  (h:b.wpIn (Fr none) 0 P (Exit.then R (d' P ks Q)) a w):(pC o).wpIn (Fr none) 0 P (Exit.then R (d' P (gC o) Q)) a w:=by
 subst af al;exact h
end AE
namespace AE
structure cb where
 oF:Nat->Prop
 ok:Mem->Prop
 gE:∀M,ok M->∀b,oF b->M b≠none
 loc:∀M M',(∀b o,oF b->M b=some o->M' b=some o)->ok M->ok M'
def dW (g:Nat) (ty:aK) (cs:List J):cb where
 oF b:=b=g
 ok M:=M g=some (.cells ⟨cs⟩ ty (0,0))
 gE M h b af:=by
  subst af;rw[h];simp
 loc M M' h ho:=h g _ rfl ho
def hr {α:Type} (e:aK) (k:Nat) (enc:α->List J) (v:J) (l:List α):cb where
 oF b:=some b=eP v
 ok M:=dw 0 M e k enc v l
 gE M h b af:=(h.known b af).1
 loc M M' h ho:=by
  rcases ho with ho|⟨g,cap,cur,rfl,ar,ad,aA,ag⟩
  ·exact .inl ho
  ·exact .inr ⟨g,cap,cur,rfl,ar,ad,h g _ (nZ ⟨g,_,none⟩ _ ar).symm aA,ag⟩
def kT {α:Type} (B:Nat) (M:Mem) (e:aK) (k:Nat) (enc:α->List J) (v:J) (l:List α):Prop:=
 (∃a,v= .slice a 0 0/\l=[])\/
 ∃g off cap cur,v= .slice (some ⟨g,off,none⟩) l.length cap/\0<cap/\B<=g/\M g=some (.cells cur e (0,0))/\l.length<=cap/\cap<=maxLen/\cur.size=off+cap*k/\(cur.toList.drop off).take (l.length*k)=l.flatMap enc
section
variable {α:Type} {B:Nat} {M:Mem} {e:aK} {k:Nat} {enc:α->List J} {v:J} {l:List α}
theorem dw.queue (h:dw B M e k enc v l):kT B M e k enc v l:=by
 rcases h with h|⟨g,cap,cur,ad,ag,ay,bG,cJ,cU,fR,pv⟩
 ·exact .inl h
 ·exact .inr ⟨g,0,cap,cur,ad,ag,ay,bG,cJ,cU,aj,by rw[List.drop_zero];exact pv⟩
theorem kT.known (h:kT B M e k enc v l):∀i,some i=eP v->M i≠none/\B<=i:=λi ai=>by
 rcases h with ⟨a,rfl,_⟩|⟨g,off,cap,cur,rfl,ar,cX,aA,_⟩
 ·rw[FB] at ai
  cases ai
 ·rw[nZ _ _ ar] at ai
  have e:=Option.some.inj ai;subst e;exact⟨λh=>(by rw[aA] at h;cases h),cX⟩
theorem kT.mono {vB:Nat} {M':Mem} (h:kT B M e k enc v l) (cX:∀i,some i=eP v->vB<=i) (hm:∀i,some i=eP v->∀o,M i=some o->M' i=some o):kT vB M' e k enc v l:=by
 rcases h with h|⟨g,off,cap,cur,rfl,ar,ad,aA,ag⟩
 ·exact .inl h
 ·exact .inr ⟨g,off,cap,cur,rfl,ar,cX g (nZ ⟨g,_,none⟩ _ ar).symm,hm g (nZ ⟨g,_,none⟩ _ ar).symm _ aA,ag⟩
theorem kT.slice (h:kT B M e k enc v l):∃a c,v= .slice a l.length c:=by
 rcases h with ⟨a,rfl,rfl⟩|⟨g,off,cap,cur,rfl,_⟩
 ·exact⟨a,0,rfl⟩
 ·exact⟨_,cap,rfl⟩
theorem kT.arr (h:kT B M e k enc v l) (al:∀x,(enc x).length=k):cE M k enc v l:=by
 rcases h with ⟨a,rfl,rfl⟩|⟨g,off,cap,cur,rfl,ar,ad,ag,ay,bG,cJ,cU⟩
 ·exact .nil _ _
 ·refine .mk ag ay λi x aq j u hu=> ?_
  have fR:=zF al l i x aq j u hu;rw[<-cU,List.getElem?_take] at fR;split at fR
  ·rw[List.getElem?_drop] at fR
   rw[Nat.add_assoc];simpa using fR
  ·cases fR
theorem kT.cap (h:kT B M e k enc v l):∃a c,v= .slice a l.length c/\l.length<=c:=by
 rcases h with ⟨a,rfl,rfl⟩|⟨g,off,cap,cur,rfl,ad,ag,ay,bG,_⟩
 ·exact⟨a,0,rfl,ch _⟩
 ·exact⟨_,cap,rfl,bG⟩
theorem dw.agc {vB:Nat} {M':Mem} (h:dw B M e k enc v l) (cX:∀i,some i=eP v->vB<=i) (hm:∀i,some i=eP v->∀o,M i=some o->M' i=some o):dw vB M' e k enc v l:=by
 rcases h with h|⟨g,cap,cur,rfl,ar,ad,aA,ag⟩
 ·exact .inl h
 ·exact .inr ⟨g,cap,cur,rfl,ar,cX g (nZ ⟨g,_,none⟩ _ ar).symm,hm g (nZ ⟨g,_,none⟩ _ ar).symm _ aA,ag⟩
end
def nK {α:Type} (e:aK) (k:Nat) (enc:α->List J) (v:J) (l:List α):cb where
 oF b:=some b=eP v
 ok M:=kT 0 M e k enc v l
 gE M h b af:=(h.known b af).1
 loc M M' h ho:=ho.mono (λ_ _=>Nat.zero_le _) λi ai o ad=>h i o ai ad
def p7 {α:Type} (k:Nat) (enc:α->List J) (v:J) (l:List α):cb where
 oF b:=some b=v.ownBlock
 ok M:=cE M k enc v l/\∀b,some b=v.ownBlock->M b≠none
 gE M h b af:=h.2 b af
 loc M M' h ho:=by
  refine⟨?_,λb af=> ?_⟩
  ·obtain⟨ad,ag⟩:=ho
   cases ad with
   |nil a c=>exact .nil a c
   |mk af ar ay=>exact .mk (h _ _ rfl af) ar ay
  ·cases bw:M b with
   |none=>exact absurd bw (ho.2 b af)
   |some o=>
    rw[h b o af bw];simp
theorem cE.arr {α:Type} {M:Mem} {k:Nat} {enc:α->List J} {v:J} {l:List α} (h:cE M k enc v l) (_:∀x,(enc x).length=k):cE M k enc v l:=h
structure cH (M:Mem) (L:List cb):Prop where
 ok:∀(i:Nat) (R:cb),L[i]? =some R->R.ok M
 two:∀(i j:Nat) (R S:cb),i≠j->L[i]? =some R->L[j]? =some S->∀b,R.oF b->¬S.oF b
def iI (L:List cb):Nat->Prop:=λb=>∃(i:Nat) (R:cb),L[i]? =some R/\R.oF b
theorem DI (b:Nat):¬iI [] b:=λ⟨i,R,h,_⟩=>by simp at h
theorem cH.nil (M:Mem):cH M []:=⟨λi R h=>by simp at h,λi j R S _ h=>by simp at h⟩
theorem cH.known {M:Mem} {L:List cb} (h:cH M L):∀b,iI L b->M b≠none:=λb ⟨i,R,ai,af⟩=>R.gE M (h.ok i R ai) b af
theorem cH.mono {M M':Mem} {L:List cb} (h:cH M L) (hm:∀b o,iI L b->M b=some o->M' b=some o):cH M' L:=
 ⟨λi R ai=>R.loc M M' (λb o af ho=>hm b o ⟨i,R,ai,af⟩ ho) (h.ok i R ai),h.two⟩
structure cZ (M:Mem) (L:List cb) (M':Mem) (L':List cb):Prop where
 sp:cH M' L'
 keeps:Bt M M' (iI L)
 fresh:∀b,iI L' b->iI L b\/M b=none
structure bK (B:Nat) (dG:Mem) (cc:List cb) (M:Mem) (L:List cb):Prop where
 sp:cH M L
 keeps:Bt dG M (iI cc)
 fresh:∀b,iI L b->iI cc b\/dG b=none
 base:∀b,iI cc b\/dG b=none->B<=b
def pick (L:List cb):List Nat->List cb
 |[]=>[]
 |i::is=>match L[i]? with
  |some R=>R::pick L is
  |none=>pick L is
def j6 (n:Nat):List Nat->Bool
 |[]=>true
 |i::is=>Nat.blt i n&& !is.contains i&&j6 n is
def lI (L:List cb):List Nat->List cb->List cb
 |i::is,R::js=>lI (L.set i R) is js
 |_,_=>L
theorem OJ {n i:Nat} {is:List Nat} (h:j6 n (i::is)=true):i<n/\i∉is/\j6 n is=true:=by
 simp only [j6,c8,Bool.not_eq_true',List.contains_eq_mem,decide_eq_false_iff_not] at h;exact⟨of_decide_eq_true (by simpa [Nat.blt_eq] using h.1.1),h.1.2,h.2⟩
theorem WB {L:List cb}:∀{is:List Nat},j6 L.length is=true->∀(j:Nat),(pick L is)[j]? =(is[j]?).bind λ(i:Nat)=>L[i]?
 |[],_,j=>by simp [pick]
 |i::is,h,j=>by
  obtain⟨ad,ag,ay⟩:=OJ h;unfold pick;rw[gi ad];cases j with
  |zero=>simp [gi ad]
  |succ j=>
   simp only [List.getElem?_cons_succ];exact WB ay j
theorem WC {n:Nat}:∀{is:List Nat},j6 n is=true->∀{j fL i:Nat},is[j]? =some i->is[fL]? =some i->j=fL
 |[],_,j,fL,i,h,_=>by simp at h
 |x::is,h,j,fL,i,ad,ag=>by
  obtain⟨q1,aH,b0⟩:=OJ h;cases j with
  |zero=>
   cases fL with
   |zero=>rfl
   |succ fL=>
    simp only [List.getElem?_cons_zero,cQ] at ad;simp only [List.getElem?_cons_succ] at ag;subst ad;exact absurd (List.mem_of_getElem? ag) aH
  |succ j=>
   simp only [List.getElem?_cons_succ] at ad;cases fL with
   |zero=>
    simp only [List.getElem?_cons_zero,cQ] at ag;subst ag;exact absurd (List.mem_of_getElem? ad) aH
   |succ fL=>
    simp only [List.getElem?_cons_succ] at ag;rw[WC b0 ad ag]
theorem FL {L:List cb} {is:List Nat} (h:j6 L.length is=true) {j:Nat} {R:cb} (hj:(pick L is)[j]? =some R):∃(i:Nat),is[j]? =some i/\L[i]? =some R:=by
 rw[WB h] at hj;exact Option.bind_eq_some_iff.1 hj
theorem JW {L:List cb} {is:List Nat} (h:j6 L.length is=true) {b:Nat} (af:iI (pick L is) b):iI L b:=by
 obtain⟨j,R,hj,jE⟩:=af;obtain⟨i,_,ai⟩:=FL h hj;exact⟨i,R,ai,jE⟩
theorem cH.pick {M:Mem} {L:List cb} (s:cH M L) (is:List Nat) (h:j6 L.length is=true):cH M (pick L is) where
 ok j R hj:=by
  obtain⟨i,_,ai⟩:=FL h hj;exact s.ok i R ai
 two j fL R S c1 hj gZ b af eh:=by
  obtain⟨i,ad,ag⟩:=FL h hj;obtain⟨ug,ay,bG⟩:=FL h gZ;refine s.two i ug R S (λe=> ?_) ag bG b af eh;subst e;exact c1 (WC h ad ay)
theorem JX:∀(is:List Nat) (L js:List cb),(lI L is js).length=L.length
 |[],L,js=>by unfold lI;rfl
 |i::is,L,[]=>by unfold lI;rfl
 |i::is,L,R::js=>by
  unfold lI;rw[JX is];simp
theorem OK:∀{is:List Nat} {L js:List cb} {m:Nat},m∉is->(lI L is js)[m]? =L[m]?
 |[],L,js,m,_=>by unfold lI;rfl
 |i::is,L,[],m,_=>by unfold lI;rfl
 |i::is,L,R::js,m,h=>by
  unfold lI;rw[OK (λhm=>h (List.mem_cons_of_mem _ hm)),List.getElem?_set,a_ (λe=>h (by rw[e];exact List.mem_cons_self))]
theorem WD {n:Nat}:∀{is:List Nat} {L js:List cb} {m:Nat} {R:cb},j6 n is=true->n=L.length->js.length=is.length->m∈is->(lI L is js)[m]? =some R->∃(j:Nat),is[j]? =some m/\js[j]? =some R
 |[],L,js,m,R,_,_,_,hm,_=>by simp at hm
 |i::is,L,[],m,R,_,_,hl,_,_=>by simp at hl
 |i::is,L,ao1::js,m,R,h,av,hl,hm,aA=>by
  obtain⟨q1,aH,b0⟩:=OJ h;unfold lI at aA;by_cases ai:m∈is
  ·obtain⟨j,ad,ag⟩:=WD b0 (by rw[List.length_set];exact av) (by simpa using hl) ai aA
   exact⟨j+1,by simpa using ad,by simpa using ag⟩
  ·have he:m=i:=by
    rcases List.mem_cons.1 hm with h|h
    ·exact h
    ·exact absurd h ai
   subst he;rw[OK ai,List.getElem?_set,aY rfl,aY aj] at aA;exact⟨0,rfl,aA⟩
theorem FM {L L' N:List cb} {is:List Nat} (h:j6 L.length is=true) (hl:L'.length=is.length) {m:Nat} {R:cb} (hm:(lI L is L'++N)[m]? =some R):
  (∃(j:Nat),(L'++N)[j]? =some R/\((is[j]? =some m/\j<is.length)\/(j=is.length+(m-L.length)/\L.length<=m)))\/(L[m]? =some R/\m∉is):=by
 by_cases cg:m<L.length
 ·rw[List.getElem?_append_left (by rw[JX];exact cg)] at hm
  by_cases ai:m∈is
  ·obtain⟨j,ad,ag⟩:=WD h rfl hl ai hm
   have hj:j<is.length:=(List.getElem?_eq_some_iff.1 ad).1;exact .inl ⟨j,by rw[List.getElem?_append_left aj];exact ag,.inl ⟨ad,hj⟩⟩
  ·rw[OK ai] at hm
   exact .inr ⟨hm,ai⟩
 ·rw[List.getElem?_append_right (by rw[JX];omega),JX] at hm
  exact .inl ⟨is.length+(m-L.length),by rw[List.getElem?_append_right aj,hl];rw[show is.length+(m-L.length)-is.length=m-L.length by omega];exact hm,.inr ⟨rfl,aj⟩⟩
section
variable {B:Nat} {dG M M':Mem} {cc L L' N:List cb}
theorem cH.put (s:cH M L) (is:List Nat) (h:j6 L.length is=true) (hl:L'.length=is.length) (t:cZ M (AE.pick L is) M' (L'++N)):cH M' (lI L is L'++N):=by
 have WE:∀(i:Nat) (R:cb),L[i]? =some R->i∉is->∀b,R.oF b->¬iI (AE.pick L is) b:=λi R ai av b af ⟨j,S,hj,aI⟩=>by
  obtain⟨ug,ad,ag⟩:=FL h hj;exact s.two i ug R S (λe=>av (by rw[e];exact List.mem_of_getElem? ad)) ai ag b af aI
 have gJ:∀(i:Nat) (R:cb),L[i]? =some R->i∉is->∀b,R.oF b->¬iI (L'++N) b:=λi R ai av b af jL=>by
  rcases t.fresh b jL with ad|ad
  ·exact WE i R ai av b af ad
  ·exact R.gE M (s.ok i R ai) b af ad
 refine⟨λm R hm=> ?_,λm m' R S c1 hm rU b af eh=> ?_⟩
 ·rcases FM h hl hm with ⟨j,hj,_⟩|⟨ai,av⟩
  ·exact t.sp.ok j R hj
  ·exact R.loc M M' (λb o af ho=>t.keeps b o ho (WE m R ai av b af)) (s.ok m R ai)
 ·rcases FM h hl hm with ⟨j,hj,fi⟩|⟨ai,av⟩
  ·rcases FM h hl rU with ⟨fL,gZ,OL⟩|⟨lQ,JY⟩
   ·refine t.sp.two j fL R S (λe=> ?_) hj gZ b af eh
    subst e;rcases fi with ⟨ad,ag⟩|⟨ad,ag⟩
    ·rcases OL with ⟨ay,bG⟩|⟨ay,bG⟩
     ·rw[ad] at ay
      exact c1 (Option.some.inj ay)
     ·omega
    ·rcases OL with ⟨ay,bG⟩|⟨ay,bG⟩
     ·omega
     ·exact c1 aj
   ·exact gJ m' S lQ JY b eh ⟨j,R,hj,af⟩
  ·rcases FM h hl rU with ⟨fL,gZ,OL⟩|⟨lQ,JY⟩
   ·exact gJ m R ai av b af ⟨fL,S,gZ,eh⟩
   ·exact s.two m m' R S c1 ai lQ b af eh
theorem agd (s:cH M L) {is:List Nat} (h:j6 L.length is=true) (hl:L'.length=is.length) (t:cZ M (AE.pick L is) M' (L'++N)) {b:Nat} (af:iI (lI L is L'++N) b):iI L b\/M b=none:=by
 obtain⟨m,R,hm,jE⟩:=af;rcases FM h hl hm with ⟨j,hj,_⟩|⟨ai,av⟩
 ·rcases t.fresh b ⟨j,R,hj,jE⟩ with ad|ad
  ·exact .inl (JW h ad)
  ·exact .inr ad
 ·exact .inl ⟨m,R,ai,jE⟩
theorem bK.put (h:bK B dG cc M L) (is:List Nat) (ik:j6 L.length is=true) (hl:L'.length=is.length) (t:cZ M (AE.pick L is) M' (L'++N)):bK B dG cc M' (lI L is L'++N) where
 sp:=h.sp.put is ik hl t
 keeps i o ai av:=by
  have ad:=h.keeps i o ai av;refine t.keeps i o ad λag=> ?_
  rcases h.fresh i (JW ik ag) with ay|ay
  ·exact av ay
  ·rw[ai] at ay
   cases ay
 fresh b af:=by
  rcases agd h.sp ik hl t af with ad|ad
  ·exact h.fresh b ad
  ·by_cases ag:iI cc b
   ·exact .inl ag
   ·right
    cases ay:dG b with
    |none=>rfl
    |some o=>
     have:=h.keeps b o ay ag;rw[ad] at this;cases this
 base:=h.base
theorem bK.lZ (h:bK B dG cc M L) (i:Nat) {R OM:cb} (ai:L[i]? =some R) (t:cZ M [R] M' [OM]):bK B dG cc M' (L.set i OM):=by
 have cg:i<L.length:=(List.getElem?_eq_some_iff.1 ai).1;have ik:j6 L.length [i]=true:=by
  simp [j6,Nat.blt_eq,cg]
 have hp:AE.pick L [i]=[R]:=by simp [AE.pick,ai]
 have:=h.put (L':=[OM]) (N:=[]) [i] ik rfl (by rw[hp];exact t);simpa [lI] using this
theorem bK.new (h:bK B dG cc M L) {R:cb} (t:cZ M [] M' [R]):bK B dG cc M' (L++[R]):=by
 have:=h.put (L':=[]) (N:=[R]) [] U U (by exact t);simpa [lI] using this
theorem bK.pick (h:bK B dG cc M L) (is:List Nat) (ik:j6 L.length is=true):bK B dG cc M (AE.pick L is):=
 ⟨h.sp.pick is ik,h.keeps,λb af=>h.fresh b (JW ik af),h.base⟩
theorem bK.low (h:bK B dG cc M L):∀b,iI L b->B<=b:=λb af=>h.base b (h.fresh b af)
theorem bK.start (W:ax) (L:List cb) (h:cH (aE W) L):bK 0 (aE W) L (aE W) L:=⟨h,λ_ _ h _=>h,λ_ h=> .inl h,λ_ _=>Nat.zero_le _⟩
theorem bK.o5 (W:ax):bK W.heap.size (aE W) [] (aE W) []:=
 ⟨cH.nil _,λ_ _ h _=>h,λb h=>absurd h (DI b),λb h=>by
   rcases h with h|h
   ·exact absurd h (DI b)
   ·exact Array.getElem?_eq_none_iff.1 h⟩
theorem bK.ext (h:bK B dG [] M L):∀i o,dG i=some o->M i=some o:=λi o ai=>h.keeps i o ai (DI i)
theorem bK.kept (h:bK B dG cc M L) {i:Nat} {o:Obj} (ai:dG i=some o) (av:¬iI cc i):M i=some o:=h.keeps i o ai av
theorem bK.done {w':ax} (h:bK B dG cc M L) (hw:∀i o,M i=some o->w'.heap[i]? =some o):cZ dG cc (aE w') L:=
 ⟨h.sp.mono λb o _ ho=>hw b o ho,λi o ai av=>hw i o (h.keeps i o ai av),h.fresh⟩
theorem bK.box (h:bK B dG cc M L) (i:Nat) {g:Nat} {ty:aK} {cs:List J} (ai:L[i]? =some (dW g ty cs)):jr B M (.pointer (some ⟨g,0,none⟩)) ty cs:=⟨g,rfl,h.low g ⟨i,_,ai,rfl⟩,h.sp.ok i _ ai⟩
theorem bK.arr (h:bK B dG cc M L) (i:Nat) {α:Type} {e:aK} {k:Nat} {enc:α->List J} {v:J} {l:List α} (ai:L[i]? =some (hr e k enc v l)):dw B M e k enc v l:=
 dw.agc (h.sp.ok i _ ai) (λj hj=>h.low j ⟨i,_,ai,hj⟩) λ_ _ _ ho=>ho
theorem bK.iT (h:bK B dG cc M L) (i:Nat) {α:Type} {e:aK} {k:Nat} {enc:α->List J} {v:J} {l:List α} (ai:L[i]? =some (nK e k enc v l)):kT B M e k enc v l:=
 kT.mono (h.sp.ok i _ ai) (λj hj=>h.low j ⟨i,_,ai,hj⟩) λ_ _ _ ho=>ho
theorem bK.red (h:bK B dG cc M L) (i:Nat) {α:Type} {k:Nat} {enc:α->List J} {v:J} {l:List α} (ai:L[i]? =some (p7 k enc v l)):cE M k enc v l:=(h.sp.ok i _ ai).1
theorem bK.any (h:bK B dG cc M L) (i:Nat) {R:cb} (ai:L[i]? =some R):R.ok M:=h.sp.ok i _ ai
end
theorem cH.box {M:Mem} {L:List cb} (h:cH M L) (i:Nat) {g:Nat} {ty:aK} {cs:List J} (ai:L[i]? =some (dW g ty cs)):jr 0 M (.pointer (some ⟨g,0,none⟩)) ty cs:=⟨g,rfl,Nat.zero_le _,h.ok i _ ai⟩
theorem cH.arr {M:Mem} {L:List cb} (h:cH M L) (i:Nat) {α:Type} {e:aK} {k:Nat} {enc:α->List J} {v:J} {l:List α} (ai:L[i]? =some (hr e k enc v l)):dw 0 M e k enc v l:=h.ok i _ ai
theorem cH.iT {M:Mem} {L:List cb} (h:cH M L) (i:Nat) {α:Type} {e:aK} {k:Nat} {enc:α->List J} {v:J} {l:List α} (ai:L[i]? =some (nK e k enc v l)):kT 0 M e k enc v l:=h.ok i _ ai
theorem cH.red {M:Mem} {L:List cb} (h:cH M L) (i:Nat) {α:Type} {k:Nat} {enc:α->List J} {v:J} {l:List α} (ai:L[i]? =some (p7 k enc v l)):cE M k enc v l:=(h.ok i _ ai).1
theorem cH.one {M:Mem} {R:cb} (h:R.ok M):cH M [R]:=by
 refine⟨λi S ai=> ?_,λi j S T c1 ai hj=> ?_⟩
 ·cases i with
  |zero=>
   have e:=Option.some.inj (show some R=some S from ai);rw[<-e];exact h
  |succ i=>simp at ai
 ·cases i with
  |zero=>
   cases j with
   |zero=>exact absurd rfl c1
   |succ j=>simp at hj
  |succ i=>simp at ai
theorem p8 {R:cb} {b:Nat}:iI [R] b↔R.oF b:=by
 constructor
 ·rintro ⟨i,S,ai,af⟩
  cases i with
  |zero=>
   have e:=Option.some.inj (show some R=some S from ai);rw[e];exact af
  |succ i=>simp at ai
 ·intro h
  exact⟨0,R,rfl,h⟩
section
variable {M M':Mem}
theorem vO {B g:Nat} {ty:aK} {cs cs':List J} (cO:jr B M' (.pointer (some ⟨g,0,none⟩)) ty cs') (cC:h8 M M' (some g)):cZ M [dW g ty cs] M' [dW g ty cs']:=
 ⟨cH.one cO.known.1,λi o ai av=>cC i o ai λe=>av (p8.2 (Option.some.inj e)),λb af=> .inl (p8.2 (show b=g from p8.1 af))⟩
theorem tl {B g:Nat} {ty:aK} {cs:List J} (cO:jr B M' (.pointer (some ⟨g,0,none⟩)) ty cs) (av:M g=none) (cC:h8 M M' none):cZ M [] M' [dW g ty cs]:=
 ⟨cH.one cO.known.1,λi o ai _=>cC i o ai λe=>(by cases e),λb af=> .inr (by rw[show b=g from p8.1 af];exact av)⟩
variable {α:Type} {B:Nat} {e:aK} {k:Nat} {enc:α->List J} {v aB:J} {l l':List α}
theorem sk (cO:dw B M' e k enc aB l'):(hr e k enc aB l').ok M':=cO.mono (Nat.zero_le _) λ_ _ _ h=>h
theorem WG (cO:kT B M' e k enc aB l'):(nK e k enc aB l').ok M':=cO.mono (λ_ _=>Nat.zero_le _) λ_ _ _ h=>h
theorem ON (cO:dw B M' e k enc aB l') (cC:h8 M M' (eP v)) (aR:∀i,some i=eP aB->some i=eP v\/M i=none):cZ M [hr e k enc v l] M' [hr e k enc aB l']:=
 ⟨cH.one (sk cO),λi o ai av=>cC i o ai λe=>av (p8.2 e),λb af=>by
   rcases aR b (p8.1 af) with h|h
   ·exact .inl (p8.2 h)
   ·exact .inr h⟩
theorem Bu (cO:dw B M' e k enc v l') (cC:h8 M M' (eP v)):cZ M [hr e k enc v l] M' [hr e k enc v l']:=ON cO cC λ_ h=> .inl h
theorem FN (cO:kT B M' e k enc aB l') (cC:h8 M M' (eP v)) (aR:∀i,some i=eP aB->some i=eP v\/M i=none):cZ M [nK e k enc v l] M' [nK e k enc aB l']:=
 ⟨cH.one (WG cO),λi o ai av=>cC i o ai λe=>av (p8.2 e),λb af=>by
   rcases aR b (p8.1 af) with h|h
   ·exact .inl (p8.2 h)
   ·exact .inr h⟩
theorem JZ (cO:dw B M' e k enc v l) (cC:h8 M M' none) (aR:∀i,some i=eP v->M i=none):cZ M [] M' [hr e k enc v l]:=
 ⟨cH.one (sk cO),λi o ai _=>cC i o ai λe=>(by cases e),λb af=> .inr (aR b (p8.1 af))⟩
end
theorem WH {B:Nat} {M:Mem} {w w':ax} {dG:Mem} {cc L n5 L':List cb} (h:bK B dG cc M L) (is:List Nat) (ik:j6 L.length is=true) (hp:AE.pick L is=n5) (hw:∀i o,M i=some o->w.heap[i]? =some o) (cX:B<=w.heap.size) (aw:cZ (aE w) n5 (aE w') L') (hl:cj 0 w w'):
  ∃M',cZ M n5 M' L'/\DH B M M' (iI n5) w w':=by
 subst hp;have af:∀i,i<w.heap.size->¬iI (AE.pick L is) i->w'.heap[i]? =w.heap[i]? :=λi ai av=>by
  have ay:aE w i=some (w.heap[i]):=Array.getElem?_eq_getElem ai;have bG:=aw.keeps i _ ay av;rw[Array.getElem?_eq_getElem ai];exact bG
 have gX:∀i,iI (AE.pick L is) i->M i≠none/\B<=i:=λi ai=>⟨(h.sp.pick is ik).known i ai,h.low i (JW ik ai)⟩
 obtain⟨t1,t2⟩:=Wv (B:=B) (M:=M) (S:=iI (AE.pick L is)) (w:=w) (w':=w') hw gX ⟨hl.below.os,hl.below.tape,hl.below.output⟩ hl.size af;have gJ:∀b,iI L' b->((M b).isSome=true/\B<=b)\/w.heap.size<=b:=λb oW=>by
  rcases aw.fresh b oW with ay|ay
  ·obtain⟨de,dv⟩:=gX b ay
   refine .inl ⟨?_,dv⟩;cases bw:M b with
   |none=>exact absurd bw de
   |some o=>rfl
  ·exact .inr (Array.getElem?_eq_none_iff.1 ay)
 refine⟨yu B M w w',⟨aw.sp.mono λb o oW ho=> ?_,t2,λb oW=> ?_⟩,t1⟩
 ·rw[OG (by
   rcases gJ b oW with ay|ay
   ·exact .inl ay.1
   ·exact .inr (.inl ay))]
  exact ho
 ·rcases aw.fresh b oW with ay|ay
  ·exact .inl ay
  ·exact .inr (zJ hw (Array.getElem?_eq_none_iff.1 ay))
theorem bK.at {B:Nat} {M:Mem} {w:ax} {dG:Mem} {cc L n5:List cb} (h:bK B dG cc M L) (is:List Nat) (ik:j6 L.length is=true) (hp:AE.pick L is=n5) (hw:∀i o,M i=some o->w.heap[i]? =some o):cH (aE w) n5:=by
 subst hp;exact(h.sp.pick is ik).mono λb o _ ho=>hw b o ho
theorem age {Y:Type} {P:aS} {f:FuncId} {args:Array J} {B:Nat} {M:Mem} {w:ax} {dG:Mem} {cc L n5:List cb} {eO:J} {bm:Y->List J} {r:Y->J} {L':Y->List cb} (h:bK B dG cc M L) (is:List Nat) (ik:j6 L.length is=true) (hp:AE.pick L is=n5) (hw:∀i o,M i=some o->w.heap[i]? =some o) (cX:B<=w.heap.size)
  (aC:∀M' y,@aJ (aX M' (bm y)) eO=r y) (fC:Calls P f args w λe w'=>(∃y,e= .returned (r y)/\cZ (aE w) n5 (aE w') (L' y))/\cj 0 w w'):
  Calls P f args w λe w'=>∃y M',e= .returned (@aJ (aX M' (bm y)) eO)/\cZ M n5 M' (L' y)/\DH B M M' (iI n5) w w':=
 fC.mono λe w' he=>by
  obtain⟨⟨y,rfl,aw⟩,hl⟩:=he;obtain⟨M',ad,ag⟩:=WH h is ik hp hw cX aw hl;exact⟨y,M',by rw[aC],ad,ag⟩
end AE
end Go.Proofs.YtepcfjbfkedlpaaDoor
