/- Parts of the proof. -/
import Derived.Test.YtepcfjbfkedlpaaDoorWk1
import Derived.LoopNIn
import Derived.Laws.Sem
import Derived.Below
import Derived.Test.YtepcfjbfkedlpaaDoorProg
import Derived.KernelRfl
import Derived.Laws.Entries
import Derived.Laws.StructEq
import Derived.IntWalk
import Derived.Laws.AppendOwn
import Derived.Laws.Small
import Derived.OrdersIn
import Derived.Lib.SliceRun
import Derived.Laws.Slices
import Derived.Laws.Strings2
import Derived.Laws.Concat
import Derived.ChangeKeysEq
import Derived.Test.YtepcfjbfkedlpaaDoorRows
import Derived.ProofKit
import Derived.Lay
import Derived.SevenTiedAt
import Derived.Carry
import Derived.Lib.SmallJoins
import Derived.Deep.Slices
import Derived.LaidSub
set_option maxRecDepth 100000
set_option maxHeartbeats 4000000
namespace Go.Proofs.YtepcfjbfkedlpaaDoor
open Go
namespace a1
variable [bp]
structure tt (gl:cK Nat) (N:Nat) (ds:List Deferred) (ops:Array Oper) (m:Nat) (B:Nat->bx) (a8:List ad) (gw:cD) (w0:aG) (a0:Act) (φ:cD) (listed:Array Bool) (a:Act) (w:aG):Prop where
 size:listed.size=ops.size
 down:∀i j,listed.getD i false=true->direct ops i j=true->listed.getD j false=true
 si:∀i,m<=i->listed.getD i false=false
 defers:a.defers=ds
 nh:a.tmps.size=N
 rel:cB φ (B m) w
 old:∀b,b<(B 0).n->φ b=gw b
 mapped:∀b e,(B 0).n<=b->φ b=some e->∃j,j<m/\listed.getD j false=true/\own B j b
 total:∀j b,j<m->listed.getD j false=true->own B j b->φ b≠none
 new:∀b e,(B 0).n<=b->φ b=some e->w0.heap.size<=e.bJ
 Ng:∀j b e b' e',j<m->own B j b->¬own B j b'->φ b=some e->φ b'=some e'->e.bJ≠e'.bJ
 keep:∀i,i<w0.heap.size->(∀b e k,gw b=some e->e.bJ=i->(B 0).bl.get b=some k->k.ro=true)->w.heap[i]? =w0.heap[i]?
 hH:w0.heap.size<=w.heap.size
 os:w.os=w0.os
 tape:w.tape=w0.tape
 output:w.output=w0.output
 drawn:h5 w0<=h5 w
 other:∀t,(∀i,i<m->listed.getD i false=true->gv ops i≠some t)->a.tmps.getD t undef=a0.tmps.getD t undef
 val:∀i t,i<m->listed.getD i false=true->gv ops i=some t->aM (restrict φ (B (i+1)).n) (a8.getD i c3) (a.tmps.getD t undef)
omit [bp] in
theorem vo {φ:cD} {n b:Nat} {e:iJ} (h:restrict φ n b=some e):b<n/\φ b=some e:=by
 unfold restrict at h;by_cases ai:b<n
 ·rw[aP ai] at h;exact⟨ai,h⟩
 ·rw[aV ai] at h;cases h
omit [bp] in
theorem T1 {φ:cD} {n mr:Nat} (h:n<=mr):∀b e,restrict φ n b=some e->restrict φ mr b=some e:=λb e ai=>by
 obtain⟨af,ah⟩:=vo ai;unfold restrict;rw[aP aj];exact ah
section
variable {P:bB} [Lib P] [ft P] {C:jd} {gl:cK Nat} {N:Nat} {ds:List Deferred} {ops:Array Oper} {m:Nat} {dH nC:ax} {B:Nat->bx} {a8:List ad} {gw φ:cD} {w0 w:aG} {a0 a:Act} {listed:Array Bool}
theorem tt.done (jK:qB gw B a8 m) (mg:cB gw (B 0) w0) (q4:gR N ds gw nC a0) (aK:tt gl N ds ops m B a8 gw w0 a0 φ listed a w) (lK:∀i,i<m->listed.getD i false=true)
  (iP:iu N ops (λ_=>c3) (List.range m) nC=some dH) {gX:ax} (af:iu N ops (λj=>a8.getD j c3) (List.range m) dH=some gX):
  gR N ds φ gX a/\db gw (B 0) w0 φ (B m) w:=by
 have um:∀b e,gw b=some e->φ b=some e:=λb e ai=>by rw[aK.old b (mg.lt ai)];exact ai
 refine⟨⟨aK.nh,aK.defers,λt v aR=> ?_⟩,?_⟩
 ·rcases pB _ _ _ af t v aR with ⟨j,aq,bu,rfl⟩|⟨aT,bg⟩
  ·have fZ:=List.mem_range.1 aq
   exact(aK.val j t fZ (lK j fZ) bu).mono λb e ai=>(vo ai).2
  ·rcases pB _ _ _ iP t v bg with ⟨j,aq,bu,rfl⟩|⟨_,sj⟩
   ·exact .c3 _
   ·rw[aK.other t λi ak _=>aT i (List.mem_range.2 ak)]
    exact(q4.get t v sj).mono um
 ·refine {rel:=aK.rel,fi:=aK.old,tf:=λb ai fB=> ?_,new:=λb e ai he=> .inl (aK.new b e ai he),rF:=jK.uo (Nat.zero_le _) (c4 _),low:=by rw[jK.abI (c4 _)];exact c4 _,
          same:=λb ai _=>jK.xT (Nat.zero_le _) (c4 _) b ai,ro:=λb k ao _=> ?_,keep:=aK.keep,hH:=aK.hH,os:=aK.os,tape:=aK.tape,output:=aK.output,drawn:=aK.drawn}
  ·obtain⟨j,aq,bW⟩:=jK.T0 (c4 _) ai fB
   exact aK.total j b aq (lK j aq) bW
  ·rw[jK.xT (Nat.zero_le _) (c4 _) b (mg.wf.lt b k ao)];exact ao
theorem tt.here (jK:qB gw B a8 m) (mg:cB gw (B 0) w0) (T2:(B m).n<=dead) (aK:tt gl N ds ops m B a8 gw w0 a0 φ listed a w) {i:Nat} (ak:i<m):cB (restrict φ (B i).n) (B i) w:=by
 obtain⟨ψ,w',g1,g2,g3,_⟩:=jK.ex i aj;have bu:∀b e,φ b=some e->b≠dead:=λb e ai ae=>by
  have:=aK.rel.lt ai;omega
 have hz:∀b,b<(B i).n->(B m).bl.get b=(B i).bl.get b:=λb ai=>jK.xT aj (c4 _) b ai
 refine⟨g1.wf,λb e ai=> ?_,λb e k b' e' k' ai fB ao eG dU=> ?_,λb e k b' e' k' ai fB ao eG bn kL=> ?_,λi o ak=>⟨(aK.rel.dz i o ak).1,λb e ai=>(aK.rel.dz i o ak).2 b e (vo ai).2⟩⟩
 ·obtain⟨c_,ja⟩:=vo ai
  obtain⟨k,ao,af,ah⟩:=aK.rel.fi b e ja;rw[hz b c_] at ao;refine⟨k,ao,af,?_⟩;have ts:ψ b≠none:=by
   rcases Nat.lt_or_ge b (B 0).n with bd|bd
   ·rw[g2 b bd,<-aK.old b bd,ja];simp
   ·exact g3 b bd c_
  obtain⟨e',p3⟩:=Option.ne_none_iff_exists'.1 ts;obtain⟨k',eG,_,aH⟩:=g1.fi b e' p3;rw[ao] at eG;cases eG;exact ah.restrict bu (λb e ai=>g1.lt ai) aH
 ·obtain⟨c_,ja⟩:=vo ai
  obtain⟨wk,uq⟩:=vo fB;exact aK.rel.apart b e k b' e' k' ja uq ((hz b c_).trans ao) ((hz b' wk).trans eG) dU
 ·obtain⟨c_,ja⟩:=vo ai
  obtain⟨wk,uq⟩:=vo fB;exact aK.rel.along b e k b' e' k' ja uq ((hz b c_).trans ao) ((hz b' wk).trans eG) bn kL
theorem tt.step (jK:qB gw B a8 m) (mg:cB gw (B 0) w0) (aK:tt gl N ds ops m B a8 gw w0 a0 φ listed a w) {i:Nat} {o:Oper} (ak:i<m) (hm:m<=ops.size) (bW:ops[i]? =some o) (sm:listed.getD i false=false)
  (vp:∀k,direct ops i k=true->listed.getD k false=true) (lN:∀i j,i<m->j<m->i≠j->∀t,gv ops i=some t->gv ops j≠some t) (c_:∀i t,i<m->gv ops i=some t->t<N)
  {cg:bx} (n3:(B i).n<=cg.low) (sk:B (i+1)={cg with low:=(B i).low}) {dI:cD} {v':ad} {w':aG} (aR:aM dI (a8.getD i c3) v') (eA:db (restrict φ (B i).n) {B i with low:=(B i).n} w dI cg w'):
  ∃gf,tt gl N ds ops m B a8 gw w0 a0 gf (listed.setIfInBounds i true) (a.put o.dst v') w':=by
 have iL:(B (i+1)).n=cg.n:=by rw[sk]
 have abL:(B (i+1)).bl=cg.bl:=by rw[sk]
 have mh:gv ops i=o.dst:=by simp [gv,bW]
 have gn:∀j,(listed.setIfInBounds i true).getD j false=true↔j=i\/listed.getD j false=true:=by
  intro j;by_cases aq:j=i
  ·subst aq
   have:=aK.size;simp [gd,show j<listed.size by omega]
  ·rw[getD_set_ne false (Ne.symm aq)]
   simp [aq]
 let gf:cD:=λb=>if b<(B i).n then φ b else if b<(B (i+1)).n then dI b else φ b
 have FJ:∀b,b<(B i).n->gf b=φ b:=λb ai=>aP ai
 have Jt:∀b,own B i b->gf b=dI b:=λb ai=>by
  show (if _ then _ else if _ then _ else _)=_;rw[aV (by unfold own at ai;omega),aP ai.2]
 have Nh:∀b,(B (i+1)).n<=b->gf b=φ b:=λb ai=>by
  have:=jK.Js i ak;show (if _ then _ else if _ then _ else _)=_;rw[aV aj,aV aj]
 have nA:∀b,b<(B i).n\/own B i b\/(B (i+1)).n<=b:=λb=>by unfold own;omega
 have T3:∀b,b<(B i).n->dI b=φ b:=λb ai=>by
  rw[eA.fi b ai];unfold restrict;rw[aP ai]
 have T4:∀b e,dI b=some e->b<(B (i+1)).n:=λb e ai=>by rw[iL];exact eA.rel.lt ai
 have T5:∀b e,dI b=some e->gf b=some e:=λb e ai=>by
  have:=T4 b e ai;rcases nA b with h|h|h
  ·rw[FJ b h,<-T3 b h];exact ai
  ·rw[Jt b h];exact ai
  ·omega
 have abM:∀b,own B i b->φ b=none:=λb ai=>by
  cases h:φ b with
  |none=>rfl
  |some e=>
   exfalso;have bd:(B 0).n<=b:=Nat.le_trans (jK.uo (Nat.zero_le i) aj) ai.1;obtain⟨j,aq,n8,jj⟩:=aK.mapped b e bd h;have:=jK.TZ ak aq ai jj;subst this;rw[sm] at n8;cases n8
 have Ni:∀b e,φ b=some e->gf b=some e:=λb e ai=>by
  rcases nA b with h|h|h
  ·rw[FJ b h];exact ai
  ·rw[abM b h] at ai;cases ai
  ·rw[Nh b h];exact ai
 have abN:∀b e,own B i b->dI b=some e->w.heap.size<=e.bJ:=λb e ai he=>by
  rcases eA.new b e ai.1 he with h|⟨cj,b4,fe,q1,_,bS,_,_⟩
  ·exact h
  ·exfalso
   have:=(vo q1).1;omega
 have akQ:(B 0).n<=(B i).n:=jK.uo (Nat.zero_le i) aj;have FK:∀b,b<(B (i+1)).n->(B m).bl.get b=cg.bl.get b:=λb ai=>by rw[jK.xT aj (c4 _) b ai,abL]
 have Nj:∀b e,φ b=some e->e.bJ<w.heap.size:=λb e ai=>by
  obtain⟨k,_,_,ah⟩:=aK.rel.fi b e ai;exact ah.lt
 have T6:∀b e,gf b=some e->(b<(B (i+1)).n/\dI b=some e)\/((B (i+1)).n<=b/\φ b=some e):=λb e ai=>by
  have:=jK.Js i ak;rcases nA b with h|h|h
  ·rw[FJ b h,<-T3 b h] at ai;exact .inl ⟨aj,ai⟩
  ·rw[Jt b h] at ai;exact .inl ⟨h.2,ai⟩
  ·rw[Nh b h] at ai;exact .inr ⟨h,ai⟩
 have xU:∀b e,gf b=some e->(own B i b/\dI b=some e/\w.heap.size<=e.bJ)\/(¬own B i b/\φ b=some e/\e.bJ<w.heap.size):=λb e ai=>by
  rcases nA b with h|h|h
  ·rw[FJ b h] at ai;exact .inr ⟨by unfold own;omega,ai,Nj b e ai⟩
  ·rw[Jt b h] at ai;exact .inl ⟨h,ai,abN b e h ai⟩
  ·rw[Nh b h] at ai;exact .inr ⟨by unfold own;omega,ai,Nj b e ai⟩
 have abO:∀b e,(B (i+1)).n<=b->φ b=some e->w'.heap[e.bJ]? =w.heap[e.bJ]? :=λb e ai he=>by
  have bd:(B 0).n<=b:=by have:=jK.Js i ak;omega
  obtain⟨j,aq,n8,jj⟩:=aK.mapped b e bd he;refine eA.keep e.bJ (Nj b e he) λcj b4 fe fD zU _=> ?_
  exfalso;obtain⟨akR,abP⟩:=vo fD;refine aK.Ng j b e cj b4 aq jj (λae=> ?_) he abP zU.symm;have pz:i+1<=j:=by
   rcases Nat.lt_or_ge i j with h|h
   ·exact h
   ·exfalso
    have:=jK.uo (i:=j+1) (j:=i+1) aj aj;unfold own at jj;omega
  have:=jK.uo (i:=i) (j:=j) aj aj;unfold own at ae;omega
 refine⟨gf,by simpa using aK.size,?_,?_,by rw[Act.Dv];exact aK.defers,by rw[Act.size_put];exact aK.nh,⟨aK.rel.wf,?_,?_,?_,λi o ak=>⟨(eA.rel.dz i o ak).1,λb e ai=>by
   rcases T6 b e ai with ⟨_,h⟩|⟨_,h⟩
   ·exact(eA.rel.dz i o ak).2 b e h
   ·exact(aK.rel.dz i o ak).2 b e h⟩⟩,?_,?_,?_,?_,?_,?_,Nat.le_trans aK.hH eA.hH,eA.os.trans aK.os,eA.tape.trans aK.tape,eA.output.trans aK.output,Nat.le_trans aK.drawn eA.drawn,?_,?_⟩
 ·intro j k aq bu
  rw[gn] at aq ⊢;rcases aq with rfl|aq
  ·exact .inr (vp k bu)
  ·exact .inr (aK.down j k aq bu)
 ·intro j aq
  rw[getD_set_ne false aj];exact aK.si j aq
 ·
  intro b e ai;rcases T6 b e ai with ⟨nf,fB⟩|⟨nf,fB⟩
  ·obtain⟨k,ao,af,ah⟩:=eA.rel.fi b e fB
   exact⟨k,(FK b nf).trans ao,af,ah.mono T5 rfl⟩
  ·obtain⟨k,ao,af,ah⟩:=aK.rel.fi b e fB
   exact⟨k,ao,af,ah.mono Ni (abO b e nf fB)⟩
 ·
  intro b e k b' e' k' ai fB ao eG dU;rcases xU b e ai with ⟨eU,jc,q1⟩|⟨eU,jc,q1⟩<;>rcases xU b' e' fB with ⟨fj,hY,aI⟩|⟨fj,hY,aI⟩
  ·exact eA.rel.apart b e k b' e' k' jc hY ((FK b eU.2).symm.trans ao) ((FK b' fj.2).symm.trans eG) dU
  ·omega
  ·omega
  ·exact aK.rel.apart b e k b' e' k' jc hY ao eG dU
 ·intro b e k b' e' k' ai fB ao eG bn kL
  rcases xU b e ai with ⟨eU,jc,q1⟩|⟨eU,jc,q1⟩<;>rcases xU b' e' fB with ⟨fj,hY,aI⟩|⟨fj,hY,aI⟩
  ·exact eA.rel.along b e k b' e' k' jc hY ((FK b eU.2).symm.trans ao) ((FK b' fj.2).symm.trans eG) bn kL
  ·omega
  ·omega
  ·exact aK.rel.along b e k b' e' k' jc hY ao eG bn kL
 ·intro b ai
  rw[FJ b aj];exact aK.old b ai
 ·intro b e bd ai
  rcases xU b e ai with ⟨eU,jc,_⟩|⟨eU,jc,_⟩
  ·exact⟨i,ak,(gn i).2 (.inl rfl),eU⟩
  ·obtain⟨j,aq,n8,jj⟩:=aK.mapped b e bd jc
   exact⟨j,aq,(gn j).2 (.inr n8),jj⟩
 ·intro j b aq az jj
  rcases(gn j).1 az with rfl|az
  ·rw[Jt b jj]
   exact eA.tf b jj.1 (by rw[<-iL];exact jj.2)
  ·obtain⟨e,he⟩:=Option.ne_none_iff_exists'.1 (aK.total j b aq az jj)
   rw[Ni b e he];simp
 ·intro b e bd ai
  rcases xU b e ai with ⟨eU,jc,q1⟩|⟨eU,jc,_⟩
  ·exact Nat.le_trans aK.hH q1
  ·exact aK.new b e bd jc
 ·
  intro j b e b' e' aq jj T7 ai fB;rcases xU b e ai with ⟨eU,jc,q1⟩|⟨eU,jc,q1⟩<;>rcases xU b' e' fB with ⟨fj,hY,aI⟩|⟨fj,hY,aI⟩
  ·exfalso
   have:=jK.TZ aq ak jj eU;subst this;exact T7 fj
  ·omega
  ·omega
  ·exact aK.Ng j b e b' e' aq jj T7 jc hY
 ·
  intro k ao lK;rw[eA.keep k (Nat.lt_of_lt_of_le ao aK.hH) ?_,aK.keep k ao lK];intro b e fE ai he yI;obtain⟨akS,T8⟩:=vo ai;rcases Nat.lt_or_ge b (B 0).n with bd|bd
  ·refine lK b e fE ?_ he ?_
   ·rw[<-aK.old b bd];exact T8
   ·rw[<-jK.xT (Nat.zero_le i) aj b bd];exact yI
  ·have:=aK.new b e bd T8
   omega
 ·
  intro t h;have sn:o.dst≠some t:=λae=>h i ak ((gn i).2 (.inl rfl)) (mh.trans ae)
  have:(a.put o.dst v').tmps.getD t undef=a.tmps.getD t undef:=by
   rcases Nat.lt_or_ge t a.tmps.size with lO|lO
   ·rw[Act.ui _ _ _ _ lO,aV sn]
   ·simp [gd,Array.getElem?_eq_none lO,Array.getElem?_eq_none (show (a.put o.dst v').tmps.size<=t by rw[Act.size_put];exact lO)]
  rw[this];exact aK.other t λj aq az=>h j aq ((gn j).2 (.inr az))
 ·intro j t aq az bu
  by_cases eR:j=i
  ·subst eR
   have lO:t<N:=c_ j t aq bu;have:(a.put o.dst v').tmps.getD t undef=v':=by
    rw[Act.ui _ _ _ _ (by rw[aK.nh];exact lO),aP (mh.symm.trans bu)]
   rw[this];refine aR.mono λb e ai=> ?_
   unfold restrict;rw[aP (T4 b e ai)];exact T5 b e ai
  ·have n8:=((gn j).1 az).resolve_left eR
   have lO:t<N:=c_ j t aq bu;have:(a.put o.dst v').tmps.getD t undef=a.tmps.getD t undef:=by
    rw[Act.ui _ _ _ _ (by rw[aK.nh];exact lO),aV];intro ae;exact lN i j ak aq (Ne.symm eR) t (mh.trans ae) bu
   rw[this];refine(aK.val j t aq n8 bu).mono λb e ai=> ?_
   obtain⟨af,ah⟩:=vo ai;unfold restrict;rw[aP af];exact Ni b e ah
end
end a1
namespace a1
variable [bp]
section
variable {P:bB} {ops:Array Oper}
omit [bp] in
theorem Ju {ro:Option Nat} {Q:Exit->Act->aG->Prop} {m:Nat} (ni:∀i j,i<ops.size->direct ops i j=true->j<i) (tu:∀i j,i<ops.size->m<=j->j<i->Na ops i j):
  ∀(bN k:Nat) (listed:Array Bool) (a:Act) (w:aG),m<=k->listed.size=ops.size->(∀i,listed.getD i false=decide (i<k/\i<ops.size))->
   p5 listed<=bN->wpListIn (Fr ro) 0 P ops Q (ops.toList.drop k) a w->wpAnyIn (Fr ro) 0 P .any ops Q bN listed a w:=by
 intro bN
 induction bN with
 |zero=>
  intro k listed a w vq ay az bn h;have ao:ops.size<=k:=by
   rcases Nat.lt_or_ge k ops.size with ao|ao
   ·exfalso
    have af:=az k;simp only [Nat.lt_irrefl,false_and,decide_false] at af;have:=uj (i:=k) (listed:=listed) aj (by rw[pA aj];exact af);omega
   ·exact ao
  have ar:Region.ready .any ops listed=[]:=by
   apply List.eq_nil_iff_forall_not_mem.2;intro i ak;obtain⟨bd,o,bW,_⟩:=mem_ready.1 ak;have ko:i<ops.size:=(Array.getElem?_eq_some_iff.1 bW).1;rw[pA aj,az i] at bd;simp [ko] at bd;omega
  rw[List.drop_of_length_le (by simpa using ao)] at h;exact⟨ar,h⟩
 |succ bN eJ=>
  intro k listed a w vq ay az bn h;rcases Nat.lt_or_ge k ops.size with ao|ao
  ·have wJ:listed.getD k false=false:=by rw[az k];simp
   have bW:ops[k]? =some ops[k]:=Array.getElem?_eq_getElem ao;have sq:k∈Region.ready .any ops listed:=by
    refine mem_ready.2 ⟨by rw[pA aj];exact wJ,ops[k],bW,λe he ai=> ?_⟩;have:direct ops k e.on=true:=by
     simp only [direct,bW];exact Array.any_eq_true'.2 ⟨e,he,by simp [ai]⟩
    have:=ni k e.on ao this;rw[az e.on];simp;omega
   refine⟨λbd=>absurd (bd▸sq) (by simp),λi ak=> ?_⟩;have abQ:i=k:=by
    obtain⟨bd,o,LW,_⟩:=mem_ready.1 ak;have ko:i<ops.size:=(Array.getElem?_eq_some_iff.1 LW).1;rw[pA aj,az i] at bd;simp only [ko,and_true,decide_eq_false_iff_not,Nat.not_lt] at bd;rcases Nat.lt_or_eq_of_le bd with ur|ur
    ·exfalso
     have down:∀i j,listed.getD i false=true->direct ops i j=true->listed.getD j false=true:=by
      intro i j af ah;rw[az i] at af;simp only [decide_eq_true_eq] at af;have:=ni i j af.2 ah;rw[az j];simp;omega
     have:=tu i k ko aj ur listed down (n_ ak);rw[wJ] at this;cases this
    ·exact ur.symm
   subst abQ;have abR:ops.toList.drop i=ops[i]::ops.toList.drop (i+1):=by
    rw[List.drop_eq_getElem_cons (by simpa using ao)];simp
   rw[abR] at h;have T9:∀bR w',wpListIn (Fr ro) 0 P ops Q (ops.toList.drop (i+1)) bR w'->wpAnyIn (Fr ro) 0 P .any ops Q bN (listed.setIfInBounds i true) bR w':=by
    intro bR w' gE;refine eJ (i+1) _ bR w' aj (by simpa using ay) ?_ ?_ gE
    ·intro j
     by_cases aq:j=i
     ·subst aq
      simp [gd,ay,ao]
     ·rw[getD_set_ne false (Ne.symm aq),az j]
      congr 1;simp only [eq_iff_iff];omega
    ·have:=uj (i:=i) (listed:=listed) aj (by rw[pA aj];exact wJ)
     omega
   unfold wpOpIn;simp only [bW];unfold wpListIn at h;split at h
   ·rename_i hw
    rw[aP hw];exact Oper.wpIn_mono T9 h
   ·rename_i hw
    rw[aV hw];exact⟨h.1,T9 _ _ h.2⟩
  ·refine⟨λ_=> ?_,λi ak=> ?_⟩
   ·rw[List.drop_of_length_le (by simpa using ao)] at h
    exact h
   ·exfalso
    obtain⟨bd,o,bW,_⟩:=mem_ready.1 ak;have ko:i<ops.size:=(Array.getElem?_eq_some_iff.1 bW).1;rw[pA aj,az i] at bd;simp [ko] at bd;omega
end
section
variable {P:bB} [Lib P] [ft P] {C:jd} {gl:cK Nat} {N:Nat} {ds:List Deferred} {ro:Option Nat} {ops:Array Oper} {m:Nat} {dH nC gX:ax} {L:List Nat} {B:Nat->bx} {a8:List ad} {gw:cD} {w0:aG} {a0:Act}
theorem abS {Q:Exit->Act->aG->Prop} (iB:uk ops L m N=true) (dN:mw P gl C) (jK:qB gw B a8 m) (mg:cB gw (B 0) w0) (z6:n' gl gw) (q4:gR N ds gw nC a0) (T2:(B m).n<=dead)
  (iP:iu N ops (λ_=>c3) (List.range m) nC=some dH) (af:iu N ops (λj=>a8.getD j c3) (List.range m) dH=some gX)
  (az:∀i o,i<m->ops[i]? =some o->Dx P C gl N ops L m dH i o (a8.take i) (a8.getD i c3) (B i) (B (i+1)))
  (abT:∀φ a w,gR N ds φ gX a->db gw (B 0) w0 φ (B m) w->wpListIn (Fr ro) 0 P ops Q (ops.toList.drop m) a w):
  ∀(bN:Nat) (listed:Array Bool) (a:Act) (w:aG) (φ:cD),tt gl N ds ops m B a8 gw w0 a0 φ listed a w->(∀j∈L,j<m->listed.getD j false=true)->p5 listed<=bN->wpAnyIn (Fr ro) 0 P .any ops Q bN listed a w:=by
 obtain⟨hm,xV,lN,c_,qW,ni,tu⟩:=Bz iB;have tail:∀(bN:Nat) (listed:Array Bool) (a:Act) (w:aG) (φ:cD),tt gl N ds ops m B a8 gw w0 a0 φ listed a w->p5 listed<=bN->(∀i,i<m->listed.getD i false=true)->wpAnyIn (Fr ro) 0 P .any ops Q bN listed a w:=by
  intro bN listed a w φ aK bn kt;refine Ju ni (λi j ak aq eR=>(tu i j ak aj eR).resolve_left aj) bN m listed a w (c4 _) aK.size (λi=> ?_) bn ?_
  ·by_cases ak:i<m
   ·rw[kt i ak];simp;omega
   ·rw[aK.si i aj];simp;omega
  ·obtain⟨q1,aI⟩:=aK.done jK mg q4 kt iP af
   exact abT φ a w q1 aI
 intro bN
 induction bN with
 |zero=>
  intro listed a w φ aK DC bn;refine tail 0 listed a w φ aK bn λi ak=> ?_
  cases h:listed.getD i false with
  |true=>rfl
  |false=>
   exfalso;have:=uj (i:=i) (listed:=listed) (by have:=aK.size;omega) (by rw[pA (by have:=aK.size;omega)];exact h);omega
 |succ bN eJ=>
  intro listed a w φ aK DC bn;by_cases kt:∀i,i<m->listed.getD i false=true
  ·exact tail (bN+1) listed a w φ aK bn kt
  ·obtain⟨i0,rM⟩:=Classical.not_forall.1 kt
   obtain⟨z7,pD⟩:=Classical.not_imp.1 rM;have pD:listed.getD i0 false=false:=by simpa using pD
   have sq:Region.ready .any ops listed≠[]:=by
    have key:∀n i,i<n->i<m->listed.getD i false=false->∃k,k∈Region.ready .any ops listed:=by
     intro n
     induction n with
     |zero=>intro i ak;omega
     |succ n BC=>
      intro i ak j6 BD;by_cases hp:∀k,direct ops i k=true->listed.getD k false=true
      ·refine⟨i,mem_ready.2 ⟨by rw[pA (by have:=aK.size;omega)];exact BD,ops[i]'(by omega),Array.getElem?_eq_getElem _,λe he ai=>hp _ ?_⟩⟩
       have bW:ops[i]? =some (ops[i]'(by omega)):=Array.getElem?_eq_getElem _;simp only [direct,bW];exact Array.any_eq_true'.2 ⟨e,he,by simp [ai]⟩
      ·obtain⟨k,ao⟩:=Classical.not_forall.1 hp
       obtain⟨bu,wJ⟩:=Classical.not_imp.1 ao;have:=ni i k aj bu;exact BC k aj aj (by simpa using wJ)
    obtain⟨k,ao⟩:=key (i0+1) i0 aj z7 pD;intro h;rw[h] at ao;cases ao
   refine⟨λbd=>absurd bd sq,λi ak=> ?_⟩;obtain⟨sm,o,bW,_⟩:=mem_ready.1 ak;have ko:i<ops.size:=(Array.getElem?_eq_some_iff.1 bW).1;have p6:listed.getD i false=false:=by rw[<-pA (by have:=aK.size;omega)];exact sm
   have j6:i<m:=by
    rcases Nat.lt_or_ge i m with h|h
    ·exact h
    ·exfalso
     rcases tu i i0 ko h aj with ⟨wK,_⟩|cG
     ·have:=DC i0 wK z7
      rw[pD] at this;cases this
     ·have:=cG listed aK.down (n_ ak)
      rw[pD] at this;cases this
   obtain⟨sl,hg,FI⟩:=az i o j6 bW;have Nk:∃cg,vm P C gl ops o sl {B i with low:=(B i).n}=some (a8.getD i c3,cg)/\(B i).n<=cg.low/\B (i+1)={cg with low:=(B i).low}:=by
    rcases FI with ⟨wK,_⟩|⟨_,h⟩
    ·have:=DC i wK j6
     rw[p6] at this;cases this
    ·exact h
   obtain⟨cg,aR,n3,sk⟩:=Nk;have abU:=aK.here jK mg T2 j6;have um:∀b e,gw b=some e->restrict φ (B i).n b=some e:=λb e ai=>by
    have fD:=mg.lt ai;have:=jK.uo (Nat.zero_le i) aj;unfold restrict;rw[aP aj,aK.old b fD];exact ai
   have DA:∀t v,sl.get t=some v->aM (restrict φ (B i).n) v (a.tmps.getD t undef):=by
    intro t v q3;rcases pB _ _ _ hg t v q3 with ⟨j,aq,bu,rfl⟩|⟨yJ,xS⟩
    ·have pE:=qW i o j6 bW j aq
     have eR:=ni i j ko pE;have n8:=n_ ak j pE;have hval:=aK.val j t aj n8 bu;have bs:(a8.take i).getD j c3=a8.getD j c3:=by
      simp only [eP,List.getElem?_take,aP eR]
     rw[bs];exact hval.mono (T1 (jK.uo aj aj))
    ·rcases pB _ _ _ iP t v xS with ⟨j,aq,bu,rfl⟩|⟨Jv,sj⟩
     ·exact .c3 _
     ·rw[aK.other t λj aq _=>Jv j (List.mem_range.2 aq)]
      exact(q4.get t v sj).mono um
   unfold wpOpIn;simp only [bW];refine FG dN (abU.lower (B i).n) (z6.mono um) DA aR λdI v' w' wB p2=> ?_
   obtain⟨gf,Nl⟩:=aK.step jK mg j6 hm bW p6 (n_ ak) lN c_ n3 sk wB p2;exact eJ _ _ _ gf Nl (λj aq fZ=>by
    by_cases eR:j=i
    ·subst eR
     have:=aK.size;simp [gd,show j<listed.size by omega]
    ·rw[getD_set_ne false (Ne.symm eR)]
     exact DC j aq fZ) (by
    have:=uj (i:=i) (listed:=listed) (by have:=aK.size;omega) sm
    omega)
end
section
variable {P:bB} [Lib P] [ft P] {C:jd} {gl:cK Nat} {N:Nat} {ds:List Deferred} {ro:Option Nat} {ops:Array Oper} {m:Nat} {dH nC:ax} {L:List Nat} {B:Nat->bx} {a8:List ad} {gw:cD} {w0:aG} {a0:Act}
omit [Lib P] [ft P] in
theorem tt.abV {φ:cD} {listed:Array Bool} {a:Act} {w:aG} (aK:tt gl N ds ops m B a8 gw w0 a0 φ listed a w) {i:Nat} {o:Oper} (ak:i<m) (hm:m<=ops.size) (bW:ops[i]? =some o) (sm:listed.getD i false=false)
  (vp:∀k,direct ops i k=true->listed.getD k false=true) (lN:∀i j,i<m->j<m->i≠j->∀t,gv ops i=some t->gv ops j≠some t) (c_:∀i t,i<m->gv ops i=some t->t<N)
  (sk:B (i+1)=B i) {v':ad} (aR:aM (restrict φ (B i).n) (a8.getD i c3) v'):tt gl N ds ops m B a8 gw w0 a0 φ (listed.setIfInBounds i true) (a.put o.dst v') w:=by
 have mh:gv ops i=o.dst:=by simp [gv,bW]
 have gn:∀j,(listed.setIfInBounds i true).getD j false=true↔j=i\/listed.getD j false=true:=by
  intro j;by_cases aq:j=i
  ·subst aq
   have:=aK.size;simp [gd,show j<listed.size by omega]
  ·rw[getD_set_ne false (Ne.symm aq)]
   simp [aq]
 refine⟨by simpa using aK.size,?_,?_,by rw[Act.Dv];exact aK.defers,by rw[Act.size_put];exact aK.nh,aK.rel,aK.old,?_,?_,aK.new,aK.Ng,aK.keep,aK.hH,aK.os,aK.tape,aK.output,aK.drawn,?_,?_⟩
 ·intro j k aq bu
  rw[gn] at aq ⊢;rcases aq with rfl|aq
  ·exact .inr (vp k bu)
  ·exact .inr (aK.down j k aq bu)
 ·intro j aq
  rw[getD_set_ne false aj];exact aK.si j aq
 ·intro b e bd ai
  obtain⟨j,aq,n8,jj⟩:=aK.mapped b e bd ai;exact⟨j,aq,(gn j).2 (.inr n8),jj⟩
 ·intro j b aq az jj
  rcases(gn j).1 az with rfl|az
  ·exfalso
   unfold own at jj;rw[sk] at jj;omega
  ·exact aK.total j b aq az jj
 ·intro t h
  have sn:o.dst≠some t:=λae=>h i ak ((gn i).2 (.inl rfl)) (mh.trans ae)
  have:(a.put o.dst v').tmps.getD t undef=a.tmps.getD t undef:=by
   rcases Nat.lt_or_ge t a.tmps.size with lO|lO
   ·rw[Act.ui _ _ _ _ lO,aV sn]
   ·simp [gd,Array.getElem?_eq_none lO,Array.getElem?_eq_none (show (a.put o.dst v').tmps.size<=t by rw[Act.size_put];exact lO)]
  rw[this];exact aK.other t λj aq az=>h j aq ((gn j).2 (.inr az))
 ·intro j t aq az bu
  by_cases eR:j=i
  ·subst eR
   have lO:t<N:=c_ j t aq bu;have:(a.put o.dst v').tmps.getD t undef=v':=by
    rw[Act.ui _ _ _ _ (by rw[aK.nh];exact lO),aP (mh.symm.trans bu)]
   rw[this,sk];exact aR
  ·have n8:=((gn j).1 az).resolve_left eR
   have lO:t<N:=c_ j t aq bu;have:(a.put o.dst v').tmps.getD t undef=a.tmps.getD t undef:=by
    rw[Act.ui _ _ _ _ (by rw[aK.nh];exact lO),aV];intro ae;exact lN i j ak aq (Ne.symm eR) t (mh.trans ae) bu
   rw[this];exact aK.val j t aq n8 bu
theorem abW {Q:Exit->Act->aG->Prop} (iB:uk ops L m N=true) (gg:vl P) (jK:qB gw B a8 m) (mg:cB gw (B 0) w0) (z6:n' gl gw) (q4:gR N ds gw nC a0)
  (iP:iu N ops (λ_=>c3) (List.range m) nC=some dH) (xW:∀c a w,¬Q (.panic c) a w)
  (az:∀i o,i<m->ops[i]? =some o->Dx P C gl N ops L m dH i o (a8.take i) (a8.getD i c3) (B i) (B (i+1)))
  (z8:∀(bN:Nat) (listed:Array Bool) (a:Act),tt gl N ds ops m B a8 gw w0 a0 gw listed a w0->(∀j∈L,j<m->listed.getD j false=true)->p5 listed<=bN->wpAnyIn (Fr ro) 0 P .any ops Q bN listed a w0):
  ∀(r:List Nat) (bN:Nat) (listed:Array Bool) (a:Act),(r≠[]->ro=none)->xQ ops r listed=true->(∀i∈r,i∈L/\i<m)->(∀j∈L,j<m->listed.getD j false=true\/j∈r)->tt gl N ds ops m B a8 gw w0 a0 gw listed a w0->
   p5 listed<=bN->wpAnyIn (Fr ro) 0 P .any ops Q bN listed a w0:=by
 obtain⟨hm,xV,lN,c_,qW,ni,tu⟩:=Bz iB;intro r
 induction r with
 |nil=>
  intro bN listed a _ _ _ jZ aK bn;exact z8 bN listed a aK (λj aq fZ=>(jZ j aq fZ).resolve_right (by simp)) bn
 |cons i r eJ=>
  intro bN listed a ih yK ar jZ aK bn;have FL:ro=none:=ih (by simp);obtain⟨wK,j6⟩:=ar i List.mem_cons_self;simp only [xQ,fy] at yK;obtain⟨⟨sq,Nn⟩,o0,yK⟩:=yK;have ak:i∈Region.ready .any ops listed:=by simpa using sq
  obtain⟨sm,o,bW,_⟩:=mem_ready.1 ak;have ko:i<ops.size:=(Array.getElem?_eq_some_iff.1 bW).1;have p6:listed.getD i false=false:=by rw[<-pA (by have:=aK.size;omega)];exact sm
  rw[bW] at o0;simp only at o0;have Np:=uj (i:=i) (listed:=listed) (by have:=aK.size;omega) sm;cases bN with
  |zero=>omega
  |succ bN=>
   obtain⟨sl,hg,FI⟩:=az i o j6 bW;have Nk:zY P (eQ gl sl) o=some (a8.getD i c3)/\B (i+1)=B i:=by
    rcases FI with ⟨_,h⟩|⟨aT,_⟩
    ·exact h
    ·exact absurd wK aT
   obtain⟨tr,sk⟩:=Nk;have um:∀b e,gw b=some e->restrict gw (B i).n b=some e:=λb e ai=>by
    have fD:=mg.lt ai;have:=jK.uo (Nat.zero_le i) aj;unfold restrict;rw[aP aj];exact ai
   have DA:∀t v,sl.get t=some v->aM (restrict gw (B i).n) v (a.tmps.getD t undef):=by
    intro t v q3;rcases pB _ _ _ hg t v q3 with ⟨j,aq,bu,rfl⟩|⟨yJ,xS⟩
    ·have pE:=qW i o j6 bW j aq
     have eR:=ni i j ko pE;have n8:=n_ ak j pE;have hval:=aK.val j t aj n8 bu;have bs:(a8.take i).getD j c3=a8.getD j c3:=by
      simp only [eP,List.getElem?_take,aP eR]
     rw[bs];exact hval.mono (T1 (jK.uo aj aj))
    ·rcases pB _ _ _ iP t v xS with ⟨j,aq,bu,rfl⟩|⟨Jv,sj⟩
     ·exact .c3 _
     ·rw[aK.other t λj aq _=>Jv j (List.mem_range.2 aq)]
      exact(q4.get t v sj).mono um
   obtain⟨v',ho,aR⟩:=Jq gg (h_ (z6.mono um) DA) tr;have wL:Region.wanted o (yielded ops a.tmps)=true:=by
    unfold yH at o0;unfold Region.wanted;cases bg:o.guard with
    |none=>rfl
    |some g=>rw[bg] at o0;simp at o0
   have Nq:∀w,o.about P w a.eval=none:=by
    intro w;unfold Oper.about;unfold yH at o0;cases eb:o.op<;>simp only [eb,Bool.and_false,Bool.false_eq_true] at o0 ⊢
   have Nr:YieldsFenced P ops o v' a:=⟨.inl ⟨wL,ho⟩,Nq⟩;refine wpAnyIn_take (F:=Fr ro) (by rw[FL];rfl) bW xV Nn sq (λc a w h=>absurd h (xW c _ w)) Nr ?_;refine eJ bN _ _ (λ_=>FL) yK (λk ao=>ar k (List.mem_cons_of_mem _ ao)) (λj aq fZ=> ?_) (aK.abV j6 hm bW p6 (n_ ak) lN c_ sk aR) aj;by_cases eR:j=i
   ·subst eR
    refine .inl ?_;have:=aK.size;simp [gd,show j<listed.size by omega]
   ·rw[getD_set_ne false (Ne.symm eR)]
    rcases jZ j aq fZ with h|h
    ·exact .inl h
    ·rcases List.mem_cons.1 h with rfl|h
     ·exact absurd rfl eR
     ·exact .inr h
end
omit [bp] in
theorem abX {ops:Array Oper} {N:Nat} {hX:Bool} {L:List Nat} {m:Nat} (h:Nd ops N hX=some (L,m)):
  uk ops L m N=true/\xQ ops L (Array.replicate ops.size false)=true/\(∀i∈L,i<m)/\(hX=true->L=[]):=by
 unfold Nd at h;simp only at h;generalize hm:Nc (TX (bif hX then [] else wG ops)) ops.toList 0 [] 0=oY at h;generalize jZ:(bif hX then [] else wG ops).filter (λi=>Nat.blt i oY)=L' at h;cases ai:(uk ops L' oY N&&xQ ops L' (Array.replicate ops.size false)) with
 |false=>rw[ai] at h;cases h
 |true=>
  rw[ai] at h;cases h;simp only [fy] at ai;refine⟨ai.1,ai.2,λi ak=> ?_,λar=> ?_⟩
  ·rw[<-jZ] at ak
   exact Nat.blt_eq.mp (List.mem_filter.1 ak).2
  ·rw[<-jZ,ar];rfl
section
variable {P:bB} [Lib P] [ft P] {C:jd} {gl:cK Nat} {N:Nat}
theorem T' (et:P.follows .mixedOrders=true) (dN:mw P gl C) {ro:Option Nat} {ds:List Deferred} {Q:Exit->Act->aG->Prop} {id:Nat} {ops:Array Oper} {sl eX:ax} {A bK:bx} {r:List Oper} {φ:cD} {w:aG} {a:Act} (ar:cB φ A w) (bg:n' gl φ) (ay:gR N ds φ sl a) {hX:Bool} (ih:hX=false->ro=none) (xW:∀c a w,¬Q (.panic c) a w)
  (h:Jr P C gl N hX ops sl A=some (eX,bK,r)) (dZ:∀dI bR w',gR N ds dI eX bR->db φ A w dI bK w'->wpListIn (Fr ro) 0 P ops Q r bR w'):(Code.region id ops true).wpIn (Fr ro) 0 P Q a w:=by
 unfold Jr at h;split at h
 ·rename_i L m zZ
  obtain⟨iB,FM,Ns,abY⟩:=abX zZ;have abZ:m<=ops.size:=(Bz iB).1;split at h
  ·rename_i dH iP
   split at h
   ·rename_i a8 cg gg
    cases ai:Nat.ble cg.n dead with
    |false=>rw[ai] at h;cases h
    |true=>
     rw[ai,cN] at h;split at h
     ·rename_i gX af
      cases h;obtain⟨B,cj,fR,fC,iN,IS⟩:=TY _ 0 [] _ _ _ rfl gg;have hlen:(ops.toList.take m).length=m:=by simp;omega
      rw[hlen] at fR;subst cj;have az:∀i o,i<m->ops[i]? =some o->Dx P C gl N ops L m dH i o (a8.take i) (a8.getD i c3) (B i) (B (i+1)):=by
       intro i o ak bW;have:=IS i o (by rw[List.getElem?_take,aP ak];simpa using bW);simpa using this
      have mg:cB φ (B 0) {w with drawn:=w.drawn+1}:=(db.zR ar (w.drawn+1)).rel;obtain⟨_,_,_,_,qW,ni,_⟩:=Bz iB;have jK:qB φ B a8 m:=abG dN mg bg rfl abZ (λt v aR=>⟨_,ay.get t v aR⟩) iP (λi o ak bW j aq=>ni i j aj (qW i o ak bW j aq)) az;refine wpIn_region_any et ?_;refine abW iB dN.facts jK mg bg ay iP xW az (λbN listed eY Nl DC Nt=>abS iB dN jK mg bg ay (by rw[fR];exact Nat.ble_eq.mp ai) iP af az (λhO eL w1 q1 aI=> ?_) bN listed eY _ φ Nl DC Nt) L ops.size _ a ?_ FM (λi ak=>⟨ak,Ns i ak⟩) (λj aq _=> .inr aq) ?_ ?_
      ·rw[fR] at aI
       exact dZ hO eL w1 q1 (db.trans ar (db.zR ar (w.drawn+1)) aI)
      ·intro dU
       refine ih ?_;cases sr:hX with
       |false=>rfl
       |true=>exact absurd (abY sr) dU
      ·have bn:∀i,(Array.replicate ops.size false).getD i false=false:=λi=>by
        rw[gd,Array.getElem?_replicate];split<;>rfl
       have Nu:∀b e,φ b=some e->¬(B 0).n<=b:=λb e ai=>by have:=mg.lt ai;omega
       refine⟨by simp,λi j ak=>absurd ak (by rw[bn];simp),λi _=>bn i,ay.defers,ay.size,?_,λ_ _=>rfl,λb e bd ai=>absurd bd (Nu b e ai),λj b _ az=>absurd az (by rw[bn];simp),
        λb e bd ai=>absurd bd (Nu b e ai),λj b e b' e' aq bW _ ai=> ?_,λ_ _ _=>rfl,c4 _,rfl,rfl,rfl,c4 _,λ_ _=>rfl,λi t _ az=>absurd az (by rw[bn];simp)⟩
       ·obtain⟨ψ,w',g1,_⟩:=jK.ex m (c4 _)
        refine⟨g1.wf,λb e ai=> ?_,λb e k b' e' k' ai fB ao eG dU=> ?_,λb e k b' e' k' ai fB ao eG bn kL=> ?_,mg.dz⟩
        ·obtain⟨k,ao,q1,aI⟩:=mg.fi b e ai
         exact⟨k,by rw[jK.xT (Nat.zero_le m) (c4 _) b (mg.lt ai)];exact ao,q1,aI⟩
        ·rw[jK.xT (Nat.zero_le m) (c4 _) b (mg.lt ai)] at ao
         rw[jK.xT (Nat.zero_le m) (c4 _) b' (mg.lt fB)] at eG;exact mg.apart b e k b' e' k' ai fB ao eG dU
        ·rw[jK.xT (Nat.zero_le m) (c4 _) b (mg.lt ai)] at ao
         rw[jK.xT (Nat.zero_le m) (c4 _) b' (mg.lt fB)] at eG;exact mg.along b e k b' e' k' ai fB ao eG bn kL
       ·exfalso
        have:=jK.uo (Nat.zero_le j) aj;exact Nu b e ai (Nat.le_trans this bW.1)
      ·unfold p5
       exact Nat.le_trans List.count_le_length (by simp)
     ·cases h
   ·cases h
  ·cases h
 ·cases h
theorem ab0 (et:P.follows .mixedOrders=true) (dN:mw P gl C) {ro:Option Nat} {ds:List Deferred} {Q:Exit->Act->aG->Prop} {id:Nat} {ops:Array Oper} {sl eX:ax} {A bK:bx} {φ:cD} {w:aG} {a:Act} (ar:cB φ A w) (bg:n' gl φ) (ay:gR N ds φ sl a) {hX:Bool} (ih:hX=false->ro=none) (xW:∀c a w,¬Q (.panic c) a w)
  (h:Nf P C gl N hX ops sl A=some (eX,bK)) (dZ:∀dI bR w',gR N ds dI eX bR->db φ A w dI bK w'->Q .normal bR w'):(Code.region id ops true).wpIn (Fr ro) 0 P Q a w:=by
 unfold Nf at h;split at h
 ·rename_i gX cg r af
  refine T' et dN ar bg ay ih xW af λhO eL w1 q1 aI=> ?_
  refine M9 dN _ _ _ _ _ _ _ _ aI.rel (bg.mono (aI.ext ar)) q1 h λgf eY w2 c9 eF=> ?_
  exact dZ gf eY w2 c9 (db.trans ar aI eF)
 ·cases h
end
end a1
namespace a1
mutual
def z':ad->ad->Bool
 | .bool a,.bool b=>a==b
 | .int k n,.int k' mr=>decide (k=k')&&decide (n=mr)
 | .complex k a b,.complex k' bR b'=>decide (k=k')&&(Nat.beq a bR&&Nat.beq b b')
 | .string s,.string t=>s.data.toList==t.data.toList
 | .pointer none,.pointer none=>true
 | .pointer (some ⟨b,o,none⟩),.pointer (some ⟨b',o',none⟩)=>Nat.beq b b'&&Nat.beq o o'
 | .slice none l c,.slice none l' c'=>Nat.beq l l'&&Nat.beq c c'
 | .slice (some ⟨b,o,none⟩) l c,.slice (some ⟨b',o',none⟩) l' c'=>(Nat.beq b b'&&Nat.beq o o')&&(Nat.beq l l'&&Nat.beq c c')
 | .map none,.map none=>true
 | .map (some a),.map (some b)=>Nat.beq a b
 | .nilFunc,.nilFunc=>true
 | .nilIface,.nilIface=>true
 | .func (.func f) ⟨a⟩ ⟨b⟩,.func (.func g) ⟨bR⟩ ⟨b'⟩=>Nat.beq f g&&(vr a bR&&vr b b')
 | .func (.yield f) ⟨a⟩ ⟨b⟩,.func (.yield g) ⟨bR⟩ ⟨b'⟩=>Nat.beq f g&&(vr a bR&&vr b b')
 | .iface t v,.iface fk v'=>Nat.beq t fk&&z' v v'
 | .agg ⟨l⟩,.agg ⟨l'⟩=>vr l l'
 | .tuple ⟨l⟩,.tuple ⟨l'⟩=>vr l l'
 |_,_=>false
def vr:List ad->List ad->Bool
 |[],[]=>true
 |v::r,v'::iA=>z' v v'&&vr r iA
 |_,_=>false
end
mutual
theorem FN:∀(a b:ad),z' a b=true->a=b:=by
 intro a b h;unfold z' at h;split at h<;>try (simp only [fy,decide_eq_true_eq] at h)
 ·rw[eq_of_beq h]
 ·rw[h.1,h.2]
 ·rw[h.1,ep h.2.1,ep h.2.2]
 ·rename_i s t
  have:=eq_of_beq h;obtain⟨⟨s⟩⟩:=s;obtain⟨⟨t⟩⟩:=t;simp only at this;rw[this]
 ·rfl
 ·rw[ep h.1,ep h.2]
 ·rw[ep h.1,ep h.2]
 ·rw[ep h.1.1,ep h.1.2,ep h.2.1,ep h.2.2]
 ·rfl
 ·rw[ep h]
 ·rfl
 ·rfl
 ·rw[ep h.1,z_ _ _ h.2.1,z_ _ _ h.2.2]
 ·rw[ep h.1,z_ _ _ h.2.1,z_ _ _ h.2.2]
 ·rename_i t v fk v'
  rw[ep h.1,FN v v' h.2]
 ·rw[z_ _ _ h]
 ·rw[z_ _ _ h]
 ·cases h
theorem z_:∀(a b:List ad),vr a b=true->a=b
 |[],[],_=>rfl
 |v::r,v'::iA,h=>by
  unfold vr at h;simp only [fy] at h;rw[FN v v' h.1,z_ r iA h.2]
 |[],_::_,h=>by simp [vr] at h
 |_::_,[],h=>by simp [vr] at h
end
def ab1 {α:Type} (f:α->α->Bool):Option α->Option α->Bool
 |none,none=>true
 |some a,some b=>f a b
 |_,_=>false
def BE {α:Type} (f:α->α->Bool):cK α->cK α->Bool
 | .nil,.nil=>true
 | .node v l r,.node v' l' iA=>ab1 f v v'&&(BE f l l'&&BE f r iA)
 |_,_=>false
theorem FO {α:Type} {f:α->α->Bool} (bn:∀a b,f a b=true->a=b):∀(a b:cK α),BE f a b=true->a=b
 | .nil,.nil,_=>rfl
 | .nil,.node _ _ _,h=>by cases h
 | .node _ _ _,.nil,h=>by cases h
 | .node v l r,.node v' l' iA,h=>by
   unfold BE at h;simp only [fy] at h;rw[FO bn l l' h.2.1,FO bn r iA h.2.2];have af:=h.1;cases v with
   |none=>cases v' with
    |none=>rfl
    |some b=>cases af
   |some a=>cases v' with
    |none=>cases af
    |some b=>rw[bn a b af]
def T_ (a b:lj):Bool:=z' a.key b.key&&(z' a.val b.val&&Nat.beq a.born b.born)
def Jw:List lj->List lj->Bool
 |[],[]=>true
 |a::r,b::iA=>T_ a b&&Jw r iA
 |_,_=>false
theorem Ua:∀(a b:List lj),Jw a b=true->a=b
 |[],[],_=>rfl
 |[],_::_,h=>by cases h
 |_::_,[],h=>by cases h
 |⟨k,v,n⟩::r,⟨k',v',mr⟩::iA,h=>by
  unfold Jw T_ at h;simp only [fy] at h;rw[FN _ _ h.1.1,FN _ _ h.1.2.1,ep h.1.2.2,Ua r iA h.2]
def Nv:v_->v_->Bool
 | .cells c,.cells c'=>vr c c'
 | .map es fA,.map eu ab2=>Jw es eu&&Nat.beq fA ab2
 | .hV (.yv s p),.hV (.yv hA p')=>s.data.toList==hA.data.toList&&Nat.beq p p'
 | .hV .deferred,.hV .deferred=>true
 | .hV .gone,.hV .gone=>true
 |_,_=>false
theorem ab3 {a b:v_} (h:Nv a b=true):a=b:=by
 unfold Nv at h;split at h<;>try (simp only [fy] at h)
 ·rw[z_ _ _ h]
 ·rw[Ua _ _ h.1,ep h.2]
 ·rename_i s p hA p'
  have:=eq_of_beq h.1;obtain⟨⟨s⟩⟩:=s;obtain⟨⟨hA⟩⟩:=hA;simp only at this;rw[this,ep h.2]
 ·rfl
 ·rfl
 ·cases h
def Nw (a b:iX):Bool:=Nv a.obj b.obj&&((Nat.beq a.dG b.dG&&Nat.beq a.pos b.pos)&&((Nat.beq a.fO b.fO&&Nat.beq a.ty b.ty)&&a.ro==b.ro))
theorem ab4 {a b:iX} (h:Nw a b=true):a=b:=by
 obtain⟨o,f,p,s,r,t⟩:=a;obtain⟨o',nB,p',hA,iA,fk⟩:=b;unfold Nw at h;simp only [fy] at h;obtain⟨af,⟨ah,aH⟩,⟨ck,dd⟩,dM⟩:=h;rw[ab3 af,ep ah,ep aH,ep ck,ep dd,eq_of_beq dM]
def Jx:List Nat->List Nat->Bool
 |[],[]=>true
 |a::r,b::iA=>Nat.beq a b&&Jx r iA
 |_,_=>false
theorem Ub:∀(a b:List Nat),Jx a b=true->a=b
 |[],[],_=>rfl
 |[],_::_,h=>by cases h
 |_::_,[],h=>by cases h
 |a::r,b::iA,h=>by
  unfold Jx at h;simp only [fy] at h;rw[ep h.1,Ub r iA h.2]
def FP (x y:ax×bx):Bool:=BE z' x.1 y.1&&((BE Nw x.2.bl y.2.bl&&BE Jx x.2.mem y.2.mem)&&(Nat.beq x.2.n y.2.n&&Nat.beq x.2.low y.2.low))
theorem Uc {x y:ax×bx} (h:FP x y=true):x=y:=by
 obtain⟨sl,bl,n,mem,low⟩:=x;obtain⟨eX,akT,mr,akU,akV⟩:=y;unfold FP at h;simp only [fy] at h;obtain⟨af,⟨ah,aH⟩,ck,dd⟩:=h;rw[FO FN _ _ af,FO (λ_ _=>ab4) _ _ ah,FO Ub _ _ aH,ep ck,ep dd]
def BF (P:bB) [Lib P] [ft P] (C:jd) (gl:cK Nat) (N:Nat) (ops:Array Oper):Nat->Array Bool->ax->bx->Option (ax×bx)
 |0,listed,sl,A=>match Region.ready .any ops listed with
  |[]=>some (sl,A)
  |_::_=>none
 |f+1,listed,sl,A=>
  let go:=λi=>match ops[i]? with
   |some o=>match Bw P C gl N ops o sl A with
    |some (gX,cg)=>BF P C gl N ops f (listed.setIfInBounds i true) gX cg
    |none=>none
   |none=>none
  match Region.ready .any ops listed with
  |[]=>some (sl,A)
  |i::r=>match go i with
   |some x=>match r.all (λj=>match go j with|some y=>FP x y|none=>false) with
    |true=>some x
    |false=>none
   |none=>none
def Jy (P:bB) [ft P] (gl:cK Nat) (N:Nat) (ops:Array Oper):List Nat->ax->Option ax
 |[],sl=>some sl
 |i::r,sl=>match ops[i]? with
  |some o=>match zY P (eQ gl sl) o with
   |some v=>match e8 N sl o.dst v with
    |some gX=>Jy P gl N ops r gX
    |none=>none
   |none=>none
  |none=>none
def Jz:List Nat->Array Bool->Array Bool
 |[],l=>l
 |i::r,l=>Jz r (l.setIfInBounds i true)
def JA (P:bB) [Lib P] [ft P] (C:jd) (gl:cK Nat) (N:Nat) (hX:Bool) (ops:Array Oper) (sl:ax) (A:bx):Option (ax×bx):=
 let L:=bif hX then [] else wG ops
 bif Nat.ble ops.size (L.length+64)&&(Region.noSelect ops&&(xQ ops L (Array.replicate ops.size false)&&Nat.ble L.length ops.size)) then
  match Jy P gl N ops L sl with
  |some gX=>BF P C gl N ops (ops.size-L.length) (Jz L (Array.replicate ops.size false)) gX A
  |none=>none
 else none
variable [bp]
section
variable {P:bB} [Lib P] [ft P] {C:jd} {gl:cK Nat} {N:Nat} {ds:List Deferred} {ro:Option Nat} {ops:Array Oper} {Q:Exit->Act->aG->Prop}
theorem Ud (dN:mw P gl C):∀(f:Nat) (listed:Array Bool) (sl eX:ax) (A bK:bx) (φ:cD) (w:aG) (a:Act),cB φ A w->n' gl φ->gR N ds φ sl a->BF P C gl N ops f listed sl A=some (eX,bK)->
  (∀dI bR w',gR N ds dI eX bR->db φ A w dI bK w'->Q .normal bR w')->wpAnyIn (Fr ro) 0 P .any ops Q f listed a w
 |0,listed,sl,eX,A,bK,φ,w,a,ar,bg,ay,h,dZ=>by
  unfold BF at h;split at h
  ·rename_i xX
   cases h;exact wpAnyIn_done xX (dZ φ a w ay (db.refl ar)) 0
  ·cases h
 |f+1,listed,sl,eX,A,bK,φ,w,a,ar,bg,ay,h,dZ=>by
  unfold BF at h;simp only at h;split at h
  ·rename_i xX
   cases h;exact wpAnyIn_done xX (dZ φ a w ay (db.refl ar)) _
  ·rename_i i r xX
   have lK:∀j∈i::r,(match ops[j]? with
     |some o=>match Bw P C gl N ops o sl A with
      |some (gX,cg)=>BF P C gl N ops f (listed.setIfInBounds j true) gX cg
      |none=>none
     |none=>none)=some (eX,bK):=by
    split at h
    ·rename_i x aw
     split at h
     ·rename_i ai
      cases h;intro j aq;rcases List.mem_cons.1 aq with rfl|aq
      ·exact aw
      ·have fB:=List.all_eq_true.1 ai j aq
       revert fB;generalize (match ops[j]? with
        |some o=>match Bw P C gl N ops o sl A with
         |some (gX,cg)=>BF P C gl N ops f (listed.setIfInBounds j true) gX cg
         |none=>none
        |none=>none)=z
       intro fB;cases z with
       |none=>cases fB
       |some y=>rw[Uc fB]
     ·cases h
    ·cases h
   refine wpAnyIn_all xX (by simp) λj aq=> ?_
   have h4:=lK j aq;split at h4
   ·rename_i o bW
    split at h4
    ·rename_i gX cg eA
     obtain⟨v,aR,hp⟩:=M7 eA;unfold wpOpIn;rw[bW];refine FG dN ar bg ay.get aR λdI v' w' wB p2=> ?_
     exact Ud dN f _ gX eX cg bK dI w' (a.put o.dst v') p2.rel (bg.mono (p2.ext ar)) ((ay.mono (p2.ext ar)).put wB hp) h4 λgf eY w2 af ah=>dZ gf eY w2 af (db.trans ar p2 ah)
    ·cases h4
   ·cases h4
omit [Lib P] in
theorem Ue (gg:vl P) (xV:Region.noSelect ops=true) (FL:ro=none) (xW:∀c a w,¬Q (.panic c) a w) {φ:cD} {w:aG} (bg:n' gl φ):∀(L:List Nat) (bN:Nat) (listed:Array Bool) (sl eX:ax) (a:Act),gR N ds φ sl a->xQ ops L listed=true->Jy P gl N ops L sl=some eX->
  (∀bR,gR N ds φ eX bR->wpAnyIn (Fr ro) 0 P .any ops Q bN (Jz L listed) bR w)->wpAnyIn (Fr ro) 0 P .any ops Q (bN+L.length) listed a w
 |[],bN,listed,sl,eX,a,ay,_,h,dZ=>by
  cases h;exact dZ a ay
 |i::r,bN,listed,sl,eX,a,ay,yK,h,dZ=>by
  simp only [xQ,fy] at yK;obtain⟨⟨sq,Nn⟩,o0,yK⟩:=yK;unfold Jy at h;split at h
  ·rename_i o bW
   rw[bW] at o0;simp only at o0;split at h
   ·rename_i v tr
    split at h
    ·rename_i gX iQ
     obtain⟨v',ho,aR⟩:=Jq gg (h_ bg ay.get) tr;have wL:Region.wanted o (yielded ops a.tmps)=true:=by
      unfold yH at o0;unfold Region.wanted;cases bg:o.guard with
      |none=>rfl
      |some g=>rw[bg] at o0;simp at o0
     have Nq:∀w,o.about P w a.eval=none:=by
      intro w;unfold Oper.about;unfold yH at o0;cases eb:o.op<;>simp only [eb,Bool.and_false,Bool.false_eq_true] at o0 ⊢
     have Nr:YieldsFenced P ops o v' a:=⟨.inl ⟨wL,ho⟩,Nq⟩;show wpAnyIn (Fr ro) 0 P .any ops Q (bN+r.length+1) listed a w;refine wpAnyIn_take (F:=Fr ro) (by rw[FL];rfl) bW xV Nn sq (λc a w h=>absurd h (xW c _ w)) Nr ?_;exact Ue gg xV FL xW bg r bN _ gX eX (a.put o.dst v') (ay.put aR iQ) yK h dZ
    ·cases h
   ·cases h
  ·cases h
theorem Uf (et:P.follows .mixedOrders=true) (dN:mw P gl C) {id:Nat} {sl eX:ax} {A bK:bx} {φ:cD} {w:aG} {a:Act} (ar:cB φ A w) (bg:n' gl φ) (ay:gR N ds φ sl a) {hX:Bool} (ih:hX=false->ro=none) (xW:∀c a w,¬Q (.panic c) a w)
  (h:JA P C gl N hX ops sl A=some (eX,bK)) (dZ:∀dI bR w',gR N ds dI eX bR->db φ A w dI bK w'->Q .normal bR w'):(Code.region id ops true).wpIn (Fr ro) 0 P Q a w:=by
 unfold JA at h;simp only at h;cases ai:(Nat.ble ops.size ((bif hX then [] else wG ops).length+64)&&(Region.noSelect ops&&(xQ ops (bif hX then [] else wG ops) (Array.replicate ops.size false)&&Nat.ble (bif hX then [] else wG ops).length ops.size))) with
 |false=>rw[ai] at h;cases h
 |true=>
  rw[ai,cN] at h;simp only [fy] at ai;obtain⟨_,xV,FM,hle⟩:=ai;have Nx:=Nat.ble_eq.mp hle;split at h
  ·rename_i gX bw
   have eA:=db.zR ar (w.drawn+1) (Nat.le_succ _);refine wpIn_region_any et ?_;have z8:∀bR,gR N ds φ gX bR->wpAnyIn (Fr ro) 0 P .any ops Q (ops.size-(bif hX then [] else wG ops).length) (Jz (bif hX then [] else wG ops) (Array.replicate ops.size false)) bR {w with drawn:=w.drawn+1}:=
    λbR FH=>Ud dN _ _ gX eX A bK φ _ bR eA.rel bg FH h λgf eY w2 af ah=>dZ gf eY w2 af (db.trans ar eA ah)
   cases BG:hX with
   |true=>
    rw[BG] at bw z8;simp only [cN,List.length_nil,Nat.sub_zero] at bw z8;cases bw;exact z8 a ay
   |false=>
    rw[BG] at bw z8 FM Nx;simp only [fI] at bw z8 FM Nx;have:=Ue dN.facts xV (ih BG) xW bg (wG ops) (ops.size-(wG ops).length) _ sl gX a ay FM bw z8
    rwa [Nat.sub_add_cancel Nx] at this
  ·cases h
end
end a1
namespace a1
variable [bp]
def bx.DE (A:bx) (b:Nat) (x:C6):Option bx:=
 match A.bl.get b with
 |some k=>match k.obj,A.mem.get k.dG with
  | .hV _,some [m]=>bif Nat.beq m b&& !k.ro then
      match cK.set {k with obj:= .hV x} depth A.bl b with
      |some t=>some {A with bl:=t,low:=Nat.min A.low b}
      |none=>none
    else none
  |_,_=>none
 |none=>none
def bx.getLoop (A:bx) (b:Nat):Option A':=
 match A.bl.get b with
 |some k=>match k.obj with
  | .hV (.loop gS)=>some gS
  |_=>none
 |none=>none
section
variable {P:bB} {φ:cD} {A bK:bx} {w:aG}
theorem JB (ar:cB φ A w) {b:Nat} {x:C6} {e:iJ} {o':Obj} (he:φ b=some e) (h:A.DE b x=some bK) (bW:te φ x o'):db φ A w φ bK {w with heap:=w.heap.setIfInBounds e.bJ o'}:=by
 unfold bx.DE at h;split at h
 ·rename_i k ao
  split at h
  ·rename_i gI m gF n4
   cases aA:(Nat.beq m b&& !k.ro) with
   |false=>rw[aA] at h;cases h
   |true=>
    rw[aA,cN] at h;simp only [fy,Bool.not_eq_true'] at aA;have Fv:m=b:=ep aA.1;subst Fv;have ih:=aA.2;split at h
    ·rename_i t bw
     cases h;have hz:=λj=>cK.pq _ _ _ _ _ j bw
     obtain⟨fe,ji,eA,Dk⟩:=ar.fi m e he;rw[ao] at ji;cases ji;have c_:=Dk.lt;have MI:∀j cU,A.bl.get j=some cU->cU.dG=k.dG->j=m:=by
      intro j cU aq bn;obtain⟨l,q1,aI⟩:=ar.wf.mem j cU aq;rw[bn,n4] at q1;cases q1;simpa using aI
     have dU:∀j g',j≠m->φ j=some g'->g'.bJ≠e.bJ:=by
      intro j g' aq ja;obtain⟨cU,iU,_,_⟩:=ar.fi j g' ja;exact ar.apart j g' cU m e k ja he iU ao λbn=>aq (MI j cU iU bn)
     have rG:∀i,i≠e.bJ->(w.heap.setIfInBounds e.bJ o')[i]? =w.heap[i]? :=λi ak=>by
      rw[Array.getElem?_setIfInBounds_ne (Ne.symm ak)]
     have hI:∀j eM,t.get j=some eM->∃cU,A.bl.get j=some cU/\eM.dG=cU.dG/\eM.pos=cU.pos/\eM.ro=cU.ro:=by
      intro j eM aq;rw[hz] at aq;by_cases fZ:j=m
      ·rw[aP fZ] at aq
       cases aq;subst fZ;exact⟨k,ao,rfl,rfl,rfl⟩
      ·rw[aV fZ] at aq
       exact⟨eM,aq,rfl,rfl,rfl⟩
     refine {rel:=⟨⟨?_,?_,?_,?_⟩,?_,?_,?_,λi o ak=>⟨by rw[rG i (Ne.symm ((ar.dz i o ak).2 _ _ he))];exact(ar.dz i o ak).1,(ar.dz i o ak).2⟩⟩,fi:=λ_ _=>rfl,tf:=λb af ah=>absurd ah (by show ¬b<A.n;omega),new:=λb e af ah=>absurd (ar.lt ah) aj,rF:=c4 _,low:=Nat.min_le_left _ _,same:= ?_,ro:= ?_,keep:= ?_,hH:=by simp,os:=rfl,tape:=rfl,output:=rfl,drawn:=c4 _}
     ·intro j eM aq
      obtain⟨cU,q1,_⟩:=hI j eM aq;exact ar.wf.lt j cU q1
     ·intro j eM aq
      obtain⟨cU,q1,aI,_⟩:=hI j eM aq;rw[aI];exact ar.wf.u6 j cU q1
     ·intro j eM aq
      obtain⟨cU,q1,aI,_⟩:=hI j eM aq;rw[aI];exact ar.wf.mem j cU q1
     ·intro j qY gG qZ aq h4 bn
      obtain⟨cU,q1,aI,_,bS⟩:=hI j qY aq;obtain⟨eM,wi,Be,_,ub⟩:=hI gG qZ h4;rw[bS,ub];exact ar.wf.wa j cU gG eM q1 wi (by rw[<-aI,<-Be];exact bn)
     ·intro j g' aq
      by_cases fZ:j=m
      ·subst fZ
       rw[he] at aq;cases aq;refine⟨{k with obj:= .hV x},by rw[hz,aP rfl],eA,?_⟩;unfold gL at Dk;simp only [gF] at Dk;simp only [gL];exact⟨Dk.1,o',by rw[Array.getElem?_setIfInBounds_self_of_lt c_],bW⟩
      ·obtain⟨cU,iU,xB,jj⟩:=ar.fi j g' aq
       exact⟨cU,by rw[hz,aV fZ];exact iU,xB,jj.mono (λ_ _ h=>h) (rG _ (dU j g' fZ aq))⟩
     ·intro j g' qY gG sc qZ q1 aI aq h4 MJ
      obtain⟨cU,c9,eF,_⟩:=hI j qY aq;obtain⟨eM,vh,wx,_⟩:=hI gG qZ h4;exact ar.apart j g' cU gG sc eM q1 aI c9 vh (by rw[<-eF,<-wx];exact MJ)
     ·intro j g' qY gG sc qZ q1 aI aq h4 bn ai
      obtain⟨cU,c9,eF,hx,_⟩:=hI j qY aq;obtain⟨eM,vh,wx,Di,_⟩:=hI gG qZ h4;rw[hx,Di];exact ar.along j g' cU gG sc eM q1 aI c9 vh (by rw[<-eF,<-wx];exact bn) ai
     ·intro j aq lL
      show t.get j=_;rw[hz,aV];intro fZ;subst fZ;exact absurd (Nat.lt_of_lt_of_le lL (Nat.min_le_right A.low j)) (Nat.lt_irrefl j)
     ·intro j cU iU ti
      show t.get j=_;rw[hz,aV]
      ·exact iU
      ·intro fZ
       subst fZ;rw[ao] at iU;cases iU;rw[ih] at ti;cases ti
     ·intro i ak lK
      refine rG i λrH=> ?_
      have:=lK m e k he rH.symm ao;rw[ih] at this;cases this
    ·cases h
  ·cases h
 ·cases h
theorem Ny (ar:cB φ A w) {b:Nat} {gS:A'} {e:iJ} (h:A.getLoop b=some gS) (he:φ b=some e):∃r,w.heap[e.bJ]? =some (.loop r)/\te φ (.loop gS) (.loop r)/\(Instr.getLoop e.bJ).run P w= .ok r w/\
  ∀iA,(setObj e.bJ (.loop iA)).run P w= .ok () {w with heap:=w.heap.setIfInBounds e.bJ (.loop iA)}:=by
 unfold bx.getLoop at h;split at h
 ·rename_i k ao
  split at h
  ·rename_i akW gF
   cases h;obtain⟨k',eG,_,bW⟩:=ar.fi b e he;rw[ao] at eG;cases eG;unfold gL at bW;simp only [gF] at bW;obtain⟨_,o',af,ah⟩:=bW;obtain⟨r,rfl,_⟩:=id ah;refine⟨r,af,ah,?_,λiA=> ?_⟩
   ·unfold Instr.getLoop
    exact ev (a:= .loop r) (w1:=w) (tq af (λ_ _ _ h=>by cases h)) rfl
   ·simp only [setObj,Sem.run,af]
  ·cases h
 ·cases h
inductive ss (φ:cD):List Nat->List Deferred->Prop where
 |nil:ss φ [] []
 |cons {b:Nat} {e:iJ} {ms:List Nat} {ds:List Deferred} (h:φ b=some e) (hm:ss φ ms ds):ss φ (b::ms) ({target:= .collected e.bJ,args:= #[]}::ds)
omit [bp] in
theorem ss.mono {φ dI:cD} {ms:List Nat} {ds:List Deferred} (ja:∀b e,φ b=some e->dI b=some e) (h:ss φ ms ds):ss dI ms ds:=by
 induction h with
 |nil=>exact .nil
 |cons h _ eJ=>exact .cons (ja _ _ h) eJ
def yL (A:bx):List Nat->Option bx
 |[]=>some A
 |b::r=>match A.bl.get b with
  |some k=>match k.obj with
   | .hV .deferred=>match A.DE b .gone with
     |some cg=>yL cg r
     |none=>none
   |_=>none
  |none=>none
theorem Nz {fn:Func} {tmps:Array ad} {R:Ending->aG->Prop}:∀(ms:List Nat) (ds:List Deferred) (A bK:bx) (w:aG),cB φ A w->ss φ ms ds->yL A ms=some bK->
  (∀w',db φ A w φ bK w'->LeavesInM (Fr none) 0 P fn tmps R [] .returning w')->LeavesInM (Fr none) 0 P fn tmps R ds .returning w
 |[],ds,A,bK,w,ar,hm,h,dZ=>by
  cases hm;cases h;exact dZ w (db.refl ar)
 |b::ms,ds,A,bK,w,ar,hm,h,dZ=>by
  cases hm with
  |cons he hm=>
   rename_i e ds;unfold yL at h;split at h
   ·rename_i k ao
    split at h
    ·rename_i gF
     split at h
     ·rename_i cg ay
      obtain⟨k',eG,_,bW⟩:=ar.fi b e he;rw[ao] at eG;cases eG;unfold gL at bW;simp only [gF] at bW;obtain⟨_,o',af,ah⟩:=bW;cases ah;have eA:=JB (o':= .deferred none) ar he ay rfl;refine⟨by simp,.inl ⟨e.bJ,_,rfl,?_,Nz ms ds cg bK _ eA.rel (hm.mono (eA.ext ar)) h λw' hw=>dZ w' (db.trans ar eA hw)⟩⟩;unfold Instr.takeDeferred;refine ev (a:= .deferred (some [])) (w1:=w) (tq af (λ_ _ _ h=>by cases h)) ?_;exact ev (a:=()) (by simp only [setObj,Sem.run,af]) rfl
     ·cases h
    ·cases h
   ·cases h
inductive nD where
 |normal
 |exit (id:Nat)
 |goto (l:Nat)
 |ret
def nD.exit':nD->Exit
 | .normal=> .normal
 | .exit id=> .exit id
 | .goto l=> .goto l
 | .ret=> .ret
structure c6 where
 sl:ax
 ms:List Nat
 A:bx
def yM (φ:cD) (A:bx) (w:aG) (N:Nat) (x:nD) (s:c6) (e:Exit) (bR:Act) (w':aG):Prop:=
 e=x.exit'/\∃dI ds,ss dI s.ms ds/\gR N ds dI s.sl bR/\db φ A w dI s.A w'
theorem yM.trans {φ hO:cD} {A cg:bx} {w w1:aG} {N:Nat} {x:nD} {s:c6} {e:Exit} {eY:Act} {w2:aG} (ar:cB φ A w) (af:db φ A w hO cg w1) (ah:yM hO cg w1 N x s e eY w2):yM φ A w N x s e eY w2:=by
 obtain⟨h,gf,ds,ea,q1,aI⟩:=ah;exact⟨h,gf,ds,ea,q1,db.trans ar af aI⟩
end
def JC (f:c6->Option (nD×c6)):Nat->c6->Option (nD×c6)
 |0,_=>none
 |n+1,s=>match f s with
  |some (x,s1)=>match x with
   | .normal=>JC f n s1
   | .exit id=>some (.exit id,s1)
   | .goto l=>some (.goto l,s1)
   | .ret=>some (.ret,s1)
  |none=>none
def NA:Option Code->Option nD
 |none=>some .normal
 |some .ret=>some .ret
 |some (.exit id)=>some (.exit id)
 |some (.goto l)=>some (.goto l)
 |_=>none
def Ug:LoopState->Bool
 | .busy=>true
 |_=>false
def NB (P:bB) [Lib P] [ft P] (C:jd) (gl:cK Nat) (N:Nat) (g:Operand) (ps:Array Tmp) (oD body:Code) (s:c6):Option (nD×c6):=
 match eQ gl s.sl g with
 | .func (.func f) ⟨first⟩ ⟨NC⟩=>bif enters P f then
     match s.A.push (.hV .deferred) 0 0 with
     |some (d,cg)=>match cg.push (.hV (.loop {state:= .ready,pending:=none,sl:=s.sl,N,params:=ps.toList,assign:=oD,body,E9:=d})) 0 0 with
      |some (l,gP)=>match C.call f (first++[.func (.yield l) ⟨[]⟩ ⟨[]⟩]++NC) gP with
       |some (_,FQ)=>match FQ.getLoop l with
        |some gS=>bif Ug gS.state then none else
         match FQ.DE l (.loop {gS with state:= .exhausted}),NA gS.pending with
         |some DF,some x=>some (x,{sl:=s.sl,ms:=d::s.ms,A:=DF})
         |_,_=>none
        |none=>none
       |none=>none
      |none=>none
     |none=>none
   else none
 |_=>none
def ob (P:bB) [Lib P] [ft P] (C:jd) (gl:cK Nat) (N:Nat) (hX:Bool) (bN:Nat):Code->c6->Option (nD×c6)
 | .skip,s=>some (.normal,s)
 | .label _,s=>some (.normal,s)
 | .exit id,s=>some (.exit id,s)
 | .goto l,s=>some (.goto l,s)
 | .ret,s=>some (.ret,s)
 | .region _ ops d,s=>match (bif d then (match Nf P C gl N hX ops s.sl s.A with|some r=>some r|none=>JA P C gl N hX ops s.sl s.A) else yG P C gl N ops ops.toList s.sl s.A) with
   |some (gX,cg)=>some (.normal,{sl:=gX,ms:=s.ms,A:=cg})
   |none=>none
 | .seq x y,s=>match ob P C gl N hX bN x s with
   |some (x,s1)=>match x with
    | .normal=>ob P C gl N hX bN y s1
    | .exit id=>some (.exit id,s1)
    | .goto l=>some (.goto l,s1)
    | .ret=>some (.ret,s1)
   |none=>none
 | .cond c x y,s=>match eQ gl s.sl c with
   | .bool t=>bif t then ob P C gl N hX bN x s else ob P C gl N hX bN y s
   |v=>match Bv P v with
    |some t=>bif t then ob P C gl N hX bN x s else ob P C gl N hX bN y s
    |none=>none
 | .block id x,s=>match ob P C gl N hX bN x s with
   |some (x,s1)=>match x with
    | .normal=>some (.normal,s1)
    | .exit id'=>bif Nat.beq id' id then some (.normal,s1) else some (.exit id',s1)
    | .goto l=>some (.goto l,s1)
    | .ret=>some (.ret,s1)
   |none=>none
 | .loop x,s=>JC (ob P C gl N hX bN x) bN s
 | .scope _,_=>none
 | .rangeFunc g ps oD body,s=>bif hX then none else NB P C gl N g ps oD body s
 | .refuse _,_=>none
def Uh (P:bB) (gl:cK Nat) (N:Nat) (ro:Option Nat) (c:Code) (f:c6->Option (nD×c6)):Prop:=
 ∀(s:c6) (x:nD) (hA:c6) (φ:cD) (w:aG) (a:Act) (ds:List Deferred),f s=some (x,hA)->cB φ s.A w->n' gl φ->ss φ s.ms ds->gR N ds φ s.sl a->c.wpIn (Fr ro) 0 P (yM φ s.A w N x hA) a w
section
variable {P:bB} {gl:cK Nat} {N:Nat} {ro:Option Nat}
theorem Ui {c:Code} {f:c6->Option (nD×c6)} (bn:Uh P gl N ro c f):∀(n:Nat) (s:c6) (x:nD) (hA:c6) (φ:cD) (w:aG) (a:Act) (ds:List Deferred),JC f n s=some (x,hA)->cB φ s.A w->n' gl φ->ss φ s.ms ds->gR N ds φ s.sl a->
  ∀(Q:Exit->Act->aG->Prop),(∀e bR w',yM φ s.A w N x hA e bR w'->Q e bR w')->Code.roundsIn (Fr ro) 0 P c Q n a w
 |0,s,x,hA,φ,w,a,ds,h,ar,bg,hm,ay,Q,dZ=>by cases h
 |n+1,s,x,hA,φ,w,a,ds,h,ar,bg,hm,ay,Q,dZ=>by
  unfold JC at h;show c.wpIn (Fr ro) 0 P (Exit.then (Code.roundsIn (Fr ro) 0 P c Q n) Q) a w;split at h
  ·rename_i fp s1 af
   refine wpIn_mono (bn s fp s1 φ w a ds af ar bg hm ay) λe eL w1 aw=> ?_
   cases fp with
   |normal=>
    obtain⟨rfl,hO,DG,ea,q1,aI⟩:=aw;exact Ui bn n s1 x hA hO w1 eL DG h aI.rel (bg.mono (aI.ext ar)) ea q1 Q λe bR w' hp=>dZ e bR w' (yM.trans ar aI hp)
   |exit DH=>cases h;obtain⟨rfl,_⟩:=id aw;exact dZ _ _ _ aw
   |goto l=>cases h;obtain⟨rfl,_⟩:=id aw;exact dZ _ _ _ aw
   |ret=>cases h;obtain⟨rfl,_⟩:=id aw;exact dZ _ _ _ aw
  ·cases h
end
end a1
namespace a1
variable [bp]
section
variable {P:bB} [Lib P] [ft P] {C:jd} {gl:cK Nat} {N:Nat}
omit [bp] in
omit [Lib P] [ft P] in
theorem ab5 {F:Fence} {n:Nat} {Q:Exit->Act->aG->Prop} {a:Act} {w:aG} {c:Code} {x:nD} (h:NA (some c)=some x) (dZ:Q x.exit' a w):c.wpIn F n P Q a w:=by
 cases c<;>simp only [NA,dL] at h<;>first|(cases h;done)|skip
 case ret=>cases h;exact wpIn_ret dZ
 case exit id=>cases h;exact wpIn_exit dZ
 case goto l=>cases h;exact wpIn_goto dZ
theorem ab6 (dN:mw P gl C) {g:Operand} {ps:Array Tmp} {oD body:Code} {s:c6} {x:nD} {hA:c6} {φ:cD} {w:aG} {a:Act} {ds:List Deferred} (h:NB P C gl N g ps oD body s=some (x,hA))
  (ar:cB φ s.A w) (bg:n' gl φ) (hm:ss φ s.ms ds) (ay:gR N ds φ s.sl a):(Code.rangeFunc g ps oD body).wpIn (Fr none) 0 P (yM φ s.A w N x hA) a w:=by
 unfold NB at h;split at h
 ·rename_i f first NC p7
  cases wE:enters P f with
  |false=>rw[wE] at h;cases h
  |true=>
   rw[wE,cN] at h;split at h
   ·rename_i d cg eO
    split at h
    ·rename_i l gP fS
     split at h
     ·rename_i v FQ aA
      split at h
      ·rename_i gS ab7
       cases ai:Ug gS.state with
       |true=>rw[ai] at h;cases h
       |false=>
        rw[ai,fI] at h;split at h
        ·rename_i DF x' ND aq
         cases h;have xY:=h_ bg ay.get g;rw[p7] at xY;have ab8:∃lI cs',a.eval g= .func (.func f) lI cs'/\iY first φ lI/\iY NC φ cs':=by
          generalize a.eval g=u at xY;cases xY with
          |func _ lI _ cs' aT af ah aH ck=>exact⟨lI,cs',rfl,iY.of af aH,iY.of ah ck⟩
         obtain⟨lI,cs',ab9,MX,hJ⟩:=ab8;have qw:=C9 (o':= .deferred (some [])) (e:=⟨w.heap.size,0,0,0⟩) ar eO J J (by
          unfold gL
          exact⟨rfl,.deferred (some []),by simp,rfl⟩)
         have bu:=(ar.wf.push eO).2.1;refine wpIn_rangeFunc λfn _=> ?_
         let jq:Loop:={state:= .ready,pending:=none,fn:=fn,tmps:=a.tmps,params:=ps,assign:=oD,body:=body,defers:=w.heap.size}
         have xD:=C9 (o':= .loop jq) (e:=⟨w.heap.size+1,0,0,0⟩) qw.rel fS (by simp) rfl (by
          unfold gL;refine⟨rfl,.loop jq,by
           show ((w.heap.push (Obj.deferred (some []))).push (Obj.loop jq))[w.heap.size+1]? =_
           rw[Array.getElem?_push,aP (by simp)],jq,rfl,rfl,rfl,ay.size,rfl,rfl,rfl,⟨⟨w.heap.size,0,0,0⟩,?_,rfl⟩,λt v aR=> ?_⟩
          ·have c_:=(qw.rel.wf.push fS).2.1
           have iL:=(ar.wf.push eO).2.2.1;show ij _ _ _ d=_;unfold ij;rw[aV aj,aP rfl]
          ·refine(ay.get t v aR).mono λb e ai=> ?_
           have c_:=(qw.rel.wf.push fS).2.1;have iL:=(ar.wf.push eO).2.2.1;have:=ar.lt ai;unfold ij;rw[aV aj,aV aj]
           exact ai)
         have Aa:=db.trans ar qw xD;have JD:=Aa.ext ar;have Uj:ij (ij φ d ⟨w.heap.size,0,0,0⟩) l ⟨w.heap.size+1,0,0,0⟩ l=some ⟨w.heap.size+1,0,0,0⟩:=by unfold ij;rw[aP rfl]
         have uu:ij (ij φ d ⟨w.heap.size,0,0,0⟩) l ⟨w.heap.size+1,0,0,0⟩ d=some ⟨w.heap.size,0,0,0⟩:=by
          have c_:=(qw.rel.wf.push fS).2.1;have iL:=(ar.wf.push eO).2.2.1;unfold ij;rw[aV aj,aP rfl]
         have ab':aM (ij (ij φ d ⟨w.heap.size,0,0,0⟩) l ⟨w.heap.size+1,0,0,0⟩) (.func (.yield l) ⟨[]⟩ ⟨[]⟩) (.func (.yield (w.heap.size+1)) #[] #[]):= .u5 Uj;have Uk:∀{Ul:List ad} {Um:Array ad},iY Ul φ Um->iY Ul (ij (ij φ d ⟨w.heap.size,0,0,0⟩) l ⟨w.heap.size+1,0,0,0⟩) Um:=λh=>⟨h.1,λj aq=>(h.2 j aq).mono JD⟩
         have af:iY [.func (.yield l) ⟨[]⟩ ⟨[]⟩] (ij (ij φ d ⟨w.heap.size,0,0,0⟩) l ⟨w.heap.size+1,0,0,0⟩) #[.func (.yield (w.heap.size+1)) #[] #[]]:=⟨rfl,λj aq=>by
          have:j=0:=by simpa using aq
          subst this
          exact ab'⟩
         have hW:=((Uk MX).append af).append (Uk hJ);refine⟨w.heap.size+1,[{target:= .collected w.heap.size,args:= #[]}],{w with heap:=(w.heap.push (.deferred (some []))).push (.loop jq)},{target:= .fn (.func f) cs',args:=lI++ #[.func (.yield (w.heap.size+1)) #[] #[]]},{w with heap:=(w.heap.push (.deferred (some []))).push (.loop jq)},f,lI++ #[.func (.yield (w.heap.size+1)) #[] #[]]++cs',{w with heap:=(w.heap.push (.deferred (some []))).push (.loop jq)},?_,?_,λ_ _=>trivial,?_,λh=>absurd h (by simp [Fr,Fence.wide]),
          CallsIn.mono (Du (dN.call f _ gP v FQ _ _ _ aA Aa.rel (bg.mono JD) hW)) λe BH he=> ?_⟩
         ·unfold Instr.enterLoop
          simp only [Fr];have Md:(newObj (.deferred (some []))).run P w= .ok w.heap.size {w with heap:=w.heap.push (.deferred (some []))}:=rfl;have hI:(newObj (.loop jq)).run P {w with heap:=w.heap.push (.deferred (some []))}= .ok (w.heap.size+1) {w with heap:=(w.heap.push (.deferred (some []))).push (.loop jq)}:=by
           simp only [newObj,Sem.run,Array.size_push]
          refine ev Md ?_;refine ei (a:=(w.heap.size,[({target:= .collected w.heap.size,args:= #[]}:Deferred)])) rfl ?_;exact ev (k:=λx=>pure (x,[({target:= .collected w.heap.size,args:= #[]}:Deferred)])) hI rfl
         ·unfold resolve
          simp only [rangeCall,ab9,List.map_toArray,List.map_cons,List.map_nil];rfl
         ·exact kM (FA wE _) _
         ·cases e with
          |returned v'=>
           obtain⟨FR,_,BI⟩:=he;have BJ:=BI.ext Aa.rel _ _ Uj;obtain⟨r,q1,aI,bS,fo⟩:=Ny (P:=P) BI.rel ab7 BJ;obtain⟨iA,SW,ab_,NF,xH⟩:=id aI;cases SW;have NG:=JB (o':= .loop {r with state:= .exhausted}) BI.rel BJ ND (by
            obtain⟨vs,yN,BK,BL,FT,FU⟩:=xH
            exact⟨{r with state:= .exhausted},rfl,rfl,NF,vs,yN,BK,BL,FT,FU⟩)
           have NH:=db.trans ar Aa (db.trans Aa.rel BI NG);have aca:ss FR (d::s.ms) ({target:= .collected w.heap.size,args:= #[]}::ds):= .cons (BI.ext Aa.rel _ _ uu) (hm.mono λb e ai=>BI.ext Aa.rel _ _ (JD b e ai));have p8:gR N ({target:= .collected w.heap.size,args:= #[]}::ds) FR s.sl {a with defers:=[{target:= .collected w.heap.size,args:= #[]}]++a.defers}:=
            ⟨ay.size,by simp [ay.defers],λt v aR=>(ay.get t v aR).mono λb e ai=>BI.ext Aa.rel _ _ (JD b e ai)⟩
           refine⟨gS.pending,{BH with heap:=BH.heap.setIfInBounds (w.heap.size+1) (.loop {r with state:= .exhausted})},?_,?_⟩
           ·unfold Instr.endLoop
            refine ev bS ?_;have Bm:(r.state==LoopState.busy)=false:=by
             rw[ab_];cases eA:gS.state<;>rw[eA] at ai<;>first|rfl|cases ai
            rw[Bm];simp only [Bool.false_eq_true,if_false];refine ev (a:=()) (fo _) ?_;rw[NF];rfl
           ·have post:yM φ s.A w N x ⟨s.sl,d::s.ms,DF⟩ x.exit' {a with defers:=[{target:= .collected w.heap.size,args:= #[]}]++a.defers} {BH with heap:=BH.heap.setIfInBounds (w.heap.size+1) (.loop {r with state:= .exhausted})}:=
             ⟨rfl,FR,_,aca,p8,NH⟩
            cases Un:gS.pending with
            |none=>
             rw[Un] at aq;cases aq;exact post
            |some c=>
             rw[Un] at aq;exact ab5 aq post
          |panicked dP=>exact he.elim
          |outgrown=>exact he.elim
        ·cases h
      ·cases h
     ·cases h
    ·cases h
   ·cases h
 ·cases h
end
section
variable {P:bB} [Lib P] [ft P] {C:jd} {gl:cK Nat} {N:Nat}
theorem vt (et:P.follows .mixedOrders=true) (dN:mw P gl C) (hX:Bool) {ro:Option Nat} (ih:hX=false->ro=none) (bN:Nat):∀c:Code,Uh P gl N ro c (ob P C gl N hX bN c)
 | .skip,s,x,hA,φ,w,a,ds,h,ar,bg,hm,ay=>by cases h;exact wpIn_skip ⟨rfl,φ,ds,hm,ay,db.refl ar⟩
 | .label _,s,x,hA,φ,w,a,ds,h,ar,bg,hm,ay=>by cases h;exact wpIn_label ⟨rfl,φ,ds,hm,ay,db.refl ar⟩
 | .exit id,s,x,hA,φ,w,a,ds,h,ar,bg,hm,ay=>by cases h;exact wpIn_exit ⟨rfl,φ,ds,hm,ay,db.refl ar⟩
 | .goto l,s,x,hA,φ,w,a,ds,h,ar,bg,hm,ay=>by cases h;exact wpIn_goto ⟨rfl,φ,ds,hm,ay,db.refl ar⟩
 | .ret,s,x,hA,φ,w,a,ds,h,ar,bg,hm,ay=>by cases h;exact wpIn_ret ⟨rfl,φ,ds,hm,ay,db.refl ar⟩
 | .region id ops d,s,x,hA,φ,w,a,ds,h,ar,bg,hm,ay=>by
   unfold ob at h;cases d with
   |true=>
    simp only [cN] at h;split at h
    ·rename_i s1 cg af
     cases h;split at af
     ·rename_i jq bd
      cases af;exact ab0 et dN ar bg ay ih (λc a w aw=>by obtain⟨he,_⟩:=aw;cases he) bd λgf eY w2 c9 eF=>⟨rfl,gf,ds,hm.mono (eF.ext ar),c9,eF⟩
     ·exact Uf et dN ar bg ay ih (λc a w aw=>by obtain⟨he,_⟩:=aw;cases he) af λgf eY w2 c9 eF=>⟨rfl,gf,ds,hm.mono (eF.ext ar),c9,eF⟩
    ·cases h
   |false=>
    simp only [fI] at h;split at h
    ·rename_i s1 cg af
     cases h;exact wpIn_region_list (M9 dN _ _ _ _ _ _ _ _ ar bg ay af λgf eY w2 c9 eF=>⟨rfl,gf,ds,hm.mono (eF.ext ar),c9,eF⟩)
    ·cases h
 | .seq fP ew,s,x,hA,φ,w,a,ds,h,ar,bg,hm,ay=>by
   unfold ob at h;refine wpIn_seq ?_;split at h
   ·rename_i fp s1 af
    refine wpIn_mono (vt et dN hX ih bN fP s fp s1 φ w a ds af ar bg hm ay) λe eL w1 aw=> ?_
    cases fp with
    |normal=>
     obtain⟨rfl,hO,DG,ea,q1,aI⟩:=aw;exact wpIn_mono (vt et dN hX ih bN ew s1 x hA hO w1 eL DG h aI.rel (bg.mono (aI.ext ar)) ea q1) λe eY w2 hp=>yM.trans ar aI hp
    |exit DH=>cases h;obtain⟨rfl,_⟩:=id aw;exact aw
    |goto l=>cases h;obtain⟨rfl,_⟩:=id aw;exact aw
    |ret=>cases h;obtain⟨rfl,_⟩:=id aw;exact aw
   ·cases h
 | .cond c fP ew,s,x,hA,φ,w,a,ds,h,ar,bg,hm,ay=>by
   unfold ob at h;split at h
   ·rename_i t aA
    have FV:=h_ bg ay.get c;rw[aA] at FV;have acb:a.eval c= .bool t:=by
     cases acd:a.eval c<;>rw[acd] at FV<;>cases FV
     rfl
    refine wpIn_cond acb ?_;cases t with
    |true=>exact vt et dN hX ih bN fP s x hA φ w a ds h ar bg hm ay
    |false=>exact vt et dN hX ih bN ew s x hA φ w a ds h ar bg hm ay
   ·split at h
    ·rename_i t bw
     refine wpIn_cond (Jm dN.facts w bw (h_ bg ay.get c)) ?_;cases t with
     |true=>exact vt et dN hX ih bN fP s x hA φ w a ds h ar bg hm ay
     |false=>exact vt et dN hX ih bN ew s x hA φ w a ds h ar bg hm ay
    ·cases h
 | .block Uo c,s,x,hA,φ,w,a,ds,h,ar,bg,hm,ay=>by
   unfold ob at h;refine wpIn_block ?_;split at h
   ·rename_i fp s1 af
    refine wpIn_mono (vt et dN hX ih bN c s fp s1 φ w a ds af ar bg hm ay) λe eL w1 aw=> ?_
    cases fp with
    |normal=>cases h;obtain⟨rfl,_⟩:=id aw;exact aw
    |goto l=>cases h;obtain⟨rfl,_⟩:=id aw;exact aw
    |ret=>cases h;obtain⟨rfl,_⟩:=id aw;exact aw
    |exit DH=>
     obtain⟨rfl,aw⟩:=aw;show if DH=Uo then _ else _
     cases ai:Nat.beq DH Uo with
     |true=>
      simp only [ai,cN] at h;cases h;rw[aP (ep ai)];exact⟨rfl,aw⟩
     |false=>
      simp only [ai,fI] at h;cases h;rw[aV (λe=>by subst e;rw[Nat.beq_refl] at ai;cases ai)];exact⟨rfl,aw⟩
   ·cases h
 | .loop c,s,x,hA,φ,w,a,ds,h,ar,bg,hm,ay=>by
   unfold ob at h;exact wpIn_loop_rounds bN (Ui (vt et dN hX ih bN c) bN s x hA φ w a ds h ar bg hm ay _ λ_ _ _ aw=>aw)
 | .scope c,s,x,hA,φ,w,a,ds,h,ar,bg,hm,ay=>by cases h
 | .rangeFunc g ps oD body,s,x,hA,φ,w,a,ds,h,ar,bg,hm,ay=>by
   unfold ob at h;cases BG:hX with
   |true=>rw[BG] at h;cases h
   |false=>
    rw[BG,fI] at h;have:=ih BG;subst this;exact ab6 dN h ar bg hm ay
 | .refuse _,s,x,hA,φ,w,a,ds,h,ar,bg,hm,ay=>by cases h
end
def setArgs:Nat->List ad->ax->Option ax
 |_,[],sl=>some sl
 |i,v::r,sl=>match cK.set v depth sl i with
  |some s=>setArgs (i+1) r s
  |none=>none
omit [bp] in
theorem NI:∀(l:List ad) (i:Nat) (sl eX:ax),setArgs i l sl=some eX->∀t v,eX.get t=some v->(∃j,j<l.length/\t=i+j/\v=l.getD j undef)\/sl.get t=some v
 |[],i,sl,eX,h,t,v,aR=>by
  cases h;exact .inr aR
 |u::r,i,sl,eX,h,t,v,aR=>by
  unfold setArgs at h;split at h
  ·rename_i s ay
   rcases NI r (i+1) s eX h t v aR with ⟨j,aq,bw,ace⟩|bg
   ·exact .inl ⟨j+1,by simp;omega,aj,by simpa using ace⟩
   ·rw[cK.pq _ _ _ _ _ t ay] at bg
    by_cases bw:t=i
    ·subst bw
     rw[aP rfl] at bg;cases bg;exact .inl ⟨0,by simp,rfl,rfl⟩
    ·rw[aV bw] at bg
     exact .inr bg
  ·cases h
def xZ (P:bB) (A:bx) (sl:ax):List ResultVar->Option (List ad)
 |[]=>some []
 | .tmp t::r=>match xZ P A sl r with
   |some a8=>some (slot sl t::a8)
   |none=>none
 | .cell a t::r=>match Dc P A t (slot sl a),xZ P A sl r with
   |some v,some a8=>some (v::a8)
   |_,_=>none
def yO:List ad->ad
 |[v]=>v
 |a8=> .tuple ⟨a8⟩
section
variable {P:bB} {φ:cD} {A bK:bx} {w:aG}
theorem acf (ar:cB φ A w) {t:bq} {p p' v:ad} (hp:aM φ p p') (h:Dc P A t p=some v):∃v',(do loadVar t (<-asAddr p')).run P w= .ok v' w/\aM φ v v':=by
 unfold Dc at h;split at h
 ·rename_i b off
  cases hp with
  |ptr he=>
   unfold loadVar;cases rI:bZ P (isAgg t) with
   |none=>rw[rI] at h;cases h
   |some qU=>
    rw[rI] at h;cases qU with
    |false=>
     simp only at h;obtain⟨v',af,ah⟩:=wg ar h he;refine⟨v',ei (a:=(⟨_,_,none⟩:Addr)) rfl (ei rI ?_),ah⟩;simp [Go.load,Sem.run,af]
    |true=>
     simp only at h;cases dV:bZ P (sizeOf t) with
     |none=>rw[dV] at h;cases h
     |some n=>
      rw[dV] at h;simp only at h;obtain⟨l,az,rfl⟩:=Option.map_eq_some_iff.1 h;obtain⟨dC,af,ah,aH⟩:=Fa ar P az he;refine⟨.agg dC,ei (a:=(⟨_,_,none⟩:Addr)) rfl (ei rI ?_),.agg _ _ (by simp [ah]) λi ak=>by simpa using aH i (by simpa using ak)⟩;simp only [if_true];exact ei dV (ev af rfl)
 ·cases h
def NJ (tmps:Array ad):ResultVar->Sem ad
 | .tmp t=>pure (tmps.getD t undef)
 | .cell a t=>do loadVar t (<-asAddr (tmps.getD a undef))
theorem NK (ar:cB φ A w) {sl:ax} {tmps:Array ad} (ay:∀t v,sl.get t=some v->aM φ v (tmps.getD t undef)):∀(l:List ResultVar) (a8:List ad),xZ P A sl l=some a8->
  ∃dC,(l.mapM (NJ tmps)).run P w= .ok dC w/\iY a8 φ ⟨dC⟩
 |[],a8,h=>by
  cases h;exact⟨[],rfl,rfl,λj aq=>absurd aq (by simp)⟩
 | .tmp t::r,a8,h=>by
   unfold xZ at h;split at h
   ·rename_i us hu
    cases h;obtain⟨NL,af,ah,aH⟩:=NK ar ay r us hu;refine⟨tmps.getD t undef::NL,?_,by simpa using ah,λj aq=> ?_⟩
    ·rw[List.mapM_cons]
     exact ei (a:=tmps.getD t undef) rfl (ev af rfl)
    ·cases j with
     |zero=>exact Jo (ay t)
     |succ j=>simpa using aH j (by simpa using aq)
   ·cases h
 | .cell a t::r,a8,h=>by
   unfold xZ at h;split at h
   ·rename_i v us aR hu
    cases h;obtain⟨NL,af,ah,aH⟩:=NK ar ay r us hu;obtain⟨v',g1,g2⟩:=acf ar (Jo (ay a)) aR;refine⟨v'::NL,?_,by simpa using ah,λj aq=> ?_⟩
    ·rw[List.mapM_cons]
     exact ev g1 (ev af rfl)
    ·cases j with
     |zero=>exact g2
     |succ j=>simpa using aH j (by simpa using aq)
   ·cases h
theorem Up (ar:cB φ A w) {sl:ax} {fn:Func} {tmps:Array ad} (ay:∀t v,sl.get t=some v->aM φ v (tmps.getD t undef)) {a8:List ad} (h:xZ P A sl fn.results.toList=some a8):
  ∃v',(results fn tmps).run P w= .ok v' w/\aM φ (yO a8) v':=by
 obtain⟨dC,af,ah,aH⟩:=NK ar ay _ a8 h;have e:results fn tmps=(fn.results.mapM (NJ tmps)) >>= λa8=>pure (if h:a8.size=1 then a8[0] else .tuple a8):=by
  unfold results;congr 1
 rw[e,Array.mapM_eq_mapM_toList];refine⟨_,ev (a:=(⟨dC⟩:Array ad)) (ev af rfl) rfl,?_⟩
 match a8,dC,ah,aH with
 |[v],[v'],_,aH=>exact aH 0 (by simp)
 |[],[],_,_=>exact .tuple _ _ rfl λi ak=>absurd ak (by simp)
 |a::b::r,bR::b'::iA,ah,aH=>exact .tuple _ _ (by simpa using ah.symm) λi ak=>by simpa using aH i (by simpa using ak)
end
def BM (N:Nat):List Tmp->List ad->ax->Option ax
 |[],[],sl=>some sl
 |t::eo,v::a8,sl=>match e8 N sl (some t) v with
  |some s=>BM N eo a8 s
  |none=>none
 |_,_,_=>none
def Uq:LoopState->Bool
 | .ready=>true
 |_=>false
def Ab:nD->Option Code
 | .normal=>none
 | .exit id=>some (.exit id)
 | .goto l=>some (.goto l)
 | .ret=>some .ret
def DI:nD->LoopState
 | .normal=> .ready
 |_=> .done
def FW:nD->Bool
 | .normal=>true
 |_=>false
def NM (P:bB) [Lib P] [ft P] (gl:cK Nat) (bN:Nat) (C:jd) (b:Nat) (args:List ad) (A:bx):Option (ad×bx):=
 match A.getLoop b with
 |some gS=>match BM gS.N gS.params args gS.sl with
  |some nC=>match ob P C gl gS.N true bN gS.assign {sl:=nC,ms:=[],A} with
   |some (.normal,s1)=>match s1.A.getLoop b with
    |some FX=>bif Uq FX.state then
      match s1.A.DE b (.loop {FX with state:= .busy}) with
      |some gP=>match ob P C gl gS.N true bN gS.body {sl:=s1.sl,ms:=s1.ms,A:=gP} with
       |some (x,tv)=>match tv.A.getLoop b with
        |some Ur=>match tv.A.DE b (.loop {Ur with state:=DI x,pending:=Ab x}) with
         |some DF=>some (.bool (FW x),DF)
         |none=>none
        |none=>none
       |none=>none
      |none=>none
     else none
    |none=>none
   |_=>none
  |none=>none
 |none=>none
def NN (P:bB) [Lib P] [ft P] (gl:cK Nat) (bN:Nat) (C:jd) (f:FuncId) (args:List ad) (A:bx):Option (ad×bx):=
 match P.funcs[f]? with
 |some fn=>match fn.body with
  |some c=>match setArgs 0 args .nil with
   |some sl=>match ob P C gl (args.length+(fn.ntmps-args.length)) false bN c {sl,ms:=[],A} with
    |some (x,s1)=>match x with
     | .exit _=>none
     | .goto _=>none
     |_=>match yL s1.A s1.ms with
      |some gP=>match xZ P gP s1.sl fn.results.toList with
       |some a8=>some (yO a8,gP)
       |none=>none
      |none=>none
    |none=>none
   |none=>none
  |none=>none
 |none=>none
section
variable {P:bB} {gl:cK Nat}
theorem gR.BM {N:Nat} {ds:List Deferred} {φ:cD}:∀(eo:List Tmp) (a8:List ad) (us:List ad) (sl eX:ax) (a:Act),gR N ds φ sl a->a1.BM N eo a8 sl=some eX->us.length=a8.length->(∀j,j<a8.length->aM φ (a8.getD j undef) (us.getD j undef))->
  eo.length=us.length/\gR N ds φ eX {a with tmps:=(eo.zip us).foldl (λtmps p=>tmps.setIfInBounds p.1 p.2) a.tmps}
 |[],[],us,sl,eX,a,ay,h,az,aR=>by
  cases h;have:us=[]:=by simpa using az
  subst this;exact⟨rfl,ay⟩
 |t::eo,v::a8,us,sl,eX,a,ay,h,az,aR=>by
  unfold a1.BM at h;split at h
  ·rename_i s1 af
   cases us with
   |nil=>simp at az
   |cons u us=>
    have iQ:=ay.put (by simpa using aR 0 (by simp)) af;obtain⟨q1,aI⟩:=gR.BM eo a8 us s1 eX _ iQ h (by simpa using az) (λj aq=>by simpa using aR (j+1) (by simpa using aq));exact⟨by simp [q1],aI⟩
  ·cases h
 |[],_::_,_,_,_,_,_,h,_,_=>by cases h
 |_::_,[],_,_,_,_,_,h,_,_=>by cases h
end
end a1
namespace a1
variable [bp]
section
variable {P:bB} [Lib P] [ft P] {gl:cK Nat} {bN:Nat} {C:jd}
theorem acg (et:P.follows .mixedOrders=true) (dN:mw P gl C) {f:FuncId} {args:List ad} {A:bx} {v:ad} {bK:bx} {φ:cD} {w:aG} {hK:Array ad} (h:NN P gl bN C f args A=some (v,bK)) (ar:cB φ A w) (bg:n' gl φ)
  (hW:iY args φ hK):Calls P f hK w (zX φ A w v bK):=by
 unfold NN at h;split at h
 ·rename_i fn p9
  split at h
  ·rename_i c aA
   split at h
   ·rename_i sl hg
    split at h
    ·rename_i x s1 q5
     have dV:hK.size=args.length:=hW.1;have ay:gR (args.length+(fn.ntmps-args.length)) [] φ sl {tmps:=hK++Array.replicate (fn.ntmps-hK.size) undef,defers:=[]}:=by
      refine⟨by simp [dV],rfl,λt u hu=> ?_⟩;rcases NI _ _ _ _ hg t u hu with ⟨j,aq,bw,rfl⟩|bg
      ·have:=hW.2 j aq
       simp only [Nat.zero_add] at bw;subst bw;simp only [gd] at this ⊢;rw[Array.getElem?_append_left aj];exact this
      ·cases bg
     have g_:∀(a8:List ad) (gP:bx),(x= .normal\/x= .ret)->yL s1.A s1.ms=some gP->xZ P gP s1.sl fn.results.toList=some a8->v=yO a8->bK=gP->Calls P f hK w (zX φ A w v bK):=by
      intro a8 gP aw ach mx aR oE;subst aR;subst oE;refine(callsIn_wide (n:=0)).1 ?_;refine callsIn_of_wp_marks p9 aA trivial ?_ rfl;have aci:=vt (ro:=none) et dN false (λ_=>rfl) bN c {sl,ms:=[],A} x s1 φ w _ [] q5 ar bg .nil ay;refine wpIn_mono (F:=Fr none) aci λe eL w1 hp=> ?_
      obtain⟨rfl,hO,ds,ea,q1,aI⟩:=hp;have main:LeavesInM (Fr none) 0 P fn eL.tmps (zX φ A w (yO a8) bK) eL.defers .returning w1:=by
       rw[q1.defers];refine Nz s1.ms ds s1.A bK w1 aI.rel ea ach λw2 bS=> ?_
       obtain⟨v',g1,g2⟩:=Up (fn:=fn) bS.rel q1.get mx;exact⟨v',g1,hO,g2,db.trans ar aI bS⟩
      rcases aw with rfl|rfl
      ·exact main
      ·exact main
     cases x with
     |exit DH=>cases h
     |goto l=>cases h
     |normal=>
      simp only at h;split at h
      ·rename_i gP az
       split at h
       ·rename_i a8 mx
        cases h;exact g_ a8 bK (.inl rfl) az mx J J
       ·cases h
      ·cases h
     |ret=>
      simp only at h;split at h
      ·rename_i gP az
       split at h
       ·rename_i a8 mx
        cases h;exact g_ a8 bK (.inr rfl) az mx J J
       ·cases h
      ·cases h
    ·cases h
   ·cases h
  ·cases h
 ·cases h
theorem acj (et:P.follows .mixedOrders=true) (dN:mw P gl C) {b:Nat} {args:List ad} {A:bx} {v:ad} {bK:bx} {φ:cD} {w:aG} {hK:Array ad} {e:iJ} {k:iX} {gS:A'} {r:Loop}
  (h:NM P gl bN C b args A=some (v,bK)) (ar:cB φ A w) (bg:n' gl φ) (hW:iY args φ hK) (he:φ b=some e) (ao:A.bl.get b=some k) (gF:k.obj= .hV (.loop gS)) (tg:w.heap[e.bJ]? =some (.loop r)) (Bx:te φ (.loop gS) (.loop r)):
  hK.size=r.params.size/\RoundIn Fence.wide 0 P e.bJ r.fn ((r.params.zip hK).foldl (λtmps (t,a)=>tmps.setIfInBounds t a) r.tmps) r.assign r.body w (zX φ A w v bK):=by
 unfold NM at h;have FY:A.getLoop b=some gS:=by unfold bx.getLoop;rw[ao];simp only [gF]
 rw[FY] at h;simp only at h;obtain⟨jq,mg,eA,NF,kN,Us,has,xE,akX,hg⟩:=id Bx;cases mg;split at h
 ·rename_i nC gn
  have q4:gR gS.N [] φ gS.sl {tmps:=r.tmps,defers:=[]}:=⟨kN,rfl,hg⟩;obtain⟨NO⟩:=hK;obtain⟨Ut,vb⟩:=hW;simp only [List.size_toArray] at Ut;obtain⟨hlen,mf⟩:=gR.BM gS.params args NO gS.sl nC _ q4 gn Ut (λj aq=>by simpa [gd] using vb j aq);refine⟨by rw[Us];simp [hlen],?_⟩;have ack:(r.params.zip ⟨NO⟩).foldl (λtmps (t,a)=>tmps.setIfInBounds t a) r.tmps=(gS.params.zip NO).foldl (λtmps p=>tmps.setIfInBounds p.1 p.2) r.tmps:=by
   rw[Us,<-Array.foldl_toList];simp
  rw[ack];split at h
  ·rename_i s1 acm
   split at h
   ·rename_i FX NP
    cases xX:Uq FX.state with
    |false=>rw[xX] at h;cases h
    |true=>
     rw[xX,cN] at h;split at h
     ·rename_i gP ND
      split at h
      ·rename_i x tv su
       split at h
       ·rename_i Ur BJ
        split at h
        ·rename_i DF acn
         cases h;refine roundIn_of_wpIn trivial ?_;rw[has,xE];have aco:=vt (ro:=some e.bJ) et dN true (λh=>by cases h) bN gS.assign {sl:=nC,ms:=[],A} .normal s1 φ w _ [] acm ar bg .nil mf;refine wpIn_mono (F:=Fr (some e.bJ)) aco λbs eL w1 hp=> ?_
         obtain⟨rfl,hO,DG,ea,q1,aI⟩:=hp;have NQ:=aI.ext ar _ _ he;obtain⟨c9,g1,g2,g3,g4⟩:=Ny (P:=P) aI.rel NP NQ;obtain⟨vh,la,Fm,acp⟩:=id g2;cases la;have xD:=JB (o':= .loop {c9 with state:= .busy}) aI.rel NQ ND ⟨{c9 with state:= .busy},rfl,rfl,acp⟩;refine⟨{w1 with heap:=w1.heap.setIfInBounds e.bJ (.loop {c9 with state:= .busy})},?_,?_⟩
         ·unfold Instr.beginRound
          refine ev g3 ?_;refine ev (a:=()) (g4 _) ?_;rw[Fm];cases JE:FX.state<;>rw[JE] at xX<;>first|rfl|cases xX
         ·have Uu:=db.trans ar aI xD
          have acq:=vt (ro:=some e.bJ) et dN true (λh=>by cases h) bN gS.body {sl:=s1.sl,ms:=s1.ms,A:=gP} x tv hO _ eL DG su xD.rel (bg.mono (Uu.ext ar)) ea q1;refine wpIn_mono (F:=Fr (some e.bJ)) acq λcw eY w2 fS=> ?_
          obtain⟨rfl,FR,acr,lM,jc,hY⟩:=fS;have Uv:=hY.ext xD.rel _ _ NQ;obtain⟨hx,vs,yN,BK,BL⟩:=Ny (P:=P) hY.rel BJ Uv;obtain⟨Di,JF,akY,akZ,acs⟩:=id yN;cases JF;have NG:=JB (o':= .loop {hx with state:=DI x,pending:=Ab x}) hY.rel Uv acn ⟨{hx with state:=DI x,pending:=Ab x},rfl,rfl,rfl,acs⟩;have NH:=db.trans ar Uu (db.trans xD.rel hY NG);have JG:∀(j:Option Code),j=Ab x->(Instr.endRound e.bJ j).run P w2= .ok (.bool (FW x)) {w2 with heap:=w2.heap.setIfInBounds e.bJ (.loop {hx with state:=DI x,pending:=Ab x})}:=by
           intro j aq;subst aq;unfold Instr.endRound;refine ev BK ?_;have eA:(if (Ab x).isNone then LoopState.ready else LoopState.done)=DI x:=by cases x<;>rfl
           have aT:(Ab x).isNone=FW x:=by cases x<;>rfl
           rw[eA,aT];exact ev (a:=()) (BL _) rfl
          have post:zX φ A w (.bool (FW x)) bK (.returned (.bool (FW x))) {w2 with heap:=w2.heap.setIfInBounds e.bJ (.loop {hx with state:=DI x,pending:=Ab x})}:=⟨FR,.bool _,NH⟩;cases x with
          |normal=>exact⟨_,_,JG _ rfl,post⟩
          |ret=>exact⟨_,_,JG _ rfl,post⟩
          |exit DH=>exact⟨_,_,JG _ rfl,post⟩
          |goto l=>exact⟨_,_,JG _ rfl,post⟩
        ·cases h
       ·cases h
      ·cases h
     ·cases h
   ·cases h
  ·cases h
 ·cases h
end
end a1
end Go.Proofs.YtepcfjbfkedlpaaDoor
namespace Go.Proofs.YtepcfjbfkedlpaaDoor
open Go Go.RowKit
namespace a1
structure cO (B:Nat) (w w':aG):Prop where
 below:Below B w w'
 drawn:h5 w<=h5 w'
theorem cO.refl (B:Nat) (w:aG):cO B w w:=⟨Below.refl _ _,c4 _⟩
theorem cO.trans {B:Nat} {a w w':aG} (h:cO B a w) (g:cO B w w'):cO B a w':=⟨h.below.trans g.below,Nat.le_trans h.drawn g.drawn⟩
theorem cO.mono {B wM:Nat} {w w':aG} (h:cO B w w') (ai:wM<=B):cO wM w w':=⟨h.below.mono ai,h.drawn⟩
theorem cO.size {B:Nat} {w w':aG} (h:cO B w w'):w.heap.size<=w'.heap.size:=h.below.size
theorem cO.block {B:Nat} {w w':aG} (h:cO B w w'):∀k,k<B->w'.heap[k]? =w.heap[k]? :=h.below.block
class vu (P:bB) where
 calls:List (FuncId×List ad×ad)
def JH (f:FuncId) (args:List ad):List (FuncId×List ad×ad)->Option ad
 |[]=>none
 |p::r=>bif Nat.beq f p.1&&wC args p.2.1 then some p.2.2 else JH f args r
theorem Uw {f:FuncId} {args:List ad} {v:ad}:∀{l:List (FuncId×List ad×ad)},JH f args l=some v->(f,args,v)∈l
 |[],h=>by cases h
 |p::r,h=>by
  unfold JH at h;cases he:(Nat.beq f p.1&&wC args p.2.1) with
  |true=>
   rw[he,cN,dL] at h;simp only [fy] at he;have af:=ep he.1;have ah:=Dq _ _ he.2;subst af;subst ah;subst h;exact List.mem_cons_self
  |false=>
   rw[he,fI] at h;exact List.mem_cons_of_mem _ (Uw h)
def Ac (g:FuncId) (u:ad):ad:= .func (.func g) ⟨[]⟩ ⟨[.agg ⟨[.slice none 7 7,u]⟩]⟩
def NR (A:bx) (v:ad):Option ad:=
 bif bL v then some v else match v with
 | .func (.func g) ⟨[]⟩ ⟨[.pointer (some ⟨b,off,none⟩)]⟩=>match A.load b off with
   |some u=>bif bL u then some (Ac g u) else none
   |none=>none
 |_=>none
def JI (A:bx):List ad->Option (List ad)
 |[]=>some []
 |v::r=>match NR A v,JI A r with
  |some v',some iA=>some (v'::iA)
  |_,_=>none
def JJ (P:bB) [vu P] (C:jd):jd where
 call:=λf args A=>match vu.calls P with
  |[]=>C.call f args A
  |l=>match JI A args with
   |some us=>match JH f us l with
    |some v=>some (v,A)
    |none=>C.call f args A
   |none=>C.call f args A
 round:=C.round
def x0 (P:bB) [Lib P] [ft P] [vu P] (gl:cK Nat) (bN:Nat):Nat->jd
 |0=>JJ P {call:=λ_ _ _=>none,round:=λ_ _ _=>none}
 |d+1=>JJ P {call:=NN P gl bN (x0 P gl bN d),round:=NM P gl bN (x0 P gl bN d)}
variable [bp]
def j0 (P:bB) (p:FuncId×List ad×ad):Prop:=
 fH p.2.1=true/\bL p.2.2=true/\∀w,n9 w->Calls P p.1 ⟨fl p.2.1⟩ w λe w'=>e= .returned (bb p.2.2)/\cO w.heap.size w w'
def Ux (w:aG) (v a:ad):Prop:=
 (bL v=true/\a=bb v)\/∃g u B off,v=Ac g u/\bL u=true/\a= .func (.func g) #[] #[.pointer (some ⟨B,off,none⟩)]/\B<w.heap.size/\w.cell? ⟨B,off,none⟩=some (bb u)
def DJ (w:aG):List ad->List ad->Prop
 |[],[]=>True
 |v::r,a::s=>Ux w v a/\DJ w r s
 |_,_=>False
def BN (P:bB) (p:FuncId×List ad×ad):Prop:=
 ∀w,n9 w->∀us,DJ w p.2.1 us->Calls P p.1 ⟨us⟩ w λe w'=>∃v',e= .returned v'/\(∀φ,aM φ p.2.2 v')/\cO w.heap.size w w'
theorem DJ.plain {w:aG}:∀{l us:List ad},fH l=true->DJ w l us->us=fl l
 |[],[],_,_=>rfl
 |v::r,a::s,hp,h=>by
  simp only [fH,fy] at hp;have ah:=DJ.plain hp.2 h.2;rcases h.1 with ⟨_,af⟩|⟨g,u,B,off,rfl,_⟩
  ·rw[af,ah];rfl
  ·have:bL (Ac g u)=false:=by unfold Ac;simp [bL,fH]
   rw[this] at hp;exact absurd hp.1 (by simp)
 |[],_::_,_,h=>h.elim
 |_::_,[],_,h=>h.elim
theorem BN.of {P:bB} {p:FuncId×List ad×ad} (af:fH p.2.1=true) (h:∀w,n9 w->Calls P p.1 ⟨fl p.2.1⟩ w λe w'=>∃v',e= .returned v'/\(∀φ,aM φ p.2.2 v')/\cO w.heap.size w w'):BN P p:=
 λw hw us cG=>by rw[cG.plain af];exact h w hw
theorem j0.acu {P:bB} {p:FuncId×List ad×ad} (h:j0 P p):BN P p:=
 .of h.1 λw hw=>(h.2.2 w hw).mono λe w' ⟨he,ai⟩=>⟨_,he,λφ=>aM.wD φ _ h.2.1,ai⟩
def Uy (P:bB) [vu P]:Prop:=∀p∈vu.calls P,BN P p
theorem db.below {φ:cD} {A:bx} {w w':aG} (ar:cB φ A w) (ai:cO w.heap.size w w'):db φ A w φ A w' where
 rel:=⟨ar.wf,λb e h=>by
  obtain⟨k,af,ah,aH⟩:=ar.fi b e h;exact⟨k,af,ah,aH.mono (λ_ _ h=>h) (ai.block _ aH.lt)⟩,ar.apart,ar.along,λi o ak=>by
  obtain⟨af,ah⟩:=ar.dz i o ak
  exact⟨by rw[ai.block i (Array.getElem?_eq_some_iff.1 af).1];exact af,ah⟩⟩
 fi:=λ_ _=>rfl
 tf:=λb af ah=>by omega
 new:=λb e af ah=>absurd (ar.lt ah) aj
 rF:=c4 _
 low:=c4 _
 same:=λ_ _ _=>rfl
 ro:=λ_ _ h _=>h
 keep:=λi ak _=>ai.block i ak
 hH:=ai.size
 os:=ai.below.os
 tape:=ai.below.tape
 output:=ai.below.output
 drawn:=ai.drawn
theorem acv {φ:cD} {A:bx} {w:aG} (ar:cB φ A w) {v v' a:ad} (h:NR A v=some v') (cG:aM φ v a):Ux w v' a:=by
 unfold NR at h;cases hp:bL v with
 |true=>
  rw[hp,cN,dL] at h;subst h;exact .inl ⟨hp,aM.kr v hp cG⟩
 |false=>
  rw[hp,fI] at h;split at h
  ·rename_i g b off
   split at h
   ·rename_i u hu
    cases JK:bL u with
    |false=>rw[JK] at h;cases h
    |true=>
     rw[JK,cN,dL] at h;subst h;cases cG with
     |func fs lI cs cs' aT af ah bn aA=>
      have bs:lI= #[]:=by
       apply Array.eq_empty_of_size_eq_zero;have:=af;simp at this;omega
      have ay:cs'.size=1:=by
       have:=ah;simp at this;omega
      have bd:=aA 0 (by simp);obtain⟨eN,rfl⟩:∃eN,cs'= #[eN]:=by
       obtain⟨l⟩:=cs'
       match l,ay with
       |[eN],_=>exact⟨eN,rfl⟩
      have acw:aM φ (.pointer (some ⟨b,off,none⟩)) eN:=by simpa using bd
      cases acw with
      |ptr he=>
       rename_i e;obtain⟨u',g1,g2⟩:=wg ar hu he;refine .inr ⟨g,u,e.bJ,e.sh+off,rfl,JK,by rw[bs],?_,?_⟩
       ·obtain⟨k,_,_,aH⟩:=ar.fi b e he
        exact aH.lt
       ·rw[g1,aM.kr u JK g2]
   ·cases h
  ·cases h
theorem Uz {φ:cD} {A:bx} {w:aG} (ar:cB φ A w):∀{args us l:List ad},JI A args=some us->args.length=l.length->(∀j,j<args.length->aM φ (args.getD j Go.undef) (l.getD j Go.undef))->DJ w us l
 |[],us,[],h,_,_=>by cases h;trivial
 |v::r,us,a::s,h,az,aq=>by
  unfold JI at h;split at h
  ·rename_i v' iA af ah
   cases h;exact⟨acv ar af (by simpa using aq 0 (by simp)),Uz ar ah (by simpa using az) λj h4=>by simpa using aq (j+1) (by simpa using h4)⟩
  ·cases h
 |[],_,_::_,_,h,_=>by cases h
 |_::_,_,[],_,h,_=>by cases h
theorem UA {P:bB} [ft P] [vu P] {gl:cK Nat} {C:jd} (DK:Uy P) (h:mw P gl C):mw P gl (JJ P C):=by
 refine⟨h.facts,λf args A v bK φ w hK aA ar bg hW=> ?_,h.round⟩;unfold JJ at aA;simp only at aA;split at aA
 ·exact h.call f args A v bK φ w hK aA ar bg hW
 split at aA
 ·rename_i us has
  split at aA
  ·rename_i u hu
   cases aA;have aH:=DK _ (Uw hu);obtain⟨l⟩:=hK;have az:=Uz ar has hW.1.symm (l:=l) (λi ak=>by simpa using hW.2 i ak);refine(aH w (λi o ak=>(ar.dz i o ak).1) l az).mono λe w' he=> ?_
   obtain⟨v',rfl,aR,ai⟩:=he;exact⟨φ,aR φ,db.below ar ai⟩
  ·exact h.call f args A v bK φ w hK aA ar bg hW
 ·exact h.call f args A v bK φ w hK aA ar bg hW
theorem BO {P:bB} [Lib P] [ft P] [vu P] {gl:cK Nat} {bN:Nat} (et:P.follows .mixedOrders=true) (gg:vl P) (DK:Uy P):∀d,mw P gl (x0 P gl bN d)
 |0=>UA DK ⟨gg,λf args A v bK φ w hK h=>(by cases h),λb args A v bK φ w hK e k gS r h=>(by cases h)⟩
 |d+1=>UA DK ⟨gg,λf args A v bK φ w hK h ar bg hW=>acg et (BO et gg DK d) h ar bg hW,
   λb args A v bK φ w hK e k gS r h ar bg hW he ao gF tg Bx=>acj et (BO et gg DK d) h ar bg hW he ao gF tg Bx⟩
def start:bx:={bl:= .nil,n:=0,mem:= .nil,low:=0}
theorem UB {w:aG} (ak:n9 w):cB (λ_=>none) start w:=
 ⟨⟨λ_ _ h=>(by cases h),λ_ _ h=>(by cases h),λ_ _ h=>(by cases h),λ_ _ _ _ h=>(by cases h)⟩,λ_ _ h=>(by cases h),λ_ _ _ _ _ _ h=>(by cases h),λ_ _ _ _ _ _ h=>(by cases h),λi o h=>⟨ak i o h,λ_ _ h=>by cases h⟩⟩
end a1
end Go.Proofs.YtepcfjbfkedlpaaDoor
namespace Go.Proofs.YtepcfjbfkedlpaaDoor
open Go Go.Proofs Go.RowKit
namespace a1
noncomputable instance:Lib Tryd.prog where
 same:=[]
 Tq:=λf bn x=>by cases bn
 Mz:=[]
 Tr:=λp hp=>by cases hp
theorem mixed:Tryd.prog.follows .mixedOrders=true:=ag
end a1
end Go.Proofs.YtepcfjbfkedlpaaDoor
namespace Go.Proofs.YtepcfjbfkedlpaaDoor
open Go Go.RowKit
namespace a1
class dJ where
 gw:cD
 jD:Nat
@[reducible] def rO:dJ:=⟨λ_=>none,0⟩
def wN [dJ] (φ:cD) (A:bx):Prop:=dJ.jD<=A.n/\∀b,b<dJ.jD->φ b=dJ.gw b
theorem wN.step [bp] [dJ] {φ dI:cD} {A bK:bx} {w w':aG} (h:wN φ A) (ay:db φ A w dI bK w'):wN dI bK:=
 ⟨Nat.le_trans h.1 ay.rF,λb ai=>by rw[ay.fi b (Nat.lt_of_lt_of_le ai h.1)];exact h.2 b ai⟩
theorem wN.none (φ:cD) (A:bx): @wN rO φ A:=⟨Nat.zero_le _,λb ai=>absurd ai (Nat.not_lt_zero _)⟩
structure Here [bp] [dJ] (N:Nat) (s:c6) (B:Nat) (w0:aG) (a:Act) (w:aG):Prop where
 ex:∃φ ds,ss φ s.ms ds/\gR N ds φ s.sl a/\cB φ s.A w/\(∀b e,φ b=some e->B<=e.bJ)/\wN φ s.A
 below:cO B w0 w
 size:B<=w.heap.size
section
variable [bp]
theorem BP {φ dI:cD} {A bK:bx} {w w':aG} {B:Nat} (cM:∀b e,φ b=some e->B<=e.bJ) (ay:db φ A w dI bK w') (dV:B<=w.heap.size):(∀b e,dI b=some e->B<=e.bJ)/\cO B w w':=by
 refine⟨λb e he=> ?_,⟨ay.os,ay.tape,ay.output,ay.hH,λk ao=>ay.keep k aj λb e fE ai he _=>by have:=cM b e ai;omega⟩,ay.drawn⟩;rcases Nat.lt_or_ge b A.n with h|h
 ·rw[ay.fi b h] at he
  exact cM b e he
 ·rcases ay.new b e h he with af|⟨cj,b4,fe,q1,aI,_⟩
  ·omega
  ·rw[<-aI]
   exact cM cj b4 q1
omit [bp] in
theorem jE (φ:cD):n' .nil φ:=λg b bg=>by cases bg
variable [dJ]
variable {P:bB} [Lib P] [ft P] {C:jd} {N B:Nat} {w0 w:aG} {a:Act} {s hA:c6}
theorem acx (et:P.follows .mixedOrders=true) (dN:mw P .nil C) (bN:Nat) {c:Code} {x:nD} (h:ob P C .nil N false bN c s=some (x,hA)) (ae:Here N s B w0 a w):
  c.wpIn (Fr none) 0 P (λe bR w'=>e=x.exit'/\Here N hA B w0 bR w') a w:=by
 obtain⟨⟨φ,ds,af,ah,aH,ck,gW⟩,dd,dM⟩:=ae;refine wpIn_mono (vt (ro:=none) et dN false (λ_=>rfl) bN c s x hA φ w a ds h aH (jE φ) af ah) λe bR w' hp=> ?_
 obtain⟨rfl,dI,acy,q1,aI,bS⟩:=hp;obtain⟨gZ,jn⟩:=BP ck bS dM;exact⟨rfl,⟨dI,acy,q1,aI,bS.rel,gZ,gW.step bS⟩,dd.trans jn,Nat.le_trans dM bS.hH⟩
theorem acz {c:Operand} {t:Bool} (h:eQ .nil s.sl c= .bool t) (ae:Here N s B w0 a w):a.eval c= .bool t:=by
 obtain⟨⟨φ,ds,af,ah,aH,ck,_⟩,_,_⟩:=ae;have:=h_ (jE φ) ah.get c;rw[h] at this;cases aR:a.eval c<;>rw[aR] at this<;>cases this
 rfl
omit [Lib P] in
theorem acA (gg:vl P) {c:Operand} {t:Bool} (h:Bv P (eQ .nil s.sl c)=some t) (ae:Here N s B w0 a w):a.eval c= .bool t:=by
 obtain⟨⟨φ,ds,af,ah,aH,ck,_⟩,_,_⟩:=ae;exact Jm gg w h (h_ (jE φ) ah.get c)
omit [dJ] in
theorem UC (dN:mw P .nil C) {ds:List Deferred} {ops:Array Oper} {Q:Exit->Act->aG->Prop} {jo:List Oper}:∀(l:List Oper) (sl eX:ax) (A bK:bx) (φ:cD) (w:aG) (a:Act),cB φ A w->gR N ds φ sl a->yG P C .nil N ops l sl A=some (eX,bK)->
  (∀dI bR w',gR N ds dI eX bR->db φ A w dI bK w'->wpListIn (Fr none) 0 P ops Q jo bR w')->wpListIn (Fr none) 0 P ops Q (l++jo) a w
 |[],sl,eX,A,bK,φ,w,a,ar,ay,h,dZ=>by
  cases h;exact dZ φ a w ay (db.refl ar)
 |o::r,sl,eX,A,bK,φ,w,a,ar,ay,h,dZ=>by
  unfold yG at h;split at h
  ·rename_i gX cg eA
   obtain⟨v,aR,hp⟩:=M7 eA;rw[List.cons_append];unfold wpListIn;refine FG dN ar (jE φ) ay.get aR λdI v' w' wB p2=> ?_
   exact UC dN r gX eX cg bK dI w' (a.put o.dst v') p2.rel ((ay.mono (p2.ext ar)).put wB hp) h λgf eY w2 af ah=>dZ gf eY w2 af (db.trans ar p2 ah)
  ·cases h
theorem acB (dN:mw P .nil C) {ops:Array Oper} {Q:Exit->Act->aG->Prop} (l1 jo:List Oper) {gX:ax} {cg:bx} (h:yG P C .nil N ops l1 s.sl s.A=some (gX,cg)) (ae:Here N s B w0 a w)
  (dZ:∀bR w',Here N {sl:=gX,ms:=s.ms,A:=cg} B w0 bR w'->wpListIn (Fr none) 0 P ops Q jo bR w'):wpListIn (Fr none) 0 P ops Q (l1++jo) a w:=by
 obtain⟨⟨φ,ds,af,ah,aH,ck,gW⟩,dd,dM⟩:=ae;refine UC dN l1 _ _ _ _ φ w a aH ah h λdI bR w' q1 aI=> ?_
 obtain⟨gZ,jn⟩:=BP ck aI dM;exact dZ bR w' ⟨⟨dI,ds,af.mono (aI.ext aH),q1,aI.rel,gZ,gW.step aI⟩,dd.trans jn,Nat.le_trans dM aI.hH⟩
theorem Here.quiet {w':aG} (ae:Here N s B w0 a w) (ai:cO w.heap.size w w'):Here N s B w0 a w':=by
 obtain⟨⟨φ,ds,af,ah,aH,ck,gW⟩,dd,dM⟩:=ae;exact⟨⟨φ,ds,af,ah,(db.below aH ai).rel,ck,gW⟩,dd.trans (ai.mono dM),Nat.le_trans dM ai.size⟩
theorem Here.put {d:Option Tmp} {v:ad} {eX:ax} (ae:Here N s B w0 a w) (hp:bL v=true) (gn:e8 N s.sl d v=some eX):Here N {s with sl:=eX} B w0 (a.put d (bb v)) w:=by
 obtain⟨⟨φ,ds,af,ah,aH,ck,gW⟩,dd,dM⟩:=ae;exact⟨⟨φ,ds,af,ah.put (aM.wD φ v hp) gn,aH,ck,gW⟩,dd,dM⟩
end
theorem acC [dJ] {P:bB} {N B:Nat} {w0 w:aG} {a:Act} {X:Type} (fW:X->bp) (aZ:c6) (ku:X->Prop) (nE:X->Nat) {body:Code} {Q:Exit->Act->aG->Prop}
  (round:∀x,ku x->∀a w,@Here (fW x) _ N aZ B w0 a w->body.wpIn (Fr none) 0 P (Exit.then (λbR w'=>∃x',ku x'/\nE x'<nE x/\ @Here (fW x') _ N aZ B w0 bR w') Q) a w)
  (x:X) (aw:ku x) (ae: @Here (fW x) _ N aZ B w0 a w):(Code.loop body).wpIn (Fr none) 0 P Q a w:=by
 have key:∀n x a w,nE x<=n->ku x-> @Here (fW x) _ N aZ B w0 a w->Code.roundsIn (Fr none) 0 P body Q (n+1) a w:=by
  intro n
  induction n with
  |zero=>
   intro x a w aT aw ae;rw[roundsIn_succ];refine wpIn_mono (round x aw a w ae) λe bR w' hp=> ?_
   cases e with
   |normal=>obtain⟨x',_,c_,_⟩:=hp;omega
   |_=>exact hp
  |succ n eJ=>
   intro x a w aT aw ae;rw[roundsIn_succ];refine wpIn_mono (round x aw a w ae) λe bR w' hp=> ?_
   cases e with
   |normal=>
    obtain⟨x',tp,c_,BQ⟩:=hp;exact eJ x' bR w' aj tp BQ
   |_=>exact hp
 exact wpIn_loop_rounds _ (key (nE x) x a w (c4 _) aw ae)
def JL (v:ad) (A:bx):c6:={sl:= .node (some v) .nil .nil,ms:=[],A}
def NS (v:ad):Act:={tmps:= #[v],defers:=[]}
def acD [bp] (P:bB) (fn:Func) (A:bx) (sl:ax) (v:ad):Prop:=
 ∀(φ:cD) (w:aG) (tmps:Array ad),cB φ A w->(∀t u,sl.get t=some u->aM φ u (tmps.getD t undef))->∃v',(results fn tmps).run P w= .ok v' w/\aM φ v v'
def FZ [dJ] (P:bB) (fn:Func) (N B:Nat) (w0:aG) (R:Ending->aG->Prop) (a:Act) (w:aG):Prop:=
 ∃(fW:bp) (s:c6) (gP:bx) (v:ad),@Here fW _ N s B w0 a w/\ @yL s.A s.ms=some gP/\ @acD fW P fn gP s.sl v/\
  ∀v' w2,@Here fW _ 1 (JL v gP) B w0 (NS v') w2->R (.returned v') w2
def tw [dJ] (P:bB) (fn:Func) (N B:Nat) (w0:aG) (R:Ending->aG->Prop):Exit->Act->aG->Prop
 | .normal,a,w=>FZ P fn N B w0 R a w
 | .ret,a,w=>FZ P fn N B w0 R a w
 |_,_,_=>False
theorem NT [bp] [dJ] {P:bB} {f:FuncId} {fn:Func} {c:Code} (p9:P.funcs[f]? =some fn) (aA:fn.body=some c) {args:List ad} {sl:ax} (hg:setArgs 0 args .nil=some sl) {φ:cD} {A:bx} {w0 w:aG} {B:Nat} {hK:Array ad}
  (ar:cB φ A w) (cM:∀b e,φ b=some e->B<=e.bJ) (bW:wN φ A) (hW:iY args φ hK) (ai:cO B w0 w) (dV:B<=w.heap.size) {R:Ending->aG->Prop}
  (q5:∀a,Here (args.length+(fn.ntmps-args.length)) {sl,ms:=[],A} B w0 a w->c.wpIn (Fr none) 0 P (tw P fn (args.length+(fn.ntmps-args.length)) B w0 R) a w):Calls P f hK w R:=by
 have NU:hK.size=args.length:=hW.1;have ay:gR (args.length+(fn.ntmps-args.length)) [] φ sl {tmps:=hK++Array.replicate (fn.ntmps-hK.size) undef,defers:=[]}:=by
  refine⟨by simp [NU],rfl,λt u hu=> ?_⟩;rcases NI _ _ _ _ hg t u hu with ⟨j,aq,bw,rfl⟩|bg
  ·have:=hW.2 j aq
   simp only [Nat.zero_add] at bw;subst bw;simp only [gd] at this ⊢;rw[Array.getElem?_append_left aj];exact this
  ·cases bg
 refine(callsIn_wide (n:=0)).1 ?_;refine callsIn_of_wp_marks p9 aA trivial ?_ rfl;refine wpIn_mono (F:=Fr none) (q5 _ ⟨⟨φ,[],.nil,ay,ar,cM,bW⟩,ai,dV⟩) λe eL w1 hp=> ?_
 have main:FZ P fn (args.length+(fn.ntmps-args.length)) B w0 R eL w1->LeavesInM (Fr none) 0 P fn eL.tmps R eL.defers .returning w1:=by
  rintro ⟨fW,s,gP,v,ae,az,mx,me⟩;letI:=fW;obtain⟨⟨hO,ds,ea,q1,aI,bS,mK⟩,fo,iK⟩:=ae;rw[q1.defers];refine Nz s.ms ds s.A gP w1 aI ea az λw2 gZ=> ?_
  obtain⟨v',g1,g2⟩:=mx hO w2 eL.tmps gZ.rel q1.get;refine⟨v',g1,?_⟩;obtain⟨vs,yN⟩:=BP bS gZ iK;refine me v' w2 ⟨⟨hO,[],.nil,⟨rfl,rfl,λt u hu=> ?_⟩,gZ.rel,vs,mK.step gZ⟩,fo.trans yN,Nat.le_trans iK gZ.hH⟩;unfold JL at hu;simp only [cK.get] at hu;cases bw:(t==0) with
  |true=>
   rw[bw,cN,dL] at hu;subst hu;have:t=0:=by simpa using bw
   subst this;exact g2
  |false=>
   rw[bw,fI] at hu;cases hp:(t%2==1)<;>rw[hp] at hu<;>cases hu
 cases e with
 |normal=>exact main hp
 |ret=>exact main hp
 |_=>exact hp.elim
end a1
namespace a1
abbrev gh:=List (ad×ad)
def both:Option gh->Option gh->Option gh
 |some a,some b=>some (a++b)
 |_,_=>none
theorem vv {a b:Option gh} {l:gh} (h:both a b=some l):∃x y,a=some x/\b=some y/\l=x++y:=by
 cases a<;>cases b<;>simp [both] at h
 exact⟨_,_,rfl,rfl,h.symm⟩
def DL:ad->Bool
 | .complex .f32 a b=>Nat.beq a 77&&Nat.beq b 77
 |_=>false
theorem UD {v:ad} (h:DL v=true):v=c3:=by
 unfold DL at h;split at h
 ·simp only [fy] at h
  rw[ep h.1,ep h.2];rfl
 ·cases h
def NV (v1 hB:ad):Option gh:=bif DL hB then some [] else bif bL v1&&bL hB then (bif ln v1 hB&&plain v1 then some [] else some [(v1,hB)]) else none
mutual
def JM (n:Nat):ad->ad->Option gh
 | .pointer (some ⟨b,o,none⟩),.pointer (some ⟨b',o',none⟩)=>bif Nat.blt b n&&(Nat.beq b b'&&Nat.beq o o') then some [] else none
 | .slice (some ⟨b,o,none⟩) m c,.slice (some ⟨b',o',none⟩) oY c'=>bif Nat.blt b n&&(Nat.beq b b'&&(Nat.beq o o'&&(Nat.beq m oY&&Nat.beq c c'))) then some [] else none
 | .agg ⟨l⟩,.agg ⟨l'⟩=>BR n l l'
 | .func (.func f) ⟨l⟩ ⟨k⟩,.func (.func nB) ⟨l'⟩ ⟨k'⟩=>bif Nat.beq f nB then both (BR n l l') (BR n k k') else none
 | .func (.yield b) ⟨[]⟩ ⟨[]⟩,.func (.yield b') ⟨[]⟩ ⟨[]⟩=>bif Nat.blt b n&&Nat.beq b b' then some [] else none
 |v1,hB=>NV v1 hB
def BR (n:Nat):List ad->List ad->Option gh
 |[],[]=>some []
 |v::r,v'::iA=>both (JM n v v') (BR n r iA)
 |_,_=>none
end
def o1 (n:Nat) (φ:cD):cD:=λb=>if b<n then φ b else none
theorem DM {n b:Nat} {φ:cD} {e:iJ} (h:φ b=some e) (ai:b<n):o1 n φ b=some e:=by unfold o1;rw[aP ai];exact h
theorem rP {n b:Nat} {φ:cD} {e:iJ} (h:o1 n φ b=some e):b<n/\φ b=some e:=by
 unfold o1 at h;split at h
 ·rename_i ai;exact⟨ai,h⟩
 ·cases h
def hD (s1 s2:bp) (l:gh):Prop:=∀p∈l,@bb s1 p.1= @bb s2 p.2
theorem hD.left {s1 s2:bp} {a b:gh} (h:hD s1 s2 (a++b)):hD s1 s2 a:=λp hp=>h p (List.mem_append_left _ hp)
theorem hD.right {s1 s2:bp} {a b:gh} (h:hD s1 s2 (a++b)):hD s1 s2 b:=λp hp=>h p (List.mem_append_right _ hp)
theorem acE {s1 s2:bp} {φ gf:cD} {v1 hB v':ad} {l:gh} (h:NV v1 hB=some l) (hm:hD s1 s2 l) (aR: @aM s1 φ v1 v'): @aM s2 gf hB v':=by
 unfold NV at h;cases af:DL hB with
 |true=>rw[UD af];exact @aM.c3 s2 gf v'
 |false=>
  rw[af,fI] at h;cases ah:(bL v1&&bL hB) with
  |false=>rw[ah] at h;cases h
  |true=>
   rw[ah,cN] at h;simp only [fy] at ah;cases aH:(ln v1 hB&&plain v1) with
   |true=>
    simp only [fy] at aH;have he:=mO _ _ aH.1;subst he;rw[@aM.mc s1 φ v1 v' aH.2 aR];exact @aM.lv s2 gf v1 aH.2
   |false=>
    rw[aH,fI,dL] at h;subst h;have:=hm (v1,hB) (by simp);rw[@aM.kr s1 φ v1 v' ah.1 aR];simp only at this;rw[this];exact @aM.wD s2 gf hB ah.2
mutual
theorem UE {s1 s2:bp} {φ:cD} {n:Nat}:∀(v1 hB:ad) {v':ad} {l:gh},JM n v1 hB=some l->hD s1 s2 l-> @aM s1 φ v1 v'-> @aM s2 (o1 n φ) hB v':=by
 intro v1 hB v' l h hm aR;unfold JM at h;split at h
 ·rename_i b o b' o'
  cases ai:(Nat.blt b n&&(Nat.beq b b'&&Nat.beq o o')) with
  |false=>rw[ai] at h;cases h
  |true=>
   simp only [fy] at ai;have bs:=ep ai.2.1;have cw:=ep ai.2.2;subst bs;subst cw;cases aR with
   |ptr h=>exact @aM.ptr s2 (o1 n φ) _ _ _ (DM h (Nat.blt_eq.mp ai.1))
 ·rename_i b o m c b' o' oY c'
  cases ai:(Nat.blt b n&&(Nat.beq b b'&&(Nat.beq o o'&&(Nat.beq m oY&&Nat.beq c c')))) with
  |false=>rw[ai] at h;cases h
  |true=>
   simp only [fy] at ai;have bs:=ep ai.2.1;have cw:=ep ai.2.2.1;have dD:=ep ai.2.2.2.1;have hq:=ep ai.2.2.2.2;subst bs;subst cw;subst dD;subst hq;cases aR with
   |jI bR af=>exact @aM.jI s2 (o1 n φ) _ _ bR af
   |jk _ _ h=>exact @aM.jk s2 (o1 n φ) _ _ _ _ _ (DM h (Nat.blt_eq.mp ai.1))
   |jl _ _ c' h ay aA az=>exact @aM.jl s2 (o1 n φ) _ _ _ _ _ c' (DM h (Nat.blt_eq.mp ai.1)) ay aA az
 ·rename_i l1 jo
  cases aR with
  |agg cs cs' af ah=>
   obtain⟨q1,aI⟩:=DN l1 jo h hm cs'.toList (by simpa using af.symm) λi ak=>by simpa [gd] using ah i (by simpa using ak)
   exact @aM.agg s2 (o1 n φ) _ _ (by simpa using q1.symm) λi ak=>by simpa [gd] using aI i (by simpa using ak)
 ·rename_i f l1 gZ nB jo jn
  cases bn:Nat.beq f nB with
  |false=>rw[bn] at h;cases h
  |true=>
   rw[bn,cN] at h;have bs:=ep bn;subst bs;obtain⟨x,y,aw,hy,rfl⟩:=vv h;cases aR with
   |func fs lI cs cs' aT af ah aH ck=>
    obtain⟨q1,aI⟩:=DN l1 jo aw hm.left lI.toList (by simpa using af.symm) λi ak=>by simpa [gd] using aH i (by simpa using ak)
    obtain⟨bS,fo⟩:=DN gZ jn hy hm.right cs'.toList (by simpa using ah.symm) λi ak=>by simpa [gd] using ck i (by simpa using ak)
    exact @aM.func s2 (o1 n φ) _ _ _ _ _ aT (by simpa using q1.symm) (by simpa using bS.symm) (λi ak=>by simpa [gd] using aI i (by simpa using ak)) λi ak=>by simpa [gd] using fo i (by simpa using ak)
 ·rename_i b b'
  cases ai:(Nat.blt b n&&Nat.beq b b') with
  |false=>rw[ai] at h;cases h
  |true=>
   simp only [fy] at ai;have bs:=ep ai.2;subst bs;cases aR with
   |u5 h=>exact @aM.u5 s2 (o1 n φ) _ _ (DM h (Nat.blt_eq.mp ai.1))
   |func _ _ _ _ aT _ _ _ _=>exact absurd rfl (aT _)
 ·exact acE h hm aR
theorem DN {s1 s2:bp} {φ:cD} {n:Nat}:∀(l1 jo:List ad) {l:gh},BR n l1 jo=some l->hD s1 s2 l->∀(u:List ad),u.length=l1.length->(∀i,i<l1.length-> @aM s1 φ (l1.getD i Go.undef) (u.getD i Go.undef))->
  u.length=jo.length/\∀i,i<jo.length-> @aM s2 (o1 n φ) (jo.getD i Go.undef) (u.getD i Go.undef)
 |[],[],_,_,_,u,hu,_=>⟨hu,λi ak=>absurd ak (by simp)⟩
 |[],_::_,_,h,_,_,_,_=>by cases h
 |_::_,[],_,h,_,_,_,_=>by cases h
 |v::r,hB::eF,l,h,hm,u,hu,aR=>by
  unfold BR at h;obtain⟨x,y,aw,hy,rfl⟩:=vv h;cases u with
  |nil=>simp at hu
  |cons w u=>
   obtain⟨q1,aI⟩:=DN r eF hy hm.right u (by simpa using hu) λi ak=>by simpa using aR (i+1) (by simpa using ak)
   refine⟨by simp [q1],λi ak=> ?_⟩;cases i with
   |zero=>simpa using UE v hB aw hm.left (by simpa using aR 0 (by simp))
   |succ i=>simpa using aI i (by simpa using ak)
end
def JN (n:Nat):Option ad->Option ad->Option gh
 |_,none=>some []
 |some a,some b=>JM n a b
 |none,some b=>bif DL b then some [] else none
def F0 (n:Nat):cK ad->Option gh
 | .nil=>some []
 | .node v l r=>both (JN n none v) (both (F0 n l) (F0 n r))
def BS (n:Nat):cK ad->cK ad->Option gh
 |_,.nil=>some []
 | .nil,.node v l r=>F0 n (.node v l r)
 | .node v1 l1 c9,.node v l r=>both (JN n v1 v) (both (BS n l1 l) (BS n c9 r))
theorem UF {s1 s2:bp} {φ:cD} {n:Nat} {a b:Option ad} {l:gh} (h:JN n a b=some l) (hm:hD s1 s2 l) {v' hB:ad} (ai:b=some hB) (aR:∀v1,a=some v1-> @aM s1 φ v1 v'): @aM s2 (o1 n φ) hB v':=by
 subst ai;cases a with
 |none=>
  simp only [JN] at h;cases hp:DL hB with
  |false=>rw[hp] at h;cases h
  |true=>rw[UD hp];exact @aM.c3 s2 (o1 n φ) v'
 |some v1=>exact UE v1 hB h hm (aR v1 rfl)
theorem NW {s1 s2:bp} {φ:cD} {n:Nat}:∀(t:cK ad) {l:gh},F0 n t=some l->hD s1 s2 l->∀(i:Nat) (hB v':ad),t.get i=some hB-> @aM s2 (o1 n φ) hB v'
 | .nil,_,_,_,i,hB,v',h=>by cases h
 | .node v F1 yP,l,h,hm,i,hB,v',bg=>by
   unfold F0 at h;obtain⟨x,y,aw,hy,rfl⟩:=vv h;obtain⟨yQ,F2,af,ah,rfl⟩:=vv hy;unfold cK.get at bg;cases ak:(i==0) with
   |true=>
    rw[ak,cN] at bg;exact UF (s1:=s1) aw hm.left bg (λv1 h=>by cases h)
   |false=>
    rw[ak,fI] at bg;cases hp:(i%2==1) with
    |true=>rw[hp,cN] at bg;exact NW F1 af hm.right.left _ hB v' bg
    |false=>rw[hp,fI] at bg;exact NW yP ah hm.right.right _ hB v' bg
theorem DO {s1 s2:bp} {φ:cD} {n:Nat}:∀(t1 t2:cK ad) {l:gh},BS n t1 t2=some l->hD s1 s2 l->∀(i:Nat) (hB v':ad),t2.get i=some hB->(∀v1,t1.get i=some v1-> @aM s1 φ v1 v')-> @aM s2 (o1 n φ) hB v'
 |t1,.nil,_,_,_,i,hB,v',h,_=>by cases h
 | .nil,.node v F1 yP,l,h,hm,i,hB,v',bg,_=>NW (s1:=s1) (.node v F1 yP) (by simpa [BS] using h) hm i hB v' bg
 | .node v1 l1 c9,.node v F1 yP,l,h,hm,i,hB,v',bg,aR=>by
   unfold BS at h;obtain⟨x,y,aw,hy,rfl⟩:=vv h;obtain⟨yQ,F2,af,ah,rfl⟩:=vv hy;unfold cK.get at bg aR;cases ak:(i==0) with
   |true=>
    simp only [ak,cN] at bg aR;exact UF aw hm.left bg aR
   |false=>
    simp only [ak,fI] at bg aR;cases hp:(i%2==1) with
    |true=>simp only [hp,cN] at bg aR;exact DO l1 F1 af hm.right.left _ hB v' bg aR
    |false=>simp only [hp,fI] at bg aR;exact DO c9 yP ah hm.right.right _ hB v' bg aR
structure bG where
 obj:v_
 ty:bq
 fO:Nat
def bG.bJ (b:bG) (i:Nat):iX:={obj:=b.obj,dG:=i,pos:=0,fO:=b.fO,ro:=false,ty:=b.ty}
def F3:List bG->Nat->cK iX->cK iX
 |[],_,t=>t
 |b::r,i,t=>F3 r (i+1) (match cK.set (b.bJ i) depth t i with|some fk=>fk|none=>t)
def NY:Nat->Nat->cK (List Nat)->cK (List Nat)
 |0,_,t=>t
 |n+1,i,t=>NY n (i+1) (match cK.set [i] depth t i with|some fk=>fk|none=>t)
def cS (l:List bG):bx:={bl:=F3 l 0 .nil,n:=l.length,mem:=NY l.length 0 .nil,low:=0}
def BU (l:List bG):Bool:=(List.range l.length).all λi=>(match (NY l.length 0 .nil).get i with|some m=>m.contains i|none=>false)&&(match (F3 l 0 .nil).get i with|some _=>true|none=>false)
theorem UG:∀(l:List bG) (i:Nat) (t:cK iX) (b:Nat) (k:iX),(F3 l i t).get b=some k->(∃j x,l[j]? =some x/\b=i+j/\k=x.bJ b)\/((b<i\/i+l.length<=b\/True)/\t.get b=some k)
 |[],i,t,b,k,h=> .inr ⟨.inr (.inr trivial),h⟩
 |x::r,i,t,b,k,h=>by
  unfold F3 at h;rcases UG r (i+1) _ b k h with ⟨j,y,af,ah,aH⟩|⟨_,af⟩
  ·exact .inl ⟨j+1,y,by simpa using af,aj,aH⟩
  ·split at af
   ·rename_i fk bw
    rw[cK.pq _ _ _ _ _ b bw] at af;split at af
    ·rename_i ai
     cases af;exact .inl ⟨0,x,by simp,aj,by rw[ai]⟩
    ·exact .inr ⟨.inr (.inr trivial),af⟩
   ·exact .inr ⟨.inr (.inr trivial),af⟩
theorem BV {l:List bG} {b:Nat} {k:iX} (h:(cS l).bl.get b=some k):∃x,l[b]? =some x/\k=x.bJ b:=by
 rcases UG l 0 .nil b k h with ⟨j,x,af,ah,aH⟩|⟨_,af⟩
 ·have:b=j:=by omega
  subst this;exact⟨x,af,aH⟩
 ·cases af
theorem UH {l:List bG} (iB:BU l=true):Bc (cS l) where
 lt:=λb k h=>by
  obtain⟨x,af,_⟩:=BV h;have:=(List.getElem?_eq_some_iff.1 af).1;exact this
 u6:=λb k h=>by
  obtain⟨x,af,rfl⟩:=BV h;have:=(List.getElem?_eq_some_iff.1 af).1;exact this
 mem:=λb k h=>by
  obtain⟨x,af,rfl⟩:=BV h;have ai:=(List.getElem?_eq_some_iff.1 af).1;have:=List.all_eq_true.1 iB b (by simpa using ai);simp only [fy] at this;obtain⟨hm,_⟩:=this;split at hm
  ·rename_i m wh
   exact⟨m,wh,by simpa using hm⟩
  ·cases hm
 wa:=λb k b' k' h gE _=>by
  obtain⟨x,_,rfl⟩:=BV h;obtain⟨x',_,rfl⟩:=BV gE;rfl
def UI:LoopState->LoopState->Bool
 | .ready,.ready=>true
 | .busy,.busy=>true
 | .done,.done=>true
 | .exhausted,.exhausted=>true
 |_,_=>false
theorem UJ {a b:LoopState} (h:UI a b=true):a=b:=by cases a<;>cases b<;>first|rfl|cases h
def F4 (n:Nat) (a b:A'):Bool:=UI a.state b.state&&(a.pending.isNone&&(b.pending.isNone&&(Nat.beq a.N b.N&&(decide (a.params=b.params)&&(Nat.beq a.E9 b.E9&&Nat.blt a.E9 n)))))
def DP (n:Nat):v_->v_->Option gh
 | .cells c,.cells c'=>BR n c c'
 | .hV (.loop a),.hV (.loop b)=>bif F4 n a b then BS n a.sl b.sl else none
 | .hV .deferred,.hV .deferred=>some []
 | .hV .gone,.hV .gone=>some []
 |_,_=>none
def JO (n:Nat) (A:bx):List bG->Nat->Option gh
 |[],_=>some []
 |x::r,i=>match A.bl.get i with
  |some k=>bif Nat.beq k.dG i&&(Nat.beq k.fO x.fO&&(Nat.beq k.ty x.ty&& !k.ro)) then both (DP n k.obj x.obj) (JO n A r (i+1)) else none
  |none=>none
theorem DQ {n:Nat} {A:bx}:∀(l:List bG) (i:Nat) {dQ:gh},JO n A l i=some dQ->∀(j:Nat) (x:bG),l[j]? =some x->∃k o,A.bl.get (i+j)=some k/\k.dG=i+j/\k.fO=x.fO/\k.ty=x.ty/\k.ro=false/\DP n k.obj x.obj=some o/\∀p∈o,p∈dQ
 |[],i,dQ,h,j,x,aq=>by simp at aq
 |y::r,i,dQ,h,j,x,aq=>by
  unfold JO at h;split at h
  ·rename_i k ao
   cases aA:(Nat.beq k.dG i&&(Nat.beq k.fO y.fO&&(Nat.beq k.ty y.ty&& !k.ro))) with
   |false=>rw[aA] at h;cases h
   |true=>
    rw[aA,cN] at h;simp only [fy,Bool.not_eq_true'] at aA;obtain⟨a,b,af,ah,rfl⟩:=vv h;cases j with
    |zero=>
     simp only [List.getElem?_cons_zero,dL] at aq;subst aq;exact⟨k,a,ao,ep aA.1,ep aA.2.1,ep aA.2.2.1,aA.2.2.2,af,λp hp=>List.mem_append_left _ hp⟩
    |succ j=>
     obtain⟨k',o,q1,aI,bS,fo,iK,mK,p1⟩:=DQ r (i+1) ah j x (by simpa using aq);exact⟨k',o,by rw[show i+(j+1)=i+1+j by omega];exact q1,aj,bS,fo,iK,mK,λp hp=>List.mem_append_right _ (p1 p hp)⟩
  ·cases h
def JP (A:bx) (i:Nat):Option (Code×Code):=match A.bl.get i with
 |some k=>match k.obj with
  | .hV (.loop gS)=>some (gS.assign,gS.body)
  |_=>none
 |none=>none
def jr (A:bx):List bG->Nat->Prop
 |[],_=>True
 |x::r,i=>(match x.obj with| .hV (.loop gS)=>JP A i=some (gS.assign,gS.body)|_=>True)/\jr A r (i+1)
def NZ:List bG->Bool
 |[]=>true
 |x::r=>(match x.obj with| .hV (.loop _)=>false|_=>true)&&NZ r
theorem N0 {A:bx}:∀{l:List bG} {i j:Nat} {x:bG} {gS:A'},jr A l i->l[j]? =some x->x.obj= .hV (.loop gS)->JP A (i+j)=some (gS.assign,gS.body)
 |[],i,j,x,gS,_,aq,_=>by simp at aq
 |y::r,i,0,x,gS,h,aq,bW=>by
  simp only [List.getElem?_cons_zero,dL] at aq;subst aq;have:=h.1;rw[bW] at this;exact this
 |y::r,i,j+1,x,gS,h,aq,bW=>by
  rw[show i+(j+1)=i+1+j by omega];exact N0 h.2 (by simpa using aq) bW
theorem jF {A:bx}:∀{l:List bG} {i:Nat},NZ l=true->jr A l i
 |[],_,_=>trivial
 |x::r,i,h=>by
  unfold NZ at h;simp only [fy] at h;refine⟨?_,jF h.2⟩;split
  ·rename_i gS aw
   rw[aw] at h;cases h.1
  ·trivial
def bF (s1:c6) (sl:ax) (l:List bG):Option gh:=
 match s1.ms with
 |[]=>bif BU l then both (BS l.length s1.sl sl) (JO l.length s1.A l 0) else none
 |_=>none
theorem Here.BW [dJ] {s1 s2:bp} {N B:Nat} {st:c6} {w0 w w':aG} {a:Act} {sl:ax} {l:List bG} {dQ:gh} (T:Nat->Prop) (fg:bF st sl l=some dQ) (hm:hD s1 s2 dQ) (kW:∀i,T i->s1.dz i≠none/\B<=i)
  (vw:w'.os=w.os/\w'.tape=w.tape/\w'.output=w.output/\h5 w<=h5 w') (dV:w.heap.size<=w'.heap.size) (hw:∀i,i<w.heap.size->¬T i->w'.heap[i]? =w.heap[i]?)
  (pF:∀i o,s2.dz i=some o->w'.heap[i]? =some o/\(s1.dz i≠none\/w.heap.size<=i\/i<B)) (aT:dJ.jD<=l.length) (aA:jr st.A l 0) (ae: @Here s1 _ N st B w0 a w): @Here s2 _ N {sl,ms:=[],A:=cS l} B w0 a w':=by
 unfold bF at fg;split at fg
 ·rename_i BX
  cases iB:BU l with
  |false=>rw[iB] at fg;cases fg
  |true=>
   rw[iB,cN] at fg;obtain⟨x,y,aw,hy,rfl⟩:=vv fg;obtain⟨⟨φ,ds,af,ah,aH,ck,gW⟩,dd,dM⟩:=ae;rw[BX] at af;cases af;have hold:∀b k,(cS l).bl.get b=some k->∃x fE o,l[b]? =some x/\k=x.bJ b/\st.A.bl.get b=some fE/\fE.dG=b/\fE.fO=x.fO/\fE.ty=x.ty/\fE.ro=false/\DP l.length fE.obj x.obj=some o/\∀p∈o,p∈y:=λb k ao=>by
    obtain⟨x,q1,aI⟩:=BV ao;obtain⟨fE,o,c9,eF,hx⟩:=DQ l 0 hy b x q1;rw[Nat.zero_add] at c9 eF;exact⟨x,fE,o,q1,aI,c9,eF,hx⟩
   have t_:∀b e,φ b=some e->e.bJ<w.heap.size/\¬T e.bJ/\s1.dz e.bJ=none:=λb e ai=>by
    obtain⟨k,_,_,q⟩:= @cB.fi s1 _ _ _ aH b e ai;have uv:s1.dz e.bJ=none:=by
     cases ak:s1.dz e.bJ with
     |none=>rfl
     |some o=>exact absurd rfl ((@cB.dz s1 _ _ _ aH e.bJ o ak).2 b e ai)
    exact⟨@gL.lt s1 _ _ _ _ q,λbw=>(kW _ bw).1 uv,uv⟩
   have Ad:∀b e,φ b=some e->w'.heap[e.bJ]? =w.heap[e.bJ]? :=λb e ai=>hw _ (t_ b e ai).1 (t_ b e ai).2.1
   have hz:∀b,b<l.length->∃k,(cS l).bl.get b=some k:=λb ai=>by
    have:=List.all_eq_true.1 iB b (by simpa using ai);simp only [fy] at this;obtain⟨_,hm⟩:=this;split at hm
    ·rename_i k ao;exact⟨k,ao⟩
    ·cases hm
   refine⟨⟨o1 l.length φ,[],.nil,⟨@gR.size s1 _ _ _ _ _ ah,@gR.defers s1 _ _ _ _ _ ah,λt hB DR=>DO st.sl sl aw hm.left t hB _ DR λv1 x1=> @gR.get s1 _ _ _ _ _ ah t v1 x1⟩,⟨UH iB,?_,?_,?_,λi o ak=> ?_⟩,λb e ai=>ck b e (rP ai).2,aT,λb ai=>by unfold o1;rw[aP (Nat.lt_of_lt_of_le ai aT)];exact gW.2 b ai⟩,dd.trans ⟨⟨vw.1,vw.2.1,vw.2.2.1,dV,λk ao=>hw k aj λbw=>by have:=(kW k bw).2;omega⟩,vw.2.2.2⟩,Nat.le_trans dM dV⟩
   ·intro b e ai
    obtain⟨c_,ja⟩:=rP ai;obtain⟨k,ao⟩:=hz b c_;obtain⟨x,fE,o,q1,rfl,bS,fo,iK,mK,p1,h7,BA⟩:=hold b k ao;obtain⟨gZ,c9,eF,hx⟩:= @cB.fi s1 _ _ _ aH b e ja;rw[bS] at c9;cases c9;refine⟨_,ao,by rw[eF,iK];rfl,?_⟩;unfold gL at hx ⊢;show match x.obj with| .cells c=>_| .map es fA=>_| .hV x=>_
    cases gF:fE.obj with
    |cells c=>
     rw[gF] at h7;simp only [gF] at hx;cases kx:x.obj with
     |cells ew=>
      rw[kx] at h7;obtain⟨c',j5,g1,g2,g3,g4,mb⟩:=hx;have pw:∀i,i<c.length->((List.range c.length).map λj=>c'.getD (e.sh+j) undef).getD i undef=c'.getD (e.sh+i) undef:=λi ak=>by
       rw[eP,List.getElem?_map,List.getElem?_range ak];rfl
      have:=DN (s1:=s1) (s2:=s2) (φ:=φ) c ew h7 (λp hp=>hm.right p (BA p hp)) ((List.range c.length).map λj=>c'.getD (e.sh+j) undef) (by simp) λi ak=>by
       rw[pw i ak];exact g4 i ak
      obtain⟨t1,t2⟩:=this;simp only [List.length_map,List.length_range] at t1;refine⟨c',j5,by rw[Ad b e ja,show (x.bJ b).ty=fE.ty from mK.symm];exact g1,g2,by rw[<-t1,show (x.bJ b).fO=fE.fO from iK.symm];exact g3,λj aq=> ?_,λ_=>mb p1⟩;have:=t2 j aq;rw[pw j aj] at this;exact this
     |map es fA=>rw[kx] at h7;cases h7
     |hV z=>rw[kx] at h7;cases h7
    |map es fA=>
     rw[gF] at h7;cases kx:x.obj<;>rw[kx] at h7<;>cases h7
    |hV z=>
     rw[gF] at h7;simp only [gF] at hx;obtain⟨cJ,o',g1,g2⟩:=hx;cases kx:x.obj with
     |cells ew=>rw[kx] at h7;cases z<;>cases h7
     |map es fA=>rw[kx] at h7;cases z<;>cases h7
     |hV z2=>
      rw[kx] at h7;refine⟨cJ,o',(Ad b e ja).trans g1,?_⟩;cases z with
      |loop a=>
       cases z2 with
       |loop b=>
        unfold DP at h7;simp only at h7;cases ay:F4 l.length a b with
        |false=>rw[ay] at h7;cases h7
        |true=>
         rw[ay,cN] at h7;unfold F4 at ay;simp only [fy,decide_eq_true_eq,Option.isNone_iff_eq_none] at ay;obtain⟨fP,ew,qX,Bk,F5,JQ,JR⟩:=ay;have q5:=N0 aA q1 kx;rw[Nat.zero_add] at q5;unfold JP at q5;rw[bS] at q5;simp only [gF,dL,Prod.mk.injEq] at q5;obtain⟨r,rQ,vs,yN,BK,BL,FT,FU,⟨e',N1,u8⟩,N2⟩:=g2;refine⟨r,rQ,vs.trans (UJ fP),by rw[yN,ew,qX],by rw[BK,ep Bk],by rw[BL,F5],by rw[FT,q5.1],by rw[FU,q5.2],⟨e',?_,u8⟩,λt v aR=> ?_⟩
         ·rw[<-ep JQ]
          exact DM N1 (Nat.blt_eq.mp JR)
         ·exact DO (s1:=s1) a.sl b.sl h7 (λp hp=>hm.right p (BA p hp)) t v _ aR λv1 x1=>N2 t v1 x1
       |_=>cases h7
      |_=>cases z2<;>first|(cases h7;done)|exact g2
   ·intro b e k b' e' k' ai fB ao eG dU
    obtain⟨_,ja⟩:=rP ai;obtain⟨_,uq⟩:=rP fB;obtain⟨x,fE,o,q1,rfl,bS,fo,_⟩:=hold b k ao;obtain⟨x',F6,o',wi,rfl,ub,F7,_⟩:=hold b' k' eG;exact @cB.apart s1 _ _ _ aH b e fE b' e' F6 ja uq bS ub (by rw[fo,F7];exact dU)
   ·intro b e k b' e' k' ai fB ao eG bn _
    obtain⟨_,ja⟩:=rP ai;obtain⟨_,uq⟩:=rP fB;obtain⟨x,fE,o,q1,rfl,bS,fo,_⟩:=hold b k ao;obtain⟨x',F6,o',wi,rfl,ub,F7,_⟩:=hold b' k' eG;have:b=b':=bn;subst this;rw[ja] at uq;cases uq;rfl
   ·obtain⟨g1,g2⟩:=pF i o ak
    refine⟨g1,λb e ai acF=> ?_⟩;obtain⟨q1,_,bS⟩:=t_ b e (rP ai).2;have fo:=ck b e (rP ai).2;rw[acF] at q1 bS fo;rcases g2 with g2|g2|g2
    ·exact g2 bS
    ·omega
    ·omega
 ·cases fg
theorem Here.move [dJ] {s1 s2:bp} {N B:Nat} {st:c6} {w0 w:aG} {a:Act} {sl:ax} {l:List bG} {dQ:gh} (fg:bF st sl l=some dQ) (hm:hD s1 s2 dQ)
  (pF:∀i o,s2.dz i=some o->s1.dz i=some o) (aT:dJ.jD<=l.length) (aA:jr st.A l 0) (ae: @Here s1 _ N st B w0 a w): @Here s2 _ N {sl,ms:=[],A:=cS l} B w0 a w:=by
 have ak:=ae;obtain⟨⟨φ,ds,af,ah,aH,ck,gW⟩,dd,dM⟩:=ak;exact Here.BW (λ_=>False) fg hm (λ_ h=>h.elim) ⟨rfl,rfl,rfl,c4 _⟩ (c4 _) (λ_ _ _=>rfl) (λi o h=>⟨(@cB.dz s1 _ _ _ aH i o (pF i o h)).1,.inl (by rw[pF i o h];simp)⟩) aT aA ae
theorem Here.qC [bp] [dJ] {N B:Nat} {st:c6} {w0 w:aG} {a:Act} (ae:Here N st B w0 a w):n9 w:=by
 obtain⟨⟨φ,ds,af,ah,aH,ck,gW⟩,dd,dM⟩:=ae;exact λi o ak=>(aH.dz i o ak).1
end a1
namespace a1
inductive hj where
 |Ae (y:Code)
 |Af (id:Nat)
 |Ag (c:Code) (m:Nat)
inductive dk where
 |done (x:nD) (s:c6)
 |loop (body:Code) (s:c6) (ks:List hj)
 |oper (o:Oper) (r:List Oper) (ops:Array Oper) (s:c6) (ks:List hj)
 |range (g:Operand) (ps:Array Tmp) (oD body:Code) (s:c6) (ks:List hj)
 |draw (id:Nat) (ops:Array Oper) (s:c6) (ks:List hj)
def dk.push (k:hj):dk->dk
 | .loop b s ks=> .loop b s (ks++[k])
 | .oper o r ops s ks=> .oper o r ops s (ks++[k])
 | .range g ps oD b s ks=> .range g ps oD b s (ks++[k])
 | .draw id ops s ks=> .draw id ops s (ks++[k])
 |st=>st
def dk.x2 (k:List hj):dk->dk
 | .loop b s ks=> .loop b s (ks++k)
 | .oper o r ops s ks=> .oper o r ops s (ks++k)
 | .range g ps oD b s ks=> .range g ps oD b s (ks++k)
 | .draw id ops s ks=> .draw id ops s (ks++k)
 |st=>st
def DS (P:bB) [Lib P] [ft P] (C:jd) (N:Nat) (ops:Array Oper) (ms:List Nat):List Oper->ax->bx->dk
 |[],sl,A=> .done .normal {sl,ms,A}
 |o::r,sl,A=>match Bw P C .nil N ops o sl A with
  |some (gX,cg)=>DS P C N ops ms r gX cg
  |none=> .oper o r ops {sl,ms,A} []
def q6 (P:bB) [Lib P] [ft P] (C:jd) (N bN:Nat):Code->c6->Option dk
 | .loop b,s=>match ob P C .nil N false bN (.loop b) s with
   |some (x,s1)=>some (.done x s1)
   |none=>some (.loop b s [])
 | .region id ops d,s=>bif d then match Jr P C .nil N false ops s.sl s.A with
     |some (gX,cg,r)=>some (DS P C N ops s.ms r gX cg)
     |none=>match JA P C .nil N false ops s.sl s.A with
      |some (gX,cg)=>some (.done .normal {sl:=gX,ms:=s.ms,A:=cg})
      |none=>some (.draw id ops s [])
   else some (DS P C N ops s.ms ops.toList s.sl s.A)
 | .seq x y,s=>match q6 P C N bN x s with
   |some (.done x s1)=>match x with
    | .normal=>q6 P C N bN y s1
    |x=>some (.done x s1)
   |some st=>some (st.push (.Ae y))
   |none=>none
 | .cond c x y,s=>match eQ .nil s.sl c with
   | .bool t=>bif t then q6 P C N bN x s else q6 P C N bN y s
   |v=>match Bv P v with
    |some t=>bif t then q6 P C N bN x s else q6 P C N bN y s
    |none=>none
 | .block id x,s=>match q6 P C N bN x s with
   |some (.done x s1)=>match x with
    | .exit id'=>bif Nat.beq id' id then some (.done .normal s1) else some (.done (.exit id') s1)
    |x=>some (.done x s1)
   |some st=>some (st.push (.Af id))
   |none=>none
 | .rangeFunc g ps oD b,s=>match ob P C .nil N false bN (.rangeFunc g ps oD b) s with
   |some (x,s1)=>some (.done x s1)
   |none=>some (.range g ps oD b s [])
 |c,s=>match ob P C .nil N false bN c s with
  |some (x,s1)=>some (.done x s1)
  |none=>none
def F8 (P:bB) [Lib P] [ft P] (C:jd) (N bN:Nat) (c:Code):Nat->c6->Option dk
 |0,_=>none
 |m+1,s=>match q6 P C N bN c s with
  |some (.done x s1)=>match x with
   | .normal=>F8 P C N bN c m s1
   |x=>some (.done x s1)
  |some st=>some (st.push (.Ag c m))
  |none=>none
def resume (P:bB) [Lib P] [ft P] (C:jd) (N bN:Nat):List hj->nD->c6->Option dk
 |[],x,s=>some (.done x s)
 | .Ae y::ks,x,s=>match x with
   | .normal=>match q6 P C N bN y s with
     |some (.done x s1)=>resume P C N bN ks x s1
     |some st=>some (st.x2 ks)
     |none=>none
   |x=>resume P C N bN ks x s
 | .Af id::ks,x,s=>match x with
   | .exit id'=>bif Nat.beq id' id then resume P C N bN ks .normal s else resume P C N bN ks (.exit id') s
   |x=>resume P C N bN ks x s
 | .Ag c m::ks,x,s=>match x with
   | .normal=>match F8 P C N bN c m s with
     |some (.done x s1)=>resume P C N bN ks x s1
     |some st=>some (st.x2 ks)
     |none=>none
   |x=>resume P C N bN ks x s
def fF (P:bB):List hj->(Exit->Act->aG->Prop)->Exit->Act->aG->Prop
 |[],Q=>Q
 | .Ae y::ks,Q=>Exit.then (y.wpIn (Fr none) 0 P (fF P ks Q)) (fF P ks Q)
 | .Af id::ks,Q=>Exit.inBlock id (fF P ks Q)
 | .Ag c m::ks,Q=>Exit.then (Code.roundsIn (Fr none) 0 P c (fF P ks Q) m) (fF P ks Q)
theorem wO (P:bB):∀(gZ jn:List hj) (Q:Exit->Act->aG->Prop),fF P (gZ++jn) Q=fF P gZ (fF P jn Q)
 |[],_,_=>rfl
 | .Ae y::ks,jn,Q=>by simp only [List.cons_append,fF,wO P ks jn Q]
 | .Af id::ks,jn,Q=>by simp only [List.cons_append,fF,wO P ks jn Q]
 | .Ag c m::ks,jn,Q=>by simp only [List.cons_append,fF,wO P ks jn Q]
def q7 (Q:Exit->Act->aG->Prop):Prop:=∀c a w,¬Q (.panic c) a w
theorem q7.then {Q:Exit->Act->aG->Prop} (h:q7 Q) (R:Act->aG->Prop):q7 (Exit.then R Q):=λc a w cy=>h c a w cy
theorem q7.inBlock {Q:Exit->Act->aG->Prop} (h:q7 Q) (id:Nat):q7 (Exit.inBlock id Q):=λc a w cy=>h c a w cy
theorem q7.yR {P:bB} {Q:Exit->Act->aG->Prop} (h:q7 Q):∀ks:List hj,q7 (fF P ks Q)
 |[]=>h
 | .Ae y::ks=>(q7.yR h ks).then _
 | .Af id::ks=>(q7.yR h ks).inBlock id
 | .Ag c m::ks=>(q7.yR h ks).then _
section
variable [bp] [dJ]
def nF (P:bB) (N B:Nat) (w0:aG) (Q:Exit->Act->aG->Prop):dk->Prop
 | .done x s=>∀a w,Here N s B w0 a w->Q x.exit' a w
 | .loop b s ks=>∀a w,Here N s B w0 a w->(Code.loop b).wpIn (Fr none) 0 P (fF P ks Q) a w
 | .oper o r ops s ks=>∀a w,Here N s B w0 a w->wpListIn (Fr none) 0 P ops (fF P ks Q) (o::r) a w
 | .range g ps oD b s ks=>∀a w,Here N s B w0 a w->(Code.rangeFunc g ps oD b).wpIn (Fr none) 0 P (fF P ks Q) a w
 | .draw id ops s ks=>∀a w,Here N s B w0 a w->(Code.region id ops true).wpIn (Fr none) 0 P (fF P ks Q) a w
omit [bp] [dJ] in
theorem N3 {P:bB} {y:Code} {Q:Exit->Act->aG->Prop} {x:nD} {a:Act} {w:aG} (aw:x≠.normal) (h:Q x.exit' a w) (R:Act->aG->Prop):Exit.then R Q x.exit' a w:=by
 cases x<;>first|exact absurd rfl aw|exact h
variable {P:bB} [Lib P] [ft P] {C:jd} {N B:Nat} {w0:aG}
omit [Lib P] [ft P] in
theorem nF.push {k:hj} {Q:Exit->Act->aG->Prop} {st:dk} (bu:∀x s,st≠.done x s) (h:nF P N B w0 Q (st.push k)):nF P N B w0 (fF P [k] Q) st:=by
 cases st with
 |done x s=>exact absurd rfl (bu x s)
 |loop b s ks=>intro a w ae;have:=h a w ae;rw[wO] at this;exact this
 |oper o r ops s ks=>intro a w ae;have:=h a w ae;rw[wO] at this;exact this
 |range g ps oD b s ks=>intro a w ae;have:=h a w ae;rw[wO] at this;exact this
 |draw id ops s ks=>intro a w ae;have:=h a w ae;rw[wO] at this;exact this
omit [Lib P] [ft P] in
theorem nF.x2 {k:List hj} {Q:Exit->Act->aG->Prop} {st:dk} (bu:∀x s,st≠.done x s) (h:nF P N B w0 Q (st.x2 k)):nF P N B w0 (fF P k Q) st:=by
 cases st with
 |done x s=>exact absurd rfl (bu x s)
 |loop b s ks=>intro a w ae;have:=h a w ae;rw[wO] at this;exact this
 |oper o r ops s ks=>intro a w ae;have:=h a w ae;rw[wO] at this;exact this
 |range g ps oD b s ks=>intro a w ae;have:=h a w ae;rw[wO] at this;exact this
 |draw id ops s ks=>intro a w ae;have:=h a w ae;rw[wO] at this;exact this
theorem JS (dN:mw P .nil C) {ops:Array Oper} {ms:List Nat} {Q:Exit->Act->aG->Prop}:∀(l:List Oper) (sl:ax) (A:bx) (a:Act) (w:aG),nF P N B w0 Q (DS P C N ops ms l sl A)->Here N {sl,ms,A} B w0 a w->wpListIn (Fr none) 0 P ops Q l a w
 |[],sl,A,a,w,dZ,ae=>dZ a w ae
 |o::r,sl,A,a,w,dZ,ae=>by
  unfold DS at dZ;split at dZ
  ·rename_i gX cg eA
   exact acB (l1:=[o]) (s:={sl,ms,A}) dN r (by simp only [yG,eA]) ae λbR w' BQ=>JS dN r gX cg bR w' dZ BQ
  ·exact dZ a w ae
theorem yS (et:P.follows .mixedOrders=true) (dN:mw P .nil C) {bN:Nat} {c:Code} {s:c6} {st:dk} {Q:Exit->Act->aG->Prop} {a:Act} {w:aG}
  (h:(match ob P C .nil N false bN c s with|some (x,s1)=>some (dk.done x s1)|none=>none)=some st) (dZ:nF P N B w0 Q st) (ae:Here N s B w0 a w):c.wpIn (Fr none) 0 P Q a w:=by
 split at h
 ·rename_i x s1 af
  cases h;refine wpIn_mono (acx et dN bN af ae) λe bR w' hp=> ?_
  obtain⟨rfl,BQ⟩:=hp;exact dZ bR w' BQ
 ·cases h
theorem tz (et:P.follows .mixedOrders=true) (dN:mw P .nil C) {bN:Nat}:∀(c:Code) (s:c6) (st:dk) (Q:Exit->Act->aG->Prop) (a:Act) (w:aG),q7 Q->q6 P C N bN c s=some st->nF P N B w0 Q st->Here N s B w0 a w->c.wpIn (Fr none) 0 P Q a w
 | .loop b,s,st,Q,a,w,cy,h,dZ,ae=>by
   unfold q6 at h;split at h
   ·rename_i x s1 af
    exact yS (bN:=bN) (c:= .loop b) et dN (by rw[af];exact h) dZ ae
   ·cases h
    exact dZ a w ae
 | .region id ops d,s,st,Q,a,w,cy,h,dZ,ae=>by
   unfold q6 at h;cases d with
   |false=>
    rw[fI,dL] at h;subst h;exact wpIn_region_list (JS dN _ _ _ a w dZ ae)
   |true=>
    rw[cN] at h;split at h
    ·rename_i gX cg r af
     cases h;obtain⟨⟨φ,ds,g1,g2,g3,g4,g7⟩,mb,g6⟩:=ae;refine T' et dN g3 (jE φ) g2 (λ_=>rfl) cy af λhO eL w1 q1 aI=> ?_
     obtain⟨gZ,jn⟩:=BP g4 aI g6;exact JS dN _ _ _ eL w1 dZ ⟨⟨hO,ds,g1.mono (aI.ext g3),q1,aI.rel,gZ,g7.step aI⟩,mb.trans jn,Nat.le_trans g6 aI.hH⟩
    ·split at h
     ·rename_i gX cg af
      cases h;obtain⟨⟨φ,ds,g1,g2,g3,g4,g7⟩,mb,g6⟩:=ae;refine Uf et dN g3 (jE φ) g2 (λ_=>rfl) cy af λhO eL w1 q1 aI=> ?_
      obtain⟨gZ,jn⟩:=BP g4 aI g6;exact dZ eL w1 ⟨⟨hO,ds,g1.mono (aI.ext g3),q1,aI.rel,gZ,g7.step aI⟩,mb.trans jn,Nat.le_trans g6 aI.hH⟩
     ·cases h
      exact dZ a w ae
 | .seq x y,s,st,Q,a,w,cy,h,dZ,ae=>by
   unfold q6 at h;refine wpIn_seq ?_;split at h
   ·rename_i fp s1 af
    refine tz et dN x s _ _ a w (cy.then _) af (λeL w1 oF=> ?_) ae;split at h
    ·exact tz et dN y s1 st Q eL w1 cy h dZ oF
    ·rename_i aw
     cases h;exact N3 (P:=P) (y:=y) (λh=>aw h) (dZ eL w1 oF) _
   ·rename_i qw af bu
    cases h;exact tz et dN x s _ _ a w (cy.then _) bu (nF.push (Q:=Q) (k:= .Ae y) af dZ) ae
   ·cases h
 | .cond c x y,s,st,Q,a,w,cy,h,dZ,ae=>by
   unfold q6 at h;split at h
   ·rename_i t bw
    refine wpIn_cond (acz bw ae) ?_;cases t with
    |true=>exact tz et dN x s st Q a w cy h dZ ae
    |false=>exact tz et dN y s st Q a w cy h dZ ae
   ·split at h
    ·rename_i t bw
     refine wpIn_cond (acA dN.facts bw ae) ?_;cases t with
     |true=>exact tz et dN x s st Q a w cy h dZ ae
     |false=>exact tz et dN y s st Q a w cy h dZ ae
    ·cases h
 | .block id x,s,st,Q,a,w,cy,h,dZ,ae=>by
   unfold q6 at h;refine wpIn_block ?_;split at h
   ·rename_i fp s1 af
    refine tz et dN x s _ _ a w (cy.inBlock id) af (λeL w1 oF=> ?_) ae;split at h
    ·rename_i id'
     show if id'=id then Q .normal eL w1 else Q (.exit id') eL w1
     cases ai:Nat.beq id' id with
     |true=>
      rw[ai] at h;cases h;rw[aP (ep ai)];exact dZ eL w1 oF
     |false=>
      rw[ai] at h;cases h;rw[aV (Nat.ne_of_beq_eq_false ai)];exact dZ eL w1 oF
    ·rename_i aw
     cases h;have:=dZ eL w1 oF;cases fp with
     |exit id'=>exact absurd rfl (aw id')
     |_=>exact this
   ·rename_i qw af bu
    cases h;exact tz et dN x s _ _ a w (cy.inBlock id) bu (nF.push (Q:=Q) (k:= .Af id) af dZ) ae
   ·cases h
 | .skip,s,st,Q,a,w,cy,h,dZ,ae=>yS (bN:=bN) et dN h dZ ae
 | .rangeFunc g ps oD b,s,st,Q,a,w,cy,h,dZ,ae=>by
   unfold q6 at h;split at h
   ·rename_i x s1 af
    exact yS (bN:=bN) (c:= .rangeFunc g ps oD b) et dN (by rw[af];exact h) dZ ae
   ·cases h
    exact dZ a w ae
 | .exit _,s,st,Q,a,w,cy,h,dZ,ae=>yS (bN:=bN) et dN h dZ ae
 | .scope _,s,st,Q,a,w,cy,h,dZ,ae=>yS (bN:=bN) et dN h dZ ae
 | .label _,s,st,Q,a,w,cy,h,dZ,ae=>yS (bN:=bN) et dN h dZ ae
 | .goto _,s,st,Q,a,w,cy,h,dZ,ae=>yS (bN:=bN) et dN h dZ ae
 | .ret,s,st,Q,a,w,cy,h,dZ,ae=>yS (bN:=bN) et dN h dZ ae
 | .refuse _,s,st,Q,a,w,cy,h,dZ,ae=>yS (bN:=bN) et dN h dZ ae
theorem F9 (et:P.follows .mixedOrders=true) (dN:mw P .nil C) {bN:Nat} {c:Code}:∀(m:Nat) (s:c6) (st:dk) (Q:Exit->Act->aG->Prop) (a:Act) (w:aG),q7 Q->F8 P C N bN c m s=some st->nF P N B w0 Q st->Here N s B w0 a w->Code.roundsIn (Fr none) 0 P c Q m a w
 |0,s,st,Q,a,w,cy,h,dZ,ae=>by cases h
 |m+1,s,st,Q,a,w,cy,h,dZ,ae=>by
  unfold F8 at h;rw[roundsIn_succ];split at h
  ·rename_i fp s1 af
   refine tz et dN c s _ _ a w (cy.then _) af (λeL w1 oF=> ?_) ae;split at h
   ·exact F9 et dN m s1 st Q eL w1 cy h dZ oF
   ·rename_i aw
    cases h;exact N3 (P:=P) (y:= .skip) (λh=>aw h) (dZ eL w1 oF) _
  ·rename_i qw af bu
   cases h;exact tz et dN c s _ _ a w (cy.then _) bu (nF.push (Q:=Q) (k:= .Ag c m) af dZ) ae
  ·cases h
theorem rR (et:P.follows .mixedOrders=true) (dN:mw P .nil C) {bN:Nat}:∀(ks:List hj) (x:nD) (s:c6) (st:dk) (Q:Exit->Act->aG->Prop) (a:Act) (w:aG),q7 Q->resume P C N bN ks x s=some st->nF P N B w0 Q st->Here N s B w0 a w->fF P ks Q x.exit' a w
 |[],x,s,st,Q,a,w,cy,h,dZ,ae=>by
  cases h;exact dZ a w ae
 | .Ae y::ks,x,s,st,Q,a,w,cy,h,dZ,ae=>by
   unfold resume at h;unfold fF;cases x with
   |normal=>
    simp only at h;show y.wpIn (Fr none) 0 P (fF P ks Q) a w;split at h
    ·rename_i fp s1 af
     exact tz et dN y s _ _ a w (cy.yR ks) af (λeL w1 oF=>rR et dN ks fp s1 st Q eL w1 cy h dZ oF) ae
    ·rename_i qw af bu
     cases h;exact tz et dN y s _ _ a w (cy.yR ks) bu (nF.x2 (Q:=Q) (k:=ks) af dZ) ae
    ·cases h
   |exit id=>exact rR et dN ks (.exit id) s st Q a w cy h dZ ae
   |goto l=>exact rR et dN ks (.goto l) s st Q a w cy h dZ ae
   |ret=>exact rR et dN ks .ret s st Q a w cy h dZ ae
 | .Af id::ks,x,s,st,Q,a,w,cy,h,dZ,ae=>by
   unfold resume at h;unfold fF;cases x with
   |exit id'=>
    simp only at h;show if id'=id then fF P ks Q .normal a w else fF P ks Q (.exit id') a w
    cases ai:Nat.beq id' id with
    |true=>
     rw[ai,cN] at h;rw[aP (ep ai)];exact rR et dN ks .normal s st Q a w cy h dZ ae
    |false=>
     rw[ai,fI] at h;rw[aV (Nat.ne_of_beq_eq_false ai)];exact rR et dN ks (.exit id') s st Q a w cy h dZ ae
   |normal=>exact rR et dN ks .normal s st Q a w cy h dZ ae
   |goto l=>exact rR et dN ks (.goto l) s st Q a w cy h dZ ae
   |ret=>exact rR et dN ks .ret s st Q a w cy h dZ ae
 | .Ag c m::ks,x,s,st,Q,a,w,cy,h,dZ,ae=>by
   unfold resume at h;unfold fF;cases x with
   |normal=>
    simp only at h;show Code.roundsIn (Fr none) 0 P c (fF P ks Q) m a w;split at h
    ·rename_i fp s1 af
     exact F9 et dN m s _ _ a w (cy.yR ks) af (λeL w1 oF=>rR et dN ks fp s1 st Q eL w1 cy h dZ oF) ae
    ·rename_i qw af bu
     cases h;exact F9 et dN m s _ _ a w (cy.yR ks) bu (nF.x2 (Q:=Q) (k:=ks) af dZ) ae
    ·cases h
   |exit id=>exact rR et dN ks (.exit id) s st Q a w cy h dZ ae
   |goto l=>exact rR et dN ks (.goto l) s st Q a w cy h dZ ae
   |ret=>exact rR et dN ks .ret s st Q a w cy h dZ ae
end
end a1
namespace a1
def a7 (W:aG) (i:Nat):Option Obj:=W.heap[i]?
inductive dr {α:Type} (M:Nat->Option Obj) (k:Nat) (enc:α->List ad):ad->List α->Prop
 |nil (a:Option Addr) (c:Nat):dr M k enc (.slice a 0 c) []
 |mk {b off c:Nat} {l:List α} {cs:Array ad} {ty:bq} {fr:Nat×Nat} (ai:M b=some (.cells cs ty fr)) (aA:l.length<=c) (h:∀(i:Nat) (x:α),l[i]? =some x->∀(j:Nat) (u:ad),(enc x)[j]? =some u->cs[off+i*k+j]? =some u):
   dr M k enc (.slice (some ⟨b,off,none⟩) l.length c) l
theorem dr.mono {α:Type} {M aS:Nat->Option Obj} {k:Nat} {enc:α->List ad} {v:ad} {l:List α} (h:dr M k enc v l) (hm:∀i o,M i=some o->aS i=some o):dr aS k enc v l:=by
 cases h with
 |nil=>exact .nil _ _
 |mk af ah aH=>exact .mk (hm _ _ af) ah aH
theorem dr.below {α:Type} {W W':aG} {k:Nat} {enc:α->List ad} {v:ad} {l:List α} (h:dr (a7 W) k enc v l) (ai:cO W.heap.size W W'):dr (a7 W') k enc v l:=
 h.mono λi o ak=>by
   have qs:W.heap[i]? =some o:=ak;show W'.heap[i]? =some o;rw[ai.block i (Array.getElem?_eq_some_iff.1 qs).1];exact qs
theorem dr.slice {α:Type} {M:Nat->Option Obj} {k:Nat} {enc:α->List ad} {v:ad} {l:List α} (h:dr M k enc v l):∃a c,v= .slice a l.length c:=by
 cases h with
 |nil=>exact⟨_,_,rfl⟩
 |mk=>exact⟨_,_,rfl⟩
def cellAt:ad->Nat->Option Addr
 | .slice (some ⟨b,off,_⟩) _ _,o=>some ⟨b,off+o,none⟩
 |_,_=>none
def fM (v:ad) (o:Nat):ad:= .pointer (cellAt v o)
variable [bp]
section
variable {P:bB}
theorem aW.len {t ty e:bq} {x r:ad} {a:Option Addr} {n c:Nat} (aw:bL x=true) (ar:bL r=true) (bw:P.underlying t=some (.slice e)) (ex:bb x= .slice a n c) (dc:bb r= .int .i64 n):aW P (.len #[t] ty x,r):=by
 refine⟨aw,ar,λe0 e1 w _=> ?_⟩;show (hi e0 e1 (.len #[t] ty (bb x))).run P w=_;rw[ex];unfold hi;have:(Builtin.len_ #[t] ty #[.slice a n c]).run P w= .ok (.int .i64 n) w:=by
  simp [Builtin.len_,run_underlying bw];rfl
 simp only [Sem.run_bind,this,Result.andThen_ok,dc];rfl
theorem wP {op:BinOp} {t:bq} {x y r:ad} {a b:ad} (aw:bL x=true) (hy:bL y=true) (ar:bL r=true) (ex:bb x=a) (iV:bb y=b)
  (h:∀e0 e1 w,(hi e0 e1 (.bin op t a b)).run P w= .ok (.value (bb r)) w):aW P (.bin op t x y,r):=by
 refine⟨by simp [qA,aw,hy],ar,?_⟩;show ∀e0 e1 w,(hi e0 e1 (.bin op t (bb x) (bb y))).run P w=_;rw[ex,iV];exact h
def Ah (op:BinOp) (k:IntKind) (a b:Int):ad:=
 match op with
 | .lss=> .bool (decide (a<b))
 | .leq=> .bool (decide (a<=b))
 | .gtr=> .bool (decide (b<a))
 | .geq=> .bool (decide (b<=a))
 | .eql=> .bool (decide (a=b))
 | .neq=> .bool (!decide (a=b))
 | .add=> .int k (k.wrap (a+b))
 | .sub=> .int k (k.wrap (a-b))
 | .mul=> .int k (k.wrap (a*b))
 |_=>undef
def BY:BinOp->Bool
 | .lss| .leq| .gtr| .geq| .eql| .neq| .add| .sub| .mul=>true
 |_=>false
omit [bp] in
theorem acG {op:BinOp} (eb:BY op=true) (t:bq) (k:IntKind) (a b:Int) (e0 e1:Operand) (w:aG):(hi e0 e1 (.bin op t (.int k a) (.int k b))).run P w= .ok (.value (Ah op k a b)) w:=by
 have bs:(a==b)=decide (a=b):=by rw[Bool.eq_iff_iff];simp
 cases op<;>first|(cases eb;done)|skip
 all_goals unfold hi
 all_goals simp [eqGuard,binOp,Op.intCmp,Op.intArith,Ah,bs,bne]
theorem aW.bi {op:BinOp} {t:bq} {x y r:ad} {k:IntKind} {a b:Int} (aw:bL x=true) (hy:bL y=true) (ar:bL r=true) (eb:BY op=true) (ex:bb x= .int k a) (iV:bb y= .int k b)
 (dc:bb r=Ah op k a b):aW P (.bin op t x y,r):=wP aw hy ar ex iV λe0 e1 w=>by rw[dc];exact acG eb t k a b e0 e1 w
theorem aW.jL {eo:Array bq} {ty:bq} {x y r:ad} {k:IntKind} {a b:Int} (aw:bL x=true) (hy:bL y=true) (ar:bL r=true) (ex:bb x= .int k a) (iV:bb y= .int k b) (dc:bb r= .int k (max a b)):aW P (.eZ eo ty x y,r):=by
 refine⟨by simp [qA,aw,hy],ar,λe0 e1 w _=> ?_⟩;show (hi e0 e1 (.eZ eo ty (bb x) (bb y))).run P w=_;rw[ex,iV,dc];unfold hi;simp only [Sem.run_bind,run_max_int2,Result.andThen_ok];rw[show (if b>a then b else a)=max a b by rw[Int.max_def];split<;>split<;>omega];rfl
theorem aW.vx {eo:Array bq} {ty:bq} {x y r:ad} {k:IntKind} {a b:Int} (aw:bL x=true) (hy:bL y=true) (ar:bL r=true) (ex:bb x= .int k a) (iV:bb y= .int k b) (dc:bb r= .int k (min a b)):aW P (.oZ eo ty x y,r):=by
 refine⟨by simp [qA,aw,hy],ar,λe0 e1 w _=> ?_⟩;show (hi e0 e1 (.oZ eo ty (bb x) (bb y))).run P w=_;rw[ex,iV,dc];unfold hi;simp only [Sem.run_bind,run_min_int2,Result.andThen_ok];rw[show (if b<a then b else a)=min a b by rw[Int.min_def];split<;>split<;>omega];rfl
theorem aW.cV {t e:bq} {x i r:ad} {b off n c sz:Nat} {j:Nat} {k:IntKind} (aw:bL x=true) (ak:bL i=true) (ar:bL r=true) (bw:P.underlying t=some (.slice e)) (dV:bZ P (sizeOf e)=some sz)
  (ex:bb x= .slice (some ⟨b,off,none⟩) n c) (o2:bb i= .int k j) (aq:j<n) (dc:bb r= .pointer (some ⟨b,off+j*sz,none⟩)):aW P (.cV t x i,r):=by
 refine⟨by simp [qA,aw,ak],ar,λe0 e1 w=> ?_⟩;show (hi e0 e1 (.cV t (bb x) (bb i))).run P w=_;rw[ex,o2];unfold hi;have:(Instr.indexAt t (.slice (some ⟨b,off,none⟩) n c) (.int k j)).run P w= .ok (.pointer (some ⟨b,off+j*sz,none⟩)) w:=by
  simp [Instr.indexAt,run_underlying bw,asIntOf,aq,kM dV w,Addr.ly]
 simp only [Sem.run_bind,this,Result.andThen_ok,dc];rfl
theorem aW.bQ {s:bq} {x r:ad} {f b o:Nat} {fields:Array Field} {kV:Field} {n:Nat} (aw:bL x=true) (ar:bL r=true) (ay:bZ P (underlying s)=some (.struct fields)) (bn:fields[f]? =some kV) (aT:bZ P (sizeOf kV.type)=some n) (bd:n≠0)
  (ex:bb x= .pointer (some ⟨b,o,none⟩)) (dc:bb r= .pointer (some ⟨b,o+kV.offset,none⟩)):aW P (.bQ s x f,r):=by
 refine⟨aw,ar,λe0 e1 w=> ?_⟩;show (hi e0 e1 (.bQ s (bb x) f)).run P w=_;rw[ex];unfold hi;have:(Instr.fieldAt s (.pointer (some ⟨b,o,none⟩)) f).run P w= .ok (.pointer (some ⟨b,o+kV.offset,none⟩)) w:=by
  unfold Instr.fieldAt;refine ei ay ?_;simp only [bn];refine ei (a:=(⟨b,o,none⟩:Addr)) rfl ?_;unfold fieldPlace;simp only [Sem.run_bind,kM aT w,Result.andThen_ok,aV bd,Addr.ly];rfl
 simp only [Sem.run_bind,this,Result.andThen_ok,dc];rfl
theorem aW.bh {t:bq} {x r:ad} {b o n:Nat} {l:List ad} (aw:bL x=true) (ar:bL r=true) (cG:bZ P (isAgg t)=some true) (aT:bZ P (sizeOf t)=some n) (ex:bb x= .pointer (some ⟨b,o,none⟩))
  (az:l.length=n) (aA:∀w,n9 w->∀j u,l[j]? =some u->w.cell? ⟨b,o+j,none⟩=some u) (dc:bb r= .agg ⟨l⟩):aW P (.bh t x,r):=by
 refine⟨aw,ar,λe0 e1 w hw=> ?_⟩;show (hi e0 e1 (.bh t (bb x))).run P w=_;rw[ex];unfold hi;have Ft:∀j,j<n->w.cell? ((⟨b,o,none⟩:Addr).add j)=some (l.getD j undef):=λj aq=>by
  rw[Addr.ly];refine aA w hw j _ ?_;rw[ig aj,eP,ig aj];rfl
 have:(Instr.loadAt t (.pointer (some ⟨b,o,none⟩))).run P w= .ok (.agg ⟨l⟩) w:=by
  unfold Instr.loadAt;refine ei (a:=(⟨b,o,none⟩:Addr)) rfl ?_;unfold loadVar;refine ei cG ?_;simp only [if_true];refine ei aT ?_;refine ev (run_loadCells _ _ n (λj=>l.getD j undef) Ft) ?_;have:(List.range n).map (λj=>l.getD j undef)=l:=by
   apply List.ext_getElem
   ·simp [az]
   ·intro i af ah
    simp only [List.getElem_map,List.getElem_range,eP];rw[ig ah];rfl
  show Result.ok (Value.agg (List.map (λj=>l.getD j undef) (List.range n)).toArray) w=_;rw[this]
 simp only [Sem.run_bind,this,Result.andThen_ok,dc];rfl
theorem aW.UK {t:bq} {x r:ad} {b o:Nat} {u:ad} (aw:bL x=true) (ar:bL r=true) (cG:bZ P (isAgg t)=some false) (ex:bb x= .pointer (some ⟨b,o,none⟩))
  (aA:∀w,n9 w->w.cell? ⟨b,o,none⟩=some u) (dc:bb r=u):aW P (.bh t x,r):=by
 refine⟨aw,ar,λe0 e1 w hw=> ?_⟩;show (hi e0 e1 (.bh t (bb x))).run P w=_;rw[ex];unfold hi;have:(Instr.loadAt t (.pointer (some ⟨b,o,none⟩))).run P w= .ok u w:=by
  unfold Instr.loadAt;refine ei (a:=(⟨b,o,none⟩:Addr)) rfl ?_;unfold loadVar;refine ei cG ?_;simp [Go.load,Sem.run,aA w hw]
 simp only [Sem.run_bind,this,Result.andThen_ok,dc];rfl
omit [bp] in
theorem dr.at' {α:Type} {M:Nat->Option Obj} {k:Nat} {enc:α->List ad} {v:ad} {l:List α} (h:dr M k enc v l) {i:Nat} {x:α} (ak:l[i]? =some x):∃b off c cs ty fr,v= .slice (some ⟨b,off,none⟩) l.length c/\M b=some (.cells cs ty fr)/\
  ∀(j:Nat) (u:ad),(enc x)[j]? =some u->cs[off+i*k+j]? =some u:=by
 cases h with
 |nil=>simp at ak
 |mk af ah aH=>exact⟨_,_,_,_,_,_,rfl,af,aH i x ak⟩
theorem aW.acH {α:Type} {k:Nat} {enc:α->List ad} {v:ad} {l:List α} (h:dr bp.dz k enc v l) {t ty e:bq} {x r:ad} (aw:bL x=true) (ar:bL r=true) (bw:P.underlying t=some (.slice e)) (ex:bb x=v) (dc:bb r= .int .i64 l.length):
  aW P (.len #[t] ty x,r):=by
 obtain⟨a,c,aR⟩:=h.slice;exact aW.len aw ar bw (ex.trans aR) dc
theorem aW.JT {α:Type} {k:Nat} {enc:α->List ad} {v:ad} {l:List α} (h:dr bp.dz k enc v l) {t e:bq} {x i r:ad} {j:Nat} {BZ:IntKind} (aq:j<l.length) (aw:bL x=true) (ak:bL i=true) (ar:bL r=true) (bw:P.underlying t=some (.slice e))
  (dV:bZ P (sizeOf e)=some k) (ex:bb x=v) (o2:bb i= .int BZ j) (dc:bb r=fM v (j*k)):aW P (.cV t x i,r):=by
 obtain⟨b,off,c,_,_,_,aR,_⟩:=h.at' (ig aq);refine aW.cV aw ak ar bw dV (ex.trans aR) o2 aq ?_;rw[dc,aR];rfl
theorem aW.acI {s:bq} {x r v:ad} {f o o':Nat} {fields:Array Field} {kV:Field} {n:Nat} (aw:bL x=true) (ar:bL r=true) (ay:bZ P (underlying s)=some (.struct fields)) (bn:fields[f]? =some kV) (aT:bZ P (sizeOf kV.type)=some n) (bd:n≠0)
  (aR:∃b off n c,v= .slice (some ⟨b,off,none⟩) n c) (bW:o'=o+kV.offset) (ex:bb x=fM v o) (dc:bb r=fM v o'):aW P (.bQ s x f,r):=by
 obtain⟨b,off,m,c,rfl⟩:=aR;refine aW.bQ aw ar ay bn aT bd ex ?_;rw[dc,bW];show Value.pointer (some ⟨b,off+(o+kV.offset),none⟩)=_;rw[Nat.add_assoc]
theorem aW.p_ {α:Type} {k:Nat} {enc:α->List ad} {v:ad} {l:List α} (h:dr bp.dz k enc v l) {t:bq} {p r:ad} {i:Nat} {x:α} (ak:l[i]? =some x) (hp:bL p=true) (ar:bL r=true)
  (cG:bZ P (isAgg t)=some true) (aT:bZ P (sizeOf t)=some k) (ao:(enc x).length=k) (ex:bb p=fM v (i*k)) (dc:bb r= .agg ⟨enc x⟩):aW P (.bh t p,r):=by
 obtain⟨b,off,c,cs,ty,fr,aR,ai,aA⟩:=h.at' ak;rw[aR] at ex;refine aW.bh hp ar cG aT ex ao (λw hw j u aq=> ?_) dc;rw[cell_of_row w b _ cs ty fr (hw b _ ai)];exact aA j u aq
theorem aW.acJ {α:Type} {k:Nat} {enc:α->List ad} {v:ad} {l:List α} (h:dr bp.dz k enc v l) {t:bq} {p r:ad} {i o j:Nat} {x:α} {u:ad} (ak:l[i]? =some x) (hp:bL p=true) (ar:bL r=true)
  (cG:bZ P (isAgg t)=some false) (bW:o=i*k+j) (hu:(enc x)[j]? =some u) (ex:bb p=fM v o) (dc:bb r=u):aW P (.bh t p,r):=by
 obtain⟨b,off,c,cs,ty,fr,aR,ai,aA⟩:=h.at' ak;rw[aR] at ex;refine aW.UK hp ar cG ex (λw hw=> ?_) dc;rw[cell_of_row w b _ cs ty fr (hw b _ ai),bW,<-Nat.add_assoc];exact aA j u hu
end
end a1
namespace a1
def B0:ad->ad
 | .agg _=> .bool false
 | .tuple _=> .bool false
 |v=>v
theorem acK (v:ad):∀cs,B0 v≠.agg cs/\B0 v≠.tuple cs:=by
 intro cs;cases v<;>simp [B0]
def o3 (bM:List ad) (k:Nat):ad:=bif Nat.blt k v8 then B0 (bM.getD k (.bool false)) else .pointer (some ⟨k-v8,0,none⟩)
theorem acL (bM:List ad) (k:Nat):∀cs,o3 bM k≠.agg cs/\o3 bM k≠.tuple cs:=by
 unfold o3;cases Nat.blt k v8 with
 |true=>exact acK _
 |false=>exact λcs=>⟨λh=>(by cases h),λh=>(by cases h)⟩
theorem acM (bM:List ad) (g:Nat):o3 bM (v8+g)= .pointer (some ⟨g,0,none⟩):=by
 unfold o3;rw[show Nat.blt (v8+g) v8=false from Bool.eq_false_iff.2 λh=>by rw[Nat.blt_eq] at h;omega,fI,Nat.add_sub_cancel_left]
@[reducible] def bc (M:Nat->Option Obj) (bM:List ad):bp:=⟨o3 bM,acL bM,M,acM bM⟩
theorem N4 (W:aG) (bM:List ad): @n9 (bc (a7 W) bM) W:=λi o h=>h
class o4 (Q:Exit->Act->aG->Prop):Prop where
 calm:q7 Q
instance [dJ] {P:bB} {fn:Func} {N B:Nat} {w0:aG} {R:Ending->aG->Prop}:o4 (tw P fn N B w0 R):=⟨λ_ _ _ h=>h⟩
instance {Q:Exit->Act->aG->Prop} [o4 Q] {R:Act->aG->Prop}:o4 (Exit.then R Q):=⟨(o4.calm (Q:=Q)).then R⟩
instance {P:bB} {Q:Exit->Act->aG->Prop} [o4 Q] {ks:List hj}:o4 (fF P ks Q):=⟨(o4.calm (Q:=Q)).yR ks⟩
def DT:nD->Bool
 | .normal| .ret=>true
 |_=>false
def fu (P:bB) (fn:Func):Option dk->Option ad
 |some (.done x s)=>bif DT x then match yL s.A s.ms with
  |some gP=>match xZ P gP s.sl fn.results.toList with
   |some a8=>bif bL (yO a8) then some (yO a8) else none
   |none=>none
  |none=>none
  else none
 |_=>none
def eV (head:ax) (c7:List bG):Option dk->Option gh
 |some (.done .normal s)=>bF s head c7
 |_=>none
def mi (head:ax) (c7:List bG):Option dk->Option gh
 |some (.loop _ s _)=>bF s head c7
 |_=>none
def lP:Option dk->Code
 |some (.loop b _ _)=>b
 |_=> .skip
def gi:Option dk->List hj
 |some (.loop _ _ ks)=>ks
 |some (.oper _ _ _ _ ks)=>ks
 |some (.range _ _ _ _ _ ks)=>ks
 |some (.draw _ _ _ ks)=>ks
 |_=>[]
def b0:Option dk->c6
 |some (.done _ s)=>s
 |some (.loop _ s _)=>s
 |some (.oper _ _ _ s _)=>s
 |some (.range _ _ _ _ s _)=>s
 |some (.draw _ _ s _)=>s
 |none=>{sl:= .nil,ms:=[],A:=start}
def oc:Option dk->List Oper
 |some (.oper _ r _ _ _)=>r
 |_=>[]
def nG:Option dk->Array Oper
 |some (.oper _ _ ops _ _)=>ops
 |_=> #[]
def qa:Option dk->Option Tmp
 |some (.oper o _ _ _ _)=>o.dst
 |_=>none
def JU (P:bB) [Lib P] [ft P] (C:jd) (N bN:Nat) (ks:List hj):Option dk->Option dk
 |some (.done .normal _)=>none
 |some (.done x s)=>resume P C N bN ks x s
 |_=>none
def aN (head:ax) (c7:List bG):c6:={sl:=head,ms:=[],A:=cS c7}
def bm:List (Nat×ad)->ax
 |[]=> .nil
 |(t,v)::r=>match cK.set v depth (bm r) t with
  |some s=>s
  |none=> .nil
def JV (P:bB) (fn:Func):Option dk->Option (ad×bx)
 |some (.done x s)=>bif DT x then match yL s.A s.ms with
  |some gP=>match xZ P gP s.sl fn.results.toList with
   |some a8=>some (yO a8,gP)
   |none=>none
  |none=>none
  else none
 |_=>none
theorem acN [bp] [dJ] {P:bB} {fn:Func} {N B:Nat} {w0:aG} {R:Ending->aG->Prop} {st:dk} {v:ad} {gP:bx} (h:JV P fn (some st)=some (v,gP)) (me:∀v' w2,Here 1 (JL v gP) B w0 (NS v') w2->R (.returned v') w2):nF P N B w0 (tw P fn N B w0 R) st:=by
 unfold JV at h;split at h
 ·rename_i x s eA
  cases eA;cases aw:DT x with
  |false=>rw[aw] at h;cases h
  |true=>
   rw[aw,cN] at h;split at h
   ·rename_i FQ az
    split at h
    ·rename_i a8 mx
     cases h;intro a w ae;have main:FZ P fn N B w0 R a w:=⟨inferInstance,s,gP,yO a8,ae,az,λ_ _ _ ar ay=>Up ar ay mx,me⟩;cases x with
     |normal=>exact main
     |ret=>exact main
     |exit id=>cases aw
     |goto l=>cases aw
    ·cases h
   ·cases h
 ·cases h
theorem acO {P:bB} {fn:Func} {o:Option dk} {v:ad} (h:fu P fn o=some v):∃gP,JV P fn o=some (v,gP)/\bL v=true:=by
 unfold fu at h;unfold JV;split at h
 ·rename_i x s
  cases aw:DT x with
  |false=>rw[aw] at h;cases h
  |true=>
   rw[aw,cN] at h;simp only [aw,cN];split at h
   ·rename_i gP az
    split at h
    ·rename_i a8 mx
     cases hp:bL (yO a8) with
     |false=>rw[hp] at h;cases h
     |true=>
      rw[hp,cN,dL] at h;subst h;exact⟨gP,by simp only [az,mx],hp⟩
    ·cases h
   ·cases h
 ·cases h
theorem acP [bp] [dJ] {P:bB} {fn:Func} {N B:Nat} {w0:aG} {R:Ending->aG->Prop} {st:dk} {v:ad} (h:fu P fn (some st)=some v) (me:∀w2,cO B w0 w2->n9 w2->R (.returned (bb v)) w2):nF P N B w0 (tw P fn N B w0 R) st:=by
 obtain⟨gP,af,hp⟩:=acO h;refine acN af λv' w2 ae=> ?_
 have ak:=ae.qC;obtain⟨⟨φ,ds,q1,aI,bS,fo,_⟩,iK,mK⟩:=ae;have:=aI.get 0 v rfl;rw[show v'=bb v from aM.kr v hp this];exact me w2 iK ak
theorem acQ [bp] [dJ] {P:bB} [Lib P] [ft P] {C:jd} {N B bN:Nat} {w0:aG} {ks:List hj} {st s2:dk} {Q:Exit->Act->aG->Prop} [o4 Q] {R:Act->aG->Prop} (et:P.follows .mixedOrders=true) (dN:mw P .nil C) (h:JU P C N bN ks (some st)=some s2) (ah:nF P N B w0 Q s2):nF P N B w0 (Exit.then R (fF P ks Q)) st:=by
 unfold JU at h;split at h
 ·cases h
 ·rename_i x s aw eA
  cases eA;intro a w ae;exact N3 (Q:=fF P ks Q) (P:=P) (y:= .skip) (λaT=>aw aT) (rR et dN ks x s s2 Q a w o4.calm h ah ae) R
 ·cases h
theorem acR [dJ] {P:bB} {N B:Nat} {w0:aG} {s1:bp} {X:Type} {fW:X->bp} (ku:X->Prop) (nE:X->Nat) {head:ax} {c7:List bG} {st:dk} {dQ:gh} {Q:Exit->Act->aG->Prop} (x:X) (ai:mi head c7 (some st)=some dQ) (hm:hD s1 (fW x) dQ)
  (pF:∀i o,(fW x).dz i=some o->s1.dz i=some o) (aw:ku x)
  (round:∀x,ku x->∀a w,@Here (fW x) _ N (aN head c7) B w0 a w->(lP (some st)).wpIn (Fr none) 0 P (Exit.then (λbR w'=>∃x',ku x'/\nE x'<nE x/\ @Here (fW x') _ N (aN head c7) B w0 bR w') (fF P (gi (some st)) Q)) a w) (aT:dJ.jD<=c7.length) (aA:jr (b0 (some st)).A c7 0): @nF s1 _ P N B w0 Q st:=by
 unfold mi at ai;split at ai
 ·rename_i b s ks eA
  cases eA;intro a w ae;exact acC fW (aN head c7) ku nE round x aw (Here.move ai hm pF aT aA ae)
 ·cases ai
def ia [bp] [dJ] (P:bB) (N B:Nat) (w0:aG) (Q:Exit->Act->aG->Prop) (o:Option dk):Prop:=∃st,o=some st/\nF P N B w0 Q st
theorem acS [bp] [dJ] {P:bB} {fn:Func} {N B:Nat} {w0:aG} {R:Ending->aG->Prop} {o:Option dk} {v:ad} (h:fu P fn o=some v) (me:∀w2,cO B w0 w2->n9 w2->R (.returned (bb v)) w2):ia P N B w0 (tw P fn N B w0 R) o:=by
 cases o with
 |none=>cases h
 |some st=>exact⟨st,rfl,acP h me⟩
theorem acT [bp] [dJ] {P:bB} [Lib P] [ft P] {C:jd} {N B bN:Nat} {w0:aG} {ks:List hj} {o:Option dk} {Q:Exit->Act->aG->Prop} [o4 Q] {R:Act->aG->Prop} (et:P.follows .mixedOrders=true) (dN:mw P .nil C) (ah:ia P N B w0 Q (JU P C N bN ks o)):ia P N B w0 (Exit.then R (fF P ks Q)) o:=by
 obtain⟨s2,h,ah⟩:=ah;cases o with
 |none=>cases h
 |some st=>exact⟨st,rfl,acQ et dN h ah⟩
theorem acU [dJ] {P:bB} {N B:Nat} {w0:aG} {s1:bp} {X:Type} {fW:X->bp} (ku:X->Prop) (nE:X->Nat) {head:ax} {c7:List bG} {o:Option dk} {dQ:gh} {Q:Exit->Act->aG->Prop} (x:X) (ai:mi head c7 o=some dQ) (hm:hD s1 (fW x) dQ)
  (pF:∀i o,(fW x).dz i=some o->s1.dz i=some o) (aw:ku x)
  (round:∀x,ku x->∀a w,@Here (fW x) _ N (aN head c7) B w0 a w->(lP o).wpIn (Fr none) 0 P (Exit.then (λbR w'=>∃x',ku x'/\nE x'<nE x/\ @Here (fW x') _ N (aN head c7) B w0 bR w') (fF P (gi o) Q)) a w) (aT:dJ.jD<=c7.length:=by first|exact Nat.zero_le _|exact h3 rfl) (aA:jr (b0 o).A c7 0:=by exact jF rfl): @ia s1 _ P N B w0 Q o:=by
 cases o with
 |none=>cases ai
 |some st=>exact⟨st,rfl,acR ku nE x ai hm pF aw round aT aA⟩
def UL (P:bB) [Lib P] (F:List (jJ×ad)) (T:List (FuncId×List ad×ad)) (N bN d:Nat) (c:Code) (s:c6):Option dk:=
 @q6 P _ ⟨F⟩ (@x0 P _ ⟨F⟩ ⟨T⟩ .nil bN d) N bN c s
def UM (P:bB) [Lib P] (F:List (jJ×ad)) (T:List (FuncId×List ad×ad)) (N bN d:Nat) (ks:List hj) (o:Option dk):Option dk:=
 @JU P _ ⟨F⟩ (@x0 P _ ⟨F⟩ ⟨T⟩ .nil bN d) N bN ks o
def uw [bp] (P:bB) (F:List (jJ×ad)):Prop:=∀p∈F,aW P p
def sv [bp] (P:bB) (T:List (FuncId×List ad×ad)):Prop:=∀p∈T,BN P p
theorem aB [bp] {P:bB}:uw P []:=λ_ h=>by cases h
theorem U [bp] {P:bB} {p:jJ×ad} {l:List (jJ×ad)} (h:aW P p) (az:uw P l):uw P (p::l):=λq cy=>by
 rcases List.mem_cons.1 cy with rfl|cy
 ·exact h
 ·exact az q cy
theorem aC [bp] {P:bB}:sv P []:=λ_ h=>by cases h
theorem N5 [bp] {P:bB} {p:FuncId×List ad×ad} {l:List (FuncId×List ad×ad)} (h:BN P p) (az:sv P l):sv P (p::l):=λq cy=>by
 rcases List.mem_cons.1 cy with rfl|cy
 ·exact h
 ·exact az q cy
theorem cv [bp] {P:bB} {p:FuncId×List ad×ad} {l:List (FuncId×List ad×ad)} (h:j0 P p) (az:sv P l):sv P (p::l):=N5 h.acu az
theorem acV [bp] [dJ] {P:bB} [Lib P] {F:List (jJ×ad)} {T:List (FuncId×List ad×ad)} {N B bN d:Nat} {w0 w:aG} {a:Act} {c:Code} {s:c6} {Q:Exit->Act->aG->Prop} [o4 Q] (et:P.follows .mixedOrders=true) (gg:uw P F) (kW:sv P T)
  (h:ia P N B w0 Q (UL P F T N bN d c s)) (ae:Here N s B w0 a w):c.wpIn (Fr none) 0 P Q a w:=by
 obtain⟨st,af,ah⟩:=h;letI:ft P:=⟨F⟩;letI:vu P:=⟨T⟩;exact tz et (BO et gg kW d) c s st Q a w o4.calm af ah ae
theorem acW [bp] [dJ] {P:bB} [Lib P] {F:List (jJ×ad)} {T:List (FuncId×List ad×ad)} {N B bN d:Nat} {w0:aG} {ks:List hj} {o:Option dk} {Q:Exit->Act->aG->Prop} [o4 Q] {R:Act->aG->Prop} (et:P.follows .mixedOrders=true) (gg:uw P F) (kW:sv P T)
  (ah:ia P N B w0 Q (UM P F T N bN d ks o)):ia P N B w0 (Exit.then R (fF P ks Q)) o:=by
 letI:ft P:=⟨F⟩;letI:vu P:=⟨T⟩;exact acT et (BO et gg kW d) ah
def F' (P:bB) [Lib P] (F:List (jJ×ad)) (T:List (FuncId×List ad×ad)) (N bN d:Nat) (r:List Oper) (ops:Array Oper) (ks:List hj) (s:c6):Option dk:=
 match @DS P _ ⟨F⟩ (@x0 P _ ⟨F⟩ ⟨T⟩ .nil bN d) N ops s.ms r s.sl s.A with
 | .done .normal s1=> @resume P _ ⟨F⟩ (@x0 P _ ⟨F⟩ ⟨T⟩ .nil bN d) N bN ks .normal s1
 | .done _ _=>none
 |st=>some (st.x2 ks)
theorem DU [bp] [dJ] {P:bB} [Lib P] {F:List (jJ×ad)} {T:List (FuncId×List ad×ad)} {N B bN d:Nat} {w0 w:aG} {a:Act} {r:List Oper} {ops:Array Oper} {ks:List hj} {s:c6} {Q:Exit->Act->aG->Prop} [o4 Q] (et:P.follows .mixedOrders=true) (gg:uw P F) (kW:sv P T)
  (h:ia P N B w0 Q (F' P F T N bN d r ops ks s)) (ae:Here N s B w0 a w):wpListIn (Fr none) 0 P ops (fF P ks Q) r a w:=by
 obtain⟨st,af,ah⟩:=h;letI:ft P:=⟨F⟩;letI:vu P:=⟨T⟩;have aA:=BO (gl:= .nil) (bN:=bN) et gg kW d;unfold F' at af;refine JS (ms:=s.ms) aA r s.sl s.A a w ?_ ae;split at af
 ·rename_i s1 he
  rw[he];intro bR w' BQ;exact rR et aA ks .normal s1 st Q bR w' o4.calm af ah BQ
 ·cases af
 ·rename_i qw bu he
  cases af;exact nF.x2 (λx s aw=>by
   cases x with
   |normal=>exact bu _ aw
   |_=>exact he _ _ aw) ah
theorem acX [bp] {P:bB} {f:FuncId} {fn:Func} {c:Code} {args:List ad} {sl:ax} {N:Nat} {W:aG} {R:Ending->aG->Prop} (p9:P.funcs[f]? =some fn) (aA:fn.body=some c) (hg:setArgs 0 args .nil=some sl) (hp:fH args=true)
  (kN:args.length+(fn.ntmps-args.length)=N) (nj:n9 W) (su:∀a,@Here _ rO N {sl,ms:=[],A:=start} W.heap.size W a W->c.wpIn (Fr none) 0 P (@tw rO P fn N W.heap.size W R) a W):Calls P f ⟨fl args⟩ W R:=by
 subst kN;letI:=rO;exact NT p9 aA hg (UB nj) (λb e h=>by cases h) (wN.none _ _) ⟨by simp [yE],λj aq=>by simpa using aM.Bt (λ_=>none) args hp j aq⟩ (cO.refl _ _) (c4 _) su
theorem yT {s1 s2:bp}:hD s1 s2 []:=λ_ h=>by cases h
theorem lo {s1 s2:bp} {p:ad×ad} {l:gh} (h: @bb s1 p.1= @bb s2 p.2) (az:hD s1 s2 l):hD s1 s2 (p::l):=λq cy=>by
 rcases List.mem_cons.1 cy with rfl|cy
 ·exact h
 ·exact az q cy
theorem acY {k:IntKind} {a b:Int} (h:a=b):Value.int k a= .int k b:=by rw[h]
theorem UN {M aS:Nat->Option Obj} {bM vals':List ad} {a b:Nat} (v:ad) (af:o3 bM a=v) (ah:o3 vals' b=v): @bb (bc M bM) (al a)= @bb (bc aS vals') (al b):=by
 exact((@Ji (bc M bM) a).trans af).trans ((@Ji (bc aS vals') b).trans ah).symm
theorem acZ {M aS:Nat->Option Obj} {bM vals':List ad} {a b:Nat} {k:IntKind} {x y:Int} (af:o3 bM a= .int k x) (ah:o3 vals' b= .int k y) (h:x=y): @bb (bc M bM) (al a)= @bb (bc aS vals') (al b):=by
 subst h;exact UN (.int k x) af ah
theorem wrap64 {n:Int} (af: -9223372036854775808<=n) (ah:n<=9223372036854775807):IntKind.i64.wrap n=n:=IntWalk.i64_in n ⟨af,ah⟩
attribute [instance] rO
end a1
namespace a1
theorem UO:∀{l:List ad},fH l=true->∀{v:ad},v∈l->bL v=true
 |[],_,v,aR=>by cases aR
 |x::r,h,v,aR=>by
  unfold fH at h;simp only [fy] at h;rcases List.mem_cons.1 aR with rfl|aR
  ·exact h.1
  ·exact UO h.2 aR
end a1
namespace a1
def UP [dJ] {Y:Type} (DV:Y->bp) (R:Y->Prop) (hk:ad) (DW:List bG) (B:Nat) (w0:aG) (e:Ending) (w':aG):Prop:=
 ∃v' y,e= .returned v'/\R y/\ @Here (DV y) _ 1 (JL hk (cS DW)) B w0 (NS v') w'
def UQ [bp] (P:bB) (f:FuncId) (args:List ad) (A:bx) (B:Nat) (w0:aG) {Y:Type} (DV:Y->bp) (R:Y->Prop) (hk:ad) (DW:List bG):Prop:=
 ∀φ w hK,cB φ A w->(∀b e,φ b=some e->B<=e.bJ)->iY args φ hK->cO B w0 w->B<=w.heap.size->Calls P f hK w (@UP ⟨φ,A.n⟩ Y DV R hk DW B w0)
theorem UQ.of [bp] {P:bB} {f:FuncId} {fn:Func} {c:Code} {args:List ad} {sl:ax} {A:bx} {N B:Nat} {w0:aG} {Y:Type} {DV:Y->bp} {R:Y->Prop} {hk:ad} {DW:List bG} (p9:P.funcs[f]? =some fn) (aA:fn.body=some c) (hg:setArgs 0 args .nil=some sl)
  (kN:args.length+(fn.ntmps-args.length)=N) (su:∀φ a w,@Here _ ⟨φ,A.n⟩ N {sl,ms:=[],A} B w0 a w->c.wpIn (Fr none) 0 P (@tw ⟨φ,A.n⟩ P fn N B w0 (@UP ⟨φ,A.n⟩ Y DV R hk DW B w0)) a w):UQ P f args A B w0 DV R hk DW:=by
 subst kN;intro φ w hK ar cM hW ai dV;letI:dJ:=⟨φ,A.n⟩;exact NT p9 aA hg ar cM ⟨c4 _,λ_ _=>rfl⟩ hW ai dV λa ae=>su φ a w ae
def yU (P:bB) [Lib P]:Option dk->Option (FuncId×List ad×bx)
 |some (.oper o _ ops s _)=>match uh ops o s.sl with
  |some true=>match FC P (eQ .nil s.sl) s.A o with
   |some (.enter f args,cg)=>some (f,args,cg)
   |_=>none
  |_=>none
 |_=>none
theorem ac0 {α:Type} {o:Option α} {d:α} (h:o.isSome=true):o=some (o.getD d):=by
 cases o with
 |none=>cases h
 |some a=>rfl
def N6 (P:bB) [Lib P] (F:List (jJ×ad)) (T:List (FuncId×List ad×ad)) (N bN d m:Nat):Option dk->Option dk
 |some (.loop b s ks)=>match @F8 P _ ⟨F⟩ (@x0 P _ ⟨F⟩ ⟨T⟩ .nil bN d) N bN b m s with
  |some (.done x s1)=> @resume P _ ⟨F⟩ (@x0 P _ ⟨F⟩ ⟨T⟩ .nil bN d) N bN ks x s1
  |some st=>some (st.x2 ks)
  |none=>none
 |_=>none
theorem ux [bp] [dJ] {P:bB} [Lib P] {F:List (jJ×ad)} {T:List (FuncId×List ad×ad)} {N B bN d m:Nat} {w0:aG} {o:Option dk} {Q:Exit->Act->aG->Prop} [o4 Q] (et:P.follows .mixedOrders=true) (gg:uw P F) (kW:sv P T)
  (h:ia P N B w0 Q (N6 P F T N bN d m o)):ia P N B w0 Q o:=by
 obtain⟨st,af,ah⟩:=h;letI:ft P:=⟨F⟩;letI:vu P:=⟨T⟩;have aA:=BO (gl:= .nil) (bN:=bN) et gg kW d;unfold N6 at af;split at af
 ·rename_i b s ks
  refine⟨_,rfl,λa w ae=>wpIn_loop_rounds m ?_⟩;have cy:q7 (fF P ks Q):=(o4.calm (Q:=Q)).yR ks;split at af
  ·rename_i fp s1 he
   exact F9 et aA m s _ _ a w cy he (λeL w1 oF=>rR et aA ks fp s1 st Q eL w1 o4.calm af ah oF) ae
  ·rename_i qw bu he
   cases af;exact F9 et aA m s _ _ a w cy he (nF.x2 (Q:=Q) (k:=ks) (λx s aw=>bu x s aw) ah) ae
  ·cases af
 ·cases af
end a1
namespace a1
abbrev Mem:=Nat->Option Obj
def fX:ad->Option Nat
 | .slice (some a) _ c=>if c=0 then none else some a.block
 |_=>none
theorem F_ (a:Option Addr) (n:Nat):fX (.slice a n 0)=none:=by cases a<;>rfl
theorem qD (a:Addr) (n:Nat) {c:Nat} (h:0<c):fX (.slice (some a) n c)=some a.block:=by
 show (if c=0 then none else some a.block)=_;rw[aV aj]
theorem B1 {v:ad} {i:Nat} (h:some i=fX v):some i=v.ownBlock:=by
 cases v<;>first|(cases h;done)|skip
 rename_i a n c;cases a with
 |none=>cases h
 |some a=>
  rcases Nat.eq_zero_or_pos c with aA|aA
  ·subst aA;cases h
  ·rw[qD a n aA] at h;exact h
def eI {α:Type} (B:Nat) (M:Mem) (e:bq) (k:Nat) (enc:α->List ad) (v:ad) (l:List α):Prop:=
 (∃a,v= .slice a 0 0/\l=[])\/
 ∃g cap cur,v= .slice (some ⟨g,0,none⟩) l.length cap/\0<cap/\B<=g/\M g=some (.cells cur e (0,0))/\l.length<=cap/\cap<=maxLen/\cur.size=cap*k/\cur.toList.take (l.length*k)=l.flatMap enc
theorem uy {α:Type} {k:Nat} {enc:α->List ad} (ao:∀x,(enc x).length=k):∀l:List α,(l.flatMap enc).length=l.length*k
 |[]=>by simp
 |x::r=>by rw[List.flatMap_cons,List.length_append,ao,uy ao r,List.length_cons,Nat.add_mul,Nat.one_mul,Nat.add_comm]
theorem Ai {α:Type} {k:Nat} {enc:α->List ad} (ao:∀x,(enc x).length=k):∀(l:List α) (i:Nat) (x:α),l[i]? =some x->∀(j:Nat) (u:ad),(enc x)[j]? =some u->(l.flatMap enc)[i*k+j]? =some u
 |[],i,x,h,_,_,_=>by simp at h
 |y::r,0,x,h,j,u,hu=>by
  simp only [List.getElem?_cons_zero,dL] at h;subst h;have aq:j<(enc y).length:=(List.getElem?_eq_some_iff.1 hu).1;rw[List.flatMap_cons,List.getElem?_append_left aj,Nat.zero_mul,Nat.zero_add];exact hu
 |y::r,i+1,x,h,j,u,hu=>by
  rw[List.flatMap_cons,List.getElem?_append_right (by rw[ao,Nat.add_mul];omega),ao,show (i+1)*k+j-k=i*k+j by rw[Nat.add_mul];omega];exact Ai ao r i x (by simpa using h) j u hu
section
variable {α:Type} {B:Nat} {M:Mem} {e:bq} {k:Nat} {enc:α->List ad} {v:ad} {l:List α}
theorem eI.nil (B:Nat) (M:Mem) (e:bq) (k:Nat) (enc:α->List ad) (a:Option Addr):eI B M e k enc (.slice a 0 0) []:= .inl ⟨a,rfl,rfl⟩
theorem eI.slice (h:eI B M e k enc v l):∃a c,v= .slice a l.length c:=by
 rcases h with ⟨a,rfl,rfl⟩|⟨g,cap,cur,rfl,_⟩
 ·exact⟨a,0,rfl⟩
 ·exact⟨_,_,rfl⟩
theorem eI.known (h:eI B M e k enc v l):∀i,some i=fX v->M i≠none/\B<=i:=by
 intro i ak;rcases h with ⟨a,rfl,rfl⟩|⟨g,cap,cur,rfl,bd,af,ah,_⟩
 ·rw[F_] at ak;cases ak
 ·have:i=g:=by
   rw[qD _ _ bd] at ak;simpa using ak
  subst this;exact⟨by rw[ah];simp,af⟩
theorem eI.mono {wM:Nat} {aS:Mem} (h:eI B M e k enc v l) (cM:wM<=B) (hm:∀i,some i=fX v->∀o,M i=some o->aS i=some o):eI wM aS e k enc v l:=by
 rcases h with ⟨a,rfl,rfl⟩|⟨g,cap,cur,rfl,bd,af,ah,aH,ck,dd,dM⟩
 ·exact .inl ⟨a,rfl,rfl⟩
 ·exact .inr ⟨g,cap,cur,rfl,bd,Nat.le_trans cM af,hm g (by rw[qD _ _ bd]) _ ah,aH,ck,dd,dM⟩
def tA (w:aG) (k:Nat) (enc:α->List ad) (v:ad) (l:List α):Prop:=
 ∃a c,v= .slice a l.length c/\(a=none->l=[])/\∀h8,a=some h8->∀j u,(l.flatMap enc)[j]? =some u->w.cell? (h8.add j)=some u
theorem ac1 {enc:α->List ad} (ao:∀x,(enc x).length=k) {l:List α} {j:Nat} {u:ad} (h:(l.flatMap enc)[j]? =some u):∃i x r,l[i]? =some x/\(enc x)[r]? =some u/\j=i*k+r:=by
 have aq:j<l.length*k:=by
  have:=(List.getElem?_eq_some_iff.1 h).1
  rwa [uy ao] at this
 have fe:0<k:=by rcases Nat.eq_zero_or_pos k with h|h;· subst h;simp at aq
                 ·exact h
 have ak:j/k<l.length:=Nat.div_lt_of_lt_mul (by rwa [Nat.mul_comm] at aq);have ar:j%k<k:=Nat.mod_lt _ fe;refine⟨j/k,l[j/k],j%k,ig ak,?_,(Nat.div_add_mod' j k).symm⟩;have ah:=Ai ao l (j/k) _ (ig ak) (j%k) ((enc l[j/k])[j%k]'(by rw[ao];exact ar)) (ig _);rw[Nat.div_add_mod',h] at ah;rw[ig (by rw[ao];exact ar)];exact ah.symm
theorem dr.reads {w:aG} (h:dr M k enc v l) (ao:∀x,(enc x).length=k) (hw:∀i o,M i=some o->w.heap[i]? =some o):tA w k enc v l:=by
 cases h with
 |nil a c=>exact⟨a,c,rfl,λ_=>rfl,λh8 _ j u h=>by simp at h⟩
 |mk af ah aH=>
  refine⟨_,_,rfl,(λh=>by cases h),λh8 had j u aq=> ?_⟩;cases had;obtain⟨i,x,r,q1,aI,rfl⟩:=ac1 ao aq;rw[Addr.ly,cell_of_row w _ _ _ _ _ (hw _ _ af),<-Nat.add_assoc];exact aH i x q1 r u aI
theorem eI.reads {w:aG} (h:eI B M e k enc v l) (hw:∀i o,M i=some o->w.heap[i]? =some o):tA w k enc v l:=by
 rcases h with ⟨a,rfl,rfl⟩|⟨g,cap,cur,rfl,bd,af,ah,aH,ck,dd,dM⟩
 ·exact⟨a,0,rfl,λ_=>rfl,λh8 _ j u h=>by simp at h⟩
 ·refine⟨_,_,rfl,(λh=>by cases h),λh8 had j u aq=> ?_⟩
  cases had;rw[Addr.ly,cell_of_row w _ _ _ _ _ (hw _ _ ah),Nat.zero_add];rw[<-dM,List.getElem?_take] at aq;split at aq
  ·simpa using aq
  ·cases aq
theorem eI.arr (h:eI B M e k enc v l) (ao:∀x,(enc x).length=k):dr M k enc v l:=by
 rcases h with ⟨a,rfl,rfl⟩|⟨g,cap,cur,rfl,aA,af,ah,aH,ck,dd,dM⟩
 ·exact .nil _ _
 ·refine .mk ah aH λi x aw j u hu=> ?_
  have gW:=Ai ao l i x aw j u hu;rw[<-dM,List.getElem?_take] at gW;split at gW
  ·rw[Nat.zero_add]
   simpa using gW
  ·cases gW
theorem eI.row (h:eI B M e k enc v l) (ao:∀x,(enc x).length=k) (aA:fX v≠none) {w:aG} (hw:∀i o,M i=some o->w.heap[i]? =some o):w.ownsRow B e k v l.length (l.flatMap enc):=by
 refine⟨uy ao l,?_⟩;rcases h with ⟨a,rfl,rfl⟩|⟨g,cap,cur,rfl,bd,af,ah,aH,ck,dd,dM⟩
 ·exact absurd (F_ _ _) aA
 ·exact .inr ⟨g,cap,cur,rfl,af,hw _ _ ah,aH,ck,dd,dM⟩
theorem eI.N7 {w:aG} (h:w.ownsRow B e k v l.length (l.flatMap enc)):eI B (a7 w) e k enc v l:=by
 obtain⟨_,⟨rfl,bd⟩|⟨g,cap,cur,rfl,af,ah,aH,ck,dd,dM⟩⟩:=h
 ·exact .inl ⟨none,rfl,List.eq_nil_of_length_eq_zero bd⟩
 ·rcases Nat.eq_zero_or_pos cap with aA|aA
  ·subst aA
   have:l=[]:=List.eq_nil_of_length_eq_zero aj;subst this;exact .inl ⟨_,rfl,rfl⟩
  ·exact .inr ⟨g,cap,cur,rfl,aA,af,ah,aH,ck,dd,dM⟩
end
def jM (M aS:Mem) (T:Option Nat):Prop:=∀i o,M i=some o->some i≠T->aS i=some o
theorem jM.up {B:Nat} {W:aG} {M aS:Mem} {T:Option Nat} (ao:jM M aS T) (cM:∀i,some i=T->B<=i) (ac2:W.heap.size<=B) (gk:∀i o,a7 W i=some o->M i=some o):∀i o,a7 W i=some o->aS i=some o:=λi o h=>
 ao i o (gk i o h) λak=>by
  have af:=cM i ak;have ah:i<W.heap.size:=(Array.getElem?_eq_some_iff.1 h).1;omega
theorem jM.own {α:Type} {B:Nat} {M aS:Mem} {T:Option Nat} {e:bq} {k:Nat} {enc:α->List ad} {v:ad} {l:List α} (ao:jM M aS T) (h:eI B M e k enc v l) (dU:∀i,some i=fX v->some i≠T):eI B aS e k enc v l:=
 h.mono (c4 _) λi ak o bW=>ao i o bW (dU i ak)
structure DX (B:Nat) (M aS:Mem) (T:Option Nat) (w w':aG):Prop where
 known:∀i,some i=T->M i≠none/\B<=i
 os:w'.os=w.os
 tape:w'.tape=w.tape
 output:w'.output=w.output
 drawn:h5 w<=h5 w'
 size:w.heap.size<=w'.heap.size
 block:∀i,i<w.heap.size->some i≠T->w'.heap[i]? =w.heap[i]?
 dz:∀i o,aS i=some o->w'.heap[i]? =some o/\(M i≠none\/w.heap.size<=i\/i<B)
theorem Here.turns [dJ] {M aS:Mem} {bM vals':List ad} {T:Option Nat} {N B:Nat} {st:c6} {w0 w w':aG} {a:Act} {sl:ax} {l:List bG} {dQ:gh} (fg:bF st sl l=some dQ) (hm:hD (bc M bM) (bc aS vals') dQ) (bw:DX B M aS T w w') (aT:dJ.jD<=l.length) (aA:jr st.A l 0)
  (ae: @Here (bc M bM) _ N st B w0 a w): @Here (bc aS vals') _ N {sl,ms:=[],A:=cS l} B w0 a w':=
 Here.BW (λi=>some i=T) fg hm (λi ak=>bw.known i ak) ⟨bw.os,bw.tape,bw.output,bw.drawn⟩ bw.size (λi ak aR=>bw.block i ak aR) (λi o ak=>bw.dz i o ak) aT aA ae
def j7 (M:Mem) (w':aG) (T fQ:Option Nat):Mem:=λi=>if some i=fQ then w'.heap[i]? else if some i=T then none else M i
theorem uz {B:Nat} {M:Mem} {T fQ:Option Nat} {w w':aG} (hw:∀i o,M i=some o->w.heap[i]? =some o) (kW:∀i,some i=T->M i≠none/\B<=i) (qb:∀i,some i=fQ->some i=T\/w.heap.size<=i)
  (vw:w'.os=w.os/\w'.tape=w.tape/\w'.output=w.output) (bu:h5 w<=h5 w') (dV:w.heap.size<=w'.heap.size) (ai:∀i,i<w.heap.size->some i≠T->w'.heap[i]? =w.heap[i]?):DX B M (j7 M w' T fQ) T w w'/\jM M (j7 M w' T fQ) T:=by
 have Ad:∀i o,M i=some o->some i≠T->w'.heap[i]? =some o:=λi o ak aR=>by
  have h:=hw i o ak;rw[ai i (Array.getElem?_eq_some_iff.1 h).1 aR];exact h
 refine⟨⟨kW,vw.1,vw.2.1,vw.2.2,bu,dV,ai,λi o ak=> ?_⟩,λi o ak aR=> ?_⟩
 ·unfold j7 at ak
  split at ak
  ·rename_i h
   refine⟨ak,?_⟩;rcases qb i h with h|h
   ·exact .inl (kW i h).1
   ·exact .inr (.inl h)
  ·split at ak
   ·cases ak
   ·rename_i af ah
    exact⟨Ad i o ak ah,.inl (by rw[ak];simp)⟩
 ·unfold j7
  split
  ·exact Ad i o ak aR
  ·first
    |exact ak
    |(rw[aV aR];exact ak)
theorem N8 {P:bB} {w:aG} {t ty e:bq} {i:TypeInfo} (bw:P.underlying t=some (.slice e)) (ak:P.info? e=some i) {a b:Option Addr} {n cap c:Nat} (h:n<=cap):
  (Builtin.append_ #[t,t] ty #[.slice a n cap,.slice b 0 c]).run P w= .ok (.slice a n cap) w:=by
 cases b<;>cases a<;>simp [Builtin.append_,run_underlying bw,sizeOf,typeInfo,ak,Builtin.lenOf,Builtin.firstCells,loadCells,loadCellsFrom,h,storeCells]
theorem N9 {P:bB} {w w':aG} {base:Nat} {t ty e:bq} {i:TypeInfo} {z:ad} {size bytes:Nat} (bw:P.underlying t=some (.slice e)) (ak:P.info? e=some i) (de:i.zero=some z) (hH:i.size=size) (nH:i.bytes=bytes) (q8:z.cells.size=size) (dV:0<size)
  {v v':ad} {n:Nat} {xs:List ad} (x3:w.ownsRow base e size v n xs) (a:Addr) (m c:Nat) {k_:List ad} (az:k_.length=m*size) (Bl:∀j u,k_[j]? =some u->w.cell? (a.add j)=some u) (af:∀u∈k_,u.oneCell'=true)
  (o5:n+m<=maxLen) (mN:(n+m)*bytes<=140737488355328) (ar:(Builtin.append_ #[t,t] ty #[v,.slice (some a) m c]).run P w= .ok v' w'):∀j,some j=v'.ownBlock->some j=v.ownBlock\/w.heap.size<=j:=by
 subst hH;subst nH;have N':n+m<=9223372036854775807:=by simp only [maxLen] at o5;omega
 rcases x3.2 with ⟨rfl,rfl⟩|⟨g,cap,cur,rfl,ak0,bg,iv,UR,hJ,vn⟩
 ·by_cases hm:m=0
  ·subst hm
   have aT:k_=[]:=List.eq_nil_of_length_eq_zero (by simpa using az);subst aT;have ah:(Builtin.append_ #[t,t] ty #[.slice none 0 0,.slice (some a) 0 c]).run P w= .ok (.slice none 0 0) w:=by
    simp [Builtin.append_,run_underlying bw,sizeOf,typeInfo,ak,Builtin.lenOf,Builtin.firstCells,loadCells,loadCellsFrom]
   rw[ah] at ar;cases ar;intro j aq;cases aq
  ·have ah:=run_append_nil (P:=P) w t ty e i z bw ak de a m c k_ az Bl aj aj (by have ai:=mN;simp only [Nat.zero_add] at ai;omega)
   rw[ah] at ar;cases ar;intro j aq;have:j=w.heap.size:=by simpa [Value.ownBlock] using aq
   exact .inr aj
 ·by_cases DY:n+m<=cap
  ·have rK:n*i.size+k_.length<=cur.size:=by rw[az,hJ,<-Nat.add_mul];exact Nat.mul_le_mul_right _ DY
   have ah:=run_append_room (P:=P) w t ty e i bw ak g n cap cur bg a m c k_ az Bl af DY rK;rw[ah] at ar;cases ar;intro j aq;exact .inl aq
  ·have holds:∀j u,xs[j]? =some u->w.cell? ((⟨g,0,none⟩:Addr).add j)=some u:=x3.cells (g:=g) rfl
   have ah:=run_append_grow (P:=P) w t ty e i z bw ak de ⟨g,0,none⟩ n cap xs x3.1 holds a m c k_ az Bl aj aj (growslice_fits aj mN);rw[ah] at ar;cases ar;intro j aq;have:j=w.heap.size:=by simpa [Value.ownBlock] using aq
   exact .inr aj
theorem N_ {α:Type} {P:bB} {w:aG} {B:Nat} {M:Mem} {t ty e:bq} {i:TypeInfo} {z:ad} {k bytes:Nat} (bw:P.underlying t=some (.slice e)) (ak:P.info? e=some i) (de:i.zero=some z) (hH:i.size=k) (nH:i.bytes=bytes) (q8:z.cells.size=k) (ji:0<k)
  {enc:α->List ad} (ao:∀x,(enc x).length=k) (lB:∀x,∀u∈enc x,u.oneCell'=true) {v x:ad} {l lx:List α} (dR:eI B M e k enc v l) (aw:tA w k enc x lx) (hw:∀i o,M i=some o->w.heap[i]? =some o) (cM:B<=w.heap.size)
  (o5:l.length+lx.length<=maxLen) (mN:(l.length+lx.length)*bytes<=140737488355328):
  ∃v' w' aS,(Builtin.append_ #[t,t] ty #[v,x]).run P w= .ok v' w'/\eI B aS e k enc v' (l++lx)/\DX B M aS (fX v) w w'/\jM M aS (fX v):=by
 obtain⟨bO,c,rfl,yV,ll⟩:=aw;by_cases hm:lx=[]
 ·subst hm
  obtain⟨a,cap,rfl⟩:=dR.slice;have hle:l.length<=cap:=by
   rcases dR with ⟨bR,h,rfl⟩|⟨g,xL,cur,h,bd,af,ah,aH,_⟩
   ·exact Nat.zero_le _
   ·cases h;exact aH
  refine⟨_,w,M,N8 bw ak hle,by rw[List.append_nil];exact dR,⟨dR.known,rfl,rfl,rfl,c4 _,c4 _,λ_ _ _=>rfl,λi o h=>⟨hw i o h,.inl (by rw[h];simp)⟩⟩,λi o h _=>h⟩
 ·cases bO with
  |none=>exact absurd (yV rfl) hm
  |some h8=>
   have hlen:=uy ao lx;have u_:0<lx.length:=List.length_pos_iff.2 hm;have af:∀u∈lx.flatMap enc,u.oneCell'=true:=λu hu=>by
    obtain⟨y,_,hy⟩:=List.mem_flatMap.1 hu;exact lB y u hy
   have g_:∀{v0:ad},w.ownsRow B e k v0 l.length (l.flatMap enc)->(∀i,some i=v0.ownBlock->M i≠none/\B<=i)->∃v' w' aS,(Builtin.append_ #[t,t] ty #[v0,.slice (some h8) lx.length c]).run P w= .ok v' w'/\eI B aS e k enc v' (l++lx)/\DX B M aS v0.ownBlock w w'/\jM M aS v0.ownBlock:=by
    intro v0 pw hZ;obtain⟨v',w',g1,g2,g3,_⟩:=run_append_own (P:=P) w B t ty e i z k bytes bw ak de hH nH q8 ji v0 l.length _ pw h8 lx.length c _ hlen (ll h8 rfl) af o5 mN cM;have hI:=N9 bw ak de hH nH q8 ji pw h8 lx.length c hlen (ll h8 rfl) af o5 mN g1;have ah:w'.ownsRow B e k v' (l++lx).length ((l++lx).flatMap enc):=by rw[List.length_append,List.flatMap_append];exact g2
    obtain⟨q1,aI⟩:=uz (B:=B) (M:=M) (T:=v0.ownBlock) (fQ:=v'.ownBlock) hw hZ hI ⟨g3.os,g3.tape,g3.output⟩ (c4 _) g3.size g3.block;refine⟨v',w',_,g1,(eI.N7 ah).mono (c4 _) λi ak o bW=> ?_,q1,aI⟩;have:some i=v'.ownBlock:=B1 ak;unfold j7;rw[aP this];exact bW
   by_cases aA:fX v=none
   ·rcases dR with ⟨a,rfl,rfl⟩|⟨g,cap,cur,rfl,bd,_⟩
    ·have b4:(Builtin.append_ #[t,t] ty #[.slice a 0 0,.slice (some h8) lx.length c]).run P w=(Builtin.append_ #[t,t] ty #[.slice none 0 0,.slice (some h8) lx.length c]).run P w:=by
      cases a with
      |none=>rfl
      |some a=>
       subst hH;subst nH;have N':lx.length<=9223372036854775807:=by simp only [maxLen,List.length_nil] at o5;omega
       have c9:=run_append_nil (P:=P) w t ty e i z bw ak de h8 lx.length c _ hlen (ll h8 rfl) aj aj (by have ai:=mN;simp only [List.length_nil,Nat.zero_add] at ai;omega);have eF:=run_append_grow (P:=P) w t ty e i z bw ak de a 0 0 [] (by simp) (λj u h=>by simp at h) h8 lx.length c _ hlen (ll h8 rfl) aj aj (growslice_fits aj (by have ai:=mN;simp only [List.length_nil] at ai;exact ai));rw[c9,eF];simp
     obtain⟨v',w',aS,q1,aI,bS,fo⟩:=g_ (v0:= .slice none 0 0) (World.ownsRow_nil w B e k) (λi h=>by cases h);rw[aA];exact⟨v',w',aS,b4.trans q1,aI,bS,fo⟩
    ·exact absurd aA (by rw[qD _ _ bd];simp)
   ·have heq:fX v=v.ownBlock:=by
     cases h:fX v with
     |none=>exact absurd h aA
     |some i=>exact B1 h.symm
    have:=g_ (v0:=v) (dR.row ao aA hw) (λi h=>dR.known i (by rw[heq];exact h));rw[heq];exact this
def q9 (t:bq):Option dk->Option (ad×ad)
 |some (.oper o _ ops s _)=>match o.op with
  | .call c=>match c.callee,c.args with
    | .builtin .append,⟨[oG,ha]⟩=>bif decide (c.argTypes= #[t,t]) then match uh ops o s.sl with
      |some true=>some (eQ .nil s.sl oG,eQ .nil s.sl ha)
      |_=>none
      else none
    |_,_=>none
  |_=>none
 |_=>none
theorem B2 [dJ] {α:Type} {P:bB} {N B:Nat} {w0:aG} {Q:Exit->Act->aG->Prop} {M:Mem} {bM:List ad} {o:Option dk} {t e:bq} {k bytes:Nat} {i:TypeInfo} {z a8 my hk:ad} {enc:α->List ad} {l lx l':List α} {bC:Option Addr->Nat->List ad} {gp e6:ax} {c7:List bG} {dQ:gh}
  (iM:l'=l++lx) (h:q9 t o=some (a8,my)) (bw:P.underlying t=some (.slice e)) (ak:P.info? e=some i) (de:i.zero=some z) (hH:i.size=k) (nH:i.bytes=bytes) (q8:z.cells.size=k) (ji:0<k) (ao:∀x,(enc x).length=k) (lB:∀x,∀u∈enc x,u.oneCell'=true)
  (fg:bF (b0 o) gp c7=some dQ) (iQ:e8 N gp (qa o) hk=some e6) (gH:bL hk=true) (T:Option Nat)
  (dR:∀φ w v,@cB (bc M bM) φ (b0 o).A w-> @aM (bc M bM) φ a8 v->eI B M e k enc v l/\fX v=T)
  (mP:∀φ w x,@cB (bc M bM) φ (b0 o).A w-> @aM (bc M bM) φ my x->tA w k enc x lx)
  (o5:l.length+lx.length<=maxLen) (mN:(l.length+lx.length)*bytes<=140737488355328)
  (hm:∀aS a c,hD (bc M bM) (bc aS (bC a c)) dQ) (aR:∀aS a c,@bb (bc aS (bC a c)) hk= .slice a l'.length c)
  (rest:∀aS a c,eI B aS e k enc (.slice a l'.length c) l'->jM M aS T->(∀i,some i=T->B<=i)->∀bR w,@Here (bc aS (bC a c)) _ N {sl:=e6,ms:=[],A:=cS c7} B w0 bR w->wpListIn (Fr none) 0 P (nG o) (fF P (gi o) Q) (oc o) bR w)
  (aT:dJ.jD<=c7.length:=by first|exact Nat.zero_le _|exact h3 rfl) (aA:jr (b0 o).A c7 0:=by exact jF rfl): @ia (bc M bM) _ P N B w0 Q o:=by
 subst iM;letI:=bc M bM;unfold q9 at h;split at h
 ·rename_i op r ops s ks
  refine⟨_,rfl,λa w ae=> ?_⟩;split at h
  ·rename_i c eb
   split at h
   ·rename_i oG ha q2 hW
    cases hty:decide (c.argTypes= #[t,t]) with
    |false=>rw[hty] at h;cases h
    |true=>
     rw[hty,cN] at h;have yW:c.argTypes= #[t,t]:=of_decide_eq_true hty;split at h
     ·rename_i nk
      cases h;have jN:=ae;obtain⟨⟨φ,ds,af,ah,aH,ck,_⟩,dd,dM⟩:=ae;unfold wpListIn;rw[sg ah.get nk,aP rfl];have es:=h_ (jE φ) ah.get oG;have ex:=h_ (jE φ) ah.get ha;obtain⟨JW,kW⟩:=dR φ w _ aH es;subst kW;have hw:∀i o,M i=some o->w.heap[i]? =some o:=jN.qC;obtain⟨v',w',aS,g1,g2,g3,g4⟩:=N_ (ty:=op.type) bw ak de hH nH q8 ji ao lB JW (mP φ w _ aH ex) hw dM o5 mN;have ho:(execOp a.eval op).run P w= .ok (.value v') w':=by
       unfold execOp resolve;rw[eb];simp only [q2,hW,yW,List.map_toArray,List.map_cons,List.map_nil];show (do pure (Next.value (<-Builtin.append_ #[t,t] op.type #[a.eval oG,a.eval ha])):Sem Next).run P w=_;simp only [Sem.run_bind,g1,Result.andThen_ok];rfl
      have hb:∀c',op.op≠.defer c':=λc' h=>by rw[eb] at h;cases h
      refine⟨λ_ _=>trivial,?_⟩;rw[Oper.semAt_eq _ _ _ hb,ho,Oper.uponIn_value];obtain⟨bR,c',rfl⟩:=g2.slice;have kc:=Here.turns (vals':=bC bR c') fg (hm aS bR c') g3 aT aA jN;letI:=bc aS (bC bR c');have pG:=Here.put (d:=op.dst) kc gH iQ;rw[aR aS bR c'] at pG;exact rest aS bR c' g2 g4 (λi ak=>(g3.known i ak).2) _ w' pG
     ·cases h
   ·cases h
  ·cases h
 ·cases h
theorem JX {α:Type} {A:bx} {B:Nat} {M:Mem} {bM:List ad} {e:bq} {k:Nat} {enc:α->List ad} {a8 u:ad} {l:List α} (hp:bL a8=true) (b5: @bb (bc M bM) a8=u) (dR:eI B M e k enc u l):∀φ w v,@cB (bc M bM) φ A w-> @aM (bc M bM) φ a8 v->eI B M e k enc v l/\fX v=fX u:=λφ w v _ aR=>by
 letI:=bc M bM;rw[aM.kr a8 hp aR,b5];exact⟨dR,rfl⟩
def US (A:bx) (b:Nat):Bool:=match A.bl.get b with
 |some k=>Nat.beq k.fO 0&& !Nat.beq b dead
 |none=>false
theorem JY {α:Type} {A:bx} {B:Nat} {M:Mem} {bM:List ad} {e:bq} {k:Nat} {enc:α->List ad} {b o:Nat} (oE:US A b=true):∀φ w v,@cB (bc M bM) φ A w-> @aM (bc M bM) φ (.slice (some ⟨b,o,none⟩) 0 0) v->eI B M e k enc v ([]:List α)/\fX v=none:=λφ w v ar aR=>by
 letI:=bc M bM;unfold US at oE;split at oE
 ·rename_i fE ao
  simp only [fy,Bool.not_eq_true'] at oE;cases aR with
  |jI bR h=>exact absurd oE.2 (by simp)
  |jk _ _ h=>exact⟨eI.nil _ _ _ _ _ _,F_ _ _⟩
  |jl _ _ c' h ay aA az=>
   obtain⟨k',af,ah,_⟩:=ar.fi _ _ h;rw[ao] at af;cases af;have:=ep oE.1;omega
 ·cases oE
theorem B3 {α:Type} {M:Mem} {bM:List ad} {A:bx} {k:Nat} {enc:α->List ad} {my u:ad} {lx:List α} (hp:bL my=true) (b5: @bb (bc M bM) my=u) (mP:∀w,(∀i o,M i=some o->w.heap[i]? =some o)->tA w k enc u lx):∀φ w x,@cB (bc M bM) φ A w-> @aM (bc M bM) φ my x->tA w k enc x lx:=λφ w x ar aR=>by
 letI:=bc M bM;rw[aM.kr my hp aR,b5];exact mP w λi o h=>(ar.dz i o h).1
def B4 (A:bx) (k:Nat):ad->Option (List ad)
 | .slice (some ⟨b,off,none⟩) m _=>match A.tj b off (m*k) with
   |some bM=>bif fH bM&&(bM.all yx&&(Nat.blt 0 m&&Nat.beq bM.length (m*k))) then some bM else none
   |none=>none
 |_=>none
theorem Ga {α:Type} {M:Mem} {bM:List ad} {A:bx} {k:Nat} {enc:α->List ad} {my:ad} {cs:List ad} {lx:List α} (h:B4 A k my=some cs) (ao:∀x,(enc x).length=k) (ji:0<k) (he: @fl (bc M bM) cs=lx.flatMap enc):∀φ w x,@cB (bc M bM) φ A w-> @aM (bc M bM) φ my x->tA w k enc x lx:=λφ w x ar aR=>by
 letI:=bc M bM;unfold B4 at h;split at h
 ·rename_i b off m ak1
  split at h
  ·rename_i a8 az
   cases hp:(fH a8&&(a8.all yx&&(Nat.blt 0 m&&Nat.beq a8.length (m*k)))) with
   |false=>rw[hp] at h;cases h
   |true=>
    rw[hp,cN,dL] at h;subst h;simp only [fy] at hp;obtain⟨hY,oa,rN,z1⟩:=hp;have hm:0<m:=Nat.blt_eq.mp rN;have hlen:a8.length=m*k:=ep z1;have tn:m=lx.length:=by
     have af:=congrArg List.length he;rw[yE,hlen,uy ao] at af;exact Nat.eq_of_mul_eq_mul_right ji af
    have Bh:∃ee UT,φ b=some ee/\x= .slice (some ⟨ee.bJ,ee.sh+off,none⟩) m UT:=by
     cases aR with
     |jI bR h=>exact absurd hm aj
     |jk _ _ h=>exact⟨_,_,h,rfl⟩
     |jl _ _ c' h _ _ _=>exact⟨_,_,h,rfl⟩
    obtain⟨ee,UT,ai,rfl⟩:=Bh;refine⟨_,_,by rw[tn],(λh=>by cases h),λh8 had j u aq=> ?_⟩;cases had;rw[<-he] at aq;obtain⟨q1,aI⟩:=Bg az;have lL:j<a8.length:=by
     have:=(List.getElem?_eq_some_iff.1 aq).1
     rwa [yE] at this
    obtain⟨v',g1,g2⟩:=wg ar (aI j aj) ai;rw[Addr.ly,Nat.add_assoc,g1];have xC:bL (a8.getD j undef)=true:=by
     rw[eP,ig lL];exact UO hY (List.getElem_mem lL)
    rw[aM.kr _ xC g2];rw[TN,List.getElem?_map,ig lL] at aq;rw[eP,ig lL];simpa using aq
  ·cases h
 ·cases h
def hl:Option dk->Array Oper
 |some (.draw _ ops _ _)=>ops
 |_=> #[]
theorem wQ {n:Nat} (h:n<=1000000):n<=maxLen:=Nat.le_trans h (by unfold maxLen;decide)
theorem dr.isNil {α:Type} {M:Mem} {k:Nat} {enc:α->List ad} {n c:Nat} {l:List α} (h:dr M k enc (.slice none n c) l):l=[]:=by cases h;rfl
theorem JZ {α:Type} {B:Nat} {M:Mem} {e:bq} {k:Nat} {enc:α->List ad} {l:List α} (h:l=[]):∃a c,Ending.returned (.slice none 0 0)= .returned (.slice a l.length c)/\eI B M e k enc (.slice a l.length c) l:=by
 subst h;exact⟨none,0,rfl,eI.nil _ _ _ _ _ _⟩
theorem B5 {α:Type} {B:Nat} {M:Mem} {e:bq} {k:Nat} {enc:α->List ad} {l b:List α} {a:Option Addr} {c:Nat} {w:aG} (dR:eI B M e k enc (.slice a b.length c) b) (ai:b=l) (ak:∀i o,M i=some o->w.heap[i]? =some o):∃bR c',Ending.returned (.slice a b.length c)= .returned (.slice bR l.length c')/\eI B (a7 w) e k enc (.slice bR l.length c') l:=by
 subst ai;exact⟨a,c,rfl,dR.mono (c4 _) λi _ o bW=>ak i o bW⟩
section
variable [bp] {P:bB}
omit [bp] in
theorem UU {op:BinOp} {t e:bq} (bw:P.underlying t=some (.slice e)) (a:Option Addr) (n c:Nat) (e0 e1:Operand) (w:aG) (eb:op= .eql\/op= .neq):
  (hi e0 e1 (.bin op t (.slice a n c) (.slice none 0 0))).run P w= .ok (.value (.bool (if op= .eql then a.isNone else !a.isNone))) w:=by
 have he:(Op.equal t (.slice a n c) (.slice none 0 0)).run P w= .ok a.isNone w:=by
  unfold Op.equal Op.maxDepth;exact Lib.run_equalIn_slice_nil w 9999 t e a n c 0 0 bw
 rcases eb with rfl|rfl<;>unfold hi<;>simp [eqGuard,binOp,he]
theorem aW.J0 {t e:bq} {x:ad} {a:Option Addr} {n c:Nat} (aw:bL x=true) (bw:P.underlying t=some (.slice e)) (ex:bb x= .slice a n c) (h:a=none):aW P (.bin .eql t x (.slice none 0 0),.bool true):=
 wP aw J J ex rfl λe0 e1 w=>(UU bw a n c e0 e1 w (.inl rfl)).trans (by rw[h];rfl)
theorem aW.J1 {t e:bq} {x:ad} {a:Option Addr} {n c:Nat} (aw:bL x=true) (bw:P.underlying t=some (.slice e)) (ex:bb x= .slice a n c) (h:¬a=none):aW P (.bin .eql t x (.slice none 0 0),.bool false):=
 wP aw J J ex rfl λe0 e1 w=>(UU bw a n c e0 e1 w (.inl rfl)).trans (by
  cases a with
  |none=>exact absurd rfl h
  |some a=>rfl)
end
end a1
namespace a1
theorem UW {α:Type} {k:Nat} {enc:α->List ad} (ao:∀x,(enc x).length=k):∀(l:List α) (j:Nat),(l.take j).flatMap enc=(l.flatMap enc).take (j*k)
 |[],j=>by simp
 |x::r,0=>by simp
 |x::r,j+1=>by
  have af:(enc x).take ((j+1)*k)=enc x:=List.take_of_length_le (by rw[ao,Nat.add_mul];omega);rw[List.take_succ_cons,List.flatMap_cons,List.flatMap_cons,UW ao r j,List.take_append,af,ao,show (j+1)*k-k=j*k by rw[Nat.add_mul];omega]
theorem UX {α:Type} {k:Nat} {enc:α->List ad} (ao:∀x,(enc x).length=k):∀(l:List α) (j:Nat),(l.drop j).flatMap enc=(l.flatMap enc).drop (j*k)
 |[],j=>by simp
 |x::r,0=>by simp
 |x::r,j+1=>by
  have af:(enc x).drop ((j+1)*k)=[]:=List.drop_eq_nil_of_le (by rw[ao,Nat.add_mul];omega);rw[List.drop_succ_cons,List.flatMap_cons,UX ao r j,List.drop_append,af,ao,List.nil_append,show (j+1)*k-k=j*k by rw[Nat.add_mul];omega]
def lC (a:Option Addr) (c j k:Nat):Option Addr:=if c=j then a else a.map λa=>a.add (j*k)
section
variable {α:Type} {B:Nat} {M:Mem} {e:bq} {k:Nat} {enc:α->List ad} {a:Option Addr} {c:Nat} {l:List α}
theorem dr.take {j n:Nat} (h:dr M k enc (.slice a n c) l) (aq:j<=n):dr M k enc (.slice a j c) (l.take j):=by
 obtain rfl:n=l.length:=by obtain⟨_,_,ah⟩:=h.slice;cases ah;rfl
 generalize aR:Value.slice a l.length c=v at h;have hlen:(l.take j).length=j:=by rw[List.length_take];omega
 cases h with
 |nil bR c'=>
  have:j=0:=by simpa using aq
  subst this;exact .nil _ _
 |mk af ah aH=>
  cases aR;have:=dr.mk (enc:=enc) (k:=k) (l:=l.take j) (c:=c) af (by rw[hlen];omega) λi x aw u w hw=>by
   rw[List.getElem?_take] at aw;split at aw
   ·exact aH i x aw u w hw
   ·cases aw
  rw[hlen] at this;exact this
theorem dr.drop {j n:Nat} (h:dr M k enc (.slice a n c) l) (aq:j<=n):dr M k enc (.slice (lC a c j k) (n-j) (c-j)) (l.drop j):=by
 obtain rfl:n=l.length:=by obtain⟨_,_,ah⟩:=h.slice;cases ah;rfl
 have hlen:(l.drop j).length=l.length-j:=List.length_drop;rcases Nat.lt_or_ge j l.length with c_|lJ
 ·generalize aR:Value.slice a l.length c=v at h
  cases h with
  |nil bR c'=>simp at c_
  |mk af ah aH=>
   rename_i b off c' cs ty fr;cases aR;have bu:lC (some ⟨b,off,none⟩) c j k=some ⟨b,off+j*k,none⟩:=by
    unfold lC;rw[aV aj];simp only [Option.map_some,Addr.ly]
   rw[bu];have:=dr.mk (enc:=enc) (k:=k) (l:=l.drop j) (off:=off+j*k) (c:=c-j) af (by rw[hlen];omega) λi x aw u w hw=>by
    rw[List.getElem?_drop] at aw;have:=aH (j+i) x aw u w hw;rw[Nat.add_mul] at this;rw[<-this];congr 1;omega
   rw[hlen] at this;exact this
 ·have bd:l.length-j=0:=by omega
  rw[bd,List.drop_eq_nil_of_le lJ];exact .nil _ _
theorem eI.take (ao:∀x,(enc x).length=k) {j n:Nat} (h:eI B M e k enc (.slice a n c) l) (aq:j<=l.length):eI B M e k enc (.slice a j c) (l.take j):=by
 have hlen:(l.take j).length=j:=by rw[List.length_take];omega
 rcases h with ⟨bR,bd,rfl⟩|⟨g,cap,cur,bd,af,ah,aH,ck,dd,dM,gW⟩
 ·cases bd
  have:j=0:=by simpa using aq
  subst this;exact .inl ⟨_,rfl,rfl⟩
 ·cases bd
  refine .inr ⟨g,c,cur,by rw[hlen],af,ah,aH,by rw[hlen];omega,dd,dM,?_⟩;rw[hlen];have qu:(cur.toList.take (l.length*k)).take (j*k)=(l.flatMap enc).take (j*k):=by rw[gW]
  rw[List.take_take,Nat.min_eq_left (Nat.mul_le_mul_right k aq)] at qu;rw[qu,UW ao]
end
section
variable [bp] {P:bB}
omit [bp] in
theorem ac3 (a:Addr) (n:Nat):a.add (0*n)=a:=by
 rw[Nat.zero_mul];cases a;simp [Addr.add]
omit [bp] in
theorem ac4 {t e:bq} {sz:Nat} (bw:P.underlying t=some (.slice e)) (dV:bZ P (sizeOf e)=some sz) (a:Option Addr) (n c j:Nat) (aq:j<=n) (w:aG):
  (Instr.sliceAt t (.slice a n c) (some (.int .i64 j)) none none).run P w= .ok (.slice (lC a c j sz) (n-j) (c-j)) w:=by
 have ai:(Instr.sliceBound (.int .i64 (j:Int)) n .sliceB).run P w= .ok j w:=by
  have:=run_sliceBound (P:=P) (w:=w) .i64 (j:Int) n .sliceB aj aj;simpa using this
 simp [Instr.sliceAt,Instr.slice,run_underlying bw,Instr.sliceBounds,ai,kM dV w,lC]
omit [bp] in
theorem ac5 {t e:bq} {sz:Nat} (bw:P.underlying t=some (.slice e)) (dV:bZ P (sizeOf e)=some sz) (a:Option Addr) (n c j:Nat) (aq:j<=c) (w:aG):
  (Instr.sliceAt t (.slice a n c) none (some (.int .i64 j)) none).run P w= .ok (.slice a j c) w:=by
 have ai:(Instr.sliceBound (.int .i64 (j:Int)) c .sliceAcap).run P w= .ok j w:=by
  have:=run_sliceBound (P:=P) (w:=w) .i64 (j:Int) c .sliceAcap aj aj;simpa using this
 simp [Instr.sliceAt,Instr.slice,run_underlying bw,Instr.sliceBounds,ai,kM dV w];intro _;cases a with
 |none=>rfl
 |some a=>
  have:=ac3 a sz;rw[Nat.zero_mul] at this;simpa using this
theorem aW.J2 {t e:bq} {sz:Nat} {x i r:ad} {a:Option Addr} {n c j:Nat} (aw:bL x=true) (ak:bL i=true) (ar:bL r=true) (bw:P.underlying t=some (.slice e)) (dV:bZ P (sizeOf e)=some sz) (ex:bb x= .slice a n c) (o2:bb i= .int .i64 (j:Int)) (aq:j<=n)
  (dc:bb r= .slice (lC a c j sz) (n-j) (c-j)):aW P (.p4 t x (some i) none none,r):=by
 refine⟨by simp [qA,plainO,aw,ak],ar,λe0 e1 w _=> ?_⟩;show (hi e0 e1 (.p4 t (bb x) (some (bb i)) none none)).run P w=_;rw[ex,o2,dc];unfold hi;simp only [Sem.run_bind,ac4 bw dV a n c j aq w,Result.andThen_ok];rfl
theorem aW.ac6 {t e:bq} {sz:Nat} {x i r:ad} {a:Option Addr} {n c j:Nat} (aw:bL x=true) (ak:bL i=true) (ar:bL r=true) (bw:P.underlying t=some (.slice e)) (dV:bZ P (sizeOf e)=some sz) (ex:bb x= .slice a n c) (o2:bb i= .int .i64 (j:Int)) (aq:j<=c)
  (dc:bb r= .slice a j c):aW P (.p4 t x none (some i) none,r):=by
 refine⟨by simp [qA,plainO,aw,ak],ar,λe0 e1 w _=> ?_⟩;show (hi e0 e1 (.p4 t (bb x) none (some (bb i)) none)).run P w=_;rw[ex,o2,dc];unfold hi;simp only [Sem.run_bind,ac5 bw dV a n c j aq w,Result.andThen_ok];rfl
end
def hc:Option dk->Option (bq×ad×ad)
 |some (.oper o _ ops s _)=>match o.op with
  | .store t ky ha=>match uh ops o s.sl with
    |some true=>some (t,eQ .nil s.sl ky,eQ .nil s.sl ha)
    |_=>none
  |_=>none
 |_=>none
theorem ac7 [bp] {P:bB} {f:FuncId} {fn:Func} {c:Code} {args:List ad} {sl:ax} {N:Nat} {W:aG} {R:Ending->aG->Prop} (p9:P.funcs[f]? =some fn) (aA:fn.body=some c) (hg:setArgs 0 args .nil=some sl) (hp:fH args=true)
  (kN:args.length+(fn.ntmps-args.length)=N) (nj:n9 W) (su:∀a,@Here _ rO N {sl,ms:=[],A:=start} 0 W a W->c.wpIn (Fr none) 0 P (@tw rO P fn N 0 W R) a W):Calls P f ⟨fl args⟩ W R:=by
 subst kN;letI:=rO;exact NT p9 aA hg (UB nj) (λb e h=>by cases h) (wN.none _ _) ⟨by simp [yE],λj aq=>by simpa using aM.Bt (λ_=>none) args hp j aq⟩ (cO.refl _ _) (Nat.zero_le _) su
theorem eI.cap {α:Type} {B:Nat} {M:Mem} {e:bq} {k:Nat} {enc:α->List ad} {a:Option Addr} {n c:Nat} {l:List α} (h:eI B M e k enc (.slice a n c) l):n<=c:=by
 rcases h with ⟨bR,bd,rfl⟩|⟨g,cap,cur,bd,af,ah,aH,ck,dd,dM,gW⟩
 ·cases bd;exact c4 _
 ·cases bd;exact ck
end a1
end Go.Proofs.YtepcfjbfkedlpaaDoor
namespace Go.Proofs.YtepcfjbfkedlpaaDoor
open Go Go.Proofs Go.RowKit
namespace a1
theorem UY {α:Type} {P:bB} {w:aG} {B:Nat} {M:Mem} {t ty e:bq} {i:TypeInfo} {z:ad} {k bytes:Nat} (bw:P.underlying t=some (.slice e)) (ak:P.info? e=some i) (de:i.zero=some z) (hH:i.size=k) (nH:i.bytes=bytes) (q8:z.cells.size=k) (ji:0<k)
  {enc:α->List ad} (ao:∀x,(enc x).length=k) (lB:∀x,∀u∈enc x,u.oneCell'=true) {v x:ad} {l lx:List α} (dR:eI B M e k enc v l) (aw:tA w k enc x lx) (hw:∀i o,M i=some o->w.heap[i]? =some o)
  (o5:l.length+lx.length<=maxLen) (mN:(l.length+lx.length)*bytes<=140737488355328) {v':ad} {w':aG} (ar:(Builtin.append_ #[t,t] ty #[v,x]).run P w= .ok v' w'):
  ∀j,some j=fX v'->some j=fX v\/w.heap.size<=j:=by
 obtain⟨bO,c,rfl,yV,ll⟩:=aw;by_cases hm:lx=[]
 ·subst hm
  obtain⟨a,cap,rfl⟩:=dR.slice;have hle:l.length<=cap:=by
   rcases dR with ⟨bR,h,rfl⟩|⟨g,xL,cur,h,bd,af,ah,aH,_⟩
   ·exact Nat.zero_le _
   ·cases h;exact aH
  have ah:=N8 (P:=P) (w:=w) (ty:=ty) (a:=a) (b:=bO) (c:=c) bw ak hle;cases ah.symm.trans ar;exact λj h=> .inl h
 ·cases bO with
  |none=>exact absurd (yV rfl) hm
  |some h8=>
   have hlen:=uy ao lx;have af:∀u∈lx.flatMap enc,u.oneCell'=true:=λu hu=>by
    obtain⟨y,_,hy⟩:=List.mem_flatMap.1 hu;exact lB y u hy
   by_cases aA:fX v=none
   ·rcases dR with ⟨a,rfl,rfl⟩|⟨g,cap,cur,rfl,bd,_⟩
    ·have b4:(Builtin.append_ #[t,t] ty #[.slice a 0 0,.slice (some h8) lx.length c]).run P w=(Builtin.append_ #[t,t] ty #[.slice none 0 0,.slice (some h8) lx.length c]).run P w:=by
      cases a with
      |none=>rfl
      |some a=>
       subst hH;subst nH;have N':lx.length<=9223372036854775807:=by simp only [maxLen,List.length_nil] at o5;omega
       have u_:0<lx.length:=List.length_pos_iff.2 hm;have c9:=run_append_nil (P:=P) w t ty e i z bw ak de h8 lx.length c _ hlen (ll h8 rfl) aj aj (by have ai:=mN;simp only [List.length_nil,Nat.zero_add] at ai;omega);have eF:=run_append_grow (P:=P) w t ty e i z bw ak de a 0 0 [] (by simp) (λj u h=>by simp at h) h8 lx.length c _ hlen (ll h8 rfl) aj aj (growslice_fits aj (by have ai:=mN;simp only [List.length_nil] at ai;exact ai));rw[c9,eF];simp
     have aT:=N9 bw ak de hH nH q8 ji (World.ownsRow_nil w B e k) h8 lx.length c hlen (ll h8 rfl) af o5 mN (b4.symm.trans ar);intro j aq;rcases aT j (B1 aq) with h|h
     ·cases h
     ·exact .inr h
    ·exact absurd aA (by rw[qD _ _ bd];simp)
   ·have heq:fX v=v.ownBlock:=by
     cases h:fX v with
     |none=>exact absurd h aA
     |some i=>exact B1 h.symm
    have aT:=N9 bw ak de hH nH q8 ji (dR.row ao aA hw) h8 lx.length c hlen (ll h8 rfl) af o5 mN ar;intro j aq;rw[heq];exact aT j (B1 aq)
theorem ac8 [dJ] {α:Type} {P:bB} {N B:Nat} {w0:aG} {Q:Exit->Act->aG->Prop} {M:Mem} {bM:List ad} {o:Option dk} {t e:bq} {k bytes:Nat} {i:TypeInfo} {z a8 my hk:ad} {enc:α->List ad} {l lx l':List α} {bC:Option Addr->Nat->List ad} {gp e6:ax} {c7:List bG} {dQ:gh}
  (iM:l'=l++lx) (h:q9 t o=some (a8,my)) (bw:P.underlying t=some (.slice e)) (ak:P.info? e=some i) (de:i.zero=some z) (hH:i.size=k) (nH:i.bytes=bytes) (q8:z.cells.size=k) (ji:0<k) (ao:∀x,(enc x).length=k) (lB:∀x,∀u∈enc x,u.oneCell'=true)
  (fg:bF (b0 o) gp c7=some dQ) (iQ:e8 N gp (qa o) hk=some e6) (gH:bL hk=true) (T:Option Nat)
  (dR:∀φ w v,@cB (bc M bM) φ (b0 o).A w-> @aM (bc M bM) φ a8 v->eI B M e k enc v l/\fX v=T)
  (mP:∀φ w x,@cB (bc M bM) φ (b0 o).A w-> @aM (bc M bM) φ my x->tA w k enc x lx)
  (o5:l.length+lx.length<=maxLen) (mN:(l.length+lx.length)*bytes<=140737488355328)
  (hm:∀aS a c,hD (bc M bM) (bc aS (bC a c)) dQ) (aR:∀aS a c,@bb (bc aS (bC a c)) hk= .slice a l'.length c)
  (rest:∀aS a c,eI B aS e k enc (.slice a l'.length c) l'->jM M aS T->(∀i,some i=T->B<=i)->(∀i,some i=fX (.slice a l'.length c)->some i=T\/M i=none)->∀bR w,@Here (bc aS (bC a c)) _ N {sl:=e6,ms:=[],A:=cS c7} B w0 bR w->wpListIn (Fr none) 0 P (nG o) (fF P (gi o) Q) (oc o) bR w)
  (aT:dJ.jD<=c7.length:=by first|exact Nat.zero_le _|exact h3 rfl) (aA:jr (b0 o).A c7 0:=by exact jF rfl): @ia (bc M bM) _ P N B w0 Q o:=by
 subst iM;letI:=bc M bM;unfold q9 at h;split at h
 ·rename_i op r ops s ks
  refine⟨_,rfl,λa w ae=> ?_⟩;split at h
  ·rename_i c eb
   split at h
   ·rename_i oG ha q2 hW
    cases hty:decide (c.argTypes= #[t,t]) with
    |false=>rw[hty] at h;cases h
    |true=>
     rw[hty,cN] at h;have yW:c.argTypes= #[t,t]:=of_decide_eq_true hty;split at h
     ·rename_i nk
      cases h;have jN:=ae;obtain⟨⟨φ,ds,af,ah,aH,ck,_⟩,dd,dM⟩:=ae;unfold wpListIn;rw[sg ah.get nk,aP rfl];have es:=h_ (jE φ) ah.get oG;have ex:=h_ (jE φ) ah.get ha;obtain⟨JW,kW⟩:=dR φ w _ aH es;subst kW;have hw:∀i o,M i=some o->w.heap[i]? =some o:=jN.qC;obtain⟨v',w',aS,g1,g2,g3,g4⟩:=N_ (ty:=op.type) bw ak de hH nH q8 ji ao lB JW (mP φ w _ aH ex) hw dM o5 mN;have zT:=UY bw ak de hH nH q8 ji ao lB JW (mP φ w _ aH ex) hw o5 mN g1;have ho:(execOp a.eval op).run P w= .ok (.value v') w':=by
       unfold execOp resolve;rw[eb];simp only [q2,hW,yW,List.map_toArray,List.map_cons,List.map_nil];show (do pure (Next.value (<-Builtin.append_ #[t,t] op.type #[a.eval oG,a.eval ha])):Sem Next).run P w=_;simp only [Sem.run_bind,g1,Result.andThen_ok];rfl
      have hb:∀c',op.op≠.defer c':=λc' h=>by rw[eb] at h;cases h
      refine⟨λ_ _=>trivial,?_⟩;rw[Oper.semAt_eq _ _ _ hb,ho,Oper.uponIn_value];obtain⟨bR,c',rfl⟩:=g2.slice;have kc:=Here.turns (vals':=bC bR c') fg (hm aS bR c') g3 aT aA jN;letI:=bc aS (bC bR c');have pG:=Here.put (d:=op.dst) kc gH iQ;rw[aR aS bR c'] at pG;exact rest aS bR c' g2 g4 (λi ak=>(g3.known i ak).2) (λi ak=>(zT i ak).imp id λay=>by
       cases gk:M i with
       |none=>rfl
       |some o=>
        have:=(Array.getElem?_eq_some_iff.1 (hw i o gk)).1
        omega) _ w' pG
     ·cases h
   ·cases h
  ·cases h
 ·cases h
end a1
end Go.Proofs.YtepcfjbfkedlpaaDoor
namespace Go.Proofs.YtepcfjbfkedlpaaDoor
open Go Go.RowKit
namespace a1
abbrev gx:=List UInt8
def da (l:gx):ad:= .string ⟨l.toArray⟩
variable [bp]
section
variable {P:bB}
omit [bp] in
theorem Oa (l:gx):(⟨l.toArray⟩:ByteArray).size=l.length:=by simp [ByteArray.size]
theorem B6 {f:jJ} {r:ad} (bn:qA f=true) (ar:bL r=true) (aT:Dr f=false) (h:∀e0 e1 w,n9 w->(hi e0 e1 (Bu f)).run P w= .ok (.value (bb r)) w):aW P (f,r):=by
 refine⟨bn,ar,?_⟩;simp only [aT];exact h
theorem UZ {f:jJ} {r:ad} (bn:qA f=true) (ar:bL r=true) (aT:Dr f=true) (h:∀e0 e1 w,(hi e0 e1 (Bu f)).run P w= .ok (.value (bb r)) w):aW P (f,r):=by
 refine⟨bn,ar,?_⟩;simp only [aT];exact h
theorem aW.cz {x:ad} {b:Bool} (aw:bL x=true) (h:bb x= .bool b):aW P (.cz x,.bool b):=by
 refine⟨aw,rfl,?_⟩;show ∀e0 e1 w,(hi e0 e1 (.cz (bb x))).run P w=_;intro e0 e1 w;rw[h];rfl
theorem aW.Aj {t ty:bq} {x r:ad} {l:gx} (aw:bL x=true) (ar:bL r=true) (bw:P.underlying t=some .string) (ex:bb x=da l) (dc:bb r= .int .i64 l.length):aW P (.len #[t] ty x,r):=by
 refine B6 aw ar rfl λe0 e1 w _=> ?_
 show (hi e0 e1 (.len #[t] ty (bb x))).run P w=_;rw[ex,dc];unfold hi da;simp only [Sem.run_bind,run_len_string w t ty _ bw,Result.andThen_ok,Oa];rfl
theorem aW.B7 {t:bq} {x i r:ad} {l:gx} {j:Nat} {k:IntKind} (aq:j<l.length) (aw:bL x=true) (ak:bL i=true) (ar:bL r=true) (bw:P.underlying t=some .string) (ex:bb x=da l) (o2:bb i= .int k j)
  (dc:bb r= .int .u8 ((l.getD j 0).toNat:Nat)):aW P (.h6 t x i,r):=by
 refine B6 (by simp [qA,aw,ak]) ar rfl λe0 e1 w _=> ?_
 show (hi e0 e1 (.h6 t (bb x) (bb i))).run P w=_;rw[ex,o2,dc];unfold hi da;have ae:(0:Int)<=(j:Int)/\(j:Int)<((⟨l.toArray⟩:ByteArray).size:Nat):=⟨aj,by rw[Oa];omega⟩;simp only [Sem.run_bind,run_index_string w t _ k _ bw,dif_pos ae,Result.andThen_ok,Int.toNat_natCast];have:((⟨l.toArray⟩:ByteArray)[j]'(by rw[Oa];exact aq))=l.getD j 0:=by
  rw[eP,ig aq];rfl
 rw[this];rfl
omit [bp] in
theorem U0 (t:bq) (op:BinOp) (eb:op= .eql\/op= .neq) (l m:gx) (e0 e1:Operand) (w:aG):(hi e0 e1 (.bin op t (da l) (da m))).run P w= .ok (.value (.bool (if op= .eql then decide (l=m) else !decide (l=m)))) w:=by
 unfold hi da;rcases eb with rfl|rfl
 ·simp [eqGuard,binOp,Op.stringOp]
  rw[Bool.eq_iff_iff];simp
 ·simp [eqGuard,binOp,Op.stringOp]
  rw[Bool.eq_iff_iff];simp
theorem aW.B8 {t:bq} {x y:ad} {l m:gx} (aw:bL x=true) (hy:bL y=true) (ex:bb x=da l) (iV:bb y=da m) (h:l=m):aW P (.bin .neq t x y,.bool false):=
 wP aw hy rfl ex iV λe0 e1 w=>by rw[U0 t .neq (.inr rfl) l m,aV (by simp),gO h];rfl
theorem aW.o6 {t:bq} {x y:ad} {l m:gx} (aw:bL x=true) (hy:bL y=true) (ex:bb x=da l) (iV:bb y=da m) (h:¬l=m):aW P (.bin .neq t x y,.bool true):=
 wP aw hy rfl ex iV λe0 e1 w=>by rw[U0 t .neq (.inr rfl) l m,aV (by simp),dT h];rfl
theorem aW.Gb {s d:bq} {x r:ad} {k k':IntKind} {n:Int} (aw:bL x=true) (ar:bL r=true) (ay:(P.underlying s).isSome=true) (bu:P.underlying d=some (.int (P.intKind d))) (ao:P.intKind d=k') (hw:k'.wrap n=n) (ex:bb x= .int k n) (dc:bb r= .int k' n):aW P (.conv s d x,r):=by
 refine B6 aw ar rfl λe0 e1 w _=> ?_
 show (hi e0 e1 (.conv s d (bb x))).run P w=_;rw[ex,dc];unfold hi;simp only [Sem.run_bind,run_convert_int w s d k n ay bu,Result.andThen_ok,ao,hw];rfl
omit [bp] in
theorem ac9 {t:bq} (bw:P.underlying t=some .bool) (op:BinOp) (eb:op= .eql\/op= .neq) (l m:Bool) (e0 e1:Operand) (w:aG):(hi e0 e1 (.bin op t (.bool l) (.bool m))).run P w= .ok (.value (.bool (if op= .eql then l==m else !(l==m)))) w:=by
 unfold hi;rcases eb with rfl|rfl
 ·simp [eqGuard,binOp,Op.equal,Op.maxDepth,run_equalIn_bool w 9999 t _ _ bw]
 ·simp [eqGuard,binOp,Op.equal,Op.maxDepth,run_equalIn_bool w 9999 t _ _ bw]
theorem aW.J3 {t:bq} {x y:ad} {l m r:Bool} (bw:P.underlying t=some .bool) (aw:bL x=true) (hy:bL y=true) (ex:bb x= .bool l) (iV:bb y= .bool m) (h:r=(l==m)):aW P (.bin .eql t x y,.bool r):=
 wP aw hy rfl ex iV λe0 e1 w=>by rw[ac9 bw .eql (.inl rfl) l m,aP rfl,h];rfl
theorem aW.U1 {x:ad} {l r:Bool} (aw:bL x=true) (ex:bb x= .bool l) (h:r= !l):aW P (.un .not x,.bool r):=by
 refine⟨aw,rfl,?_⟩;show ∀e0 e1 w,(hi e0 e1 (.un .not (bb x))).run P w=_;intro e0 e1 w;rw[ex,h];rfl
theorem aW.kO {t e:bq} {x i r:ad} {g o n sz:Nat} {j:Nat} {k:IntKind} (aw:bL x=true) (ak:bL i=true) (ar:bL r=true) (bw:P.underlying t=some (.array n e)) (dV:bZ P (sizeOf e)=some sz)
  (ex:bb x= .pointer (some ⟨g,o,none⟩)) (o2:bb i= .int k j) (aq:j<n) (dc:bb r= .pointer (some ⟨g,o+j*sz,none⟩)):aW P (.cV t x i,r):=by
 refine UZ (by simp [qA,aw,ak]) ar rfl λe0 e1 w=> ?_
 show (hi e0 e1 (.cV t (bb x) (bb i))).run P w=_;rw[ex,o2];unfold hi;have:(Instr.indexAt t (.pointer (some ⟨g,o,none⟩)) (.int k j)).run P w= .ok (.pointer (some ⟨g,o+j*sz,none⟩)) w:=by
  have bd:(Instr.sureAddr (.pointer (some ⟨g,o,none⟩))).run P w= .ok (⟨g,o,none⟩:Addr) w:=rfl;simp [Instr.indexAt,run_underlying bw,asIntOf,aq,bd,kM dV w,Addr.ly]
 simp only [Sem.run_bind,this,Result.andThen_ok,dc];rfl
theorem aW.nI {t e:bq} {x i r v:ad} {n m j o o':Nat} {BZ:IntKind} (aw:bL x=true) (ak:bL i=true) (ar:bL r=true) (bw:P.underlying t=some (.array n e)) (dV:bZ P (sizeOf e)=some m)
  (aR:∃b off n c,v= .slice (some ⟨b,off,none⟩) n c) (aq:j<n) (bW:o'=o+j*m) (ex:bb x=fM v o) (o2:bb i= .int BZ j) (dc:bb r=fM v o'):aW P (.cV t x i,r):=by
 obtain⟨b,off,mr,c,rfl⟩:=aR;exact aW.kO (g:=b) (o:=off+o) aw ak ar bw dV ex o2 aq (by rw[dc,bW];simp [fM,cellAt,Nat.add_assoc])
theorem aW.ac' {t e:bq} {x r:ad} {g o n sz:Nat} (aw:bL x=true) (ar:bL r=true) (bw:P.underlying t=some (.array n e)) (dV:bZ P (sizeOf e)=some sz)
  (ex:bb x= .pointer (some ⟨g,o,none⟩)) (aT:0<n) (dc:bb r= .slice (some ⟨g,o,none⟩) n n):aW P (.p4 t x none none none,r):=by
 refine B6 (by simp [qA,plainO,aw]) ar rfl λe0 e1 w _=> ?_
 show (hi e0 e1 (.p4 t (bb x) none none none)).run P w=_;rw[ex];unfold hi;have:(Instr.sliceAt t (.pointer (some ⟨g,o,none⟩)) none none none).run P w= .ok (.slice (some ⟨g,o,none⟩) n n) w:=by
  have bd:(Instr.sureAddr (.pointer (some ⟨g,o,none⟩))).run P w= .ok (⟨g,o,none⟩:Addr) w:=rfl;unfold Instr.sliceAt;simp only [Sem.run_bind,run_underlying bw,Result.andThen_ok,bd];have dU:n≠0:=by omega
  simp [Instr.sliceBounds,kM dV w,dU];rfl
 simp only [Sem.run_bind,this,Result.andThen_ok,dc];rfl
section
omit [bp]
def Gc (P:bB) (f:bq->ad->ad->Option Bool) (xs ys:Array ad):List Field->Option Bool
 |[]=>some true
 |kV::r=>bif kV.name== "_" then Gc P f xs ys r else
  match bZ P (part kV.type xs kV.offset),bZ P (part kV.type ys kV.offset) with
  |some a,some b=>match f kV.type a b,Gc P f xs ys r with
   |some p,some q=>some (p&&q)
   |_,_=>none
  |_,_=>none
def J4 (P:bB) (f:bq->ad->ad->Option Bool) (e:bq) (c:Nat) (xs ys:Array ad):List Nat->Option Bool
 |[]=>some true
 |i::r=>match bZ P (part e xs (i*c)),bZ P (part e ys (i*c)) with
  |some a,some b=>match f e a b,J4 P f e c xs ys r with
   |some p,some q=>some (p&&q)
   |_,_=>none
  |_,_=>none
def uA (P:bB):Nat->bq->ad->ad->Option Bool
 |0,_,_,_=>none
 |d+1,t,x,y=>match P.underlying t with
  |some .bool=>match x,y with
   | .bool a,.bool b=>some (a==b)
   |_,_=>none
  |some (.int _)=>match x,y with
   | .int k a,.int k' b=>bif decide (k=k') then some (a==b) else none
   |_,_=>none
  |some .string=>match x,y with
   | .string a,.string b=>some (a.data.toList==b.data.toList)
   |_,_=>none
  |some (.struct _)=>match x,y with
   | .agg xs,.agg ys=>bif P.stoodInHeld t then none else Gc P (uA P d) xs ys (P.fieldsOf t).toList
   |_,_=>none
  |some (.array n e)=>match x,y with
   | .agg xs,.agg ys=>match P.info? e with
     |some _=>J4 P (uA P d) e (P.cellsOf e) xs ys (List.range n)
     |none=>none
   |_,_=>none
  |_=>none
theorem Ob {d:Nat} (eJ:∀t x y b,uA P d t x y=some b->∀w,(Op.equalIn d t x y).run P w= .ok b w) {xs ys:Array ad}:∀(l:List Field) (b:Bool),Gc P (uA P d) xs ys l=some b->∀w,(Op.eqFields d xs ys l).run P w= .ok b w
 |[],b,h,w=>by cases h;rfl
 |kV::r,b,h,w=>by
  unfold Gc at h;unfold Op.eqFields;by_cases aT:kV.name= "_"
  ·rw[show (kV.name== "_")=true by simpa using aT,cN] at h
   rw[aV (λae=>ae aT)];exact Ob eJ r b h w
  ·rw[show (kV.name== "_")=false by simpa using aT,fI] at h
   rw[aP aT];split at h
   ·rename_i a c cG aA
    split at h
    ·rename_i p q hp cy
     cases h;simp only [Sem.run_bind,kM cG,kM aA,eJ _ _ _ _ hp,Result.andThen_ok];cases p with
     |true=>simpa using Ob eJ r q cy w
     |false=>rfl
    ·cases h
   ·cases h
theorem U2 {d:Nat} (eJ:∀t x y b,uA P d t x y=some b->∀w,(Op.equalIn d t x y).run P w= .ok b w) {e:bq} {c:Nat} {xs ys:Array ad}:∀(l:List Nat) (b:Bool),J4 P (uA P d) e c xs ys l=some b->∀w,(Op.eqItems d e c xs ys l).run P w= .ok b w
 |[],b,h,w=>by cases h;rfl
 |i::r,b,h,w=>by
  unfold J4 at h;unfold Op.eqItems;split at h
  ·rename_i a c cG aA
   split at h
   ·rename_i p q hp cy
    cases h;simp only [Sem.run_bind,kM cG,kM aA,eJ _ _ _ _ hp,Result.andThen_ok];cases p with
    |true=>simpa using U2 eJ r q cy w
    |false=>rfl
   ·cases h
  ·cases h
theorem J5:∀(d:Nat) (t:bq) (x y:ad) (b:Bool),uA P d t x y=some b->∀w,(Op.equalIn d t x y).run P w= .ok b w
 |0,_,_,_,_,h,_=>by cases h
 |d+1,t,x,y,b,h,w=>by
  unfold uA at h;split at h
  ·rename_i hu
   split at h
   ·cases h;exact run_equalIn_bool' w d t _ _ hu
   ·cases h
  ·rename_i fe hu
   split at h
   ·rename_i k a k' b'
    by_cases ao:k=k'
    ·subst ao
     simp only [decide_true,cN,dL] at h;subst h;exact run_equalIn_int w d t k fe a b' hu
    ·rw[dT ao,fI] at h
     cases h
   ·cases h
  ·rename_i hu
   split at h
   ·rename_i a c
    cases h;rw[run_equalIn_string w d t _ _ hu,ByteArray.toList_eq,ByteArray.toList_eq]
   ·cases h
  ·rename_i fs hu
   split at h
   ·rename_i xs ys
    cases ay:P.stoodInHeld t with
    |true=>rw[ay] at h;cases h
    |false=>
     rw[ay,fI] at h;have ac_:P.underlying t=some (.struct (P.fieldsOf t)):=by unfold Program.fieldsOf;rw[hu]
     rw[run_equalIn_struct w d t xs ys ac_ ay];exact Ob (λt x y b h=>J5 d t x y b h) _ b h w
   ·cases h
  ·rename_i n e hu
   split at h
   ·rename_i xs ys
    split at h
    ·rename_i i ak
     rw[run_equalIn_array (w:=w) d xs ys hu ak];exact U2 (λt x y b h=>J5 d t x y b h) _ b h w
    ·cases h
   ·cases h
  ·cases h
end
theorem aW.z' {t:bq} {x y:ad} {xs ys:Array ad} {b:Bool} (bg:P.eqGuardType P.depth t=false) (aw:bL x=true) (hy:bL y=true) (ex:bb x= .agg xs) (iV:bb y= .agg ys) (h:uA P 10000 t (.agg xs) (.agg ys)=some b):aW P (.bin .eql t x y,.bool b):=
 wP aw hy rfl ex iV λe0 e1 w=>by
  unfold hi;simp only [Sem.run_bind,run_eqGuard_agg w .eql t e0 e1 xs ys bg,Result.andThen_ok,run_eql_struct,J5 10000 t _ _ b h w];rfl
theorem aW.Oc {t:bq} {x y:ad} {xs ys:Array ad} {b:Bool} (bg:P.eqGuardType P.depth t=false) (aw:bL x=true) (hy:bL y=true) (ex:bb x= .agg xs) (iV:bb y= .agg ys) (h:uA P 10000 t (.agg xs) (.agg ys)=some b):aW P (.bin .neq t x y,.bool (!b)):=
 wP aw hy rfl ex iV λe0 e1 w=>by
  unfold hi;simp only [Sem.run_bind,run_eqGuard_agg w .neq t e0 e1 xs ys bg,Result.andThen_ok,run_neq_struct,J5 10000 t _ _ b h w];rfl
end
end a1
end Go.Proofs.YtepcfjbfkedlpaaDoor
namespace Go.Proofs.YtepcfjbfkedlpaaDoor
open Go Go.Proofs Go.RowKit
namespace a1
theorem ada {p:Prop} [Decidable p] (h:p):Value.bool true= .bool (decide p):=by rw[gO h]
theorem adb {p:Prop} [Decidable p] (h:¬p):Value.bool false= .bool (decide p):=by rw[dT h]
theorem ade {p:Prop} [Decidable p] (h:¬p):Value.bool true= .bool (!decide p):=by rw[dT h];rfl
theorem adf {p:Prop} [Decidable p] (h:p):Value.bool false= .bool (!decide p):=by rw[gO h];rfl
theorem j1 {a b:Int} (h:a=b) (af: -9223372036854775808<=a) (ah:a<=9223372036854775807):Value.int .i64 a= .int .i64 (IntKind.i64.wrap b):=by rw[<-h,wrap64 af ah]
theorem Gd {a:Int} (h:0<=a):Value.int .i64 a= .int .i64 ((a.toNat:Nat):Int):=by rw[Int.toNat_of_nonneg h]
theorem adg {α:Type} [Inhabited α] {l:List α} {i:Nat} (h:i<l.length):l[i]? =some (l.getD i default):=by rw[eP,ig h];rfl
theorem jO:bZ Tryd.prog (sizeOf 3)=some 1:=ag
theorem kz:bZ Tryd.prog (isAgg 3)=some false:=ag
theorem vy:bZ Tryd.prog (isAgg 4)=some false:=ag
theorem U3:bZ Tryd.prog (isAgg 9)=some false:=ag
theorem adh:bZ Tryd.prog (sizeOf 9)=some 1:=ag
theorem sw:Tryd.prog.underlying 9=some .string:=ag
theorem J6:Tryd.prog.underlying 4=some .bool:=ag
abbrev lD:bq:=3
theorem iD:Tryd.prog.underlying 26=some (.slice lD):=ag
noncomputable def J7:TypeInfo:=(Tryd.prog.info? lD).getD default
theorem J8:Tryd.prog.info? lD=some J7:=ag
theorem J9:J7.zero=some (.int .i64 0):=ag
theorem J':J7.size=1:=ag
abbrev yX:Nat:=8
theorem J_:J7.bytes=yX:=ag
theorem Ka:(Value.int .i64 0).cells.size=1:=rfl
def gq (n:Int):List ad:=[.int .i64 n]
theorem j2:∀x,(gq x).length=1:=λ_=>rfl
theorem Kb:∀x,∀u∈gq x,u.oneCell'=true:=λx u hu=>by
 simp only [gq,List.mem_cons,List.not_mem_nil,or_false] at hu;subst hu;rfl
abbrev dx:=gx×Bool×Bool×Bool×Int×Int×Int×Int
instance ak2:DecidableEq (Bool×Bool×Bool×Int×Int×Int×Int):=λp q=>decidable_of_iff (p.1=q.1/\p.2.1=q.2.1/\p.2.2=q.2.2) ⟨λh=>Prod.ext h.1 (Prod.ext h.2.1 h.2.2),λh=>by subst h;exact⟨rfl,rfl,rfl⟩⟩
instance ak3:DecidableEq dx:=λp q=>decidable_of_iff (p.1=q.1/\p.2=q.2) ⟨λh=>Prod.ext h.1 h.2,λh=>by subst h;exact⟨rfl,rfl⟩⟩
def js (x:dx):List ad:=[da x.1,.bool x.2.1,.bool x.2.2.1,.bool x.2.2.2.1,.int .i64 x.2.2.2.2.1,.int .i64 x.2.2.2.2.2.1,.int .i64 x.2.2.2.2.2.2.1,.int .i64 x.2.2.2.2.2.2.2]
abbrev M.val (x:dx):ad:= .agg ⟨js x⟩
abbrev qc:bq:=70
theorem rS:bZ Tryd.prog (sizeOf qc)=some 8:=ag
theorem B9:bZ Tryd.prog (isAgg qc)=some true:=ag
theorem mQ:Tryd.prog.underlying 29=some (.slice qc):=ag
theorem adi:bZ Tryd.prog (underlying qc)=some (.struct (Tryd.prog.fieldsOf qc)):=ag
noncomputable def Kc:TypeInfo:=(Tryd.prog.info? qc).getD default
theorem adj:Tryd.prog.info? qc=some Kc:=ag
theorem adk:Kc.zero=some (.agg ⟨[da [],.bool false,.bool false,.bool false,.int .i64 0,.int .i64 0,.int .i64 0,.int .i64 0]⟩):=ag
theorem adl:Kc.size=8:=ag
abbrev Od:Nat:=56
theorem adn:Kc.bytes=Od:=ag
theorem ado:(Value.agg ⟨[da [],.bool false,.bool false,.bool false,.int .i64 0,.int .i64 0,.int .i64 0,.int .i64 0]⟩).cells.size=8:=rfl
theorem B':∀x,(js x).length=8:=λ_=>rfl
theorem adp:∀x,∀u∈js x,u.oneCell'=true:=λx u hu=>by
 simp only [js,List.mem_cons,List.not_mem_nil,or_false] at hu;rcases hu with rfl|rfl|rfl|rfl|rfl|rfl|rfl|rfl<;>rfl
section
variable [bp]
theorem nm {α:Type} {k:Nat} {enc:α->List ad} {v:ad} {l:List α} (h:dr bp.dz k enc v l) {n:Nat} (aT:n<l.length):∃b off n c,v= .slice (some ⟨b,off,none⟩) n c:=by
 obtain⟨b,off,c,_,_,_,aR,_⟩:=h.at' (ig aT);exact⟨b,off,_,c,aR⟩
theorem adq {P:bB} {α:Type} {k:Nat} {enc:α->List ad} {v:ad} {l:List α} {s:bq} {f m off ty:Nat} (ay:bZ P (underlying s)=some (.struct (P.fieldsOf s))) (bn:((P.fieldsOf s)[f]?).map (λf=>(f.type,f.offset))=some (ty,off)) (hm:bZ P (sizeOf ty)=some m) (bd:m≠0)
  (h:dr bp.dz k enc v l) {n:Nat} (aT:n<l.length) {x r:ad} {o:Nat} (aw:bL x=true) (ar:bL r=true) (ex:bb x=fM v o) (dc:bb r=fM v (o+off)):aW P (.bQ s x f,r):=by
 rw[yu] at bn;obtain⟨kV,af,ah⟩:=bn;cases ah;exact aW.acI aw ar ay af hm bd (nm h aT) rfl ex dc
variable {α:Type} {k:Nat} {enc:α->List ad} {v:ad} {l:List α} {n o:Nat} {x r:ad}
theorem U4 (h:dr bp.dz k enc v l) (aT:n<l.length) (aw:bL x=true) (ar:bL r=true) (ex:bb x=fM v o) (dc:bb r=fM v (o+0)):aW Tryd.prog (.bQ qc x 0,r):=adq (ty:=9) adi ag adh aL h aT aw ar ex dc
end
abbrev U5:=Int×Int×Int
def adr (x:U5):List ad:=[.int .i64 x.1,.int .i64 x.2.1,.int .i64 x.2.2]
abbrev E.val (x:U5):ad:= .agg ⟨adr x⟩
theorem ads (p q:dx):uA Tryd.prog 10000 qc (M.val p) (M.val q)=some (p.1==q.1&&(p.2.1==q.2.1&&(p.2.2.1==q.2.2.1&&(p.2.2.2.1==q.2.2.2.1&&(p.2.2.2.2.1==q.2.2.2.2.1&&((p.2.2.2.2.2.1==q.2.2.2.2.2.1&&(p.2.2.2.2.2.2.1==q.2.2.2.2.2.2.1&&(p.2.2.2.2.2.2.2==q.2.2.2.2.2.2.2&&true)))&&true)))))):=ag
theorem adt:Tryd.prog.eqGuardType Tryd.prog.depth qc=false:=ag
theorem adu (p q:dx):(p.1==q.1&&(p.2.1==q.2.1&&(p.2.2.1==q.2.2.1&&(p.2.2.2.1==q.2.2.2.1&&(p.2.2.2.2.1==q.2.2.2.2.1&&((p.2.2.2.2.2.1==q.2.2.2.2.2.1&&(p.2.2.2.2.2.2.1==q.2.2.2.2.2.2.1&&(p.2.2.2.2.2.2.2==q.2.2.2.2.2.2.2&&true)))&&true))))))=decide (p=q):=by
 obtain⟨a,b,c,d,e,f,g,h⟩:=p;obtain⟨bR,b',c',wu,e',nB,adv,gE⟩:=q;rw[Bool.eq_iff_iff];simp
section
variable [bp]
theorem U6 {x y:ad} {p q:dx} (aw:bL x=true) (hy:bL y=true) (ex:bb x=M.val p) (iV:bb y=M.val q) {d:Bool} (bu:d= !decide (p=q)):aW Tryd.prog (.bin .neq qc x y,.bool d):=by
 subst bu;exact aW.Oc adt aw hy ex iV ((ads p q).trans (by rw[adu]))
theorem yY {P:bB} {x:ad} {t:Bool} (aw:bL x=true) (ex:bb x= .bool t) (h:t=true):aW P (.cz x,.bool true):=aW.cz aw (by rw[ex,h])
theorem DZ {P:bB} {x:ad} {t:Bool} (aw:bL x=true) (ex:bb x= .bool t) (h:¬t=true):aW P (.cz x,.bool false):=aW.cz aw (by rw[ex,Bool.eq_false_iff.2 h])
theorem U7 {P:bB} {x:ad} {t:Bool} (aw:bL x=true) (ex:bb x= .bool t) (h:t=true):aW P (.un .not x,.bool false):=aW.U1 aw ex (by rw[h];rfl)
theorem U8 {P:bB} {x:ad} {t:Bool} (aw:bL x=true) (ex:bb x= .bool t) (h:¬t=true):aW P (.un .not x,.bool true):=aW.U1 aw ex (by rw[Bool.eq_false_iff.2 h];rfl)
variable {x y:ad} {s t:Bool}
theorem D0 (aw:bL x=true) (hy:bL y=true) (ex:bb x= .bool s) (iV:bb y= .bool t) (h:s=true) (gE:t=true):aW Tryd.prog (.bin .eql 4 x y,.bool true):=aW.J3 J6 aw hy ex iV (by rw[h,gE];rfl)
theorem Kd (aw:bL x=true) (hy:bL y=true) (ex:bb x= .bool s) (iV:bb y= .bool t) (h:s=true) (gE:¬t=true):aW Tryd.prog (.bin .eql 4 x y,.bool false):=aW.J3 J6 aw hy ex iV (by rw[h,Bool.eq_false_iff.2 gE];rfl)
theorem yZ (aw:bL x=true) (hy:bL y=true) (ex:bb x= .bool s) (iV:bb y= .bool t) (h:¬s=true) (gE:t=true):aW Tryd.prog (.bin .eql 4 x y,.bool false):=aW.J3 J6 aw hy ex iV (by rw[Bool.eq_false_iff.2 h,gE];rfl)
theorem wR (aw:bL x=true) (hy:bL y=true) (ex:bb x= .bool s) (iV:bb y= .bool t) (h:¬s=true) (gE:¬t=true):aW Tryd.prog (.bin .eql 4 x y,.bool true):=aW.J3 J6 aw hy ex iV (by rw[Bool.eq_false_iff.2 h,Bool.eq_false_iff.2 gE];rfl)
end
def Ke:List ad:=[da [103,97,115],.bool false,.bool false,.bool false,da [115,111,108,105,100],.bool true,.bool false,.bool false,da [102,97,108,108,105,110,103],.bool true,.bool false,.bool true,da [108,105,113,117,105,100],.bool false,.bool true,.bool false]
def oH (M:Mem):Prop:=∃ty fr,M 0=some (.cells ⟨Ke⟩ ty fr)
theorem oH.mono {M aS:Mem} (h:oH M) (hm:∀i o,M i=some o->aS i=some o):oH aS:=by
 obtain⟨ty,fr,h⟩:=h;exact⟨ty,fr,hm _ _ h⟩
section
variable [bp] {P:bB}
theorem adw (d_:oH bp.dz) {w:aG} (hw:n9 w) {o:Nat} {u:ad} (hu:Ke[o]? =some u):w.cell? ⟨0,o,none⟩=some u:=by
 obtain⟨ty,fr,h⟩:=d_;have:=hw _ _ h;unfold World.cell?;simp only [this];simpa using hu
theorem B_ (d_:oH bp.dz) {t:bq} {x r:ad} {o n:Nat} {l:List ad} (aw:bL x=true) (ar:bL r=true) (cG:bZ P (isAgg t)=some true) (aT:bZ P (sizeOf t)=some n) (ex:bb x= .pointer (some ⟨0,o,none⟩)) (dc:bb r= .agg ⟨l⟩) (az:(Ke.drop o).take n=l) (py:l.length=n):aW P (.bh t x,r):=
 aW.bh (b:=0) (o:=o) (l:=l) aw ar cG aT ex py (λw hw j u aq=>adw d_ hw (by
  rw[<-az,List.getElem?_take] at aq;split at aq
  ·rwa [List.getElem?_drop] at aq
  ·cases aq)) dc
theorem kP {f:FuncId} {args:List ad} {v:ad} {a:Array ad} {u:ad} (hp:fH args=true) (aR:bL v=true) (cG:fl args=a.toList) (hu:bb v=u)
  (h:∀w,n9 w->Calls P f a w λe w'=>e= .returned u/\cO w.heap.size w w'):j0 P (f,args,v):=
 ⟨hp,aR,λw hw=>by show Calls P f ⟨fl args⟩ w _;rw[cG,hu];exact h w hw⟩
end
end a1
end Go.Proofs.YtepcfjbfkedlpaaDoor
namespace Go.Proofs.YtepcfjbfkedlpaaDoor
open Go Go.ChangeShapes Go.WideShapes Go.ChangeAt Go.RowKit
section
theorem own:ownKnob Tryd.prog.godebug=none:=ag
theorem adx:laidOutB Tryd.prog=true:=ag
theorem U9 {H:Type} {enc:bq×ad->H} {P:bB} (az:laidOutB P=true) {W W':aG} (ai:Below W.heap.size W W'):∀(eo:List bq) (a8:List ad) (ds:List (DataW H)) (ps:List MemPlace),
  eo.all (λt=>P.readableRec t&&decide (t<P.types.size))=true->DataW.TrodAll enc P W 0 (λ_=>true) true eo a8 ds ps->(∀x∈ps,x.block<W.heap.size)->DataW.TrodAll enc P W' 0 (λb=>decide (b<W.heap.size)) true eo a8 ds ps
 |[],[],[],ps,_,h,_=>h
 |t::eo,v::a8,d::ds,ps,bw,h,c_=>by
  obtain⟨p,q,af,ah,rfl⟩:=h;simp only [List.all_cons,fy,decide_eq_true_eq] at bw;exact⟨p,q,Below.trod az bw.1.1 bw.1.2 af ai (λx aw=>c_ x (List.mem_append_left _ aw)),U9 az ai eo a8 ds q bw.2 ah λx aw=>c_ x (List.mem_append_right _ aw),rfl⟩
 |[],_::_,_,_,_,h,_=>by cases h
 |[],[],_::_,_,_,h,_=>by cases h
 |_::_,[],_,_,_,h,_=>by cases h
 |_::_,_::_,[],_,_,h,_=>by cases h
theorem U':Tryd.prog.cellsOf a1.qc=8:=ag
theorem Ak:Tryd.prog.cellsOf 3=1:=ag
theorem U_:Tryd.prog.cellsOf 9=1:=ag
theorem Al:Tryd.prog.cellsOf 4=1:=ag
theorem ady:Tryd.prog.cellsOf 68=3:=ag
abbrev Ge:bq:=141
theorem Va:Tryd.prog.cellsOf Ge=4:=ag
theorem adz:Tryd.prog.cellsOf 151=16:=ag
theorem Ca:Tryd.prog.underlying a1.qc=some (.struct (Tryd.prog.fieldsOf a1.qc)):=ag
theorem Gf:Tryd.prog.underlying Ge=some (.struct (Tryd.prog.fieldsOf Ge)):=ag
section
variable {H:Type} {enc:bq×ad->H} {W:aG} {r:Reach} {cj:Nat} {base:Nat} {mz:Nat->Bool} {mA:Bool} {v:ad} {d:DataW H} {p:List MemPlace}
theorem o7 {P:bB} {t ty off k i n:Nat} {cs:List ad} {x:DataW H×List MemPlace} (hu:P.underlying t=some (.struct (P.fieldsOf t))) (bn:((P.fieldsOf t)[i]?).map (λf=>(f.type,f.offset))=some (ty,off)) (ao:P.cellsOf ty=k)
  (h:DataW.trod enc P W base mz mA n t cs=some x):∃m y,DataW.trod enc P W base mz mA m ty ((cs.drop off).take k)=some y/\∀l,x.1= .agg l->l[i]? =some y.1:=by
 obtain⟨xs,m,_,ex,hlen,Cb,wA⟩:=DataW.trod_struct hu h;rw[yu] at bn;obtain⟨kV,af,ah⟩:=bn;cases ah;have dd:=wA i kV af;have c_:i<xs.length:=by rw[Cb];exact(Array.getElem?_eq_some_iff.1 af).1
 rw[ao,ig c_] at dd;refine⟨m,_,dd,λl az=> ?_⟩;rw[ex] at az;injection az with az;rw[<-az,List.getElem?_map,ig c_];rfl
theorem Vb (s:ByteArray):Value.string s=a1.da s.data.toList:=by cases s;rfl
theorem adA {n:Nat} {cs:List ad} {x:DataW H×List MemPlace} (h:DataW.trod enc Tryd.prog W base mz mA n Ge cs=some x):cs.length=4:=by
 obtain⟨_,_,_,_,hlen,_,_⟩:=DataW.trod_struct Gf h;rw[hlen,Va]
theorem Kf {n:Nat} {cs:List ad} {x:DataW H×List MemPlace} {s:List UInt8} {a b c:Bool} (h:DataW.trod enc Tryd.prog W base mz mA n Ge cs=some x) (aw:x.1= .agg [.lit (.string s),.lit (.bool a),.lit (.bool b),.lit (.bool c)]):
  cs=[a1.da s,.bool a,.bool b,.bool c]:=by
 have hlen:=adA h;obtain⟨_,vi,bd,cJ⟩:=o7 (i:=0) (ty:=9) (off:=0) Gf ag U_ h;obtain⟨_,yQ,af,g1⟩:=o7 (i:=1) (ty:=4) (off:=1) Gf ag Al h;obtain⟨_,F2,ah,g2⟩:=o7 (i:=2) (ty:=4) (off:=2) Gf ag Al h;obtain⟨_,Vc,aH,g3⟩:=o7 (i:=3) (ty:=4) (off:=3) Gf ag Al h;obtain⟨aZ,b4,rfl,_⟩:=DataW.trod_string Tryd.underlying9 bd;obtain⟨s1,bs,rfl⟩:=DataW.trod_bool Tryd.underlying4 af;obtain⟨s2,cw,rfl⟩:=DataW.trod_bool Tryd.underlying4 ah;obtain⟨tv,dD,rfl⟩:=DataW.trod_bool Tryd.underlying4 aH;have fe:=cJ _ aw;have gZ:=g1 _ aw;have jn:=g2 _ aw;have wS:=g3 _ aw;simp only [List.getElem?_cons_zero,List.getElem?_cons_succ,dL,DataW.lit.injEq,Lit.string.injEq,Lit.bool.injEq] at fe gZ jn wS;subst fe gZ jn wS
 match cs,hlen,b4,bs,cw,dD with
 |[eN,fP,ew,qX],_,b4,bs,cw,dD=>
  simp only [List.drop_zero,List.drop_succ_cons,List.take_succ_cons,List.take_zero,List.cons.injEq,and_true] at b4 bs cw dD;rw[b4,bs,cw,dD,Vb]
theorem adB {n:Nat} {cs:List ad} {x:DataW H×List MemPlace} (h:DataW.trod enc Tryd.prog W base mz mA n a1.qc cs=some x):∃s:a1.dx,cs=a1.js s:=by
 have hlen:cs.length=8:=by
  obtain⟨_,_,_,_,hlen,_,_⟩:=DataW.trod_struct Ca h;rw[hlen,U']
 obtain⟨_,vi,bd,_⟩:=o7 (i:=0) (ty:=9) (off:=0) Ca ag U_ h;obtain⟨_,yQ,af,_⟩:=o7 (i:=1) (ty:=4) (off:=1) Ca ag Al h;obtain⟨_,F2,ah,_⟩:=o7 (i:=2) (ty:=4) (off:=2) Ca ag Al h;obtain⟨_,Vc,aH,_⟩:=o7 (i:=3) (ty:=4) (off:=3) Ca ag Al h;obtain⟨_,ak4,ck,_⟩:=o7 (i:=4) (ty:=3) (off:=4) Ca ag Ak h;obtain⟨_,ak5,dd,_⟩:=o7 (i:=5) (ty:=68) (off:=5) Ca ag ady h;obtain⟨aZ,b4,_⟩:=DataW.trod_string Tryd.underlying9 bd;obtain⟨s1,bs,_⟩:=DataW.trod_bool Tryd.underlying4 af;obtain⟨s2,cw,_⟩:=DataW.trod_bool Tryd.underlying4 ah;obtain⟨tv,dD,_⟩:=DataW.trod_bool Tryd.underlying4 aH;obtain⟨Oe,hq,_⟩:=DataW.trod_int Tryd.underlying3 ck;obtain⟨xs,m,_,_,BJ,Cb,bn⟩:=DataW.trod_array Tryd.underlying68 dd;have ak:∀i,i<3->∃z:Int,(((cs.drop 5).take 3).drop i).take 1=[.int .i64 z]:=λi aH=>by
  have dM:=bn i aH;rw[Ak,Nat.mul_one,ig (show i<xs.length by omega)] at dM;obtain⟨z,e,_⟩:=DataW.trod_int Tryd.underlying3 dM;exact⟨z,e⟩
 obtain⟨z0,f0⟩:=ak 0 aj;obtain⟨y0,f1⟩:=ak 1 aj;obtain⟨z2,f2⟩:=ak 2 aj
 match cs,hlen,b4,bs,cw,dD,hq,f0,f1,f2 with
 |[eN,fP,ew,qX,Bk,F5,JQ,JR],_,b4,bs,cw,dD,hq,f0,f1,f2=>
  simp only [List.drop_zero,List.drop_succ_cons,List.take_succ_cons,List.take_zero,List.cons.injEq,and_true] at b4 bs cw dD hq f0 f1 f2;exact⟨(aZ.data.toList,s1,s2,tv,Oe,z0,y0,z2),by rw[b4,bs,cw,dD,hq,f0,f1,f2,Vb];rfl⟩
theorem adC (aR:Value.okWide Tryd.prog W r cj 3 v) (h:DataW.Trod enc Tryd.prog W base mz mA 3 v d p):∃n:Int,v= .int .i64 n:=by
 obtain⟨n,rfl⟩:=okWide_int Tryd.underlying3 aR;exact⟨n,rfl⟩
theorem adD (aR:Value.okWide Tryd.prog W r cj 29 v) (h:DataW.Trod enc Tryd.prog W base mz mA 29 v d p):∃l:List a1.dx,a1.dr (a1.a7 W) 8 a1.js v l:=by
 obtain⟨a0,Cc,Cd,rfl⟩:=okWide_slice Tryd.underlying29 aR;obtain⟨bN,h⟩:=h;rcases Deep.open_slice Tryd.underlying29 h with ⟨hJ,_⟩|⟨a,len,cap,m,n,adE,adF,hJ,ai,az,hm,wh,aw,ak⟩
 ·have e:Value.slice a0 Cc Cd= .slice none 0 0:=(List.cons.inj (show [Value.slice a0 Cc Cd]=[.slice none 0 0] from hJ)).1
  rw[e];exact⟨[],.nil _ _⟩
 ·have e:Value.slice a0 Cc Cd= .slice (some a) len cap:=(List.cons.inj (show [Value.slice a0 Cc Cd]=[.slice (some a) len cap] from hJ)).1
  rw[e];have tn:len<=m:=by rw[wh];split<;>omega
  have Ce:∀i,i<len->∃s:a1.dx,∀j u,(a1.js s)[j]? =some u->W.cell? (a.add (i*8+j))=some u:=λi q'=>by
   obtain⟨cs',aA,bw⟩:=ak i aj;rw[U'] at aA;obtain⟨s,rfl⟩:=adB bw;obtain⟨_,_,Cf⟩:=World.cells?_some aA;refine⟨s,λj u aq=> ?_⟩;have Og:j<8:=(List.getElem?_eq_some_iff.1 aq).1;rw[<-Deep.add_add,Cf j Og];exact aq
  let f:Nat->a1.dx:=λi=>if h:i<len then (Ce i h).choose else default
  have bn:∀i,i<len->∀j u,(a1.js (f i))[j]? =some u->W.cell? (a.add (i*8+j))=some u:=λi q'=>by
   show ∀j u,(a1.js (if h:i<len then (Ce i h).choose else default))[j]? =some u->_;rw[dif_pos q'];exact(Ce i q').choose_spec
  refine⟨(List.range len).map f,?_⟩;rcases Nat.eq_zero_or_pos len with bd|bd
  ·subst bd
   exact .nil _ _
  ·have oI:=bn 0 bd 0 _ rfl
   obtain⟨bJ,off,spot⟩:=a;have Oh:∃cs ty fr,W.heap[bJ]? =some (.cells cs ty fr)/\spot=none:=by
    unfold World.cell? at oI;split at oI
    ·rename_i fP t1 f1 nf
     split at oI
     ·cases oI
     ·rename_i kQ
      refine⟨fP,t1,f1,nf,?_⟩;cases spot with
      |none=>rfl
      |some x=>exact absurd rfl kQ
    ·cases oI
   obtain⟨cs,ty,fr,kL,rfl⟩:=Oh;have hlen:((List.range len).map f).length=len:=by simp
   have key:a1.dr (a1.a7 W) 8 a1.js (.slice (some ⟨bJ,off,none⟩) ((List.range len).map f).length cap) ((List.range len).map f):=by
    refine .mk (cs:=cs) (ty:=ty) (fr:=fr) kL (by rw[hlen];exact az) λi x aw j u aq=> ?_
    have q':i<len:=by
     have:=(List.getElem?_eq_some_iff.1 aw).1
     rwa [hlen] at this
    have Oi:x=f i:=by
     rw[List.getElem?_map,List.getElem?_range q'] at aw;exact(Option.some.inj aw).symm
    subst Oi;have:=bn i q' j u aq;rw[a1.Addr.ly,cell_of_row W _ _ _ _ _ kL,<-Nat.add_assoc] at this;exact this
   rw[hlen] at key;exact key
end
theorem adG {W:aG} {l:List (String×DataW Unit)} (h:laidMetH Tryd.prog l W) (az:(l.filter λx=>x.1== "voxel/material.kinds")=[("voxel/material.kinds",Rows.laid_voxel_material_kinds)]):a1.oH (a1.a7 W):=by
 have af:=laidMetH.filter (λx=>x.1== "voxel/material.kinds") h;rw[az,MakeChecks.laidMetH_plain _ _ _ ag] at af;obtain⟨ps,⟨g,t,cs,bN,p,q,bg,bw,aR,bu,_,_⟩,_,_⟩:=af;obtain rfl:=Option.some.inj ((show Tryd.prog.globalNamed "voxel/material.kinds"=some 0 by kernel_rfl).symm.trans bg);obtain rfl:=Option.some.inj ((show (Tryd.prog.globals[0]?).map (·.type)=some 151 by kernel_rfl).symm.trans bw);obtain⟨xs,m,_,ex,hlen,Cb,bn⟩:=DataW.trod_array Tryd.underlying151 bu;rw[adz] at hlen
 match xs,Cb with
 |[gI,fp,hP,ib],_=>
  have dD:=DataW.agg.inj (Prod.mk.inj ex).1;simp only [List.map_cons,List.map_nil,List.cons.injEq,and_true] at dD;obtain⟨cJ,g1,g2,g3⟩:=dD;have fe:=bn 0 aj;have gZ:=bn 1 aj;have jn:=bn 2 aj;have wS:=bn 3 aj;rw[Va] at fe gZ jn wS;have b4:=Kf fe cJ.symm;have bs:=Kf gZ g1.symm;have cw:=Kf jn g2.symm;have dD:=Kf wS g3.symm;have hJ:cs.toList=a1.Ke:=by
   match cs.toList,hlen,b4,bs,cw,dD with
   |[a0,eL,eY,a3,a4,SS,SU,SV,ak6,a9,aa,ab,ac,h8,ak7,ak8],_,b4,bs,cw,dD=>
    simp only [Nat.zero_mul,Nat.one_mul,Nat.reduceMul,List.drop_zero,List.drop_succ_cons,List.take_succ_cons,List.take_zero,List.cons.injEq,and_true] at b4 bs cw dD;obtain⟨rfl,rfl,rfl,rfl⟩:=b4;obtain⟨rfl,rfl,rfl,rfl⟩:=bs;obtain⟨rfl,rfl,rfl,rfl⟩:=cw;obtain⟨rfl,rfl,rfl,rfl⟩:=dD;rfl
  unfold World.var? at aR;rw[bg] at aR;simp only [Option.bind_some] at aR;split at aR
  ·rename_i cs' ty fr ai
   cases aR;refine⟨ty,fr,?_⟩;show W.heap[0]? =_;rw[ai,<-hJ]
  ·cases aR
end
end Go.Proofs.YtepcfjbfkedlpaaDoor
namespace Go.Proofs.YtepcfjbfkedlpaaDoor
open Go Go.Proofs Go.RowKit
namespace a1
def bA (l:List dx) (cell:Int):dx:=if 0<=cell/\cell<l.length then l.getD cell.toNat default else ([],false,false,false,16,0,0,0)
theorem Vd {l:List dx} {cell:Int} (bd:0<=cell) (af:cell<l.length):bA l cell=l.getD cell.toNat default:=by unfold bA;rw[aP ⟨bd,af⟩]
theorem Kg {l:List dx} {cell:Int} (h:¬(0<=cell/\cell<l.length)):bA l cell=([],false,false,false,16,0,0,0):=by unfold bA;rw[aV h]
def o8 (l:List dx):Prop:=l.length<=300/\∀x∈l,x.1.length<=60
instance (l:List dx):Decidable (o8 l):=by unfold o8;infer_instance
theorem adH {l:List dx} {i:Nat} (h:i<l.length):l.getD i default∈l:=by
 rw[eP,ig h];exact List.getElem_mem h
theorem adI {l:List dx} {x:dx} (h:x∈l):∃i,i<l.length/\l.getD i default=x:=by
 obtain⟨i,ak,rfl⟩:=List.mem_iff_getElem.1 h;exact⟨i,ak,by rw[eP,ig ak];rfl⟩
theorem Oj {l:List dx} (h:300<l.length):¬o8 l:=λbn=>by have:=bn.1;omega
theorem Ok {l:List dx} {i:Nat} (ak:i<l.length) (h:60<(l.getD i default).1.length):¬o8 l:=λbn=>by have:=bn.2 _ (adH ak);omega
theorem Ol {l:List dx} (h:l.length<=300) (ah:∀j,j<l.length->(l.getD j default).1.length<=60):o8 l:=⟨h,λx aw=>by
 obtain⟨i,ak,rfl⟩:=adI aw
 exact ah i ak⟩
end a1
end Go.Proofs.YtepcfjbfkedlpaaDoor
namespace Go.Proofs.YtepcfjbfkedlpaaDoor
open Go Go.RowKit
namespace a1
def tB:Nat->List gx->List MapEntry
 |_,[]=>[]
 |i,n::r=>{key:=da n,val:= .bool true,born:=i}::tB (i+1) r
theorem Ve:∀(i:Nat) (l:List gx) (n:gx),tB i (l++[n])=tB i l++[{key:=da n,val:= .bool true,born:=i+l.length}]
 |i,[],n=>by simp [tB]
 |i,x::r,n=>by
  simp only [List.cons_append,tB,Ve (i+1) r n,List.length_cons];rw[show i+1+r.length=i+(r.length+1) by omega]
def vz (B:Nat) (M:Mem) (v:ad) (ns:List gx):Prop:=∃b,v= .map (some b)/\B<=b/\M b=some (.map ⟨tB 0 ns⟩ ns.length)
def Om:ad->Option Nat
 | .map b=>b
 |_=>none
theorem vz.known {B:Nat} {M:Mem} {v:ad} {ns:List gx} (h:vz B M v ns):∀i,some i=Om v->M i≠none/\B<=i:=by
 obtain⟨b,rfl,af,ah⟩:=h;intro i ak;cases ak;exact⟨by rw[ah];simp,af⟩
theorem Vf (a b:gx):Instr.sameNow .string (da a) (da b)=some (decide (a=b)):=by
 show some ((⟨a.toArray⟩:ByteArray)==⟨b.toArray⟩)=_;congr 1;rw[Bool.eq_iff_iff];show (a.toArray==b.toArray)=true↔_;simp
theorem Vg {n:gx}:∀{ns:List gx} (i j:Nat),n∈ns->∃q,Instr.findNow .string (da n) (tB i ns) j=some (some (q,.bool true))
 |[],_,_,h=>by cases h
 |x::r,i,j,h=>by
  unfold tB Instr.findNow;simp only [Vf];by_cases aw:n=x
  ·rw[gO aw]
   exact⟨j,rfl⟩
  ·rw[dT aw]
   exact Vg (i+1) (j+1) ((List.mem_cons.1 h).resolve_left aw)
theorem Vh {n:gx}:∀{ns:List gx} (i j:Nat),n∉ns->Instr.findNow .string (da n) (tB i ns) j=some none
 |[],_,_,_=>rfl
 |x::r,i,j,h=>by
  unfold tB Instr.findNow;simp only [Vf];rw[dT (λe=>h (by rw[e];exact List.mem_cons_self))];exact Vh (i+1) (j+1) λgE=>h (List.mem_cons_of_mem _ gE)
section
variable {P:bB} {ik:bq} {n:gx} {ns:List gx}
theorem adJ (ao:bZ P (underlying ik)=some .string) (h:n∈ns) (w:aG):∃q,(Instr.findKey ik (da n) (tB 0 ns)).run P w= .ok (some (q,.bool true)) w:=by
 obtain⟨q,cy⟩:=Vg (ns:=ns) 0 0 h;refine⟨q,?_⟩;unfold Instr.findKey;refine ei ao ?_;rw[cy];rfl
theorem Vi (ao:bZ P (underlying ik)=some .string) (h:n∉ns) (w:aG):(Instr.findKey ik (da n) (tB 0 ns)).run P w= .ok none w:=by
 have cy:=Vh (ns:=ns) 0 0 h;unfold Instr.findKey;refine ei ao ?_;rw[cy];rfl
variable [bp]
theorem aW.adK {t D1:bq} {x i:ad} {u:ad} {B:Nat} (aw:bL x=true) (ak:bL i=true) (bw:bZ P (underlying t)=some (.map ik D1)) (ao:bZ P (underlying ik)=some .string) (oC:∀b n,bZ P (Instr.checkKey b 10000 ik (da n))=some ()) (dR:vz B bp.dz u ns)
  (ex:bb x=u) (o2:bb i=da n) (h:n∈ns):aW P (.q0 t x i false,.bool true):=by
 obtain⟨b,rfl,_,ai⟩:=dR;refine B6 (by simp [qA,aw,ak]) J J λe0 e1 w hw=> ?_
 show (hi e0 e1 (.q0 t (bb x) (bb i) false)).run P w=_;obtain⟨q,cy⟩:=adJ (P:=P) ao h w;have:=Jb (P:=P) (w:=w) (z:=undef) (ok:=false) (.inr ⟨b,ns.length,rfl,hw _ _ ai⟩) bw (oC _ n) cy (λh=>by cases h);rw[ex,o2];unfold hi;simp only [Sem.run_bind,this,Result.andThen_ok];rfl
theorem aW.adL {t D1:bq} {x i:ad} {u:ad} {B:Nat} (aw:bL x=true) (ak:bL i=true) (bw:bZ P (underlying t)=some (.map ik D1)) (ao:bZ P (underlying ik)=some .string) (de:bZ P (zeroValue D1)=some (.bool false)) (oC:∀b n,bZ P (Instr.checkKey b 10000 ik (da n))=some ()) (dR:vz B bp.dz u ns)
  (ex:bb x=u) (o2:bb i=da n) (h:n∉ns):aW P (.q0 t x i false,.bool false):=by
 obtain⟨b,rfl,_,ai⟩:=dR;refine B6 (by simp [qA,aw,ak]) J J λe0 e1 w hw=> ?_
 show (hi e0 e1 (.q0 t (bb x) (bb i) false)).run P w=_;have:=Jb (P:=P) (w:=w) (z:= .bool false) (ok:=false) (.inr ⟨b,ns.length,rfl,hw _ _ ai⟩) bw (oC _ n) (Vi (P:=P) ao h w) (λ_=>de);rw[ex,o2];unfold hi;simp only [Sem.run_bind,this,Result.andThen_ok];rfl
end
def On:Option dk->Option bq
 |some (.oper o _ ops s _)=>match o.op with
  | .makeMap t none=>match uh ops o s.sl with
    |some true=>some t
    |_=>none
  |_=>none
 |_=>none
theorem adM [dJ] {P:bB} {N B:Nat} {w0:aG} {Q:Exit->Act->aG->Prop} {M:Mem} {bM:List ad} {o:Option dk} {t:bq} {hk:ad} {bC:Nat->List ad} {gp e6:ax} {c7:List bG} {dQ:gh} {ns:List gx}
  (iM:ns=[]) (h:On o=some t) (fg:bF (b0 o) gp c7=some dQ) (iQ:e8 N gp (qa o) hk=some e6) (gH:bL hk=true)
  (hm:∀aS g,hD (bc M bM) (bc aS (bC g)) dQ) (aR:∀aS g,@bb (bc aS (bC g)) hk= .map (some g))
  (rest:∀aS g,vz B aS (.map (some g)) ns->jM M aS none->∀bR w,@Here (bc aS (bC g)) _ N {sl:=e6,ms:=[],A:=cS c7} B w0 bR w->wpListIn (Fr none) 0 P (nG o) (fF P (gi o) Q) (oc o) bR w)
  (aT:dJ.jD<=c7.length:=by first|exact Nat.zero_le _|exact h3 rfl) (aA:jr (b0 o).A c7 0:=by exact jF rfl): @ia (bc M bM) _ P N B w0 Q o:=by
 subst iM;letI:=bc M bM;unfold On at h;split at h
 ·rename_i op r ops s ks
  refine⟨_,rfl,λa w ae=> ?_⟩;split at h
  ·rename_i fk eb
   split at h
   ·rename_i nk
    cases h;have jN:=ae;obtain⟨⟨φ,ds,af,ah,aH,ck,_⟩,dd,dM⟩:=ae;unfold wpListIn;rw[sg ah.get nk,aP rfl];have hw:∀i o,M i=some o->w.heap[i]? =some o:=jN.qC
    let w':aG:={w with heap:=w.heap.push (.map #[] 0)}
    have ho:(execOp a.eval op).run P w= .ok (.value (.map (some w.heap.size))) w':=by
     unfold execOp;rw[eb];rfl
    have hb:∀c',op.op≠.defer c':=λc' h=>by rw[eb] at h;cases h
    refine⟨λ_ _=>trivial,?_⟩;rw[Oper.semAt_eq _ _ _ hb,ho,Oper.uponIn_value];obtain⟨q1,aI⟩:=uz (B:=B) (M:=M) (w:=w) (w':=w') (T:=none) (fQ:=some w.heap.size) hw (λi h=>by cases h) (λi ak=> .inr (by cases ak;exact c4 _)) ⟨rfl,rfl,rfl⟩ (c4 _) (by simp [w']) (λi ak _=>by
     show (w.heap.push _)[i]? =_
     rw[Array.getElem?_push,aV aj])
    have dR:vz B (j7 M w' none (some w.heap.size)) (.map (some w.heap.size)) []:=by
     refine⟨_,rfl,dM,?_⟩;unfold j7;rw[aP rfl];show (w.heap.push _)[w.heap.size]? =_;rw[Array.getElem?_push,aP rfl];rfl
    have kc:=Here.turns (vals':=bC w.heap.size) fg (hm _ _) q1 aT aA jN;letI:=bc (j7 M w' none (some w.heap.size)) (bC w.heap.size);have pG:=Here.put (d:=op.dst) kc (v:=hk) gH iQ;rw[aR] at pG;exact rest _ _ dR aI _ w' pG
   ·cases h
  ·cases h
 ·cases h
def Oo:Option dk->Option (bq×ad×ad×ad)
 |some (.oper o _ ops s _)=>match o.op with
  | .mapUpdate t m k x=>match uh ops o s.sl with
    |some true=>some (t,eQ .nil s.sl m,eQ .nil s.sl k,eQ .nil s.sl x)
    |_=>none
  |_=>none
 |_=>none
theorem adN [dJ] {P:bB} {N B:Nat} {w0:aG} {Q:Exit->Act->aG->Prop} {M:Mem} {bM bC:List ad} {o:Option dk} {t ik D1:bq} {m k u:ad} {n:gx} {ns ns':List gx} {gp e6:ax} {c7:List bG} {dQ:gh}
  (iM:ns'=ns++[n]) (h:Oo o=some (t,m,k,.bool true)) (bw:bZ P (underlying t)=some (.map ik D1)) (ao:bZ P (underlying ik)=some .string) (oC:∀b n,bZ P (Instr.checkKey b 10000 ik (da n))=some ())
  (fg:bF (b0 o) gp c7=some dQ) (iQ:e8 N gp (qa o) undef=some e6) (hp:bL m=true) (aw:bL k=true) (em: @bb (bc M bM) m=u) (Oq: @bb (bc M bM) k=da n)
  (dR:vz B M u ns) (hI:n∉ns) (hm:∀aS,hD (bc M bM) (bc aS bC) dQ)
  (rest:∀aS,vz B aS u ns'->jM M aS (Om u)->∀bR w,@Here (bc aS bC) _ N {sl:=e6,ms:=[],A:=cS c7} B w0 bR w->wpListIn (Fr none) 0 P (nG o) (fF P (gi o) Q) (oc o) bR w)
  (aT:dJ.jD<=c7.length:=by first|exact Nat.zero_le _|exact h3 rfl) (aA:jr (b0 o).A c7 0:=by exact jF rfl): @ia (bc M bM) _ P N B w0 Q o:=by
 subst iM;letI:=bc M bM;unfold Oo at h;split at h
 ·rename_i op r ops s ks
  refine⟨_,rfl,λa w ae=> ?_⟩;split at h
  ·rename_i fk Vj Vk ha eb
   split at h
   ·rename_i nk
    simp only [dL,Prod.mk.injEq] at h;obtain⟨rfl,rfl,rfl,hq⟩:=h;have jN:=ae;obtain⟨⟨φ,ds,af,ah,aH,ck,_⟩,dd,dM⟩:=ae;unfold wpListIn;rw[sg ah.get nk,aP rfl];have es:a.eval Vj=u:=(aM.kr _ hp (h_ (jE φ) ah.get Vj)).trans em;have uB:a.eval Vk=da n:=(aM.kr _ aw (h_ (jE φ) ah.get Vk)).trans Oq;have adO:a.eval ha= .bool true:=by
     have jm:=h_ (jE φ) ah.get ha;rw[hq] at jm;exact aM.kr _ rfl jm
    have hw:∀i o,M i=some o->w.heap[i]? =some o:=jN.qC;obtain⟨b,rfl,cM,ai⟩:=dR;have bg:=hw _ _ ai
    let o':Obj:= .map ⟨tB 0 (ns++[n])⟩ (ns++[n]).length
    let w':aG:={w with heap:=w.heap.setIfInBounds b o'}
    have gF:Obj.map ((⟨tB 0 ns⟩:Array MapEntry).push {key:=da n,val:= .bool true,born:=ns.length}) (ns.length+1)=o':=by
     show _=Obj.map _ _;rw[Ve,List.length_append,Nat.zero_add];simp
    have ho:(execOp a.eval op).run P w= .ok .skip w':=by
     unfold execOp;rw[eb];simp only [es,uB,adO];show (do Instr.mapUpdate fk (.map (some b)) (da n) (.bool true);pure Next.skip:Sem Next).run P w=_;have eA:(Instr.mapUpdate fk (.map (some b)) (da n) (.bool true)).run P w= .ok () w':=by
      unfold Instr.mapUpdate;refine ei bw ?_;simp only;refine ev (tq bg (by simp)) ?_;simp only;refine ei (oC _ n) ?_;refine ev (Vi ao hI w) ?_;simp only;rw[gF];exact yC bg (by simp)
     simp only [Sem.run_bind,eA,Result.andThen_ok];rfl
    have hb:∀c',op.op≠.defer c':=λc' h=>by rw[eb] at h;cases h
    refine⟨λ_ _=>trivial,?_⟩;rw[Oper.semAt_eq _ _ _ hb,ho,Oper.uponIn_skip];have adP:b<w.heap.size:=(Array.getElem?_eq_some_iff.1 bg).1;obtain⟨q1,aI⟩:=uz (B:=B) (M:=M) (w:=w) (w':=w') (T:=some b) (fQ:=some b) hw (λi ak=>by cases ak;exact⟨by rw[ai];simp,cM⟩) (λi ak=> .inl ak) ⟨rfl,rfl,rfl⟩ (c4 _) (by simp [w']) (λi ak dU=>by
     show (w.heap.setIfInBounds b o')[i]? =_
     rw[Array.getElem?_setIfInBounds,aV (λe=>dU (by rw[e]))])
    have dR:vz B (j7 M w' (some b) (some b)) (.map (some b)) (ns++[n]):=by
     refine⟨_,rfl,cM,?_⟩;unfold j7;rw[aP rfl];show (w.heap.setIfInBounds b o')[b]? =_;rw[Array.getElem?_setIfInBounds,aP rfl,aP adP]
    have kc:=Here.turns (vals':=bC) fg (hm _) q1 aT aA jN;letI:=bc (j7 M w' (some b) (some b)) bC;exact rest _ dR aI _ w' (Here.put (d:=op.dst) kc (v:=undef) rfl iQ)
   ·cases h
  ·cases h
 ·cases h
theorem jM.map {B:Nat} {M aS:Mem} {T:Option Nat} {v:ad} {l:List gx} (ao:jM M aS T) (h:vz B M v l) (dU:∀i,some i=Om v->some i≠T):vz B aS v l:=by
 obtain⟨b,rfl,af,ah⟩:=h;exact⟨b,rfl,af,ao _ _ ah (dU b rfl)⟩
end a1
namespace a1
def vA (P:bB) [Lib P] (o:Option dk):FuncId×List ad×bx:=(yU P o).getD (0,[],start)
end a1
namespace a1
structure D2 (B:Nat) (M aS:Mem) (S:Nat->Prop) (w w':aG):Prop where
 known:∀i,S i->M i≠none/\B<=i
 os:w'.os=w.os
 tape:w'.tape=w.tape
 output:w'.output=w.output
 size:w.heap.size<=w'.heap.size
 block:∀i,i<w.heap.size->¬S i->w'.heap[i]? =w.heap[i]?
 dz:∀i o,aS i=some o->w'.heap[i]? =some o/\(M i≠none\/w.heap.size<=i\/i<B)
def Cg (M aS:Mem) (S:Nat->Prop):Prop:=∀i o,M i=some o->¬S i->aS i=some o
theorem Cg.up {B:Nat} {W:aG} {M aS:Mem} {S:Nat->Prop} (ao:Cg M aS S) (cM:∀i,S i->B<=i) (ac2:W.heap.size<=B) (gk:∀i o,a7 W i=some o->M i=some o):∀i o,a7 W i=some o->aS i=some o:=λi o h=>
 ao i o (gk i o h) λak=>by
  have af:=cM i ak;have ah:=(Array.getElem?_eq_some_iff.1 (show W.heap[i]? =some o from h)).1;omega
theorem Cg.own {α:Type} {B:Nat} {M aS:Mem} {S:Nat->Prop} {e:bq} {k:Nat} {enc:α->List ad} {v:ad} {l:List α} (ao:Cg M aS S) (h:eI B M e k enc v l) (dU:∀i,some i=fX v->¬S i):eI B aS e k enc v l:=
 h.mono (c4 _) λi ak o bW=>ao i o bW (dU i ak)
theorem Here.Ot [dJ] {M aS:Mem} {bM vals':List ad} {S:Nat->Prop} {N B:Nat} {st:c6} {w0 w w':aG} {a:Act} {sl:ax} {l:List bG} {dQ:gh} (fg:bF st sl l=some dQ) (hm:hD (bc M bM) (bc aS vals') dQ) (bw:D2 B M aS S w w') (aT:dJ.jD<=l.length) (aA:jr st.A l 0)
  (ae: @Here (bc M bM) _ N st B w0 a w): @Here (bc aS vals') _ N {sl,ms:=[],A:=cS l} B w0 a w':=
 Here.BW S fg hm (λi ak=>bw.known i ak) ⟨bw.os,bw.tape,bw.output,c4 _⟩ bw.size (λi ak aR=>bw.block i ak aR) (λi o ak=>bw.dz i o ak) aT aA ae
def y1 (B:Nat) (M:Mem) (w w':aG):Mem:=λi=>if (M i).isSome=true\/w.heap.size<=i\/i<B then w'.heap[i]? else none
theorem Ou {B:Nat} {M:Mem} {w w':aG} {i:Nat} (h:(M i).isSome=true\/w.heap.size<=i\/i<B):y1 B M w w' i=w'.heap[i]? :=by unfold y1;rw[aP h]
theorem Vl {B:Nat} {M:Mem} {S:Nat->Prop} {w w':aG} (hw:∀i o,M i=some o->w.heap[i]? =some o) (a_:∀i,S i->M i≠none/\B<=i) (vw:w'.os=w.os/\w'.tape=w.tape/\w'.output=w.output) (dV:w.heap.size<=w'.heap.size)
  (ai:∀i,i<w.heap.size->¬S i->w'.heap[i]? =w.heap[i]?):D2 B M (y1 B M w w') S w w'/\Cg M (y1 B M w w') S:=by
 refine⟨⟨a_,vw.1,vw.2.1,vw.2.2,dV,ai,λi o ak=> ?_⟩,λi o ak aR=> ?_⟩
 ·unfold y1 at ak
  split at ak
  ·rename_i h
   refine⟨ak,?_⟩;rcases h with h|h|h
   ·exact .inl λah=>by rw[ah] at h;cases h
   ·exact .inr (.inl h)
   ·exact .inr (.inr h)
  ·cases ak
 ·rw[Ou (.inl (by rw[ak];rfl)),ai i (Array.getElem?_eq_some_iff.1 (hw i o ak)).1 aR]
  exact hw i o ak
theorem D3 {M:Mem} {w:aG} (hw:∀i o,M i=some o->w.heap[i]? =some o) {i:Nat} (h:w.heap.size<=i):M i=none:=by
 cases ak:M i with
 |none=>rfl
 |some o=>
  have:=(Array.getElem?_eq_some_iff.1 (hw i o ak)).1;omega
theorem cd [bp] {P:bB} (n:Int):aW P (.cz (.int .i64 n),.int .i64 n):=
 UZ J J J λ_ _ _=>rfl
def Am:Option dk->Option bq
 |some (.oper o _ ops s _)=>match o.op with
  | .alloc t=>match uh ops o s.sl with
    |some true=>some t
    |_=>none
  |_=>none
 |_=>none
theorem D4 [dJ] {P:bB} {N B:Nat} {w0:aG} {Q:Exit->Act->aG->Prop} {M:Mem} {bM:List ad} {o:Option dk} {t:bq} {z hk:ad} {bC:Nat->List ad} {gp e6:ax} {c7:List bG} {dQ:gh}
  (h:Am o=some t) (de:bZ P (zeroValue t)=some z) (fg:bF (b0 o) gp c7=some dQ) (iQ:e8 N gp (qa o) hk=some e6) (gH:bL hk=true)
  (hm:∀aS g,hD (bc M bM) (bc aS (bC g)) dQ) (aR:∀aS g,@bb (bc aS (bC g)) hk= .pointer (some ⟨g,0,none⟩))
  (rest:∀aS g,B<=g->M g=none->aS g=some (.cells z.cells t (0,0))->jM M aS none->∀bR w,@Here (bc aS (bC g)) _ N {sl:=e6,ms:=[],A:=cS c7} B w0 bR w->wpListIn (Fr none) 0 P (nG o) (fF P (gi o) Q) (oc o) bR w)
  (aT:dJ.jD<=c7.length:=by first|exact Nat.zero_le _|exact h3 rfl) (aA:jr (b0 o).A c7 0:=by exact jF rfl): @ia (bc M bM) _ P N B w0 Q o:=by
 letI:=bc M bM;unfold Am at h;split at h
 ·rename_i op r ops s ks
  refine⟨_,rfl,λa w ae=> ?_⟩;split at h
  ·rename_i fk eb
   split at h
   ·rename_i nk
    cases h;have jN:=ae;obtain⟨⟨φ,ds,af,ah,aH,ck,_⟩,dd,dM⟩:=ae;unfold wpListIn;rw[sg ah.get nk,aP rfl];have hw:∀i o,M i=some o->w.heap[i]? =some o:=jN.qC
    let w':aG:={w with heap:=w.heap.push (.cells z.cells t)}
    have ho:(execOp a.eval op).run P w= .ok (.value (.pointer (some ⟨w.heap.size,0,none⟩))) w':=by
     unfold execOp;rw[eb];show (do pure (Next.value (<-Instr.alloc t true (.tuple #[]))):Sem Next).run P w=_;have cG:(Instr.alloc t true (.tuple #[])).run P w= .ok (.pointer (some ⟨w.heap.size,0,none⟩)) w':=by
      unfold Instr.alloc;refine ei de ?_;simp [newVar,newRow,newObj,Sem.run,w']
     simp only [Sem.run_bind,cG,Result.andThen_ok];rfl
    have hb:∀c',op.op≠.defer c':=λc' h=>by rw[eb] at h;cases h
    refine⟨λ_ _=>trivial,?_⟩;rw[Oper.semAt_eq _ _ _ hb,ho,Oper.uponIn_value];obtain⟨q1,aI⟩:=uz (B:=B) (M:=M) (w:=w) (w':=w') (T:=none) (fQ:=some w.heap.size) hw (λi h=>by cases h) (λi ak=> .inr (by cases ak;exact c4 _)) ⟨rfl,rfl,rfl⟩ (c4 _) (by simp [w']) (λi ak _=>by
     show (w.heap.push _)[i]? =_
     rw[Array.getElem?_push,aV aj])
    have dR:j7 M w' none (some w.heap.size) w.heap.size=some (.cells z.cells t (0,0)):=by
     unfold j7;rw[aP rfl];show (w.heap.push _)[w.heap.size]? =_;rw[Array.getElem?_push,aP rfl]
    have kc:=Here.turns (vals':=bC w.heap.size) fg (hm _ _) q1 aT aA jN;letI:=bc (j7 M w' none (some w.heap.size)) (bC w.heap.size);have pG:=Here.put (d:=op.dst) kc (v:=hk) gH iQ;rw[aR] at pG;exact rest _ _ dM (D3 hw (c4 _)) dR aI _ w' pG
   ·cases h
  ·cases h
 ·cases h
def hQ (P:bB) [Lib P] (o:Option dk):c6:={b0 o with A:=(vA P o).2.2}
theorem adQ [bp] [dJ] {P:bB} [Lib P] {N B:Nat} {w0:aG} {Q:Exit->Act->aG->Prop} {o:Option dk} {f:FuncId} {args:List ad} {R:aG->ad->aG->Prop} (h:(yU P o).isSome=true) (bn:(vA P o).1=f) (cG:(vA P o).2.1=args) (hp:fH args=true)
  (ez:∀a w,Here N (hQ P o) B w0 a w->Calls P f ⟨fl args⟩ w λe w'=>∃v,e= .returned v/\R w v w')
  (d_:∀a w v w',Here N (hQ P o) B w0 a w->R w v w'->wpListIn (Fr none) 0 P (nG o) (fF P (gi o) Q) (oc o) (a.put (qa o) v) w'):ia P N B w0 Q o:=by
 have bu:=ac0 (d:=(0,[],start)) h
 change yU P o=some (vA P o) at bu
 generalize he:vA P o=d at bu bn cG;obtain⟨f0,Ov,cg⟩:=d;simp only at bn cG;subst bn cG;have ve:hQ P o={b0 o with A:=cg}:=by unfold hQ;rw[he]
 rw[ve] at ez d_;unfold yU at bu;split at bu
 ·rename_i op r ops s ks
  split at bu
  ·rename_i hw
   split at bu
   ·rename_i nB hK ak9 cG
    cases bu;refine⟨_,rfl,λa w ae=> ?_⟩;obtain⟨⟨φ,ds,af,ah,aH,ck,gW⟩,dd,dM⟩:=ae;unfold wpListIn;rw[sg ah.get hw,aP rfl];obtain⟨hO,w1,n,g1,g2,g3⟩:=TL aH (h_ (jE φ) ah.get) cG;refine⟨λ_ _=>trivial,?_⟩;letI:ft P:=⟨[]⟩;have adR:Ds P (eQ .nil s.sl) s.A op=some (.enter f0 Ov,cg):=cG;rw[Oper.semAt_eq _ _ _ (Jp adR),g1];obtain⟨Vm,rfl,hW⟩:=g2;rw[Oper.uponIn_enter];refine⟨λh=>absurd h (by simp [Fr,Fence.wide]),?_⟩;obtain⟨gZ,jn⟩:=BP ck g3 dM;have adS:Vm=⟨fl Ov⟩:=by
     obtain⟨q1,aI⟩:=hW;obtain⟨u⟩:=Vm;rw[aM.yF Ov u hp (by simpa using q1.symm) (λi ak=>by simpa using aI i ak)]
    subst adS;have oF:Here N {b0 (some (.oper op r ops s ks)) with A:=cg} B w0 a w1:=⟨⟨hO,ds,af.mono (g3.ext aH),ah.mono (g3.ext aH),g3.rel,gZ,gW.step g3⟩,dd.trans jn,Nat.le_trans dM g3.hH⟩;refine CallsIn.mono (Du (ez a w1 oF)) λe w2 he=> ?_
    obtain⟨v,rfl,me⟩:=he;exact d_ a w1 v w2 oF me
   ·cases bu
  ·cases bu
 ·cases bu
theorem adT [dJ] {P:bB} [Lib P] {N B:Nat} {w0:aG} {Q:Exit->Act->aG->Prop} {M:Mem} {bM:List ad} {o:Option dk} {f:FuncId} {args:List ad} {hk:ad} {Y:Type} {bC:Y->List ad} {gp e6:ax} {c7:List bG} {dQ:gh} {S:Nat->Prop} {R:Y->Mem->Prop}
  (h:(yU P o).isSome=true) (bn:(vA P o).1=f) (cG:(vA P o).2.1=args) (hp:fH args=true) (fg:bF (hQ P o) gp c7=some dQ) (iQ:e8 N gp (qa o) hk=some e6) (gH:bL hk=true)
  (ez:∀w,(∀i o,M i=some o->w.heap[i]? =some o)->B<=w.heap.size->Calls P f ⟨@fl (bc M bM) args⟩ w λe w'=>∃y aS,e= .returned (@bb (bc aS (bC y)) hk)/\R y aS/\D2 B M aS S w w')
  (hm:∀aS y,R y aS->hD (bc M bM) (bc aS (bC y)) dQ)
  (rest:∀aS y,R y aS->∀bR w,@Here (bc aS (bC y)) _ N {sl:=e6,ms:=[],A:=cS c7} B w0 bR w->wpListIn (Fr none) 0 P (nG o) (fF P (gi o) Q) (oc o) bR w)
  (aT:dJ.jD<=c7.length:=by first|exact Nat.zero_le _|exact h3 rfl) (aA:jr (hQ P o).A c7 0:=by exact jF rfl): @ia (bc M bM) _ P N B w0 Q o:=by
 letI:=bc M bM;refine adQ (R:=λw v w'=>∃y aS,v= @bb (bc aS (bC y)) hk/\R y aS/\D2 B M aS S w w') h bn cG hp (λa w ae=>(ez w ae.qC ae.size).mono λe w' he=> ?_) λa w v w' ae me=> ?_
 ·obtain⟨y,aS,rfl,af,ah⟩:=he
  exact⟨_,rfl,y,aS,rfl,af,ah⟩
 ·obtain⟨y,aS,rfl,af,ah⟩:=me
  have kc:=Here.Ot (vals':=bC y) fg (hm aS y af) ah aT aA ae;exact rest aS y af _ w' (@Here.put (bc aS (bC y)) _ _ _ _ _ _ _ _ _ _ kc gH iQ)
end a1
namespace a1
def je (B:Nat) (M:Mem) (v:ad) (ty:bq) (cs:List ad):Prop:=∃g,v= .pointer (some ⟨g,0,none⟩)/\B<=g/\M g=some (.cells ⟨cs⟩ ty (0,0))
theorem je.known {B g:Nat} {M:Mem} {ty:bq} {cs:List ad} (h:je B M (.pointer (some ⟨g,0,none⟩)) ty cs):M g=some (.cells ⟨cs⟩ ty (0,0))/\B<=g:=by
 obtain⟨adv,e,af,ah⟩:=h;cases e;exact⟨ah,af⟩
theorem je.ptr {B:Nat} {M:Mem} {v:ad} {ty:bq} {cs:List ad} (h:je B M v ty cs):∃g,v= .pointer (some ⟨g,0,none⟩):=by
 obtain⟨g,e,_⟩:=h;exact⟨g,e⟩
theorem jM.box {B g:Nat} {M aS:Mem} {T:Option Nat} {ty:bq} {cs:List ad} (ao:jM M aS T) (h:je B M (.pointer (some ⟨g,0,none⟩)) ty cs) (dU:∀i,some i=T->some i≠some g):je B aS (.pointer (some ⟨g,0,none⟩)) ty cs:=
 ⟨g,rfl,h.known.2,ao _ _ h.known.1 λe=>dU g e rfl⟩
section
variable [bp] {P:bB}
theorem aW.Ow {B g j:Nat} {ty t:bq} {cs:List ad} {p r u:ad} (dR:je B bp.dz (.pointer (some ⟨g,0,none⟩)) ty cs) (aq:cs[j]? =some u) (hp:bL p=true) (ar:bL r=true) (cG:bZ P (isAgg t)=some false) (nn:bb p= .pointer (some ⟨g,j,none⟩)) (dc:bb r=u):aW P (.bh t p,r):=
 aW.UK hp ar cG nn (λw hw=>by
  have:=hw _ _ dR.known.1;simp only [World.cell?,this]
  simpa using aq) dc
theorem aW.adU {x r:ad} {a:Addr} (aw:bL x=true) (ar:bL r=true) (ex:bb x= .pointer (some a)) (dc:bb r= .pointer (some a)):aW P (.dt x,r):=
 B6 (by simpa [qA] using aw) ar rfl λe0 e1 w _=>by
  show (hi e0 e1 (.dt (bb x))).run P w=_;rw[ex,dc];rfl
theorem aW.adV {s:bq} {x r:ad} {f g o ty off m:Nat} (bn:((P.fieldsOf s)[f]?).map (λf=>(f.type,f.offset))=some (ty,off)) (ay:bZ P (underlying s)=some (.struct (P.fieldsOf s))) (hm:bZ P (sizeOf ty)=some m) (bd:m≠0) (aw:bL x=true) (ar:bL r=true)
  (ex:bb x= .pointer (some ⟨g,o,none⟩)) (dc:bb r= .pointer (some ⟨g,o+off,none⟩)):aW P (.bQ s x f,r):=by
 obtain⟨kV,af,ah⟩:=Option.map_eq_some_iff.1 bn;cases ah;exact aW.bQ aw ar ay af hm bd ex dc
end
def uC:Option dk->Option (bq×ad)
 |some (.oper o _ ops s _)=>match o.op with
  | .box t ha=>match uh ops o s.sl with
    |some true=>some (t,eQ .nil s.sl ha)
    |_=>none
  |_=>none
 |_=>none
theorem wT [dJ] {P:bB} {N B:Nat} {w0:aG} {Q:Exit->Act->aG->Prop} {M:Mem} {bM:List ad} {o:Option dk} {t:bq} {x u hk:ad} {cs:List ad} {bC:Nat->List ad} {gp e6:ax} {c7:List bG} {dQ:gh}
  (h:uC o=some (t,x)) (aw:bL x=true) (ex: @bb (bc M bM) x=u) (hJ:u.cells=⟨cs⟩) (fg:bF (b0 o) gp c7=some dQ) (iQ:e8 N gp (qa o) hk=some e6) (gH:bL hk=true)
  (hm:∀aS g,hD (bc M bM) (bc aS (bC g)) dQ) (aR:∀aS g,@bb (bc aS (bC g)) hk= .pointer (some ⟨g,0,none⟩))
  (rest:∀aS g,M g=none->je B aS (.pointer (some ⟨g,0,none⟩)) t cs->jM M aS none->∀bR w,@Here (bc aS (bC g)) _ N {sl:=e6,ms:=[],A:=cS c7} B w0 bR w->wpListIn (Fr none) 0 P (nG o) (fF P (gi o) Q) (oc o) bR w)
  (aT:dJ.jD<=c7.length:=by first|exact Nat.zero_le _|exact h3 rfl) (aA:jr (b0 o).A c7 0:=by exact jF rfl): @ia (bc M bM) _ P N B w0 Q o:=by
 letI:=bc M bM;unfold uC at h;split at h
 ·rename_i op r ops s ks
  refine⟨_,rfl,λa w ae=> ?_⟩;split at h
  ·rename_i fk ha eb
   split at h
   ·rename_i nk
    cases h;have jN:=ae;obtain⟨⟨φ,ds,af,ah,aH,ck,_⟩,dd,dM⟩:=ae;unfold wpListIn;rw[sg ah.get nk,aP rfl];have uB:a.eval ha=u:=(aM.kr _ aw (h_ (jE φ) ah.get ha)).trans ex;have hw:∀i o,M i=some o->w.heap[i]? =some o:=jN.qC
    let w':aG:={w with heap:=w.heap.push (.cells ⟨cs⟩ t)}
    have ho:(execOp a.eval op).run P w= .ok (.value (.pointer (some ⟨w.heap.size,0,none⟩))) w':=by
     unfold execOp;rw[eb];simp only [uB];show (do pure (Next.value (<-Instr.box t u)):Sem Next).run P w=_;have cG:(Instr.box t u).run P w= .ok (.pointer (some ⟨w.heap.size,0,none⟩)) w':=by
      unfold Instr.box newVar newRow;rw[hJ];simp [newObj,Sem.run,w']
     simp only [Sem.run_bind,cG,Result.andThen_ok];rfl
    have hb:∀c',op.op≠.defer c':=λc' h=>by rw[eb] at h;cases h
    refine⟨λ_ _=>trivial,?_⟩;rw[Oper.semAt_eq _ _ _ hb,ho,Oper.uponIn_value];obtain⟨q1,aI⟩:=uz (B:=B) (M:=M) (w:=w) (w':=w') (T:=none) (fQ:=some w.heap.size) hw (λi h=>by cases h) (λi ak=> .inr (by cases ak;exact c4 _)) ⟨rfl,rfl,rfl⟩ (c4 _) (by simp [w']) (λi ak _=>by
     show (w.heap.push _)[i]? =_
     rw[Array.getElem?_push,aV aj])
    have dR:je B (j7 M w' none (some w.heap.size)) (.pointer (some ⟨w.heap.size,0,none⟩)) t cs:=by
     refine⟨_,rfl,dM,?_⟩;unfold j7;rw[aP rfl];show (w.heap.push _)[w.heap.size]? =_;rw[Array.getElem?_push,aP rfl]
    have kc:=Here.turns (vals':=bC w.heap.size) fg (hm _ _) q1 aT aA jN;letI:=bc (j7 M w' none (some w.heap.size)) (bC w.heap.size);have pG:=Here.put (d:=op.dst) kc (v:=hk) gH iQ;rw[aR] at pG;exact rest _ _ (D3 hw (c4 _)) dR aI _ w' pG
   ·cases h
  ·cases h
 ·cases h
theorem adW [dJ] {P:bB} {N B:Nat} {w0:aG} {Q:Exit->Act->aG->Prop} {M:Mem} {bM bC:List ad} {o:Option dk} {t ty:bq} {g j:Nat} {p x u:ad} {cs cs':List ad} {gp e6:ax} {c7:List bG} {dQ:gh}
  (iM:cs'=cs.set j u) (h:hc o=some (t,p,x)) (dV:bZ P (sizeOf t)=some 1)
  (fg:bF (b0 o) gp c7=some dQ) (iQ:e8 N gp (qa o) undef=some e6) (hp:bL p=true) (aw:bL x=true) (nn: @bb (bc M bM) p= .pointer (some ⟨g,j,none⟩)) (ex: @bb (bc M bM) x=u) (hu:u.cells= #[u]) (lB:u.oneCell'=true)
  (dR:je B M (.pointer (some ⟨g,0,none⟩)) ty cs) (aq:j<cs.length) (hm:∀aS,hD (bc M bM) (bc aS bC) dQ)
  (rest:∀aS,je B aS (.pointer (some ⟨g,0,none⟩)) ty cs'->jM M aS (some g)->∀bR w,@Here (bc aS bC) _ N {sl:=e6,ms:=[],A:=cS c7} B w0 bR w->wpListIn (Fr none) 0 P (nG o) (fF P (gi o) Q) (oc o) bR w)
  (aT:dJ.jD<=c7.length:=by first|exact Nat.zero_le _|exact h3 rfl) (aA:jr (b0 o).A c7 0:=by exact jF rfl): @ia (bc M bM) _ P N B w0 Q o:=by
 subst iM;letI:=bc M bM;unfold hc at h;split at h
 ·rename_i op r ops s ks
  refine⟨_,rfl,λa w ae=> ?_⟩;split at h
  ·rename_i fk ky ha eb
   split at h
   ·rename_i nk
    cases h;have jN:=ae;obtain⟨⟨φ,ds,af,ah,aH,ck,_⟩,dd,dM⟩:=ae;unfold wpListIn;rw[sg ah.get nk,aP rfl];have es:a.eval ky= .pointer (some ⟨g,j,none⟩):=(aM.kr _ hp (h_ (jE φ) ah.get ky)).trans nn;have uB:a.eval ha=u:=(aM.kr _ aw (h_ (jE φ) ah.get ha)).trans ex;have hw:∀i o,M i=some o->w.heap[i]? =some o:=jN.qC;obtain⟨gk,cM⟩:=dR.known;have bg:=hw _ _ gk
    let hL:Array ad:=(cs.take j++[u]++cs.drop (j+1)).toArray
    have gn:hL=⟨cs.set j u⟩:=by
     show (cs.take j++[u]++cs.drop (j+1)).toArray=_;rw[List.set_eq_take_append_cons_drop,aP aq];simp
    have wq:(storeCells ⟨g,j,none⟩ [u]).run P w= .ok () (w.setRow g hL):=by
     have:=run_storeCells_at P g j ty [u] 0 ⟨cs⟩ w bg (by simp only [List.length_cons,List.length_nil,List.size_toArray];omega) (λv aR=>by rw[List.mem_singleton.1 aR];exact lB);simpa only [Nat.add_zero,List.length_cons,List.length_nil] using this
    have ho:(execOp a.eval op).run P w= .ok .skip (w.setRow g hL):=by
     unfold execOp;rw[eb];simp only [es,uB];show (do Instr.storeAt t (.pointer (some ⟨g,j,none⟩)) u;pure Next.skip:Sem Next).run P w=_;have eA:(Instr.storeAt t (.pointer (some ⟨g,j,none⟩)) u).run P w= .ok () (w.setRow g hL):=by
      unfold Instr.storeAt;refine ei (a:=(⟨g,j,none⟩:Addr)) rfl ?_;unfold storeVar;refine ei dV ?_;rw[aV (by rw[hu];simp),hu];exact wq
     simp only [Sem.run_bind,eA,Result.andThen_ok];rfl
    have hb:∀c',op.op≠.defer c':=λc' h=>by rw[eb] at h;cases h
    refine⟨λ_ _=>trivial,?_⟩;rw[Oper.semAt_eq _ _ _ hb,ho,Oper.uponIn_skip];obtain⟨q1,aI⟩:=uz (B:=B) (M:=M) (w':=w.setRow g hL) (T:=some g) (fQ:=some g) hw (λi ak=>by cases ak;exact⟨by rw[gk];simp,cM⟩) (λi ak=> .inl ak) ⟨rfl,rfl,rfl⟩ (c4 _) (by simp [World.setRow]) (λj _ aq=>setRow_other w g j hL (λh=>aq (by rw[h])));have sx:je B (j7 M (w.setRow g hL) (some g) (some g)) (.pointer (some ⟨g,0,none⟩)) ty (cs.set j u):=by
     refine⟨g,rfl,cM,?_⟩;unfold j7;rw[aP rfl,<-gn];exact setRow_heap w g ⟨cs⟩ hL ty (0,0) bg
    have kc:=Here.turns (vals':=bC) fg (hm _) q1 aT aA jN;letI:=bc (j7 M (w.setRow g hL) (some g) (some g)) bC;exact rest _ sx aI _ _ (Here.put (d:=op.dst) kc (v:=undef) rfl iQ)
   ·cases h
  ·cases h
 ·cases h
def lp:Code->List Nat->List hj->List hj
 | .seq x y,n::p,acc=>bif Nat.beq n 0 then lp x p (.Ae y::acc) else lp y p acc
 | .cond _ x y,n::p,acc=>bif Nat.beq n 2 then lp x p acc else lp y p acc
 | .block id x,_::p,acc=>lp x p (.Af id::acc)
 | .loop x,n::p,acc=>lp x p (.Ag x (n-5)::acc)
 |_,_,acc=>acc
def Ao:Code->List Nat->Code
 | .seq x y,n::p=>bif Nat.beq n 0 then Ao x p else Ao y p
 | .cond _ x y,n::p=>bif Nat.beq n 2 then Ao x p else Ao y p
 | .block _ x,_::p=>Ao x p
 | .loop x,_::p=>Ao x p
 |c,_=>c
def adX (c:Code) (p:List Nat):Array Oper:=match Ao c p with
 | .region _ ops _=>ops
 |_=> #[]
def nJ (c:Code) (p:List Nat):Code:=match Ao c p with
 | .loop b=>b
 |_=> .skip
theorem adY [bp] [dJ] {P:bB} [Lib P] {F:List (jJ×ad)} {T:List (FuncId×List ad×ad)} {N B bN d:Nat} {w0 w:aG} {a:Act} {o:Option dk} {r:List Oper} {ops:Array Oper} {ks:List hj} {s:c6} {Q:Exit->Act->aG->Prop} [o4 Q]
  (ar:oc o=r) (bW:nG o=ops) (ao:gi o=ks) (et:P.follows .mixedOrders=true) (gg:uw P F) (kW:sv P T)
  (h:ia P N B w0 Q (F' P F T N bN d r ops ks s)) (ae:Here N s B w0 a w):wpListIn (Fr none) 0 P (nG o) (fF P (gi o) Q) (oc o) a w:=by
 subst ar bW ao;exact DU et gg kW h ae
theorem nK {P:bB} {o:Option dk} {b:Code} {ks:List hj} {a:Act} {w:aG} {R:Act->aG->Prop} {Q:Exit->Act->aG->Prop} (ai:lP o=b) (ao:gi o=ks)
  (h:b.wpIn (Fr none) 0 P (Exit.then R (fF P ks Q)) a w):(lP o).wpIn (Fr none) 0 P (Exit.then R (fF P (gi o) Q)) a w:=by
 subst ai ao;exact h
end a1
namespace a1
structure df where
 pH:Nat->Prop
 ok:Mem->Prop
 hM:∀M,ok M->∀b,pH b->M b≠none
 loc:∀M aS,(∀b o,pH b->M b=some o->aS b=some o)->ok M->ok aS
def cb (g:Nat) (ty:bq) (cs:List ad):df where
 pH b:=b=g
 ok M:=M g=some (.cells ⟨cs⟩ ty (0,0))
 hM M h b ai:=by
  subst ai;rw[h];simp
 loc M aS h bW:=h g _ rfl bW
def fY {α:Type} (e:bq) (k:Nat) (enc:α->List ad) (v:ad) (l:List α):df where
 pH b:=some b=fX v
 ok M:=eI 0 M e k enc v l
 hM M h b ai:=(h.known b ai).1
 loc M aS h bW:=by
  rcases bW with bW|⟨g,cap,cur,rfl,aA,af,bg,ah⟩
  ·exact .inl bW
  ·exact .inr ⟨g,cap,cur,rfl,aA,af,h g _ (qD ⟨g,_,none⟩ _ aA).symm bg,ah⟩
def lQ {α:Type} (B:Nat) (M:Mem) (e:bq) (k:Nat) (enc:α->List ad) (v:ad) (l:List α):Prop:=
 (∃a,v= .slice a 0 0/\l=[])\/
 ∃g off cap cur,v= .slice (some ⟨g,off,none⟩) l.length cap/\0<cap/\B<=g/\M g=some (.cells cur e (0,0))/\l.length<=cap/\cap<=maxLen/\cur.size=off+cap*k/\(cur.toList.drop off).take (l.length*k)=l.flatMap enc
section
variable {α:Type} {B:Nat} {M:Mem} {e:bq} {k:Nat} {enc:α->List ad} {v:ad} {l:List α}
theorem eI.queue (h:eI B M e k enc v l):lQ B M e k enc v l:=by
 rcases h with h|⟨g,cap,cur,af,ah,aH,ck,dd,dM,gW,qu⟩
 ·exact .inl h
 ·exact .inr ⟨g,0,cap,cur,af,ah,aH,ck,dd,dM,aj,by rw[List.drop_zero];exact qu⟩
theorem lQ.known (h:lQ B M e k enc v l):∀i,some i=fX v->M i≠none/\B<=i:=λi ak=>by
 rcases h with ⟨a,rfl,_⟩|⟨g,off,cap,cur,rfl,aA,cM,bg,_⟩
 ·rw[F_] at ak
  cases ak
 ·rw[qD _ _ aA] at ak
  have e:=Option.some.inj ak;subst e;exact⟨λh=>(by rw[bg] at h;cases h),cM⟩
theorem lQ.mono {wM:Nat} {aS:Mem} (h:lQ B M e k enc v l) (cM:∀i,some i=fX v->wM<=i) (hm:∀i,some i=fX v->∀o,M i=some o->aS i=some o):lQ wM aS e k enc v l:=by
 rcases h with h|⟨g,off,cap,cur,rfl,aA,af,bg,ah⟩
 ·exact .inl h
 ·exact .inr ⟨g,off,cap,cur,rfl,aA,cM g (qD ⟨g,_,none⟩ _ aA).symm,hm g (qD ⟨g,_,none⟩ _ aA).symm _ bg,ah⟩
theorem lQ.slice (h:lQ B M e k enc v l):∃a c,v= .slice a l.length c:=by
 rcases h with ⟨a,rfl,rfl⟩|⟨g,off,cap,cur,rfl,_⟩
 ·exact⟨a,0,rfl⟩
 ·exact⟨_,cap,rfl⟩
theorem lQ.arr (h:lQ B M e k enc v l) (ao:∀x,(enc x).length=k):dr M k enc v l:=by
 rcases h with ⟨a,rfl,rfl⟩|⟨g,off,cap,cur,rfl,aA,af,ah,aH,ck,dd,dM⟩
 ·exact .nil _ _
 ·refine .mk ah aH λi x aw j u hu=> ?_
  have gW:=Ai ao l i x aw j u hu;rw[<-dM,List.getElem?_take] at gW;split at gW
  ·rw[List.getElem?_drop] at gW
   rw[Nat.add_assoc];simpa using gW
  ·cases gW
theorem lQ.cap (h:lQ B M e k enc v l):∃a c,v= .slice a l.length c/\l.length<=c:=by
 rcases h with ⟨a,rfl,rfl⟩|⟨g,off,cap,cur,rfl,af,ah,aH,ck,_⟩
 ·exact⟨a,0,rfl,c4 _⟩
 ·exact⟨_,cap,rfl,ck⟩
theorem eI.adZ {wM:Nat} {aS:Mem} (h:eI B M e k enc v l) (cM:∀i,some i=fX v->wM<=i) (hm:∀i,some i=fX v->∀o,M i=some o->aS i=some o):eI wM aS e k enc v l:=by
 rcases h with h|⟨g,cap,cur,rfl,aA,af,bg,ah⟩
 ·exact .inl h
 ·exact .inr ⟨g,cap,cur,rfl,aA,cM g (qD ⟨g,_,none⟩ _ aA).symm,hm g (qD ⟨g,_,none⟩ _ aA).symm _ bg,ah⟩
end
def kd {α:Type} (e:bq) (k:Nat) (enc:α->List ad) (v:ad) (l:List α):df where
 pH b:=some b=fX v
 ok M:=lQ 0 M e k enc v l
 hM M h b ai:=(h.known b ai).1
 loc M aS h bW:=bW.mono (λ_ _=>Nat.zero_le _) λi ak o af=>h i o ak af
def qd {α:Type} (k:Nat) (enc:α->List ad) (v:ad) (l:List α):df where
 pH b:=some b=v.ownBlock
 ok M:=dr M k enc v l/\∀b,some b=v.ownBlock->M b≠none
 hM M h b ai:=h.2 b ai
 loc M aS h bW:=by
  refine⟨?_,λb ai=> ?_⟩
  ·obtain⟨af,ah⟩:=bW
   cases af with
   |nil a c=>exact .nil a c
   |mk ai aA aH=>exact .mk (h _ _ rfl ai) aA aH
  ·cases gk:M b with
   |none=>exact absurd gk (bW.2 b ai)
   |some o=>
    rw[h b o ai gk];simp
theorem dr.arr {α:Type} {M:Mem} {k:Nat} {enc:α->List ad} {v:ad} {l:List α} (h:dr M k enc v l) (_:∀x,(enc x).length=k):dr M k enc v l:=h
structure dO (M:Mem) (L:List df):Prop where
 ok:∀(i:Nat) (R:df),L[i]? =some R->R.ok M
 two:∀(i j:Nat) (R S:df),i≠j->L[i]? =some R->L[j]? =some S->∀b,R.pH b->¬S.pH b
def jP (L:List df):Nat->Prop:=λb=>∃(i:Nat) (R:df),L[i]? =some R/\R.pH b
theorem Ox (b:Nat):¬jP [] b:=λ⟨i,R,h,_⟩=>by simp at h
theorem dO.nil (M:Mem):dO M []:=⟨λi R h=>by simp at h,λi j R S _ h=>by simp at h⟩
theorem dO.known {M:Mem} {L:List df} (h:dO M L):∀b,jP L b->M b≠none:=λb ⟨i,R,ak,ai⟩=>R.hM M (h.ok i R ak) b ai
theorem dO.mono {M aS:Mem} {L:List df} (h:dO M L) (hm:∀b o,jP L b->M b=some o->aS b=some o):dO aS L:=
 ⟨λi R ak=>R.loc M aS (λb o ai bW=>hm b o ⟨i,R,ak,ai⟩ bW) (h.ok i R ak),h.two⟩
structure dw (M:Mem) (L:List df) (aS:Mem) (L':List df):Prop where
 sp:dO aS L'
 keeps:Cg M aS (jP L)
 fresh:∀b,jP L' b->jP L b\/M b=none
structure cC (B:Nat) (e9:Mem) (cL:List df) (M:Mem) (L:List df):Prop where
 sp:dO M L
 keeps:Cg e9 M (jP cL)
 fresh:∀b,jP L b->jP cL b\/e9 b=none
 base:∀b,jP cL b\/e9 b=none->B<=b
def pick (L:List df):List Nat->List df
 |[]=>[]
 |i::is=>match L[i]? with
  |some R=>R::pick L is
  |none=>pick L is
def mB (n:Nat):List Nat->Bool
 |[]=>true
 |i::is=>Nat.blt i n&& !is.contains i&&mB n is
def oJ (L:List df):List Nat->List df->List df
 |i::is,R::sy=>oJ (L.set i R) is sy
 |_,_=>L
theorem Oy {n i:Nat} {is:List Nat} (h:mB n (i::is)=true):i<n/\i∉is/\mB n is=true:=by
 simp only [mB,fy,Bool.not_eq_true',List.contains_eq_mem,decide_eq_false_iff_not] at h;exact⟨of_decide_eq_true (by simpa [Nat.blt_eq] using h.1.1),h.1.2,h.2⟩
theorem Vn {L:List df}:∀{is:List Nat},mB L.length is=true->∀(j:Nat),(pick L is)[j]? =(is[j]?).bind λ(i:Nat)=>L[i]?
 |[],_,j=>by simp [pick]
 |i::is,h,j=>by
  obtain⟨af,ah,aH⟩:=Oy h;unfold pick;rw[ig af];cases j with
  |zero=>simp [ig af]
  |succ j=>
   simp only [List.getElem?_cons_succ];exact Vn aH j
theorem Vo {n:Nat}:∀{is:List Nat},mB n is=true->∀{j gG i:Nat},is[j]? =some i->is[gG]? =some i->j=gG
 |[],_,j,gG,i,h,_=>by simp at h
 |x::is,h,j,gG,i,af,ah=>by
  obtain⟨q1,aI,bS⟩:=Oy h;cases j with
  |zero=>
   cases gG with
   |zero=>rfl
   |succ gG=>
    simp only [List.getElem?_cons_zero,dL] at af;simp only [List.getElem?_cons_succ] at ah;subst af;exact absurd (List.mem_of_getElem? ah) aI
  |succ j=>
   simp only [List.getElem?_cons_succ] at af;cases gG with
   |zero=>
    simp only [List.getElem?_cons_zero,dL] at ah;subst ah;exact absurd (List.mem_of_getElem? af) aI
   |succ gG=>
    simp only [List.getElem?_cons_succ] at ah;rw[Vo bS af ah]
theorem Gg {L:List df} {is:List Nat} (h:mB L.length is=true) {j:Nat} {R:df} (aq:(pick L is)[j]? =some R):∃(i:Nat),is[j]? =some i/\L[i]? =some R:=by
 rw[Vn h] at aq;exact Option.bind_eq_some_iff.1 aq
theorem Kh {L:List df} {is:List Nat} (h:mB L.length is=true) {b:Nat} (ai:jP (pick L is) b):jP L b:=by
 obtain⟨j,R,aq,me⟩:=ai;obtain⟨i,_,ak⟩:=Gg h aq;exact⟨i,R,ak,me⟩
theorem dO.pick {M:Mem} {L:List df} (s:dO M L) (is:List Nat) (h:mB L.length is=true):dO M (pick L is) where
 ok j R aq:=by
  obtain⟨i,_,ak⟩:=Gg h aq;exact s.ok i R ak
 two j gG R S dU aq h4 b ai fB:=by
  obtain⟨i,af,ah⟩:=Gg h aq;obtain⟨xF,aH,ck⟩:=Gg h h4;refine s.two i xF R S (λe=> ?_) ah ck b ai fB;subst e;exact dU (Vo h af aH)
theorem Ki:∀(is:List Nat) (L sy:List df),(oJ L is sy).length=L.length
 |[],L,sy=>by unfold oJ;rfl
 |i::is,L,[]=>by unfold oJ;rfl
 |i::is,L,R::sy=>by
  unfold oJ;rw[Ki is];simp
theorem Oz:∀{is:List Nat} {L sy:List df} {m:Nat},m∉is->(oJ L is sy)[m]? =L[m]?
 |[],L,sy,m,_=>by unfold oJ;rfl
 |i::is,L,[],m,_=>by unfold oJ;rfl
 |i::is,L,R::sy,m,h=>by
  unfold oJ;rw[Oz (λhm=>h (List.mem_cons_of_mem _ hm)),List.getElem?_set,aV (λe=>h (by rw[e];exact List.mem_cons_self))]
theorem Vp {n:Nat}:∀{is:List Nat} {L sy:List df} {m:Nat} {R:df},mB n is=true->n=L.length->sy.length=is.length->m∈is->(oJ L is sy)[m]? =some R->∃(j:Nat),is[j]? =some m/\sy[j]? =some R
 |[],L,sy,m,R,_,_,_,hm,_=>by simp at hm
 |i::is,L,[],m,R,_,_,az,_,_=>by simp at az
 |i::is,L,ak'::sy,m,R,h,aT,az,hm,bg=>by
  obtain⟨q1,aI,bS⟩:=Oy h;unfold oJ at bg;by_cases ak:m∈is
  ·obtain⟨j,af,ah⟩:=Vp bS (by rw[List.length_set];exact aT) (by simpa using az) ak bg
   exact⟨j+1,by simpa using af,by simpa using ah⟩
  ·have he:m=i:=by
    rcases List.mem_cons.1 hm with h|h
    ·exact h
    ·exact absurd h ak
   subst he;rw[Oz ak,List.getElem?_set,aP rfl,aP aj] at bg;exact⟨0,rfl,bg⟩
theorem Gh {L L' N:List df} {is:List Nat} (h:mB L.length is=true) (az:L'.length=is.length) {m:Nat} {R:df} (hm:(oJ L is L'++N)[m]? =some R):
  (∃(j:Nat),(L'++N)[j]? =some R/\((is[j]? =some m/\j<is.length)\/(j=is.length+(m-L.length)/\L.length<=m)))\/(L[m]? =some R/\m∉is):=by
 by_cases c_:m<L.length
 ·rw[List.getElem?_append_left (by rw[Ki];exact c_)] at hm
  by_cases ak:m∈is
  ·obtain⟨j,af,ah⟩:=Vp h rfl az ak hm
   have aq:j<is.length:=(List.getElem?_eq_some_iff.1 af).1;exact .inl ⟨j,by rw[List.getElem?_append_left aj];exact ah,.inl ⟨af,aq⟩⟩
  ·rw[Oz ak] at hm
   exact .inr ⟨hm,ak⟩
 ·rw[List.getElem?_append_right (by rw[Ki];omega),Ki] at hm
  exact .inl ⟨is.length+(m-L.length),by rw[List.getElem?_append_right aj,az];rw[show is.length+(m-L.length)-is.length=m-L.length by omega];exact hm,.inr ⟨rfl,aj⟩⟩
section
variable {B:Nat} {e9 M aS:Mem} {cL L L' N:List df}
theorem dO.put (s:dO M L) (is:List Nat) (h:mB L.length is=true) (az:L'.length=is.length) (t:dw M (a1.pick L is) aS (L'++N)):dO aS (oJ L is L'++N):=by
 have Vq:∀(i:Nat) (R:df),L[i]? =some R->i∉is->∀b,R.pH b->¬jP (a1.pick L is) b:=λi R ak aT b ai ⟨j,S,aq,a_⟩=>by
  obtain⟨xF,af,ah⟩:=Gg h aq;exact s.two i xF R S (λe=>aT (by rw[e];exact List.mem_of_getElem? af)) ak ah b ai a_
 have hI:∀(i:Nat) (R:df),L[i]? =some R->i∉is->∀b,R.pH b->¬jP (L'++N) b:=λi R ak aT b ai jb=>by
  rcases t.fresh b jb with af|af
  ·exact Vq i R ak aT b ai af
  ·exact R.hM M (s.ok i R ak) b ai af
 refine⟨λm R hm=> ?_,λm oY R S dU hm td b ai fB=> ?_⟩
 ·rcases Gh h az hm with ⟨j,aq,_⟩|⟨ak,aT⟩
  ·exact t.sp.ok j R aq
  ·exact R.loc M aS (λb o ai bW=>t.keeps b o bW (Vq m R ak aT b ai)) (s.ok m R ak)
 ·rcases Gh h az hm with ⟨j,aq,fZ⟩|⟨ak,aT⟩
  ·rcases Gh h az td with ⟨gG,h4,OA⟩|⟨qs,Vr⟩
   ·refine t.sp.two j gG R S (λe=> ?_) aq h4 b ai fB
    subst e;rcases fZ with ⟨af,ah⟩|⟨af,ah⟩
    ·rcases OA with ⟨aH,ck⟩|⟨aH,ck⟩
     ·rw[af] at aH
      exact dU (Option.some.inj aH)
     ·omega
    ·rcases OA with ⟨aH,ck⟩|⟨aH,ck⟩
     ·omega
     ·exact dU aj
   ·exact hI oY S qs Vr b fB ⟨j,R,aq,ai⟩
  ·rcases Gh h az td with ⟨gG,h4,OA⟩|⟨qs,Vr⟩
   ·exact hI m R ak aT b ai ⟨gG,S,h4,fB⟩
   ·exact s.two m oY R S dU ak qs b ai fB
theorem ad0 (s:dO M L) {is:List Nat} (h:mB L.length is=true) (az:L'.length=is.length) (t:dw M (a1.pick L is) aS (L'++N)) {b:Nat} (ai:jP (oJ L is L'++N) b):jP L b\/M b=none:=by
 obtain⟨m,R,hm,me⟩:=ai;rcases Gh h az hm with ⟨j,aq,_⟩|⟨ak,aT⟩
 ·rcases t.fresh b ⟨j,R,aq,me⟩ with af|af
  ·exact .inl (Kh h af)
  ·exact .inr af
 ·exact .inl ⟨m,R,ak,me⟩
theorem cC.put (h:cC B e9 cL M L) (is:List Nat) (kX:mB L.length is=true) (az:L'.length=is.length) (t:dw M (a1.pick L is) aS (L'++N)):cC B e9 cL aS (oJ L is L'++N) where
 sp:=h.sp.put is kX az t
 keeps i o ak aT:=by
  have af:=h.keeps i o ak aT;refine t.keeps i o af λah=> ?_
  rcases h.fresh i (Kh kX ah) with aH|aH
  ·exact aT aH
  ·rw[ak] at aH
   cases aH
 fresh b ai:=by
  rcases ad0 h.sp kX az t ai with af|af
  ·exact h.fresh b af
  ·by_cases ah:jP cL b
   ·exact .inl ah
   ·right
    cases aH:e9 b with
    |none=>rfl
    |some o=>
     have:=h.keeps b o aH ah;rw[af] at this;cases this
 base:=h.base
theorem cC.gM (h:cC B e9 cL M L) (i:Nat) {R OB:df} (ak:L[i]? =some R) (t:dw M [R] aS [OB]):cC B e9 cL aS (L.set i OB):=by
 have c_:i<L.length:=(List.getElem?_eq_some_iff.1 ak).1;have kX:mB L.length [i]=true:=by
  simp [mB,Nat.blt_eq,c_]
 have hp:a1.pick L [i]=[R]:=by simp [a1.pick,ak]
 have:=h.put (L':=[OB]) (N:=[]) [i] kX rfl (by rw[hp];exact t);simpa [oJ] using this
theorem cC.new (h:cC B e9 cL M L) {R:df} (t:dw M [] aS [R]):cC B e9 cL aS (L++[R]):=by
 have:=h.put (L':=[]) (N:=[R]) [] J J (by exact t);simpa [oJ] using this
theorem cC.pick (h:cC B e9 cL M L) (is:List Nat) (kX:mB L.length is=true):cC B e9 cL M (a1.pick L is):=
 ⟨h.sp.pick is kX,h.keeps,λb ai=>h.fresh b (Kh kX ai),h.base⟩
theorem cC.low (h:cC B e9 cL M L):∀b,jP L b->B<=b:=λb ai=>h.base b (h.fresh b ai)
theorem cC.start (W:aG) (L:List df) (h:dO (a7 W) L):cC 0 (a7 W) L (a7 W) L:=⟨h,λ_ _ h _=>h,λ_ h=> .inl h,λ_ _=>Nat.zero_le _⟩
theorem cC.q_ (W:aG):cC W.heap.size (a7 W) [] (a7 W) []:=
 ⟨dO.nil _,λ_ _ h _=>h,λb h=>absurd h (Ox b),λb h=>by
   rcases h with h|h
   ·exact absurd h (Ox b)
   ·exact Array.getElem?_eq_none_iff.1 h⟩
theorem cC.ext (h:cC B e9 [] M L):∀i o,e9 i=some o->M i=some o:=λi o ak=>h.keeps i o ak (Ox i)
theorem cC.done {w':aG} (h:cC B e9 cL M L) (hw:∀i o,M i=some o->w'.heap[i]? =some o):dw e9 cL (a7 w') L:=
 ⟨h.sp.mono λb o _ bW=>hw b o bW,λi o ak aT=>hw i o (h.keeps i o ak aT),h.fresh⟩
theorem cC.box (h:cC B e9 cL M L) (i:Nat) {g:Nat} {ty:bq} {cs:List ad} (ak:L[i]? =some (cb g ty cs)):je B M (.pointer (some ⟨g,0,none⟩)) ty cs:=⟨g,rfl,h.low g ⟨i,_,ak,rfl⟩,h.sp.ok i _ ak⟩
theorem cC.arr (h:cC B e9 cL M L) (i:Nat) {α:Type} {e:bq} {k:Nat} {enc:α->List ad} {v:ad} {l:List α} (ak:L[i]? =some (fY e k enc v l)):eI B M e k enc v l:=
 eI.adZ (h.sp.ok i _ ak) (λj aq=>h.low j ⟨i,_,ak,aq⟩) λ_ _ _ bW=>bW
theorem cC.j8 (h:cC B e9 cL M L) (i:Nat) {α:Type} {e:bq} {k:Nat} {enc:α->List ad} {v:ad} {l:List α} (ak:L[i]? =some (kd e k enc v l)):lQ B M e k enc v l:=
 lQ.mono (h.sp.ok i _ ak) (λj aq=>h.low j ⟨i,_,ak,aq⟩) λ_ _ _ bW=>bW
theorem cC.red (h:cC B e9 cL M L) (i:Nat) {α:Type} {k:Nat} {enc:α->List ad} {v:ad} {l:List α} (ak:L[i]? =some (qd k enc v l)):dr M k enc v l:=(h.sp.ok i _ ak).1
theorem cC.any (h:cC B e9 cL M L) (i:Nat) {R:df} (ak:L[i]? =some R):R.ok M:=h.sp.ok i _ ak
end
theorem dO.box {M:Mem} {L:List df} (h:dO M L) (i:Nat) {g:Nat} {ty:bq} {cs:List ad} (ak:L[i]? =some (cb g ty cs)):je 0 M (.pointer (some ⟨g,0,none⟩)) ty cs:=⟨g,rfl,Nat.zero_le _,h.ok i _ ak⟩
theorem dO.arr {M:Mem} {L:List df} (h:dO M L) (i:Nat) {α:Type} {e:bq} {k:Nat} {enc:α->List ad} {v:ad} {l:List α} (ak:L[i]? =some (fY e k enc v l)):eI 0 M e k enc v l:=h.ok i _ ak
theorem dO.j8 {M:Mem} {L:List df} (h:dO M L) (i:Nat) {α:Type} {e:bq} {k:Nat} {enc:α->List ad} {v:ad} {l:List α} (ak:L[i]? =some (kd e k enc v l)):lQ 0 M e k enc v l:=h.ok i _ ak
theorem dO.red {M:Mem} {L:List df} (h:dO M L) (i:Nat) {α:Type} {k:Nat} {enc:α->List ad} {v:ad} {l:List α} (ak:L[i]? =some (qd k enc v l)):dr M k enc v l:=(h.ok i _ ak).1
theorem dO.one {M:Mem} {R:df} (h:R.ok M):dO M [R]:=by
 refine⟨λi S ak=> ?_,λi j S T dU ak aq=> ?_⟩
 ·cases i with
  |zero=>
   have e:=Option.some.inj (show some R=some S from ak);rw[<-e];exact h
  |succ i=>simp at ak
 ·cases i with
  |zero=>
   cases j with
   |zero=>exact absurd rfl dU
   |succ j=>simp at aq
  |succ i=>simp at ak
theorem ra {R:df} {b:Nat}:jP [R] b↔R.pH b:=by
 constructor
 ·rintro ⟨i,S,ak,ai⟩
  cases i with
  |zero=>
   have e:=Option.some.inj (show some R=some S from ak);rw[e];exact ai
  |succ i=>simp at ak
 ·intro h
  exact⟨0,R,rfl,h⟩
section
variable {M aS:Mem}
theorem lR {B g:Nat} {ty:bq} {cs cs':List ad} (dR:je B aS (.pointer (some ⟨g,0,none⟩)) ty cs') (d_:jM M aS (some g)):dw M [cb g ty cs] aS [cb g ty cs']:=
 ⟨dO.one dR.known.1,λi o ak aT=>d_ i o ak λe=>aT (ra.2 (Option.some.inj e)),λb ai=> .inl (ra.2 (show b=g from ra.1 ai))⟩
theorem rb {B g:Nat} {ty:bq} {cs:List ad} (dR:je B aS (.pointer (some ⟨g,0,none⟩)) ty cs) (aT:M g=none) (d_:jM M aS none):dw M [] aS [cb g ty cs]:=
 ⟨dO.one dR.known.1,λi o ak _=>d_ i o ak λe=>(by cases e),λb ai=> .inr (by rw[show b=g from ra.1 ai];exact aT)⟩
variable {α:Type} {B:Nat} {e:bq} {k:Nat} {enc:α->List ad} {v v':ad} {l l':List α}
theorem Ch (dR:eI B aS e k enc v' l'):(fY e k enc v' l').ok aS:=dR.mono (Nat.zero_le _) λ_ _ _ h=>h
theorem Vs (dR:lQ B aS e k enc v' l'):(kd e k enc v' l').ok aS:=dR.mono (λ_ _=>Nat.zero_le _) λ_ _ _ h=>h
theorem OC (dR:eI B aS e k enc v' l') (d_:jM M aS (fX v)) (bn:∀i,some i=fX v'->some i=fX v\/M i=none):dw M [fY e k enc v l] aS [fY e k enc v' l']:=
 ⟨dO.one (Ch dR),λi o ak aT=>d_ i o ak λe=>aT (ra.2 e),λb ai=>by
   rcases bn b (ra.1 ai) with h|h
   ·exact .inl (ra.2 h)
   ·exact .inr h⟩
theorem nL (dR:eI B aS e k enc v l') (d_:jM M aS (fX v)):dw M [fY e k enc v l] aS [fY e k enc v l']:=OC dR d_ λ_ h=> .inl h
theorem D5 (dR:lQ B aS e k enc v' l') (d_:jM M aS (fX v)) (bn:∀i,some i=fX v'->some i=fX v\/M i=none):dw M [kd e k enc v l] aS [kd e k enc v' l']:=
 ⟨dO.one (Vs dR),λi o ak aT=>d_ i o ak λe=>aT (ra.2 e),λb ai=>by
   rcases bn b (ra.1 ai) with h|h
   ·exact .inl (ra.2 h)
   ·exact .inr h⟩
theorem ad1 (dR:eI B aS e k enc v l) (d_:jM M aS none) (bn:∀i,some i=fX v->M i=none):dw M [] aS [fY e k enc v l]:=
 ⟨dO.one (Ch dR),λi o ak _=>d_ i o ak λe=>(by cases e),λb ai=> .inr (bn b (ra.1 ai))⟩
end
theorem Vt {B:Nat} {M:Mem} {w w':aG} {e9:Mem} {cL L o9 L':List df} (h:cC B e9 cL M L) (is:List Nat) (kX:mB L.length is=true) (hp:a1.pick L is=o9) (hw:∀i o,M i=some o->w.heap[i]? =some o) (cM:B<=w.heap.size) (ay:dw (a7 w) o9 (a7 w') L') (az:cO 0 w w'):
  ∃aS,dw M o9 aS L'/\D2 B M aS (jP o9) w w':=by
 subst hp;have ai:∀i,i<w.heap.size->¬jP (a1.pick L is) i->w'.heap[i]? =w.heap[i]? :=λi ak aT=>by
  have aH:a7 w i=some (w.heap[i]):=Array.getElem?_eq_getElem ak;have ck:=ay.keeps i _ aH aT;rw[Array.getElem?_eq_getElem ak];exact ck
 have hZ:∀i,jP (a1.pick L is) i->M i≠none/\B<=i:=λi ak=>⟨(h.sp.pick is kX).known i ak,h.low i (Kh kX ak)⟩
 obtain⟨t1,t2⟩:=Vl (B:=B) (M:=M) (S:=jP (a1.pick L is)) (w:=w) (w':=w') hw hZ ⟨az.below.os,az.below.tape,az.below.output⟩ az.size ai;have hI:∀b,jP L' b->((M b).isSome=true/\B<=b)\/w.heap.size<=b:=λb qy=>by
  rcases ay.fresh b qy with aH|aH
  ·obtain⟨gZ,jn⟩:=hZ b aH
   refine .inl ⟨?_,jn⟩;cases gk:M b with
   |none=>exact absurd gk gZ
   |some o=>rfl
  ·exact .inr (Array.getElem?_eq_none_iff.1 aH)
 refine⟨y1 B M w w',⟨ay.sp.mono λb o qy bW=> ?_,t2,λb qy=> ?_⟩,t1⟩
 ·rw[Ou (by
   rcases hI b qy with aH|aH
   ·exact .inl aH.1
   ·exact .inr (.inl aH))]
  exact bW
 ·rcases ay.fresh b qy with aH|aH
  ·exact .inl aH
  ·exact .inr (D3 hw (Array.getElem?_eq_none_iff.1 aH))
theorem cC.at {B:Nat} {M:Mem} {w:aG} {e9:Mem} {cL L o9:List df} (h:cC B e9 cL M L) (is:List Nat) (kX:mB L.length is=true) (hp:a1.pick L is=o9) (hw:∀i o,M i=some o->w.heap[i]? =some o):dO (a7 w) o9:=by
 subst hp;exact(h.sp.pick is kX).mono λb o _ bW=>hw b o bW
theorem ad2 {Y:Type} {P:bB} {f:FuncId} {args:Array ad} {B:Nat} {M:Mem} {w:aG} {e9:Mem} {cL L o9:List df} {hk:ad} {bC:Y->List ad} {r:Y->ad} {L':Y->List df} (h:cC B e9 cL M L) (is:List Nat) (kX:mB L.length is=true) (hp:a1.pick L is=o9) (hw:∀i o,M i=some o->w.heap[i]? =some o) (cM:B<=w.heap.size)
  (aR:∀aS y,@bb (bc aS (bC y)) hk=r y) (ez:Calls P f args w λe w'=>(∃y,e= .returned (r y)/\dw (a7 w) o9 (a7 w') (L' y))/\cO 0 w w'):
  Calls P f args w λe w'=>∃y aS,e= .returned (@bb (bc aS (bC y)) hk)/\dw M o9 aS (L' y)/\D2 B M aS (jP o9) w w':=
 ez.mono λe w' he=>by
  obtain⟨⟨y,rfl,ay⟩,az⟩:=he;obtain⟨aS,af,ah⟩:=Vt h is kX hp hw cM ay az;exact⟨y,aS,by rw[aR],af,ah⟩
end a1
namespace a1
theorem Vu {α:Type} {k:Nat} {enc:α->List ad} (ao:∀x,(enc x).length=k) {j:Nat} (aq:j<k) {ld:ad} {y:α}:∀(l:List α) (i:Nat),i<l.length->(∀x,l[i]? =some x->enc y=(enc x).set j ld)->(l.set i y).flatMap enc=(l.flatMap enc).set (i*k+j) ld
 |[],i,h,_=>by simp at h
 |x::r,0,_,hy=>by
  rw[List.set_cons_zero,List.flatMap_cons,List.flatMap_cons,hy x rfl,List.set_append_left _ _ (by rw[ao];omega),Nat.zero_mul,Nat.zero_add]
 |x::r,i+1,h,hy=>by
  rw[List.set_cons_succ,List.flatMap_cons,List.flatMap_cons,Vu ao aq r i (by simpa using h) (λz de=>hy z (by simpa using de)),List.set_append_right _ _ (by rw[ao,Nat.add_mul];omega),ao];congr 2;rw[Nat.add_mul];omega
theorem ad3 [dJ] {α:Type} {P:bB} {N B:Nat} {w0:aG} {Q:Exit->Act->aG->Prop} {M:Mem} {bM bC:List ad} {o:Option dk} {t e:bq} {k:Nat} {p x u ld:ad} {enc:α->List ad} {l l':List α} {i j:Nat} {y:α} {gp e6:ax} {c7:List bG} {dQ:gh}
  (iM:l'=l.set i y) (h:hc o=some (t,p,x)) (dV:bZ P (sizeOf t)=some 1) (ao:∀x,(enc x).length=k) (aq:j<k) (hy:∀z,l[i]? =some z->enc y=(enc z).set j ld)
  (fg:bF (b0 o) gp c7=some dQ) (iQ:e8 N gp (qa o) undef=some e6) (hp:bL p=true) (aw:bL x=true) (nn: @bb (bc M bM) p=fM u (i*k+j)) (ex: @bb (bc M bM) x=ld) (hu:ld.cells= #[ld]) (lB:ld.oneCell'=true)
  (dR:eI B M e k enc u l) (ak:i<l.length) (hm:∀aS,hD (bc M bM) (bc aS bC) dQ)
  (rest:∀aS,eI B aS e k enc u l'->jM M aS (fX u)->∀bR w,@Here (bc aS bC) _ N {sl:=e6,ms:=[],A:=cS c7} B w0 bR w->wpListIn (Fr none) 0 P (nG o) (fF P (gi o) Q) (oc o) bR w)
  (aT:dJ.jD<=c7.length:=by first|exact Nat.zero_le _|exact h3 rfl) (aA:jr (b0 o).A c7 0:=by exact jF rfl): @ia (bc M bM) _ P N B w0 Q o:=by
 subst iM;letI:=bc M bM;unfold hc at h;split at h
 ·rename_i op r ops s ks
  refine⟨_,rfl,λa w ae=> ?_⟩;split at h
  ·rename_i fk ky ha eb
   split at h
   ·rename_i nk
    cases h;have jN:=ae;obtain⟨⟨φ,ds,af,ah,aH,ck,_⟩,dd,dM⟩:=ae;unfold wpListIn;rw[sg ah.get nk,aP rfl];have es:a.eval ky=fM u (i*k+j):=(aM.kr _ hp (h_ (jE φ) ah.get ky)).trans nn;have uB:a.eval ha=ld:=(aM.kr _ aw (h_ (jE φ) ah.get ha)).trans ex;have hw:∀i o,M i=some o->w.heap[i]? =some o:=jN.qC;rcases dR with ⟨h8,rfl,rfl⟩|⟨g,cap,cur,rfl,mM,cM,gk,hle,xM,hJ,x4⟩
    ·simp at ak
    ·have bg:=hw _ _ gk
     have Gi:i*k+j<cur.size:=by
      rw[hJ];have:=Nat.mul_le_mul_right k (show i+1<=cap by omega);rw[Nat.add_mul] at this;omega
     let hL:Array ad:=(cur.toList.take (i*k+j)++[ld]++cur.toList.drop (i*k+j+1)).toArray
     have gn:hL=(cur.toList.set (i*k+j) ld).toArray:=by
      show (cur.toList.take (i*k+j)++[ld]++cur.toList.drop (i*k+j+1)).toArray=_;rw[List.set_eq_take_append_cons_drop,aP (by rw[Array.length_toList];exact Gi)];simp
     have wq:(storeCells ⟨g,i*k+j,none⟩ [ld]).run P w= .ok () (w.setRow g hL):=by
      have:=run_storeCells_at P g (i*k+j) e [ld] 0 cur w bg (by simp only [List.length_cons,List.length_nil];omega) (λv aR=>by rw[List.mem_singleton.1 aR];exact lB);simpa only [Nat.add_zero,List.length_cons,List.length_nil] using this
     have ho:(execOp a.eval op).run P w= .ok .skip (w.setRow g hL):=by
      unfold execOp;rw[eb];simp only [es,uB];show (do Instr.storeAt t (fM (.slice (some ⟨g,0,none⟩) l.length cap) (i*k+j)) ld;pure Next.skip:Sem Next).run P w=_;have eA:(Instr.storeAt t (fM (.slice (some ⟨g,0,none⟩) l.length cap) (i*k+j)) ld).run P w= .ok () (w.setRow g hL):=by
       unfold Instr.storeAt;refine ei (a:=(⟨g,0+(i*k+j),none⟩:Addr)) rfl ?_;unfold storeVar;refine ei dV ?_;rw[aV (by rw[hu];simp),hu,Nat.zero_add];exact wq
      simp only [Sem.run_bind,eA,Result.andThen_ok];rfl
     have hb:∀c',op.op≠.defer c':=λc' h=>by rw[eb] at h;cases h
     refine⟨λ_ _=>trivial,?_⟩;rw[Oper.semAt_eq _ _ _ hb,ho,Oper.uponIn_skip];have ud:fX (.slice (some ⟨g,0,none⟩) l.length cap)=some g:=qD ⟨g,0,none⟩ _ mM;obtain⟨q1,aI⟩:=uz (B:=B) (M:=M) (w':=w.setRow g hL) (T:=some g) (fQ:=some g) hw (λi ak=>by cases ak;exact⟨by rw[gk];simp,cM⟩) (λi ak=> .inl ak) ⟨rfl,rfl,rfl⟩ (c4 _) (by simp [World.setRow]) (λj _ aq=>setRow_other w g j hL (λh=>aq (by rw[h])));have sx:eI B (j7 M (w.setRow g hL) (some g) (some g)) e k enc (.slice (some ⟨g,0,none⟩) l.length cap) (l.set i y):=by
      refine .inr ⟨g,cap,hL,by rw[List.length_set],mM,cM,?_,by rw[List.length_set];exact hle,xM,by rw[gn];simpa using hJ,?_⟩
      ·unfold j7
       rw[aP rfl];exact setRow_heap w g cur hL e (0,0) bg
      ·rw[gn,List.length_set,Vu ao aq l i ak hy,<-x4]
       exact List.take_set ..
     have kc:=Here.turns (vals':=bC) fg (hm _) q1 aT aA jN;letI:=bc (j7 M (w.setRow g hL) (some g) (some g)) bC;exact rest _ sx (by rw[ud];exact aI) _ _ (Here.put (d:=op.dst) kc (v:=undef) rfl iQ)
   ·cases h
  ·cases h
 ·cases h
theorem D6 [dJ] {P:bB} {N B:Nat} {w0:aG} {Q:Exit->Act->aG->Prop} {M:Mem} {bM bC:List ad} {o:Option dk} {t ty:bq} {g j n:Nat} {p x:ad} {us cs cs':List ad} {gp e6:ax} {c7:List bG} {dQ:gh}
  (iM:cs'=cs.take j++us++cs.drop (j+n)) (h:hc o=some (t,p,x)) (dV:bZ P (sizeOf t)=some n)
  (fg:bF (b0 o) gp c7=some dQ) (iQ:e8 N gp (qa o) undef=some e6) (hp:bL p=true) (aw:bL x=true) (nn: @bb (bc M bM) p= .pointer (some ⟨g,j,none⟩)) (ex: @bb (bc M bM) x= .agg ⟨us⟩) (hu:us.length=n) (lB:∀u∈us,u.oneCell'=true)
  (dR:je B M (.pointer (some ⟨g,0,none⟩)) ty cs) (aq:j+n<=cs.length) (hm:∀aS,hD (bc M bM) (bc aS bC) dQ)
  (rest:∀aS,je B aS (.pointer (some ⟨g,0,none⟩)) ty cs'->jM M aS (some g)->∀bR w,@Here (bc aS bC) _ N {sl:=e6,ms:=[],A:=cS c7} B w0 bR w->wpListIn (Fr none) 0 P (nG o) (fF P (gi o) Q) (oc o) bR w)
  (aT:dJ.jD<=c7.length:=by first|exact Nat.zero_le _|exact h3 rfl) (aA:jr (b0 o).A c7 0:=by exact jF rfl): @ia (bc M bM) _ P N B w0 Q o:=by
 subst iM;letI:=bc M bM;unfold hc at h;split at h
 ·rename_i op r ops s ks
  refine⟨_,rfl,λa w ae=> ?_⟩;split at h
  ·rename_i fk ky ha eb
   split at h
   ·rename_i nk
    cases h;have jN:=ae;obtain⟨⟨φ,ds,af,ah,aH,ck,_⟩,dd,dM⟩:=ae;unfold wpListIn;rw[sg ah.get nk,aP rfl];have es:a.eval ky= .pointer (some ⟨g,j,none⟩):=(aM.kr _ hp (h_ (jE φ) ah.get ky)).trans nn;have uB:a.eval ha= .agg ⟨us⟩:=(aM.kr _ aw (h_ (jE φ) ah.get ha)).trans ex;have hw:∀i o,M i=some o->w.heap[i]? =some o:=jN.qC;obtain⟨gk,cM⟩:=dR.known;have bg:=hw _ _ gk
    let hL:Array ad:=(cs.take j++us++cs.drop (j+n)).toArray
    have wq:(storeCells ⟨g,j,none⟩ us).run P w= .ok () (w.setRow g hL):=by
     have:=run_storeCells_at P g j ty us 0 ⟨cs⟩ w bg (by simp only [List.size_toArray];omega) lB;simp only [Nat.add_zero,hu] at this;exact this
    have ho:(execOp a.eval op).run P w= .ok .skip (w.setRow g hL):=by
     unfold execOp;rw[eb];simp only [es,uB];show (do Instr.storeAt t (.pointer (some ⟨g,j,none⟩)) (.agg ⟨us⟩);pure Next.skip:Sem Next).run P w=_;have eA:(Instr.storeAt t (.pointer (some ⟨g,j,none⟩)) (.agg ⟨us⟩)).run P w= .ok () (w.setRow g hL):=by
      unfold Instr.storeAt;refine ei (a:=(⟨g,j,none⟩:Addr)) rfl ?_;unfold storeVar;refine ei dV ?_;rw[aV (by simp [Value.cells,hu])];exact wq
     simp only [Sem.run_bind,eA,Result.andThen_ok];rfl
    have hb:∀c',op.op≠.defer c':=λc' h=>by rw[eb] at h;cases h
    refine⟨λ_ _=>trivial,?_⟩;rw[Oper.semAt_eq _ _ _ hb,ho,Oper.uponIn_skip];obtain⟨q1,aI⟩:=uz (B:=B) (M:=M) (w':=w.setRow g hL) (T:=some g) (fQ:=some g) hw (λi ak=>by cases ak;exact⟨by rw[gk];simp,cM⟩) (λi ak=> .inl ak) ⟨rfl,rfl,rfl⟩ (c4 _) (by simp [World.setRow]) (λj _ aq=>setRow_other w g j hL (λh=>aq (by rw[h])));have sx:je B (j7 M (w.setRow g hL) (some g) (some g)) (.pointer (some ⟨g,0,none⟩)) ty (cs.take j++us++cs.drop (j+n)):=by
     refine⟨g,rfl,cM,?_⟩;unfold j7;rw[aP rfl];exact setRow_heap w g ⟨cs⟩ hL ty (0,0) bg
    have kc:=Here.turns (vals':=bC) fg (hm _) q1 aT aA jN;letI:=bc (j7 M (w.setRow g hL) (some g) (some g)) bC;exact rest _ sx aI _ _ (Here.put (d:=op.dst) kc (v:=undef) rfl iQ)
   ·cases h
  ·cases h
 ·cases h
section
variable [bp] {P:bB}
theorem aW.OD {B g o n:Nat} {ty t:bq} {cs us:List ad} {p r:ad} (dR:je B bp.dz (.pointer (some ⟨g,0,none⟩)) ty cs) (hu:us=(cs.drop o).take n) (hp:bL p=true) (ar:bL r=true) (cG:bZ P (isAgg t)=some true) (aT:bZ P (sizeOf t)=some n) (az:us.length=n) (nn:bb p= .pointer (some ⟨g,o,none⟩)) (dc:bb r= .agg ⟨us⟩):aW P (.bh t p,r):=
 aW.bh hp ar cG aT nn az (λw hw j u aq=>by
  rw[cell_of_row w g _ ⟨cs⟩ ty (0,0) (hw _ _ dR.known.1)];rw[hu,List.getElem?_take] at aq;split at aq
  ·rw[List.getElem?_drop] at aq
   simpa using aq
  ·cases aq) dc
end
theorem lQ.drop {α:Type} {B:Nat} {M:Mem} {e:bq} {k:Nat} {enc:α->List ad} (ao:∀x,(enc x).length=k) {a:Option Addr} {n c:Nat} {l:List α} (h:lQ B M e k enc (.slice a n c) l) {j:Nat} (aq:j<=n):lQ B M e k enc (.slice (lC a c j k) (n-j) (c-j)) (l.drop j):=by
 rcases h with ⟨bR,h,rfl⟩|⟨g,off,Vv,cur,h,aA,cM,gk,hle,xM,hJ,x4⟩
 ·cases h
  obtain rfl:j=0:=by omega
  exact .inl ⟨_,rfl,rfl⟩
 ·cases h
  by_cases Gi:c=j
  ·subst Gi
   have bd:l.drop c=[]:=List.drop_eq_nil_of_le hle;rw[bd];refine .inl ⟨lC (some ⟨g,off,none⟩) c c k,?_,rfl⟩;rw[show l.length-c=0 by omega,Nat.sub_self]
  ·have ad4:lC (some ⟨g,off,none⟩) c j k=some ⟨g,off+j*k,none⟩:=by
    unfold lC;rw[aV Gi];simp [Addr.ly]
   refine .inr ⟨g,off+j*k,c-j,cur,by rw[ad4,List.length_drop],aj,cM,gk,by rw[List.length_drop];omega,aj,?_,?_⟩
   ·rw[hJ,Nat.sub_mul]
    have:=Nat.mul_le_mul_right k (show j<=c by omega);omega
   ·rw[List.length_drop,Nat.sub_mul,<-List.drop_drop]
    have af:=congrArg (List.drop (j*k)) x4;rw[List.drop_take] at af;rw[af,UX ao l j]
theorem ad5 {α:Type} {P:bB} {w:aG} {B:Nat} {M:Mem} {t ty e:bq} {i:TypeInfo} {z:ad} {k bytes:Nat} (bw:P.underlying t=some (.slice e)) (ak:P.info? e=some i) (de:i.zero=some z) (hH:i.size=k) (nH:i.bytes=bytes) (q8:z.cells.size=k) (ji:0<k)
  {enc:α->List ad} (ao:∀x,(enc x).length=k) (lB:∀x,∀u∈enc x,u.oneCell'=true) {v x:ad} {l lx:List α} (dR:lQ B M e k enc v l) (aw:tA w k enc x lx) (hw:∀i o,M i=some o->w.heap[i]? =some o) (cM:B<=w.heap.size)
  (o5:l.length+lx.length<=maxLen) (mN:(l.length+lx.length)*bytes<=140737488355328):
  ∃v' w' aS,(Builtin.append_ #[t,t] ty #[v,x]).run P w= .ok v' w'/\lQ B aS e k enc v' (l++lx)/\DX B M aS (fX v) w w'/\jM M aS (fX v)/\∀j,some j=fX v'->some j=fX v\/M j=none:=by
 have Vw:∀{a:Option Addr},v= .slice a 0 0->l=[]->∃v' w' aS,(Builtin.append_ #[t,t] ty #[v,x]).run P w= .ok v' w'/\lQ B aS e k enc v' (l++lx)/\DX B M aS (fX v) w w'/\jM M aS (fX v)/\∀j,some j=fX v'->some j=fX v\/M j=none:=by
  intro a cG az;subst az;subst cG;have Vx:eI B M e k enc (.slice a 0 0) []:= .inl ⟨a,rfl,rfl⟩;obtain⟨v',w',aS,q1,aI,bS,fo⟩:=N_ (ty:=ty) bw ak de hH nH q8 ji ao lB Vx aw hw cM o5 mN;refine⟨v',w',aS,q1,aI.queue,bS,fo,λj aq=> ?_⟩;rcases UY bw ak de hH nH q8 ji ao lB Vx aw hw o5 mN q1 j aq with h|h
  ·exact .inl h
  ·exact .inr (D3 hw h)
 rcases dR with ⟨a,rfl,rfl⟩|⟨g,off,cap,cur,rfl,mM,OE,gk,hle,xM,hJ,x4⟩
 ·exact Vw J J
 clear Vw;obtain⟨bO,c,rfl,yV,ll⟩:=aw;have ud:fX (.slice (some ⟨g,off,none⟩) l.length cap)=some g:=qD ⟨g,off,none⟩ _ mM;have dR:lQ B M e k enc (.slice (some ⟨g,off,none⟩) l.length cap) l:= .inr ⟨g,off,cap,cur,rfl,mM,OE,gk,hle,xM,hJ,x4⟩;by_cases hm:lx=[]
 ·subst hm
  refine⟨_,w,M,N8 bw ak hle,by rw[List.append_nil];exact dR,⟨λi ak=>dR.known i ak,rfl,rfl,rfl,c4 _,c4 _,λ_ _ _=>rfl,λi o h=>⟨hw i o h,.inl (by rw[h];simp)⟩⟩,λi o h _=>h,λj h=> .inl h⟩
 ·cases bO with
  |none=>exact absurd (yV rfl) hm
  |some h8=>
   have hlen:=uy ao lx;have u_:0<lx.length:=List.length_pos_iff.2 hm;have af:∀u∈lx.flatMap enc,u.oneCell'=true:=λu hu=>by
    obtain⟨y,_,hy⟩:=List.mem_flatMap.1 hu;exact lB y u hy
   have bg:=hw _ _ gk;subst hH;subst nH;have hZ:∀i,some i=some g->M i≠none/\B<=i:=λi ak=>by
    cases ak;exact⟨by rw[gk];simp,OE⟩
   rw[ud];by_cases DY:l.length+lx.length<=cap
   ·have Tj:=Nat.mul_le_mul_right i.size DY
    rw[Nat.add_mul] at Tj;have rK:off+l.length*i.size+(lx.flatMap enc).length<=cur.size:=by rw[hlen,hJ];omega
    let hL:Array ad:=(cur.toList.take (off+l.length*i.size)++lx.flatMap enc++cur.toList.drop (off+l.length*i.size+(lx.flatMap enc).length)).toArray
    have ho:(Builtin.append_ #[t,t] ty #[.slice (some ⟨g,off,none⟩) l.length cap,.slice (some h8) lx.length c]).run P w= .ok (.slice (some ⟨g,off,none⟩) (l.length+lx.length) cap) (w.setRow g hL):=by
     have bn:=run_firstCells_some (P:=P) w i.size lx.length h8 lx.length c _ hlen (ll h8 rfl);have eA:=run_storeCells_at P g (off+l.length*i.size) e (lx.flatMap enc) 0 cur w bg (by simpa using rK) af;simp only [Nat.add_zero] at eA;simp [Builtin.append_,run_underlying bw,sizeOf,typeInfo,ak,Builtin.lenOf,DY,bn,Addr.ly,eA,hL]
    have NU:hL.size=cur.size:=by
     simp only [hL,List.size_toArray,List.length_append,List.length_take,List.length_drop,Array.length_toList];omega
    obtain⟨q1,aI⟩:=uz (B:=B) (M:=M) (w':=w.setRow g hL) (T:=some g) (fQ:=some g) hw hZ (λi ak=> .inl ak) ⟨rfl,rfl,rfl⟩ (c4 _) (by simp [World.setRow]) (λj _ aq=>setRow_other w g j hL (λh=>aq (by rw[h])));refine⟨_,_,_,ho,.inr ⟨g,off,cap,hL,by rw[List.length_append],mM,OE,?_,by rw[List.length_append];exact DY,xM,by rw[NU,hJ],?_⟩,q1,aI,λj aq=> ?_⟩
    ·unfold j7
     rw[aP rfl];exact setRow_heap w g cur hL e (0,0) bg
    ·have ad6:(cur.toList.drop off).length=cap*i.size:=by
      rw[List.length_drop,Array.length_toList (xs:=cur),hJ];omega
     have ad7:((cur.toList.drop off).take (l.length*i.size)).length=l.length*i.size:=by
      rw[List.length_take,ad6];omega
     have ak_:(cur.toList.take (off+l.length*i.size)).length=off+l.length*i.size:=by
      rw[List.length_take,Array.length_toList (xs:=cur),hJ];omega
     have cw:hL.toList.drop off=(cur.toList.drop off).take (l.length*i.size)++(lx.flatMap enc++cur.toList.drop (off+l.length*i.size+(lx.flatMap enc).length)):=by
      show ((cur.toList.take (off+l.length*i.size)++lx.flatMap enc++_)).drop off=_;rw[List.append_assoc,List.drop_append_of_le_length aj,List.drop_take,show off+l.length*i.size-off=l.length*i.size by omega]
     rw[cw,List.length_append,List.flatMap_append,<-x4,<-List.append_assoc];exact List.take_left' (by rw[List.length_append,ad7,hlen,Nat.add_mul])
    ·exact .inl (by rw[qD ⟨g,off,none⟩ _ mM] at aq;exact aq)
   ·have holds:∀j u,(l.flatMap enc)[j]? =some u->w.cell? ((⟨g,off,none⟩:Addr).add j)=some u:=λj u aq=>by
     rw[Addr.ly,cell_of_row w _ _ _ _ _ bg];rw[<-x4,List.getElem?_take] at aq;split at aq
     ·rw[List.getElem?_drop] at aq
      simpa using aq
     ·cases aq
    have N':l.length+lx.length<=9223372036854775807:=by simp only [maxLen] at o5;omega
    have ho:=run_append_grow (P:=P) w t ty e i z bw ak de ⟨g,off,none⟩ l.length cap _ (uy ao l) holds h8 lx.length c _ hlen (ll h8 rfl) aj aj (growslice_fits aj mN);have lJ:=grownCap_ge w (l.length+lx.length) cap e;have UR:=grownCap_le_maxLen w (l.length+lx.length) cap e o5;obtain⟨q1,aI⟩:=uz (B:=B) (M:=M) (w:=w) (w':=w.drew.alloc (.cells ((l.flatMap enc).toArray++(lx.flatMap enc).toArray++Builtin.zeroCells z.cells (grownCap w (l.length+lx.length) cap e-(l.length+lx.length))) e)) (T:=some g) (fQ:=some w.heap.size) hw hZ (λi ak=>by cases ak;exact .inr (c4 _)) ⟨rfl,rfl,rfl⟩ (c4 _) (by simp) (λj aq _=>heap_alloc_old w.drew _ aq);refine⟨_,_,_,ho,.inr ⟨w.heap.size,0,grownCap w (l.length+lx.length) cap e,(l.flatMap enc).toArray++(lx.flatMap enc).toArray++Builtin.zeroCells z.cells (grownCap w (l.length+lx.length) cap e-(l.length+lx.length)),by rw[List.length_append],aj,cM,?_,by rw[List.length_append];exact lJ,UR,?_,?_⟩,q1,aI,λj aq=> ?_⟩
    ·unfold j7
     rw[aP rfl];exact heap_alloc_new w.drew _
    ·simp only [Array.size_append,List.size_toArray,size_zeroCells,q8,uy ao,<-Nat.add_mul]
     rw[Nat.zero_add];congr 1;omega
    ·simp only [Array.toList_append,List.append_assoc,List.drop_zero]
     rw[List.length_append,List.flatMap_append,<-List.append_assoc];exact List.take_left' (by rw[List.length_append,uy ao,uy ao,Nat.add_mul])
    ·right
     have:j=w.heap.size:=by
      rw[qD _ _ (show 0<grownCap w (l.length+lx.length) cap e by omega)] at aq;exact Option.some.inj aq
     exact D3 hw aj
theorem OF [dJ] {α:Type} {P:bB} {N B:Nat} {w0:aG} {Q:Exit->Act->aG->Prop} {M:Mem} {bM:List ad} {o:Option dk} {t e:bq} {k bytes:Nat} {i:TypeInfo} {z a8 my hk:ad} {enc:α->List ad} {l lx l':List α} {bC:Option Addr->Nat->List ad} {gp e6:ax} {c7:List bG} {dQ:gh}
  (iM:l'=l++lx) (h:q9 t o=some (a8,my)) (bw:P.underlying t=some (.slice e)) (ak:P.info? e=some i) (de:i.zero=some z) (hH:i.size=k) (nH:i.bytes=bytes) (q8:z.cells.size=k) (ji:0<k) (ao:∀x,(enc x).length=k) (lB:∀x,∀u∈enc x,u.oneCell'=true)
  (fg:bF (b0 o) gp c7=some dQ) (iQ:e8 N gp (qa o) hk=some e6) (gH:bL hk=true) (T:Option Nat)
  (dR:∀φ w v,@cB (bc M bM) φ (b0 o).A w-> @aM (bc M bM) φ a8 v->lQ B M e k enc v l/\fX v=T)
  (mP:∀φ w x,@cB (bc M bM) φ (b0 o).A w-> @aM (bc M bM) φ my x->tA w k enc x lx)
  (o5:l.length+lx.length<=maxLen) (mN:(l.length+lx.length)*bytes<=140737488355328)
  (hm:∀aS a c,hD (bc M bM) (bc aS (bC a c)) dQ) (aR:∀aS a c,@bb (bc aS (bC a c)) hk= .slice a l'.length c)
  (rest:∀aS a c,lQ B aS e k enc (.slice a l'.length c) l'->jM M aS T->(∀i,some i=fX (.slice a l'.length c)->some i=T\/M i=none)->∀bR w,@Here (bc aS (bC a c)) _ N {sl:=e6,ms:=[],A:=cS c7} B w0 bR w->wpListIn (Fr none) 0 P (nG o) (fF P (gi o) Q) (oc o) bR w)
  (aT:dJ.jD<=c7.length:=by first|exact Nat.zero_le _|exact h3 rfl) (aA:jr (b0 o).A c7 0:=by exact jF rfl): @ia (bc M bM) _ P N B w0 Q o:=by
 subst iM;letI:=bc M bM;unfold q9 at h;split at h
 ·rename_i op r ops s ks
  refine⟨_,rfl,λa w ae=> ?_⟩;split at h
  ·rename_i eN eb
   split at h
   ·rename_i oG ha q2 hW
    cases OG:decide (eN.argTypes= #[t,t]) with
    |false=>rw[OG] at h;cases h
    |true=>
     rw[OG,cN] at h;have yW:=of_decide_eq_true OG;split at h
     ·rename_i nk
      cases h;have jN:=ae;obtain⟨⟨φ,ds,af,ah,aH,ck,_⟩,dd,dM⟩:=ae;unfold wpListIn;rw[sg ah.get nk,aP rfl];have hw:∀i o,M i=some o->w.heap[i]? =some o:=jN.qC;obtain⟨Gj,kW⟩:=dR φ w (a.eval oG) aH (h_ (jE φ) ah.get oG);have rf:=mP φ w (a.eval ha) aH (h_ (jE φ) ah.get ha);obtain⟨v',w',aS,g1,g2,g3,g4,mb⟩:=ad5 (ty:=op.type) bw ak de hH nH q8 ji ao lB Gj rf hw dM o5 mN;obtain⟨Gk,Gl,rfl⟩:=g2.slice;rw[kW] at g3 g4 mb;have ho:(execOp a.eval op).run P w= .ok (.value (.slice Gk (l++lx).length Gl)) w':=by
       unfold execOp resolve;rw[eb];simp only [q2,hW,yW,List.map_toArray,List.map_cons,List.map_nil];show (do pure (Next.value (<-Builtin.append_ #[t,t] op.type #[a.eval oG,a.eval ha])):Sem Next).run P w=_;simp only [Sem.run_bind,g1,Result.andThen_ok];rfl
      have hb:∀c',op.op≠.defer c':=λc' h=>by rw[eb] at h;cases h
      refine⟨λ_ _=>trivial,?_⟩;rw[Oper.semAt_eq _ _ _ hb,ho,Oper.uponIn_value];have kc:=Here.turns (vals':=bC Gk Gl) fg (hm aS Gk Gl) g3 aT aA jN;letI:=bc aS (bC Gk Gl);have pG:=Here.put (d:=op.dst) kc (v:=hk) gH iQ;rw[aR] at pG;exact rest aS Gk Gl g2 g4 mb _ w' pG
     ·cases h
   ·cases h
  ·cases h
 ·cases h
theorem OH {α:Type} {B:Nat} {M:Mem} {bM:List ad} {a8:ad} {A:bx} {e:bq} {k:Nat} {enc:α->List ad} {v:ad} {l:List α} (hp:bL a8=true) (b5: @bb (bc M bM) a8=v) (dR:lQ B M e k enc v l):
  ∀φ w x,@cB (bc M bM) φ A w-> @aM (bc M bM) φ a8 x->lQ B M e k enc x l/\fX x=fX v:=λφ w x _ aw=>by
 letI:=bc M bM;have bs:=(aM.kr a8 hp aw).trans b5;subst bs;exact⟨dR,rfl⟩
end a1
end Go.Proofs.YtepcfjbfkedlpaaDoor
