/- Parts of the proof. -/
import Derived.Test.YtepcfjbfkedlpaaDoorOr1
import Derived.LoopNIn
import Derived.Laws.Sem
import Derived.Below
import Derived.Test.YtepcfjbfkedlpaaDoorProg
import Derived.KernelRfl
import Derived.Laws.Entries
import Derived.Laws.StructEq
import Derived.IntWalk
import Derived.Laws.AppendOwn
import Derived.Laws.Small
import Derived.OrdersIn
import Derived.Lib.SliceRun
import Derived.Laws.Slices
import Derived.Laws.Strings2
import Derived.Laws.Concat
import Derived.ChangeKeysEq
import Derived.Test.YtepcfjbfkedlpaaDoorRows
import Derived.ProofKit
import Derived.Lay
import Derived.SevenTiedAt
import Derived.Carry
import Derived.Lib.SmallJoins
import Derived.Deep.Slices
import Derived.LaidSub
set_option maxRecDepth 100000
set_option maxHeartbeats 4000000
namespace Go.Proofs.YtepcfjbfkedlpaaDoor
open Go
namespace AE
variable [a7]
structure r0 (gl:bR Nat) (N:Nat) (ds:List Deferred) (ops:Array Oper) (m:Nat) (B:Nat->a') (vs:List J) (fx:bV) (w0:ax) (a0:Act) (φ:bV) (listed:Array Bool) (a:Act) (w:ax):Prop where
 size:listed.size=ops.size
 down:∀i j,listed.getD i false=true->direct ops i j=true->listed.getD j false=true
 sN:∀i,m<=i->listed.getD i false=false
 defers:a.defers=ds
 mf:a.tmps.size=N
 rel:bU φ (B m) w
 old:∀b,b<(B 0).n->φ b=fx b
 mapped:∀b e,(B 0).n<=b->φ b=some e->∃j,j<m/\listed.getD j false=true/\own B j b
 total:∀j b,j<m->listed.getD j false=true->own B j b->φ b≠none
 new:∀b e,(B 0).n<=b->φ b=some e->w0.heap.size<=e.bk
 Nu:∀j b e b' e',j<m->own B j b->¬own B j b'->φ b=some e->φ b'=some e'->e.bk≠e'.bk
 keep:∀i,i<w0.heap.size->(∀b e k,fx b=some e->e.bk=i->(B 0).bl.get b=some k->k.ro=true)->w.heap[i]? =w0.heap[i]?
 gD:w0.heap.size<=w.heap.size
 os:w.os=w0.os
 tape:w.tape=w0.tape
 output:w.output=w0.output
 drawn:ic w0<=ic w
 other:∀t,(∀i,i<m->listed.getD i false=true->ft ops i≠some t)->a.tmps.getD t undef=a0.tmps.getD t undef
 val:∀i t,i<m->listed.getD i false=true->ft ops i=some t->aD (restrict φ (B (i+1)).n) (vs.getD i cp) (a.tmps.getD t undef)
omit [a7] in
theorem uk {φ:bV} {n b:Nat} {e:hz} (h:restrict φ n b=some e):b<n/\φ b=some e:=by
 unfold restrict at h;by_cases ae:b<n
 ·rw[aQ ae] at h;exact⟨ae,h⟩
 ·rw[aU ae] at h;cases h
omit [a7] in
theorem Vi {φ:bV} {n fS:Nat} (h:n<=fS):∀b e,restrict φ n b=some e->restrict φ fS b=some e:=λb e ae=>by
 obtain⟨ad,af⟩:=uk ae;unfold restrict;rw[aQ ar];exact af
section
variable {P:aR} [Lib P] [dS P] {C:h8} {gl:bR Nat} {N:Nat} {ds:List Deferred} {ops:Array Oper} {m:Nat} {dj mg:aG} {B:Nat->a'} {vs:List J} {fx φ:bV} {w0 w:ax} {a0 a:Act} {listed:Array Bool}
theorem r0.done (iI:pb fx B vs m) (kY:bU fx (B 0) w0) (zy:fw N ds fx mg a0) (bg:r0 gl N ds ops m B vs fx w0 a0 φ listed a w) (la:∀i,i<m->listed.getD i false=true)
  (eX:hB N ops (λ_=>cp) (List.range m) mg=some dj) {eE:aG} (ad:hB N ops (λj=>vs.getD j cp) (List.range m) dj=some eE):
  fw N ds φ eE a/\cw fx (B 0) w0 φ (B m) w:=by
 have sO:∀b e,fx b=some e->φ b=some e:=λb e ae=>by rw[bg.old b (kY.lt ae)];exact ae
 refine⟨⟨bg.mf,bg.defers,λt v aC=> ?_⟩,?_⟩
 ·rcases oI _ _ _ ad t v aC with ⟨j,hj,bc,rfl⟩|⟨av,aA⟩
  ·have e6:=List.mem_range.1 hj
   exact(bg.val j t e6 (la j e6) bc).mono λb e ae=>(uk ae).2
  ·rcases oI _ _ _ eX t v aA with ⟨j,hj,bc,rfl⟩|⟨_,vn⟩
   ·exact .cp _
   ·rw[bg.other t λi ag _=>av i (List.mem_range.2 ag)]
    exact(zy.get t v vn).mono sO
 ·refine {rel:=bg.rel,eo:=bg.old,rO:=λb ae dR=> ?_,new:=λb e ae he=> .inl (bg.new b e ae he),qi:=iI.sQ (Nat.zero_le _) (b2 _),low:=by rw[iI.aeF (b2 _)];exact b2 _,
          same:=λb ae _=>iI.wU (Nat.zero_le _) (b2 _) b ae,ro:=λb k aj _=> ?_,keep:=bg.keep,gD:=bg.gD,os:=bg.os,tape:=bg.tape,output:=bg.output,drawn:=bg.drawn}
  ·obtain⟨j,hj,ho⟩:=iI.Vh (b2 _) ae dR
   exact bg.total j b hj (la j hj) ho
  ·rw[iI.wU (Nat.zero_le _) (b2 _) b (kY.wf.lt b k aj)];exact aj
theorem r0.here (iI:pb fx B vs m) (kY:bU fx (B 0) w0) (Vj:(B m).n<=dead) (bg:r0 gl N ds ops m B vs fx w0 a0 φ listed a w) {i:Nat} (ag:i<m):bU (restrict φ (B i).n) (B i) w:=by
 obtain⟨ψ,w',g1,g2,g3,_⟩:=iI.ex i ar;have bc:∀b e,φ b=some e->b≠dead:=λb e ae ah=>by
  have:=bg.rel.lt ae;omega
 have gF:∀b,b<(B i).n->(B m).bl.get b=(B i).bl.get b:=λb ae=>iI.wU ar (b2 _) b ae
 refine⟨g1.wf,λb e ae=> ?_,λb e k b' e' k' ae dR aj dt cO=> ?_,λb e k b' e' k' ae dR aj dt aO jz=> ?_,λi o ag=>⟨(bg.rel.df i o ag).1,λb e ae=>(bg.rel.df i o ag).2 b e (uk ae).2⟩⟩
 ·obtain⟨b8,h1⟩:=uk ae
  obtain⟨k,aj,ad,af⟩:=bg.rel.eo b e h1;rw[gF b b8] at aj;refine⟨k,aj,ad,?_⟩;have rZ:ψ b≠none:=by
   rcases Nat.lt_or_ge b (B 0).n with aM|aM
   ·rw[g2 b aM,<-bg.old b aM,h1];simp
   ·exact g3 b aM b8
  obtain⟨e',oH⟩:=Option.ne_none_iff_exists'.1 rZ;obtain⟨k',dt,_,ay⟩:=g1.eo b e' oH;rw[aj] at dt;cases dt;exact af.restrict bc (λb e ae=>g1.lt ae) ay
 ·obtain⟨b8,h1⟩:=uk ae
  obtain⟨rS,sS⟩:=uk dR;exact bg.rel.apart b e k b' e' k' h1 sS ((gF b b8).trans aj) ((gF b' rS).trans dt) cO
 ·obtain⟨b8,h1⟩:=uk ae
  obtain⟨rS,sS⟩:=uk dR;exact bg.rel.along b e k b' e' k' h1 sS ((gF b b8).trans aj) ((gF b' rS).trans dt) aO jz
theorem r0.step (iI:pb fx B vs m) (kY:bU fx (B 0) w0) (bg:r0 gl N ds ops m B vs fx w0 a0 φ listed a w) {i:Nat} {o:Oper} (ag:i<m) (hm:m<=ops.size) (ho:ops[i]? =some o) (sT:listed.getD i false=false)
  (um:∀k,direct ops i k=true->listed.getD k false=true) (mj:∀i j,i<m->j<m->i≠j->∀t,ft ops i=some t->ft ops j≠some t) (b8:∀i t,i<m->ft ops i=some t->t<N)
  {bB:a'} (mF:(B i).n<=bB.low) (sP:B (i+1)={bB with low:=(B i).low}) {cZ:bV} {aB:J} {w':ax} (aC:aD cZ (vs.getD i cp) aB) (cP:cw (restrict φ (B i).n) {B i with low:=(B i).n} w cZ bB w'):
  ∃fh,r0 gl N ds ops m B vs fx w0 a0 fh (listed.setIfInBounds i true) (a.put o.dst aB) w':=by
 have jb:(B (i+1)).n=bB.n:=by rw[sP]
 have aeI:(B (i+1)).bl=bB.bl:=by rw[sP]
 have kZ:ft ops i=o.dst:=by simp [ft,ho]
 have e9:∀j,(listed.setIfInBounds i true).getD j false=true↔j=i\/listed.getD j false=true:=by
  intro j;by_cases hj:j=i
  ·subst hj
   have:=bg.size;simp [fb,show j<listed.size by omega]
  ·rw[getD_set_ne false (Ne.symm hj)]
   simp [hj]
 let fh:bV:=λb=>if b<(B i).n then φ b else if b<(B (i+1)).n then cZ b else φ b
 have Fz:∀b,b<(B i).n->fh b=φ b:=λb ae=>aQ ae
 have Jf:∀b,own B i b->fh b=cZ b:=λb ae=>by
  show (if _ then _ else if _ then _ else _)=_;rw[aU (by unfold own at ae;omega),aQ ae.2]
 have Nv:∀b,(B (i+1)).n<=b->fh b=φ b:=λb ae=>by
  have:=iI.Je i ag;show (if _ then _ else if _ then _ else _)=_;rw[aU ar,aU ar]
 have me:∀b,b<(B i).n\/own B i b\/(B (i+1)).n<=b:=λb=>by unfold own;omega
 have Vk:∀b,b<(B i).n->cZ b=φ b:=λb ae=>by
  rw[cP.eo b ae];unfold restrict;rw[aQ ae]
 have Vl:∀b e,cZ b=some e->b<(B (i+1)).n:=λb e ae=>by rw[jb];exact cP.rel.lt ae
 have Vm:∀b e,cZ b=some e->fh b=some e:=λb e ae=>by
  have:=Vl b e ae;rcases me b with h|h|h
  ·rw[Fz b h,<-Vk b h];exact ae
  ·rw[Jf b h];exact ae
  ·omega
 have aeJ:∀b,own B i b->φ b=none:=λb ae=>by
  cases h:φ b with
  |none=>rfl
  |some e=>
   exfalso;have aM:(B 0).n<=b:=Nat.le_trans (iI.sQ (Nat.zero_le i) ar) ae.1;obtain⟨j,hj,mJ,h6⟩:=bg.mapped b e aM h;have:=iI.Vg ag hj ae h6;subst this;rw[sT] at mJ;cases mJ
 have Nw:∀b e,φ b=some e->fh b=some e:=λb e ae=>by
  rcases me b with h|h|h
  ·rw[Fz b h];exact ae
  ·rw[aeJ b h] at ae;cases ae
  ·rw[Nv b h];exact ae
 have aeK:∀b e,own B i b->cZ b=some e->w.heap.size<=e.bk:=λb e ae he=>by
  rcases cP.new b e ae.1 he with h|⟨cB,e0,d',q1,_,ca,_,_⟩
  ·exact h
  ·exfalso
   have:=(uk q1).1;omega
 have apj:(B 0).n<=(B i).n:=iI.sQ (Nat.zero_le i) ar;have FA:∀b,b<(B (i+1)).n->(B m).bl.get b=bB.bl.get b:=λb ae=>by rw[iI.wU ar (b2 _) b ae,aeI]
 have Nx:∀b e,φ b=some e->e.bk<w.heap.size:=λb e ae=>by
  obtain⟨k,_,_,af⟩:=bg.rel.eo b e ae;exact af.lt
 have Vn:∀b e,fh b=some e->(b<(B (i+1)).n/\cZ b=some e)\/((B (i+1)).n<=b/\φ b=some e):=λb e ae=>by
  have:=iI.Je i ag;rcases me b with h|h|h
  ·rw[Fz b h,<-Vk b h] at ae;exact .inl ⟨ar,ae⟩
  ·rw[Jf b h] at ae;exact .inl ⟨h.2,ae⟩
  ·rw[Nv b h] at ae;exact .inr ⟨h,ae⟩
 have wV:∀b e,fh b=some e->(own B i b/\cZ b=some e/\w.heap.size<=e.bk)\/(¬own B i b/\φ b=some e/\e.bk<w.heap.size):=λb e ae=>by
  rcases me b with h|h|h
  ·rw[Fz b h] at ae;exact .inr ⟨by unfold own;omega,ae,Nx b e ae⟩
  ·rw[Jf b h] at ae;exact .inl ⟨h,ae,aeK b e h ae⟩
  ·rw[Nv b h] at ae;exact .inr ⟨by unfold own;omega,ae,Nx b e ae⟩
 have aeL:∀b e,(B (i+1)).n<=b->φ b=some e->w'.heap[e.bk]? =w.heap[e.bk]? :=λb e ae he=>by
  have aM:(B 0).n<=b:=by have:=iI.Je i ag;omega
  obtain⟨j,hj,mJ,h6⟩:=bg.mapped b e aM he;refine cP.keep e.bk (Nx b e he) λcB e0 d' e7 qX _=> ?_
  exfalso;obtain⟨apk,aeM⟩:=uk e7;refine bg.Nu j b e cB e0 hj h6 (λah=> ?_) he aeM qX.symm;have n7:i+1<=j:=by
   rcases Nat.lt_or_ge i j with h|h
   ·exact h
   ·exfalso
    have:=iI.sQ (i:=j+1) (j:=i+1) ar ar;unfold own at h6;omega
  have:=iI.sQ (i:=i) (j:=j) ar ar;unfold own at ah;omega
 refine⟨fh,by simpa using bg.size,?_,?_,by rw[Act.Dg];exact bg.defers,by rw[Act.size_put];exact bg.mf,⟨bg.rel.wf,?_,?_,?_,λi o ag=>⟨(cP.rel.df i o ag).1,λb e ae=>by
   rcases Vn b e ae with ⟨_,h⟩|⟨_,h⟩
   ·exact(cP.rel.df i o ag).2 b e h
   ·exact(bg.rel.df i o ag).2 b e h⟩⟩,?_,?_,?_,?_,?_,?_,Nat.le_trans bg.gD cP.gD,cP.os.trans bg.os,cP.tape.trans bg.tape,cP.output.trans bg.output,Nat.le_trans bg.drawn cP.drawn,?_,?_⟩
 ·intro j k hj bc
  rw[e9] at hj ⊢;rcases hj with rfl|hj
  ·exact .inr (um k bc)
  ·exact .inr (bg.down j k hj bc)
 ·intro j hj
  rw[getD_set_ne false ar];exact bg.sN j hj
 ·
  intro b e ae;rcases Vn b e ae with ⟨lS,dR⟩|⟨lS,dR⟩
  ·obtain⟨k,aj,ad,af⟩:=cP.rel.eo b e dR
   exact⟨k,(FA b lS).trans aj,ad,af.mono Vm rfl⟩
  ·obtain⟨k,aj,ad,af⟩:=bg.rel.eo b e dR
   exact⟨k,aj,ad,af.mono Nw (aeL b e lS dR)⟩
 ·
  intro b e k b' e' k' ae dR aj dt cO;rcases wV b e ae with ⟨jd,gV,q1⟩|⟨jd,gV,q1⟩<;>rcases wV b' e' dR with ⟨kW,gO,aE⟩|⟨kW,gO,aE⟩
  ·exact cP.rel.apart b e k b' e' k' gV gO ((FA b jd.2).symm.trans aj) ((FA b' kW.2).symm.trans dt) cO
  ·omega
  ·omega
  ·exact bg.rel.apart b e k b' e' k' gV gO aj dt cO
 ·intro b e k b' e' k' ae dR aj dt aO jz
  rcases wV b e ae with ⟨jd,gV,q1⟩|⟨jd,gV,q1⟩<;>rcases wV b' e' dR with ⟨kW,gO,aE⟩|⟨kW,gO,aE⟩
  ·exact cP.rel.along b e k b' e' k' gV gO ((FA b jd.2).symm.trans aj) ((FA b' kW.2).symm.trans dt) aO jz
  ·omega
  ·omega
  ·exact bg.rel.along b e k b' e' k' gV gO aj dt aO jz
 ·intro b ae
  rw[Fz b ar];exact bg.old b ae
 ·intro b e aM ae
  rcases wV b e ae with ⟨jd,gV,_⟩|⟨jd,gV,_⟩
  ·exact⟨i,ag,(e9 i).2 (.inl rfl),jd⟩
  ·obtain⟨j,hj,mJ,h6⟩:=bg.mapped b e aM gV
   exact⟨j,hj,(e9 j).2 (.inr mJ),h6⟩
 ·intro j b hj hl h6
  rcases(e9 j).1 hl with rfl|hl
  ·rw[Jf b h6]
   exact cP.rO b h6.1 (by rw[<-jb];exact h6.2)
  ·obtain⟨e,he⟩:=Option.ne_none_iff_exists'.1 (bg.total j b hj hl h6)
   rw[Nw b e he];simp
 ·intro b e aM ae
  rcases wV b e ae with ⟨jd,gV,q1⟩|⟨jd,gV,_⟩
  ·exact Nat.le_trans bg.gD q1
  ·exact bg.new b e aM gV
 ·
  intro j b e b' e' hj h6 Vo ae dR;rcases wV b e ae with ⟨jd,gV,q1⟩|⟨jd,gV,q1⟩<;>rcases wV b' e' dR with ⟨kW,gO,aE⟩|⟨kW,gO,aE⟩
  ·exfalso
   have:=iI.Vg hj ag h6 jd;subst this;exact Vo kW
  ·omega
  ·omega
  ·exact bg.Nu j b e b' e' hj h6 Vo gV gO
 ·
  intro k aj la;rw[cP.keep k (Nat.lt_of_lt_of_le aj bg.gD) ?_,bg.keep k aj la];intro b e eK ae he x9;obtain⟨apl,Vp⟩:=uk ae;rcases Nat.lt_or_ge b (B 0).n with aM|aM
  ·refine la b e eK ?_ he ?_
   ·rw[<-bg.old b aM];exact Vp
   ·rw[<-iI.wU (Nat.zero_le i) ar b aM];exact x9
  ·have:=bg.new b e aM Vp
   omega
 ·
  intro t h;have q8:o.dst≠some t:=λah=>h i ag ((e9 i).2 (.inl rfl)) (kZ.trans ah)
  have:(a.put o.dst aB).tmps.getD t undef=a.tmps.getD t undef:=by
   rcases Nat.lt_or_ge t a.tmps.size with kt|kt
   ·rw[Act.sM _ _ _ _ kt,aU q8]
   ·simp [fb,Array.getElem?_eq_none kt,Array.getElem?_eq_none (show (a.put o.dst aB).tmps.size<=t by rw[Act.size_put];exact kt)]
  rw[this];exact bg.other t λj hj hl=>h j hj ((e9 j).2 (.inr hl))
 ·intro j t hj hl bc
  by_cases dT:j=i
  ·subst dT
   have kt:t<N:=b8 j t hj bc;have:(a.put o.dst aB).tmps.getD t undef=aB:=by
    rw[Act.sM _ _ _ _ (by rw[bg.mf];exact kt),aQ (kZ.symm.trans bc)]
   rw[this];refine aC.mono λb e ae=> ?_
   unfold restrict;rw[aQ (Vl b e ae)];exact Vm b e ae
  ·have mJ:=((e9 j).1 hl).resolve_left dT
   have kt:t<N:=b8 j t hj bc;have:(a.put o.dst aB).tmps.getD t undef=a.tmps.getD t undef:=by
    rw[Act.sM _ _ _ _ (by rw[bg.mf];exact kt),aU];intro ah;exact mj i j ag hj (Ne.symm dT) t (kZ.trans ah) bc
   rw[this];refine(bg.val j t hj mJ bc).mono λb e ae=> ?_
   obtain⟨ad,af⟩:=uk ae;unfold restrict;rw[aQ ad];exact Nw b e af
end
end AE
namespace AE
variable [a7]
section
variable {P:aR} {ops:Array Oper}
omit [a7] in
theorem Ny {ro:Option Nat} {Q:Exit->Act->ax->Prop} {m:Nat} (oJ:∀i j,i<ops.size->direct ops i j=true->j<i) (vo:∀i j,i<ops.size->m<=j->j<i->Nq ops i j):
  ∀(bm k:Nat) (listed:Array Bool) (a:Act) (w:ax),m<=k->listed.size=ops.size->(∀i,listed.getD i false=decide (i<k/\i<ops.size))->
   q6 listed<=bm->wpListIn (Fr ro) 0 P ops Q (ops.toList.drop k) a w->wpAnyIn (Fr ro) 0 P .any ops Q bm listed a w:=by
 intro bm
 induction bm with
 |zero=>
  intro k listed a w sU aw hl aO h;have aj:ops.size<=k:=by
   rcases Nat.lt_or_ge k ops.size with aj|aj
   ·exfalso
    have ad:=hl k;simp only [Nat.lt_irrefl,false_and,decide_false] at ad;have:=x6 (i:=k) (listed:=listed) ar (by rw[qt ar];exact ad);omega
   ·exact aj
  have ao:Region.ready .any ops listed=[]:=by
   apply List.eq_nil_iff_forall_not_mem.2;intro i ag;obtain⟨aM,o,ho,_⟩:=mem_ready.1 ag;have kR:i<ops.size:=(Array.getElem?_eq_some_iff.1 ho).1;rw[qt ar,hl i] at aM;simp [kR] at aM;omega
  rw[List.drop_of_length_le (by simpa using aj)] at h;exact⟨ao,h⟩
 |succ bm ck=>
  intro k listed a w sU aw hl aO h;rcases Nat.lt_or_ge k ops.size with aj|aj
  ·have x_:listed.getD k false=false:=by rw[hl k];simp
   have ho:ops[k]? =some ops[k]:=Array.getElem?_eq_getElem aj;have uo:k∈Region.ready .any ops listed:=by
    refine mem_ready.2 ⟨by rw[qt ar];exact x_,ops[k],ho,λe he ae=> ?_⟩;have:direct ops k e.on=true:=by
     simp only [direct,ho];exact Array.any_eq_true'.2 ⟨e,he,by simp [ae]⟩
    have:=oJ k e.on aj this;rw[hl e.on];simp;omega
   refine⟨λaM=>absurd (aM▸uo) (by simp),λi ag=> ?_⟩;have Nz:i=k:=by
    obtain⟨aM,o,lR,_⟩:=mem_ready.1 ag;have kR:i<ops.size:=(Array.getElem?_eq_some_iff.1 lR).1;rw[qt ar,hl i] at aM;simp only [kR,and_true,decide_eq_false_iff_not,Nat.not_lt] at aM;rcases Nat.lt_or_eq_of_le aM with r1|r1
    ·exfalso
     have down:∀i j,listed.getD i false=true->direct ops i j=true->listed.getD j false=true:=by
      intro i j ad af;rw[hl i] at ad;simp only [decide_eq_true_eq] at ad;have:=oJ i j ad.2 af;rw[hl j];simp;omega
     have:=vo i k kR ar r1 listed down (qs ag);rw[x_] at this;cases this
    ·exact r1.symm
   subst Nz;have aeN:ops.toList.drop i=ops[i]::ops.toList.drop (i+1):=by
    rw[List.drop_eq_getElem_cons (by simpa using aj)];simp
   rw[aeN] at h;have Vq:∀aW w',wpListIn (Fr ro) 0 P ops Q (ops.toList.drop (i+1)) aW w'->wpAnyIn (Fr ro) 0 P .any ops Q bm (listed.setIfInBounds i true) aW w':=by
    intro aW w' fm;refine ck (i+1) _ aW w' ar (by simpa using aw) ?_ ?_ fm
    ·intro j
     by_cases hj:j=i
     ·subst hj
      simp [fb,aw,aj]
     ·rw[getD_set_ne false (Ne.symm hj),hl j]
      congr 1;simp only [eq_iff_iff];omega
    ·have:=x6 (i:=i) (listed:=listed) ar (by rw[qt ar];exact x_)
     omega
   unfold wpOpIn;simp only [ho];unfold wpListIn at h;split at h
   ·rename_i hw
    rw[aQ hw];exact Oper.wpIn_mono Vq h
   ·rename_i hw
    rw[aU hw];exact⟨h.1,Vq _ _ h.2⟩
  ·refine⟨λ_=> ?_,λi ag=> ?_⟩
   ·rw[List.drop_of_length_le (by simpa using aj)] at h
    exact h
   ·exfalso
    obtain⟨aM,o,ho,_⟩:=mem_ready.1 ag;have kR:i<ops.size:=(Array.getElem?_eq_some_iff.1 ho).1;rw[qt ar,hl i] at aM;simp [kR] at aM;omega
end
section
variable {P:aR} [Lib P] [dS P] {C:h8} {gl:bR Nat} {N:Nat} {ds:List Deferred} {ro:Option Nat} {ops:Array Oper} {m:Nat} {dj mg eE:aG} {L:List Nat} {B:Nat->a'} {vs:List J} {fx:bV} {w0:ax} {a0:Act}
theorem aeO {Q:Exit->Act->ax->Prop} (hs:uj ops L m N=true) (cT:lA P gl C) (iI:pb fx B vs m) (kY:bU fx (B 0) w0) (Dq:mK gl fx) (zy:fw N ds fx mg a0) (Vj:(B m).n<=dead)
  (eX:hB N ops (λ_=>cp) (List.range m) mg=some dj) (ad:hB N ops (λj=>vs.getD j cp) (List.range m) dj=some eE)
  (hl:∀i o,i<m->ops[i]? =some o->Dk P C gl N ops L m dj i o (vs.take i) (vs.getD i cp) (B i) (B (i+1)))
  (aeP:∀φ a w,fw N ds φ eE a->cw fx (B 0) w0 φ (B m) w->wpListIn (Fr ro) 0 P ops Q (ops.toList.drop m) a w):
  ∀(bm:Nat) (listed:Array Bool) (a:Act) (w:ax) (φ:bV),r0 gl N ds ops m B vs fx w0 a0 φ listed a w->(∀j∈L,j<m->listed.getD j false=true)->q6 listed<=bm->wpAnyIn (Fr ro) 0 P .any ops Q bm listed a w:=by
 obtain⟨hm,oa,mj,b8,rV,oJ,vo⟩:=Di hs;have tail:∀(bm:Nat) (listed:Array Bool) (a:Act) (w:ax) (φ:bV),r0 gl N ds ops m B vs fx w0 a0 φ listed a w->q6 listed<=bm->(∀i,i<m->listed.getD i false=true)->wpAnyIn (Fr ro) 0 P .any ops Q bm listed a w:=by
  intro bm listed a w φ bg aO lB;refine Ny oJ (λi j ag hj dT=>(vo i j ag ar dT).resolve_left ar) bm m listed a w (b2 _) bg.size (λi=> ?_) aO ?_
  ·by_cases ag:i<m
   ·rw[lB i ag];simp;omega
   ·rw[bg.sN i ar];simp;omega
  ·obtain⟨q1,aE⟩:=bg.done iI kY zy lB eX ad
   exact aeP φ a w q1 aE
 intro bm
 induction bm with
 |zero=>
  intro listed a w φ bg Dr aO;refine tail 0 listed a w φ bg aO λi ag=> ?_
  cases h:listed.getD i false with
  |true=>rfl
  |false=>
   exfalso;have:=x6 (i:=i) (listed:=listed) (by have:=bg.size;omega) (by rw[qt (by have:=bg.size;omega)];exact h);omega
 |succ bm ck=>
  intro listed a w φ bg Dr aO;by_cases lB:∀i,i<m->listed.getD i false=true
  ·exact tail (bm+1) listed a w φ bg aO lB
  ·obtain⟨i0,vl⟩:=Classical.not_forall.1 lB
   obtain⟨Ds,q9⟩:=Classical.not_imp.1 vl;have q9:listed.getD i0 false=false:=by simpa using q9
   have uo:Region.ready .any ops listed≠[]:=by
    have key:∀n i,i<n->i<m->listed.getD i false=false->∃k,k∈Region.ready .any ops listed:=by
     intro n
     induction n with
     |zero=>intro i ag;omega
     |succ n FB=>
      intro i ag ml FC;by_cases hp:∀k,direct ops i k=true->listed.getD k false=true
      ·refine⟨i,mem_ready.2 ⟨by rw[qt (by have:=bg.size;omega)];exact FC,ops[i]'(by omega),Array.getElem?_eq_getElem _,λe he ae=>hp _ ?_⟩⟩
       have ho:ops[i]? =some (ops[i]'(by omega)):=Array.getElem?_eq_getElem _;simp only [direct,ho];exact Array.any_eq_true'.2 ⟨e,he,by simp [ae]⟩
      ·obtain⟨k,aj⟩:=Classical.not_forall.1 hp
       obtain⟨bc,x_⟩:=Classical.not_imp.1 aj;have:=oJ i k ar bc;exact FB k ar ar (by simpa using x_)
    obtain⟨k,aj⟩:=key (i0+1) i0 ar Ds q9;intro h;rw[h] at aj;cases aj
   refine⟨λaM=>absurd aM uo,λi ag=> ?_⟩;obtain⟨sT,o,ho,_⟩:=mem_ready.1 ag;have kR:i<ops.size:=(Array.getElem?_eq_some_iff.1 ho).1;have uq:listed.getD i false=false:=by rw[<-qt (by have:=bg.size;omega)];exact sT
   have ml:i<m:=by
    rcases Nat.lt_or_ge i m with h|h
    ·exact h
    ·exfalso
     rcases vo i i0 kR h ar with ⟨ya,_⟩|ha
     ·have:=Dr i0 ya Ds
      rw[q9] at this;cases this
     ·have:=ha listed bg.down (qs ag)
      rw[q9] at this;cases this
   obtain⟨sl,gw,Dm⟩:=hl i o ml ho;have NA:∃bB,vh P C gl ops o sl {B i with low:=(B i).n}=some (vs.getD i cp,bB)/\(B i).n<=bB.low/\B (i+1)={bB with low:=(B i).low}:=by
    rcases Dm with ⟨ya,_⟩|⟨_,h⟩
    ·have:=Dr i ya ml
     rw[uq] at this;cases this
    ·exact h
   obtain⟨bB,aC,mF,sP⟩:=NA;have aeQ:=bg.here iI kY Vj ml;have sO:∀b e,fx b=some e->restrict φ (B i).n b=some e:=λb e ae=>by
    have e7:=kY.lt ae;have:=iI.sQ (Nat.zero_le i) ar;unfold restrict;rw[aQ ar,bg.old b e7];exact ae
   have Dn:∀t v,sl.get t=some v->aD (restrict φ (B i).n) v (a.tmps.getD t undef):=by
    intro t v pN;rcases oI _ _ _ gw t v pN with ⟨j,hj,bc,rfl⟩|⟨yb,Fy⟩
    ·have r2:=rV i o ml ho j hj
     have dT:=oJ i j kR r2;have mJ:=qs ag j r2;have hval:=bg.val j t ar mJ bc;have e1:(vs.take i).getD j cp=vs.getD j cp:=by
      simp only [dh,List.getElem?_take,aQ dT]
     rw[e1];exact hval.mono (Vi (iI.sQ ar ar))
    ·rcases oI _ _ _ eX t v Fy with ⟨j,hj,bc,rfl⟩|⟨Jg,vn⟩
     ·exact .cp _
     ·rw[bg.other t λj hj _=>Jg j (List.mem_range.2 hj)]
      exact(zy.get t v vn).mono sO
   unfold wpOpIn;simp only [ho];refine Jb cT (aeQ.lower (B i).n) (Dq.mono sO) Dn aC λcZ aB w' x1 pK=> ?_
   obtain⟨fh,NB⟩:=bg.step iI kY ml hm ho uq (qs ag) mj b8 mF sP x1 pK;exact ck _ _ _ fh NB (λj hj e6=>by
    by_cases dT:j=i
    ·subst dT
     have:=bg.size;simp [fb,show j<listed.size by omega]
    ·rw[getD_set_ne false (Ne.symm dT)]
     exact Dr j hj e6) (by
    have:=x6 (i:=i) (listed:=listed) (by have:=bg.size;omega) sT
    omega)
end
section
variable {P:aR} [Lib P] [dS P] {C:h8} {gl:bR Nat} {N:Nat} {ds:List Deferred} {ro:Option Nat} {ops:Array Oper} {m:Nat} {dj mg:aG} {L:List Nat} {B:Nat->a'} {vs:List J} {fx:bV} {w0:ax} {a0:Act}
omit [Lib P] [dS P] in
theorem r0.aeR {φ:bV} {listed:Array Bool} {a:Act} {w:ax} (bg:r0 gl N ds ops m B vs fx w0 a0 φ listed a w) {i:Nat} {o:Oper} (ag:i<m) (hm:m<=ops.size) (ho:ops[i]? =some o) (sT:listed.getD i false=false)
  (um:∀k,direct ops i k=true->listed.getD k false=true) (mj:∀i j,i<m->j<m->i≠j->∀t,ft ops i=some t->ft ops j≠some t) (b8:∀i t,i<m->ft ops i=some t->t<N)
  (sP:B (i+1)=B i) {aB:J} (aC:aD (restrict φ (B i).n) (vs.getD i cp) aB):r0 gl N ds ops m B vs fx w0 a0 φ (listed.setIfInBounds i true) (a.put o.dst aB) w:=by
 have kZ:ft ops i=o.dst:=by simp [ft,ho]
 have e9:∀j,(listed.setIfInBounds i true).getD j false=true↔j=i\/listed.getD j false=true:=by
  intro j;by_cases hj:j=i
  ·subst hj
   have:=bg.size;simp [fb,show j<listed.size by omega]
  ·rw[getD_set_ne false (Ne.symm hj)]
   simp [hj]
 refine⟨by simpa using bg.size,?_,?_,by rw[Act.Dg];exact bg.defers,by rw[Act.size_put];exact bg.mf,bg.rel,bg.old,?_,?_,bg.new,bg.Nu,bg.keep,bg.gD,bg.os,bg.tape,bg.output,bg.drawn,?_,?_⟩
 ·intro j k hj bc
  rw[e9] at hj ⊢;rcases hj with rfl|hj
  ·exact .inr (um k bc)
  ·exact .inr (bg.down j k hj bc)
 ·intro j hj
  rw[getD_set_ne false ar];exact bg.sN j hj
 ·intro b e aM ae
  obtain⟨j,hj,mJ,h6⟩:=bg.mapped b e aM ae;exact⟨j,hj,(e9 j).2 (.inr mJ),h6⟩
 ·intro j b hj hl h6
  rcases(e9 j).1 hl with rfl|hl
  ·exfalso
   unfold own at h6;rw[sP] at h6;omega
  ·exact bg.total j b hj hl h6
 ·intro t h
  have q8:o.dst≠some t:=λah=>h i ag ((e9 i).2 (.inl rfl)) (kZ.trans ah)
  have:(a.put o.dst aB).tmps.getD t undef=a.tmps.getD t undef:=by
   rcases Nat.lt_or_ge t a.tmps.size with kt|kt
   ·rw[Act.sM _ _ _ _ kt,aU q8]
   ·simp [fb,Array.getElem?_eq_none kt,Array.getElem?_eq_none (show (a.put o.dst aB).tmps.size<=t by rw[Act.size_put];exact kt)]
  rw[this];exact bg.other t λj hj hl=>h j hj ((e9 j).2 (.inr hl))
 ·intro j t hj hl bc
  by_cases dT:j=i
  ·subst dT
   have kt:t<N:=b8 j t hj bc;have:(a.put o.dst aB).tmps.getD t undef=aB:=by
    rw[Act.sM _ _ _ _ (by rw[bg.mf];exact kt),aQ (kZ.symm.trans bc)]
   rw[this,sP];exact aC
  ·have mJ:=((e9 j).1 hl).resolve_left dT
   have kt:t<N:=b8 j t hj bc;have:(a.put o.dst aB).tmps.getD t undef=a.tmps.getD t undef:=by
    rw[Act.sM _ _ _ _ (by rw[bg.mf];exact kt),aU];intro ah;exact mj i j ag hj (Ne.symm dT) t (kZ.trans ah) bc
   rw[this];exact bg.val j t hj mJ bc
theorem aeS {Q:Exit->Act->ax->Prop} (hs:uj ops L m N=true) (c0:q4 P) (iI:pb fx B vs m) (kY:bU fx (B 0) w0) (Dq:mK gl fx) (zy:fw N ds fx mg a0)
  (eX:hB N ops (λ_=>cp) (List.range m) mg=some dj) (qu:∀c a w,¬Q (.panic c) a w)
  (hl:∀i o,i<m->ops[i]? =some o->Dk P C gl N ops L m dj i o (vs.take i) (vs.getD i cp) (B i) (B (i+1)))
  (zz:∀(bm:Nat) (listed:Array Bool) (a:Act),r0 gl N ds ops m B vs fx w0 a0 fx listed a w0->(∀j∈L,j<m->listed.getD j false=true)->q6 listed<=bm->wpAnyIn (Fr ro) 0 P .any ops Q bm listed a w0):
  ∀(r:List Nat) (bm:Nat) (listed:Array Bool) (a:Act),(r≠[]->ro=none)->wS ops r listed=true->(∀i∈r,i∈L/\i<m)->(∀j∈L,j<m->listed.getD j false=true\/j∈r)->r0 gl N ds ops m B vs fx w0 a0 fx listed a w0->
   q6 listed<=bm->wpAnyIn (Fr ro) 0 P .any ops Q bm listed a w0:=by
 obtain⟨hm,oa,mj,b8,rV,oJ,vo⟩:=Di hs;intro r
 induction r with
 |nil=>
  intro bm listed a _ _ _ hL bg aO;exact zz bm listed a bg (λj hj e6=>(hL j hj e6).resolve_right (by simp)) aO
 |cons i r ck=>
  intro bm listed a dE yc ao hL bg aO;have FD:ro=none:=dE (by simp);obtain⟨ya,ml⟩:=ao i List.mem_cons_self;simp only [wS,cV] at yc;obtain⟨⟨uo,Be⟩,nF,yc⟩:=yc;have ag:i∈Region.ready .any ops listed:=by simpa using uo
  obtain⟨sT,o,ho,_⟩:=mem_ready.1 ag;have kR:i<ops.size:=(Array.getElem?_eq_some_iff.1 ho).1;have uq:listed.getD i false=false:=by rw[<-qt (by have:=bg.size;omega)];exact sT
  rw[ho] at nF;simp only at nF;have Vr:=x6 (i:=i) (listed:=listed) (by have:=bg.size;omega) sT;cases bm with
  |zero=>omega
  |succ bm=>
   obtain⟨sl,gw,Dm⟩:=hl i o ml ho;have NA:x8 P (dB gl sl) o=some (vs.getD i cp)/\B (i+1)=B i:=by
    rcases Dm with ⟨_,h⟩|⟨av,_⟩
    ·exact h
    ·exact absurd ya av
   obtain⟨qp,sP⟩:=NA;have sO:∀b e,fx b=some e->restrict fx (B i).n b=some e:=λb e ae=>by
    have e7:=kY.lt ae;have:=iI.sQ (Nat.zero_le i) ar;unfold restrict;rw[aQ ar];exact ae
   have Dn:∀t v,sl.get t=some v->aD (restrict fx (B i).n) v (a.tmps.getD t undef):=by
    intro t v pN;rcases oI _ _ _ gw t v pN with ⟨j,hj,bc,rfl⟩|⟨yb,Fy⟩
    ·have r2:=rV i o ml ho j hj
     have dT:=oJ i j kR r2;have mJ:=qs ag j r2;have hval:=bg.val j t ar mJ bc;have e1:(vs.take i).getD j cp=vs.getD j cp:=by
      simp only [dh,List.getElem?_take,aQ dT]
     rw[e1];exact hval.mono (Vi (iI.sQ ar ar))
    ·rcases oI _ _ _ eX t v Fy with ⟨j,hj,bc,rfl⟩|⟨Jg,vn⟩
     ·exact .cp _
     ·rw[bg.other t λj hj _=>Jg j (List.mem_range.2 hj)]
      exact(zy.get t v vn).mono sO
   obtain⟨aB,e8,aC⟩:=Fx c0 (gq (Dq.mono sO) Dn) qp;have wW:Region.wanted o (yielded ops a.tmps)=true:=by
    unfold x7 at nF;unfold Region.wanted;cases aA:o.guard with
    |none=>rfl
    |some g=>rw[aA] at nF;simp at nF
   have NC:∀w,o.about P w a.eval=none:=by
    intro w;unfold Oper.about;unfold x7 at nF;cases cm:o.op<;>simp only [cm,Bool.and_false,Bool.false_eq_true] at nF ⊢
   have ND:YieldsFenced P ops o aB a:=⟨.inl ⟨wW,e8⟩,NC⟩;refine wpAnyIn_take (F:=Fr ro) (by rw[FD];rfl) ho oa Be uo (λc a w h=>absurd h (qu c _ w)) ND ?_;refine ck bm _ _ (λ_=>FD) yc (λk aj=>ao k (List.mem_cons_of_mem _ aj)) (λj hj e6=> ?_) (bg.aeR ml hm ho uq (qs ag) mj b8 sP aC) ar;by_cases dT:j=i
   ·subst dT
    refine .inl ?_;have:=bg.size;simp [fb,show j<listed.size by omega]
   ·rw[getD_set_ne false (Ne.symm dT)]
    rcases hL j hj e6 with h|h
    ·exact .inl h
    ·rcases List.mem_cons.1 h with rfl|h
     ·exact absurd rfl dT
     ·exact .inr h
end
omit [a7] in
theorem aeT {ops:Array Oper} {N:Nat} {gN:Bool} {L:List Nat} {m:Nat} (h:Ns ops N gN=some (L,m)):
  uj ops L m N=true/\wS ops L (Array.replicate ops.size false)=true/\(∀i∈L,i<m)/\(gN=true->L=[]):=by
 unfold Ns at h;simp only at h;generalize hm:Nr (Ve (bif gN then [] else vk ops)) ops.toList 0 [] 0=m' at h;generalize hL:(bif gN then [] else vk ops).filter (λi=>Nat.blt i m')=L' at h;cases ae:(uj ops L' m' N&&wS ops L' (Array.replicate ops.size false)) with
 |false=>rw[ae] at h;cases h
 |true=>
  rw[ae] at h;cases h;simp only [cV] at ae;refine⟨ae.1,ae.2,λi ag=> ?_,λao=> ?_⟩
  ·rw[<-hL] at ag
   exact Nat.blt_eq.mp (List.mem_filter.1 ag).2
  ·rw[<-hL,ao];rfl
section
variable {P:aR} [Lib P] [dS P] {C:h8} {gl:bR Nat} {N:Nat}
theorem Vs (cK:P.follows .mixedOrders=true) (cT:lA P gl C) {ro:Option Nat} {ds:List Deferred} {Q:Exit->Act->ax->Prop} {id:Nat} {ops:Array Oper} {sl dH:aG} {A a_:a'} {r:List Oper} {φ:bV} {w:ax} {a:Act} (ao:bU φ A w) (aA:mK gl φ) (aw:fw N ds φ sl a) {gN:Bool} (dE:gN=false->ro=none) (qu:∀c a w,¬Q (.panic c) a w)
  (h:Jc P C gl N gN ops sl A=some (dH,a_,r)) (cY:∀cZ aW w',fw N ds cZ dH aW->cw φ A w cZ a_ w'->wpListIn (Fr ro) 0 P ops Q r aW w'):(Code.region id ops true).wpIn (Fr ro) 0 P Q a w:=by
 unfold Jc at h;split at h
 ·rename_i L m zx
  obtain⟨hs,FE,NF,aeU⟩:=aeT zx;have aeV:m<=ops.size:=(Di hs).1;split at h
  ·rename_i dj eX
   split at h
   ·rename_i vs bB c0
    cases ae:Nat.ble bB.n dead with
    |false=>rw[ae] at h;cases h
    |true=>
     rw[ae,bx] at h;split at h
     ·rename_i eE ad
      cases h;obtain⟨B,cB,j3,kq,tW,wF⟩:=Vf _ 0 [] _ _ _ rfl c0;have hlen:(ops.toList.take m).length=m:=by simp;omega
      rw[hlen] at j3;subst cB;have hl:∀i o,i<m->ops[i]? =some o->Dk P C gl N ops L m dj i o (vs.take i) (vs.getD i cp) (B i) (B (i+1)):=by
       intro i o ag ho;have:=wF i o (by rw[List.getElem?_take,aQ ag];simpa using ho);simpa using this
      have kY:bU φ (B 0) {w with drawn:=w.drawn+1}:=(cw.zl ao (w.drawn+1)).rel;obtain⟨_,_,_,_,rV,oJ,_⟩:=Di hs;have iI:pb φ B vs m:=aeD cT kY aA rfl aeV (λt v aC=>⟨_,aw.get t v aC⟩) eX (λi o ag ho j hj=>oJ i j ar (rV i o ag ho j hj)) hl;refine wpIn_region_any cK ?_;refine aeS hs cT.facts iI kY aA aw eX qu hl (λbm listed fR NB Dr Vt=>aeO hs cT iI kY aA aw (by rw[j3];exact Nat.ble_eq.mp ae) eX ad hl (λgE ev w1 q1 aE=> ?_) bm listed fR _ φ NB Dr Vt) L ops.size _ a ?_ FE (λi ag=>⟨ag,NF i ag⟩) (λj hj _=> .inr hj) ?_ ?_
      ·rw[j3] at aE
       exact cY gE ev w1 q1 (cw.trans ao (cw.zl ao (w.drawn+1)) aE)
      ·intro cO
       refine dE ?_;cases yd:gN with
       |false=>rfl
       |true=>exact absurd (aeU yd) cO
      ·have aO:∀i,(Array.replicate ops.size false).getD i false=false:=λi=>by
        rw[fb,Array.getElem?_replicate];split<;>rfl
       have NG:∀b e,φ b=some e->¬(B 0).n<=b:=λb e ae=>by have:=kY.lt ae;omega
       refine⟨by simp,λi j ag=>absurd ag (by rw[aO];simp),λi _=>aO i,aw.defers,aw.size,?_,λ_ _=>rfl,λb e aM ae=>absurd aM (NG b e ae),λj b _ hl=>absurd hl (by rw[aO];simp),
        λb e aM ae=>absurd aM (NG b e ae),λj b e b' e' hj ho _ ae=> ?_,λ_ _ _=>rfl,b2 _,rfl,rfl,rfl,b2 _,λ_ _=>rfl,λi t _ hl=>absurd hl (by rw[aO];simp)⟩
       ·obtain⟨ψ,w',g1,_⟩:=iI.ex m (b2 _)
        refine⟨g1.wf,λb e ae=> ?_,λb e k b' e' k' ae dR aj dt cO=> ?_,λb e k b' e' k' ae dR aj dt aO jz=> ?_,kY.df⟩
        ·obtain⟨k,aj,q1,aE⟩:=kY.eo b e ae
         exact⟨k,by rw[iI.wU (Nat.zero_le m) (b2 _) b (kY.lt ae)];exact aj,q1,aE⟩
        ·rw[iI.wU (Nat.zero_le m) (b2 _) b (kY.lt ae)] at aj
         rw[iI.wU (Nat.zero_le m) (b2 _) b' (kY.lt dR)] at dt;exact kY.apart b e k b' e' k' ae dR aj dt cO
        ·rw[iI.wU (Nat.zero_le m) (b2 _) b (kY.lt ae)] at aj
         rw[iI.wU (Nat.zero_le m) (b2 _) b' (kY.lt dR)] at dt;exact kY.along b e k b' e' k' ae dR aj dt aO jz
       ·exfalso
        have:=iI.sQ (Nat.zero_le j) ar;exact NG b e ae (Nat.le_trans this ho.1)
      ·unfold q6
       exact Nat.le_trans List.count_le_length (by simp)
     ·cases h
   ·cases h
  ·cases h
 ·cases h
theorem aeW (cK:P.follows .mixedOrders=true) (cT:lA P gl C) {ro:Option Nat} {ds:List Deferred} {Q:Exit->Act->ax->Prop} {id:Nat} {ops:Array Oper} {sl dH:aG} {A a_:a'} {φ:bV} {w:ax} {a:Act} (ao:bU φ A w) (aA:mK gl φ) (aw:fw N ds φ sl a) {gN:Bool} (dE:gN=false->ro=none) (qu:∀c a w,¬Q (.panic c) a w)
  (h:Nt P C gl N gN ops sl A=some (dH,a_)) (cY:∀cZ aW w',fw N ds cZ dH aW->cw φ A w cZ a_ w'->Q .normal aW w'):(Code.region id ops true).wpIn (Fr ro) 0 P Q a w:=by
 unfold Nt at h;split at h
 ·rename_i eE bB r ad
  refine Vs cK cT ao aA aw dE qu ad λgE ev w1 q1 aE=> ?_
  refine Nl cT _ _ _ _ _ _ _ _ aE.rel (aA.mono (aE.ext ao)) q1 h λfh fR w2 cJ dk=> ?_
  exact cY fh fR w2 cJ (cw.trans ao aE dk)
 ·cases h
end
end AE
namespace AE
mutual
def zA:J->J->Bool
 | .bool a,.bool b=>a==b
 | .int k n,.int k' fS=>decide (k=k')&&decide (n=fS)
 | .complex k a b,.complex k' aW b'=>decide (k=k')&&(Nat.beq a aW&&Nat.beq b b')
 | .string s,.string t=>s.data.toList==t.data.toList
 | .pointer none,.pointer none=>true
 | .pointer (some ⟨b,o,none⟩),.pointer (some ⟨b',o',none⟩)=>Nat.beq b b'&&Nat.beq o o'
 | .slice none l c,.slice none l' c'=>Nat.beq l l'&&Nat.beq c c'
 | .slice (some ⟨b,o,none⟩) l c,.slice (some ⟨b',o',none⟩) l' c'=>(Nat.beq b b'&&Nat.beq o o')&&(Nat.beq l l'&&Nat.beq c c')
 | .map none,.map none=>true
 | .map (some a),.map (some b)=>Nat.beq a b
 | .nilFunc,.nilFunc=>true
 | .nilIface,.nilIface=>true
 | .func (.func f) ⟨a⟩ ⟨b⟩,.func (.func g) ⟨aW⟩ ⟨b'⟩=>Nat.beq f g&&(ur a aW&&ur b b')
 | .func (.yield f) ⟨a⟩ ⟨b⟩,.func (.yield g) ⟨aW⟩ ⟨b'⟩=>Nat.beq f g&&(ur a aW&&ur b b')
 | .iface t v,.iface da aB=>Nat.beq t da&&zA v aB
 | .agg ⟨l⟩,.agg ⟨l'⟩=>ur l l'
 | .tuple ⟨l⟩,.tuple ⟨l'⟩=>ur l l'
 |_,_=>false
def ur:List J->List J->Bool
 |[],[]=>true
 |v::r,aB::dX=>zA v aB&&ur r dX
 |_,_=>false
end
mutual
theorem FF:∀(a b:J),zA a b=true->a=b:=by
 intro a b h;unfold zA at h;split at h<;>try (simp only [cV,decide_eq_true_eq] at h)
 ·rw[eq_of_beq h]
 ·rw[h.1,h.2]
 ·rw[h.1,cA h.2.1,cA h.2.2]
 ·rename_i s t
  have:=eq_of_beq h;obtain⟨⟨s⟩⟩:=s;obtain⟨⟨t⟩⟩:=t;simp only at this;rw[this]
 ·rfl
 ·rw[cA h.1,cA h.2]
 ·rw[cA h.1,cA h.2]
 ·rw[cA h.1.1,cA h.1.2,cA h.2.1,cA h.2.2]
 ·rfl
 ·rw[cA h]
 ·rfl
 ·rfl
 ·rw[cA h.1,zB _ _ h.2.1,zB _ _ h.2.2]
 ·rw[cA h.1,zB _ _ h.2.1,zB _ _ h.2.2]
 ·rename_i t v da aB
  rw[cA h.1,FF v aB h.2]
 ·rw[zB _ _ h]
 ·rw[zB _ _ h]
 ·cases h
theorem zB:∀(a b:List J),ur a b=true->a=b
 |[],[],_=>rfl
 |v::r,aB::dX,h=>by
  unfold ur at h;simp only [cV] at h;rw[FF v aB h.1,zB r dX h.2]
 |[],_::_,h=>by simp [ur] at h
 |_::_,[],h=>by simp [ur] at h
end
def aeX {α:Type} (f:α->α->Bool):Option α->Option α->Bool
 |none,none=>true
 |some a,some b=>f a b
 |_,_=>false
def Bf {α:Type} (f:α->α->Bool):bR α->bR α->Bool
 | .nil,.nil=>true
 | .node v l r,.node aB l' dX=>aeX f v aB&&(Bf f l l'&&Bf f r dX)
 |_,_=>false
theorem FG {α:Type} {f:α->α->Bool} (aO:∀a b,f a b=true->a=b):∀(a b:bR α),Bf f a b=true->a=b
 | .nil,.nil,_=>rfl
 | .nil,.node _ _ _,h=>by cases h
 | .node _ _ _,.nil,h=>by cases h
 | .node v l r,.node aB l' dX,h=>by
   unfold Bf at h;simp only [cV] at h;rw[FG aO l l' h.2.1,FG aO r dX h.2.2];have ad:=h.1;cases v with
   |none=>cases aB with
    |none=>rfl
    |some b=>cases ad
   |some a=>cases aB with
    |none=>cases ad
    |some b=>rw[aO a b ad]
def Vu (a b:j2):Bool:=zA a.key b.key&&(zA a.val b.val&&Nat.beq a.born b.born)
def Jh:List j2->List j2->Bool
 |[],[]=>true
 |a::r,b::dX=>Vu a b&&Jh r dX
 |_,_=>false
theorem Vv:∀(a b:List j2),Jh a b=true->a=b
 |[],[],_=>rfl
 |[],_::_,h=>by cases h
 |_::_,[],h=>by cases h
 |⟨k,v,n⟩::r,⟨k',aB,fS⟩::dX,h=>by
  unfold Jh Vu at h;simp only [cV] at h;rw[FF _ _ h.1.1,FF _ _ h.1.2.1,cA h.1.2.2,Vv r dX h.2]
def NH:qT->qT->Bool
 | .cells c,.cells c'=>ur c c'
 | .map es eU,.map dg aeY=>Jh es dg&&Nat.beq eU aeY
 | .gh (.xP s p),.gh (.xP fu p')=>s.data.toList==fu.data.toList&&Nat.beq p p'
 | .gh .deferred,.gh .deferred=>true
 | .gh .gone,.gh .gone=>true
 |_,_=>false
theorem aeZ {a b:qT} (h:NH a b=true):a=b:=by
 unfold NH at h;split at h<;>try (simp only [cV] at h)
 ·rw[zB _ _ h]
 ·rw[Vv _ _ h.1,cA h.2]
 ·rename_i s p fu p'
  have:=eq_of_beq h.1;obtain⟨⟨s⟩⟩:=s;obtain⟨⟨fu⟩⟩:=fu;simp only at this;rw[this,cA h.2]
 ·rfl
 ·rfl
 ·cases h
def NI (a b:hR):Bool:=NH a.obj b.obj&&((Nat.beq a.cN b.cN&&Nat.beq a.pos b.pos)&&((Nat.beq a.eF b.eF&&Nat.beq a.ty b.ty)&&a.ro==b.ro))
theorem ae0 {a b:hR} (h:NI a b=true):a=b:=by
 obtain⟨o,f,p,s,r,t⟩:=a;obtain⟨o',hv,p',fu,dX,da⟩:=b;unfold NI at h;simp only [cV] at h;obtain⟨ad,⟨af,ay⟩,⟨bD,cD⟩,cI⟩:=h;rw[aeZ ad,cA af,cA ay,cA bD,cA cD,eq_of_beq cI]
def Ji:List Nat->List Nat->Bool
 |[],[]=>true
 |a::r,b::dX=>Nat.beq a b&&Ji r dX
 |_,_=>false
theorem Vw:∀(a b:List Nat),Ji a b=true->a=b
 |[],[],_=>rfl
 |[],_::_,h=>by cases h
 |_::_,[],h=>by cases h
 |a::r,b::dX,h=>by
  unfold Ji at h;simp only [cV] at h;rw[cA h.1,Vw r dX h.2]
def Jj (x y:aG×a'):Bool:=Bf zA x.1 y.1&&((Bf NI x.2.bl y.2.bl&&Bf Ji x.2.mem y.2.mem)&&(Nat.beq x.2.n y.2.n&&Nat.beq x.2.low y.2.low))
theorem ae1 {x y:aG×a'} (h:Jj x y=true):x=y:=by
 obtain⟨sl,bl,n,mem,low⟩:=x;obtain⟨dH,apm,fS,apn,apo⟩:=y;unfold Jj at h;simp only [cV] at h;obtain⟨ad,⟨af,ay⟩,bD,cD⟩:=h;rw[FG FF _ _ ad,FG (λ_ _=>ae0) _ _ af,FG Vw _ _ ay,cA bD,cA cD]
def Bg (P:aR) [Lib P] [dS P] (C:h8) (gl:bR Nat) (N:Nat) (ops:Array Oper):Nat->Array Bool->aG->a'->Option (aG×a')
 |0,listed,sl,A=>match Region.ready .any ops listed with
  |[]=>some (sl,A)
  |_::_=>none
 |f+1,listed,sl,A=>
  let go:=λi=>match ops[i]? with
   |some o=>match wQ P C gl N ops o sl A with
    |some (eE,bB)=>Bg P C gl N ops f (listed.setIfInBounds i true) eE bB
    |none=>none
   |none=>none
  match Region.ready .any ops listed with
  |[]=>some (sl,A)
  |i::r=>match go i with
   |some x=>match r.all (λj=>match go j with|some y=>Jj x y|none=>false) with
    |true=>some x
    |false=>none
   |none=>none
def Jk (P:aR) [dS P] (gl:bR Nat) (N:Nat) (ops:Array Oper):List Nat->aG->Option aG
 |[],sl=>some sl
 |i::r,sl=>match ops[i]? with
  |some o=>match x8 P (dB gl sl) o with
   |some v=>match gX N sl o.dst v with
    |some eE=>Jk P gl N ops r eE
    |none=>none
   |none=>none
  |none=>none
def Jl:List Nat->Array Bool->Array Bool
 |[],l=>l
 |i::r,l=>Jl r (l.setIfInBounds i true)
def Jm (P:aR) [Lib P] [dS P] (C:h8) (gl:bR Nat) (N:Nat) (gN:Bool) (ops:Array Oper) (sl:aG) (A:a'):Option (aG×a'):=
 let L:=bif gN then [] else vk ops
 bif Nat.ble ops.size (L.length+64)&&(Region.noSelect ops&&(wS ops L (Array.replicate ops.size false)&&Nat.ble L.length ops.size)) then
  match Jk P gl N ops L sl with
  |some eE=>Bg P C gl N ops (ops.size-L.length) (Jl L (Array.replicate ops.size false)) eE A
  |none=>none
 else none
variable [a7]
section
variable {P:aR} [Lib P] [dS P] {C:h8} {gl:bR Nat} {N:Nat} {ds:List Deferred} {ro:Option Nat} {ops:Array Oper} {Q:Exit->Act->ax->Prop}
theorem Vx (cT:lA P gl C):∀(f:Nat) (listed:Array Bool) (sl dH:aG) (A a_:a') (φ:bV) (w:ax) (a:Act),bU φ A w->mK gl φ->fw N ds φ sl a->Bg P C gl N ops f listed sl A=some (dH,a_)->
  (∀cZ aW w',fw N ds cZ dH aW->cw φ A w cZ a_ w'->Q .normal aW w')->wpAnyIn (Fr ro) 0 P .any ops Q f listed a w
 |0,listed,sl,dH,A,a_,φ,w,a,ao,aA,aw,h,cY=>by
  unfold Bg at h;split at h
  ·rename_i wX
   cases h;exact wpAnyIn_done wX (cY φ a w aw (cw.refl ao)) 0
  ·cases h
 |f+1,listed,sl,dH,A,a_,φ,w,a,ao,aA,aw,h,cY=>by
  unfold Bg at h;simp only at h;split at h
  ·rename_i wX
   cases h;exact wpAnyIn_done wX (cY φ a w aw (cw.refl ao)) _
  ·rename_i i r wX
   have la:∀j∈i::r,(match ops[j]? with
     |some o=>match wQ P C gl N ops o sl A with
      |some (eE,bB)=>Bg P C gl N ops f (listed.setIfInBounds j true) eE bB
      |none=>none
     |none=>none)=some (dH,a_):=by
    split at h
    ·rename_i x ak
     split at h
     ·rename_i ae
      cases h;intro j hj;rcases List.mem_cons.1 hj with rfl|hj
      ·exact ak
      ·have dR:=List.all_eq_true.1 ae j hj
       revert dR;generalize (match ops[j]? with
        |some o=>match wQ P C gl N ops o sl A with
         |some (eE,bB)=>Bg P C gl N ops f (listed.setIfInBounds j true) eE bB
         |none=>none
        |none=>none)=z
       intro dR;cases z with
       |none=>cases dR
       |some y=>rw[ae1 dR]
     ·cases h
    ·cases h
   refine wpAnyIn_all wX (by simp) λj hj=> ?_
   have gR:=la j hj;split at gR
   ·rename_i o ho
    split at gR
    ·rename_i eE bB cP
     obtain⟨v,aC,hp⟩:=Nj cP;unfold wpOpIn;rw[ho];refine Jb cT ao aA aw.get aC λcZ aB w' x1 pK=> ?_
     exact Vx cT f _ eE dH bB a_ cZ w' (a.put o.dst aB) pK.rel (aA.mono (pK.ext ao)) ((aw.mono (pK.ext ao)).put x1 hp) gR λfh fR w2 ad af=>cY fh fR w2 ad (cw.trans ao pK af)
    ·cases gR
   ·cases gR
omit [Lib P] in
theorem Vy (c0:q4 P) (oa:Region.noSelect ops=true) (FD:ro=none) (qu:∀c a w,¬Q (.panic c) a w) {φ:bV} {w:ax} (aA:mK gl φ):∀(L:List Nat) (bm:Nat) (listed:Array Bool) (sl dH:aG) (a:Act),fw N ds φ sl a->wS ops L listed=true->Jk P gl N ops L sl=some dH->
  (∀aW,fw N ds φ dH aW->wpAnyIn (Fr ro) 0 P .any ops Q bm (Jl L listed) aW w)->wpAnyIn (Fr ro) 0 P .any ops Q (bm+L.length) listed a w
 |[],bm,listed,sl,dH,a,aw,_,h,cY=>by
  cases h;exact cY a aw
 |i::r,bm,listed,sl,dH,a,aw,yc,h,cY=>by
  simp only [wS,cV] at yc;obtain⟨⟨uo,Be⟩,nF,yc⟩:=yc;unfold Jk at h;split at h
  ·rename_i o ho
   rw[ho] at nF;simp only at nF;split at h
   ·rename_i v qp
    split at h
    ·rename_i eE dU
     obtain⟨aB,e8,aC⟩:=Fx c0 (gq aA aw.get) qp;have wW:Region.wanted o (yielded ops a.tmps)=true:=by
      unfold x7 at nF;unfold Region.wanted;cases aA:o.guard with
      |none=>rfl
      |some g=>rw[aA] at nF;simp at nF
     have NC:∀w,o.about P w a.eval=none:=by
      intro w;unfold Oper.about;unfold x7 at nF;cases cm:o.op<;>simp only [cm,Bool.and_false,Bool.false_eq_true] at nF ⊢
     have ND:YieldsFenced P ops o aB a:=⟨.inl ⟨wW,e8⟩,NC⟩;show wpAnyIn (Fr ro) 0 P .any ops Q (bm+r.length+1) listed a w;refine wpAnyIn_take (F:=Fr ro) (by rw[FD];rfl) ho oa Be uo (λc a w h=>absurd h (qu c _ w)) ND ?_;exact Vy c0 oa FD qu aA r bm _ eE dH (a.put o.dst aB) (aw.put aC dU) yc h cY
    ·cases h
   ·cases h
  ·cases h
theorem Vz (cK:P.follows .mixedOrders=true) (cT:lA P gl C) {id:Nat} {sl dH:aG} {A a_:a'} {φ:bV} {w:ax} {a:Act} (ao:bU φ A w) (aA:mK gl φ) (aw:fw N ds φ sl a) {gN:Bool} (dE:gN=false->ro=none) (qu:∀c a w,¬Q (.panic c) a w)
  (h:Jm P C gl N gN ops sl A=some (dH,a_)) (cY:∀cZ aW w',fw N ds cZ dH aW->cw φ A w cZ a_ w'->Q .normal aW w'):(Code.region id ops true).wpIn (Fr ro) 0 P Q a w:=by
 unfold Jm at h;simp only at h;cases ae:(Nat.ble ops.size ((bif gN then [] else vk ops).length+64)&&(Region.noSelect ops&&(wS ops (bif gN then [] else vk ops) (Array.replicate ops.size false)&&Nat.ble (bif gN then [] else vk ops).length ops.size))) with
 |false=>rw[ae] at h;cases h
 |true=>
  rw[ae,bx] at h;simp only [cV] at ae;obtain⟨_,oa,FE,hle⟩:=ae;have NJ:=Nat.ble_eq.mp hle;split at h
  ·rename_i eE aK
   have cP:=cw.zl ao (w.drawn+1) (Nat.le_succ _);refine wpIn_region_any cK ?_;have zz:∀aW,fw N ds φ eE aW->wpAnyIn (Fr ro) 0 P .any ops Q (ops.size-(bif gN then [] else vk ops).length) (Jl (bif gN then [] else vk ops) (Array.replicate ops.size false)) aW {w with drawn:=w.drawn+1}:=
    λaW pM=>Vx cT _ _ eE dH A a_ φ _ aW cP.rel aA pM h λfh fR w2 ad af=>cY fh fR w2 ad (cw.trans ao cP af)
   cases Bh:gN with
   |true=>
    rw[Bh] at aK zz;simp only [bx,List.length_nil,Nat.sub_zero] at aK zz;cases aK;exact zz a aw
   |false=>
    rw[Bh] at aK zz FE NJ;simp only [ek] at aK zz FE NJ;have:=Vy cT.facts oa (dE Bh) qu aA (vk ops) (ops.size-(vk ops).length) _ sl eE a aw FE aK zz
    rwa [Nat.sub_add_cancel NJ] at this
  ·cases h
end
end AE
namespace AE
variable [a7]
def a'.Dt (A:a') (b:Nat) (x:CQ):Option a':=
 match A.bl.get b with
 |some k=>match k.obj,A.mem.get k.cN with
  | .gh _,some [m]=>bif Nat.beq m b&& !k.ro then
      match bR.set {k with obj:= .gh x} depth A.bl b with
      |some t=>some {A with bl:=t,low:=Nat.min A.low b}
      |none=>none
    else none
  |_,_=>none
 |none=>none
def a'.getLoop (A:a') (b:Nat):Option AP:=
 match A.bl.get b with
 |some k=>match k.obj with
  | .gh (.loop fO)=>some fO
  |_=>none
 |none=>none
section
variable {P:aR} {φ:bV} {A a_:a'} {w:ax}
theorem Jn (ao:bU φ A w) {b:Nat} {x:CQ} {e:hz} {o':Obj} (he:φ b=some e) (h:A.Dt b x=some a_) (ho:rN φ x o'):cw φ A w φ a_ {w with heap:=w.heap.setIfInBounds e.bk o'}:=by
 unfold a'.Dt at h;split at h
 ·rename_i k aj
  split at h
  ·rename_i fE m fo mG
   cases aq:(Nat.beq m b&& !k.ro) with
   |false=>rw[aq] at h;cases h
   |true=>
    rw[aq,bx] at h;simp only [cV,Bool.not_eq_true'] at aq;have Fl:m=b:=cA aq.1;subst Fl;have dE:=aq.2;split at h
    ·rename_i t aK
     cases h;have gF:=λj=>bR.nY _ _ _ _ _ j aK
     obtain⟨d',hK,cP,C6⟩:=ao.eo m e he;rw[aj] at hK;cases hK;have b8:=C6.lt;have MV:∀j b9,A.bl.get j=some b9->b9.cN=k.cN->j=m:=by
      intro j b9 hj aO;obtain⟨l,q1,aE⟩:=ao.wf.mem j b9 hj;rw[aO,mG] at q1;cases q1;simpa using aE
     have cO:∀j fY,j≠m->φ j=some fY->fY.bk≠e.bk:=by
      intro j fY hj h1;obtain⟨b9,hM,_,_⟩:=ao.eo j fY h1;exact ao.apart j fY b9 m e k h1 he hM aj λaO=>hj (MV j b9 hM aO)
     have qj:∀i,i≠e.bk->(w.heap.setIfInBounds e.bk o')[i]? =w.heap[i]? :=λi ag=>by
      rw[Array.getElem?_setIfInBounds_ne (Ne.symm ag)]
     have gm:∀j dJ,t.get j=some dJ->∃b9,A.bl.get j=some b9/\dJ.cN=b9.cN/\dJ.pos=b9.pos/\dJ.ro=b9.ro:=by
      intro j dJ hj;rw[gF] at hj;by_cases e6:j=m
      ·rw[aQ e6] at hj
       cases hj;subst e6;exact⟨k,aj,rfl,rfl,rfl⟩
      ·rw[aU e6] at hj
       exact⟨dJ,hj,rfl,rfl,rfl⟩
     refine {rel:=⟨⟨?_,?_,?_,?_⟩,?_,?_,?_,λi o ag=>⟨by rw[qj i (Ne.symm ((ao.df i o ag).2 _ _ he))];exact(ao.df i o ag).1,(ao.df i o ag).2⟩⟩,eo:=λ_ _=>rfl,rO:=λb ad af=>absurd af (by show ¬b<A.n;omega),new:=λb e ad af=>absurd (ao.lt af) ar,qi:=b2 _,low:=Nat.min_le_left _ _,same:= ?_,ro:= ?_,keep:= ?_,gD:=by simp,os:=rfl,tape:=rfl,output:=rfl,drawn:=b2 _}
     ·intro j dJ hj
      obtain⟨b9,q1,_⟩:=gm j dJ hj;exact ao.wf.lt j b9 q1
     ·intro j dJ hj
      obtain⟨b9,q1,aE,_⟩:=gm j dJ hj;rw[aE];exact ao.wf.tR j b9 q1
     ·intro j dJ hj
      obtain⟨b9,q1,aE,_⟩:=gm j dJ hj;rw[aE];exact ao.wf.mem j b9 q1
     ·intro j pI fC pJ hj gR aO
      obtain⟨b9,q1,aE,_,ca⟩:=gm j pI hj;obtain⟨dJ,u9,AU,_,sI⟩:=gm fC pJ gR;rw[ca,sI];exact ao.wf.u3 j b9 fC dJ q1 u9 (by rw[<-aE,<-AU];exact aO)
     ·intro j fY hj
      by_cases e6:j=m
      ·subst e6
       rw[he] at hj;cases hj;refine⟨{k with obj:= .gh x},by rw[gF,aQ rfl],cP,?_⟩;unfold fL at C6;simp only [fo] at C6;simp only [fL];exact⟨C6.1,o',by rw[Array.getElem?_setIfInBounds_self_of_lt b8],ho⟩
      ·obtain⟨b9,hM,wD,h6⟩:=ao.eo j fY hj
       exact⟨b9,by rw[gF,aU e6];exact hM,wD,h6.mono (λ_ _ h=>h) (qj _ (cO j fY e6 hj))⟩
     ·intro j fY pI fC qV pJ q1 aE hj gR nm
      obtain⟨b9,cJ,dk,_⟩:=gm j pI hj;obtain⟨dJ,uc,ve,_⟩:=gm fC pJ gR;exact ao.apart j fY b9 fC qV dJ q1 aE cJ uc (by rw[<-dk,<-ve];exact nm)
     ·intro j fY pI fC qV pJ q1 aE hj gR aO ae
      obtain⟨b9,cJ,dk,fQ,_⟩:=gm j pI hj;obtain⟨dJ,uc,ve,C5,_⟩:=gm fC pJ gR;rw[fQ,C5];exact ao.along j fY b9 fC qV dJ q1 aE cJ uc (by rw[<-dk,<-ve];exact aO) ae
     ·intro j hj kp
      show t.get j=_;rw[gF,aU];intro e6;subst e6;exact absurd (Nat.lt_of_lt_of_le kp (Nat.min_le_right A.low j)) (Nat.lt_irrefl j)
     ·intro j b9 hM rQ
      show t.get j=_;rw[gF,aU]
      ·exact hM
      ·intro e6
       subst e6;rw[aj] at hM;cases hM;rw[dE] at rQ;cases rQ
     ·intro i ag la
      refine qj i λql=> ?_
      have:=la m e k he ql.symm aj;rw[dE] at this;cases this
    ·cases h
  ·cases h
 ·cases h
theorem NK (ao:bU φ A w) {b:Nat} {fO:AP} {e:hz} (h:A.getLoop b=some fO) (he:φ b=some e):∃r,w.heap[e.bk]? =some (.loop r)/\rN φ (.loop fO) (.loop r)/\(Instr.getLoop e.bk).run P w= .ok r w/\
  ∀dX,(setObj e.bk (.loop dX)).run P w= .ok () {w with heap:=w.heap.setIfInBounds e.bk (.loop dX)}:=by
 unfold a'.getLoop at h;split at h
 ·rename_i k aj
  split at h
  ·rename_i apq fo
   cases h;obtain⟨k',dt,_,ho⟩:=ao.eo b e he;rw[aj] at dt;cases dt;unfold fL at ho;simp only [fo] at ho;obtain⟨_,o',ad,af⟩:=ho;obtain⟨r,rfl,_⟩:=id af;refine⟨r,ad,af,?_,λdX=> ?_⟩
   ·unfold Instr.getLoop
    exact dc (a:= .loop r) (w1:=w) (q2 ad (λ_ _ _ h=>by cases h)) rfl
   ·simp only [setObj,Sem.run,ad]
  ·cases h
 ·cases h
inductive q' (φ:bV):List Nat->List Deferred->Prop where
 |nil:q' φ [] []
 |cons {b:Nat} {e:hz} {ms:List Nat} {ds:List Deferred} (h:φ b=some e) (hm:q' φ ms ds):q' φ (b::ms) ({target:= .collected e.bk,args:= #[]}::ds)
omit [a7] in
theorem q'.mono {φ cZ:bV} {ms:List Nat} {ds:List Deferred} (h1:∀b e,φ b=some e->cZ b=some e) (h:q' φ ms ds):q' cZ ms ds:=by
 induction h with
 |nil=>exact .nil
 |cons h _ ck=>exact .cons (h1 _ _ h) ck
def ye (A:a'):List Nat->Option a'
 |[]=>some A
 |b::r=>match A.bl.get b with
  |some k=>match k.obj with
   | .gh .deferred=>match A.Dt b .gone with
     |some bB=>ye bB r
     |none=>none
   |_=>none
  |none=>none
theorem NL {fn:Func} {tmps:Array J} {R:Ending->ax->Prop}:∀(ms:List Nat) (ds:List Deferred) (A a_:a') (w:ax),bU φ A w->q' φ ms ds->ye A ms=some a_->
  (∀w',cw φ A w φ a_ w'->LeavesInM (Fr none) 0 P fn tmps R [] .returning w')->LeavesInM (Fr none) 0 P fn tmps R ds .returning w
 |[],ds,A,a_,w,ao,hm,h,cY=>by
  cases hm;cases h;exact cY w (cw.refl ao)
 |b::ms,ds,A,a_,w,ao,hm,h,cY=>by
  cases hm with
  |cons he hm=>
   rename_i e ds;unfold ye at h;split at h
   ·rename_i k aj
    split at h
    ·rename_i fo
     split at h
     ·rename_i bB aw
      obtain⟨k',dt,_,ho⟩:=ao.eo b e he;rw[aj] at dt;cases dt;unfold fL at ho;simp only [fo] at ho;obtain⟨_,o',ad,af⟩:=ho;cases af;have cP:=Jn (o':= .deferred none) ao he aw rfl;refine⟨by simp,.inl ⟨e.bk,_,rfl,?_,NL ms ds bB a_ _ cP.rel (hm.mono (cP.ext ao)) h λw' hw=>cY w' (cw.trans ao cP hw)⟩⟩;unfold Instr.takeDeferred;refine dc (a:= .deferred (some [])) (w1:=w) (q2 ad (λ_ _ _ h=>by cases h)) ?_;exact dc (a:=()) (by simp only [setObj,Sem.run,ad]) rfl
     ·cases h
    ·cases h
   ·cases h
inductive k0 where
 |normal
 |exit (id:Nat)
 |goto (l:Nat)
 |ret
def k0.exit':k0->Exit
 | .normal=> .normal
 | .exit id=> .exit id
 | .goto l=> .goto l
 | .ret=> .ret
structure b6 where
 sl:aG
 ms:List Nat
 A:a'
def yf (φ:bV) (A:a') (w:ax) (N:Nat) (x:k0) (s:b6) (e:Exit) (aW:Act) (w':ax):Prop:=
 e=x.exit'/\∃cZ ds,q' cZ s.ms ds/\fw N ds cZ s.sl aW/\cw φ A w cZ s.A w'
theorem yf.trans {φ gE:bV} {A bB:a'} {w w1:ax} {N:Nat} {x:k0} {s:b6} {e:Exit} {fR:Act} {w2:ax} (ao:bU φ A w) (ad:cw φ A w gE bB w1) (af:yf gE bB w1 N x s e fR w2):yf φ A w N x s e fR w2:=by
 obtain⟨h,fh,ds,kf,q1,aE⟩:=af;exact⟨h,fh,ds,kf,q1,cw.trans ao ad aE⟩
end
def Jo (f:b6->Option (k0×b6)):Nat->b6->Option (k0×b6)
 |0,_=>none
 |n+1,s=>match f s with
  |some (x,s1)=>match x with
   | .normal=>Jo f n s1
   | .exit id=>some (.exit id,s1)
   | .goto l=>some (.goto l,s1)
   | .ret=>some (.ret,s1)
  |none=>none
def NM:Option Code->Option k0
 |none=>some .normal
 |some .ret=>some .ret
 |some (.exit id)=>some (.exit id)
 |some (.goto l)=>some (.goto l)
 |_=>none
def VA:LoopState->Bool
 | .busy=>true
 |_=>false
def NN (P:aR) [Lib P] [dS P] (C:h8) (gl:bR Nat) (N:Nat) (g:Operand) (ps:Array Tmp) (nq body:Code) (s:b6):Option (k0×b6):=
 match dB gl s.sl g with
 | .func (.func f) ⟨first⟩ ⟨NO⟩=>bif enters P f then
     match s.A.push (.gh .deferred) 0 0 with
     |some (d,bB)=>match bB.push (.gh (.loop {state:= .ready,pending:=none,sl:=s.sl,N,params:=ps.toList,assign:=nq,body,E1:=d})) 0 0 with
      |some (l,fl)=>match C.call f (first++[.func (.yield l) ⟨[]⟩ ⟨[]⟩]++NO) fl with
       |some (_,q_)=>match q_.getLoop l with
        |some fO=>bif VA fO.state then none else
         match q_.Dt l (.loop {fO with state:= .exhausted}),NM fO.pending with
         |some ra,some x=>some (x,{sl:=s.sl,ms:=d::s.ms,A:=ra})
         |_,_=>none
        |none=>none
       |none=>none
      |none=>none
     |none=>none
   else none
 |_=>none
def mL (P:aR) [Lib P] [dS P] (C:h8) (gl:bR Nat) (N:Nat) (gN:Bool) (bm:Nat):Code->b6->Option (k0×b6)
 | .skip,s=>some (.normal,s)
 | .label _,s=>some (.normal,s)
 | .exit id,s=>some (.exit id,s)
 | .goto l,s=>some (.goto l,s)
 | .ret,s=>some (.ret,s)
 | .region _ ops d,s=>match (bif d then (match Nt P C gl N gN ops s.sl s.A with|some r=>some r|none=>Jm P C gl N gN ops s.sl s.A) else wR P C gl N ops ops.toList s.sl s.A) with
   |some (eE,bB)=>some (.normal,{sl:=eE,ms:=s.ms,A:=bB})
   |none=>none
 | .seq x y,s=>match mL P C gl N gN bm x s with
   |some (x,s1)=>match x with
    | .normal=>mL P C gl N gN bm y s1
    | .exit id=>some (.exit id,s1)
    | .goto l=>some (.goto l,s1)
    | .ret=>some (.ret,s1)
   |none=>none
 | .cond c x y,s=>match dB gl s.sl c with
   | .bool t=>bif t then mL P C gl N gN bm x s else mL P C gl N gN bm y s
   |v=>match A_ P v with
    |some t=>bif t then mL P C gl N gN bm x s else mL P C gl N gN bm y s
    |none=>none
 | .block id x,s=>match mL P C gl N gN bm x s with
   |some (x,s1)=>match x with
    | .normal=>some (.normal,s1)
    | .exit id'=>bif Nat.beq id' id then some (.normal,s1) else some (.exit id',s1)
    | .goto l=>some (.goto l,s1)
    | .ret=>some (.ret,s1)
   |none=>none
 | .loop x,s=>Jo (mL P C gl N gN bm x) bm s
 | .scope _,_=>none
 | .rangeFunc g ps nq body,s=>bif gN then none else NN P C gl N g ps nq body s
 | .refuse _,_=>none
def VB (P:aR) (gl:bR Nat) (N:Nat) (ro:Option Nat) (c:Code) (f:b6->Option (k0×b6)):Prop:=
 ∀(s:b6) (x:k0) (fu:b6) (φ:bV) (w:ax) (a:Act) (ds:List Deferred),f s=some (x,fu)->bU φ s.A w->mK gl φ->q' φ s.ms ds->fw N ds φ s.sl a->c.wpIn (Fr ro) 0 P (yf φ s.A w N x fu) a w
section
variable {P:aR} {gl:bR Nat} {N:Nat} {ro:Option Nat}
theorem VC {c:Code} {f:b6->Option (k0×b6)} (aO:VB P gl N ro c f):∀(n:Nat) (s:b6) (x:k0) (fu:b6) (φ:bV) (w:ax) (a:Act) (ds:List Deferred),Jo f n s=some (x,fu)->bU φ s.A w->mK gl φ->q' φ s.ms ds->fw N ds φ s.sl a->
  ∀(Q:Exit->Act->ax->Prop),(∀e aW w',yf φ s.A w N x fu e aW w'->Q e aW w')->Code.roundsIn (Fr ro) 0 P c Q n a w
 |0,s,x,fu,φ,w,a,ds,h,ao,aA,hm,aw,Q,cY=>by cases h
 |n+1,s,x,fu,φ,w,a,ds,h,ao,aA,hm,aw,Q,cY=>by
  unfold Jo at h;show c.wpIn (Fr ro) 0 P (Exit.then (Code.roundsIn (Fr ro) 0 P c Q n) Q) a w;split at h
  ·rename_i eA s1 ad
   refine wpIn_mono (aO s eA s1 φ w a ds ad ao aA hm aw) λe ev w1 ak=> ?_
   cases eA with
   |normal=>
    obtain⟨rfl,gE,Du,kf,q1,aE⟩:=ak;exact VC aO n s1 x fu gE w1 ev Du h aE.rel (aA.mono (aE.ext ao)) kf q1 Q λe aW w' hp=>cY e aW w' (yf.trans ao aE hp)
   |exit Dv=>cases h;obtain⟨rfl,_⟩:=id ak;exact cY _ _ _ ak
   |goto l=>cases h;obtain⟨rfl,_⟩:=id ak;exact cY _ _ _ ak
   |ret=>cases h;obtain⟨rfl,_⟩:=id ak;exact cY _ _ _ ak
  ·cases h
end
end AE
namespace AE
variable [a7]
section
variable {P:aR} [Lib P] [dS P] {C:h8} {gl:bR Nat} {N:Nat}
omit [a7] in
omit [Lib P] [dS P] in
theorem ae2 {F:Fence} {n:Nat} {Q:Exit->Act->ax->Prop} {a:Act} {w:ax} {c:Code} {x:k0} (h:NM (some c)=some x) (cY:Q x.exit' a w):c.wpIn F n P Q a w:=by
 cases c<;>simp only [NM,cE] at h<;>first|(cases h;done)|skip
 case ret=>cases h;exact wpIn_ret cY
 case exit id=>cases h;exact wpIn_exit cY
 case goto l=>cases h;exact wpIn_goto cY
theorem ae3 (cT:lA P gl C) {g:Operand} {ps:Array Tmp} {nq body:Code} {s:b6} {x:k0} {fu:b6} {φ:bV} {w:ax} {a:Act} {ds:List Deferred} (h:NN P C gl N g ps nq body s=some (x,fu))
  (ao:bU φ s.A w) (aA:mK gl φ) (hm:q' φ s.ms ds) (aw:fw N ds φ s.sl a):(Code.rangeFunc g ps nq body).wpIn (Fr none) 0 P (yf φ s.A w N x fu) a w:=by
 unfold NN at h;split at h
 ·rename_i f first NO oK
  cases vi:enters P f with
  |false=>rw[vi] at h;cases h
  |true=>
   rw[vi,bx] at h;split at h
   ·rename_i d bB hN
    split at h
    ·rename_i l fl iC
     split at h
     ·rename_i v q_ aq
      split at h
      ·rename_i fO ae4
       cases ae:VA fO.state with
       |true=>rw[ae] at h;cases h
       |false=>
        rw[ae,ek] at h;split at h
        ·rename_i ra x' NP hj
         cases h;have wY:=gq aA aw.get g;rw[oK] at wY;have ae5:∃kn cs',a.eval g= .func (.func f) kn cs'/\hS first φ kn/\hS NO φ cs':=by
          generalize a.eval g=u at wY;cases wY with
          |func _ kn _ cs' av ad af ay bD=>exact⟨kn,cs',rfl,hS.of ad ay,hS.of af bD⟩
         obtain⟨kn,cs',ae6,M9,fZ⟩:=ae5;have o9:=CS (o':= .deferred (some [])) (e:=⟨w.heap.size,0,0,0⟩) ao hN U U (by
          unfold fL
          exact⟨rfl,.deferred (some []),by simp,rfl⟩)
         have bc:=(ao.wf.push hN).2.1;refine wpIn_rangeFunc λfn _=> ?_
         let oL:Loop:={state:= .ready,pending:=none,fn:=fn,tmps:=a.tmps,params:=ps,assign:=nq,body:=body,defers:=w.heap.size}
         have wG:=CS (o':= .loop oL) (e:=⟨w.heap.size+1,0,0,0⟩) o9.rel iC (by simp) rfl (by
          unfold fL;refine⟨rfl,.loop oL,by
           show ((w.heap.push (Obj.deferred (some []))).push (Obj.loop oL))[w.heap.size+1]? =_
           rw[Array.getElem?_push,aQ (by simp)],oL,rfl,rfl,rfl,aw.size,rfl,rfl,rfl,⟨⟨w.heap.size,0,0,0⟩,?_,rfl⟩,λt v aC=> ?_⟩
          ·have b8:=(o9.rel.wf.push iC).2.1
           have jb:=(ao.wf.push hN).2.2.1;show hc _ _ _ d=_;unfold hc;rw[aU ar,aQ rfl]
          ·refine(aw.get t v aC).mono λb e ae=> ?_
           have b8:=(o9.rel.wf.push iC).2.1;have jb:=(ao.wf.push hN).2.2.1;have:=ao.lt ae;unfold hc;rw[aU ar,aU ar]
           exact ae)
         have zC:=cw.trans ao o9 wG;have Jp:=zC.ext ao;have VD:hc (hc φ d ⟨w.heap.size,0,0,0⟩) l ⟨w.heap.size+1,0,0,0⟩ l=some ⟨w.heap.size+1,0,0,0⟩:=by unfold hc;rw[aQ rfl]
         have Bi:hc (hc φ d ⟨w.heap.size,0,0,0⟩) l ⟨w.heap.size+1,0,0,0⟩ d=some ⟨w.heap.size,0,0,0⟩:=by
          have b8:=(o9.rel.wf.push iC).2.1;have jb:=(ao.wf.push hN).2.2.1;unfold hc;rw[aU ar,aQ rfl]
         have ae7:aD (hc (hc φ d ⟨w.heap.size,0,0,0⟩) l ⟨w.heap.size+1,0,0,0⟩) (.func (.yield l) ⟨[]⟩ ⟨[]⟩) (.func (.yield (w.heap.size+1)) #[] #[]):= .tQ VD;have VE:∀{VF:List J} {VG:Array J},hS VF φ VG->hS VF (hc (hc φ d ⟨w.heap.size,0,0,0⟩) l ⟨w.heap.size+1,0,0,0⟩) VG:=λh=>⟨h.1,λj hj=>(h.2 j hj).mono Jp⟩
         have ad:hS [.func (.yield l) ⟨[]⟩ ⟨[]⟩] (hc (hc φ d ⟨w.heap.size,0,0,0⟩) l ⟨w.heap.size+1,0,0,0⟩) #[.func (.yield (w.heap.size+1)) #[] #[]]:=⟨rfl,λj hj=>by
          have:j=0:=by simpa using hj
          subst this
          exact ae7⟩
         have gy:=((VE M9).append ad).append (VE fZ);refine⟨w.heap.size+1,[{target:= .collected w.heap.size,args:= #[]}],{w with heap:=(w.heap.push (.deferred (some []))).push (.loop oL)},{target:= .fn (.func f) cs',args:=kn++ #[.func (.yield (w.heap.size+1)) #[] #[]]},{w with heap:=(w.heap.push (.deferred (some []))).push (.loop oL)},f,kn++ #[.func (.yield (w.heap.size+1)) #[] #[]]++cs',{w with heap:=(w.heap.push (.deferred (some []))).push (.loop oL)},?_,?_,λ_ _=>trivial,?_,λh=>absurd h (by simp [Fr,Fence.wide]),
          CallsIn.mono (Df (cT.call f _ fl v q_ _ _ _ aq zC.rel (aA.mono Jp) gy)) λe Jq he=> ?_⟩
         ·unfold Instr.enterLoop
          simp only [Fr];have Mo:(newObj (.deferred (some []))).run P w= .ok w.heap.size {w with heap:=w.heap.push (.deferred (some []))}:=rfl;have gm:(newObj (.loop oL)).run P {w with heap:=w.heap.push (.deferred (some []))}= .ok (w.heap.size+1) {w with heap:=(w.heap.push (.deferred (some []))).push (.loop oL)}:=by
           simp only [newObj,Sem.run,Array.size_push]
          refine dc Mo ?_;refine cQ (a:=(w.heap.size,[({target:= .collected w.heap.size,args:= #[]}:Deferred)])) rfl ?_;exact dc (k:=λx=>pure (x,[({target:= .collected w.heap.size,args:= #[]}:Deferred)])) gm rfl
         ·unfold resolve
          simp only [rangeCall,ae6,List.map_toArray,List.map_cons,List.map_nil];rfl
         ·exact jc (Fq vi _) _
         ·cases e with
          |returned aB=>
           obtain⟨FH,_,Bj⟩:=he;have wZ:=Bj.ext zC.rel _ _ VD;obtain⟨r,q1,aE,ca,ey⟩:=NK (P:=P) Bj.rel ae4 wZ;obtain⟨dX,Ue,ae8,NQ,wH⟩:=id aE;cases Ue;have NR:=Jn (o':= .loop {r with state:= .exhausted}) Bj.rel wZ NP (by
            obtain⟨uu,yg,Bk,Bl,FI,FJ⟩:=wH
            exact⟨{r with state:= .exhausted},rfl,rfl,NQ,uu,yg,Bk,Bl,FI,FJ⟩)
           have NS:=cw.trans ao zC (cw.trans zC.rel Bj NR);have ae9:q' FH (d::s.ms) ({target:= .collected w.heap.size,args:= #[]}::ds):= .cons (Bj.ext zC.rel _ _ Bi) (hm.mono λb e ae=>Bj.ext zC.rel _ _ (Jp b e ae));have yh:fw N ({target:= .collected w.heap.size,args:= #[]}::ds) FH s.sl {a with defers:=[{target:= .collected w.heap.size,args:= #[]}]++a.defers}:=
            ⟨aw.size,by simp [aw.defers],λt v aC=>(aw.get t v aC).mono λb e ae=>Bj.ext zC.rel _ _ (Jp b e ae)⟩
           refine⟨fO.pending,{Jq with heap:=Jq.heap.setIfInBounds (w.heap.size+1) (.loop {r with state:= .exhausted})},?_,?_⟩
           ·unfold Instr.endLoop
            refine dc ca ?_;have A0:(r.state==LoopState.busy)=false:=by
             rw[ae8];cases cP:fO.state<;>rw[cP] at ae<;>first|rfl|cases ae
            rw[A0];simp only [Bool.false_eq_true,if_false];refine dc (a:=()) (ey _) ?_;rw[NQ];rfl
           ·have post:yf φ s.A w N x ⟨s.sl,d::s.ms,ra⟩ x.exit' {a with defers:=[{target:= .collected w.heap.size,args:= #[]}]++a.defers} {Jq with heap:=Jq.heap.setIfInBounds (w.heap.size+1) (.loop {r with state:= .exhausted})}:=
             ⟨rfl,FH,_,ae9,yh,NS⟩
            cases zD:fO.pending with
            |none=>
             rw[zD] at hj;cases hj;exact post
            |some c=>
             rw[zD] at hj;exact ae2 hj post
          |panicked b_=>exact he.elim
          |outgrown=>exact he.elim
        ·cases h
      ·cases h
     ·cases h
    ·cases h
   ·cases h
 ·cases h
end
section
variable {P:aR} [Lib P] [dS P] {C:h8} {gl:bR Nat} {N:Nat}
theorem uv (cK:P.follows .mixedOrders=true) (cT:lA P gl C) (gN:Bool) {ro:Option Nat} (dE:gN=false->ro=none) (bm:Nat):∀c:Code,VB P gl N ro c (mL P C gl N gN bm c)
 | .skip,s,x,fu,φ,w,a,ds,h,ao,aA,hm,aw=>by cases h;exact wpIn_skip ⟨rfl,φ,ds,hm,aw,cw.refl ao⟩
 | .label _,s,x,fu,φ,w,a,ds,h,ao,aA,hm,aw=>by cases h;exact wpIn_label ⟨rfl,φ,ds,hm,aw,cw.refl ao⟩
 | .exit id,s,x,fu,φ,w,a,ds,h,ao,aA,hm,aw=>by cases h;exact wpIn_exit ⟨rfl,φ,ds,hm,aw,cw.refl ao⟩
 | .goto l,s,x,fu,φ,w,a,ds,h,ao,aA,hm,aw=>by cases h;exact wpIn_goto ⟨rfl,φ,ds,hm,aw,cw.refl ao⟩
 | .ret,s,x,fu,φ,w,a,ds,h,ao,aA,hm,aw=>by cases h;exact wpIn_ret ⟨rfl,φ,ds,hm,aw,cw.refl ao⟩
 | .region id ops d,s,x,fu,φ,w,a,ds,h,ao,aA,hm,aw=>by
   unfold mL at h;cases d with
   |true=>
    simp only [bx] at h;split at h
    ·rename_i s1 bB ad
     cases h;split at ad
     ·rename_i oL aM
      cases ad;exact aeW cK cT ao aA aw dE (λc a w ak=>by obtain⟨he,_⟩:=ak;cases he) aM λfh fR w2 cJ dk=>⟨rfl,fh,ds,hm.mono (dk.ext ao),cJ,dk⟩
     ·exact Vz cK cT ao aA aw dE (λc a w ak=>by obtain⟨he,_⟩:=ak;cases he) ad λfh fR w2 cJ dk=>⟨rfl,fh,ds,hm.mono (dk.ext ao),cJ,dk⟩
    ·cases h
   |false=>
    simp only [ek] at h;split at h
    ·rename_i s1 bB ad
     cases h;exact wpIn_region_list (Nl cT _ _ _ _ _ _ _ _ ao aA aw ad λfh fR w2 cJ dk=>⟨rfl,fh,ds,hm.mono (dk.ext ao),cJ,dk⟩)
    ·cases h
 | .seq gM c2,s,x,fu,φ,w,a,ds,h,ao,aA,hm,aw=>by
   unfold mL at h;refine wpIn_seq ?_;split at h
   ·rename_i eA s1 ad
    refine wpIn_mono (uv cK cT gN dE bm gM s eA s1 φ w a ds ad ao aA hm aw) λe ev w1 ak=> ?_
    cases eA with
    |normal=>
     obtain⟨rfl,gE,Du,kf,q1,aE⟩:=ak;exact wpIn_mono (uv cK cT gN dE bm c2 s1 x fu gE w1 ev Du h aE.rel (aA.mono (aE.ext ao)) kf q1) λe fR w2 hp=>yf.trans ao aE hp
    |exit Dv=>cases h;obtain⟨rfl,_⟩:=id ak;exact ak
    |goto l=>cases h;obtain⟨rfl,_⟩:=id ak;exact ak
    |ret=>cases h;obtain⟨rfl,_⟩:=id ak;exact ak
   ·cases h
 | .cond c gM c2,s,x,fu,φ,w,a,ds,h,ao,aA,hm,aw=>by
   unfold mL at h;split at h
   ·rename_i t aq
    have Bm:=gq aA aw.get c;rw[aq] at Bm;have ae':a.eval c= .bool t:=by
     cases Bn:a.eval c<;>rw[Bn] at Bm<;>cases Bm
     rfl
    refine wpIn_cond ae' ?_;cases t with
    |true=>exact uv cK cT gN dE bm gM s x fu φ w a ds h ao aA hm aw
    |false=>exact uv cK cT gN dE bm c2 s x fu φ w a ds h ao aA hm aw
   ·split at h
    ·rename_i t aK
     refine wpIn_cond (I' cT.facts w aK (gq aA aw.get c)) ?_;cases t with
     |true=>exact uv cK cT gN dE bm gM s x fu φ w a ds h ao aA hm aw
     |false=>exact uv cK cT gN dE bm c2 s x fu φ w a ds h ao aA hm aw
    ·cases h
 | .block VH c,s,x,fu,φ,w,a,ds,h,ao,aA,hm,aw=>by
   unfold mL at h;refine wpIn_block ?_;split at h
   ·rename_i eA s1 ad
    refine wpIn_mono (uv cK cT gN dE bm c s eA s1 φ w a ds ad ao aA hm aw) λe ev w1 ak=> ?_
    cases eA with
    |normal=>cases h;obtain⟨rfl,_⟩:=id ak;exact ak
    |goto l=>cases h;obtain⟨rfl,_⟩:=id ak;exact ak
    |ret=>cases h;obtain⟨rfl,_⟩:=id ak;exact ak
    |exit Dv=>
     obtain⟨rfl,ak⟩:=ak;show if Dv=VH then _ else _
     cases ae:Nat.beq Dv VH with
     |true=>
      simp only [ae,bx] at h;cases h;rw[aQ (cA ae)];exact⟨rfl,ak⟩
     |false=>
      simp only [ae,ek] at h;cases h;rw[aU (λe=>by subst e;rw[Nat.beq_refl] at ae;cases ae)];exact⟨rfl,ak⟩
   ·cases h
 | .loop c,s,x,fu,φ,w,a,ds,h,ao,aA,hm,aw=>by
   unfold mL at h;exact wpIn_loop_rounds bm (VC (uv cK cT gN dE bm c) bm s x fu φ w a ds h ao aA hm aw _ λ_ _ _ ak=>ak)
 | .scope c,s,x,fu,φ,w,a,ds,h,ao,aA,hm,aw=>by cases h
 | .rangeFunc g ps nq body,s,x,fu,φ,w,a,ds,h,ao,aA,hm,aw=>by
   unfold mL at h;cases Bh:gN with
   |true=>rw[Bh] at h;cases h
   |false=>
    rw[Bh,ek] at h;have:=dE Bh;subst this;exact ae3 cT h ao aA hm aw
 | .refuse _,s,x,fu,φ,w,a,ds,h,ao,aA,hm,aw=>by cases h
end
def setArgs:Nat->List J->aG->Option aG
 |_,[],sl=>some sl
 |i,v::r,sl=>match bR.set v depth sl i with
  |some s=>setArgs (i+1) r s
  |none=>none
omit [a7] in
theorem NT:∀(l:List J) (i:Nat) (sl dH:aG),setArgs i l sl=some dH->∀t v,dH.get t=some v->(∃j,j<l.length/\t=i+j/\v=l.getD j undef)\/sl.get t=some v
 |[],i,sl,dH,h,t,v,aC=>by
  cases h;exact .inr aC
 |u::r,i,sl,dH,h,t,v,aC=>by
  unfold setArgs at h;split at h
  ·rename_i s aw
   rcases NT r (i+1) s dH h t v aC with ⟨j,hj,aK,ae_⟩|aA
   ·exact .inl ⟨j+1,by simp;omega,ar,by simpa using ae_⟩
   ·rw[bR.nY _ _ _ _ _ t aw] at aA
    by_cases aK:t=i
    ·subst aK
     rw[aQ rfl] at aA;cases aA;exact .inl ⟨0,by simp,rfl,rfl⟩
    ·rw[aU aK] at aA
     exact .inr aA
  ·cases h
def w3 (P:aR) (A:a') (sl:aG):List ResultVar->Option (List J)
 |[]=>some []
 | .tmp t::r=>match w3 P A sl r with
   |some vs=>some (slot sl t::vs)
   |none=>none
 | .cell a t::r=>match CX P A t (slot sl a),w3 P A sl r with
   |some v,some vs=>some (v::vs)
   |_,_=>none
def yi:List J->J
 |[v]=>v
 |vs=> .tuple ⟨vs⟩
section
variable {P:aR} {φ:bV} {A a_:a'} {w:ax}
theorem afa (ao:bU φ A w) {t:aJ} {p p' v:J} (hp:aD φ p p') (h:CX P A t p=some v):∃aB,(do loadVar t (<-asAddr p')).run P w= .ok aB w/\aD φ v aB:=by
 unfold CX at h;split at h
 ·rename_i b off
  cases hp with
  |ptr he=>
   unfold loadVar;cases qm:bd P (isAgg t) with
   |none=>rw[qm] at h;cases h
   |some E7=>
    rw[qm] at h;cases E7 with
    |false=>
     simp only at h;obtain⟨aB,ad,af⟩:=u6 ao h he;refine⟨aB,cQ (a:=(⟨_,_,none⟩:Addr)) rfl (cQ qm ?_),af⟩;simp [Go.load,Sem.run,ad]
    |true=>
     simp only at h;cases cl:bd P (sizeOf t) with
     |none=>rw[cl] at h;cases h
     |some n=>
      rw[cl] at h;simp only at h;obtain⟨l,hl,rfl⟩:=Option.map_eq_some_iff.1 h;obtain⟨cF,ad,af,ay⟩:=E4 ao P hl he;refine⟨.agg cF,cQ (a:=(⟨_,_,none⟩:Addr)) rfl (cQ qm ?_),.agg _ _ (by simp [af]) λi ag=>by simpa using ay i (by simpa using ag)⟩;simp only [if_true];exact cQ cl (dc ad rfl)
 ·cases h
def NU (tmps:Array J):ResultVar->Sem J
 | .tmp t=>pure (tmps.getD t undef)
 | .cell a t=>do loadVar t (<-asAddr (tmps.getD a undef))
theorem NV (ao:bU φ A w) {sl:aG} {tmps:Array J} (aw:∀t v,sl.get t=some v->aD φ v (tmps.getD t undef)):∀(l:List ResultVar) (vs:List J),w3 P A sl l=some vs->
  ∃cF,(l.mapM (NU tmps)).run P w= .ok cF w/\hS vs φ ⟨cF⟩
 |[],vs,h=>by
  cases h;exact⟨[],rfl,rfl,λj hj=>absurd hj (by simp)⟩
 | .tmp t::r,vs,h=>by
   unfold w3 at h;split at h
   ·rename_i us hu
    cases h;obtain⟨NW,ad,af,ay⟩:=NV ao aw r us hu;refine⟨tmps.getD t undef::NW,?_,by simpa using af,λj hj=> ?_⟩
    ·rw[List.mapM_cons]
     exact cQ (a:=tmps.getD t undef) rfl (dc ad rfl)
    ·cases j with
     |zero=>exact I_ (aw t)
     |succ j=>simpa using ay j (by simpa using hj)
   ·cases h
 | .cell a t::r,vs,h=>by
   unfold w3 at h;split at h
   ·rename_i v us aC hu
    cases h;obtain⟨NW,ad,af,ay⟩:=NV ao aw r us hu;obtain⟨aB,g1,g2⟩:=afa ao (I_ (aw a)) aC;refine⟨aB::NW,?_,by simpa using af,λj hj=> ?_⟩
    ·rw[List.mapM_cons]
     exact dc g1 (dc ad rfl)
    ·cases j with
     |zero=>exact g2
     |succ j=>simpa using ay j (by simpa using hj)
   ·cases h
theorem VI (ao:bU φ A w) {sl:aG} {fn:Func} {tmps:Array J} (aw:∀t v,sl.get t=some v->aD φ v (tmps.getD t undef)) {vs:List J} (h:w3 P A sl fn.results.toList=some vs):
  ∃aB,(results fn tmps).run P w= .ok aB w/\aD φ (yi vs) aB:=by
 obtain⟨cF,ad,af,ay⟩:=NV ao aw _ vs h;have e:results fn tmps=(fn.results.mapM (NU tmps)) >>= λvs=>pure (if h:vs.size=1 then vs[0] else .tuple vs):=by
  unfold results;congr 1
 rw[e,Array.mapM_eq_mapM_toList];refine⟨_,dc (a:=(⟨cF⟩:Array J)) (dc ad rfl) rfl,?_⟩
 match vs,cF,af,ay with
 |[v],[aB],_,ay=>exact ay 0 (by simp)
 |[],[],_,_=>exact .tuple _ _ rfl λi ag=>absurd ag (by simp)
 |a::b::r,aW::b'::dX,af,ay=>exact .tuple _ _ (by simpa using af.symm) λi ag=>by simpa using ay i (by simpa using ag)
end
def Bo (N:Nat):List Tmp->List J->aG->Option aG
 |[],[],sl=>some sl
 |t::cW,v::vs,sl=>match gX N sl (some t) v with
  |some s=>Bo N cW vs s
  |none=>none
 |_,_,_=>none
def VJ:LoopState->Bool
 | .ready=>true
 |_=>false
def zE:k0->Option Code
 | .normal=>none
 | .exit id=>some (.exit id)
 | .goto l=>some (.goto l)
 | .ret=>some .ret
def Dw:k0->LoopState
 | .normal=> .ready
 |_=> .done
def FK:k0->Bool
 | .normal=>true
 |_=>false
def NY (P:aR) [Lib P] [dS P] (gl:bR Nat) (bm:Nat) (C:h8) (b:Nat) (args:List J) (A:a'):Option (J×a'):=
 match A.getLoop b with
 |some fO=>match Bo fO.N fO.params args fO.sl with
  |some mg=>match mL P C gl fO.N true bm fO.assign {sl:=mg,ms:=[],A} with
   |some (.normal,s1)=>match s1.A.getLoop b with
    |some FL=>bif VJ FL.state then
      match s1.A.Dt b (.loop {FL with state:= .busy}) with
      |some fl=>match mL P C gl fO.N true bm fO.body {sl:=s1.sl,ms:=s1.ms,A:=fl} with
       |some (x,r3)=>match r3.A.getLoop b with
        |some VK=>match r3.A.Dt b (.loop {VK with state:=Dw x,pending:=zE x}) with
         |some ra=>some (.bool (FK x),ra)
         |none=>none
        |none=>none
       |none=>none
      |none=>none
     else none
    |none=>none
   |_=>none
  |none=>none
 |none=>none
def NZ (P:aR) [Lib P] [dS P] (gl:bR Nat) (bm:Nat) (C:h8) (f:FuncId) (args:List J) (A:a'):Option (J×a'):=
 match P.funcs[f]? with
 |some fn=>match fn.body with
  |some c=>match setArgs 0 args .nil with
   |some sl=>match mL P C gl (args.length+(fn.ntmps-args.length)) false bm c {sl,ms:=[],A} with
    |some (x,s1)=>match x with
     | .exit _=>none
     | .goto _=>none
     |_=>match ye s1.A s1.ms with
      |some fl=>match w3 P fl s1.sl fn.results.toList with
       |some vs=>some (yi vs,fl)
       |none=>none
      |none=>none
    |none=>none
   |none=>none
  |none=>none
 |none=>none
section
variable {P:aR} {gl:bR Nat}
theorem fw.Bo {N:Nat} {ds:List Deferred} {φ:bV}:∀(cW:List Tmp) (vs:List J) (us:List J) (sl dH:aG) (a:Act),fw N ds φ sl a->AE.Bo N cW vs sl=some dH->us.length=vs.length->(∀j,j<vs.length->aD φ (vs.getD j undef) (us.getD j undef))->
  cW.length=us.length/\fw N ds φ dH {a with tmps:=(cW.zip us).foldl (λtmps p=>tmps.setIfInBounds p.1 p.2) a.tmps}
 |[],[],us,sl,dH,a,aw,h,hl,aC=>by
  cases h;have:us=[]:=by simpa using hl
  subst this;exact⟨rfl,aw⟩
 |t::cW,v::vs,us,sl,dH,a,aw,h,hl,aC=>by
  unfold AE.Bo at h;split at h
  ·rename_i s1 ad
   cases us with
   |nil=>simp at hl
   |cons u us=>
    have dU:=aw.put (by simpa using aC 0 (by simp)) ad;obtain⟨q1,aE⟩:=fw.Bo cW vs us s1 dH _ dU h (by simpa using hl) (λj hj=>by simpa using aC (j+1) (by simpa using hj));exact⟨by simp [q1],aE⟩
  ·cases h
 |[],_::_,_,_,_,_,_,h,_,_=>by cases h
 |_::_,[],_,_,_,_,_,h,_,_=>by cases h
end
end AE
namespace AE
variable [a7]
section
variable {P:aR} [Lib P] [dS P] {gl:bR Nat} {bm:Nat} {C:h8}
theorem afb (cK:P.follows .mixedOrders=true) (cT:lA P gl C) {f:FuncId} {args:List J} {A:a'} {v:J} {a_:a'} {φ:bV} {w:ax} {gi:Array J} (h:NZ P gl bm C f args A=some (v,a_)) (ao:bU φ A w) (aA:mK gl φ)
  (gy:hS args φ gi):Calls P f gi w (zv φ A w v a_):=by
 unfold NZ at h;split at h
 ·rename_i fn mM
  split at h
  ·rename_i c aq
   split at h
   ·rename_i sl gw
    split at h
    ·rename_i x s1 pO
     have cl:gi.size=args.length:=gy.1;have aw:fw (args.length+(fn.ntmps-args.length)) [] φ sl {tmps:=gi++Array.replicate (fn.ntmps-gi.size) undef,defers:=[]}:=by
      refine⟨by simp [cl],rfl,λt u hu=> ?_⟩;rcases NT _ _ _ _ gw t u hu with ⟨j,hj,aK,rfl⟩|aA
      ·have:=gy.2 j hj
       simp only [Nat.zero_add] at aK;subst aK;simp only [fb] at this ⊢;rw[Array.getElem?_append_left ar];exact this
      ·cases aA
     have fM:∀(vs:List J) (fl:a'),(x= .normal\/x= .ret)->ye s1.A s1.ms=some fl->w3 P fl s1.sl fn.results.toList=some vs->v=yi vs->a_=fl->Calls P f gi w (zv φ A w v a_):=by
      intro vs fl ak afc kr aC lC;subst aC;subst lC;refine(callsIn_wide (n:=0)).1 ?_;refine callsIn_of_wp_marks mM aq trivial ?_ rfl;have afd:=uv (ro:=none) cK cT false (λ_=>rfl) bm c {sl,ms:=[],A} x s1 φ w _ [] pO ao aA .nil aw;refine wpIn_mono (F:=Fr none) afd λe ev w1 hp=> ?_
      obtain⟨rfl,gE,ds,kf,q1,aE⟩:=hp;have main:LeavesInM (Fr none) 0 P fn ev.tmps (zv φ A w (yi vs) a_) ev.defers .returning w1:=by
       rw[q1.defers];refine NL s1.ms ds s1.A a_ w1 aE.rel kf afc λw2 ca=> ?_
       obtain⟨aB,g1,g2⟩:=VI (fn:=fn) ca.rel q1.get kr;exact⟨aB,g1,gE,g2,cw.trans ao aE ca⟩
      rcases ak with rfl|rfl
      ·exact main
      ·exact main
     cases x with
     |exit Dv=>cases h
     |goto l=>cases h
     |normal=>
      simp only at h;split at h
      ·rename_i fl hl
       split at h
       ·rename_i vs kr
        cases h;exact fM vs a_ (.inl rfl) hl kr U U
       ·cases h
      ·cases h
     |ret=>
      simp only at h;split at h
      ·rename_i fl hl
       split at h
       ·rename_i vs kr
        cases h;exact fM vs a_ (.inr rfl) hl kr U U
       ·cases h
      ·cases h
    ·cases h
   ·cases h
  ·cases h
 ·cases h
theorem afe (cK:P.follows .mixedOrders=true) (cT:lA P gl C) {b:Nat} {args:List J} {A:a'} {v:J} {a_:a'} {φ:bV} {w:ax} {gi:Array J} {e:hz} {k:hR} {fO:AP} {r:Loop}
  (h:NY P gl bm C b args A=some (v,a_)) (ao:bU φ A w) (aA:mK gl φ) (gy:hS args φ gi) (he:φ b=some e) (aj:A.bl.get b=some k) (fo:k.obj= .gh (.loop fO)) (rP:w.heap[e.bk]? =some (.loop r)) (Ba:rN φ (.loop fO) (.loop r)):
  gi.size=r.params.size/\RoundIn Fence.wide 0 P e.bk r.fn ((r.params.zip gi).foldl (λtmps (t,a)=>tmps.setIfInBounds t a) r.tmps) r.assign r.body w (zv φ A w v a_):=by
 unfold NY at h;have aff:A.getLoop b=some fO:=by unfold a'.getLoop;rw[aj];simp only [fo]
 rw[aff] at h;simp only at h;obtain⟨oL,kY,cP,NQ,j5,N0,has,zo,apr,gw⟩:=id Ba;cases kY;split at h
 ·rename_i mg e9
  have zy:fw fO.N [] φ fO.sl {tmps:=r.tmps,defers:=[]}:=⟨j5,rfl,gw⟩;obtain⟨N1⟩:=gi;obtain⟨VL,tZ⟩:=gy;simp only [List.size_toArray] at VL;obtain⟨hlen,xV⟩:=fw.Bo fO.params args N1 fO.sl mg _ zy e9 VL (λj hj=>by simpa [fb] using tZ j hj);refine⟨by rw[N0];simp [hlen],?_⟩;have afg:(r.params.zip ⟨N1⟩).foldl (λtmps (t,a)=>tmps.setIfInBounds t a) r.tmps=(fO.params.zip N1).foldl (λtmps p=>tmps.setIfInBounds p.1 p.2) r.tmps:=by
   rw[N0,<-Array.foldl_toList];simp
  rw[afg];split at h
  ·rename_i s1 afh
   split at h
   ·rename_i FL Dx
    cases wX:VJ FL.state with
    |false=>rw[wX] at h;cases h
    |true=>
     rw[wX,bx] at h;split at h
     ·rename_i fl NP
      split at h
      ·rename_i x r3 rb
       split at h
       ·rename_i VK wZ
        split at h
        ·rename_i ra afi
         cases h;refine roundIn_of_wpIn trivial ?_;rw[has,zo];have afj:=uv (ro:=some e.bk) cK cT true (λh=>by cases h) bm fO.assign {sl:=mg,ms:=[],A} .normal s1 φ w _ [] afh ao aA .nil xV;refine wpIn_mono (F:=Fr (some e.bk)) afj λe1 ev w1 hp=> ?_
         obtain⟨rfl,gE,Du,kf,q1,aE⟩:=hp;have N2:=aE.ext ao _ _ he;obtain⟨cJ,g1,g2,g3,g4⟩:=NK (P:=P) aE.rel Dx N2;obtain⟨uc,kV,Fg,afk⟩:=id g2;cases kV;have wG:=Jn (o':= .loop {cJ with state:= .busy}) aE.rel N2 NP ⟨{cJ with state:= .busy},rfl,rfl,afk⟩;refine⟨{w1 with heap:=w1.heap.setIfInBounds e.bk (.loop {cJ with state:= .busy})},?_,?_⟩
         ·unfold Instr.beginRound
          refine dc g3 ?_;refine dc (a:=()) (g4 _) ?_;rw[Fg];cases Jr:FL.state<;>rw[Jr] at wX<;>first|rfl|cases wX
         ·have VM:=cw.trans ao aE wG
          have afl:=uv (ro:=some e.bk) cK cT true (λh=>by cases h) bm fO.body {sl:=s1.sl,ms:=s1.ms,A:=fl} x r3 gE _ ev Du rb wG.rel (aA.mono (VM.ext ao)) kf q1;refine wpIn_mono (F:=Fr (some e.bk)) afl λe2 fR w2 iC=> ?_
          obtain⟨rfl,FH,afm,sK,gV,gO⟩:=iC;have VN:=gO.ext wG.rel _ _ N2;obtain⟨fQ,uu,yg,Bk,Bl⟩:=NK (P:=P) gO.rel wZ VN;obtain⟨C5,VO,aps,apt,afn⟩:=id yg;cases VO;have NR:=Jn (o':= .loop {fQ with state:=Dw x,pending:=zE x}) gO.rel VN afi ⟨{fQ with state:=Dw x,pending:=zE x},rfl,rfl,rfl,afn⟩;have NS:=cw.trans ao VM (cw.trans wG.rel gO NR);have Js:∀(j:Option Code),j=zE x->(Instr.endRound e.bk j).run P w2= .ok (.bool (FK x)) {w2 with heap:=w2.heap.setIfInBounds e.bk (.loop {fQ with state:=Dw x,pending:=zE x})}:=by
           intro j hj;subst hj;unfold Instr.endRound;refine dc Bk ?_;have cP:(if (zE x).isNone then LoopState.ready else LoopState.done)=Dw x:=by cases x<;>rfl
           have av:(zE x).isNone=FK x:=by cases x<;>rfl
           rw[cP,av];exact dc (a:=()) (Bl _) rfl
          have post:zv φ A w (.bool (FK x)) a_ (.returned (.bool (FK x))) {w2 with heap:=w2.heap.setIfInBounds e.bk (.loop {fQ with state:=Dw x,pending:=zE x})}:=⟨FH,.bool _,NS⟩;cases x with
          |normal=>exact⟨_,_,Js _ rfl,post⟩
          |ret=>exact⟨_,_,Js _ rfl,post⟩
          |exit Dv=>exact⟨_,_,Js _ rfl,post⟩
          |goto l=>exact⟨_,_,Js _ rfl,post⟩
        ·cases h
       ·cases h
      ·cases h
     ·cases h
   ·cases h
  ·cases h
 ·cases h
end
end AE
end Go.Proofs.YtepcfjbfkedlpaaDoor
namespace Go.Proofs.YtepcfjbfkedlpaaDoor
open Go Go.RowKit
namespace AE
structure cb (B:Nat) (w w':ax):Prop where
 below:Below B w w'
 drawn:ic w<=ic w'
theorem cb.refl (B:Nat) (w:ax):cb B w w:=⟨Below.refl _ _,b2 _⟩
theorem cb.trans {B:Nat} {a w w':ax} (h:cb B a w) (g:cb B w w'):cb B a w':=⟨h.below.trans g.below,Nat.le_trans h.drawn g.drawn⟩
theorem cb.mono {B vp:Nat} {w w':ax} (h:cb B w w') (ae:vp<=B):cb vp w w':=⟨h.below.mono ae,h.drawn⟩
theorem cb.size {B:Nat} {w w':ax} (h:cb B w w'):w.heap.size<=w'.heap.size:=h.below.size
theorem cb.block {B:Nat} {w w':ax} (h:cb B w w'):∀k,k<B->w'.heap[k]? =w.heap[k]? :=h.below.block
class sV (P:aR) where
 calls:List (FuncId×List J×J)
def Jt (f:FuncId) (args:List J):List (FuncId×List J×J)->Option J
 |[]=>none
 |p::r=>bif Nat.beq f p.1&&n9 args p.2.1 then some p.2.2 else Jt f args r
theorem VP {f:FuncId} {args:List J} {v:J}:∀{l:List (FuncId×List J×J)},Jt f args l=some v->(f,args,v)∈l
 |[],h=>by cases h
 |p::r,h=>by
  unfold Jt at h;cases he:(Nat.beq f p.1&&n9 args p.2.1) with
  |true=>
   rw[he,bx,cE] at h;simp only [cV] at he;have ad:=cA he.1;have af:=q3 _ _ he.2;subst ad;subst af;subst h;exact List.mem_cons_self
  |false=>
   rw[he,ek] at h;exact List.mem_cons_of_mem _ (VP h)
def zF (g:FuncId) (u:J):J:= .func (.func g) ⟨[]⟩ ⟨[.agg ⟨[.slice none 7 7,u]⟩]⟩
def N3 (A:a') (v:J):Option J:=
 bif aL v then some v else match v with
 | .func (.func g) ⟨[]⟩ ⟨[.pointer (some ⟨b,off,none⟩)]⟩=>match A.load b off with
   |some u=>bif aL u then some (zF g u) else none
   |none=>none
 |_=>none
def Ju (A:a'):List J->Option (List J)
 |[]=>some []
 |v::r=>match N3 A v,Ju A r with
  |some aB,some dX=>some (aB::dX)
  |_,_=>none
def Jv (P:aR) [sV P] (C:h8):h8 where
 call:=λf args A=>match sV.calls P with
  |[]=>C.call f args A
  |l=>match Ju A args with
   |some us=>match Jt f us l with
    |some v=>some (v,A)
    |none=>C.call f args A
   |none=>C.call f args A
 round:=C.round
def sW (P:aR) [Lib P] [dS P] [sV P] (gl:bR Nat) (bm:Nat):Nat->h8
 |0=>Jv P {call:=λ_ _ _=>none,round:=λ_ _ _=>none}
 |d+1=>Jv P {call:=NZ P gl bm (sW P gl bm d),round:=NY P gl bm (sW P gl bm d)}
variable [a7]
def jA (P:aR) (p:FuncId×List J×J):Prop:=
 dP p.2.1=true/\aL p.2.2=true/\∀w,n' w->Calls P p.1 ⟨ew p.2.1⟩ w λe w'=>e= .returned (aI p.2.2)/\cb w.heap.size w w'
def VQ (w:ax) (v a:J):Prop:=
 (aL v=true/\a=aI v)\/∃g u B off,v=zF g u/\aL u=true/\a= .func (.func g) #[] #[.pointer (some ⟨B,off,none⟩)]/\B<w.heap.size/\w.cell? ⟨B,off,none⟩=some (aI u)
def Dy (w:ax):List J->List J->Prop
 |[],[]=>True
 |v::r,a::s=>VQ w v a/\Dy w r s
 |_,_=>False
def Bp (P:aR) (p:FuncId×List J×J):Prop:=
 ∀w,n' w->∀us,Dy w p.2.1 us->Calls P p.1 ⟨us⟩ w λe w'=>∃aB,e= .returned aB/\(∀φ,aD φ p.2.2 aB)/\cb w.heap.size w w'
theorem Dy.plain {w:ax}:∀{l us:List J},dP l=true->Dy w l us->us=ew l
 |[],[],_,_=>rfl
 |v::r,a::s,hp,h=>by
  simp only [dP,cV] at hp;have af:=Dy.plain hp.2 h.2;rcases h.1 with ⟨_,ad⟩|⟨g,u,B,off,rfl,_⟩
  ·rw[ad,af];rfl
  ·have:aL (zF g u)=false:=by unfold zF;simp [aL,dP]
   rw[this] at hp;exact absurd hp.1 (by simp)
 |[],_::_,_,h=>h.elim
 |_::_,[],_,h=>h.elim
theorem Bp.of {P:aR} {p:FuncId×List J×J} (ad:dP p.2.1=true) (h:∀w,n' w->Calls P p.1 ⟨ew p.2.1⟩ w λe w'=>∃aB,e= .returned aB/\(∀φ,aD φ p.2.2 aB)/\cb w.heap.size w w'):Bp P p:=
 λw hw us ha=>by rw[ha.plain ad];exact h w hw
theorem jA.N4 {P:aR} {p:FuncId×List J×J} (h:jA P p):Bp P p:=
 .of h.1 λw hw=>(h.2.2 w hw).mono λe w' ⟨he,ae⟩=>⟨_,he,λφ=>aD.vg φ _ h.2.1,ae⟩
def VR (P:aR) [sV P]:Prop:=∀p∈sV.calls P,Bp P p
theorem cw.below {φ:bV} {A:a'} {w w':ax} (ao:bU φ A w) (ae:cb w.heap.size w w'):cw φ A w φ A w' where
 rel:=⟨ao.wf,λb e h=>by
  obtain⟨k,ad,af,ay⟩:=ao.eo b e h;exact⟨k,ad,af,ay.mono (λ_ _ h=>h) (ae.block _ ay.lt)⟩,ao.apart,ao.along,λi o ag=>by
  obtain⟨ad,af⟩:=ao.df i o ag
  exact⟨by rw[ae.block i (Array.getElem?_eq_some_iff.1 ad).1];exact ad,af⟩⟩
 eo:=λ_ _=>rfl
 rO:=λb ad af=>by omega
 new:=λb e ad af=>absurd (ao.lt af) ar
 qi:=b2 _
 low:=b2 _
 same:=λ_ _ _=>rfl
 ro:=λ_ _ h _=>h
 keep:=λi ag _=>ae.block i ag
 gD:=ae.size
 os:=ae.below.os
 tape:=ae.below.tape
 output:=ae.below.output
 drawn:=ae.drawn
theorem afo {φ:bV} {A:a'} {w:ax} (ao:bU φ A w) {v aB a:J} (h:N3 A v=some aB) (ha:aD φ v a):VQ w aB a:=by
 unfold N3 at h;cases hp:aL v with
 |true=>
  rw[hp,bx,cE] at h;subst h;exact .inl ⟨hp,aD.ig v hp ha⟩
 |false=>
  rw[hp,ek] at h;split at h
  ·rename_i g b off
   split at h
   ·rename_i u hu
    cases Jw:aL u with
    |false=>rw[Jw] at h;cases h
    |true=>
     rw[Jw,bx,cE] at h;subst h;cases ha with
     |func fs kn cs cs' av ad af aO aq=>
      have e1:kn= #[]:=by
       apply Array.eq_empty_of_size_eq_zero;have:=ad;simp at this;omega
      have aw:cs'.size=1:=by
       have:=af;simp at this;omega
      have aM:=aq 0 (by simp);obtain⟨dw,rfl⟩:∃dw,cs'= #[dw]:=by
       obtain⟨l⟩:=cs'
       match l,aw with
       |[dw],_=>exact⟨dw,rfl⟩
      have afp:aD φ (.pointer (some ⟨b,off,none⟩)) dw:=by simpa using aM
      cases afp with
      |ptr he=>
       rename_i e;obtain⟨u',g1,g2⟩:=u6 ao hu he;refine .inr ⟨g,u,e.bk,e.sh+off,rfl,Jw,by rw[e1],?_,?_⟩
       ·obtain⟨k,_,_,ay⟩:=ao.eo b e he
        exact ay.lt
       ·rw[g1,aD.ig u Jw g2]
   ·cases h
  ·cases h
theorem VS {φ:bV} {A:a'} {w:ax} (ao:bU φ A w):∀{args us l:List J},Ju A args=some us->args.length=l.length->(∀j,j<args.length->aD φ (args.getD j Go.undef) (l.getD j Go.undef))->Dy w us l
 |[],us,[],h,_,_=>by cases h;trivial
 |v::r,us,a::s,h,hl,hj=>by
  unfold Ju at h;split at h
  ·rename_i aB dX ad af
   cases h;exact⟨afo ao ad (by simpa using hj 0 (by simp)),VS ao af (by simpa using hl) λj gR=>by simpa using hj (j+1) (by simpa using gR)⟩
  ·cases h
 |[],_,_::_,_,h,_=>by cases h
 |_::_,_,[],_,h,_=>by cases h
theorem VT {P:aR} [dS P] [sV P] {gl:bR Nat} {C:h8} (Dz:VR P) (h:lA P gl C):lA P gl (Jv P C):=by
 refine⟨h.facts,λf args A v a_ φ w gi aq ao aA gy=> ?_,h.round⟩;unfold Jv at aq;simp only at aq;split at aq
 ·exact h.call f args A v a_ φ w gi aq ao aA gy
 split at aq
 ·rename_i us has
  split at aq
  ·rename_i u hu
   cases aq;have ay:=Dz _ (VP hu);obtain⟨l⟩:=gi;have hl:=VS ao has gy.1.symm (l:=l) (λi ag=>by simpa using gy.2 i ag);refine(ay w (λi o ag=>(ao.df i o ag).1) l hl).mono λe w' he=> ?_
   obtain⟨aB,rfl,aC,ae⟩:=he;exact⟨φ,aC φ,cw.below ao ae⟩
  ·exact h.call f args A v a_ φ w gi aq ao aA gy
 ·exact h.call f args A v a_ φ w gi aq ao aA gy
theorem zG {P:aR} [Lib P] [dS P] [sV P] {gl:bR Nat} {bm:Nat} (cK:P.follows .mixedOrders=true) (c0:q4 P) (Dz:VR P):∀d,lA P gl (sW P gl bm d)
 |0=>VT Dz ⟨c0,λf args A v a_ φ w gi h=>(by cases h),λb args A v a_ φ w gi e k fO r h=>(by cases h)⟩
 |d+1=>VT Dz ⟨c0,λf args A v a_ φ w gi h ao aA gy=>afb cK (zG cK c0 Dz d) h ao aA gy,
   λb args A v a_ φ w gi e k fO r h ao aA gy he aj fo rP Ba=>afe cK (zG cK c0 Dz d) h ao aA gy he aj fo rP Ba⟩
def start:a':={bl:= .nil,n:=0,mem:= .nil,low:=0}
theorem VU {w:ax} (ag:n' w):bU (λ_=>none) start w:=
 ⟨⟨λ_ _ h=>(by cases h),λ_ _ h=>(by cases h),λ_ _ h=>(by cases h),λ_ _ _ _ h=>(by cases h)⟩,λ_ _ h=>(by cases h),λ_ _ _ _ _ _ h=>(by cases h),λ_ _ _ _ _ _ h=>(by cases h),λi o h=>⟨ag i o h,λ_ _ h=>by cases h⟩⟩
end AE
end Go.Proofs.YtepcfjbfkedlpaaDoor
namespace Go.Proofs.YtepcfjbfkedlpaaDoor
open Go Go.Proofs Go.RowKit
namespace AE
noncomputable instance:Lib Tryd.prog where
 same:=[]
 UI:=λf aO x=>by cases aO
 ML:=[]
 UJ:=λp hp=>by cases hp
theorem mixed:Tryd.prog.follows .mixedOrders=true:=au
end AE
end Go.Proofs.YtepcfjbfkedlpaaDoor
namespace Go.Proofs.YtepcfjbfkedlpaaDoor
open Go Go.RowKit
namespace AE
class cH where
 fx:bV
 dV:Nat
@[reducible] def fG:cH:=⟨λ_=>none,0⟩
def vq [cH] (φ:bV) (A:a'):Prop:=cH.dV<=A.n/\∀b,b<cH.dV->φ b=cH.fx b
theorem vq.step [a7] [cH] {φ cZ:bV} {A a_:a'} {w w':ax} (h:vq φ A) (aw:cw φ A w cZ a_ w'):vq cZ a_:=
 ⟨Nat.le_trans h.1 aw.qi,λb ae=>by rw[aw.eo b (Nat.lt_of_lt_of_le ae h.1)];exact h.2 b ae⟩
theorem vq.none (φ:bV) (A:a'): @vq fG φ A:=⟨Nat.zero_le _,λb ae=>absurd ae (Nat.not_lt_zero _)⟩
structure Here [a7] [cH] (N:Nat) (s:b6) (B:Nat) (w0:ax) (a:Act) (w:ax):Prop where
 ex:∃φ ds,q' φ s.ms ds/\fw N ds φ s.sl a/\bU φ s.A w/\(∀b e,φ b=some e->B<=e.bk)/\vq φ s.A
 below:cb B w0 w
 size:B<=w.heap.size
section
variable [a7]
theorem DA {φ cZ:bV} {A a_:a'} {w w':ax} {B:Nat} (cC:∀b e,φ b=some e->B<=e.bk) (aw:cw φ A w cZ a_ w') (cl:B<=w.heap.size):(∀b e,cZ b=some e->B<=e.bk)/\cb B w w':=by
 refine⟨λb e he=> ?_,⟨aw.os,aw.tape,aw.output,aw.gD,λk aj=>aw.keep k ar λb e eK ae he _=>by have:=cC b e ae;omega⟩,aw.drawn⟩;rcases Nat.lt_or_ge b A.n with h|h
 ·rw[aw.eo b h] at he
  exact cC b e he
 ·rcases aw.new b e h he with ad|⟨cB,e0,d',q1,aE,_⟩
  ·omega
  ·rw[<-aE]
   exact cC cB e0 q1
omit [a7] in
theorem hT (φ:bV):mK .nil φ:=λg b aA=>by cases aA
variable [cH]
variable {P:aR} [Lib P] [dS P] {C:h8} {N B:Nat} {w0 w:ax} {a:Act} {s fu:b6}
theorem afq (cK:P.follows .mixedOrders=true) (cT:lA P .nil C) (bm:Nat) {c:Code} {x:k0} (h:mL P C .nil N false bm c s=some (x,fu)) (ah:Here N s B w0 a w):
  c.wpIn (Fr none) 0 P (λe aW w'=>e=x.exit'/\Here N fu B w0 aW w') a w:=by
 obtain⟨⟨φ,ds,ad,af,ay,bD,fK⟩,cD,cI⟩:=ah;refine wpIn_mono (uv (ro:=none) cK cT false (λ_=>rfl) bm c s x fu φ w a ds h ay (hT φ) ad af) λe aW w' hp=> ?_
 obtain⟨rfl,cZ,afr,q1,aE,ca⟩:=hp;obtain⟨db,dr⟩:=DA bD ca cI;exact⟨rfl,⟨cZ,afr,q1,aE,ca.rel,db,fK.step ca⟩,cD.trans dr,Nat.le_trans cI ca.gD⟩
theorem afs {c:Operand} {t:Bool} (h:dB .nil s.sl c= .bool t) (ah:Here N s B w0 a w):a.eval c= .bool t:=by
 obtain⟨⟨φ,ds,ad,af,ay,bD,_⟩,_,_⟩:=ah;have:=gq (hT φ) af.get c;rw[h] at this;cases aC:a.eval c<;>rw[aC] at this<;>cases this
 rfl
omit [Lib P] in
theorem aft (c0:q4 P) {c:Operand} {t:Bool} (h:A_ P (dB .nil s.sl c)=some t) (ah:Here N s B w0 a w):a.eval c= .bool t:=by
 obtain⟨⟨φ,ds,ad,af,ay,bD,_⟩,_,_⟩:=ah;exact I' c0 w h (gq (hT φ) af.get c)
omit [cH] in
theorem VV (cT:lA P .nil C) {ds:List Deferred} {ops:Array Oper} {Q:Exit->Act->ax->Prop} {lU:List Oper}:∀(l:List Oper) (sl dH:aG) (A a_:a') (φ:bV) (w:ax) (a:Act),bU φ A w->fw N ds φ sl a->wR P C .nil N ops l sl A=some (dH,a_)->
  (∀cZ aW w',fw N ds cZ dH aW->cw φ A w cZ a_ w'->wpListIn (Fr none) 0 P ops Q lU aW w')->wpListIn (Fr none) 0 P ops Q (l++lU) a w
 |[],sl,dH,A,a_,φ,w,a,ao,aw,h,cY=>by
  cases h;exact cY φ a w aw (cw.refl ao)
 |o::r,sl,dH,A,a_,φ,w,a,ao,aw,h,cY=>by
  unfold wR at h;split at h
  ·rename_i eE bB cP
   obtain⟨v,aC,hp⟩:=Nj cP;rw[List.cons_append];unfold wpListIn;refine Jb cT ao (hT φ) aw.get aC λcZ aB w' x1 pK=> ?_
   exact VV cT r eE dH bB a_ cZ w' (a.put o.dst aB) pK.rel ((aw.mono (pK.ext ao)).put x1 hp) h λfh fR w2 ad af=>cY fh fR w2 ad (cw.trans ao pK af)
  ·cases h
theorem VW (cT:lA P .nil C) {ops:Array Oper} {Q:Exit->Act->ax->Prop} (l1 lU:List Oper) {eE:aG} {bB:a'} (h:wR P C .nil N ops l1 s.sl s.A=some (eE,bB)) (ah:Here N s B w0 a w)
  (cY:∀aW w',Here N {sl:=eE,ms:=s.ms,A:=bB} B w0 aW w'->wpListIn (Fr none) 0 P ops Q lU aW w'):wpListIn (Fr none) 0 P ops Q (l1++lU) a w:=by
 obtain⟨⟨φ,ds,ad,af,ay,bD,fK⟩,cD,cI⟩:=ah;refine VV cT l1 _ _ _ _ φ w a ay af h λcZ aW w' q1 aE=> ?_
 obtain⟨db,dr⟩:=DA bD aE cI;exact cY aW w' ⟨⟨cZ,ds,ad.mono (aE.ext ay),q1,aE.rel,db,fK.step aE⟩,cD.trans dr,Nat.le_trans cI aE.gD⟩
theorem Here.quiet {w':ax} (ah:Here N s B w0 a w) (ae:cb w.heap.size w w'):Here N s B w0 a w':=by
 obtain⟨⟨φ,ds,ad,af,ay,bD,fK⟩,cD,cI⟩:=ah;exact⟨⟨φ,ds,ad,af,(cw.below ay ae).rel,bD,fK⟩,cD.trans (ae.mono cI),Nat.le_trans cI ae.size⟩
theorem Here.put {d:Option Tmp} {v:J} {dH:aG} (ah:Here N s B w0 a w) (hp:aL v=true) (e9:gX N s.sl d v=some dH):Here N {s with sl:=dH} B w0 (a.put d (aI v)) w:=by
 obtain⟨⟨φ,ds,ad,af,ay,bD,fK⟩,cD,cI⟩:=ah;exact⟨⟨φ,ds,ad,af.put (aD.vg φ v hp) e9,ay,bD,fK⟩,cD,cI⟩
end
theorem VX [cH] {P:aR} {N B:Nat} {w0 w:ax} {a:Act} {X:Type} (f':X->a7) (a8:b6) (gj:X->Prop) (iD:X->Nat) {body:Code} {Q:Exit->Act->ax->Prop}
  (round:∀x,gj x->∀a w,@Here (f' x) _ N a8 B w0 a w->body.wpIn (Fr none) 0 P (Exit.then (λaW w'=>∃x',gj x'/\iD x'<iD x/\ @Here (f' x') _ N a8 B w0 aW w') Q) a w)
  (x:X) (ak:gj x) (ah: @Here (f' x) _ N a8 B w0 a w):(Code.loop body).wpIn (Fr none) 0 P Q a w:=by
 have key:∀n x a w,iD x<=n->gj x-> @Here (f' x) _ N a8 B w0 a w->Code.roundsIn (Fr none) 0 P body Q (n+1) a w:=by
  intro n
  induction n with
  |zero=>
   intro x a w av ak ah;rw[roundsIn_succ];refine wpIn_mono (round x ak a w ah) λe aW w' hp=> ?_
   cases e with
   |normal=>obtain⟨x',_,b8,_⟩:=hp;omega
   |_=>exact hp
  |succ n ck=>
   intro x a w av ak ah;rw[roundsIn_succ];refine wpIn_mono (round x ak a w ah) λe aW w' hp=> ?_
   cases e with
   |normal=>
    obtain⟨x',rX,b8,yj⟩:=hp;exact ck x' aW w' ar rX yj
   |_=>exact hp
 exact wpIn_loop_rounds _ (key (iD x) x a w (b2 _) ak ah)
def Jx (v:J) (A:a'):b6:={sl:= .node (some v) .nil .nil,ms:=[],A}
def N5 (v:J):Act:={tmps:= #[v],defers:=[]}
def afu [a7] (P:aR) (fn:Func) (A:a') (sl:aG) (v:J):Prop:=
 ∀(φ:bV) (w:ax) (tmps:Array J),bU φ A w->(∀t u,sl.get t=some u->aD φ u (tmps.getD t undef))->∃aB,(results fn tmps).run P w= .ok aB w/\aD φ v aB
def FM [cH] (P:aR) (fn:Func) (N B:Nat) (w0:ax) (R:Ending->ax->Prop) (a:Act) (w:ax):Prop:=
 ∃(f':a7) (s:b6) (fl:a') (v:J),@Here f' _ N s B w0 a w/\ @ye s.A s.ms=some fl/\ @afu f' P fn fl s.sl v/\
  ∀aB w2,@Here f' _ 1 (Jx v fl) B w0 (N5 aB) w2->R (.returned aB) w2
def rf [cH] (P:aR) (fn:Func) (N B:Nat) (w0:ax) (R:Ending->ax->Prop):Exit->Act->ax->Prop
 | .normal,a,w=>FM P fn N B w0 R a w
 | .ret,a,w=>FM P fn N B w0 R a w
 |_,_,_=>False
theorem N6 [a7] [cH] {P:aR} {f:FuncId} {fn:Func} {c:Code} (mM:P.funcs[f]? =some fn) (aq:fn.body=some c) {args:List J} {sl:aG} (gw:setArgs 0 args .nil=some sl) {φ:bV} {A:a'} {w0 w:ax} {B:Nat} {gi:Array J}
  (ao:bU φ A w) (cC:∀b e,φ b=some e->B<=e.bk) (ho:vq φ A) (gy:hS args φ gi) (ae:cb B w0 w) (cl:B<=w.heap.size) {R:Ending->ax->Prop}
  (pO:∀a,Here (args.length+(fn.ntmps-args.length)) {sl,ms:=[],A} B w0 a w->c.wpIn (Fr none) 0 P (rf P fn (args.length+(fn.ntmps-args.length)) B w0 R) a w):Calls P f gi w R:=by
 have N7:gi.size=args.length:=gy.1;have aw:fw (args.length+(fn.ntmps-args.length)) [] φ sl {tmps:=gi++Array.replicate (fn.ntmps-gi.size) undef,defers:=[]}:=by
  refine⟨by simp [N7],rfl,λt u hu=> ?_⟩;rcases NT _ _ _ _ gw t u hu with ⟨j,hj,aK,rfl⟩|aA
  ·have:=gy.2 j hj
   simp only [Nat.zero_add] at aK;subst aK;simp only [fb] at this ⊢;rw[Array.getElem?_append_left ar];exact this
  ·cases aA
 refine(callsIn_wide (n:=0)).1 ?_;refine callsIn_of_wp_marks mM aq trivial ?_ rfl;refine wpIn_mono (F:=Fr none) (pO _ ⟨⟨φ,[],.nil,aw,ao,cC,ho⟩,ae,cl⟩) λe ev w1 hp=> ?_
 have main:FM P fn (args.length+(fn.ntmps-args.length)) B w0 R ev w1->LeavesInM (Fr none) 0 P fn ev.tmps R ev.defers .returning w1:=by
  rintro ⟨f',s,fl,v,ah,hl,kr,iB⟩;letI:=f';obtain⟨⟨gE,ds,kf,q1,aE,ca,kT⟩,ey,hh⟩:=ah;rw[q1.defers];refine NL s.ms ds s.A fl w1 aE kf hl λw2 db=> ?_
  obtain⟨aB,g1,g2⟩:=kr gE w2 ev.tmps db.rel q1.get;refine⟨aB,g1,?_⟩;obtain⟨uu,yg⟩:=DA ca db hh;refine iB aB w2 ⟨⟨gE,[],.nil,⟨rfl,rfl,λt u hu=> ?_⟩,db.rel,uu,kT.step db⟩,ey.trans yg,Nat.le_trans hh db.gD⟩;unfold Jx at hu;simp only [bR.get] at hu;cases aK:(t==0) with
  |true=>
   rw[aK,bx,cE] at hu;subst hu;have:t=0:=by simpa using aK
   subst this;exact g2
  |false=>
   rw[aK,ek] at hu;cases hp:(t%2==1)<;>rw[hp] at hu<;>cases hu
 cases e with
 |normal=>exact main hp
 |ret=>exact main hp
 |_=>exact hp.elim
end AE
namespace AE
abbrev eg:=List (J×J)
def both:Option eg->Option eg->Option eg
 |some a,some b=>some (a++b)
 |_,_=>none
theorem uw {a b:Option eg} {l:eg} (h:both a b=some l):∃x y,a=some x/\b=some y/\l=x++y:=by
 cases a<;>cases b<;>simp [both] at h
 exact⟨_,_,rfl,rfl,h.symm⟩
def yk:J->Bool
 | .complex .f32 a b=>Nat.beq a 77&&Nat.beq b 77
 |_=>false
theorem VY {v:J} (h:yk v=true):v=cp:=by
 unfold yk at h;split at h
 ·simp only [cV] at h
  rw[cA h.1,cA h.2];rfl
 ·cases h
def DB (v1 gx:J):Option eg:=bif yk gx then some [] else bif aL v1&&aL gx then (bif fN v1 gx&&plain v1 then some [] else some [(v1,gx)]) else none
mutual
def vr (n:Nat):J->J->Option eg
 | .pointer (some ⟨b,o,none⟩),.pointer (some ⟨b',o',none⟩)=>bif Nat.blt b n&&(Nat.beq b b'&&Nat.beq o o') then some [] else none
 | .slice (some ⟨b,o,none⟩) m c,.slice (some ⟨b',o',none⟩) m' c'=>bif Nat.blt b n&&(Nat.beq b b'&&(Nat.beq o o'&&(Nat.beq m m'&&Nat.beq c c'))) then some [] else none
 | .agg ⟨l⟩,.agg ⟨l'⟩=>yl n l l'
 | .func (.func f) ⟨l⟩ ⟨k⟩,.func (.func hv) ⟨l'⟩ ⟨k'⟩=>bif Nat.beq f hv then both (yl n l l') (yl n k k') else none
 | .func (.yield b) ⟨[]⟩ ⟨[]⟩,.func (.yield b') ⟨[]⟩ ⟨[]⟩=>bif Nat.blt b n&&Nat.beq b b' then some [] else none
 |v1,gx=>DB v1 gx
def yl (n:Nat):List J->List J->Option eg
 |[],[]=>some []
 |v::r,aB::dX=>both (vr n v aB) (yl n r dX)
 |_,_=>none
end
def nG (n:Nat) (φ:bV):bV:=λb=>if b<n then φ b else none
theorem DC {n b:Nat} {φ:bV} {e:hz} (h:φ b=some e) (ae:b<n):nG n φ b=some e:=by unfold nG;rw[aQ ae];exact h
theorem qv {n b:Nat} {φ:bV} {e:hz} (h:nG n φ b=some e):b<n/\φ b=some e:=by
 unfold nG at h;split at h
 ·rename_i ae;exact⟨ae,h⟩
 ·cases h
def fj (s1 s2:a7) (l:eg):Prop:=∀p∈l,@aI s1 p.1= @aI s2 p.2
theorem fj.left {s1 s2:a7} {a b:eg} (h:fj s1 s2 (a++b)):fj s1 s2 a:=λp hp=>h p (List.mem_append_left _ hp)
theorem fj.right {s1 s2:a7} {a b:eg} (h:fj s1 s2 (a++b)):fj s1 s2 b:=λp hp=>h p (List.mem_append_right _ hp)
theorem afv {s1 s2:a7} {φ fh:bV} {v1 gx aB:J} {l:eg} (h:DB v1 gx=some l) (hm:fj s1 s2 l) (aC: @aD s1 φ v1 aB): @aD s2 fh gx aB:=by
 unfold DB at h;cases ad:yk gx with
 |true=>rw[VY ad];exact @aD.cp s2 fh aB
 |false=>
  rw[ad,ek] at h;cases af:(aL v1&&aL gx) with
  |false=>rw[af] at h;cases h
  |true=>
   rw[af,bx] at h;simp only [cV] at af;cases ay:(fN v1 gx&&plain v1) with
   |true=>
    simp only [cV] at ay;have he:=gW _ _ ay.1;subst he;rw[@aD.kU s1 φ v1 aB ay.2 aC];exact @aD.kb s2 fh v1 ay.2
   |false=>
    rw[ay,ek,cE] at h;subst h;have:=hm (v1,gx) (by simp);rw[@aD.ig s1 φ v1 aB af.1 aC];simp only at this;rw[this];exact @aD.vg s2 fh gx af.2
mutual
theorem VZ {s1 s2:a7} {φ:bV} {n:Nat}:∀(v1 gx:J) {aB:J} {l:eg},vr n v1 gx=some l->fj s1 s2 l-> @aD s1 φ v1 aB-> @aD s2 (nG n φ) gx aB:=by
 intro v1 gx aB l h hm aC;unfold vr at h;split at h
 ·rename_i b o b' o'
  cases ae:(Nat.blt b n&&(Nat.beq b b'&&Nat.beq o o')) with
  |false=>rw[ae] at h;cases h
  |true=>
   simp only [cV] at ae;have e1:=cA ae.2.1;have e2:=cA ae.2.2;subst e1;subst e2;cases aC with
   |ptr h=>exact @aD.ptr s2 (nG n φ) _ _ _ (DC h (Nat.blt_eq.mp ae.1))
 ·rename_i b o m c b' o' m' c'
  cases ae:(Nat.blt b n&&(Nat.beq b b'&&(Nat.beq o o'&&(Nat.beq m m'&&Nat.beq c c')))) with
  |false=>rw[ae] at h;cases h
  |true=>
   simp only [cV] at ae;have e1:=cA ae.2.1;have e2:=cA ae.2.2.1;have dn:=cA ae.2.2.2.1;have hU:=cA ae.2.2.2.2;subst e1;subst e2;subst dn;subst hU;cases aC with
   |iH aW ad=>exact @aD.iH s2 (nG n φ) _ _ aW ad
   |ia _ _ h=>exact @aD.ia s2 (nG n φ) _ _ _ _ _ (DC h (Nat.blt_eq.mp ae.1))
   |ib _ _ c' h aw aq hl=>exact @aD.ib s2 (nG n φ) _ _ _ _ _ c' (DC h (Nat.blt_eq.mp ae.1)) aw aq hl
 ·rename_i l1 lU
  cases aC with
  |agg cs cs' ad af=>
   obtain⟨q1,aE⟩:=DE l1 lU h hm cs'.toList (by simpa using ad.symm) λi ag=>by simpa [fb] using af i (by simpa using ag)
   exact @aD.agg s2 (nG n φ) _ _ (by simpa using q1.symm) λi ag=>by simpa [fb] using aE i (by simpa using ag)
 ·rename_i f l1 db hv lU dr
  cases aO:Nat.beq f hv with
  |false=>rw[aO] at h;cases h
  |true=>
   rw[aO,bx] at h;have e1:=cA aO;subst e1;obtain⟨x,y,ak,bq,rfl⟩:=uw h;cases aC with
   |func fs kn cs cs' av ad af ay bD=>
    obtain⟨q1,aE⟩:=DE l1 lU ak hm.left kn.toList (by simpa using ad.symm) λi ag=>by simpa [fb] using ay i (by simpa using ag)
    obtain⟨ca,ey⟩:=DE db dr bq hm.right cs'.toList (by simpa using af.symm) λi ag=>by simpa [fb] using bD i (by simpa using ag)
    exact @aD.func s2 (nG n φ) _ _ _ _ _ av (by simpa using q1.symm) (by simpa using ca.symm) (λi ag=>by simpa [fb] using aE i (by simpa using ag)) λi ag=>by simpa [fb] using ey i (by simpa using ag)
 ·rename_i b b'
  cases ae:(Nat.blt b n&&Nat.beq b b') with
  |false=>rw[ae] at h;cases h
  |true=>
   simp only [cV] at ae;have e1:=cA ae.2;subst e1;cases aC with
   |tQ h=>exact @aD.tQ s2 (nG n φ) _ _ (DC h (Nat.blt_eq.mp ae.1))
   |func _ _ _ _ av _ _ _ _=>exact absurd rfl (av _)
 ·exact afv h hm aC
theorem DE {s1 s2:a7} {φ:bV} {n:Nat}:∀(l1 lU:List J) {l:eg},yl n l1 lU=some l->fj s1 s2 l->∀(u:List J),u.length=l1.length->(∀i,i<l1.length-> @aD s1 φ (l1.getD i Go.undef) (u.getD i Go.undef))->
  u.length=lU.length/\∀i,i<lU.length-> @aD s2 (nG n φ) (lU.getD i Go.undef) (u.getD i Go.undef)
 |[],[],_,_,_,u,hu,_=>⟨hu,λi ag=>absurd ag (by simp)⟩
 |[],_::_,_,h,_,_,_,_=>by cases h
 |_::_,[],_,h,_,_,_,_=>by cases h
 |v::r,gx::dk,l,h,hm,u,hu,aC=>by
  unfold yl at h;obtain⟨x,y,ak,bq,rfl⟩:=uw h;cases u with
  |nil=>simp at hu
  |cons w u=>
   obtain⟨q1,aE⟩:=DE r dk bq hm.right u (by simpa using hu) λi ag=>by simpa using aC (i+1) (by simpa using ag)
   refine⟨by simp [q1],λi ag=> ?_⟩;cases i with
   |zero=>simpa using VZ v gx ak hm.left (by simpa using aC 0 (by simp))
   |succ i=>simpa using aE i (by simpa using ag)
end
def Jy (n:Nat):Option J->Option J->Option eg
 |_,none=>some []
 |some a,some b=>vr n a b
 |none,some b=>bif yk b then some [] else none
def FN (n:Nat):bR J->Option eg
 | .nil=>some []
 | .node v l r=>both (Jy n none v) (both (FN n l) (FN n r))
def sX (n:Nat):bR J->bR J->Option eg
 |_,.nil=>some []
 | .nil,.node v l r=>FN n (.node v l r)
 | .node v1 l1 cJ,.node v l r=>both (Jy n v1 v) (both (sX n l1 l) (sX n cJ r))
theorem V0 {s1 s2:a7} {φ:bV} {n:Nat} {a b:Option J} {l:eg} (h:Jy n a b=some l) (hm:fj s1 s2 l) {aB gx:J} (ae:b=some gx) (aC:∀v1,a=some v1-> @aD s1 φ v1 aB): @aD s2 (nG n φ) gx aB:=by
 subst ae;cases a with
 |none=>
  simp only [Jy] at h;cases hp:yk gx with
  |false=>rw[hp] at h;cases h
  |true=>rw[VY hp];exact @aD.cp s2 (nG n φ) aB
 |some v1=>exact VZ v1 gx h hm (aC v1 rfl)
theorem N8 {s1 s2:a7} {φ:bV} {n:Nat}:∀(t:bR J) {l:eg},FN n t=some l->fj s1 s2 l->∀(i:Nat) (gx aB:J),t.get i=some gx-> @aD s2 (nG n φ) gx aB
 | .nil,_,_,_,i,gx,aB,h=>by cases h
 | .node v FO pd,l,h,hm,i,gx,aB,aA=>by
   unfold FN at h;obtain⟨x,y,ak,bq,rfl⟩:=uw h;obtain⟨vt,vu,ad,af,rfl⟩:=uw bq;unfold bR.get at aA;cases ag:(i==0) with
   |true=>
    rw[ag,bx] at aA;exact V0 (s1:=s1) ak hm.left aA (λv1 h=>by cases h)
   |false=>
    rw[ag,ek] at aA;cases hp:(i%2==1) with
    |true=>rw[hp,bx] at aA;exact N8 FO ad hm.right.left _ gx aB aA
    |false=>rw[hp,ek] at aA;exact N8 pd af hm.right.right _ gx aB aA
theorem DF {s1 s2:a7} {φ:bV} {n:Nat}:∀(t1 t2:bR J) {l:eg},sX n t1 t2=some l->fj s1 s2 l->∀(i:Nat) (gx aB:J),t2.get i=some gx->(∀v1,t1.get i=some v1-> @aD s1 φ v1 aB)-> @aD s2 (nG n φ) gx aB
 |t1,.nil,_,_,_,i,gx,aB,h,_=>by cases h
 | .nil,.node v FO pd,l,h,hm,i,gx,aB,aA,_=>N8 (s1:=s1) (.node v FO pd) (by simpa [sX] using h) hm i gx aB aA
 | .node v1 l1 cJ,.node v FO pd,l,h,hm,i,gx,aB,aA,aC=>by
   unfold sX at h;obtain⟨x,y,ak,bq,rfl⟩:=uw h;obtain⟨vt,vu,ad,af,rfl⟩:=uw bq;unfold bR.get at aA aC;cases ag:(i==0) with
   |true=>
    simp only [ag,bx] at aA aC;exact V0 ak hm.left aA aC
   |false=>
    simp only [ag,ek] at aA aC;cases hp:(i%2==1) with
    |true=>simp only [hp,bx] at aA aC;exact DF l1 FO ad hm.right.left _ gx aB aA aC
    |false=>simp only [hp,ek] at aA aC;exact DF cJ pd af hm.right.right _ gx aB aA aC
structure bw where
 obj:qT
 ty:aJ
 eF:Nat
def bw.bk (b:bw) (i:Nat):hR:={obj:=b.obj,cN:=i,pos:=0,eF:=b.eF,ro:=false,ty:=b.ty}
def DG:List bw->Nat->bR hR->bR hR
 |[],_,t=>t
 |b::r,i,t=>DG r (i+1) (match bR.set (b.bk i) depth t i with|some da=>da|none=>t)
def N9:Nat->Nat->bR (List Nat)->bR (List Nat)
 |0,_,t=>t
 |n+1,i,t=>N9 n (i+1) (match bR.set [i] depth t i with|some da=>da|none=>t)
def dd (l:List bw):a':={bl:=DG l 0 .nil,n:=l.length,mem:=N9 l.length 0 .nil,low:=0}
def zH (l:List bw):Bool:=(List.range l.length).all λi=>(match (N9 l.length 0 .nil).get i with|some m=>m.contains i|none=>false)&&(match (DG l 0 .nil).get i with|some _=>true|none=>false)
theorem V1:∀(l:List bw) (i:Nat) (t:bR hR) (b:Nat) (k:hR),(DG l i t).get b=some k->(∃j x,l[j]? =some x/\b=i+j/\k=x.bk b)\/((b<i\/i+l.length<=b\/True)/\t.get b=some k)
 |[],i,t,b,k,h=> .inr ⟨.inr (.inr trivial),h⟩
 |x::r,i,t,b,k,h=>by
  unfold DG at h;rcases V1 r (i+1) _ b k h with ⟨j,y,ad,af,ay⟩|⟨_,ad⟩
  ·exact .inl ⟨j+1,y,by simpa using ad,ar,ay⟩
  ·split at ad
   ·rename_i da aK
    rw[bR.nY _ _ _ _ _ b aK] at ad;split at ad
    ·rename_i ae
     cases ad;exact .inl ⟨0,x,by simp,ar,by rw[ae]⟩
    ·exact .inr ⟨.inr (.inr trivial),ad⟩
   ·exact .inr ⟨.inr (.inr trivial),ad⟩
theorem zI {l:List bw} {b:Nat} {k:hR} (h:(dd l).bl.get b=some k):∃x,l[b]? =some x/\k=x.bk b:=by
 rcases V1 l 0 .nil b k h with ⟨j,x,ad,af,ay⟩|⟨_,ad⟩
 ·have:b=j:=by omega
  subst this;exact⟨x,ad,ay⟩
 ·cases ad
theorem V2 {l:List bw} (hs:zH l=true):AS (dd l) where
 lt:=λb k h=>by
  obtain⟨x,ad,_⟩:=zI h;have:=(List.getElem?_eq_some_iff.1 ad).1;exact this
 tR:=λb k h=>by
  obtain⟨x,ad,rfl⟩:=zI h;have:=(List.getElem?_eq_some_iff.1 ad).1;exact this
 mem:=λb k h=>by
  obtain⟨x,ad,rfl⟩:=zI h;have ae:=(List.getElem?_eq_some_iff.1 ad).1;have:=List.all_eq_true.1 hs b (by simpa using ae);simp only [cV] at this;obtain⟨hm,_⟩:=this;split at hm
  ·rename_i m sH
   exact⟨m,sH,by simpa using hm⟩
  ·cases hm
 u3:=λb k b' k' h fm _=>by
  obtain⟨x,_,rfl⟩:=zI h;obtain⟨x',_,rfl⟩:=zI fm;rfl
def V3:LoopState->LoopState->Bool
 | .ready,.ready=>true
 | .busy,.busy=>true
 | .done,.done=>true
 | .exhausted,.exhausted=>true
 |_,_=>false
theorem V4 {a b:LoopState} (h:V3 a b=true):a=b:=by cases a<;>cases b<;>first|rfl|cases h
def FP (n:Nat) (a b:AP):Bool:=V3 a.state b.state&&(a.pending.isNone&&(b.pending.isNone&&(Nat.beq a.N b.N&&(decide (a.params=b.params)&&(Nat.beq a.E1 b.E1&&Nat.blt a.E1 n)))))
def Bq (n:Nat):qT->qT->Option eg
 | .cells c,.cells c'=>yl n c c'
 | .gh (.loop a),.gh (.loop b)=>bif FP n a b then sX n a.sl b.sl else none
 | .gh .deferred,.gh .deferred=>some []
 | .gh .gone,.gh .gone=>some []
 |_,_=>none
def zJ (n:Nat) (A:a'):List bw->Nat->Option eg
 |[],_=>some []
 |x::r,i=>match A.bl.get i with
  |some k=>bif Nat.beq k.cN i&&(Nat.beq k.eF x.eF&&(Nat.beq k.ty x.ty&& !k.ro)) then both (Bq n k.obj x.obj) (zJ n A r (i+1)) else none
  |none=>none
theorem DH {n:Nat} {A:a'}:∀(l:List bw) (i:Nat) {bG:eg},zJ n A l i=some bG->∀(j:Nat) (x:bw),l[j]? =some x->∃k o,A.bl.get (i+j)=some k/\k.cN=i+j/\k.eF=x.eF/\k.ty=x.ty/\k.ro=false/\Bq n k.obj x.obj=some o/\∀p∈o,p∈bG
 |[],i,bG,h,j,x,hj=>by simp at hj
 |y::r,i,bG,h,j,x,hj=>by
  unfold zJ at h;split at h
  ·rename_i k aj
   cases aq:(Nat.beq k.cN i&&(Nat.beq k.eF y.eF&&(Nat.beq k.ty y.ty&& !k.ro))) with
   |false=>rw[aq] at h;cases h
   |true=>
    rw[aq,bx] at h;simp only [cV,Bool.not_eq_true'] at aq;obtain⟨a,b,ad,af,rfl⟩:=uw h;cases j with
    |zero=>
     simp only [List.getElem?_cons_zero,cE] at hj;subst hj;exact⟨k,a,aj,cA aq.1,cA aq.2.1,cA aq.2.2.1,aq.2.2.2,ad,λp hp=>List.mem_append_left _ hp⟩
    |succ j=>
     obtain⟨k',o,q1,aE,ca,ey,hh,kT,oG⟩:=DH r (i+1) af j x (by simpa using hj);exact⟨k',o,by rw[show i+(j+1)=i+1+j by omega];exact q1,ar,ca,ey,hh,kT,λp hp=>List.mem_append_right _ (oG p hp)⟩
  ·cases h
def Jz (A:a') (i:Nat):Option (Code×Code):=match A.bl.get i with
 |some k=>match k.obj with
  | .gh (.loop fO)=>some (fO.assign,fO.body)
  |_=>none
 |none=>none
def hV (A:a'):List bw->Nat->Prop
 |[],_=>True
 |x::r,i=>(match x.obj with| .gh (.loop fO)=>Jz A i=some (fO.assign,fO.body)|_=>True)/\hV A r (i+1)
def rh:List bw->Bool
 |[]=>true
 |x::r=>(match x.obj with| .gh (.loop _)=>false|_=>true)&&rh r
theorem N' {A:a'}:∀{l:List bw} {i j:Nat} {x:bw} {fO:AP},hV A l i->l[j]? =some x->x.obj= .gh (.loop fO)->Jz A (i+j)=some (fO.assign,fO.body)
 |[],i,j,x,fO,_,hj,_=>by simp at hj
 |y::r,i,0,x,fO,h,hj,ho=>by
  simp only [List.getElem?_cons_zero,cE] at hj;subst hj;have:=h.1;rw[ho] at this;exact this
 |y::r,i,j+1,x,fO,h,hj,ho=>by
  rw[show i+(j+1)=i+1+j by omega];exact N' h.2 (by simpa using hj) ho
theorem gn {A:a'}:∀{l:List bw} {i:Nat},rh l=true->hV A l i
 |[],_,_=>trivial
 |x::r,i,h=>by
  unfold rh at h;simp only [cV] at h;refine⟨?_,gn h.2⟩;split
  ·rename_i fO ak
   rw[ak] at h;cases h.1
  ·trivial
def cq (s1:b6) (sl:aG) (l:List bw):Option eg:=
 match s1.ms with
 |[]=>bif zH l then both (sX l.length s1.sl sl) (zJ l.length s1.A l 0) else none
 |_=>none
theorem Here.Br [cH] {s1 s2:a7} {N B:Nat} {st:b6} {w0 w w':ax} {a:Act} {sl:aG} {l:List bw} {bG:eg} (T:Nat->Prop) (cR:cq st sl l=some bG) (hm:fj s1 s2 bG) (d_:∀i,T i->s1.df i≠none/\B<=i)
  (ux:w'.os=w.os/\w'.tape=w.tape/\w'.output=w.output/\ic w<=ic w') (cl:w.heap.size<=w'.heap.size) (hw:∀i,i<w.heap.size->¬T i->w'.heap[i]? =w.heap[i]?)
  (qw:∀i o,s2.df i=some o->w'.heap[i]? =some o/\(s1.df i≠none\/w.heap.size<=i\/i<B)) (av:cH.dV<=l.length) (aq:hV st.A l 0) (ah: @Here s1 _ N st B w0 a w): @Here s2 _ N {sl,ms:=[],A:=dd l} B w0 a w':=by
 unfold cq at cR;split at cR
 ·rename_i vv
  cases hs:zH l with
  |false=>rw[hs] at cR;cases cR
  |true=>
   rw[hs,bx] at cR;obtain⟨x,y,ak,bq,rfl⟩:=uw cR;obtain⟨⟨φ,ds,ad,af,ay,bD,fK⟩,cD,cI⟩:=ah;rw[vv] at ad;cases ad;have hold:∀b k,(dd l).bl.get b=some k->∃x eK o,l[b]? =some x/\k=x.bk b/\st.A.bl.get b=some eK/\eK.cN=b/\eK.eF=x.eF/\eK.ty=x.ty/\eK.ro=false/\Bq l.length eK.obj x.obj=some o/\∀p∈o,p∈y:=λb k aj=>by
    obtain⟨x,q1,aE⟩:=zI aj;obtain⟨eK,o,cJ,dk,fQ⟩:=DH l 0 bq b x q1;rw[Nat.zero_add] at cJ dk;exact⟨x,eK,o,q1,aE,cJ,dk,fQ⟩
   have tS:∀b e,φ b=some e->e.bk<w.heap.size/\¬T e.bk/\s1.df e.bk=none:=λb e ae=>by
    obtain⟨k,_,_,q⟩:= @bU.eo s1 _ _ _ ay b e ae;have sY:s1.df e.bk=none:=by
     cases ag:s1.df e.bk with
     |none=>rfl
     |some o=>exact absurd rfl ((@bU.df s1 _ _ _ ay e.bk o ag).2 b e ae)
    exact⟨@fL.lt s1 _ _ _ _ q,λaK=>(d_ _ aK).1 sY,sY⟩
   have zK:∀b e,φ b=some e->w'.heap[e.bk]? =w.heap[e.bk]? :=λb e ae=>hw _ (tS b e ae).1 (tS b e ae).2.1
   have gF:∀b,b<l.length->∃k,(dd l).bl.get b=some k:=λb ae=>by
    have:=List.all_eq_true.1 hs b (by simpa using ae);simp only [cV] at this;obtain⟨_,hm⟩:=this;split at hm
    ·rename_i k aj;exact⟨k,aj⟩
    ·cases hm
   refine⟨⟨nG l.length φ,[],.nil,⟨@fw.size s1 _ _ _ _ _ af,@fw.defers s1 _ _ _ _ _ af,λt gx ym=>DF st.sl sl ak hm.left t gx _ ym λv1 w4=> @fw.get s1 _ _ _ _ _ af t v1 w4⟩,⟨V2 hs,?_,?_,?_,λi o ag=> ?_⟩,λb e ae=>bD b e (qv ae).2,av,λb ae=>by unfold nG;rw[aQ (Nat.lt_of_lt_of_le ae av)];exact fK.2 b ae⟩,cD.trans ⟨⟨ux.1,ux.2.1,ux.2.2.1,cl,λk aj=>hw k ar λaK=>by have:=(d_ k aK).2;omega⟩,ux.2.2.2⟩,Nat.le_trans cI cl⟩
   ·intro b e ae
    obtain⟨b8,h1⟩:=qv ae;obtain⟨k,aj⟩:=gF b b8;obtain⟨x,eK,o,q1,rfl,ca,ey,hh,kT,oG,gS,Bc⟩:=hold b k aj;obtain⟨db,cJ,dk,fQ⟩:= @bU.eo s1 _ _ _ ay b e h1;rw[ca] at cJ;cases cJ;refine⟨_,aj,by rw[dk,hh];rfl,?_⟩;unfold fL at fQ ⊢;show match x.obj with| .cells c=>_| .map es eU=>_| .gh x=>_
    cases fo:eK.obj with
    |cells c=>
     rw[fo] at gS;simp only [fo] at fQ;cases ih:x.obj with
     |cells c2=>
      rw[ih] at gS;obtain⟨c',iW,g1,g2,g3,g4,kS⟩:=fQ;have n4:∀i,i<c.length->((List.range c.length).map λj=>c'.getD (e.sh+j) undef).getD i undef=c'.getD (e.sh+i) undef:=λi ag=>by
       rw[dh,List.getElem?_map,List.getElem?_range ag];rfl
      have:=DE (s1:=s1) (s2:=s2) (φ:=φ) c c2 gS (λp hp=>hm.right p (Bc p hp)) ((List.range c.length).map λj=>c'.getD (e.sh+j) undef) (by simp) λi ag=>by
       rw[n4 i ag];exact g4 i ag
      obtain⟨t1,t2⟩:=this;simp only [List.length_map,List.length_range] at t1;refine⟨c',iW,by rw[zK b e h1,show (x.bk b).ty=eK.ty from kT.symm];exact g1,g2,by rw[<-t1,show (x.bk b).eF=eK.eF from hh.symm];exact g3,λj hj=> ?_,λ_=>kS oG⟩;have:=t2 j hj;rw[n4 j ar] at this;exact this
     |map es eU=>rw[ih] at gS;cases gS
     |gh z=>rw[ih] at gS;cases gS
    |map es eU=>
     rw[fo] at gS;cases ih:x.obj<;>rw[ih] at gS<;>cases gS
    |gh z=>
     rw[fo] at gS;simp only [fo] at fQ;obtain⟨e4,o',g1,g2⟩:=fQ;cases ih:x.obj with
     |cells c2=>rw[ih] at gS;cases z<;>cases gS
     |map es eU=>rw[ih] at gS;cases z<;>cases gS
     |gh z2=>
      rw[ih] at gS;refine⟨e4,o',(zK b e h1).trans g1,?_⟩;cases z with
      |loop a=>
       cases z2 with
       |loop b=>
        unfold Bq at gS;simp only at gS;cases aw:FP l.length a b with
        |false=>rw[aw] at gS;cases gS
        |true=>
         rw[aw,bx] at gS;unfold FP at aw;simp only [cV,decide_eq_true_eq,Option.isNone_iff_eq_none] at aw;obtain⟨gM,c2,c3,qZ,FQ,JA,JB⟩:=aw;have pO:=N' aq q1 ih;rw[Nat.zero_add] at pO;unfold Jz at pO;rw[ca] at pO;simp only [fo,cE,Prod.mk.injEq] at pO;obtain⟨r,lW,uu,yg,Bk,Bl,FI,FJ,⟨e',N_,u8⟩,Oa⟩:=g2;refine⟨r,lW,uu.trans (V4 gM),by rw[yg,c2,c3],by rw[Bk,cA qZ],by rw[Bl,FQ],by rw[FI,pO.1],by rw[FJ,pO.2],⟨e',?_,u8⟩,λt v aC=> ?_⟩
         ·rw[<-cA JA]
          exact DC N_ (Nat.blt_eq.mp JB)
         ·exact DF (s1:=s1) a.sl b.sl gS (λp hp=>hm.right p (Bc p hp)) t v _ aC λv1 w4=>Oa t v1 w4
       |_=>cases gS
      |_=>cases z2<;>first|(cases gS;done)|exact g2
   ·intro b e k b' e' k' ae dR aj dt cO
    obtain⟨_,h1⟩:=qv ae;obtain⟨_,sS⟩:=qv dR;obtain⟨x,eK,o,q1,rfl,ca,ey,_⟩:=hold b k aj;obtain⟨x',FR,o',u9,rfl,sI,FT,_⟩:=hold b' k' dt;exact @bU.apart s1 _ _ _ ay b e eK b' e' FR h1 sS ca sI (by rw[ey,FT];exact cO)
   ·intro b e k b' e' k' ae dR aj dt aO _
    obtain⟨_,h1⟩:=qv ae;obtain⟨_,sS⟩:=qv dR;obtain⟨x,eK,o,q1,rfl,ca,ey,_⟩:=hold b k aj;obtain⟨x',FR,o',u9,rfl,sI,FT,_⟩:=hold b' k' dt;have:b=b':=aO;subst this;rw[h1] at sS;cases sS;rfl
   ·obtain⟨g1,g2⟩:=qw i o ag
    refine⟨g1,λb e ae afw=> ?_⟩;obtain⟨q1,_,ca⟩:=tS b e (qv ae).2;have ey:=bD b e (qv ae).2;rw[afw] at q1 ca ey;rcases g2 with g2|g2|g2
    ·exact g2 ca
    ·omega
    ·omega
 ·cases cR
theorem Here.move [cH] {s1 s2:a7} {N B:Nat} {st:b6} {w0 w:ax} {a:Act} {sl:aG} {l:List bw} {bG:eg} (cR:cq st sl l=some bG) (hm:fj s1 s2 bG)
  (qw:∀i o,s2.df i=some o->s1.df i=some o) (av:cH.dV<=l.length) (aq:hV st.A l 0) (ah: @Here s1 _ N st B w0 a w): @Here s2 _ N {sl,ms:=[],A:=dd l} B w0 a w:=by
 have ag:=ah;obtain⟨⟨φ,ds,ad,af,ay,bD,fK⟩,cD,cI⟩:=ag;exact Here.Br (λ_=>False) cR hm (λ_ h=>h.elim) ⟨rfl,rfl,rfl,b2 _⟩ (b2 _) (λ_ _ _=>rfl) (λi o h=>⟨(@bU.df s1 _ _ _ ay i o (qw i o h)).1,.inl (by rw[qw i o h];simp)⟩) av aq ah
theorem Here.mN [a7] [cH] {N B:Nat} {st:b6} {w0 w:ax} {a:Act} (ah:Here N st B w0 a w):n' w:=by
 obtain⟨⟨φ,ds,ad,af,ay,bD,fK⟩,cD,cI⟩:=ah;exact λi o ag=>(ay.df i o ag).1
end AE
namespace AE
inductive fc where
 |mO (y:Code)
 |vw (id:Nat)
 |sZ (c:Code) (m:Nat)
inductive bO where
 |done (x:k0) (s:b6)
 |loop (body:Code) (s:b6) (ks:List fc)
 |oper (o:Oper) (r:List Oper) (ops:Array Oper) (s:b6) (ks:List fc)
 |range (g:Operand) (ps:Array Tmp) (nq body:Code) (s:b6) (ks:List fc)
 |draw (id:Nat) (ops:Array Oper) (s:b6) (ks:List fc)
 |cond (c:Operand) (x y:Code) (s:b6) (ks:List fc)
def bO.push (k:fc):bO->bO
 | .loop b s ks=> .loop b s (ks++[k])
 | .oper o r ops s ks=> .oper o r ops s (ks++[k])
 | .range g ps nq b s ks=> .range g ps nq b s (ks++[k])
 | .draw id ops s ks=> .draw id ops s (ks++[k])
 | .cond c x y s ks=> .cond c x y s (ks++[k])
 |st=>st
def bO.w5 (k:List fc):bO->bO
 | .loop b s ks=> .loop b s (ks++k)
 | .oper o r ops s ks=> .oper o r ops s (ks++k)
 | .range g ps nq b s ks=> .range g ps nq b s (ks++k)
 | .draw id ops s ks=> .draw id ops s (ks++k)
 | .cond c x y s ks=> .cond c x y s (ks++k)
 |st=>st
def DI (P:aR) [Lib P] [dS P] (C:h8) (N:Nat) (ops:Array Oper) (ms:List Nat):List Oper->aG->a'->bO
 |[],sl,A=> .done .normal {sl,ms,A}
 |o::r,sl,A=>match wQ P C .nil N ops o sl A with
  |some (eE,bB)=>DI P C N ops ms r eE bB
  |none=> .oper o r ops {sl,ms,A} []
def pP (P:aR) [Lib P] [dS P] (C:h8) (N bm:Nat):Code->b6->Option bO
 | .loop b,s=>match mL P C .nil N false bm (.loop b) s with
   |some (x,s1)=>some (.done x s1)
   |none=>some (.loop b s [])
 | .region id ops d,s=>bif d then match Jc P C .nil N false ops s.sl s.A with
     |some (eE,bB,r)=>some (DI P C N ops s.ms r eE bB)
     |none=>match Jm P C .nil N false ops s.sl s.A with
      |some (eE,bB)=>some (.done .normal {sl:=eE,ms:=s.ms,A:=bB})
      |none=>some (.draw id ops s [])
   else some (DI P C N ops s.ms ops.toList s.sl s.A)
 | .seq x y,s=>match pP P C N bm x s with
   |some (.done x s1)=>match x with
    | .normal=>pP P C N bm y s1
    |x=>some (.done x s1)
   |some st=>some (st.push (.mO y))
   |none=>none
 | .cond c x y,s=>match dB .nil s.sl c with
   | .bool t=>bif t then pP P C N bm x s else pP P C N bm y s
   |v=>match A_ P v with
    |some t=>bif t then pP P C N bm x s else pP P C N bm y s
    |none=>some (.cond c x y s [])
 | .block id x,s=>match pP P C N bm x s with
   |some (.done x s1)=>match x with
    | .exit id'=>bif Nat.beq id' id then some (.done .normal s1) else some (.done (.exit id') s1)
    |x=>some (.done x s1)
   |some st=>some (st.push (.vw id))
   |none=>none
 | .rangeFunc g ps nq b,s=>match mL P C .nil N false bm (.rangeFunc g ps nq b) s with
   |some (x,s1)=>some (.done x s1)
   |none=>some (.range g ps nq b s [])
 |c,s=>match mL P C .nil N false bm c s with
  |some (x,s1)=>some (.done x s1)
  |none=>none
def FU (P:aR) [Lib P] [dS P] (C:h8) (N bm:Nat) (c:Code):Nat->b6->Option bO
 |0,_=>none
 |m+1,s=>match pP P C N bm c s with
  |some (.done x s1)=>match x with
   | .normal=>FU P C N bm c m s1
   |x=>some (.done x s1)
  |some st=>some (st.push (.sZ c m))
  |none=>none
def resume (P:aR) [Lib P] [dS P] (C:h8) (N bm:Nat):List fc->k0->b6->Option bO
 |[],x,s=>some (.done x s)
 | .mO y::ks,x,s=>match x with
   | .normal=>match pP P C N bm y s with
     |some (.done x s1)=>resume P C N bm ks x s1
     |some st=>some (st.w5 ks)
     |none=>none
   |x=>resume P C N bm ks x s
 | .vw id::ks,x,s=>match x with
   | .exit id'=>bif Nat.beq id' id then resume P C N bm ks .normal s else resume P C N bm ks (.exit id') s
   |x=>resume P C N bm ks x s
 | .sZ c m::ks,x,s=>match x with
   | .normal=>match FU P C N bm c m s with
     |some (.done x s1)=>resume P C N bm ks x s1
     |some st=>some (st.w5 ks)
     |none=>none
   |x=>resume P C N bm ks x s
def dK (P:aR):List fc->(Exit->Act->ax->Prop)->Exit->Act->ax->Prop
 |[],Q=>Q
 | .mO y::ks,Q=>Exit.then (y.wpIn (Fr none) 0 P (dK P ks Q)) (dK P ks Q)
 | .vw id::ks,Q=>Exit.inBlock id (dK P ks Q)
 | .sZ c m::ks,Q=>Exit.then (Code.roundsIn (Fr none) 0 P c (dK P ks Q) m) (dK P ks Q)
theorem s3 (P:aR):∀(db dr:List fc) (Q:Exit->Act->ax->Prop),dK P (db++dr) Q=dK P db (dK P dr Q)
 |[],_,_=>rfl
 | .mO y::ks,dr,Q=>by simp only [List.cons_append,dK,s3 P ks dr Q]
 | .vw id::ks,dr,Q=>by simp only [List.cons_append,dK,s3 P ks dr Q]
 | .sZ c m::ks,dr,Q=>by simp only [List.cons_append,dK,s3 P ks dr Q]
def ob (Q:Exit->Act->ax->Prop):Prop:=∀c a w,¬Q (.panic c) a w
theorem ob.then {Q:Exit->Act->ax->Prop} (h:ob Q) (R:Act->ax->Prop):ob (Exit.then R Q):=λc a w aZ=>h c a w aZ
theorem ob.inBlock {Q:Exit->Act->ax->Prop} (h:ob Q) (id:Nat):ob (Exit.inBlock id Q):=λc a w aZ=>h c a w aZ
theorem ob.vx {P:aR} {Q:Exit->Act->ax->Prop} (h:ob Q):∀ks:List fc,ob (dK P ks Q)
 |[]=>h
 | .mO y::ks=>(ob.vx h ks).then _
 | .vw id::ks=>(ob.vx h ks).inBlock id
 | .sZ c m::ks=>(ob.vx h ks).then _
section
variable [a7] [cH]
def mm (P:aR) (N B:Nat) (w0:ax) (Q:Exit->Act->ax->Prop):bO->Prop
 | .done x s=>∀a w,Here N s B w0 a w->Q x.exit' a w
 | .loop b s ks=>∀a w,Here N s B w0 a w->(Code.loop b).wpIn (Fr none) 0 P (dK P ks Q) a w
 | .oper o r ops s ks=>∀a w,Here N s B w0 a w->wpListIn (Fr none) 0 P ops (dK P ks Q) (o::r) a w
 | .range g ps nq b s ks=>∀a w,Here N s B w0 a w->(Code.rangeFunc g ps nq b).wpIn (Fr none) 0 P (dK P ks Q) a w
 | .draw id ops s ks=>∀a w,Here N s B w0 a w->(Code.region id ops true).wpIn (Fr none) 0 P (dK P ks Q) a w
 | .cond c x y s ks=>∀a w,Here N s B w0 a w->(Code.cond c x y).wpIn (Fr none) 0 P (dK P ks Q) a w
omit [a7] [cH] in
theorem JC {P:aR} {y:Code} {Q:Exit->Act->ax->Prop} {x:k0} {a:Act} {w:ax} (ak:x≠.normal) (h:Q x.exit' a w) (R:Act->ax->Prop):Exit.then R Q x.exit' a w:=by
 cases x<;>first|exact absurd rfl ak|exact h
variable {P:aR} [Lib P] [dS P] {C:h8} {N B:Nat} {w0:ax}
omit [Lib P] [dS P] in
theorem mm.push {k:fc} {Q:Exit->Act->ax->Prop} {st:bO} (bc:∀x s,st≠.done x s) (h:mm P N B w0 Q (st.push k)):mm P N B w0 (dK P [k] Q) st:=by
 cases st with
 |done x s=>exact absurd rfl (bc x s)
 |loop b s ks=>intro a w ah;have:=h a w ah;rw[s3] at this;exact this
 |oper o r ops s ks=>intro a w ah;have:=h a w ah;rw[s3] at this;exact this
 |range g ps nq b s ks=>intro a w ah;have:=h a w ah;rw[s3] at this;exact this
 |draw id ops s ks=>intro a w ah;have:=h a w ah;rw[s3] at this;exact this
 |cond c x y s ks=>intro a w ah;have:=h a w ah;rw[s3] at this;exact this
omit [Lib P] [dS P] in
theorem mm.w5 {k:List fc} {Q:Exit->Act->ax->Prop} {st:bO} (bc:∀x s,st≠.done x s) (h:mm P N B w0 Q (st.w5 k)):mm P N B w0 (dK P k Q) st:=by
 cases st with
 |done x s=>exact absurd rfl (bc x s)
 |loop b s ks=>intro a w ah;have:=h a w ah;rw[s3] at this;exact this
 |oper o r ops s ks=>intro a w ah;have:=h a w ah;rw[s3] at this;exact this
 |range g ps nq b s ks=>intro a w ah;have:=h a w ah;rw[s3] at this;exact this
 |draw id ops s ks=>intro a w ah;have:=h a w ah;rw[s3] at this;exact this
 |cond c x y s ks=>intro a w ah;have:=h a w ah;rw[s3] at this;exact this
theorem JD (cT:lA P .nil C) {ops:Array Oper} {ms:List Nat} {Q:Exit->Act->ax->Prop}:∀(l:List Oper) (sl:aG) (A:a') (a:Act) (w:ax),mm P N B w0 Q (DI P C N ops ms l sl A)->Here N {sl,ms,A} B w0 a w->wpListIn (Fr none) 0 P ops Q l a w
 |[],sl,A,a,w,cY,ah=>cY a w ah
 |o::r,sl,A,a,w,cY,ah=>by
  unfold DI at cY;split at cY
  ·rename_i eE bB cP
   exact VW (l1:=[o]) (s:={sl,ms,A}) cT r (by simp only [wR,cP]) ah λaW w' yj=>JD cT r eE bB aW w' cY yj
  ·exact cY a w ah
theorem yn (cK:P.follows .mixedOrders=true) (cT:lA P .nil C) {bm:Nat} {c:Code} {s:b6} {st:bO} {Q:Exit->Act->ax->Prop} {a:Act} {w:ax}
  (h:(match mL P C .nil N false bm c s with|some (x,s1)=>some (bO.done x s1)|none=>none)=some st) (cY:mm P N B w0 Q st) (ah:Here N s B w0 a w):c.wpIn (Fr none) 0 P Q a w:=by
 split at h
 ·rename_i x s1 ad
  cases h;refine wpIn_mono (afq cK cT bm ad ah) λe aW w' hp=> ?_
  obtain⟨rfl,yj⟩:=hp;exact cY aW w' yj
 ·cases h
theorem r4 (cK:P.follows .mixedOrders=true) (cT:lA P .nil C) {bm:Nat}:∀(c:Code) (s:b6) (st:bO) (Q:Exit->Act->ax->Prop) (a:Act) (w:ax),ob Q->pP P C N bm c s=some st->mm P N B w0 Q st->Here N s B w0 a w->c.wpIn (Fr none) 0 P Q a w
 | .loop b,s,st,Q,a,w,aZ,h,cY,ah=>by
   unfold pP at h;split at h
   ·rename_i x s1 ad
    exact yn (bm:=bm) (c:= .loop b) cK cT (by rw[ad];exact h) cY ah
   ·cases h
    exact cY a w ah
 | .region id ops d,s,st,Q,a,w,aZ,h,cY,ah=>by
   unfold pP at h;cases d with
   |false=>
    rw[ek,cE] at h;subst h;exact wpIn_region_list (JD cT _ _ _ a w cY ah)
   |true=>
    rw[bx] at h;split at h
    ·rename_i eE bB r ad
     cases h;obtain⟨⟨φ,ds,g1,g2,g3,g4,g7⟩,kS,g6⟩:=ah;refine Vs cK cT g3 (hT φ) g2 (λ_=>rfl) aZ ad λgE ev w1 q1 aE=> ?_
     obtain⟨db,dr⟩:=DA g4 aE g6;exact JD cT _ _ _ ev w1 cY ⟨⟨gE,ds,g1.mono (aE.ext g3),q1,aE.rel,db,g7.step aE⟩,kS.trans dr,Nat.le_trans g6 aE.gD⟩
    ·split at h
     ·rename_i eE bB ad
      cases h;obtain⟨⟨φ,ds,g1,g2,g3,g4,g7⟩,kS,g6⟩:=ah;refine Vz cK cT g3 (hT φ) g2 (λ_=>rfl) aZ ad λgE ev w1 q1 aE=> ?_
      obtain⟨db,dr⟩:=DA g4 aE g6;exact cY ev w1 ⟨⟨gE,ds,g1.mono (aE.ext g3),q1,aE.rel,db,g7.step aE⟩,kS.trans dr,Nat.le_trans g6 aE.gD⟩
     ·cases h
      exact cY a w ah
 | .seq x y,s,st,Q,a,w,aZ,h,cY,ah=>by
   unfold pP at h;refine wpIn_seq ?_;split at h
   ·rename_i eA s1 ad
    refine r4 cK cT x s _ _ a w (aZ.then _) ad (λev w1 lD=> ?_) ah;split at h
    ·exact r4 cK cT y s1 st Q ev w1 aZ h cY lD
    ·rename_i ak
     cases h;exact JC (P:=P) (y:=y) (λh=>ak h) (cY ev w1 lD) _
   ·rename_i o9 ad bc
    cases h;exact r4 cK cT x s _ _ a w (aZ.then _) bc (mm.push (Q:=Q) (k:= .mO y) ad cY) ah
   ·cases h
 | .cond c x y,s,st,Q,a,w,aZ,h,cY,ah=>by
   unfold pP at h;split at h
   ·rename_i t aK
    refine wpIn_cond (afs aK ah) ?_;cases t with
    |true=>exact r4 cK cT x s st Q a w aZ h cY ah
    |false=>exact r4 cK cT y s st Q a w aZ h cY ah
   ·split at h
    ·rename_i t aK
     refine wpIn_cond (aft cT.facts aK ah) ?_;cases t with
     |true=>exact r4 cK cT x s st Q a w aZ h cY ah
     |false=>exact r4 cK cT y s st Q a w aZ h cY ah
    ·cases h
     exact cY a w ah
 | .block id x,s,st,Q,a,w,aZ,h,cY,ah=>by
   unfold pP at h;refine wpIn_block ?_;split at h
   ·rename_i eA s1 ad
    refine r4 cK cT x s _ _ a w (aZ.inBlock id) ad (λev w1 lD=> ?_) ah;split at h
    ·rename_i id'
     show if id'=id then Q .normal ev w1 else Q (.exit id') ev w1
     cases ae:Nat.beq id' id with
     |true=>
      rw[ae] at h;cases h;rw[aQ (cA ae)];exact cY ev w1 lD
     |false=>
      rw[ae] at h;cases h;rw[aU (Nat.ne_of_beq_eq_false ae)];exact cY ev w1 lD
    ·rename_i ak
     cases h;have:=cY ev w1 lD;cases eA with
     |exit id'=>exact absurd rfl (ak id')
     |_=>exact this
   ·rename_i o9 ad bc
    cases h;exact r4 cK cT x s _ _ a w (aZ.inBlock id) bc (mm.push (Q:=Q) (k:= .vw id) ad cY) ah
   ·cases h
 | .skip,s,st,Q,a,w,aZ,h,cY,ah=>yn (bm:=bm) cK cT h cY ah
 | .rangeFunc g ps nq b,s,st,Q,a,w,aZ,h,cY,ah=>by
   unfold pP at h;split at h
   ·rename_i x s1 ad
    exact yn (bm:=bm) (c:= .rangeFunc g ps nq b) cK cT (by rw[ad];exact h) cY ah
   ·cases h
    exact cY a w ah
 | .exit _,s,st,Q,a,w,aZ,h,cY,ah=>yn (bm:=bm) cK cT h cY ah
 | .scope _,s,st,Q,a,w,aZ,h,cY,ah=>yn (bm:=bm) cK cT h cY ah
 | .label _,s,st,Q,a,w,aZ,h,cY,ah=>yn (bm:=bm) cK cT h cY ah
 | .goto _,s,st,Q,a,w,aZ,h,cY,ah=>yn (bm:=bm) cK cT h cY ah
 | .ret,s,st,Q,a,w,aZ,h,cY,ah=>yn (bm:=bm) cK cT h cY ah
 | .refuse _,s,st,Q,a,w,aZ,h,cY,ah=>yn (bm:=bm) cK cT h cY ah
theorem FV (cK:P.follows .mixedOrders=true) (cT:lA P .nil C) {bm:Nat} {c:Code}:∀(m:Nat) (s:b6) (st:bO) (Q:Exit->Act->ax->Prop) (a:Act) (w:ax),ob Q->FU P C N bm c m s=some st->mm P N B w0 Q st->Here N s B w0 a w->Code.roundsIn (Fr none) 0 P c Q m a w
 |0,s,st,Q,a,w,aZ,h,cY,ah=>by cases h
 |m+1,s,st,Q,a,w,aZ,h,cY,ah=>by
  unfold FU at h;rw[roundsIn_succ];split at h
  ·rename_i eA s1 ad
   refine r4 cK cT c s _ _ a w (aZ.then _) ad (λev w1 lD=> ?_) ah;split at h
   ·exact FV cK cT m s1 st Q ev w1 aZ h cY lD
   ·rename_i ak
    cases h;exact JC (P:=P) (y:= .skip) (λh=>ak h) (cY ev w1 lD) _
  ·rename_i o9 ad bc
   cases h;exact r4 cK cT c s _ _ a w (aZ.then _) bc (mm.push (Q:=Q) (k:= .sZ c m) ad cY) ah
  ·cases h
theorem pQ (cK:P.follows .mixedOrders=true) (cT:lA P .nil C) {bm:Nat}:∀(ks:List fc) (x:k0) (s:b6) (st:bO) (Q:Exit->Act->ax->Prop) (a:Act) (w:ax),ob Q->resume P C N bm ks x s=some st->mm P N B w0 Q st->Here N s B w0 a w->dK P ks Q x.exit' a w
 |[],x,s,st,Q,a,w,aZ,h,cY,ah=>by
  cases h;exact cY a w ah
 | .mO y::ks,x,s,st,Q,a,w,aZ,h,cY,ah=>by
   unfold resume at h;unfold dK;cases x with
   |normal=>
    simp only at h;show y.wpIn (Fr none) 0 P (dK P ks Q) a w;split at h
    ·rename_i eA s1 ad
     exact r4 cK cT y s _ _ a w (aZ.vx ks) ad (λev w1 lD=>pQ cK cT ks eA s1 st Q ev w1 aZ h cY lD) ah
    ·rename_i o9 ad bc
     cases h;exact r4 cK cT y s _ _ a w (aZ.vx ks) bc (mm.w5 (Q:=Q) (k:=ks) ad cY) ah
    ·cases h
   |exit id=>exact pQ cK cT ks (.exit id) s st Q a w aZ h cY ah
   |goto l=>exact pQ cK cT ks (.goto l) s st Q a w aZ h cY ah
   |ret=>exact pQ cK cT ks .ret s st Q a w aZ h cY ah
 | .vw id::ks,x,s,st,Q,a,w,aZ,h,cY,ah=>by
   unfold resume at h;unfold dK;cases x with
   |exit id'=>
    simp only at h;show if id'=id then dK P ks Q .normal a w else dK P ks Q (.exit id') a w
    cases ae:Nat.beq id' id with
    |true=>
     rw[ae,bx] at h;rw[aQ (cA ae)];exact pQ cK cT ks .normal s st Q a w aZ h cY ah
    |false=>
     rw[ae,ek] at h;rw[aU (Nat.ne_of_beq_eq_false ae)];exact pQ cK cT ks (.exit id') s st Q a w aZ h cY ah
   |normal=>exact pQ cK cT ks .normal s st Q a w aZ h cY ah
   |goto l=>exact pQ cK cT ks (.goto l) s st Q a w aZ h cY ah
   |ret=>exact pQ cK cT ks .ret s st Q a w aZ h cY ah
 | .sZ c m::ks,x,s,st,Q,a,w,aZ,h,cY,ah=>by
   unfold resume at h;unfold dK;cases x with
   |normal=>
    simp only at h;show Code.roundsIn (Fr none) 0 P c (dK P ks Q) m a w;split at h
    ·rename_i eA s1 ad
     exact FV cK cT m s _ _ a w (aZ.vx ks) ad (λev w1 lD=>pQ cK cT ks eA s1 st Q ev w1 aZ h cY lD) ah
    ·rename_i o9 ad bc
     cases h;exact FV cK cT m s _ _ a w (aZ.vx ks) bc (mm.w5 (Q:=Q) (k:=ks) ad cY) ah
    ·cases h
   |exit id=>exact pQ cK cT ks (.exit id) s st Q a w aZ h cY ah
   |goto l=>exact pQ cK cT ks (.goto l) s st Q a w aZ h cY ah
   |ret=>exact pQ cK cT ks .ret s st Q a w aZ h cY ah
end
end AE
namespace AE
def aF (W:ax) (i:Nat):Option Obj:=W.heap[i]?
inductive cu {α:Type} (M:Nat->Option Obj) (k:Nat) (enc:α->List J):J->List α->Prop
 |nil (a:Option Addr) (c:Nat):cu M k enc (.slice a 0 c) []
 |mk {b off c:Nat} {l:List α} {cs:Array J} {ty:aJ} {fr:Nat×Nat} (ae:M b=some (.cells cs ty fr)) (aq:l.length<=c) (h:∀(i:Nat) (x:α),l[i]? =some x->∀(j:Nat) (u:J),(enc x)[j]? =some u->cs[off+i*k+j]? =some u):
   cu M k enc (.slice (some ⟨b,off,none⟩) l.length c) l
theorem cu.mono {α:Type} {M M':Nat->Option Obj} {k:Nat} {enc:α->List J} {v:J} {l:List α} (h:cu M k enc v l) (hm:∀i o,M i=some o->M' i=some o):cu M' k enc v l:=by
 cases h with
 |nil=>exact .nil _ _
 |mk ad af ay=>exact .mk (hm _ _ ad) af ay
theorem cu.below {α:Type} {W W':ax} {k:Nat} {enc:α->List J} {v:J} {l:List α} (h:cu (aF W) k enc v l) (ae:cb W.heap.size W W'):cu (aF W') k enc v l:=
 h.mono λi o ag=>by
   have lv:W.heap[i]? =some o:=ag;show W'.heap[i]? =some o;rw[ae.block i (Array.getElem?_eq_some_iff.1 lv).1];exact lv
theorem cu.slice {α:Type} {M:Nat->Option Obj} {k:Nat} {enc:α->List J} {v:J} {l:List α} (h:cu M k enc v l):∃a c,v= .slice a l.length c:=by
 cases h with
 |nil=>exact⟨_,_,rfl⟩
 |mk=>exact⟨_,_,rfl⟩
def cellAt:J->Nat->Option Addr
 | .slice (some ⟨b,off,_⟩) _ _,o=>some ⟨b,off+o,none⟩
 |_,_=>none
def hW (v:J) (o:Nat):J:= .pointer (cellAt v o)
variable [a7]
section
variable {P:aR}
theorem aT.len {t ty e:aJ} {x r:J} {a:Option Addr} {n c:Nat} (ak:aL x=true) (ao:aL r=true) (aK:P.underlying t=some (.slice e)) (ex:aI x= .slice a n c) (b1:aI r= .int .i64 n):aT P (.len #[t] ty x,r):=by
 refine⟨ak,ao,λdF dG w=> ?_⟩;show (fF dF dG (.len #[t] ty (aI x))).run P w=_;rw[ex];unfold fF;have:(Builtin.len_ #[t] ty #[.slice a n c]).run P w= .ok (.int .i64 n) w:=by
  simp [Builtin.len_,run_underlying aK];rfl
 simp only [Sem.run_bind,this,Result.andThen_ok,b1];rfl
theorem uy {op:BinOp} {t:aJ} {x y r:J} {a b:J} (ak:aL x=true) (bq:aL y=true) (ao:aL r=true) (ex:aI x=a) (hx:aI y=b)
  (h:∀dF dG w,(fF dF dG (.bin op t a b)).run P w= .ok (.value (aI r)) w):aT P (.bin op t x y,r):=by
 refine⟨by simp [np,ak,bq],ao,?_⟩;show ∀dF dG w,(fF dF dG (.bin op t (aI x) (aI y))).run P w=_;rw[ex,hx];exact h
def yo (op:BinOp) (k:IntKind) (a b:Int):J:=
 match op with
 | .lss=> .bool (decide (a<b))
 | .leq=> .bool (decide (a<=b))
 | .gtr=> .bool (decide (b<a))
 | .geq=> .bool (decide (b<=a))
 | .eql=> .bool (decide (a=b))
 | .neq=> .bool (!decide (a=b))
 | .add=> .int k (k.wrap (a+b))
 | .sub=> .int k (k.wrap (a-b))
 | .mul=> .int k (k.wrap (a*b))
 |_=>undef
def zL:BinOp->Bool
 | .lss| .leq| .gtr| .geq| .eql| .neq| .add| .sub| .mul=>true
 |_=>false
omit [a7] in
theorem afx {op:BinOp} (cm:zL op=true) (t:aJ) (k:IntKind) (a b:Int) (dF dG:Operand) (w:ax):(fF dF dG (.bin op t (.int k a) (.int k b))).run P w= .ok (.value (yo op k a b)) w:=by
 have e1:(a==b)=decide (a=b):=by rw[Bool.eq_iff_iff];simp
 cases op<;>first|(cases cm;done)|skip
 all_goals unfold fF
 all_goals simp [eqGuard,binOp,Op.intCmp,Op.intArith,yo,e1,bne]
theorem aT.bi {op:BinOp} {t:aJ} {x y r:J} {k:IntKind} {a b:Int} (ak:aL x=true) (bq:aL y=true) (ao:aL r=true) (cm:zL op=true) (ex:aI x= .int k a) (hx:aI y= .int k b)
 (b1:aI r=yo op k a b):aT P (.bin op t x y,r):=uy ak bq ao ex hx λdF dG w=>by rw[b1];exact afx cm t k a b dF dG w
theorem aT.pR {cW:Array aJ} {ty:aJ} {x y r:J} {k:IntKind} {a b:Int} (ak:aL x=true) (bq:aL y=true) (ao:aL r=true) (ex:aI x= .int k a) (hx:aI y= .int k b) (b1:aI r= .int k (max a b)):aT P (.eR cW ty x y,r):=by
 refine⟨by simp [np,ak,bq],ao,λdF dG w=> ?_⟩;show (fF dF dG (.eR cW ty (aI x) (aI y))).run P w=_;rw[ex,hx,b1];unfold fF;simp only [Sem.run_bind,run_max_int2,Result.andThen_ok];rw[show (if b>a then b else a)=max a b by rw[Int.max_def];split<;>split<;>omega];rfl
theorem aT.s4 {cW:Array aJ} {ty:aJ} {x y r:J} {k:IntKind} {a b:Int} (ak:aL x=true) (bq:aL y=true) (ao:aL r=true) (ex:aI x= .int k a) (hx:aI y= .int k b) (b1:aI r= .int k (min a b)):aT P (.lz cW ty x y,r):=by
 refine⟨by simp [np,ak,bq],ao,λdF dG w=> ?_⟩;show (fF dF dG (.lz cW ty (aI x) (aI y))).run P w=_;rw[ex,hx,b1];unfold fF;simp only [Sem.run_bind,run_min_int2,Result.andThen_ok];rw[show (if b<a then b else a)=min a b by rw[Int.min_def];split<;>split<;>omega];rfl
theorem aT.dC {t e:aJ} {x i r:J} {b off n c bb:Nat} {j:Nat} {k:IntKind} (ak:aL x=true) (ag:aL i=true) (ao:aL r=true) (aK:P.underlying t=some (.slice e)) (cl:bd P (sizeOf e)=some bb)
  (ex:aI x= .slice (some ⟨b,off,none⟩) n c) (gp:aI i= .int k j) (hj:j<n) (b1:aI r= .pointer (some ⟨b,off+j*bb,none⟩)):aT P (.dC t x i,r):=by
 refine⟨by simp [np,ak,ag],ao,λdF dG w=> ?_⟩;show (fF dF dG (.dC t (aI x) (aI i))).run P w=_;rw[ex,gp];unfold fF;have:(Instr.indexAt t (.slice (some ⟨b,off,none⟩) n c) (.int k j)).run P w= .ok (.pointer (some ⟨b,off+j*bb,none⟩)) w:=by
  simp [Instr.indexAt,run_underlying aK,asIntOf,hj,jc cl w,Addr.kc]
 simp only [Sem.run_bind,this,Result.andThen_ok,b1];rfl
theorem aT.cG {s:aJ} {x r:J} {f b o:Nat} {fields:Array Field} {h7:Field} {n:Nat} (ak:aL x=true) (ao:aL r=true) (aw:bd P (underlying s)=some (.struct fields)) (aO:fields[f]? =some h7) (av:bd P (sizeOf h7.type)=some n) (aM:n≠0)
  (ex:aI x= .pointer (some ⟨b,o,none⟩)) (b1:aI r= .pointer (some ⟨b,o+h7.offset,none⟩)):aT P (.cG s x f,r):=by
 refine⟨ak,ao,λdF dG w=> ?_⟩;show (fF dF dG (.cG s (aI x) f)).run P w=_;rw[ex];unfold fF;have:(Instr.fieldAt s (.pointer (some ⟨b,o,none⟩)) f).run P w= .ok (.pointer (some ⟨b,o+h7.offset,none⟩)) w:=by
  unfold Instr.fieldAt;refine cQ aw ?_;simp only [aO];refine cQ (a:=(⟨b,o,none⟩:Addr)) rfl ?_;unfold fieldPlace;simp only [Sem.run_bind,jc av w,Result.andThen_ok,aU aM,Addr.kc];rfl
 simp only [Sem.run_bind,this,Result.andThen_ok,b1];rfl
theorem aT.bF {t:aJ} {x r:J} {b o n:Nat} {l:List J} (ak:aL x=true) (ao:aL r=true) (ha:bd P (isAgg t)=some true) (av:bd P (sizeOf t)=some n) (ex:aI x= .pointer (some ⟨b,o,none⟩))
  (hl:l.length=n) (aq:∀w,n' w->∀j u,l[j]? =some u->w.cell? ⟨b,o+j,none⟩=some u) (b1:aI r= .agg ⟨l⟩):aT P (.bF t x,r):=by
 refine⟨ak,ao,λdF dG w hw=> ?_⟩;show (fF dF dG (.bF t (aI x))).run P w=_;rw[ex];unfold fF;have A4:∀j,j<n->w.cell? ((⟨b,o,none⟩:Addr).add j)=some (l.getD j undef):=λj hj=>by
  rw[Addr.kc];refine aq w hw j _ ?_;rw[fA ar,dh,fA ar];rfl
 have:(Instr.loadAt t (.pointer (some ⟨b,o,none⟩))).run P w= .ok (.agg ⟨l⟩) w:=by
  unfold Instr.loadAt;refine cQ (a:=(⟨b,o,none⟩:Addr)) rfl ?_;unfold loadVar;refine cQ ha ?_;simp only [if_true];refine cQ av ?_;refine dc (run_loadCells _ _ n (λj=>l.getD j undef) A4) ?_;have:(List.range n).map (λj=>l.getD j undef)=l:=by
   apply List.ext_getElem
   ·simp [hl]
   ·intro i ad af
    simp only [List.getElem_map,List.getElem_range,dh];rw[fA af];rfl
  show Result.ok (Value.agg (List.map (λj=>l.getD j undef) (List.range n)).toArray) w=_;rw[this]
 simp only [Sem.run_bind,this,Result.andThen_ok,b1];rfl
theorem aT.V5 {t:aJ} {x r:J} {b o:Nat} {u:J} (ak:aL x=true) (ao:aL r=true) (ha:bd P (isAgg t)=some false) (ex:aI x= .pointer (some ⟨b,o,none⟩))
  (aq:∀w,n' w->w.cell? ⟨b,o,none⟩=some u) (b1:aI r=u):aT P (.bF t x,r):=by
 refine⟨ak,ao,λdF dG w hw=> ?_⟩;show (fF dF dG (.bF t (aI x))).run P w=_;rw[ex];unfold fF;have:(Instr.loadAt t (.pointer (some ⟨b,o,none⟩))).run P w= .ok u w:=by
  unfold Instr.loadAt;refine cQ (a:=(⟨b,o,none⟩:Addr)) rfl ?_;unfold loadVar;refine cQ ha ?_;simp [Go.load,Sem.run,aq w hw]
 simp only [Sem.run_bind,this,Result.andThen_ok,b1];rfl
omit [a7] in
theorem cu.at' {α:Type} {M:Nat->Option Obj} {k:Nat} {enc:α->List J} {v:J} {l:List α} (h:cu M k enc v l) {i:Nat} {x:α} (ag:l[i]? =some x):∃b off c cs ty fr,v= .slice (some ⟨b,off,none⟩) l.length c/\M b=some (.cells cs ty fr)/\
  ∀(j:Nat) (u:J),(enc x)[j]? =some u->cs[off+i*k+j]? =some u:=by
 cases h with
 |nil=>simp at ag
 |mk ad af ay=>exact⟨_,_,_,_,_,_,rfl,ad,ay i x ag⟩
theorem aT.afy {α:Type} {k:Nat} {enc:α->List J} {v:J} {l:List α} (h:cu a7.df k enc v l) {t ty e:aJ} {x r:J} (ak:aL x=true) (ao:aL r=true) (aK:P.underlying t=some (.slice e)) (ex:aI x=v) (b1:aI r= .int .i64 l.length):
  aT P (.len #[t] ty x,r):=by
 obtain⟨a,c,aC⟩:=h.slice;exact aT.len ak ao aK (ex.trans aC) b1
theorem aT.FW {α:Type} {k:Nat} {enc:α->List J} {v:J} {l:List α} (h:cu a7.df k enc v l) {t e:aJ} {x i r:J} {j:Nat} {hi:IntKind} (hj:j<l.length) (ak:aL x=true) (ag:aL i=true) (ao:aL r=true) (aK:P.underlying t=some (.slice e))
  (cl:bd P (sizeOf e)=some k) (ex:aI x=v) (gp:aI i= .int hi j) (b1:aI r=hW v (j*k)):aT P (.dC t x i,r):=by
 obtain⟨b,off,c,_,_,_,aC,_⟩:=h.at' (fA hj);refine aT.dC ak ag ao aK cl (ex.trans aC) gp hj ?_;rw[b1,aC];rfl
theorem aT.V6 {s:aJ} {x r v:J} {f o o':Nat} {fields:Array Field} {h7:Field} {n:Nat} (ak:aL x=true) (ao:aL r=true) (aw:bd P (underlying s)=some (.struct fields)) (aO:fields[f]? =some h7) (av:bd P (sizeOf h7.type)=some n) (aM:n≠0)
  (aC:∃b off n c,v= .slice (some ⟨b,off,none⟩) n c) (ho:o'=o+h7.offset) (ex:aI x=hW v o) (b1:aI r=hW v o'):aT P (.cG s x f,r):=by
 obtain⟨b,off,m,c,rfl⟩:=aC;refine aT.cG ak ao aw aO av aM ex ?_;rw[b1,ho];show Value.pointer (some ⟨b,off+(o+h7.offset),none⟩)=_;rw[Nat.add_assoc]
theorem aT.r5 {α:Type} {k:Nat} {enc:α->List J} {v:J} {l:List α} (h:cu a7.df k enc v l) {t:aJ} {p r:J} {i:Nat} {x:α} (ag:l[i]? =some x) (hp:aL p=true) (ao:aL r=true)
  (ha:bd P (isAgg t)=some true) (av:bd P (sizeOf t)=some k) (aj:(enc x).length=k) (ex:aI p=hW v (i*k)) (b1:aI r= .agg ⟨enc x⟩):aT P (.bF t p,r):=by
 obtain⟨b,off,c,cs,ty,fr,aC,ae,aq⟩:=h.at' ag;rw[aC] at ex;refine aT.bF hp ao ha av ex aj (λw hw j u hj=> ?_) b1;rw[cell_of_row w b _ cs ty fr (hw b _ ae)];exact aq j u hj
theorem aT.V7 {α:Type} {k:Nat} {enc:α->List J} {v:J} {l:List α} (h:cu a7.df k enc v l) {t:aJ} {p r:J} {i o j:Nat} {x:α} {u:J} (ag:l[i]? =some x) (hp:aL p=true) (ao:aL r=true)
  (ha:bd P (isAgg t)=some false) (ho:o=i*k+j) (hu:(enc x)[j]? =some u) (ex:aI p=hW v o) (b1:aI r=u):aT P (.bF t p,r):=by
 obtain⟨b,off,c,cs,ty,fr,aC,ae,aq⟩:=h.at' ag;rw[aC] at ex;refine aT.V5 hp ao ha ex (λw hw=> ?_) b1;rw[cell_of_row w b _ cs ty fr (hw b _ ae),ho,<-Nat.add_assoc];exact aq j u hu
end
end AE
namespace AE
def oc:J->J
 | .agg _=> .bool false
 | .tuple _=> .bool false
 |v=>v
theorem afz (v:J):∀cs,oc v≠.agg cs/\oc v≠.tuple cs:=by
 intro cs;cases v<;>simp [oc]
def lX (bj:List J) (k:Nat):J:=bif Nat.blt k eQ then oc (bj.getD k (.bool false)) else .pointer (some ⟨k-eQ,0,none⟩)
theorem afA (bj:List J) (k:Nat):∀cs,lX bj k≠.agg cs/\lX bj k≠.tuple cs:=by
 unfold lX;cases Nat.blt k eQ with
 |true=>exact afz _
 |false=>exact λcs=>⟨λh=>(by cases h),λh=>(by cases h)⟩
theorem afB (bj:List J) (g:Nat):lX bj (eQ+g)= .pointer (some ⟨g,0,none⟩):=by
 unfold lX;rw[show Nat.blt (eQ+g) eQ=false from Bool.eq_false_iff.2 λh=>by rw[Nat.blt_eq] at h;omega,ek,Nat.add_sub_cancel_left]
@[reducible] def aS (M:Nat->Option Obj) (bj:List J):a7:=⟨lX bj,afA bj,M,afB bj⟩
theorem Ob (W:ax) (bj:List J): @n' (aS (aF W) bj) W:=λi o h=>h
class mP (Q:Exit->Act->ax->Prop):Prop where
 calm:ob Q
instance [cH] {P:aR} {fn:Func} {N B:Nat} {w0:ax} {R:Ending->ax->Prop}:mP (rf P fn N B w0 R):=⟨λ_ _ _ h=>h⟩
instance {Q:Exit->Act->ax->Prop} [mP Q] {R:Act->ax->Prop}:mP (Exit.then R Q):=⟨(mP.calm (Q:=Q)).then R⟩
instance {P:aR} {Q:Exit->Act->ax->Prop} [mP Q] {ks:List fc}:mP (dK P ks Q):=⟨(mP.calm (Q:=Q)).vx ks⟩
def DJ:k0->Bool
 | .normal| .ret=>true
 |_=>false
def gk (P:aR) (fn:Func):Option bO->Option J
 |some (.done x s)=>bif DJ x then match ye s.A s.ms with
  |some fl=>match w3 P fl s.sl fn.results.toList with
   |some vs=>bif aL (yi vs) then some (yi vs) else none
   |none=>none
  |none=>none
  else none
 |_=>none
def qx (head:aG) (aV:List bw):Option bO->Option eg
 |some (.done .normal s)=>cq s head aV
 |_=>none
def pS (head:aG) (aV:List bw):Option bO->Option eg
 |some (.loop _ s _)=>cq s head aV
 |_=>none
def pe:Option bO->Code
 |some (.loop b _ _)=>b
 |_=> .skip
def f_:Option bO->List fc
 |some (.loop _ _ ks)=>ks
 |some (.oper _ _ _ _ ks)=>ks
 |some (.range _ _ _ _ _ ks)=>ks
 |some (.draw _ _ _ ks)=>ks
 |some (.cond _ _ _ _ ks)=>ks
 |_=>[]
def b4:Option bO->b6
 |some (.done _ s)=>s
 |some (.loop _ s _)=>s
 |some (.oper _ _ _ s _)=>s
 |some (.range _ _ _ _ s _)=>s
 |some (.draw _ _ s _)=>s
 |some (.cond _ _ _ s _)=>s
 |none=>{sl:= .nil,ms:=[],A:=start}
def j6:Option bO->List Oper
 |some (.oper _ r _ _ _)=>r
 |_=>[]
def j7:Option bO->Array Oper
 |some (.oper _ _ ops _ _)=>ops
 |_=> #[]
def je:Option bO->Option Tmp
 |some (.oper o _ _ _ _)=>o.dst
 |_=>none
def JE (P:aR) [Lib P] [dS P] (C:h8) (N bm:Nat) (ks:List fc):Option bO->Option bO
 |some (.done .normal _)=>none
 |some (.done x s)=>resume P C N bm ks x s
 |_=>none
def b7 (head:aG) (aV:List bw):b6:={sl:=head,ms:=[],A:=dd aV}
def cc:List (Nat×J)->aG
 |[]=> .nil
 |(t,v)::r=>match bR.set v depth (cc r) t with
  |some s=>s
  |none=> .nil
def JF (P:aR) (fn:Func):Option bO->Option (J×a')
 |some (.done x s)=>bif DJ x then match ye s.A s.ms with
  |some fl=>match w3 P fl s.sl fn.results.toList with
   |some vs=>some (yi vs,fl)
   |none=>none
  |none=>none
  else none
 |_=>none
theorem afC [a7] [cH] {P:aR} {fn:Func} {N B:Nat} {w0:ax} {R:Ending->ax->Prop} {st:bO} {v:J} {fl:a'} (h:JF P fn (some st)=some (v,fl)) (iB:∀aB w2,Here 1 (Jx v fl) B w0 (N5 aB) w2->R (.returned aB) w2):mm P N B w0 (rf P fn N B w0 R) st:=by
 unfold JF at h;split at h
 ·rename_i x s cP
  cases cP;cases ak:DJ x with
  |false=>rw[ak] at h;cases h
  |true=>
   rw[ak,bx] at h;split at h
   ·rename_i q_ hl
    split at h
    ·rename_i vs kr
     cases h;intro a w ah;have main:FM P fn N B w0 R a w:=⟨inferInstance,s,fl,yi vs,ah,hl,λ_ _ _ ao aw=>VI ao aw kr,iB⟩;cases x with
     |normal=>exact main
     |ret=>exact main
     |exit id=>cases ak
     |goto l=>cases ak
    ·cases h
   ·cases h
 ·cases h
theorem afD {P:aR} {fn:Func} {o:Option bO} {v:J} (h:gk P fn o=some v):∃fl,JF P fn o=some (v,fl)/\aL v=true:=by
 unfold gk at h;unfold JF;split at h
 ·rename_i x s
  cases ak:DJ x with
  |false=>rw[ak] at h;cases h
  |true=>
   rw[ak,bx] at h;simp only [ak,bx];split at h
   ·rename_i fl hl
    split at h
    ·rename_i vs kr
     cases hp:aL (yi vs) with
     |false=>rw[hp] at h;cases h
     |true=>
      rw[hp,bx,cE] at h;subst h;exact⟨fl,by simp only [hl,kr],hp⟩
    ·cases h
   ·cases h
 ·cases h
theorem V8 [a7] [cH] {P:aR} {fn:Func} {N B:Nat} {w0:ax} {R:Ending->ax->Prop} {st:bO} {v:J} (h:gk P fn (some st)=some v) (iB:∀w2,cb B w0 w2->n' w2->R (.returned (aI v)) w2):mm P N B w0 (rf P fn N B w0 R) st:=by
 obtain⟨fl,ad,hp⟩:=afD h;refine afC ad λaB w2 ah=> ?_
 have ag:=ah.mN;obtain⟨⟨φ,ds,q1,aE,ca,ey,_⟩,hh,kT⟩:=ah;have:=aE.get 0 v rfl;rw[show aB=aI v from aD.ig v hp this];exact iB w2 hh ag
theorem afE [a7] [cH] {P:aR} [Lib P] [dS P] {C:h8} {N B bm:Nat} {w0:ax} {ks:List fc} {st s2:bO} {Q:Exit->Act->ax->Prop} [mP Q] {R:Act->ax->Prop} (cK:P.follows .mixedOrders=true) (cT:lA P .nil C) (h:JE P C N bm ks (some st)=some s2) (af:mm P N B w0 Q s2):mm P N B w0 (Exit.then R (dK P ks Q)) st:=by
 unfold JE at h;split at h
 ·cases h
 ·rename_i x s ak cP
  cases cP;intro a w ah;exact JC (Q:=dK P ks Q) (P:=P) (y:= .skip) (λav=>ak av) (pQ cK cT ks x s s2 Q a w mP.calm h af ah) R
 ·cases h
theorem afF [cH] {P:aR} {N B:Nat} {w0:ax} {s1:a7} {X:Type} {f':X->a7} (gj:X->Prop) (iD:X->Nat) {head:aG} {aV:List bw} {st:bO} {bG:eg} {Q:Exit->Act->ax->Prop} (x:X) (ae:pS head aV (some st)=some bG) (hm:fj s1 (f' x) bG)
  (qw:∀i o,(f' x).df i=some o->s1.df i=some o) (ak:gj x)
  (round:∀x,gj x->∀a w,@Here (f' x) _ N (b7 head aV) B w0 a w->(pe (some st)).wpIn (Fr none) 0 P (Exit.then (λaW w'=>∃x',gj x'/\iD x'<iD x/\ @Here (f' x') _ N (b7 head aV) B w0 aW w') (dK P (f_ (some st)) Q)) a w) (av:cH.dV<=aV.length) (aq:hV (b4 (some st)).A aV 0): @mm s1 _ P N B w0 Q st:=by
 unfold pS at ae;split at ae
 ·rename_i b s ks cP
  cases cP;intro a w ah;exact VX f' (b7 head aV) gj iD round x ak (Here.move ae hm qw av aq ah)
 ·cases ae
def e_ [a7] [cH] (P:aR) (N B:Nat) (w0:ax) (Q:Exit->Act->ax->Prop) (o:Option bO):Prop:=∃st,o=some st/\mm P N B w0 Q st
theorem JG [a7] [cH] {P:aR} {fn:Func} {N B:Nat} {w0:ax} {R:Ending->ax->Prop} {o:Option bO} {v:J} (h:gk P fn o=some v) (iB:∀w2,cb B w0 w2->n' w2->R (.returned (aI v)) w2):e_ P N B w0 (rf P fn N B w0 R) o:=by
 cases o with
 |none=>cases h
 |some st=>exact⟨st,rfl,V8 h iB⟩
theorem afG [a7] [cH] {P:aR} [Lib P] [dS P] {C:h8} {N B bm:Nat} {w0:ax} {ks:List fc} {o:Option bO} {Q:Exit->Act->ax->Prop} [mP Q] {R:Act->ax->Prop} (cK:P.follows .mixedOrders=true) (cT:lA P .nil C) (af:e_ P N B w0 Q (JE P C N bm ks o)):e_ P N B w0 (Exit.then R (dK P ks Q)) o:=by
 obtain⟨s2,h,af⟩:=af;cases o with
 |none=>cases h
 |some st=>exact⟨st,rfl,afE cK cT h af⟩
theorem afH [cH] {P:aR} {N B:Nat} {w0:ax} {s1:a7} {X:Type} {f':X->a7} (gj:X->Prop) (iD:X->Nat) {head:aG} {aV:List bw} {o:Option bO} {bG:eg} {Q:Exit->Act->ax->Prop} (x:X) (ae:pS head aV o=some bG) (hm:fj s1 (f' x) bG)
  (qw:∀i o,(f' x).df i=some o->s1.df i=some o) (ak:gj x)
  (round:∀x,gj x->∀a w,@Here (f' x) _ N (b7 head aV) B w0 a w->(pe o).wpIn (Fr none) 0 P (Exit.then (λaW w'=>∃x',gj x'/\iD x'<iD x/\ @Here (f' x') _ N (b7 head aV) B w0 aW w') (dK P (f_ o) Q)) a w) (av:cH.dV<=aV.length:=by first|exact Nat.zero_le _|exact gv rfl) (aq:hV (b4 o).A aV 0:=by exact gn rfl): @e_ s1 _ P N B w0 Q o:=by
 cases o with
 |none=>cases ae
 |some st=>exact⟨st,rfl,afF gj iD x ae hm qw ak round av aq⟩
def V9 (P:aR) [Lib P] (F:List (fW×J)) (T:List (FuncId×List J×J)) (N bm d:Nat) (c:Code) (s:b6):Option bO:=
 @pP P _ ⟨F⟩ (@sW P _ ⟨F⟩ ⟨T⟩ .nil bm d) N bm c s
def V' (P:aR) [Lib P] (F:List (fW×J)) (T:List (FuncId×List J×J)) (N bm d:Nat) (ks:List fc) (o:Option bO):Option bO:=
 @JE P _ ⟨F⟩ (@sW P _ ⟨F⟩ ⟨T⟩ .nil bm d) N bm ks o
def s5 [a7] (P:aR) (F:List (fW×J)):Prop:=∀p∈F,aT P p
def r6 [a7] (P:aR) (T:List (FuncId×List J×J)):Prop:=∀p∈T,Bp P p
theorem aX [a7] {P:aR}:s5 P []:=λ_ h=>by cases h
theorem ai [a7] {P:aR} {p:fW×J} {l:List (fW×J)} (h:aT P p) (hl:s5 P l):s5 P (p::l):=λq aZ=>by
 rcases List.mem_cons.1 aZ with rfl|aZ
 ·exact h
 ·exact hl q aZ
theorem aY [a7] {P:aR}:r6 P []:=λ_ h=>by cases h
theorem Oc [a7] {P:aR} {p:FuncId×List J×J} {l:List (FuncId×List J×J)} (h:Bp P p) (hl:r6 P l):r6 P (p::l):=λq aZ=>by
 rcases List.mem_cons.1 aZ with rfl|aZ
 ·exact h
 ·exact hl q aZ
theorem cL [a7] {P:aR} {p:FuncId×List J×J} {l:List (FuncId×List J×J)} (h:jA P p) (hl:r6 P l):r6 P (p::l):=Oc h.N4 hl
theorem afI [a7] [cH] {P:aR} [Lib P] {F:List (fW×J)} {T:List (FuncId×List J×J)} {N B bm d:Nat} {w0 w:ax} {a:Act} {c:Code} {s:b6} {Q:Exit->Act->ax->Prop} [mP Q] (cK:P.follows .mixedOrders=true) (c0:s5 P F) (d_:r6 P T)
  (h:e_ P N B w0 Q (V9 P F T N bm d c s)) (ah:Here N s B w0 a w):c.wpIn (Fr none) 0 P Q a w:=by
 obtain⟨st,ad,af⟩:=h;letI:dS P:=⟨F⟩;letI:sV P:=⟨T⟩;exact r4 cK (zG cK c0 d_ d) c s st Q a w mP.calm ad af ah
theorem afJ [a7] [cH] {P:aR} [Lib P] {F:List (fW×J)} {T:List (FuncId×List J×J)} {N B bm d:Nat} {w0:ax} {ks:List fc} {o:Option bO} {Q:Exit->Act->ax->Prop} [mP Q] {R:Act->ax->Prop} (cK:P.follows .mixedOrders=true) (c0:s5 P F) (d_:r6 P T)
  (af:e_ P N B w0 Q (V' P F T N bm d ks o)):e_ P N B w0 (Exit.then R (dK P ks Q)) o:=by
 letI:dS P:=⟨F⟩;letI:sV P:=⟨T⟩;exact afG cK (zG cK c0 d_ d) af
def Bs (P:aR) [Lib P] (F:List (fW×J)) (T:List (FuncId×List J×J)) (N bm d:Nat) (r:List Oper) (ops:Array Oper) (ks:List fc) (s:b6):Option bO:=
 match @DI P _ ⟨F⟩ (@sW P _ ⟨F⟩ ⟨T⟩ .nil bm d) N ops s.ms r s.sl s.A with
 | .done .normal s1=> @resume P _ ⟨F⟩ (@sW P _ ⟨F⟩ ⟨T⟩ .nil bm d) N bm ks .normal s1
 | .done _ _=>none
 |st=>some (st.w5 ks)
theorem FX [a7] [cH] {P:aR} [Lib P] {F:List (fW×J)} {T:List (FuncId×List J×J)} {N B bm d:Nat} {w0 w:ax} {a:Act} {r:List Oper} {ops:Array Oper} {ks:List fc} {s:b6} {Q:Exit->Act->ax->Prop} [mP Q] (cK:P.follows .mixedOrders=true) (c0:s5 P F) (d_:r6 P T)
  (h:e_ P N B w0 Q (Bs P F T N bm d r ops ks s)) (ah:Here N s B w0 a w):wpListIn (Fr none) 0 P ops (dK P ks Q) r a w:=by
 obtain⟨st,ad,af⟩:=h;letI:dS P:=⟨F⟩;letI:sV P:=⟨T⟩;have aq:=zG (gl:= .nil) (bm:=bm) cK c0 d_ d;unfold Bs at ad;refine JD (ms:=s.ms) aq r s.sl s.A a w ?_ ah;split at ad
 ·rename_i s1 he
  rw[he];intro aW w' yj;exact pQ cK aq ks .normal s1 st Q aW w' mP.calm ad af yj
 ·cases ad
 ·rename_i o9 bc he
  cases ad;exact mm.w5 (λx s ak=>by
   cases x with
   |normal=>exact bc _ ak
   |_=>exact he _ _ ak) af
theorem V_ [a7] {P:aR} {f:FuncId} {fn:Func} {c:Code} {args:List J} {sl:aG} {N:Nat} {W:ax} {R:Ending->ax->Prop} (mM:P.funcs[f]? =some fn) (aq:fn.body=some c) (gw:setArgs 0 args .nil=some sl) (hp:dP args=true)
  (j5:args.length+(fn.ntmps-args.length)=N) (pg:n' W) (rb:∀a,@Here _ fG N {sl,ms:=[],A:=start} W.heap.size W a W->c.wpIn (Fr none) 0 P (@rf fG P fn N W.heap.size W R) a W):Calls P f ⟨ew args⟩ W R:=by
 subst j5;letI:=fG;exact N6 mM aq gw (VU pg) (λb e h=>by cases h) (vq.none _ _) ⟨by simp [x3],λj hj=>by simpa using aD.A' (λ_=>none) args hp j hj⟩ (cb.refl _ _) (b2 _) rb
theorem zM {s1 s2:a7}:fj s1 s2 []:=λ_ h=>by cases h
theorem afK {s1 s2:a7} {p:J×J} {l:eg} (h: @aI s1 p.1= @aI s2 p.2) (hl:fj s1 s2 l):fj s1 s2 (p::l):=λq aZ=>by
 rcases List.mem_cons.1 aZ with rfl|aZ
 ·exact h
 ·exact hl q aZ
theorem afL {k:IntKind} {a b:Int} (h:a=b):Value.int k a= .int k b:=by rw[h]
theorem Wa {M M':Nat->Option Obj} {bj vals':List J} {a b:Nat} (v:J) (ad:lX bj a=v) (af:lX vals' b=v): @aI (aS M bj) (al a)= @aI (aS M' vals') (al b):=by
 exact((@I7 (aS M bj) a).trans ad).trans ((@I7 (aS M' vals') b).trans af).symm
theorem afM {M M':Nat->Option Obj} {bj vals':List J} {a b:Nat} {k:IntKind} {x y:Int} (ad:lX bj a= .int k x) (af:lX vals' b= .int k y) (h:x=y): @aI (aS M bj) (al a)= @aI (aS M' vals') (al b):=by
 subst h;exact Wa (.int k x) ad af
theorem wrap64 {n:Int} (ad: -9223372036854775808<=n) (af:n<=9223372036854775807):IntKind.i64.wrap n=n:=IntWalk.i64_in n ⟨ad,af⟩
attribute [instance] fG
end AE
namespace AE
theorem Wb:∀{l:List J},dP l=true->∀{v:J},v∈l->aL v=true
 |[],_,v,aC=>by cases aC
 |x::r,h,v,aC=>by
  unfold dP at h;simp only [cV] at h;rcases List.mem_cons.1 aC with rfl|aC
  ·exact h.1
  ·exact Wb h.2 aC
end AE
namespace AE
def Wc [cH] {Y:Type} (DK:Y->a7) (R:Y->Prop) (ea:J) (DL:List bw) (B:Nat) (w0:ax) (e:Ending) (w':ax):Prop:=
 ∃aB y,e= .returned aB/\R y/\ @Here (DK y) _ 1 (Jx ea (dd DL)) B w0 (N5 aB) w'
def Wd [a7] (P:aR) (f:FuncId) (args:List J) (A:a') (B:Nat) (w0:ax) {Y:Type} (DK:Y->a7) (R:Y->Prop) (ea:J) (DL:List bw):Prop:=
 ∀φ w gi,bU φ A w->(∀b e,φ b=some e->B<=e.bk)->hS args φ gi->cb B w0 w->B<=w.heap.size->Calls P f gi w (@Wc ⟨φ,A.n⟩ Y DK R ea DL B w0)
theorem Wd.of [a7] {P:aR} {f:FuncId} {fn:Func} {c:Code} {args:List J} {sl:aG} {A:a'} {N B:Nat} {w0:ax} {Y:Type} {DK:Y->a7} {R:Y->Prop} {ea:J} {DL:List bw} (mM:P.funcs[f]? =some fn) (aq:fn.body=some c) (gw:setArgs 0 args .nil=some sl)
  (j5:args.length+(fn.ntmps-args.length)=N) (rb:∀φ a w,@Here _ ⟨φ,A.n⟩ N {sl,ms:=[],A} B w0 a w->c.wpIn (Fr none) 0 P (@rf ⟨φ,A.n⟩ P fn N B w0 (@Wc ⟨φ,A.n⟩ Y DK R ea DL B w0)) a w):Wd P f args A B w0 DK R ea DL:=by
 subst j5;intro φ w gi ao cC gy ae cl;letI:cH:=⟨φ,A.n⟩;exact N6 mM aq gw ao cC ⟨b2 _,λ_ _=>rfl⟩ gy ae cl λa ah=>rb φ a w ah
def vy (P:aR) [Lib P]:Option bO->Option (FuncId×List J×a')
 |some (.oper o _ ops s _)=>match q5 ops o s.sl with
  |some true=>match Ft P (dB .nil s.sl) s.A o with
   |some (.enter f args,bB)=>some (f,args,bB)
   |_=>none
  |_=>none
 |_=>none
theorem afN {α:Type} {o:Option α} {d:α} (h:o.isSome=true):o=some (o.getD d):=by
 cases o with
 |none=>cases h
 |some a=>rfl
def Od (P:aR) [Lib P] (F:List (fW×J)) (T:List (FuncId×List J×J)) (N bm d m:Nat):Option bO->Option bO
 |some (.loop b s ks)=>match @FU P _ ⟨F⟩ (@sW P _ ⟨F⟩ ⟨T⟩ .nil bm d) N bm b m s with
  |some (.done x s1)=> @resume P _ ⟨F⟩ (@sW P _ ⟨F⟩ ⟨T⟩ .nil bm d) N bm ks x s1
  |some st=>some (st.w5 ks)
  |none=>none
 |_=>none
theorem s6 [a7] [cH] {P:aR} [Lib P] {F:List (fW×J)} {T:List (FuncId×List J×J)} {N B bm d m:Nat} {w0:ax} {o:Option bO} {Q:Exit->Act->ax->Prop} [mP Q] (cK:P.follows .mixedOrders=true) (c0:s5 P F) (d_:r6 P T)
  (h:e_ P N B w0 Q (Od P F T N bm d m o)):e_ P N B w0 Q o:=by
 obtain⟨st,ad,af⟩:=h;letI:dS P:=⟨F⟩;letI:sV P:=⟨T⟩;have aq:=zG (gl:= .nil) (bm:=bm) cK c0 d_ d;unfold Od at ad;split at ad
 ·rename_i b s ks
  refine⟨_,rfl,λa w ah=>wpIn_loop_rounds m ?_⟩;have aZ:ob (dK P ks Q):=(mP.calm (Q:=Q)).vx ks;split at ad
  ·rename_i eA s1 he
   exact FV cK aq m s _ _ a w aZ he (λev w1 lD=>pQ cK aq ks eA s1 st Q ev w1 mP.calm ad af lD) ah
  ·rename_i o9 bc he
   cases ad;exact FV cK aq m s _ _ a w aZ he (mm.w5 (Q:=Q) (k:=ks) (λx s ak=>bc x s ak) af) ah
  ·cases ad
 ·cases ad
end AE
namespace AE
abbrev Mem:=Nat->Option Obj
def eL:J->Option Nat
 | .slice (some a) _ c=>if c=0 then none else some a.block
 |_=>none
theorem FY (a:Option Addr) (n:Nat):eL (.slice a n 0)=none:=by cases a<;>rfl
theorem nH (a:Addr) (n:Nat) {c:Nat} (h:0<c):eL (.slice (some a) n c)=some a.block:=by
 show (if c=0 then none else some a.block)=_;rw[aU ar]
theorem Bt {v:J} {i:Nat} (h:some i=eL v):some i=v.ownBlock:=by
 cases v<;>first|(cases h;done)|skip
 rename_i a n c;cases a with
 |none=>cases h
 |some a=>
  rcases Nat.eq_zero_or_pos c with aq|aq
  ·subst aq;cases h
  ·rw[nH a n aq] at h;exact h
def dm {α:Type} (B:Nat) (M:Mem) (e:aJ) (k:Nat) (enc:α->List J) (v:J) (l:List α):Prop:=
 (∃a,v= .slice a 0 0/\l=[])\/
 ∃g cap cur,v= .slice (some ⟨g,0,none⟩) l.length cap/\0<cap/\B<=g/\M g=some (.cells cur e (0,0))/\l.length<=cap/\cap<=maxLen/\cur.size=cap*k/\cur.toList.take (l.length*k)=l.flatMap enc
theorem ri {α:Type} {k:Nat} {enc:α->List J} (aj:∀x,(enc x).length=k):∀l:List α,(l.flatMap enc).length=l.length*k
 |[]=>by simp
 |x::r=>by rw[List.flatMap_cons,List.length_append,aj,ri aj r,List.length_cons,Nat.add_mul,Nat.one_mul,Nat.add_comm]
theorem zN {α:Type} {k:Nat} {enc:α->List J} (aj:∀x,(enc x).length=k):∀(l:List α) (i:Nat) (x:α),l[i]? =some x->∀(j:Nat) (u:J),(enc x)[j]? =some u->(l.flatMap enc)[i*k+j]? =some u
 |[],i,x,h,_,_,_=>by simp at h
 |y::r,0,x,h,j,u,hu=>by
  simp only [List.getElem?_cons_zero,cE] at h;subst h;have hj:j<(enc y).length:=(List.getElem?_eq_some_iff.1 hu).1;rw[List.flatMap_cons,List.getElem?_append_left ar,Nat.zero_mul,Nat.zero_add];exact hu
 |y::r,i+1,x,h,j,u,hu=>by
  rw[List.flatMap_cons,List.getElem?_append_right (by rw[aj,Nat.add_mul];omega),aj,show (i+1)*k+j-k=i*k+j by rw[Nat.add_mul];omega];exact zN aj r i x (by simpa using h) j u hu
section
variable {α:Type} {B:Nat} {M:Mem} {e:aJ} {k:Nat} {enc:α->List J} {v:J} {l:List α}
theorem dm.nil (B:Nat) (M:Mem) (e:aJ) (k:Nat) (enc:α->List J) (a:Option Addr):dm B M e k enc (.slice a 0 0) []:= .inl ⟨a,rfl,rfl⟩
theorem dm.slice (h:dm B M e k enc v l):∃a c,v= .slice a l.length c:=by
 rcases h with ⟨a,rfl,rfl⟩|⟨g,cap,cur,rfl,_⟩
 ·exact⟨a,0,rfl⟩
 ·exact⟨_,_,rfl⟩
theorem dm.known (h:dm B M e k enc v l):∀i,some i=eL v->M i≠none/\B<=i:=by
 intro i ag;rcases h with ⟨a,rfl,rfl⟩|⟨g,cap,cur,rfl,aM,ad,af,_⟩
 ·rw[FY] at ag;cases ag
 ·have:i=g:=by
   rw[nH _ _ aM] at ag;simpa using ag
  subst this;exact⟨by rw[af];simp,ad⟩
theorem dm.mono {vp:Nat} {M':Mem} (h:dm B M e k enc v l) (cC:vp<=B) (hm:∀i,some i=eL v->∀o,M i=some o->M' i=some o):dm vp M' e k enc v l:=by
 rcases h with ⟨a,rfl,rfl⟩|⟨g,cap,cur,rfl,aM,ad,af,ay,bD,cD,cI⟩
 ·exact .inl ⟨a,rfl,rfl⟩
 ·exact .inr ⟨g,cap,cur,rfl,aM,Nat.le_trans cC ad,hm g (by rw[nH _ _ aM]) _ af,ay,bD,cD,cI⟩
def r7 (w:ax) (k:Nat) (enc:α->List J) (v:J) (l:List α):Prop:=
 ∃a c,v= .slice a l.length c/\(a=none->l=[])/\∀gY,a=some gY->∀j u,(l.flatMap enc)[j]? =some u->w.cell? (gY.add j)=some u
theorem afO {enc:α->List J} (aj:∀x,(enc x).length=k) {l:List α} {j:Nat} {u:J} (h:(l.flatMap enc)[j]? =some u):∃i x r,l[i]? =some x/\(enc x)[r]? =some u/\j=i*k+r:=by
 have hj:j<l.length*k:=by
  have:=(List.getElem?_eq_some_iff.1 h).1
  rwa [ri aj] at this
 have d':0<k:=by rcases Nat.eq_zero_or_pos k with h|h;· subst h;simp at hj
                 ·exact h
 have ag:j/k<l.length:=Nat.div_lt_of_lt_mul (by rwa [Nat.mul_comm] at hj);have ao:j%k<k:=Nat.mod_lt _ d';refine⟨j/k,l[j/k],j%k,fA ag,?_,(Nat.div_add_mod' j k).symm⟩;have af:=zN aj l (j/k) _ (fA ag) (j%k) ((enc l[j/k])[j%k]'(by rw[aj];exact ao)) (fA _);rw[Nat.div_add_mod',h] at af;rw[fA (by rw[aj];exact ao)];exact af.symm
theorem cu.reads {w:ax} (h:cu M k enc v l) (aj:∀x,(enc x).length=k) (hw:∀i o,M i=some o->w.heap[i]? =some o):r7 w k enc v l:=by
 cases h with
 |nil a c=>exact⟨a,c,rfl,λ_=>rfl,λgY _ j u h=>by simp at h⟩
 |mk ad af ay=>
  refine⟨_,_,rfl,(λh=>by cases h),λgY had j u hj=> ?_⟩;cases had;obtain⟨i,x,r,q1,aE,rfl⟩:=afO aj hj;rw[Addr.kc,cell_of_row w _ _ _ _ _ (hw _ _ ad),<-Nat.add_assoc];exact ay i x q1 r u aE
theorem dm.reads {w:ax} (h:dm B M e k enc v l) (hw:∀i o,M i=some o->w.heap[i]? =some o):r7 w k enc v l:=by
 rcases h with ⟨a,rfl,rfl⟩|⟨g,cap,cur,rfl,aM,ad,af,ay,bD,cD,cI⟩
 ·exact⟨a,0,rfl,λ_=>rfl,λgY _ j u h=>by simp at h⟩
 ·refine⟨_,_,rfl,(λh=>by cases h),λgY had j u hj=> ?_⟩
  cases had;rw[Addr.kc,cell_of_row w _ _ _ _ _ (hw _ _ af),Nat.zero_add];rw[<-cI,List.getElem?_take] at hj;split at hj
  ·simpa using hj
  ·cases hj
theorem dm.arr (h:dm B M e k enc v l) (aj:∀x,(enc x).length=k):cu M k enc v l:=by
 rcases h with ⟨a,rfl,rfl⟩|⟨g,cap,cur,rfl,aq,ad,af,ay,bD,cD,cI⟩
 ·exact .nil _ _
 ·refine .mk af ay λi x ak j u hu=> ?_
  have fK:=zN aj l i x ak j u hu;rw[<-cI,List.getElem?_take] at fK;split at fK
  ·rw[Nat.zero_add]
   simpa using fK
  ·cases fK
theorem dm.row (h:dm B M e k enc v l) (aj:∀x,(enc x).length=k) (aq:eL v≠none) {w:ax} (hw:∀i o,M i=some o->w.heap[i]? =some o):w.ownsRow B e k v l.length (l.flatMap enc):=by
 refine⟨ri aj l,?_⟩;rcases h with ⟨a,rfl,rfl⟩|⟨g,cap,cur,rfl,aM,ad,af,ay,bD,cD,cI⟩
 ·exact absurd (FY _ _) aq
 ·exact .inr ⟨g,cap,cur,rfl,ad,hw _ _ af,ay,bD,cD,cI⟩
theorem dm.Oe {w:ax} (h:w.ownsRow B e k v l.length (l.flatMap enc)):dm B (aF w) e k enc v l:=by
 obtain⟨_,⟨rfl,aM⟩|⟨g,cap,cur,rfl,ad,af,ay,bD,cD,cI⟩⟩:=h
 ·exact .inl ⟨none,rfl,List.eq_nil_of_length_eq_zero aM⟩
 ·rcases Nat.eq_zero_or_pos cap with aq|aq
  ·subst aq
   have:l=[]:=List.eq_nil_of_length_eq_zero ar;subst this;exact .inl ⟨_,rfl,rfl⟩
  ·exact .inr ⟨g,cap,cur,rfl,aq,ad,af,ay,bD,cD,cI⟩
end
def hk (M M':Mem) (T:Option Nat):Prop:=∀i o,M i=some o->some i≠T->M' i=some o
theorem hk.up {B:Nat} {W:ax} {M M':Mem} {T:Option Nat} (aj:hk M M' T) (cC:∀i,some i=T->B<=i) (afP:W.heap.size<=B) (bn:∀i o,aF W i=some o->M i=some o):∀i o,aF W i=some o->M' i=some o:=λi o h=>
 aj i o (bn i o h) λag=>by
  have ad:=cC i ag;have af:i<W.heap.size:=(Array.getElem?_eq_some_iff.1 h).1;omega
theorem hk.own {α:Type} {B:Nat} {M M':Mem} {T:Option Nat} {e:aJ} {k:Nat} {enc:α->List J} {v:J} {l:List α} (aj:hk M M' T) (h:dm B M e k enc v l) (cO:∀i,some i=eL v->some i≠T):dm B M' e k enc v l:=
 h.mono (b2 _) λi ag o ho=>aj i o ho (cO i ag)
structure Bu (B:Nat) (M M':Mem) (T:Option Nat) (w w':ax):Prop where
 known:∀i,some i=T->M i≠none/\B<=i
 os:w'.os=w.os
 tape:w'.tape=w.tape
 output:w'.output=w.output
 drawn:ic w<=ic w'
 size:w.heap.size<=w'.heap.size
 block:∀i,i<w.heap.size->some i≠T->w'.heap[i]? =w.heap[i]?
 df:∀i o,M' i=some o->w'.heap[i]? =some o/\(M i≠none\/w.heap.size<=i\/i<B)
theorem Here.turns [cH] {M M':Mem} {bj vals':List J} {T:Option Nat} {N B:Nat} {st:b6} {w0 w w':ax} {a:Act} {sl:aG} {l:List bw} {bG:eg} (cR:cq st sl l=some bG) (hm:fj (aS M bj) (aS M' vals') bG) (aK:Bu B M M' T w w') (av:cH.dV<=l.length) (aq:hV st.A l 0)
  (ah: @Here (aS M bj) _ N st B w0 a w): @Here (aS M' vals') _ N {sl,ms:=[],A:=dd l} B w0 a w':=
 Here.Br (λi=>some i=T) cR hm (λi ag=>aK.known i ag) ⟨aK.os,aK.tape,aK.output,aK.drawn⟩ aK.size (λi ag aC=>aK.block i ag aC) (λi o ag=>aK.df i o ag) av aq ah
def gP (M:Mem) (w':ax) (T eN:Option Nat):Mem:=λi=>if some i=eN then w'.heap[i]? else if some i=T then none else M i
theorem ph {B:Nat} {M:Mem} {T eN:Option Nat} {w w':ax} (hw:∀i o,M i=some o->w.heap[i]? =some o) (d_:∀i,some i=T->M i≠none/\B<=i) (FZ:∀i,some i=eN->some i=T\/w.heap.size<=i)
  (ux:w'.os=w.os/\w'.tape=w.tape/\w'.output=w.output) (bc:ic w<=ic w') (cl:w.heap.size<=w'.heap.size) (ae:∀i,i<w.heap.size->some i≠T->w'.heap[i]? =w.heap[i]?):Bu B M (gP M w' T eN) T w w'/\hk M (gP M w' T eN) T:=by
 have zK:∀i o,M i=some o->some i≠T->w'.heap[i]? =some o:=λi o ag aC=>by
  have h:=hw i o ag;rw[ae i (Array.getElem?_eq_some_iff.1 h).1 aC];exact h
 refine⟨⟨d_,ux.1,ux.2.1,ux.2.2,bc,cl,ae,λi o ag=> ?_⟩,λi o ag aC=> ?_⟩
 ·unfold gP at ag
  split at ag
  ·rename_i h
   refine⟨ag,?_⟩;rcases FZ i h with h|h
   ·exact .inl (d_ i h).1
   ·exact .inr (.inl h)
  ·split at ag
   ·cases ag
   ·rename_i ad af
    exact⟨zK i o ag af,.inl (by rw[ag];simp)⟩
 ·unfold gP
  split
  ·exact zK i o ag aC
  ·first
    |exact ag
    |(rw[aU aC];exact ag)
theorem Og {P:aR} {w:ax} {t ty e:aJ} {i:TypeInfo} (aK:P.underlying t=some (.slice e)) (ag:P.info? e=some i) {a b:Option Addr} {n cap c:Nat} (h:n<=cap):
  (Builtin.append_ #[t,t] ty #[.slice a n cap,.slice b 0 c]).run P w= .ok (.slice a n cap) w:=by
 cases b<;>cases a<;>simp [Builtin.append_,run_underlying aK,sizeOf,typeInfo,ag,Builtin.lenOf,Builtin.firstCells,loadCells,loadCellsFrom,h,storeCells]
theorem Oh {P:aR} {w w':ax} {base:Nat} {t ty e:aJ} {i:TypeInfo} {z:J} {size bytes:Nat} (aK:P.underlying t=some (.slice e)) (ag:P.info? e=some i) (bI:i.zero=some z) (gD:i.size=size) (jB:i.bytes=bytes) (lY:z.cells.size=size) (cl:0<size)
  {v aB:J} {n:Nat} {xs:List J} (w6:w.ownsRow base e size v n xs) (a:Addr) (m c:Nat) {c4:List J} (hl:c4.length=m*size) (AZ:∀j u,c4[j]? =some u->w.cell? (a.add j)=some u) (ad:∀u∈c4,u.oneCell'=true)
  (iE:n+m<=maxLen) (ly:(n+m)*bytes<=140737488355328) (ao:(Builtin.append_ #[t,t] ty #[v,.slice (some a) m c]).run P w= .ok aB w'):∀j,some j=aB.ownBlock->some j=v.ownBlock\/w.heap.size<=j:=by
 subst gD;subst jB;have Oi:n+m<=9223372036854775807:=by simp only [maxLen] at iE;omega
 rcases w6.2 with ⟨rfl,rfl⟩|⟨g,cap,cur,rfl,apu,aA,h9,JH,fZ,vm⟩
 ·by_cases hm:m=0
  ·subst hm
   have av:c4=[]:=List.eq_nil_of_length_eq_zero (by simpa using hl);subst av;have af:(Builtin.append_ #[t,t] ty #[.slice none 0 0,.slice (some a) 0 c]).run P w= .ok (.slice none 0 0) w:=by
    simp [Builtin.append_,run_underlying aK,sizeOf,typeInfo,ag,Builtin.lenOf,Builtin.firstCells,loadCells,loadCellsFrom]
   rw[af] at ao;cases ao;intro j hj;cases hj
  ·have af:=run_append_nil (P:=P) w t ty e i z aK ag bI a m c c4 hl AZ ar ar (by have ae:=ly;simp only [Nat.zero_add] at ae;omega)
   rw[af] at ao;cases ao;intro j hj;have:j=w.heap.size:=by simpa [Value.ownBlock] using hj
   exact .inr ar
 ·by_cases DM:n+m<=cap
  ·have qo:n*i.size+c4.length<=cur.size:=by rw[hl,fZ,<-Nat.add_mul];exact Nat.mul_le_mul_right _ DM
   have af:=run_append_room (P:=P) w t ty e i aK ag g n cap cur aA a m c c4 hl AZ ad DM qo;rw[af] at ao;cases ao;intro j hj;exact .inl hj
  ·have holds:∀j u,xs[j]? =some u->w.cell? ((⟨g,0,none⟩:Addr).add j)=some u:=w6.cells (g:=g) rfl
   have af:=run_append_grow (P:=P) w t ty e i z aK ag bI ⟨g,0,none⟩ n cap xs w6.1 holds a m c c4 hl AZ ar ar (growslice_fits ar ly);rw[af] at ao;cases ao;intro j hj;have:j=w.heap.size:=by simpa [Value.ownBlock] using hj
   exact .inr ar
theorem Oj {α:Type} {P:aR} {w:ax} {B:Nat} {M:Mem} {t ty e:aJ} {i:TypeInfo} {z:J} {k bytes:Nat} (aK:P.underlying t=some (.slice e)) (ag:P.info? e=some i) (bI:i.zero=some z) (gD:i.size=k) (jB:i.bytes=bytes) (lY:z.cells.size=k) (hK:0<k)
  {enc:α->List J} (aj:∀x,(enc x).length=k) (jV:∀x,∀u∈enc x,u.oneCell'=true) {v x:J} {l lx:List α} (cn:dm B M e k enc v l) (ak:r7 w k enc x lx) (hw:∀i o,M i=some o->w.heap[i]? =some o) (cC:B<=w.heap.size)
  (iE:l.length+lx.length<=maxLen) (ly:(l.length+lx.length)*bytes<=140737488355328):
  ∃aB w' M',(Builtin.append_ #[t,t] ty #[v,x]).run P w= .ok aB w'/\dm B M' e k enc aB (l++lx)/\Bu B M M' (eL v) w w'/\hk M M' (eL v):=by
 obtain⟨w7,c,rfl,yp,j4⟩:=ak;by_cases hm:lx=[]
 ·subst hm
  obtain⟨a,cap,rfl⟩:=cn.slice;have hle:l.length<=cap:=by
   rcases cn with ⟨aW,h,rfl⟩|⟨g,wL,cur,h,aM,ad,af,ay,_⟩
   ·exact Nat.zero_le _
   ·cases h;exact ay
  refine⟨_,w,M,Og aK ag hle,by rw[List.append_nil];exact cn,⟨cn.known,rfl,rfl,rfl,b2 _,b2 _,λ_ _ _=>rfl,λi o h=>⟨hw i o h,.inl (by rw[h];simp)⟩⟩,λi o h _=>h⟩
 ·cases w7 with
  |none=>exact absurd (yp rfl) hm
  |some gY=>
   have hlen:=ri aj lx;have tV:0<lx.length:=List.length_pos_iff.2 hm;have ad:∀u∈lx.flatMap enc,u.oneCell'=true:=λu hu=>by
    obtain⟨y,_,bq⟩:=List.mem_flatMap.1 hu;exact jV y u bq
   have fM:∀{v0:J},w.ownsRow B e k v0 l.length (l.flatMap enc)->(∀i,some i=v0.ownBlock->M i≠none/\B<=i)->∃aB w' M',(Builtin.append_ #[t,t] ty #[v0,.slice (some gY) lx.length c]).run P w= .ok aB w'/\dm B M' e k enc aB (l++lx)/\Bu B M M' v0.ownBlock w w'/\hk M M' v0.ownBlock:=by
    intro v0 n4 hd;obtain⟨aB,w',g1,g2,g3,_⟩:=run_append_own (P:=P) w B t ty e i z k bytes aK ag bI gD jB lY hK v0 l.length _ n4 gY lx.length c _ hlen (j4 gY rfl) ad iE ly cC;have gm:=Oh aK ag bI gD jB lY hK n4 gY lx.length c hlen (j4 gY rfl) ad iE ly g1;have af:w'.ownsRow B e k aB (l++lx).length ((l++lx).flatMap enc):=by rw[List.length_append,List.flatMap_append];exact g2
    obtain⟨q1,aE⟩:=ph (B:=B) (M:=M) (T:=v0.ownBlock) (eN:=aB.ownBlock) hw hd gm ⟨g3.os,g3.tape,g3.output⟩ (b2 _) g3.size g3.block;refine⟨aB,w',_,g1,(dm.Oe af).mono (b2 _) λi ag o ho=> ?_,q1,aE⟩;have:some i=aB.ownBlock:=Bt ag;unfold gP;rw[aQ this];exact ho
   by_cases aq:eL v=none
   ·rcases cn with ⟨a,rfl,rfl⟩|⟨g,cap,cur,rfl,aM,_⟩
    ·have e0:(Builtin.append_ #[t,t] ty #[.slice a 0 0,.slice (some gY) lx.length c]).run P w=(Builtin.append_ #[t,t] ty #[.slice none 0 0,.slice (some gY) lx.length c]).run P w:=by
      cases a with
      |none=>rfl
      |some a=>
       subst gD;subst jB;have Oi:lx.length<=9223372036854775807:=by simp only [maxLen,List.length_nil] at iE;omega
       have cJ:=run_append_nil (P:=P) w t ty e i z aK ag bI gY lx.length c _ hlen (j4 gY rfl) ar ar (by have ae:=ly;simp only [List.length_nil,Nat.zero_add] at ae;omega);have dk:=run_append_grow (P:=P) w t ty e i z aK ag bI a 0 0 [] (by simp) (λj u h=>by simp at h) gY lx.length c _ hlen (j4 gY rfl) ar ar (growslice_fits ar (by have ae:=ly;simp only [List.length_nil] at ae;exact ae));rw[cJ,dk];simp
     obtain⟨aB,w',M',q1,aE,ca,ey⟩:=fM (v0:= .slice none 0 0) (World.ownsRow_nil w B e k) (λi h=>by cases h);rw[aq];exact⟨aB,w',M',e0.trans q1,aE,ca,ey⟩
    ·exact absurd aq (by rw[nH _ _ aM];simp)
   ·have heq:eL v=v.ownBlock:=by
     cases h:eL v with
     |none=>exact absurd h aq
     |some i=>exact Bt h.symm
    have:=fM (v0:=v) (cn.row aj aq hw) (λi h=>cn.known i (by rw[heq];exact h));rw[heq];exact this
def qy (t:aJ):Option bO->Option (J×J)
 |some (.oper o _ ops s _)=>match o.op with
  | .call c=>match c.callee,c.args with
    | .builtin .append,⟨[nr,gG]⟩=>bif decide (c.argTypes= #[t,t]) then match q5 ops o s.sl with
      |some true=>some (dB .nil s.sl nr,dB .nil s.sl gG)
      |_=>none
      else none
    |_,_=>none
  |_=>none
 |_=>none
theorem Bv [cH] {α:Type} {P:aR} {N B:Nat} {w0:ax} {Q:Exit->Act->ax->Prop} {M:Mem} {bj:List J} {o:Option bO} {t e:aJ} {k bytes:Nat} {i:TypeInfo} {z vs jC ea:J} {enc:α->List J} {l lx l':List α} {bh:Option Addr->Nat->List J} {du dq:aG} {aV:List bw} {bG:eg}
  (fB:l'=l++lx) (h:qy t o=some (vs,jC)) (aK:P.underlying t=some (.slice e)) (ag:P.info? e=some i) (bI:i.zero=some z) (gD:i.size=k) (jB:i.bytes=bytes) (lY:z.cells.size=k) (hK:0<k) (aj:∀x,(enc x).length=k) (jV:∀x,∀u∈enc x,u.oneCell'=true)
  (cR:cq (b4 o) du aV=some bG) (dU:gX N du (je o) ea=some dq) (fV:aL ea=true) (T:Option Nat)
  (cn:∀φ w v,@bU (aS M bj) φ (b4 o).A w-> @aD (aS M bj) φ vs v->dm B M e k enc v l/\eL v=T)
  (iY:∀φ w x,@bU (aS M bj) φ (b4 o).A w-> @aD (aS M bj) φ jC x->r7 w k enc x lx)
  (iE:l.length+lx.length<=maxLen) (ly:(l.length+lx.length)*bytes<=140737488355328)
  (hm:∀M' a c,fj (aS M bj) (aS M' (bh a c)) bG) (aC:∀M' a c,@aI (aS M' (bh a c)) ea= .slice a l'.length c)
  (rest:∀M' a c,dm B M' e k enc (.slice a l'.length c) l'->hk M M' T->(∀i,some i=T->B<=i)->∀aW w,@Here (aS M' (bh a c)) _ N {sl:=dq,ms:=[],A:=dd aV} B w0 aW w->wpListIn (Fr none) 0 P (j7 o) (dK P (f_ o) Q) (j6 o) aW w)
  (av:cH.dV<=aV.length:=by first|exact Nat.zero_le _|exact gv rfl) (aq:hV (b4 o).A aV 0:=by exact gn rfl): @e_ (aS M bj) _ P N B w0 Q o:=by
 subst fB;letI:=aS M bj;unfold qy at h;split at h
 ·rename_i op r ops s ks
  refine⟨_,rfl,λa w ah=> ?_⟩;split at h
  ·rename_i c cm
   split at h
   ·rename_i nr gG pL gy
    cases hty:decide (c.argTypes= #[t,t]) with
    |false=>rw[hty] at h;cases h
    |true=>
     rw[hty,bx] at h;have yq:c.argTypes= #[t,t]:=of_decide_eq_true hty;split at h
     ·rename_i iJ
      cases h;have gA:=ah;obtain⟨⟨φ,ds,ad,af,ay,bD,_⟩,cD,cI⟩:=ah;unfold wpListIn;rw[n_ af.get iJ,aQ rfl];have es:=gq (hT φ) af.get nr;have ex:=gq (hT φ) af.get gG;obtain⟨JI,d_⟩:=cn φ w _ ay es;subst d_;have hw:∀i o,M i=some o->w.heap[i]? =some o:=gA.mN;obtain⟨aB,w',M',g1,g2,g3,g4⟩:=Oj (ty:=op.type) aK ag bI gD jB lY hK aj jV JI (iY φ w _ ay ex) hw cI iE ly;have e8:(execOp a.eval op).run P w= .ok (.value aB) w':=by
       unfold execOp resolve;rw[cm];simp only [pL,gy,yq,List.map_toArray,List.map_cons,List.map_nil];show (do pure (Next.value (<-Builtin.append_ #[t,t] op.type #[a.eval nr,a.eval gG])):Sem Next).run P w=_;simp only [Sem.run_bind,g1,Result.andThen_ok];rfl
      have fa:∀c',op.op≠.defer c':=λc' h=>by rw[cm] at h;cases h
      refine⟨λ_ _=>trivial,?_⟩;rw[Oper.semAt_eq _ _ _ fa,e8,Oper.uponIn_value];obtain⟨aW,c',rfl⟩:=g2.slice;have gZ:=Here.turns (vals':=bh aW c') cR (hm M' aW c') g3 av aq gA;letI:=aS M' (bh aW c');have ku:=Here.put (d:=op.dst) gZ fV dU;rw[aC M' aW c'] at ku;exact rest M' aW c' g2 g4 (λi ag=>(g3.known i ag).2) _ w' ku
     ·cases h
   ·cases h
  ·cases h
 ·cases h
theorem F1 {α:Type} {A:a'} {B:Nat} {M:Mem} {bj:List J} {e:aJ} {k:Nat} {enc:α->List J} {vs u:J} {l:List α} (hp:aL vs=true) (bp: @aI (aS M bj) vs=u) (cn:dm B M e k enc u l):∀φ w v,@bU (aS M bj) φ A w-> @aD (aS M bj) φ vs v->dm B M e k enc v l/\eL v=eL u:=λφ w v _ aC=>by
 letI:=aS M bj;rw[aD.ig vs hp aC,bp];exact⟨cn,rfl⟩
def We (A:a') (b:Nat):Bool:=match A.bl.get b with
 |some k=>Nat.beq k.eF 0&& !Nat.beq b dead
 |none=>false
theorem JJ {α:Type} {A:a'} {B:Nat} {M:Mem} {bj:List J} {e:aJ} {k:Nat} {enc:α->List J} {b o:Nat} (lC:We A b=true):∀φ w v,@bU (aS M bj) φ A w-> @aD (aS M bj) φ (.slice (some ⟨b,o,none⟩) 0 0) v->dm B M e k enc v ([]:List α)/\eL v=none:=λφ w v ao aC=>by
 letI:=aS M bj;unfold We at lC;split at lC
 ·rename_i eK aj
  simp only [cV,Bool.not_eq_true'] at lC;cases aC with
  |iH aW h=>exact absurd lC.2 (by simp)
  |ia _ _ h=>exact⟨dm.nil _ _ _ _ _ _,FY _ _⟩
  |ib _ _ c' h aw aq hl=>
   obtain⟨k',ad,af,_⟩:=ao.eo _ _ h;rw[aj] at ad;cases ad;have:=cA lC.1;omega
 ·cases lC
theorem Bw {α:Type} {M:Mem} {bj:List J} {A:a'} {k:Nat} {enc:α->List J} {jC u:J} {lx:List α} (hp:aL jC=true) (bp: @aI (aS M bj) jC=u) (iY:∀w,(∀i o,M i=some o->w.heap[i]? =some o)->r7 w k enc u lx):∀φ w x,@bU (aS M bj) φ A w-> @aD (aS M bj) φ jC x->r7 w k enc x lx:=λφ w x ao aC=>by
 letI:=aS M bj;rw[aD.ig jC hp aC,bp];exact iY w λi o h=>(ao.df i o h).1
def Bx (A:a') (k:Nat):J->Option (List J)
 | .slice (some ⟨b,off,none⟩) m _=>match A.rR b off (m*k) with
   |some bj=>bif dP bj&&(bj.all xT&&(Nat.blt 0 m&&Nat.beq bj.length (m*k))) then some bj else none
   |none=>none
 |_=>none
theorem DN {α:Type} {M:Mem} {bj:List J} {A:a'} {k:Nat} {enc:α->List J} {jC:J} {cs:List J} {lx:List α} (h:Bx A k jC=some cs) (aj:∀x,(enc x).length=k) (hK:0<k) (he: @ew (aS M bj) cs=lx.flatMap enc):∀φ w x,@bU (aS M bj) φ A w-> @aD (aS M bj) φ jC x->r7 w k enc x lx:=λφ w x ao aC=>by
 letI:=aS M bj;unfold Bx at h;split at h
 ·rename_i b off m apv
  split at h
  ·rename_i vs hl
   cases hp:(dP vs&&(vs.all xT&&(Nat.blt 0 m&&Nat.beq vs.length (m*k)))) with
   |false=>rw[hp] at h;cases h
   |true=>
    rw[hp,bx,cE] at h;subst h;simp only [cV] at hp;obtain⟨gO,pc,q7,sR⟩:=hp;have hm:0<m:=Nat.blt_eq.mp q7;have hlen:vs.length=m*k:=cA sR;have rW:m=lx.length:=by
     have ad:=congrArg List.length he;rw[x3,hlen,ri aj] at ad;exact Nat.eq_of_mul_eq_mul_right hK ad
    have AX:∃ee Wf,φ b=some ee/\x= .slice (some ⟨ee.bk,ee.sh+off,none⟩) m Wf:=by
     cases aC with
     |iH aW h=>exact absurd hm ar
     |ia _ _ h=>exact⟨_,_,h,rfl⟩
     |ib _ _ c' h _ _ _=>exact⟨_,_,h,rfl⟩
    obtain⟨ee,Wf,ae,rfl⟩:=AX;refine⟨_,_,by rw[rW],(λh=>by cases h),λgY had j u hj=> ?_⟩;cases had;rw[<-he] at hj;obtain⟨q1,aE⟩:=AW hl;have kp:j<vs.length:=by
     have:=(List.getElem?_eq_some_iff.1 hj).1
     rwa [x3] at this
    obtain⟨aB,g1,g2⟩:=u6 ao (aE j ar) ae;rw[Addr.kc,Nat.add_assoc,g1];have wE:aL (vs.getD j undef)=true:=by
     rw[dh,fA kp];exact Wb gO (List.getElem_mem kp)
    rw[aD.ig _ wE g2];rw[Na,List.getElem?_map,fA kp] at hj;rw[dh,fA kp];simpa using hj
  ·cases h
 ·cases h
def gH:Option bO->Array Oper
 |some (.draw _ ops _ _)=>ops
 |_=> #[]
theorem zO {n:Nat} (h:n<=1000000):n<=maxLen:=Nat.le_trans h (by unfold maxLen;decide)
theorem cu.isNil {α:Type} {M:Mem} {k:Nat} {enc:α->List J} {n c:Nat} {l:List α} (h:cu M k enc (.slice none n c) l):l=[]:=by cases h;rfl
theorem JK {α:Type} {B:Nat} {M:Mem} {e:aJ} {k:Nat} {enc:α->List J} {l:List α} (h:l=[]):∃a c,Ending.returned (.slice none 0 0)= .returned (.slice a l.length c)/\dm B M e k enc (.slice a l.length c) l:=by
 subst h;exact⟨none,0,rfl,dm.nil _ _ _ _ _ _⟩
theorem By {α:Type} {B:Nat} {M:Mem} {e:aJ} {k:Nat} {enc:α->List J} {l b:List α} {a:Option Addr} {c:Nat} {w:ax} (cn:dm B M e k enc (.slice a b.length c) b) (ae:b=l) (ag:∀i o,M i=some o->w.heap[i]? =some o):∃aW c',Ending.returned (.slice a b.length c)= .returned (.slice aW l.length c')/\dm B (aF w) e k enc (.slice aW l.length c') l:=by
 subst ae;exact⟨a,c,rfl,cn.mono (b2 _) λi _ o ho=>ag i o ho⟩
section
variable [a7] {P:aR}
omit [a7] in
theorem Wg {op:BinOp} {t e:aJ} (aK:P.underlying t=some (.slice e)) (a:Option Addr) (n c:Nat) (dF dG:Operand) (w:ax) (cm:op= .eql\/op= .neq):
  (fF dF dG (.bin op t (.slice a n c) (.slice none 0 0))).run P w= .ok (.value (.bool (if op= .eql then a.isNone else !a.isNone))) w:=by
 have he:(Op.equal t (.slice a n c) (.slice none 0 0)).run P w= .ok a.isNone w:=by
  unfold Op.equal Op.maxDepth;exact Lib.run_equalIn_slice_nil w 9999 t e a n c 0 0 aK
 rcases cm with rfl|rfl<;>unfold fF<;>simp [eqGuard,binOp,he]
theorem aT.JL {t e:aJ} {x:J} {a:Option Addr} {n c:Nat} (ak:aL x=true) (aK:P.underlying t=some (.slice e)) (ex:aI x= .slice a n c) (h:a=none):aT P (.bin .eql t x (.slice none 0 0),.bool true):=
 uy ak U U ex rfl λdF dG w=>(Wg aK a n c dF dG w (.inl rfl)).trans (by rw[h];rfl)
theorem aT.JM {t e:aJ} {x:J} {a:Option Addr} {n c:Nat} (ak:aL x=true) (aK:P.underlying t=some (.slice e)) (ex:aI x= .slice a n c) (h:¬a=none):aT P (.bin .eql t x (.slice none 0 0),.bool false):=
 uy ak U U ex rfl λdF dG w=>(Wg aK a n c dF dG w (.inl rfl)).trans (by
  cases a with
  |none=>exact absurd rfl h
  |some a=>rfl)
end
end AE
namespace AE
theorem Ok {α:Type} {k:Nat} {enc:α->List J} (aj:∀x,(enc x).length=k):∀(l:List α) (j:Nat),(l.take j).flatMap enc=(l.flatMap enc).take (j*k)
 |[],j=>by simp
 |x::r,0=>by simp
 |x::r,j+1=>by
  have ad:(enc x).take ((j+1)*k)=enc x:=List.take_of_length_le (by rw[aj,Nat.add_mul];omega);rw[List.take_succ_cons,List.flatMap_cons,List.flatMap_cons,Ok aj r j,List.take_append,ad,aj,show (j+1)*k-k=j*k by rw[Nat.add_mul];omega]
theorem Ol {α:Type} {k:Nat} {enc:α->List J} (aj:∀x,(enc x).length=k):∀(l:List α) (j:Nat),(l.drop j).flatMap enc=(l.flatMap enc).drop (j*k)
 |[],j=>by simp
 |x::r,0=>by simp
 |x::r,j+1=>by
  have ad:(enc x).drop ((j+1)*k)=[]:=List.drop_eq_nil_of_le (by rw[aj,Nat.add_mul];omega);rw[List.drop_succ_cons,List.flatMap_cons,Ol aj r j,List.drop_append,ad,aj,List.nil_append,show (j+1)*k-k=j*k by rw[Nat.add_mul];omega]
def k1 (a:Option Addr) (c j k:Nat):Option Addr:=if c=j then a else a.map λa=>a.add (j*k)
section
variable {α:Type} {B:Nat} {M:Mem} {e:aJ} {k:Nat} {enc:α->List J} {a:Option Addr} {c:Nat} {l:List α}
theorem cu.take {j n:Nat} (h:cu M k enc (.slice a n c) l) (hj:j<=n):cu M k enc (.slice a j c) (l.take j):=by
 obtain rfl:n=l.length:=by obtain⟨_,_,af⟩:=h.slice;cases af;rfl
 generalize aC:Value.slice a l.length c=v at h;have hlen:(l.take j).length=j:=by rw[List.length_take];omega
 cases h with
 |nil aW c'=>
  have:j=0:=by simpa using hj
  subst this;exact .nil _ _
 |mk ad af ay=>
  cases aC;have:=cu.mk (enc:=enc) (k:=k) (l:=l.take j) (c:=c) ad (by rw[hlen];omega) λi x ak u w hw=>by
   rw[List.getElem?_take] at ak;split at ak
   ·exact ay i x ak u w hw
   ·cases ak
  rw[hlen] at this;exact this
theorem cu.drop {j n:Nat} (h:cu M k enc (.slice a n c) l) (hj:j<=n):cu M k enc (.slice (k1 a c j k) (n-j) (c-j)) (l.drop j):=by
 obtain rfl:n=l.length:=by obtain⟨_,_,af⟩:=h.slice;cases af;rfl
 have hlen:(l.drop j).length=l.length-j:=List.length_drop;rcases Nat.lt_or_ge j l.length with b8|ko
 ·generalize aC:Value.slice a l.length c=v at h
  cases h with
  |nil aW c'=>simp at b8
  |mk ad af ay=>
   rename_i b off c' cs ty fr;cases aC;have bc:k1 (some ⟨b,off,none⟩) c j k=some ⟨b,off+j*k,none⟩:=by
    unfold k1;rw[aU ar];simp only [Option.map_some,Addr.kc]
   rw[bc];have:=cu.mk (enc:=enc) (k:=k) (l:=l.drop j) (off:=off+j*k) (c:=c-j) ad (by rw[hlen];omega) λi x ak u w hw=>by
    rw[List.getElem?_drop] at ak;have:=ay (j+i) x ak u w hw;rw[Nat.add_mul] at this;rw[<-this];congr 1;omega
   rw[hlen] at this;exact this
 ·have aM:l.length-j=0:=by omega
  rw[aM,List.drop_eq_nil_of_le ko];exact .nil _ _
theorem dm.take (aj:∀x,(enc x).length=k) {j n:Nat} (h:dm B M e k enc (.slice a n c) l) (hj:j<=l.length):dm B M e k enc (.slice a j c) (l.take j):=by
 have hlen:(l.take j).length=j:=by rw[List.length_take];omega
 rcases h with ⟨aW,aM,rfl⟩|⟨g,cap,cur,aM,ad,af,ay,bD,cD,cI,fK⟩
 ·cases aM
  have:j=0:=by simpa using hj
  subst this;exact .inl ⟨_,rfl,rfl⟩
 ·cases aM
  refine .inr ⟨g,c,cur,by rw[hlen],ad,af,ay,by rw[hlen];omega,cD,cI,?_⟩;rw[hlen];have o8:(cur.toList.take (l.length*k)).take (j*k)=(l.flatMap enc).take (j*k):=by rw[fK]
  rw[List.take_take,Nat.min_eq_left (Nat.mul_le_mul_right k hj)] at o8;rw[o8,Ok aj]
theorem afQ {v:J} {w:ax} (aj:∀x,(enc x).length=k) (jV:∀x,∀u∈enc x,u.oneCell'=true) (lC:dm B M e k enc v l) (hw:∀i o,M i=some o->w.heap[i]? =some o) (aM:0<l.length) (i:Nat) (xs:List α) (ag:i+xs.length<=l.length):
  ∃g c w',v= .slice (some ⟨g,0,none⟩) l.length c/\l.length<=c/\(∀P,(storeCells ⟨g,i*k,none⟩ (xs.flatMap enc)).run P w= .ok () w')/\∃M',dm B M' e k enc v (l.take i++xs++l.drop (i+xs.length))/\Bu B M M' (eL v) w w'/\hk M M' (eL v):=by
 rcases lC with ⟨a,rfl,rfl⟩|⟨g,cap,cur,rfl,ke,w8,bn,w9,JH,fZ,vm⟩
 ·exact absurd aM (by simp)
 ·have aA:=hw _ _ bn
  have yr:=ri aj xs;have Nz:i*k+xs.length*k<=l.length*k:=by rw[<-Nat.add_mul];exact Nat.mul_le_mul_right k ag
  have Dm:l.length*k<=cur.size:=by rw[fZ];exact Nat.mul_le_mul_right k w9
  have ad:∀u∈xs.flatMap enc,u.oneCell'=true:=λu hu=>by
   obtain⟨y,_,bq⟩:=List.mem_flatMap.1 hu;exact jV y u bq
  let fH:Array J:=(cur.toList.take (i*k)++xs.flatMap enc++cur.toList.drop (i*k+(xs.flatMap enc).length)).toArray
  have e8:∀P,(storeCells ⟨g,i*k,none⟩ (xs.flatMap enc)).run P w= .ok () (w.setRow g fH):=λP=>by
   have:=run_storeCells_at P g (i*k) e (xs.flatMap enc) 0 cur w aA (by rw[yr];omega) ad;simpa only [Nat.add_zero] using this
  have cl:fH.size=cap*k:=by
   show (cur.toList.take (i*k)++xs.flatMap enc++cur.toList.drop (i*k+(xs.flatMap enc).length)).toArray.size=_;simp only [List.size_toArray,List.length_append,List.length_take,List.length_drop,Array.length_toList,yr];omega
  obtain⟨q1,aE⟩:=ph (B:=B) (M:=M) (w':=w.setRow g fH) (T:=some g) (eN:=some g) hw (λi ag=>by cases ag;exact⟨by rw[bn];simp,w8⟩) (λi ag=> .inl ag) ⟨rfl,rfl,rfl⟩ (b2 _) (by simp [World.setRow]) (λj _ hj=>setRow_other w g j fH (λh=>hj (by rw[h])));have Om:(l.take i++xs++l.drop (i+xs.length)).length=l.length:=by
   simp only [List.length_append,List.length_take,List.length_drop];omega
  refine⟨g,cap,w.setRow g fH,rfl,w9,e8,?_⟩;rw[nH _ _ ke];refine⟨_,.inr ⟨g,cap,fH,by rw[Om],ke,w8,?_,by rw[Om];exact w9,JH,cl,?_⟩,q1,aE⟩
  ·unfold gP
   rw[aQ rfl];exact setRow_heap w g cur fH e (0,0) aA
  ·rw[Om,List.flatMap_append,List.flatMap_append,Ok aj,Ol aj,<-vm]
   show (cur.toList.take (i*k)++xs.flatMap enc++cur.toList.drop (i*k+(xs.flatMap enc).length)).take (l.length*k)=_;have l1:(cur.toList.take (i*k)++xs.flatMap enc).length=i*k+xs.length*k:=by
    rw[List.length_append,List.length_take,Array.length_toList,yr,Nat.min_eq_left ar]
   rw[yr,List.take_append,l1,List.take_of_length_le (by rw[l1];exact Nz),List.take_take,Nat.min_eq_left ar,Nat.add_mul,List.drop_take]
end
section
variable [a7] {P:aR}
omit [a7] in
theorem afR (a:Addr) (n:Nat):a.add (0*n)=a:=by
 rw[Nat.zero_mul];cases a;simp [Addr.add]
omit [a7] in
theorem afS {t e:aJ} {bb:Nat} (aK:P.underlying t=some (.slice e)) (cl:bd P (sizeOf e)=some bb) (a:Option Addr) (n c j:Nat) (hj:j<=n) (w:ax):
  (Instr.sliceAt t (.slice a n c) (some (.int .i64 j)) none none).run P w= .ok (.slice (k1 a c j bb) (n-j) (c-j)) w:=by
 have ae:(Instr.sliceBound (.int .i64 (j:Int)) n .sliceB).run P w= .ok j w:=by
  have:=run_sliceBound (P:=P) (w:=w) .i64 (j:Int) n .sliceB ar ar;simpa using this
 simp [Instr.sliceAt,Instr.slice,run_underlying aK,Instr.sliceBounds,ae,jc cl w,k1]
omit [a7] in
theorem afT {t e:aJ} {bb:Nat} (aK:P.underlying t=some (.slice e)) (cl:bd P (sizeOf e)=some bb) (a:Option Addr) (n c j:Nat) (hj:j<=c) (w:ax):
  (Instr.sliceAt t (.slice a n c) none (some (.int .i64 j)) none).run P w= .ok (.slice a j c) w:=by
 have ae:(Instr.sliceBound (.int .i64 (j:Int)) c .sliceAcap).run P w= .ok j w:=by
  have:=run_sliceBound (P:=P) (w:=w) .i64 (j:Int) c .sliceAcap ar ar;simpa using this
 simp [Instr.sliceAt,Instr.slice,run_underlying aK,Instr.sliceBounds,ae,jc cl w];intro _;cases a with
 |none=>rfl
 |some a=>
  have:=afR a bb;rw[Nat.zero_mul] at this;simpa using this
theorem aT.Wh {t e:aJ} {bb:Nat} {x i r:J} {a:Option Addr} {n c j:Nat} (ak:aL x=true) (ag:aL i=true) (ao:aL r=true) (aK:P.underlying t=some (.slice e)) (cl:bd P (sizeOf e)=some bb) (ex:aI x= .slice a n c) (gp:aI i= .int .i64 (j:Int)) (hj:j<=n)
  (b1:aI r= .slice (k1 a c j bb) (n-j) (c-j)):aT P (.lV t x (some i) none none,r):=by
 refine⟨by simp [np,plainO,ak,ag],ao,λdF dG w _=> ?_⟩;show (fF dF dG (.lV t (aI x) (some (aI i)) none none)).run P w=_;rw[ex,gp,b1];unfold fF;simp only [Sem.run_bind,afS aK cl a n c j hj w,Result.andThen_ok];rfl
theorem aT.afU {t e:aJ} {bb:Nat} {x i r:J} {a:Option Addr} {n c j:Nat} (ak:aL x=true) (ag:aL i=true) (ao:aL r=true) (aK:P.underlying t=some (.slice e)) (cl:bd P (sizeOf e)=some bb) (ex:aI x= .slice a n c) (gp:aI i= .int .i64 (j:Int)) (hj:j<=c)
  (b1:aI r= .slice a j c):aT P (.lV t x none (some i) none,r):=by
 refine⟨by simp [np,plainO,ak,ag],ao,λdF dG w _=> ?_⟩;show (fF dF dG (.lV t (aI x) none (some (aI i)) none)).run P w=_;rw[ex,gp,b1];unfold fF;simp only [Sem.run_bind,afT aK cl a n c j hj w,Result.andThen_ok];rfl
end
def oM:Option bO->Option (aJ×J×J)
 |some (.oper o _ ops s _)=>match o.op with
  | .store t od gG=>match q5 ops o s.sl with
    |some true=>some (t,dB .nil s.sl od,dB .nil s.sl gG)
    |_=>none
  |_=>none
 |_=>none
theorem afV [cH] {α:Type} {P:aR} {N B:Nat} {w0:ax} {Q:Exit->Act->ax->Prop} {M:Mem} {bj bh:List J} {o:Option bO} {t e:aJ} {k:Nat} {p x u:J} {enc:α->List J} {l l':List α} {i:Nat} {y:α} {du dq:aG} {aV:List bw} {bG:eg}
  (fB:l'=l.set i y) (h:oM o=some (t,p,x)) (cl:bd P (sizeOf t)=some k) (aj:∀x,(enc x).length=k) (jV:∀x,∀u∈enc x,u.oneCell'=true)
  (cR:cq (b4 o) du aV=some bG) (dU:gX N du (je o) undef=some dq) (hp:aL p=true) (ak:aL x=true) (lZ: @aI (aS M bj) p=hW u (i*k)) (ex: @aI (aS M bj) x= .agg ⟨enc y⟩)
  (cn:dm B M e k enc u l) (ag:i<l.length) (hm:∀M',fj (aS M bj) (aS M' bh) bG)
  (rest:∀M',dm B M' e k enc u l'->hk M M' (eL u)->∀aW w,@Here (aS M' bh) _ N {sl:=dq,ms:=[],A:=dd aV} B w0 aW w->wpListIn (Fr none) 0 P (j7 o) (dK P (f_ o) Q) (j6 o) aW w)
  (av:cH.dV<=aV.length:=by first|exact Nat.zero_le _|exact gv rfl) (aq:hV (b4 o).A aV 0:=by exact gn rfl): @e_ (aS M bj) _ P N B w0 Q o:=by
 letI:=aS M bj;unfold oM at h;split at h
 ·rename_i op r ops s ks
  refine⟨_,rfl,λa w ah=> ?_⟩;split at h
  ·rename_i da od gG cm
   split at h
   ·rename_i iJ
    cases h;have gA:=ah;obtain⟨⟨φ,ds,ad,af,ay,bD,_⟩,cD,cI⟩:=ah;unfold wpListIn;rw[n_ af.get iJ,aQ rfl];have es:a.eval od=hW u (i*k):=(aD.ig _ hp (gq (hT φ) af.get od)).trans lZ;have nI:a.eval gG= .agg ⟨enc y⟩:=(aD.ig _ ak (gq (hT φ) af.get gG)).trans ex;have hw:∀i o,M i=some o->w.heap[i]? =some o:=gA.mN;obtain⟨g,c,w',rfl,w9,afW,M',g2,g3,g4⟩:=afQ aj jV cn hw ar i [y] (by simp only [List.length_cons,List.length_nil];omega);have e9:l.take i++[y]++l.drop (i+[y].length)=l.set i y:=by
     rw[List.set_eq_take_append_cons_drop,aQ ag];simp
    rw[e9,<-fB] at g2;have e8:(execOp a.eval op).run P w= .ok .skip w':=by
     unfold execOp;rw[cm];simp only [es,nI];show (do Instr.storeAt t (hW (.slice (some ⟨g,0,none⟩) l.length c) (i*k)) (.agg ⟨enc y⟩);pure Next.skip:Sem Next).run P w=_;have cP:(Instr.storeAt t (hW (.slice (some ⟨g,0,none⟩) l.length c) (i*k)) (.agg ⟨enc y⟩)).run P w= .ok () w':=by
      unfold Instr.storeAt;refine cQ (a:=(⟨g,0+i*k,none⟩:Addr)) rfl ?_;unfold storeVar;refine cQ cl ?_;rw[aU (by simp [Value.cells,aj])];have:=afW P;rw[List.flatMap_cons,List.flatMap_nil,List.append_nil] at this;rw[Nat.zero_add];exact this
     simp only [Sem.run_bind,cP,Result.andThen_ok];rfl
    have fa:∀c',op.op≠.defer c':=λc' h=>by rw[cm] at h;cases h
    refine⟨λ_ _=>trivial,?_⟩;rw[Oper.semAt_eq _ _ _ fa,e8,Oper.uponIn_skip];have gZ:=Here.turns (vals':=bh) cR (hm M') g3 av aq gA;letI:=aS M' bh;exact rest M' g2 g4 _ w' (Here.put (d:=op.dst) gZ (v:=undef) rfl dU)
   ·cases h
  ·cases h
 ·cases h
theorem Wi [a7] {P:aR} {f:FuncId} {fn:Func} {c:Code} {args:List J} {sl:aG} {N:Nat} {W:ax} {R:Ending->ax->Prop} (mM:P.funcs[f]? =some fn) (aq:fn.body=some c) (gw:setArgs 0 args .nil=some sl) (hp:dP args=true)
  (j5:args.length+(fn.ntmps-args.length)=N) (pg:n' W) (rb:∀a,@Here _ fG N {sl,ms:=[],A:=start} 0 W a W->c.wpIn (Fr none) 0 P (@rf fG P fn N 0 W R) a W):Calls P f ⟨ew args⟩ W R:=by
 subst j5;letI:=fG;exact N6 mM aq gw (VU pg) (λb e h=>by cases h) (vq.none _ _) ⟨by simp [x3],λj hj=>by simpa using aD.A' (λ_=>none) args hp j hj⟩ (cb.refl _ _) (Nat.zero_le _) rb
theorem dm.cap {α:Type} {B:Nat} {M:Mem} {e:aJ} {k:Nat} {enc:α->List J} {a:Option Addr} {n c:Nat} {l:List α} (h:dm B M e k enc (.slice a n c) l):n<=c:=by
 rcases h with ⟨aW,aM,rfl⟩|⟨g,cap,cur,aM,ad,af,ay,bD,cD,cI,fK⟩
 ·cases aM;exact b2 _
 ·cases aM;exact bD
end AE
end Go.Proofs.YtepcfjbfkedlpaaDoor
namespace Go.Proofs.YtepcfjbfkedlpaaDoor
open Go Go.Proofs Go.RowKit
namespace AE
theorem Wj {α:Type} {P:aR} {w:ax} {B:Nat} {M:Mem} {t ty e:aJ} {i:TypeInfo} {z:J} {k bytes:Nat} (aK:P.underlying t=some (.slice e)) (ag:P.info? e=some i) (bI:i.zero=some z) (gD:i.size=k) (jB:i.bytes=bytes) (lY:z.cells.size=k) (hK:0<k)
  {enc:α->List J} (aj:∀x,(enc x).length=k) (jV:∀x,∀u∈enc x,u.oneCell'=true) {v x:J} {l lx:List α} (cn:dm B M e k enc v l) (ak:r7 w k enc x lx) (hw:∀i o,M i=some o->w.heap[i]? =some o)
  (iE:l.length+lx.length<=maxLen) (ly:(l.length+lx.length)*bytes<=140737488355328) {aB:J} {w':ax} (ao:(Builtin.append_ #[t,t] ty #[v,x]).run P w= .ok aB w'):
  ∀j,some j=eL aB->some j=eL v\/w.heap.size<=j:=by
 obtain⟨w7,c,rfl,yp,j4⟩:=ak;by_cases hm:lx=[]
 ·subst hm
  obtain⟨a,cap,rfl⟩:=cn.slice;have hle:l.length<=cap:=by
   rcases cn with ⟨aW,h,rfl⟩|⟨g,wL,cur,h,aM,ad,af,ay,_⟩
   ·exact Nat.zero_le _
   ·cases h;exact ay
  have af:=Og (P:=P) (w:=w) (ty:=ty) (a:=a) (b:=w7) (c:=c) aK ag hle;cases af.symm.trans ao;exact λj h=> .inl h
 ·cases w7 with
  |none=>exact absurd (yp rfl) hm
  |some gY=>
   have hlen:=ri aj lx;have ad:∀u∈lx.flatMap enc,u.oneCell'=true:=λu hu=>by
    obtain⟨y,_,bq⟩:=List.mem_flatMap.1 hu;exact jV y u bq
   by_cases aq:eL v=none
   ·rcases cn with ⟨a,rfl,rfl⟩|⟨g,cap,cur,rfl,aM,_⟩
    ·have e0:(Builtin.append_ #[t,t] ty #[.slice a 0 0,.slice (some gY) lx.length c]).run P w=(Builtin.append_ #[t,t] ty #[.slice none 0 0,.slice (some gY) lx.length c]).run P w:=by
      cases a with
      |none=>rfl
      |some a=>
       subst gD;subst jB;have Oi:lx.length<=9223372036854775807:=by simp only [maxLen,List.length_nil] at iE;omega
       have tV:0<lx.length:=List.length_pos_iff.2 hm;have cJ:=run_append_nil (P:=P) w t ty e i z aK ag bI gY lx.length c _ hlen (j4 gY rfl) ar ar (by have ae:=ly;simp only [List.length_nil,Nat.zero_add] at ae;omega);have dk:=run_append_grow (P:=P) w t ty e i z aK ag bI a 0 0 [] (by simp) (λj u h=>by simp at h) gY lx.length c _ hlen (j4 gY rfl) ar ar (growslice_fits ar (by have ae:=ly;simp only [List.length_nil] at ae;exact ae));rw[cJ,dk];simp
     have av:=Oh aK ag bI gD jB lY hK (World.ownsRow_nil w B e k) gY lx.length c hlen (j4 gY rfl) ad iE ly (e0.symm.trans ao);intro j hj;rcases av j (Bt hj) with h|h
     ·cases h
     ·exact .inr h
    ·exact absurd aq (by rw[nH _ _ aM];simp)
   ·have heq:eL v=v.ownBlock:=by
     cases h:eL v with
     |none=>exact absurd h aq
     |some i=>exact Bt h.symm
    have av:=Oh aK ag bI gD jB lY hK (cn.row aj aq hw) gY lx.length c hlen (j4 gY rfl) ad iE ly ao;intro j hj;rw[heq];exact av j (Bt hj)
theorem Wk [cH] {α:Type} {P:aR} {N B:Nat} {w0:ax} {Q:Exit->Act->ax->Prop} {M:Mem} {bj:List J} {o:Option bO} {t e:aJ} {k bytes:Nat} {i:TypeInfo} {z vs jC ea:J} {enc:α->List J} {l lx l':List α} {bh:Option Addr->Nat->List J} {du dq:aG} {aV:List bw} {bG:eg}
  (fB:l'=l++lx) (h:qy t o=some (vs,jC)) (aK:P.underlying t=some (.slice e)) (ag:P.info? e=some i) (bI:i.zero=some z) (gD:i.size=k) (jB:i.bytes=bytes) (lY:z.cells.size=k) (hK:0<k) (aj:∀x,(enc x).length=k) (jV:∀x,∀u∈enc x,u.oneCell'=true)
  (cR:cq (b4 o) du aV=some bG) (dU:gX N du (je o) ea=some dq) (fV:aL ea=true) (T:Option Nat)
  (cn:∀φ w v,@bU (aS M bj) φ (b4 o).A w-> @aD (aS M bj) φ vs v->dm B M e k enc v l/\eL v=T)
  (iY:∀φ w x,@bU (aS M bj) φ (b4 o).A w-> @aD (aS M bj) φ jC x->r7 w k enc x lx)
  (iE:l.length+lx.length<=maxLen) (ly:(l.length+lx.length)*bytes<=140737488355328)
  (hm:∀M' a c,fj (aS M bj) (aS M' (bh a c)) bG) (aC:∀M' a c,@aI (aS M' (bh a c)) ea= .slice a l'.length c)
  (rest:∀M' a c,dm B M' e k enc (.slice a l'.length c) l'->hk M M' T->(∀i,some i=T->B<=i)->(∀i,some i=eL (.slice a l'.length c)->some i=T\/M i=none)->∀aW w,@Here (aS M' (bh a c)) _ N {sl:=dq,ms:=[],A:=dd aV} B w0 aW w->wpListIn (Fr none) 0 P (j7 o) (dK P (f_ o) Q) (j6 o) aW w)
  (av:cH.dV<=aV.length:=by first|exact Nat.zero_le _|exact gv rfl) (aq:hV (b4 o).A aV 0:=by exact gn rfl): @e_ (aS M bj) _ P N B w0 Q o:=by
 subst fB;letI:=aS M bj;unfold qy at h;split at h
 ·rename_i op r ops s ks
  refine⟨_,rfl,λa w ah=> ?_⟩;split at h
  ·rename_i c cm
   split at h
   ·rename_i nr gG pL gy
    cases hty:decide (c.argTypes= #[t,t]) with
    |false=>rw[hty] at h;cases h
    |true=>
     rw[hty,bx] at h;have yq:c.argTypes= #[t,t]:=of_decide_eq_true hty;split at h
     ·rename_i iJ
      cases h;have gA:=ah;obtain⟨⟨φ,ds,ad,af,ay,bD,_⟩,cD,cI⟩:=ah;unfold wpListIn;rw[n_ af.get iJ,aQ rfl];have es:=gq (hT φ) af.get nr;have ex:=gq (hT φ) af.get gG;obtain⟨JI,d_⟩:=cn φ w _ ay es;subst d_;have hw:∀i o,M i=some o->w.heap[i]? =some o:=gA.mN;obtain⟨aB,w',M',g1,g2,g3,g4⟩:=Oj (ty:=op.type) aK ag bI gD jB lY hK aj jV JI (iY φ w _ ay ex) hw cI iE ly;have zn:=Wj aK ag bI gD jB lY hK aj jV JI (iY φ w _ ay ex) hw iE ly g1;have e8:(execOp a.eval op).run P w= .ok (.value aB) w':=by
       unfold execOp resolve;rw[cm];simp only [pL,gy,yq,List.map_toArray,List.map_cons,List.map_nil];show (do pure (Next.value (<-Builtin.append_ #[t,t] op.type #[a.eval nr,a.eval gG])):Sem Next).run P w=_;simp only [Sem.run_bind,g1,Result.andThen_ok];rfl
      have fa:∀c',op.op≠.defer c':=λc' h=>by rw[cm] at h;cases h
      refine⟨λ_ _=>trivial,?_⟩;rw[Oper.semAt_eq _ _ _ fa,e8,Oper.uponIn_value];obtain⟨aW,c',rfl⟩:=g2.slice;have gZ:=Here.turns (vals':=bh aW c') cR (hm M' aW c') g3 av aq gA;letI:=aS M' (bh aW c');have ku:=Here.put (d:=op.dst) gZ fV dU;rw[aC M' aW c'] at ku;exact rest M' aW c' g2 g4 (λi ag=>(g3.known i ag).2) (λi ag=>(zn i ag).imp id λaw=>by
       cases bn:M i with
       |none=>rfl
       |some o=>
        have:=(Array.getElem?_eq_some_iff.1 (hw i o bn)).1
        omega) _ w' ku
     ·cases h
   ·cases h
  ·cases h
 ·cases h
end AE
end Go.Proofs.YtepcfjbfkedlpaaDoor
namespace Go.Proofs.YtepcfjbfkedlpaaDoor
open Go Go.RowKit
namespace AE
abbrev fy:=List UInt8
def cr (l:fy):J:= .string ⟨l.toArray⟩
variable [a7]
section
variable {P:aR}
omit [a7] in
theorem On (l:fy):(⟨l.toArray⟩:ByteArray).size=l.length:=by simp [ByteArray.size]
theorem zP {f:fW} {r:J} (aO:np f=true) (ao:aL r=true) (av:Db f=false) (h:∀dF dG w,n' w->(fF dF dG (x5 f)).run P w= .ok (.value (aI r)) w):aT P (f,r):=by
 refine⟨aO,ao,?_⟩;simp only [av];exact h
theorem F2 {f:fW} {r:J} (aO:np f=true) (ao:aL r=true) (av:Db f=true) (h:∀dF dG w,(fF dF dG (x5 f)).run P w= .ok (.value (aI r)) w):aT P (f,r):=by
 refine⟨aO,ao,?_⟩;simp only [av];exact h
theorem aT.ez {x:J} {b:Bool} (ak:aL x=true) (h:aI x= .bool b):aT P (.ez x,.bool b):=by
 refine⟨ak,rfl,?_⟩;show ∀dF dG w,(fF dF dG (.ez (aI x))).run P w=_;intro dF dG w;rw[h];rfl
theorem aT.zQ {t ty:aJ} {x r:J} {l:fy} (ak:aL x=true) (ao:aL r=true) (aK:P.underlying t=some .string) (ex:aI x=cr l) (b1:aI r= .int .i64 l.length):aT P (.len #[t] ty x,r):=by
 refine F2 ak ao rfl λdF dG w=> ?_
 show (fF dF dG (.len #[t] ty (aI x))).run P w=_;rw[ex,b1];unfold fF cr;simp only [Sem.run_bind,run_len_string w t ty _ aK,Result.andThen_ok,On];rfl
theorem aT.Bz {t:aJ} {x i r:J} {l:fy} {j:Nat} {k:IntKind} (hj:j<l.length) (ak:aL x=true) (ag:aL i=true) (ao:aL r=true) (aK:P.underlying t=some .string) (ex:aI x=cr l) (gp:aI i= .int k j)
  (b1:aI r= .int .u8 ((l.getD j 0).toNat:Nat)):aT P (.eD t x i,r):=by
 refine zP (by simp [np,ak,ag]) ao rfl λdF dG w _=> ?_
 show (fF dF dG (.eD t (aI x) (aI i))).run P w=_;rw[ex,gp,b1];unfold fF cr;have ah:(0:Int)<=(j:Int)/\(j:Int)<((⟨l.toArray⟩:ByteArray).size:Nat):=⟨ar,by rw[On];omega⟩;simp only [Sem.run_bind,run_index_string w t _ k _ aK,dif_pos ah,Result.andThen_ok,Int.toNat_natCast];have:((⟨l.toArray⟩:ByteArray)[j]'(by rw[On];exact hj))=l.getD j 0:=by
  rw[dh,fA hj];rfl
 rw[this];rfl
omit [a7] in
theorem Wl (t:aJ) (op:BinOp) (cm:op= .eql\/op= .neq) (l m:fy) (dF dG:Operand) (w:ax):(fF dF dG (.bin op t (cr l) (cr m))).run P w= .ok (.value (.bool (if op= .eql then decide (l=m) else !decide (l=m)))) w:=by
 unfold fF cr;rcases cm with rfl|rfl
 ·simp [eqGuard,binOp,Op.stringOp]
  rw[Bool.eq_iff_iff];simp
 ·simp [eqGuard,binOp,Op.stringOp]
  rw[Bool.eq_iff_iff];simp
theorem aT.BA {t:aJ} {x y:J} {l m:fy} (ak:aL x=true) (bq:aL y=true) (ex:aI x=cr l) (hx:aI y=cr m) (h:l=m):aT P (.bin .neq t x y,.bool false):=
 uy ak bq rfl ex hx λdF dG w=>by rw[Wl t .neq (.inr rfl) l m,aU (by simp),gC h];rfl
theorem aT.nJ {t:aJ} {x y:J} {l m:fy} (ak:aL x=true) (bq:aL y=true) (ex:aI x=cr l) (hx:aI y=cr m) (h:¬l=m):aT P (.bin .neq t x y,.bool true):=
 uy ak bq rfl ex hx λdF dG w=>by rw[Wl t .neq (.inr rfl) l m,aU (by simp),c8 h];rfl
theorem aT.F3 {s d:aJ} {x r:J} {k k':IntKind} {n:Int} (ak:aL x=true) (ao:aL r=true) (aw:(P.underlying s).isSome=true) (bc:P.underlying d=some (.int (P.intKind d))) (aj:P.intKind d=k') (hw:k'.wrap n=n) (ex:aI x= .int k n) (b1:aI r= .int k' n):aT P (.conv s d x,r):=by
 refine zP ak ao rfl λdF dG w _=> ?_
 show (fF dF dG (.conv s d (aI x))).run P w=_;rw[ex,b1];unfold fF;simp only [Sem.run_bind,run_convert_int w s d k n aw bc,Result.andThen_ok,aj,hw];rfl
omit [a7] in
theorem Wm {t:aJ} (aK:P.underlying t=some .bool) (op:BinOp) (cm:op= .eql\/op= .neq) (l m:Bool) (dF dG:Operand) (w:ax):(fF dF dG (.bin op t (.bool l) (.bool m))).run P w= .ok (.value (.bool (if op= .eql then l==m else !(l==m)))) w:=by
 unfold fF;rcases cm with rfl|rfl
 ·simp [eqGuard,binOp,Op.equal,Op.maxDepth,run_equalIn_bool w 9999 t _ _ aK]
 ·simp [eqGuard,binOp,Op.equal,Op.maxDepth,run_equalIn_bool w 9999 t _ _ aK]
theorem aT.F4 {t:aJ} {x y:J} {l m r:Bool} (aK:P.underlying t=some .bool) (ak:aL x=true) (bq:aL y=true) (ex:aI x= .bool l) (hx:aI y= .bool m) (h:r=(l==m)):aT P (.bin .eql t x y,.bool r):=
 uy ak bq rfl ex hx λdF dG w=>by rw[Wm aK .eql (.inl rfl) l m,aQ rfl,h];rfl
theorem aT.afX {t:aJ} {x y:J} {l m r:Bool} (aK:P.underlying t=some .bool) (ak:aL x=true) (bq:aL y=true) (ex:aI x= .bool l) (hx:aI y= .bool m) (h:r= !(l==m)):aT P (.bin .neq t x y,.bool r):=
 uy ak bq rfl ex hx λdF dG w=>by rw[Wm aK .neq (.inr rfl) l m,aU (by simp),h];rfl
theorem aT.Oo {x:J} {l r:Bool} (ak:aL x=true) (ex:aI x= .bool l) (h:r= !l):aT P (.un .not x,.bool r):=by
 refine⟨ak,rfl,?_⟩;show ∀dF dG w,(fF dF dG (.un .not (aI x))).run P w=_;intro dF dG w;rw[ex,h];rfl
theorem aT.afY {α:Type} {k:Nat} {enc:α->List J} {v:J} {l:List α} (h:cu a7.df k enc v l) {t:aJ} {p r:J} {i o j n:Nat} {x:α} {us:List J} (ag:l[i]? =some x) (hp:aL p=true) (ao:aL r=true)
  (ha:bd P (isAgg t)=some true) (av:bd P (sizeOf t)=some n) (ho:o=i*k+j) (hl:us.length=n) (hu:∀q u,us[q]? =some u->(enc x)[j+q]? =some u) (ex:aI p=hW v o) (b1:aI r= .agg ⟨us⟩):aT P (.bF t p,r):=by
 obtain⟨b,off,c,cs,ty,fr,rfl,ae,aq⟩:=h.at' ag;refine aT.bF (b:=b) (o:=off+o) (l:=us) hp ao ha av ex hl (λw hw q u aZ=> ?_) b1;have ad:=hw b _ ae;have af:=aq (j+q) u (hu q u aZ);show w.cell? ⟨b,off+o+q,none⟩=some u;rw[show off+o+q=off+i*k+(j+q) by omega];unfold World.cell?;simp only [ad];exact af
theorem aT.Wn {t e:aJ} {x i r:J} {g o n bb:Nat} {j:Nat} {k:IntKind} (ak:aL x=true) (ag:aL i=true) (ao:aL r=true) (aK:P.underlying t=some (.array n e)) (cl:bd P (sizeOf e)=some bb)
  (ex:aI x= .pointer (some ⟨g,o,none⟩)) (gp:aI i= .int k j) (hj:j<n) (b1:aI r= .pointer (some ⟨g,o+j*bb,none⟩)):aT P (.dC t x i,r):=by
 refine F2 (by simp [np,ak,ag]) ao rfl λdF dG w=> ?_
 show (fF dF dG (.dC t (aI x) (aI i))).run P w=_;rw[ex,gp];unfold fF;have:(Instr.indexAt t (.pointer (some ⟨g,o,none⟩)) (.int k j)).run P w= .ok (.pointer (some ⟨g,o+j*bb,none⟩)) w:=by
  have aM:(Instr.sureAddr (.pointer (some ⟨g,o,none⟩))).run P w= .ok (⟨g,o,none⟩:Addr) w:=rfl;simp [Instr.indexAt,run_underlying aK,asIntOf,hj,aM,jc cl w,Addr.kc]
 simp only [Sem.run_bind,this,Result.andThen_ok,b1];rfl
theorem aT.afZ {t e:aJ} {x i r v:J} {n m j o o':Nat} {hi:IntKind} (ak:aL x=true) (ag:aL i=true) (ao:aL r=true) (aK:P.underlying t=some (.array n e)) (cl:bd P (sizeOf e)=some m)
  (aC:∃b off n c,v= .slice (some ⟨b,off,none⟩) n c) (hj:j<n) (ho:o'=o+j*m) (ex:aI x=hW v o) (gp:aI i= .int hi j) (b1:aI r=hW v o'):aT P (.dC t x i,r):=by
 obtain⟨b,off,fS,c,rfl⟩:=aC;exact aT.Wn (g:=b) (o:=off+o) ak ag ao aK cl ex gp hj (by rw[b1,ho];simp [hW,cellAt,Nat.add_assoc])
theorem aT.af0 {t e:aJ} {x r:J} {g o n bb:Nat} (ak:aL x=true) (ao:aL r=true) (aK:P.underlying t=some (.array n e)) (cl:bd P (sizeOf e)=some bb)
  (ex:aI x= .pointer (some ⟨g,o,none⟩)) (av:0<n) (b1:aI r= .slice (some ⟨g,o,none⟩) n n):aT P (.lV t x none none none,r):=by
 refine zP (by simp [np,plainO,ak]) ao rfl λdF dG w _=> ?_
 show (fF dF dG (.lV t (aI x) none none none)).run P w=_;rw[ex];unfold fF;have:(Instr.sliceAt t (.pointer (some ⟨g,o,none⟩)) none none none).run P w= .ok (.slice (some ⟨g,o,none⟩) n n) w:=by
  have aM:(Instr.sureAddr (.pointer (some ⟨g,o,none⟩))).run P w= .ok (⟨g,o,none⟩:Addr) w:=rfl;unfold Instr.sliceAt;simp only [Sem.run_bind,run_underlying aK,Result.andThen_ok,aM];have cO:n≠0:=by omega
  simp [Instr.sliceBounds,jc cl w,cO];rfl
 simp only [Sem.run_bind,this,Result.andThen_ok,b1];rfl
section
omit [a7]
def F5 (P:aR) (f:aJ->J->J->Option Bool) (xs ys:Array J):List Field->Option Bool
 |[]=>some true
 |h7::r=>bif h7.name== "_" then F5 P f xs ys r else
  match bd P (part h7.type xs h7.offset),bd P (part h7.type ys h7.offset) with
  |some a,some b=>match f h7.type a b,F5 P f xs ys r with
   |some p,some q=>some (p&&q)
   |_,_=>none
  |_,_=>none
def JN (P:aR) (f:aJ->J->J->Option Bool) (e:aJ) (c:Nat) (xs ys:Array J):List Nat->Option Bool
 |[]=>some true
 |i::r=>match bd P (part e xs (i*c)),bd P (part e ys (i*c)) with
  |some a,some b=>match f e a b,JN P f e c xs ys r with
   |some p,some q=>some (p&&q)
   |_,_=>none
  |_,_=>none
def pT (P:aR):Nat->aJ->J->J->Option Bool
 |0,_,_,_=>none
 |d+1,t,x,y=>match P.underlying t with
  |some .bool=>match x,y with
   | .bool a,.bool b=>some (a==b)
   |_,_=>none
  |some (.int _)=>match x,y with
   | .int k a,.int k' b=>bif decide (k=k') then some (a==b) else none
   |_,_=>none
  |some .string=>match x,y with
   | .string a,.string b=>some (a.data.toList==b.data.toList)
   |_,_=>none
  |some (.struct _)=>match x,y with
   | .agg xs,.agg ys=>bif P.stoodInHeld t then none else F5 P (pT P d) xs ys (P.fieldsOf t).toList
   |_,_=>none
  |some (.array n e)=>match x,y with
   | .agg xs,.agg ys=>match P.info? e with
     |some _=>JN P (pT P d) e (P.cellsOf e) xs ys (List.range n)
     |none=>none
   |_,_=>none
  |_=>none
theorem Oq {d:Nat} (ck:∀t x y b,pT P d t x y=some b->∀w,(Op.equalIn d t x y).run P w= .ok b w) {xs ys:Array J}:∀(l:List Field) (b:Bool),F5 P (pT P d) xs ys l=some b->∀w,(Op.eqFields d xs ys l).run P w= .ok b w
 |[],b,h,w=>by cases h;rfl
 |h7::r,b,h,w=>by
  unfold F5 at h;unfold Op.eqFields;by_cases av:h7.name= "_"
  ·rw[show (h7.name== "_")=true by simpa using av,bx] at h
   rw[aU (λah=>ah av)];exact Oq ck r b h w
  ·rw[show (h7.name== "_")=false by simpa using av,ek] at h
   rw[aQ av];split at h
   ·rename_i a c ha aq
    split at h
    ·rename_i p q hp aZ
     cases h;simp only [Sem.run_bind,jc ha,jc aq,ck _ _ _ _ hp,Result.andThen_ok];cases p with
     |true=>simpa using Oq ck r q aZ w
     |false=>rfl
    ·cases h
   ·cases h
theorem Wo {d:Nat} (ck:∀t x y b,pT P d t x y=some b->∀w,(Op.equalIn d t x y).run P w= .ok b w) {e:aJ} {c:Nat} {xs ys:Array J}:∀(l:List Nat) (b:Bool),JN P (pT P d) e c xs ys l=some b->∀w,(Op.eqItems d e c xs ys l).run P w= .ok b w
 |[],b,h,w=>by cases h;rfl
 |i::r,b,h,w=>by
  unfold JN at h;unfold Op.eqItems;split at h
  ·rename_i a c ha aq
   split at h
   ·rename_i p q hp aZ
    cases h;simp only [Sem.run_bind,jc ha,jc aq,ck _ _ _ _ hp,Result.andThen_ok];cases p with
    |true=>simpa using Wo ck r q aZ w
    |false=>rfl
   ·cases h
  ·cases h
theorem DO:∀(d:Nat) (t:aJ) (x y:J) (b:Bool),pT P d t x y=some b->∀w,(Op.equalIn d t x y).run P w= .ok b w
 |0,_,_,_,_,h,_=>by cases h
 |d+1,t,x,y,b,h,w=>by
  unfold pT at h;split at h
  ·rename_i hu
   split at h
   ·cases h;exact run_equalIn_bool' w d t _ _ hu
   ·cases h
  ·rename_i d' hu
   split at h
   ·rename_i k a k' b'
    by_cases aj:k=k'
    ·subst aj
     simp only [decide_true,bx,cE] at h;subst h;exact run_equalIn_int w d t k d' a b' hu
    ·rw[c8 aj,ek] at h
     cases h
   ·cases h
  ·rename_i hu
   split at h
   ·rename_i a c
    cases h;rw[run_equalIn_string w d t _ _ hu,ByteArray.toList_eq,ByteArray.toList_eq]
   ·cases h
  ·rename_i fs hu
   split at h
   ·rename_i xs ys
    cases aw:P.stoodInHeld t with
    |true=>rw[aw] at h;cases h
    |false=>
     rw[aw,ek] at h;have af1:P.underlying t=some (.struct (P.fieldsOf t)):=by unfold Program.fieldsOf;rw[hu]
     rw[run_equalIn_struct w d t xs ys af1 aw];exact Oq (λt x y b h=>DO d t x y b h) _ b h w
   ·cases h
  ·rename_i n e hu
   split at h
   ·rename_i xs ys
    split at h
    ·rename_i i ag
     rw[run_equalIn_array (w:=w) d xs ys hu ag];exact Wo (λt x y b h=>DO d t x y b h) _ b h w
    ·cases h
   ·cases h
  ·cases h
end
theorem aT.zA {t:aJ} {x y:J} {xs ys:Array J} {b:Bool} (aA:P.eqGuardType P.depth t=false) (ak:aL x=true) (bq:aL y=true) (ex:aI x= .agg xs) (hx:aI y= .agg ys) (h:pT P 10000 t (.agg xs) (.agg ys)=some b):aT P (.bin .eql t x y,.bool b):=
 uy ak bq rfl ex hx λdF dG w=>by
  unfold fF;simp only [Sem.run_bind,run_eqGuard_agg w .eql t dF dG xs ys aA,Result.andThen_ok,run_eql_struct,DO 10000 t _ _ b h w];rfl
theorem aT.JO {t:aJ} {x y:J} {xs ys:Array J} {b:Bool} (aA:P.eqGuardType P.depth t=false) (ak:aL x=true) (bq:aL y=true) (ex:aI x= .agg xs) (hx:aI y= .agg ys) (h:pT P 10000 t (.agg xs) (.agg ys)=some b):aT P (.bin .neq t x y,.bool (!b)):=
 uy ak bq rfl ex hx λdF dG w=>by
  unfold fF;simp only [Sem.run_bind,run_eqGuard_agg w .neq t dF dG xs ys aA,Result.andThen_ok,run_neq_struct,DO 10000 t _ _ b h w];rfl
end
end AE
end Go.Proofs.YtepcfjbfkedlpaaDoor
namespace Go.Proofs.YtepcfjbfkedlpaaDoor
open Go Go.Proofs Go.RowKit
namespace AE
theorem af2 {p:Prop} [Decidable p] (h:p):Value.bool true= .bool (decide p):=by rw[gC h]
theorem af3 {p:Prop} [Decidable p] (h:¬p):Value.bool false= .bool (decide p):=by rw[c8 h]
theorem af4 {p:Prop} [Decidable p] (h:¬p):Value.bool true= .bool (!decide p):=by rw[c8 h];rfl
theorem af5 {p:Prop} [Decidable p] (h:p):Value.bool false= .bool (!decide p):=by rw[gC h];rfl
theorem pj {a b:Int} (h:a=b) (ad: -9223372036854775808<=a) (af:a<=9223372036854775807):Value.int .i64 a= .int .i64 (IntKind.i64.wrap b):=by rw[<-h,wrap64 ad af]
theorem F6 {a:Int} (h:0<=a):Value.int .i64 a= .int .i64 ((a.toNat:Nat):Int):=by rw[Int.toNat_of_nonneg h]
theorem F7 {α:Type} [Inhabited α] {l:List α} {i:Nat} (h:i<l.length):l[i]? =some (l.getD i default):=by rw[dh,fA h];rfl
theorem yt:bd Tryd.prog (sizeOf 3)=some 1:=au
theorem yu:bd Tryd.prog (isAgg 3)=some false:=au
theorem Wp:bd Tryd.prog (isAgg 4)=some false:=au
theorem Wq:bd Tryd.prog (isAgg 9)=some false:=au
theorem af6:bd Tryd.prog (sizeOf 9)=some 1:=au
theorem rj:Tryd.prog.underlying 9=some .string:=au
theorem JP:Tryd.prog.underlying 4=some .bool:=au
abbrev lE:aJ:=3
theorem iK:Tryd.prog.underlying 26=some (.slice lE):=au
noncomputable def JQ:TypeInfo:=(Tryd.prog.info? lE).getD default
theorem JR:Tryd.prog.info? lE=some JQ:=au
theorem JS:JQ.zero=some (.int .i64 0):=au
theorem JT:JQ.size=1:=au
abbrev yv:Nat:=8
theorem JU:JQ.bytes=yv:=au
theorem JV:(Value.int .i64 0).cells.size=1:=rfl
def ga (n:Int):List J:=[.int .i64 n]
theorem l0:∀x,(ga x).length=1:=λ_=>rfl
theorem JW:∀x,∀u∈ga x,u.oneCell'=true:=λx u hu=>by
 simp only [ga,List.mem_cons,List.not_mem_nil,or_false] at hu;subst hu;rfl
abbrev cX:=fy×Bool×Bool×Bool×Int×Int×Int×Int
instance apw:DecidableEq (Bool×Bool×Bool×Int×Int×Int×Int):=λp q=>decidable_of_iff (p.1=q.1/\p.2.1=q.2.1/\p.2.2=q.2.2) ⟨λh=>Prod.ext h.1 (Prod.ext h.2.1 h.2.2),λh=>by subst h;exact⟨rfl,rfl,rfl⟩⟩
instance apx:DecidableEq cX:=λp q=>decidable_of_iff (p.1=q.1/\p.2=q.2) ⟨λh=>Prod.ext h.1 h.2,λh=>by subst h;exact⟨rfl,rfl⟩⟩
def jf (x:cX):List J:=[cr x.1,.bool x.2.1,.bool x.2.2.1,.bool x.2.2.2.1,.int .i64 x.2.2.2.2.1,.int .i64 x.2.2.2.2.2.1,.int .i64 x.2.2.2.2.2.2.1,.int .i64 x.2.2.2.2.2.2.2]
abbrev M.val (x:cX):J:= .agg ⟨jf x⟩
abbrev oe:aJ:=70
theorem qz:bd Tryd.prog (sizeOf oe)=some 8:=au
theorem BB:bd Tryd.prog (isAgg oe)=some true:=au
theorem lF:Tryd.prog.underlying 29=some (.slice oe):=au
theorem af7:bd Tryd.prog (underlying oe)=some (.struct (Tryd.prog.fieldsOf oe)):=au
noncomputable def JX:TypeInfo:=(Tryd.prog.info? oe).getD default
theorem af8:Tryd.prog.info? oe=some JX:=au
theorem af9:JX.zero=some (.agg ⟨[cr [],.bool false,.bool false,.bool false,.int .i64 0,.int .i64 0,.int .i64 0,.int .i64 0]⟩):=au
theorem af':JX.size=8:=au
abbrev Ot:Nat:=56
theorem af_:JX.bytes=Ot:=au
theorem aga:(Value.agg ⟨[cr [],.bool false,.bool false,.bool false,.int .i64 0,.int .i64 0,.int .i64 0,.int .i64 0]⟩).cells.size=8:=rfl
theorem JY:∀x,(jf x).length=8:=λ_=>rfl
theorem agb:∀x,∀u∈jf x,u.oneCell'=true:=λx u hu=>by
 simp only [jf,List.mem_cons,List.not_mem_nil,or_false] at hu;rcases hu with rfl|rfl|rfl|rfl|rfl|rfl|rfl|rfl<;>rfl
section
variable [a7]
theorem Ou {α:Type} {k:Nat} {enc:α->List J} {v:J} {l:List α} (h:cu a7.df k enc v l) {n:Nat} (av:n<l.length):∃b off n c,v= .slice (some ⟨b,off,none⟩) n c:=by
 obtain⟨b,off,c,_,_,_,aC,_⟩:=h.at' (fA av);exact⟨b,off,_,c,aC⟩
theorem agc {P:aR} {α:Type} {k:Nat} {enc:α->List J} {v:J} {l:List α} {s:aJ} {f m off ty:Nat} (aw:bd P (underlying s)=some (.struct (P.fieldsOf s))) (aO:((P.fieldsOf s)[f]?).map (λf=>(f.type,f.offset))=some (ty,off)) (hm:bd P (sizeOf ty)=some m) (aM:m≠0)
  (h:cu a7.df k enc v l) {n:Nat} (av:n<l.length) {x r:J} {o:Nat} (ak:aL x=true) (ao:aL r=true) (ex:aI x=hW v o) (b1:aI r=hW v (o+off)):aT P (.cG s x f,r):=by
 rw[xO] at aO;obtain⟨h7,ad,af⟩:=aO;cases af;exact aT.V6 ak ao aw ad hm aM (Ou h av) rfl ex b1
variable {α:Type} {k:Nat} {enc:α->List J} {v:J} {l:List α} {n o:Nat} {x r:J}
theorem Wr (h:cu a7.df k enc v l) (av:n<l.length) (ak:aL x=true) (ao:aL r=true) (ex:aI x=hW v o) (b1:aI r=hW v (o+0)):aT Tryd.prog (.cG oe x 0,r):=agc (ty:=9) af7 au af6 cz h av ak ao ex b1
end
abbrev Ws:=Int×Int×Int
def agd (x:Ws):List J:=[.int .i64 x.1,.int .i64 x.2.1,.int .i64 x.2.2]
abbrev E.val (x:Ws):J:= .agg ⟨agd x⟩
theorem age (p q:cX):pT Tryd.prog 10000 oe (M.val p) (M.val q)=some (p.1==q.1&&(p.2.1==q.2.1&&(p.2.2.1==q.2.2.1&&(p.2.2.2.1==q.2.2.2.1&&(p.2.2.2.2.1==q.2.2.2.2.1&&((p.2.2.2.2.2.1==q.2.2.2.2.2.1&&(p.2.2.2.2.2.2.1==q.2.2.2.2.2.2.1&&(p.2.2.2.2.2.2.2==q.2.2.2.2.2.2.2&&true)))&&true)))))):=au
theorem agf:Tryd.prog.eqGuardType Tryd.prog.depth oe=false:=au
theorem agh (p q:cX):(p.1==q.1&&(p.2.1==q.2.1&&(p.2.2.1==q.2.2.1&&(p.2.2.2.1==q.2.2.2.1&&(p.2.2.2.2.1==q.2.2.2.2.1&&((p.2.2.2.2.2.1==q.2.2.2.2.2.1&&(p.2.2.2.2.2.2.1==q.2.2.2.2.2.2.1&&(p.2.2.2.2.2.2.2==q.2.2.2.2.2.2.2&&true)))&&true))))))=decide (p=q):=by
 obtain⟨a,b,c,d,e,f,g,h⟩:=p;obtain⟨aW,b',c',mI,e',hv,agi,fm⟩:=q;rw[Bool.eq_iff_iff];simp
section
variable [a7]
theorem Wt {x y:J} {p q:cX} (ak:aL x=true) (bq:aL y=true) (ex:aI x=M.val p) (hx:aI y=M.val q) {d:Bool} (bc:d= !decide (p=q)):aT Tryd.prog (.bin .neq oe x y,.bool d):=by
 subst bc;exact aT.JO agf ak bq ex hx ((age p q).trans (by rw[agh]))
theorem DP {P:aR} {x:J} {t:Bool} (ak:aL x=true) (ex:aI x= .bool t) (h:t=true):aT P (.ez x,.bool true):=aT.ez ak (by rw[ex,h])
theorem Ov {P:aR} {x:J} {t:Bool} (ak:aL x=true) (ex:aI x= .bool t) (h:¬t=true):aT P (.ez x,.bool false):=aT.ez ak (by rw[ex,Bool.eq_false_iff.2 h])
theorem agj {P:aR} {x:J} {t:Bool} (ak:aL x=true) (ex:aI x= .bool t) (h:t=true):aT P (.un .not x,.bool false):=aT.Oo ak ex (by rw[h];rfl)
theorem agk {P:aR} {x:J} {t:Bool} (ak:aL x=true) (ex:aI x= .bool t) (h:¬t=true):aT P (.un .not x,.bool true):=aT.Oo ak ex (by rw[Bool.eq_false_iff.2 h];rfl)
variable {x y:J} {s t:Bool}
theorem DQ (ak:aL x=true) (bq:aL y=true) (ex:aI x= .bool s) (hx:aI y= .bool t) (h:s=true) (fm:t=true):aT Tryd.prog (.bin .eql 4 x y,.bool true):=aT.F4 JP ak bq ex hx (by rw[h,fm];rfl)
theorem JZ (ak:aL x=true) (bq:aL y=true) (ex:aI x= .bool s) (hx:aI y= .bool t) (h:s=true) (fm:¬t=true):aT Tryd.prog (.bin .eql 4 x y,.bool false):=aT.F4 JP ak bq ex hx (by rw[h,Bool.eq_false_iff.2 fm];rfl)
theorem yw (ak:aL x=true) (bq:aL y=true) (ex:aI x= .bool s) (hx:aI y= .bool t) (h:¬s=true) (fm:t=true):aT Tryd.prog (.bin .eql 4 x y,.bool false):=aT.F4 JP ak bq ex hx (by rw[Bool.eq_false_iff.2 h,fm];rfl)
theorem vz (ak:aL x=true) (bq:aL y=true) (ex:aI x= .bool s) (hx:aI y= .bool t) (h:¬s=true) (fm:¬t=true):aT Tryd.prog (.bin .eql 4 x y,.bool true):=aT.F4 JP ak bq ex hx (by rw[Bool.eq_false_iff.2 h,Bool.eq_false_iff.2 fm];rfl)
end
def J0:List J:=[cr [103,97,115],.bool false,.bool false,.bool false,cr [115,111,108,105,100],.bool true,.bool false,.bool false,cr [102,97,108,108,105,110,103],.bool true,.bool false,.bool true,cr [108,105,113,117,105,100],.bool false,.bool true,.bool false]
def mn (M:Mem):Prop:=∃ty fr,M 0=some (.cells ⟨J0⟩ ty fr)
theorem mn.mono {M M':Mem} (h:mn M) (hm:∀i o,M i=some o->M' i=some o):mn M':=by
 obtain⟨ty,fr,h⟩:=h;exact⟨ty,fr,hm _ _ h⟩
section
variable [a7] {P:aR}
theorem agl (bS:mn a7.df) {w:ax} (hw:n' w) {o:Nat} {u:J} (hu:J0[o]? =some u):w.cell? ⟨0,o,none⟩=some u:=by
 obtain⟨ty,fr,h⟩:=bS;have:=hw _ _ h;unfold World.cell?;simp only [this];simpa using hu
theorem BC (bS:mn a7.df) {t:aJ} {x r:J} {o n:Nat} {l:List J} (ak:aL x=true) (ao:aL r=true) (ha:bd P (isAgg t)=some true) (av:bd P (sizeOf t)=some n) (ex:aI x= .pointer (some ⟨0,o,none⟩)) (b1:aI r= .agg ⟨l⟩) (hl:(J0.drop o).take n=l) (lf:l.length=n):aT P (.bF t x,r):=
 aT.bF (b:=0) (o:=o) (l:=l) ak ao ha av ex lf (λw hw j u hj=>agl bS hw (by
  rw[<-hl,List.getElem?_take] at hj;split at hj
  ·rwa [List.getElem?_drop] at hj
  ·cases hj)) b1
theorem mo {f:FuncId} {args:List J} {v:J} {a:Array J} {u:J} (hp:dP args=true) (aC:aL v=true) (ha:ew args=a.toList) (hu:aI v=u)
  (h:∀w,n' w->Calls P f a w λe w'=>e= .returned u/\cb w.heap.size w w'):jA P (f,args,v):=
 ⟨hp,aC,λw hw=>by show Calls P f ⟨ew args⟩ w _;rw[ha,hu];exact h w hw⟩
end
end AE
end Go.Proofs.YtepcfjbfkedlpaaDoor
namespace Go.Proofs.YtepcfjbfkedlpaaDoor
open Go Go.ChangeShapes Go.WideShapes Go.ChangeAt Go.RowKit
section
theorem own:ownKnob Tryd.prog.godebug=none:=au
theorem agm:laidOutB Tryd.prog=true:=au
theorem Wu {H:Type} {enc:aJ×J->H} {P:aR} (hl:laidOutB P=true) {W W':ax} (ae:Below W.heap.size W W'):∀(cW:List aJ) (vs:List J) (ds:List (DataW H)) (ps:List MemPlace),
  cW.all (λt=>P.readableRec t&&decide (t<P.types.size))=true->DataW.TrodAll enc P W 0 (λ_=>true) true cW vs ds ps->(∀x∈ps,x.block<W.heap.size)->DataW.TrodAll enc P W' 0 (λb=>decide (b<W.heap.size)) true cW vs ds ps
 |[],[],[],ps,_,h,_=>h
 |t::cW,v::vs,d::ds,ps,aK,h,b8=>by
  obtain⟨p,q,ad,af,rfl⟩:=h;simp only [List.all_cons,cV,decide_eq_true_eq] at aK;exact⟨p,q,Below.trod hl aK.1.1 aK.1.2 ad ae (λx ak=>b8 x (List.mem_append_left _ ak)),Wu hl ae cW vs ds q aK.2 af λx ak=>b8 x (List.mem_append_right _ ak),rfl⟩
 |[],_::_,_,_,_,h,_=>by cases h
 |[],[],_::_,_,_,h,_=>by cases h
 |_::_,[],_,_,_,h,_=>by cases h
 |_::_,_::_,[],_,_,h,_=>by cases h
theorem Wv:Tryd.prog.cellsOf AE.oe=8:=au
theorem zR:Tryd.prog.cellsOf 3=1:=au
theorem Ww:Tryd.prog.cellsOf 9=1:=au
theorem zS:Tryd.prog.cellsOf 4=1:=au
theorem agn:Tryd.prog.cellsOf 68=3:=au
abbrev F8:aJ:=141
theorem Wx:Tryd.prog.cellsOf F8=4:=au
theorem ago:Tryd.prog.cellsOf 151=16:=au
theorem BD:Tryd.prog.underlying AE.oe=some (.struct (Tryd.prog.fieldsOf AE.oe)):=au
theorem F9:Tryd.prog.underlying F8=some (.struct (Tryd.prog.fieldsOf F8)):=au
section
variable {H:Type} {enc:aJ×J->H} {W:ax} {r:Reach} {cB:Nat} {base:Nat} {oN:Nat->Bool} {oO:Bool} {v:J} {d:DataW H} {p:List MemPlace}
theorem nK {P:aR} {t ty off k i n:Nat} {cs:List J} {x:DataW H×List MemPlace} (hu:P.underlying t=some (.struct (P.fieldsOf t))) (aO:((P.fieldsOf t)[i]?).map (λf=>(f.type,f.offset))=some (ty,off)) (aj:P.cellsOf ty=k)
  (h:DataW.trod enc P W base oN oO n t cs=some x):∃m y,DataW.trod enc P W base oN oO m ty ((cs.drop off).take k)=some y/\∀l,x.1= .agg l->l[i]? =some y.1:=by
 obtain⟨xs,m,_,ex,hlen,BE,n8⟩:=DataW.trod_struct hu h;rw[xO] at aO;obtain⟨h7,ad,af⟩:=aO;cases af;have cD:=n8 i h7 ad;have b8:i<xs.length:=by rw[BE];exact(Array.getElem?_eq_some_iff.1 ad).1
 rw[aj,fA b8] at cD;refine⟨m,_,cD,λl hl=> ?_⟩;rw[ex] at hl;injection hl with hl;rw[<-hl,List.getElem?_map,fA b8];rfl
theorem Wy (s:ByteArray):Value.string s=AE.cr s.data.toList:=by cases s;rfl
theorem agp {n:Nat} {cs:List J} {x:DataW H×List MemPlace} (h:DataW.trod enc Tryd.prog W base oN oO n F8 cs=some x):cs.length=4:=by
 obtain⟨_,_,_,_,hlen,_,_⟩:=DataW.trod_struct F9 h;rw[hlen,Wx]
theorem J1 {n:Nat} {cs:List J} {x:DataW H×List MemPlace} {s:List UInt8} {a b c:Bool} (h:DataW.trod enc Tryd.prog W base oN oO n F8 cs=some x) (ak:x.1= .agg [.lit (.string s),.lit (.bool a),.lit (.bool b),.lit (.bool c)]):
  cs=[AE.cr s,.bool a,.bool b,.bool c]:=by
 have hlen:=agp h;obtain⟨_,ud,aM,e4⟩:=nK (i:=0) (ty:=9) (off:=0) F9 au Ww h;obtain⟨_,vt,ad,g1⟩:=nK (i:=1) (ty:=4) (off:=1) F9 au zS h;obtain⟨_,vu,af,g2⟩:=nK (i:=2) (ty:=4) (off:=2) F9 au zS h;obtain⟨_,DR,ay,g3⟩:=nK (i:=3) (ty:=4) (off:=3) F9 au zS h;obtain⟨a8,e0,rfl,_⟩:=DataW.trod_string Tryd.underlying9 aM;obtain⟨s1,e1,rfl⟩:=DataW.trod_bool Tryd.underlying4 ad;obtain⟨s2,e2,rfl⟩:=DataW.trod_bool Tryd.underlying4 af;obtain⟨r3,dn,rfl⟩:=DataW.trod_bool Tryd.underlying4 ay;have d':=e4 _ ak;have db:=g1 _ ak;have dr:=g2 _ ak;have s7:=g3 _ ak;simp only [List.getElem?_cons_zero,List.getElem?_cons_succ,cE,DataW.lit.injEq,Lit.string.injEq,Lit.bool.injEq] at d' db dr s7;subst d' db dr s7
 match cs,hlen,e0,e1,e2,dn with
 |[dw,gM,c2,c3],_,e0,e1,e2,dn=>
  simp only [List.drop_zero,List.drop_succ_cons,List.take_succ_cons,List.take_zero,List.cons.injEq,and_true] at e0 e1 e2 dn;rw[e0,e1,e2,dn,Wy]
theorem agq {n:Nat} {cs:List J} {x:DataW H×List MemPlace} (h:DataW.trod enc Tryd.prog W base oN oO n AE.oe cs=some x):∃s:AE.cX,cs=AE.jf s:=by
 have hlen:cs.length=8:=by
  obtain⟨_,_,_,_,hlen,_,_⟩:=DataW.trod_struct BD h;rw[hlen,Wv]
 obtain⟨_,ud,aM,_⟩:=nK (i:=0) (ty:=9) (off:=0) BD au Ww h;obtain⟨_,vt,ad,_⟩:=nK (i:=1) (ty:=4) (off:=1) BD au zS h;obtain⟨_,vu,af,_⟩:=nK (i:=2) (ty:=4) (off:=2) BD au zS h;obtain⟨_,DR,ay,_⟩:=nK (i:=3) (ty:=4) (off:=3) BD au zS h;obtain⟨_,apy,bD,_⟩:=nK (i:=4) (ty:=3) (off:=4) BD au zR h;obtain⟨_,apz,cD,_⟩:=nK (i:=5) (ty:=68) (off:=5) BD au agn h;obtain⟨a8,e0,_⟩:=DataW.trod_string Tryd.underlying9 aM;obtain⟨s1,e1,_⟩:=DataW.trod_bool Tryd.underlying4 ad;obtain⟨s2,e2,_⟩:=DataW.trod_bool Tryd.underlying4 af;obtain⟨r3,dn,_⟩:=DataW.trod_bool Tryd.underlying4 ay;obtain⟨Ow,hU,_⟩:=DataW.trod_int Tryd.underlying3 bD;obtain⟨xs,m,_,_,wZ,BE,aO⟩:=DataW.trod_array Tryd.underlying68 cD;have ag:∀i,i<3->∃z:Int,(((cs.drop 5).take 3).drop i).take 1=[.int .i64 z]:=λi ay=>by
  have cI:=aO i ay;rw[zR,Nat.mul_one,fA (show i<xs.length by omega)] at cI;obtain⟨z,e,_⟩:=DataW.trod_int Tryd.underlying3 cI;exact⟨z,e⟩
 obtain⟨z0,f0⟩:=ag 0 ar;obtain⟨s8,f1⟩:=ag 1 ar;obtain⟨z2,f2⟩:=ag 2 ar
 match cs,hlen,e0,e1,e2,dn,hU,f0,f1,f2 with
 |[dw,gM,c2,c3,qZ,FQ,JA,JB],_,e0,e1,e2,dn,hU,f0,f1,f2=>
  simp only [List.drop_zero,List.drop_succ_cons,List.take_succ_cons,List.take_zero,List.cons.injEq,and_true] at e0 e1 e2 dn hU f0 f1 f2;exact⟨(a8.data.toList,s1,s2,r3,Ow,z0,s8,z2),by rw[e0,e1,e2,dn,hU,f0,f1,f2,Wy];rfl⟩
theorem agr (aC:Value.okWide Tryd.prog W r cB 29 v) (h:DataW.Trod enc Tryd.prog W base oN oO 29 v d p):∃l:List AE.cX,AE.cu (AE.aF W) 8 AE.jf v l:=by
 obtain⟨a0,BF,BG,rfl⟩:=okWide_slice Tryd.underlying29 aC;obtain⟨bm,h⟩:=h;rcases Deep.open_slice Tryd.underlying29 h with ⟨fZ,_⟩|⟨a,len,cap,m,n,zT,iZ,fZ,ae,hl,hm,sH,ak,ag⟩
 ·have e:Value.slice a0 BF BG= .slice none 0 0:=(List.cons.inj (show [Value.slice a0 BF BG]=[.slice none 0 0] from fZ)).1
  rw[e];exact⟨[],.nil _ _⟩
 ·have e:Value.slice a0 BF BG= .slice (some a) len cap:=(List.cons.inj (show [Value.slice a0 BF BG]=[.slice (some a) len cap] from fZ)).1
  rw[e];have rW:len<=m:=by rw[sH];split<;>omega
  have BH:∀i,i<len->∃s:AE.cX,∀j u,(AE.jf s)[j]? =some u->W.cell? (a.add (i*8+j))=some u:=λi pk=>by
   obtain⟨cs',aq,aK⟩:=ag i ar;rw[Wv] at aq;obtain⟨s,rfl⟩:=agq aK;obtain⟨_,_,DS⟩:=World.cells?_some aq;refine⟨s,λj u hj=> ?_⟩;have Ox:j<8:=(List.getElem?_eq_some_iff.1 hj).1;rw[<-Deep.add_add,DS j Ox];exact hj
  let f:Nat->AE.cX:=λi=>if h:i<len then (BH i h).choose else default
  have aO:∀i,i<len->∀j u,(AE.jf (f i))[j]? =some u->W.cell? (a.add (i*8+j))=some u:=λi pk=>by
   show ∀j u,(AE.jf (if h:i<len then (BH i h).choose else default))[j]? =some u->_;rw[dif_pos pk];exact(BH i pk).choose_spec
  refine⟨(List.range len).map f,?_⟩;rcases Nat.eq_zero_or_pos len with aM|aM
  ·subst aM
   exact .nil _ _
  ·have og:=aO 0 aM 0 _ rfl
   obtain⟨bk,off,spot⟩:=a;have Oy:∃cs ty fr,W.heap[bk]? =some (.cells cs ty fr)/\spot=none:=by
    unfold World.cell? at og;split at og
    ·rename_i gM t1 f1 lS
     split at og
     ·cases og
     ·rename_i jD
      refine⟨gM,t1,f1,lS,?_⟩;cases spot with
      |none=>rfl
      |some x=>exact absurd rfl jD
    ·cases og
   obtain⟨cs,ty,fr,jz,rfl⟩:=Oy;have hlen:((List.range len).map f).length=len:=by simp
   have key:AE.cu (AE.aF W) 8 AE.jf (.slice (some ⟨bk,off,none⟩) ((List.range len).map f).length cap) ((List.range len).map f):=by
    refine .mk (cs:=cs) (ty:=ty) (fr:=fr) jz (by rw[hlen];exact hl) λi x ak j u hj=> ?_
    have pk:i<len:=by
     have:=(List.getElem?_eq_some_iff.1 ak).1
     rwa [hlen] at this
    have Oz:x=f i:=by
     rw[List.getElem?_map,List.getElem?_range pk] at ak;exact(Option.some.inj ak).symm
    subst Oz;have:=aO i pk j u hj;rw[AE.Addr.kc,cell_of_row W _ _ _ _ _ jz,<-Nat.add_assoc] at this;exact this
   rw[hlen] at key;exact key
end
theorem ags {W:ax} {l:List (String×DataW Unit)} (h:laidMetH Tryd.prog l W) (hl:(l.filter λx=>x.1== "voxel/material.kinds")=[("voxel/material.kinds",Rows.laid_voxel_material_kinds)]):AE.mn (AE.aF W):=by
 have ad:=laidMetH.filter (λx=>x.1== "voxel/material.kinds") h;rw[hl,MakeChecks.laidMetH_plain _ _ _ au] at ad;obtain⟨ps,⟨g,t,cs,bm,p,q,aA,aK,aC,bc,_,_⟩,_,_⟩:=ad;obtain rfl:=Option.some.inj ((show Tryd.prog.globalNamed "voxel/material.kinds"=some 0 by kernel_rfl).symm.trans aA);obtain rfl:=Option.some.inj ((show (Tryd.prog.globals[0]?).map (·.type)=some 151 by kernel_rfl).symm.trans aK);obtain⟨xs,m,_,ex,hlen,BE,aO⟩:=DataW.trod_array Tryd.underlying151 bc;rw[ago] at hlen
 match xs,BE with
 |[fE,eA,gI,g'],_=>
  have dn:=DataW.agg.inj (Prod.mk.inj ex).1;simp only [List.map_cons,List.map_nil,List.cons.injEq,and_true] at dn;obtain⟨e4,g1,g2,g3⟩:=dn;have d':=aO 0 ar;have db:=aO 1 ar;have dr:=aO 2 ar;have s7:=aO 3 ar;rw[Wx] at d' db dr s7;have e0:=J1 d' e4.symm;have e1:=J1 db g1.symm;have e2:=J1 dr g2.symm;have dn:=J1 s7 g3.symm;have fZ:cs.toList=AE.J0:=by
   match cs.toList,hlen,e0,e1,e2,dn with
   |[a0,ev,fR,a3,a4,Ub,Uc,Ud,apA,a9,aa,ab,ac,gY,apB,apC],_,e0,e1,e2,dn=>
    simp only [Nat.zero_mul,Nat.one_mul,Nat.reduceMul,List.drop_zero,List.drop_succ_cons,List.take_succ_cons,List.take_zero,List.cons.injEq,and_true] at e0 e1 e2 dn;obtain⟨rfl,rfl,rfl,rfl⟩:=e0;obtain⟨rfl,rfl,rfl,rfl⟩:=e1;obtain⟨rfl,rfl,rfl,rfl⟩:=e2;obtain⟨rfl,rfl,rfl,rfl⟩:=dn;rfl
  unfold World.var? at aC;rw[aA] at aC;simp only [Option.bind_some] at aC;split at aC
  ·rename_i cs' ty fr ae
   cases aC;refine⟨ty,fr,?_⟩;show W.heap[0]? =_;rw[ae,<-fZ]
  ·cases aC
end
end Go.Proofs.YtepcfjbfkedlpaaDoor
namespace Go.Proofs.YtepcfjbfkedlpaaDoor
open Go Go.RowKit
namespace AE
def r8:Nat->List fy->List MapEntry
 |_,[]=>[]
 |i,n::r=>{key:=cr n,val:= .bool true,born:=i}::r8 (i+1) r
theorem Wz:∀(i:Nat) (l:List fy) (n:fy),r8 i (l++[n])=r8 i l++[{key:=cr n,val:= .bool true,born:=i+l.length}]
 |i,[],n=>by simp [r8]
 |i,x::r,n=>by
  simp only [List.cons_append,r8,Wz (i+1) r n,List.length_cons];rw[show i+1+r.length=i+(r.length+1) by omega]
def uz (B:Nat) (M:Mem) (v:J) (ns:List fy):Prop:=∃b,v= .map (some b)/\B<=b/\M b=some (.map ⟨r8 0 ns⟩ ns.length)
def OA:J->Option Nat
 | .map b=>b
 |_=>none
theorem uz.known {B:Nat} {M:Mem} {v:J} {ns:List fy} (h:uz B M v ns):∀i,some i=OA v->M i≠none/\B<=i:=by
 obtain⟨b,rfl,ad,af⟩:=h;intro i ag;cases ag;exact⟨by rw[af];simp,ad⟩
theorem WA (a b:fy):Instr.sameNow .string (cr a) (cr b)=some (decide (a=b)):=by
 show some ((⟨a.toArray⟩:ByteArray)==⟨b.toArray⟩)=_;congr 1;rw[Bool.eq_iff_iff];show (a.toArray==b.toArray)=true↔_;simp
theorem WB {n:fy}:∀{ns:List fy} (i j:Nat),n∈ns->∃q,Instr.findNow .string (cr n) (r8 i ns) j=some (some (q,.bool true))
 |[],_,_,h=>by cases h
 |x::r,i,j,h=>by
  unfold r8 Instr.findNow;simp only [WA];by_cases ak:n=x
  ·rw[gC ak]
   exact⟨j,rfl⟩
  ·rw[c8 ak]
   exact WB (i+1) (j+1) ((List.mem_cons.1 h).resolve_left ak)
theorem WC {n:fy}:∀{ns:List fy} (i j:Nat),n∉ns->Instr.findNow .string (cr n) (r8 i ns) j=some none
 |[],_,_,_=>rfl
 |x::r,i,j,h=>by
  unfold r8 Instr.findNow;simp only [WA];rw[c8 (λe=>h (by rw[e];exact List.mem_cons_self))];exact WC (i+1) (j+1) λfm=>h (List.mem_cons_of_mem _ fm)
section
variable {P:aR} {eC:aJ} {n:fy} {ns:List fy}
theorem agt (aj:bd P (underlying eC)=some .string) (h:n∈ns) (w:ax):∃q,(Instr.findKey eC (cr n) (r8 0 ns)).run P w= .ok (some (q,.bool true)) w:=by
 obtain⟨q,aZ⟩:=WB (ns:=ns) 0 0 h;refine⟨q,?_⟩;unfold Instr.findKey;refine cQ aj ?_;rw[aZ];rfl
theorem WD (aj:bd P (underlying eC)=some .string) (h:n∉ns) (w:ax):(Instr.findKey eC (cr n) (r8 0 ns)).run P w= .ok none w:=by
 have aZ:=WC (ns:=ns) 0 0 h;unfold Instr.findKey;refine cQ aj ?_;rw[aZ];rfl
variable [a7]
theorem aT.agu {t pn:aJ} {x i:J} {u:J} {B:Nat} (ak:aL x=true) (ag:aL i=true) (aK:bd P (underlying t)=some (.map eC pn)) (aj:bd P (underlying eC)=some .string) (nn:∀b n,bd P (Instr.checkKey b 10000 eC (cr n))=some ()) (cn:uz B a7.df u ns)
  (ex:aI x=u) (gp:aI i=cr n) (h:n∈ns):aT P (.kX t x i false,.bool true):=by
 obtain⟨b,rfl,_,ae⟩:=cn;refine zP (by simp [np,ak,ag]) U U λdF dG w hw=> ?_
 show (fF dF dG (.kX t (aI x) (aI i) false)).run P w=_;obtain⟨q,aZ⟩:=agt (P:=P) aj h w;have:=C8 (P:=P) (w:=w) (z:=undef) (ok:=false) (.inr ⟨b,ns.length,rfl,hw _ _ ae⟩) aK (nn _ n) aZ (λh=>by cases h);rw[ex,gp];unfold fF;simp only [Sem.run_bind,this,Result.andThen_ok];rfl
theorem aT.agv {t pn:aJ} {x i:J} {u:J} {B:Nat} (ak:aL x=true) (ag:aL i=true) (aK:bd P (underlying t)=some (.map eC pn)) (aj:bd P (underlying eC)=some .string) (bI:bd P (zeroValue pn)=some (.bool false)) (nn:∀b n,bd P (Instr.checkKey b 10000 eC (cr n))=some ()) (cn:uz B a7.df u ns)
  (ex:aI x=u) (gp:aI i=cr n) (h:n∉ns):aT P (.kX t x i false,.bool false):=by
 obtain⟨b,rfl,_,ae⟩:=cn;refine zP (by simp [np,ak,ag]) U U λdF dG w hw=> ?_
 show (fF dF dG (.kX t (aI x) (aI i) false)).run P w=_;have:=C8 (P:=P) (w:=w) (z:= .bool false) (ok:=false) (.inr ⟨b,ns.length,rfl,hw _ _ ae⟩) aK (nn _ n) (WD (P:=P) aj h w) (λ_=>bI);rw[ex,gp];unfold fF;simp only [Sem.run_bind,this,Result.andThen_ok];rfl
end
def DT:Option bO->Option aJ
 |some (.oper o _ ops s _)=>match o.op with
  | .makeMap t none=>match q5 ops o s.sl with
    |some true=>some t
    |_=>none
  |_=>none
 |_=>none
theorem agw [cH] {P:aR} {N B:Nat} {w0:ax} {Q:Exit->Act->ax->Prop} {M:Mem} {bj:List J} {o:Option bO} {t:aJ} {ea:J} {bh:Nat->List J} {du dq:aG} {aV:List bw} {bG:eg} {ns:List fy}
  (fB:ns=[]) (h:DT o=some t) (cR:cq (b4 o) du aV=some bG) (dU:gX N du (je o) ea=some dq) (fV:aL ea=true)
  (hm:∀M' g,fj (aS M bj) (aS M' (bh g)) bG) (aC:∀M' g,@aI (aS M' (bh g)) ea= .map (some g))
  (rest:∀M' g,uz B M' (.map (some g)) ns->hk M M' none->∀aW w,@Here (aS M' (bh g)) _ N {sl:=dq,ms:=[],A:=dd aV} B w0 aW w->wpListIn (Fr none) 0 P (j7 o) (dK P (f_ o) Q) (j6 o) aW w)
  (av:cH.dV<=aV.length:=by first|exact Nat.zero_le _|exact gv rfl) (aq:hV (b4 o).A aV 0:=by exact gn rfl): @e_ (aS M bj) _ P N B w0 Q o:=by
 subst fB;letI:=aS M bj;unfold DT at h;split at h
 ·rename_i op r ops s ks
  refine⟨_,rfl,λa w ah=> ?_⟩;split at h
  ·rename_i da cm
   split at h
   ·rename_i iJ
    cases h;have gA:=ah;obtain⟨⟨φ,ds,ad,af,ay,bD,_⟩,cD,cI⟩:=ah;unfold wpListIn;rw[n_ af.get iJ,aQ rfl];have hw:∀i o,M i=some o->w.heap[i]? =some o:=gA.mN
    let w':ax:={w with heap:=w.heap.push (.map #[] 0)}
    have e8:(execOp a.eval op).run P w= .ok (.value (.map (some w.heap.size))) w':=by
     unfold execOp;rw[cm];rfl
    have fa:∀c',op.op≠.defer c':=λc' h=>by rw[cm] at h;cases h
    refine⟨λ_ _=>trivial,?_⟩;rw[Oper.semAt_eq _ _ _ fa,e8,Oper.uponIn_value];obtain⟨q1,aE⟩:=ph (B:=B) (M:=M) (w:=w) (w':=w') (T:=none) (eN:=some w.heap.size) hw (λi h=>by cases h) (λi ag=> .inr (by cases ag;exact b2 _)) ⟨rfl,rfl,rfl⟩ (b2 _) (by simp [w']) (λi ag _=>by
     show (w.heap.push _)[i]? =_
     rw[Array.getElem?_push,aU ar])
    have cn:uz B (gP M w' none (some w.heap.size)) (.map (some w.heap.size)) []:=by
     refine⟨_,rfl,cI,?_⟩;unfold gP;rw[aQ rfl];show (w.heap.push _)[w.heap.size]? =_;rw[Array.getElem?_push,aQ rfl];rfl
    have gZ:=Here.turns (vals':=bh w.heap.size) cR (hm _ _) q1 av aq gA;letI:=aS (gP M w' none (some w.heap.size)) (bh w.heap.size);have ku:=Here.put (d:=op.dst) gZ (v:=ea) fV dU;rw[aC] at ku;exact rest _ _ cn aE _ w' ku
   ·cases h
  ·cases h
 ·cases h
def DU:Option bO->Option (aJ×J×J×J)
 |some (.oper o _ ops s _)=>match o.op with
  | .mapUpdate t m k x=>match q5 ops o s.sl with
    |some true=>some (t,dB .nil s.sl m,dB .nil s.sl k,dB .nil s.sl x)
    |_=>none
  |_=>none
 |_=>none
theorem agx [cH] {P:aR} {N B:Nat} {w0:ax} {Q:Exit->Act->ax->Prop} {M:Mem} {bj bh:List J} {o:Option bO} {t eC pn:aJ} {m k u:J} {n:fy} {ns ns':List fy} {du dq:aG} {aV:List bw} {bG:eg}
  (fB:ns'=ns++[n]) (h:DU o=some (t,m,k,.bool true)) (aK:bd P (underlying t)=some (.map eC pn)) (aj:bd P (underlying eC)=some .string) (nn:∀b n,bd P (Instr.checkKey b 10000 eC (cr n))=some ())
  (cR:cq (b4 o) du aV=some bG) (dU:gX N du (je o) undef=some dq) (hp:aL m=true) (ak:aL k=true) (em: @aI (aS M bj) m=u) (F': @aI (aS M bj) k=cr n)
  (cn:uz B M u ns) (gm:n∉ns) (hm:∀M',fj (aS M bj) (aS M' bh) bG)
  (rest:∀M',uz B M' u ns'->hk M M' (OA u)->∀aW w,@Here (aS M' bh) _ N {sl:=dq,ms:=[],A:=dd aV} B w0 aW w->wpListIn (Fr none) 0 P (j7 o) (dK P (f_ o) Q) (j6 o) aW w)
  (av:cH.dV<=aV.length:=by first|exact Nat.zero_le _|exact gv rfl) (aq:hV (b4 o).A aV 0:=by exact gn rfl): @e_ (aS M bj) _ P N B w0 Q o:=by
 subst fB;letI:=aS M bj;unfold DU at h;split at h
 ·rename_i op r ops s ks
  refine⟨_,rfl,λa w ah=> ?_⟩;split at h
  ·rename_i da F_ pU gG cm
   split at h
   ·rename_i iJ
    simp only [cE,Prod.mk.injEq] at h;obtain⟨rfl,rfl,rfl,hU⟩:=h;have gA:=ah;obtain⟨⟨φ,ds,ad,af,ay,bD,_⟩,cD,cI⟩:=ah;unfold wpListIn;rw[n_ af.get iJ,aQ rfl];have es:a.eval F_=u:=(aD.ig _ hp (gq (hT φ) af.get F_)).trans em;have nI:a.eval pU=cr n:=(aD.ig _ ak (gq (hT φ) af.get pU)).trans F';have OB:a.eval gG= .bool true:=by
     have xQ:=gq (hT φ) af.get gG;rw[hU] at xQ;exact aD.ig _ rfl xQ
    have hw:∀i o,M i=some o->w.heap[i]? =some o:=gA.mN;obtain⟨b,rfl,cC,ae⟩:=cn;have aA:=hw _ _ ae
    let o':Obj:= .map ⟨r8 0 (ns++[n])⟩ (ns++[n]).length
    let w':ax:={w with heap:=w.heap.setIfInBounds b o'}
    have fo:Obj.map ((⟨r8 0 ns⟩:Array MapEntry).push {key:=cr n,val:= .bool true,born:=ns.length}) (ns.length+1)=o':=by
     show _=Obj.map _ _;rw[Wz,List.length_append,Nat.zero_add];simp
    have e8:(execOp a.eval op).run P w= .ok .skip w':=by
     unfold execOp;rw[cm];simp only [es,nI,OB];show (do Instr.mapUpdate da (.map (some b)) (cr n) (.bool true);pure Next.skip:Sem Next).run P w=_;have cP:(Instr.mapUpdate da (.map (some b)) (cr n) (.bool true)).run P w= .ok () w':=by
      unfold Instr.mapUpdate;refine cQ aK ?_;simp only;refine dc (q2 aA (by simp)) ?_;simp only;refine cQ (nn _ n) ?_;refine dc (WD aj gm w) ?_;simp only;rw[fo];exact wN aA (by simp)
     simp only [Sem.run_bind,cP,Result.andThen_ok];rfl
    have fa:∀c',op.op≠.defer c':=λc' h=>by rw[cm] at h;cases h
    refine⟨λ_ _=>trivial,?_⟩;rw[Oper.semAt_eq _ _ _ fa,e8,Oper.uponIn_skip];have OC:b<w.heap.size:=(Array.getElem?_eq_some_iff.1 aA).1;obtain⟨q1,aE⟩:=ph (B:=B) (M:=M) (w:=w) (w':=w') (T:=some b) (eN:=some b) hw (λi ag=>by cases ag;exact⟨by rw[ae];simp,cC⟩) (λi ag=> .inl ag) ⟨rfl,rfl,rfl⟩ (b2 _) (by simp [w']) (λi ag cO=>by
     show (w.heap.setIfInBounds b o')[i]? =_
     rw[Array.getElem?_setIfInBounds,aU (λe=>cO (by rw[e]))])
    have cn:uz B (gP M w' (some b) (some b)) (.map (some b)) (ns++[n]):=by
     refine⟨_,rfl,cC,?_⟩;unfold gP;rw[aQ rfl];show (w.heap.setIfInBounds b o')[b]? =_;rw[Array.getElem?_setIfInBounds,aQ rfl,aQ OC]
    have gZ:=Here.turns (vals':=bh) cR (hm _) q1 av aq gA;letI:=aS (gP M w' (some b) (some b)) bh;exact rest _ cn aE _ w' (Here.put (d:=op.dst) gZ (v:=undef) rfl dU)
   ·cases h
  ·cases h
 ·cases h
theorem hk.map {B:Nat} {M M':Mem} {T:Option Nat} {v:J} {l:List fy} (aj:hk M M' T) (h:uz B M v l) (cO:∀i,some i=OA v->some i≠T):uz B M' v l:=by
 obtain⟨b,rfl,ad,af⟩:=h;exact⟨b,rfl,ad,aj _ _ af (cO b rfl)⟩
end AE
namespace AE
def r9 (P:aR) [Lib P] (o:Option bO):FuncId×List J×a':=(vy P o).getD (0,[],start)
end AE
namespace AE
structure DV (B:Nat) (M M':Mem) (S:Nat->Prop) (w w':ax):Prop where
 known:∀i,S i->M i≠none/\B<=i
 os:w'.os=w.os
 tape:w'.tape=w.tape
 output:w'.output=w.output
 size:w.heap.size<=w'.heap.size
 block:∀i,i<w.heap.size->¬S i->w'.heap[i]? =w.heap[i]?
 df:∀i o,M' i=some o->w'.heap[i]? =some o/\(M i≠none\/w.heap.size<=i\/i<B)
def BI (M M':Mem) (S:Nat->Prop):Prop:=∀i o,M i=some o->¬S i->M' i=some o
theorem BI.up {B:Nat} {W:ax} {M M':Mem} {S:Nat->Prop} (aj:BI M M' S) (cC:∀i,S i->B<=i) (afP:W.heap.size<=B) (bn:∀i o,aF W i=some o->M i=some o):∀i o,aF W i=some o->M' i=some o:=λi o h=>
 aj i o (bn i o h) λag=>by
  have ad:=cC i ag;have af:=(Array.getElem?_eq_some_iff.1 (show W.heap[i]? =some o from h)).1;omega
theorem BI.own {α:Type} {B:Nat} {M M':Mem} {S:Nat->Prop} {e:aJ} {k:Nat} {enc:α->List J} {v:J} {l:List α} (aj:BI M M' S) (h:dm B M e k enc v l) (cO:∀i,some i=eL v->¬S i):dm B M' e k enc v l:=
 h.mono (b2 _) λi ag o ho=>aj i o ho (cO i ag)
theorem Here.OD [cH] {M M':Mem} {bj vals':List J} {S:Nat->Prop} {N B:Nat} {st:b6} {w0 w w':ax} {a:Act} {sl:aG} {l:List bw} {bG:eg} (cR:cq st sl l=some bG) (hm:fj (aS M bj) (aS M' vals') bG) (aK:DV B M M' S w w') (av:cH.dV<=l.length) (aq:hV st.A l 0)
  (ah: @Here (aS M bj) _ N st B w0 a w): @Here (aS M' vals') _ N {sl,ms:=[],A:=dd l} B w0 a w':=
 Here.Br S cR hm (λi ag=>aK.known i ag) ⟨aK.os,aK.tape,aK.output,b2 _⟩ aK.size (λi ag aC=>aK.block i ag aC) (λi o ag=>aK.df i o ag) av aq ah
def yx (B:Nat) (M:Mem) (w w':ax):Mem:=λi=>if (M i).isSome=true\/w.heap.size<=i\/i<B then w'.heap[i]? else none
theorem OE {B:Nat} {M:Mem} {w w':ax} {i:Nat} (h:(M i).isSome=true\/w.heap.size<=i\/i<B):yx B M w w' i=w'.heap[i]? :=by unfold yx;rw[aQ h]
theorem WE {B:Nat} {M:Mem} {S:Nat->Prop} {w w':ax} (hw:∀i o,M i=some o->w.heap[i]? =some o) (aN:∀i,S i->M i≠none/\B<=i) (ux:w'.os=w.os/\w'.tape=w.tape/\w'.output=w.output) (cl:w.heap.size<=w'.heap.size)
  (ae:∀i,i<w.heap.size->¬S i->w'.heap[i]? =w.heap[i]?):DV B M (yx B M w w') S w w'/\BI M (yx B M w w') S:=by
 refine⟨⟨aN,ux.1,ux.2.1,ux.2.2,cl,ae,λi o ag=> ?_⟩,λi o ag aC=> ?_⟩
 ·unfold yx at ag
  split at ag
  ·rename_i h
   refine⟨ag,?_⟩;rcases h with h|h|h
   ·exact .inl λaf=>by rw[af] at h;cases h
   ·exact .inr (.inl h)
   ·exact .inr (.inr h)
  ·cases ag
 ·rw[OE (.inl (by rw[ag];rfl)),ae i (Array.getElem?_eq_some_iff.1 (hw i o ag)).1 aC]
  exact hw i o ag
theorem zU {M:Mem} {w:ax} (hw:∀i o,M i=some o->w.heap[i]? =some o) {i:Nat} (h:w.heap.size<=i):M i=none:=by
 cases ag:M i with
 |none=>rfl
 |some o=>
  have:=(Array.getElem?_eq_some_iff.1 (hw i o ag)).1;omega
theorem jg [a7] {P:aR} (n:Int):aT P (.ez (.int .i64 n),.int .i64 n):=
 F2 U U U λ_ _ _=>rfl
def Ga:Option bO->Option aJ
 |some (.oper o _ ops s _)=>match o.op with
  | .alloc t=>match q5 ops o s.sl with
    |some true=>some t
    |_=>none
  |_=>none
 |_=>none
theorem OF [cH] {P:aR} {N B:Nat} {w0:ax} {Q:Exit->Act->ax->Prop} {M:Mem} {bj:List J} {o:Option bO} {t:aJ} {z ea:J} {bh:Nat->List J} {du dq:aG} {aV:List bw} {bG:eg}
  (h:Ga o=some t) (bI:bd P (zeroValue t)=some z) (cR:cq (b4 o) du aV=some bG) (dU:gX N du (je o) ea=some dq) (fV:aL ea=true)
  (hm:∀M' g,fj (aS M bj) (aS M' (bh g)) bG) (aC:∀M' g,@aI (aS M' (bh g)) ea= .pointer (some ⟨g,0,none⟩))
  (rest:∀M' g,B<=g->M g=none->M' g=some (.cells z.cells t (0,0))->hk M M' none->∀aW w,@Here (aS M' (bh g)) _ N {sl:=dq,ms:=[],A:=dd aV} B w0 aW w->wpListIn (Fr none) 0 P (j7 o) (dK P (f_ o) Q) (j6 o) aW w)
  (av:cH.dV<=aV.length:=by first|exact Nat.zero_le _|exact gv rfl) (aq:hV (b4 o).A aV 0:=by exact gn rfl): @e_ (aS M bj) _ P N B w0 Q o:=by
 letI:=aS M bj;unfold Ga at h;split at h
 ·rename_i op r ops s ks
  refine⟨_,rfl,λa w ah=> ?_⟩;split at h
  ·rename_i da cm
   split at h
   ·rename_i iJ
    cases h;have gA:=ah;obtain⟨⟨φ,ds,ad,af,ay,bD,_⟩,cD,cI⟩:=ah;unfold wpListIn;rw[n_ af.get iJ,aQ rfl];have hw:∀i o,M i=some o->w.heap[i]? =some o:=gA.mN
    let w':ax:={w with heap:=w.heap.push (.cells z.cells t)}
    have e8:(execOp a.eval op).run P w= .ok (.value (.pointer (some ⟨w.heap.size,0,none⟩))) w':=by
     unfold execOp;rw[cm];show (do pure (Next.value (<-Instr.alloc t true (.tuple #[]))):Sem Next).run P w=_;have ha:(Instr.alloc t true (.tuple #[])).run P w= .ok (.pointer (some ⟨w.heap.size,0,none⟩)) w':=by
      unfold Instr.alloc;refine cQ bI ?_;simp [newVar,newRow,newObj,Sem.run,w']
     simp only [Sem.run_bind,ha,Result.andThen_ok];rfl
    have fa:∀c',op.op≠.defer c':=λc' h=>by rw[cm] at h;cases h
    refine⟨λ_ _=>trivial,?_⟩;rw[Oper.semAt_eq _ _ _ fa,e8,Oper.uponIn_value];obtain⟨q1,aE⟩:=ph (B:=B) (M:=M) (w:=w) (w':=w') (T:=none) (eN:=some w.heap.size) hw (λi h=>by cases h) (λi ag=> .inr (by cases ag;exact b2 _)) ⟨rfl,rfl,rfl⟩ (b2 _) (by simp [w']) (λi ag _=>by
     show (w.heap.push _)[i]? =_
     rw[Array.getElem?_push,aU ar])
    have cn:gP M w' none (some w.heap.size) w.heap.size=some (.cells z.cells t (0,0)):=by
     unfold gP;rw[aQ rfl];show (w.heap.push _)[w.heap.size]? =_;rw[Array.getElem?_push,aQ rfl]
    have gZ:=Here.turns (vals':=bh w.heap.size) cR (hm _ _) q1 av aq gA;letI:=aS (gP M w' none (some w.heap.size)) (bh w.heap.size);have ku:=Here.put (d:=op.dst) gZ (v:=ea) fV dU;rw[aC] at ku;exact rest _ _ cI (zU hw (b2 _)) cn aE _ w' ku
   ·cases h
  ·cases h
 ·cases h
def kx (P:aR) [Lib P] (o:Option bO):b6:={b4 o with A:=(r9 P o).2.2}
theorem agy [a7] [cH] {P:aR} [Lib P] {N B:Nat} {w0:ax} {Q:Exit->Act->ax->Prop} {o:Option bO} {f:FuncId} {args:List J} {R:ax->J->ax->Prop} (h:(vy P o).isSome=true) (aO:(r9 P o).1=f) (ha:(r9 P o).2.1=args) (hp:dP args=true)
  (fI:∀a w,Here N (kx P o) B w0 a w->Calls P f ⟨ew args⟩ w λe w'=>∃v,e= .returned v/\R w v w')
  (bS:∀a w v w',Here N (kx P o) B w0 a w->R w v w'->wpListIn (Fr none) 0 P (j7 o) (dK P (f_ o) Q) (j6 o) (a.put (je o) v) w'):e_ P N B w0 Q o:=by
 have bc:=afN (d:=(0,[],start)) h
 change vy P o=some (r9 P o) at bc
 generalize he:r9 P o=d at bc aO ha;obtain⟨f0,OG,bB⟩:=d;simp only at aO ha;subst aO ha;have t_:kx P o={b4 o with A:=bB}:=by unfold kx;rw[he]
 rw[t_] at fI bS;unfold vy at bc;split at bc
 ·rename_i op r ops s ks
  split at bc
  ·rename_i hw
   split at bc
   ·rename_i hv gi apD ha
    cases bc;refine⟨_,rfl,λa w ah=> ?_⟩;obtain⟨⟨φ,ds,ad,af,ay,bD,fK⟩,cD,cI⟩:=ah;unfold wpListIn;rw[n_ af.get hw,aQ rfl];obtain⟨gE,w1,n,g1,g2,g3⟩:=U4 ay (gq (hT φ) af.get) ha;refine⟨λ_ _=>trivial,?_⟩;letI:dS P:=⟨[]⟩;have agz:Dc P (dB .nil s.sl) s.A op=some (.enter f0 OG,bB):=ha;rw[Oper.semAt_eq _ _ _ (Ja agz),g1];obtain⟨WG,rfl,gy⟩:=g2;rw[Oper.uponIn_enter];refine⟨λh=>absurd h (by simp [Fr,Fence.wide]),?_⟩;obtain⟨db,dr⟩:=DA bD g3 cI;have agA:WG=⟨ew OG⟩:=by
     obtain⟨q1,aE⟩:=gy;obtain⟨u⟩:=WG;rw[aD.x4 OG u hp (by simpa using q1.symm) (λi ag=>by simpa using aE i ag)]
    subst agA;have lD:Here N {b4 (some (.oper op r ops s ks)) with A:=bB} B w0 a w1:=⟨⟨gE,ds,ad.mono (g3.ext ay),af.mono (g3.ext ay),g3.rel,db,fK.step g3⟩,cD.trans dr,Nat.le_trans cI g3.gD⟩;refine CallsIn.mono (Df (fI a w1 lD)) λe w2 he=> ?_
    obtain⟨v,rfl,iB⟩:=he;exact bS a w1 v w2 lD iB
   ·cases bc
  ·cases bc
 ·cases bc
theorem agB [cH] {P:aR} [Lib P] {N B:Nat} {w0:ax} {Q:Exit->Act->ax->Prop} {M:Mem} {bj:List J} {o:Option bO} {f:FuncId} {args:List J} {ea:J} {Y:Type} {bh:Y->List J} {du dq:aG} {aV:List bw} {bG:eg} {S:Nat->Prop} {R:Y->Mem->Prop}
  (h:(vy P o).isSome=true) (aO:(r9 P o).1=f) (ha:(r9 P o).2.1=args) (hp:dP args=true) (cR:cq (kx P o) du aV=some bG) (dU:gX N du (je o) ea=some dq) (fV:aL ea=true)
  (fI:∀w,(∀i o,M i=some o->w.heap[i]? =some o)->B<=w.heap.size->Calls P f ⟨@ew (aS M bj) args⟩ w λe w'=>∃y M',e= .returned (@aI (aS M' (bh y)) ea)/\R y M'/\DV B M M' S w w')
  (hm:∀M' y,R y M'->fj (aS M bj) (aS M' (bh y)) bG)
  (rest:∀M' y,R y M'->∀aW w,@Here (aS M' (bh y)) _ N {sl:=dq,ms:=[],A:=dd aV} B w0 aW w->wpListIn (Fr none) 0 P (j7 o) (dK P (f_ o) Q) (j6 o) aW w)
  (av:cH.dV<=aV.length:=by first|exact Nat.zero_le _|exact gv rfl) (aq:hV (kx P o).A aV 0:=by exact gn rfl): @e_ (aS M bj) _ P N B w0 Q o:=by
 letI:=aS M bj;refine agy (R:=λw v w'=>∃y M',v= @aI (aS M' (bh y)) ea/\R y M'/\DV B M M' S w w') h aO ha hp (λa w ah=>(fI w ah.mN ah.size).mono λe w' he=> ?_) λa w v w' ah iB=> ?_
 ·obtain⟨y,M',rfl,ad,af⟩:=he
  exact⟨_,rfl,y,M',rfl,ad,af⟩
 ·obtain⟨y,M',rfl,ad,af⟩:=iB
  have gZ:=Here.OD (vals':=bh y) cR (hm M' y ad) af av aq ah;exact rest M' y ad _ w' (@Here.put (aS M' (bh y)) _ _ _ _ _ _ _ _ _ _ gZ fV dU)
end AE
namespace AE
def i' (B:Nat) (M:Mem) (v:J) (ty:aJ) (cs:List J):Prop:=∃g,v= .pointer (some ⟨g,0,none⟩)/\B<=g/\M g=some (.cells ⟨cs⟩ ty (0,0))
theorem i'.known {B g:Nat} {M:Mem} {ty:aJ} {cs:List J} (h:i' B M (.pointer (some ⟨g,0,none⟩)) ty cs):M g=some (.cells ⟨cs⟩ ty (0,0))/\B<=g:=by
 obtain⟨agi,e,ad,af⟩:=h;cases e;exact⟨af,ad⟩
theorem i'.ptr {B:Nat} {M:Mem} {v:J} {ty:aJ} {cs:List J} (h:i' B M v ty cs):∃g,v= .pointer (some ⟨g,0,none⟩):=by
 obtain⟨g,e,_⟩:=h;exact⟨g,e⟩
theorem hk.box {B g:Nat} {M M':Mem} {T:Option Nat} {ty:aJ} {cs:List J} (aj:hk M M' T) (h:i' B M (.pointer (some ⟨g,0,none⟩)) ty cs) (cO:∀i,some i=T->some i≠some g):i' B M' (.pointer (some ⟨g,0,none⟩)) ty cs:=
 ⟨g,rfl,h.known.2,aj _ _ h.known.1 λe=>cO g e rfl⟩
theorem cu.kept {α:Type} {M M':Mem} {T:Option Nat} {k:Nat} {enc:α->List J} {a:Option Addr} {n c:Nat} {l:List α} (aj:hk M M' T) (h:cu M k enc (.slice a n c) l) (cO:∀p,a=some p->some p.block≠T):cu M' k enc (.slice a n c) l:=by
 cases h with
 |nil a c=>exact .nil a c
 |mk ae aq h=>exact .mk (aj _ _ ae (cO _ rfl)) aq h
section
variable [a7] {P:aR}
theorem aT.WH {B g j:Nat} {ty t:aJ} {cs:List J} {p r u:J} (cn:i' B a7.df (.pointer (some ⟨g,0,none⟩)) ty cs) (hj:cs[j]? =some u) (hp:aL p=true) (ao:aL r=true) (ha:bd P (isAgg t)=some false) (lZ:aI p= .pointer (some ⟨g,j,none⟩)) (b1:aI r=u):aT P (.bF t p,r):=
 aT.V5 hp ao ha lZ (λw hw=>by
  have:=hw _ _ cn.known.1;simp only [World.cell?,this]
  simpa using hj) b1
theorem aT.WI {x r:J} {a:Addr} (ak:aL x=true) (ao:aL r=true) (ex:aI x= .pointer (some a)) (b1:aI r= .pointer (some a)):aT P (.dQ x,r):=
 F2 (by simpa [np] using ak) ao rfl λdF dG w=>by
  show (fF dF dG (.dQ (aI x))).run P w=_;rw[ex,b1];rfl
theorem aT.WJ {s:aJ} {x r:J} {f g o ty off m:Nat} (aO:((P.fieldsOf s)[f]?).map (λf=>(f.type,f.offset))=some (ty,off)) (aw:bd P (underlying s)=some (.struct (P.fieldsOf s))) (hm:bd P (sizeOf ty)=some m) (aM:m≠0) (ak:aL x=true) (ao:aL r=true)
  (ex:aI x= .pointer (some ⟨g,o,none⟩)) (b1:aI r= .pointer (some ⟨g,o+off,none⟩)):aT P (.cG s x f,r):=by
 obtain⟨h7,ad,af⟩:=Option.map_eq_some_iff.1 aO;cases af;exact aT.cG ak ao aw ad hm aM ex b1
end
def zV:Option bO->Option (aJ×J)
 |some (.oper o _ ops s _)=>match o.op with
  | .box t gG=>match q5 ops o s.sl with
    |some true=>some (t,dB .nil s.sl gG)
    |_=>none
  |_=>none
 |_=>none
theorem DW [cH] {P:aR} {N B:Nat} {w0:ax} {Q:Exit->Act->ax->Prop} {M:Mem} {bj:List J} {o:Option bO} {t:aJ} {x u ea:J} {cs:List J} {bh:Nat->List J} {du dq:aG} {aV:List bw} {bG:eg}
  (h:zV o=some (t,x)) (ak:aL x=true) (ex: @aI (aS M bj) x=u) (fZ:u.cells=⟨cs⟩) (cR:cq (b4 o) du aV=some bG) (dU:gX N du (je o) ea=some dq) (fV:aL ea=true)
  (hm:∀M' g,fj (aS M bj) (aS M' (bh g)) bG) (aC:∀M' g,@aI (aS M' (bh g)) ea= .pointer (some ⟨g,0,none⟩))
  (rest:∀M' g,M g=none->i' B M' (.pointer (some ⟨g,0,none⟩)) t cs->hk M M' none->∀aW w,@Here (aS M' (bh g)) _ N {sl:=dq,ms:=[],A:=dd aV} B w0 aW w->wpListIn (Fr none) 0 P (j7 o) (dK P (f_ o) Q) (j6 o) aW w)
  (av:cH.dV<=aV.length:=by first|exact Nat.zero_le _|exact gv rfl) (aq:hV (b4 o).A aV 0:=by exact gn rfl): @e_ (aS M bj) _ P N B w0 Q o:=by
 letI:=aS M bj;unfold zV at h;split at h
 ·rename_i op r ops s ks
  refine⟨_,rfl,λa w ah=> ?_⟩;split at h
  ·rename_i da gG cm
   split at h
   ·rename_i iJ
    cases h;have gA:=ah;obtain⟨⟨φ,ds,ad,af,ay,bD,_⟩,cD,cI⟩:=ah;unfold wpListIn;rw[n_ af.get iJ,aQ rfl];have nI:a.eval gG=u:=(aD.ig _ ak (gq (hT φ) af.get gG)).trans ex;have hw:∀i o,M i=some o->w.heap[i]? =some o:=gA.mN
    let w':ax:={w with heap:=w.heap.push (.cells ⟨cs⟩ t)}
    have e8:(execOp a.eval op).run P w= .ok (.value (.pointer (some ⟨w.heap.size,0,none⟩))) w':=by
     unfold execOp;rw[cm];simp only [nI];show (do pure (Next.value (<-Instr.box t u)):Sem Next).run P w=_;have ha:(Instr.box t u).run P w= .ok (.pointer (some ⟨w.heap.size,0,none⟩)) w':=by
      unfold Instr.box newVar newRow;rw[fZ];simp [newObj,Sem.run,w']
     simp only [Sem.run_bind,ha,Result.andThen_ok];rfl
    have fa:∀c',op.op≠.defer c':=λc' h=>by rw[cm] at h;cases h
    refine⟨λ_ _=>trivial,?_⟩;rw[Oper.semAt_eq _ _ _ fa,e8,Oper.uponIn_value];obtain⟨q1,aE⟩:=ph (B:=B) (M:=M) (w:=w) (w':=w') (T:=none) (eN:=some w.heap.size) hw (λi h=>by cases h) (λi ag=> .inr (by cases ag;exact b2 _)) ⟨rfl,rfl,rfl⟩ (b2 _) (by simp [w']) (λi ag _=>by
     show (w.heap.push _)[i]? =_
     rw[Array.getElem?_push,aU ar])
    have cn:i' B (gP M w' none (some w.heap.size)) (.pointer (some ⟨w.heap.size,0,none⟩)) t cs:=by
     refine⟨_,rfl,cI,?_⟩;unfold gP;rw[aQ rfl];show (w.heap.push _)[w.heap.size]? =_;rw[Array.getElem?_push,aQ rfl]
    have gZ:=Here.turns (vals':=bh w.heap.size) cR (hm _ _) q1 av aq gA;letI:=aS (gP M w' none (some w.heap.size)) (bh w.heap.size);have ku:=Here.put (d:=op.dst) gZ (v:=ea) fV dU;rw[aC] at ku;exact rest _ _ (zU hw (b2 _)) cn aE _ w' ku
   ·cases h
  ·cases h
 ·cases h
theorem WK [cH] {P:aR} {N B:Nat} {w0:ax} {Q:Exit->Act->ax->Prop} {M:Mem} {bj bh:List J} {o:Option bO} {t ty:aJ} {g j:Nat} {p x u:J} {cs cs':List J} {du dq:aG} {aV:List bw} {bG:eg}
  (fB:cs'=cs.set j u) (h:oM o=some (t,p,x)) (cl:bd P (sizeOf t)=some 1)
  (cR:cq (b4 o) du aV=some bG) (dU:gX N du (je o) undef=some dq) (hp:aL p=true) (ak:aL x=true) (lZ: @aI (aS M bj) p= .pointer (some ⟨g,j,none⟩)) (ex: @aI (aS M bj) x=u) (hu:u.cells= #[u]) (jV:u.oneCell'=true)
  (cn:i' B M (.pointer (some ⟨g,0,none⟩)) ty cs) (hj:j<cs.length) (hm:∀M',fj (aS M bj) (aS M' bh) bG)
  (rest:∀M',i' B M' (.pointer (some ⟨g,0,none⟩)) ty cs'->hk M M' (some g)->∀aW w,@Here (aS M' bh) _ N {sl:=dq,ms:=[],A:=dd aV} B w0 aW w->wpListIn (Fr none) 0 P (j7 o) (dK P (f_ o) Q) (j6 o) aW w)
  (av:cH.dV<=aV.length:=by first|exact Nat.zero_le _|exact gv rfl) (aq:hV (b4 o).A aV 0:=by exact gn rfl): @e_ (aS M bj) _ P N B w0 Q o:=by
 subst fB;letI:=aS M bj;unfold oM at h;split at h
 ·rename_i op r ops s ks
  refine⟨_,rfl,λa w ah=> ?_⟩;split at h
  ·rename_i da od gG cm
   split at h
   ·rename_i iJ
    cases h;have gA:=ah;obtain⟨⟨φ,ds,ad,af,ay,bD,_⟩,cD,cI⟩:=ah;unfold wpListIn;rw[n_ af.get iJ,aQ rfl];have es:a.eval od= .pointer (some ⟨g,j,none⟩):=(aD.ig _ hp (gq (hT φ) af.get od)).trans lZ;have nI:a.eval gG=u:=(aD.ig _ ak (gq (hT φ) af.get gG)).trans ex;have hw:∀i o,M i=some o->w.heap[i]? =some o:=gA.mN;obtain⟨bn,cC⟩:=cn.known;have aA:=hw _ _ bn
    let fH:Array J:=(cs.take j++[u]++cs.drop (j+1)).toArray
    have e9:fH=⟨cs.set j u⟩:=by
     show (cs.take j++[u]++cs.drop (j+1)).toArray=_;rw[List.set_eq_take_append_cons_drop,aQ hj];simp
    have xW:(storeCells ⟨g,j,none⟩ [u]).run P w= .ok () (w.setRow g fH):=by
     have:=run_storeCells_at P g j ty [u] 0 ⟨cs⟩ w aA (by simp only [List.length_cons,List.length_nil,List.size_toArray];omega) (λv aC=>by rw[List.mem_singleton.1 aC];exact jV);simpa only [Nat.add_zero,List.length_cons,List.length_nil] using this
    have e8:(execOp a.eval op).run P w= .ok .skip (w.setRow g fH):=by
     unfold execOp;rw[cm];simp only [es,nI];show (do Instr.storeAt t (.pointer (some ⟨g,j,none⟩)) u;pure Next.skip:Sem Next).run P w=_;have cP:(Instr.storeAt t (.pointer (some ⟨g,j,none⟩)) u).run P w= .ok () (w.setRow g fH):=by
      unfold Instr.storeAt;refine cQ (a:=(⟨g,j,none⟩:Addr)) rfl ?_;unfold storeVar;refine cQ cl ?_;rw[aU (by rw[hu];simp),hu];exact xW
     simp only [Sem.run_bind,cP,Result.andThen_ok];rfl
    have fa:∀c',op.op≠.defer c':=λc' h=>by rw[cm] at h;cases h
    refine⟨λ_ _=>trivial,?_⟩;rw[Oper.semAt_eq _ _ _ fa,e8,Oper.uponIn_skip];obtain⟨q1,aE⟩:=ph (B:=B) (M:=M) (w':=w.setRow g fH) (T:=some g) (eN:=some g) hw (λi ag=>by cases ag;exact⟨by rw[bn];simp,cC⟩) (λi ag=> .inl ag) ⟨rfl,rfl,rfl⟩ (b2 _) (by simp [World.setRow]) (λj _ hj=>setRow_other w g j fH (λh=>hj (by rw[h])));have vA:i' B (gP M (w.setRow g fH) (some g) (some g)) (.pointer (some ⟨g,0,none⟩)) ty (cs.set j u):=by
     refine⟨g,rfl,cC,?_⟩;unfold gP;rw[aQ rfl,<-e9];exact setRow_heap w g ⟨cs⟩ fH ty (0,0) aA
    have gZ:=Here.turns (vals':=bh) cR (hm _) q1 av aq gA;letI:=aS (gP M (w.setRow g fH) (some g) (some g)) bh;exact rest _ vA aE _ _ (Here.put (d:=op.dst) gZ (v:=undef) rfl dU)
   ·cases h
  ·cases h
 ·cases h
def oh:Code->List Nat->List fc->List fc
 | .seq x y,n::p,acc=>bif Nat.beq n 0 then oh x p (.mO y::acc) else oh y p acc
 | .cond _ x y,n::p,acc=>bif Nat.beq n 2 then oh x p acc else oh y p acc
 | .block id x,_::p,acc=>oh x p (.vw id::acc)
 | .loop x,n::p,acc=>oh x p (.sZ x (n-5)::acc)
 |_,_,acc=>acc
def zW:Code->List Nat->Code
 | .seq x y,n::p=>bif Nat.beq n 0 then zW x p else zW y p
 | .cond _ x y,n::p=>bif Nat.beq n 2 then zW x p else zW y p
 | .block _ x,_::p=>zW x p
 | .loop x,_::p=>zW x p
 |c,_=>c
def agC (c:Code) (p:List Nat):Array Oper:=match zW c p with
 | .region _ ops _=>ops
 |_=> #[]
def s9 (c:Code) (p:List Nat):Code:=match zW c p with
 | .loop b=>b
 |_=> .skip
theorem agD [a7] [cH] {P:aR} [Lib P] {F:List (fW×J)} {T:List (FuncId×List J×J)} {N B bm d:Nat} {w0 w:ax} {a:Act} {o:Option bO} {r:List Oper} {ops:Array Oper} {ks:List fc} {s:b6} {Q:Exit->Act->ax->Prop} [mP Q]
  (ao:j6 o=r) (ho:j7 o=ops) (aj:f_ o=ks) (cK:P.follows .mixedOrders=true) (c0:s5 P F) (d_:r6 P T)
  (h:e_ P N B w0 Q (Bs P F T N bm d r ops ks s)) (ah:Here N s B w0 a w):wpListIn (Fr none) 0 P (j7 o) (dK P (f_ o) Q) (j6 o) a w:=by
 subst ao ho aj;exact FX cK c0 d_ h ah
theorem s' {P:aR} {o:Option bO} {b:Code} {ks:List fc} {a:Act} {w:ax} {R:Act->ax->Prop} {Q:Exit->Act->ax->Prop} (ae:pe o=b) (aj:f_ o=ks)
  (h:b.wpIn (Fr none) 0 P (Exit.then R (dK P ks Q)) a w):(pe o).wpIn (Fr none) 0 P (Exit.then R (dK P (f_ o) Q)) a w:=by
 subst ae aj;exact h
end AE
namespace AE
structure b0 where
 nL:Nat->Prop
 ok:Mem->Prop
 w_:∀M,ok M->∀b,nL b->M b≠none
 loc:∀M M',(∀b o,nL b->M b=some o->M' b=some o)->ok M->ok M'
def ij (g:Nat) (ty:aJ) (cs:List J):b0 where
 nL b:=b=g
 ok M:=M g=some (.cells ⟨cs⟩ ty (0,0))
 w_ M h b ae:=by
  subst ae;rw[h];simp
 loc M M' h ho:=h g _ rfl ho
def h2 {α:Type} (e:aJ) (k:Nat) (enc:α->List J) (v:J) (l:List α):b0 where
 nL b:=some b=eL v
 ok M:=dm 0 M e k enc v l
 w_ M h b ae:=(h.known b ae).1
 loc M M' h ho:=by
  rcases ho with ho|⟨g,cap,cur,rfl,aq,ad,aA,af⟩
  ·exact .inl ho
  ·exact .inr ⟨g,cap,cur,rfl,aq,ad,h g _ (nH ⟨g,_,none⟩ _ aq).symm aA,af⟩
def ky {α:Type} (B:Nat) (M:Mem) (e:aJ) (k:Nat) (enc:α->List J) (v:J) (l:List α):Prop:=
 (∃a,v= .slice a 0 0/\l=[])\/
 ∃g off cap cur,v= .slice (some ⟨g,off,none⟩) l.length cap/\0<cap/\B<=g/\M g=some (.cells cur e (0,0))/\l.length<=cap/\cap<=maxLen/\cur.size=off+cap*k/\(cur.toList.drop off).take (l.length*k)=l.flatMap enc
section
variable {α:Type} {B:Nat} {M:Mem} {e:aJ} {k:Nat} {enc:α->List J} {v:J} {l:List α}
theorem dm.queue (h:dm B M e k enc v l):ky B M e k enc v l:=by
 rcases h with h|⟨g,cap,cur,ad,af,ay,bD,cD,cI,fK,o8⟩
 ·exact .inl h
 ·exact .inr ⟨g,0,cap,cur,ad,af,ay,bD,cD,cI,ar,by rw[List.drop_zero];exact o8⟩
theorem ky.known (h:ky B M e k enc v l):∀i,some i=eL v->M i≠none/\B<=i:=λi ag=>by
 rcases h with ⟨a,rfl,_⟩|⟨g,off,cap,cur,rfl,aq,cC,aA,_⟩
 ·rw[FY] at ag
  cases ag
 ·rw[nH _ _ aq] at ag
  have e:=Option.some.inj ag;subst e;exact⟨λh=>(by rw[aA] at h;cases h),cC⟩
theorem ky.mono {vp:Nat} {M':Mem} (h:ky B M e k enc v l) (cC:∀i,some i=eL v->vp<=i) (hm:∀i,some i=eL v->∀o,M i=some o->M' i=some o):ky vp M' e k enc v l:=by
 rcases h with h|⟨g,off,cap,cur,rfl,aq,ad,aA,af⟩
 ·exact .inl h
 ·exact .inr ⟨g,off,cap,cur,rfl,aq,cC g (nH ⟨g,_,none⟩ _ aq).symm,hm g (nH ⟨g,_,none⟩ _ aq).symm _ aA,af⟩
theorem ky.slice (h:ky B M e k enc v l):∃a c,v= .slice a l.length c:=by
 rcases h with ⟨a,rfl,rfl⟩|⟨g,off,cap,cur,rfl,_⟩
 ·exact⟨a,0,rfl⟩
 ·exact⟨_,cap,rfl⟩
theorem ky.arr (h:ky B M e k enc v l) (aj:∀x,(enc x).length=k):cu M k enc v l:=by
 rcases h with ⟨a,rfl,rfl⟩|⟨g,off,cap,cur,rfl,aq,ad,af,ay,bD,cD,cI⟩
 ·exact .nil _ _
 ·refine .mk af ay λi x ak j u hu=> ?_
  have fK:=zN aj l i x ak j u hu;rw[<-cI,List.getElem?_take] at fK;split at fK
  ·rw[List.getElem?_drop] at fK
   rw[Nat.add_assoc];simpa using fK
  ·cases fK
theorem ky.cap (h:ky B M e k enc v l):∃a c,v= .slice a l.length c/\l.length<=c:=by
 rcases h with ⟨a,rfl,rfl⟩|⟨g,off,cap,cur,rfl,ad,af,ay,bD,_⟩
 ·exact⟨a,0,rfl,b2 _⟩
 ·exact⟨_,cap,rfl,bD⟩
theorem dm.agE {vp:Nat} {M':Mem} (h:dm B M e k enc v l) (cC:∀i,some i=eL v->vp<=i) (hm:∀i,some i=eL v->∀o,M i=some o->M' i=some o):dm vp M' e k enc v l:=by
 rcases h with h|⟨g,cap,cur,rfl,aq,ad,aA,af⟩
 ·exact .inl h
 ·exact .inr ⟨g,cap,cur,rfl,aq,cC g (nH ⟨g,_,none⟩ _ aq).symm,hm g (nH ⟨g,_,none⟩ _ aq).symm _ aA,af⟩
end
def pV {α:Type} (e:aJ) (k:Nat) (enc:α->List J) (v:J) (l:List α):b0 where
 nL b:=some b=eL v
 ok M:=ky 0 M e k enc v l
 w_ M h b ae:=(h.known b ae).1
 loc M M' h ho:=ho.mono (λ_ _=>Nat.zero_le _) λi ag o ad=>h i o ag ad
def r' {α:Type} (k:Nat) (enc:α->List J) (v:J) (l:List α):b0 where
 nL b:=some b=v.ownBlock
 ok M:=cu M k enc v l/\∀b,some b=v.ownBlock->M b≠none
 w_ M h b ae:=h.2 b ae
 loc M M' h ho:=by
  refine⟨?_,λb ae=> ?_⟩
  ·obtain⟨ad,af⟩:=ho
   cases ad with
   |nil a c=>exact .nil a c
   |mk ae aq ay=>exact .mk (h _ _ rfl ae) aq ay
  ·cases bn:M b with
   |none=>exact absurd bn (ho.2 b ae)
   |some o=>
    rw[h b o ae bn];simp
theorem cu.arr {α:Type} {M:Mem} {k:Nat} {enc:α->List J} {v:J} {l:List α} (h:cu M k enc v l) (_:∀x,(enc x).length=k):cu M k enc v l:=h
structure cv (M:Mem) (L:List b0):Prop where
 ok:∀(i:Nat) (R:b0),L[i]? =some R->R.ok M
 two:∀(i j:Nat) (R S:b0),i≠j->L[i]? =some R->L[j]? =some S->∀b,R.nL b->¬S.nL b
def ik (L:List b0):Nat->Prop:=λb=>∃(i:Nat) (R:b0),L[i]? =some R/\R.nL b
theorem DX (b:Nat):¬ik [] b:=λ⟨i,R,h,_⟩=>by simp at h
theorem cv.nil (M:Mem):cv M []:=⟨λi R h=>by simp at h,λi j R S _ h=>by simp at h⟩
theorem cv.known {M:Mem} {L:List b0} (h:cv M L):∀b,ik L b->M b≠none:=λb ⟨i,R,ag,ae⟩=>R.w_ M (h.ok i R ag) b ae
theorem cv.mono {M M':Mem} {L:List b0} (h:cv M L) (hm:∀b o,ik L b->M b=some o->M' b=some o):cv M' L:=
 ⟨λi R ag=>R.loc M M' (λb o ae ho=>hm b o ⟨i,R,ag,ae⟩ ho) (h.ok i R ag),h.two⟩
structure c5 (M:Mem) (L:List b0) (M':Mem) (L':List b0):Prop where
 sp:cv M' L'
 keeps:BI M M' (ik L)
 fresh:∀b,ik L' b->ik L b\/M b=none
structure bH (B:Nat) (dx:Mem) (b3:List b0) (M:Mem) (L:List b0):Prop where
 sp:cv M L
 keeps:BI dx M (ik b3)
 fresh:∀b,ik L b->ik b3 b\/dx b=none
 base:∀b,ik b3 b\/dx b=none->B<=b
def pick (L:List b0):List Nat->List b0
 |[]=>[]
 |i::is=>match L[i]? with
  |some R=>R::pick L is
  |none=>pick L is
def jK (n:Nat):List Nat->Bool
 |[]=>true
 |i::is=>Nat.blt i n&& !is.contains i&&jK n is
def lj (L:List b0):List Nat->List b0->List b0
 |i::is,R::i_=>lj (L.set i R) is i_
 |_,_=>L
theorem OH {n i:Nat} {is:List Nat} (h:jK n (i::is)=true):i<n/\i∉is/\jK n is=true:=by
 simp only [jK,cV,Bool.not_eq_true',List.contains_eq_mem,decide_eq_false_iff_not] at h;exact⟨of_decide_eq_true (by simpa [Nat.blt_eq] using h.1.1),h.1.2,h.2⟩
theorem WL {L:List b0}:∀{is:List Nat},jK L.length is=true->∀(j:Nat),(pick L is)[j]? =(is[j]?).bind λ(i:Nat)=>L[i]?
 |[],_,j=>by simp [pick]
 |i::is,h,j=>by
  obtain⟨ad,af,ay⟩:=OH h;unfold pick;rw[fA ad];cases j with
  |zero=>simp [fA ad]
  |succ j=>
   simp only [List.getElem?_cons_succ];exact WL ay j
theorem WM {n:Nat}:∀{is:List Nat},jK n is=true->∀{j fC i:Nat},is[j]? =some i->is[fC]? =some i->j=fC
 |[],_,j,fC,i,h,_=>by simp at h
 |x::is,h,j,fC,i,ad,af=>by
  obtain⟨q1,aE,ca⟩:=OH h;cases j with
  |zero=>
   cases fC with
   |zero=>rfl
   |succ fC=>
    simp only [List.getElem?_cons_zero,cE] at ad;simp only [List.getElem?_cons_succ] at af;subst ad;exact absurd (List.mem_of_getElem? af) aE
  |succ j=>
   simp only [List.getElem?_cons_succ] at ad;cases fC with
   |zero=>
    simp only [List.getElem?_cons_zero,cE] at af;subst af;exact absurd (List.mem_of_getElem? ad) aE
   |succ fC=>
    simp only [List.getElem?_cons_succ] at af;rw[WM ca ad af]
theorem Gb {L:List b0} {is:List Nat} (h:jK L.length is=true) {j:Nat} {R:b0} (hj:(pick L is)[j]? =some R):∃(i:Nat),is[j]? =some i/\L[i]? =some R:=by
 rw[WL h] at hj;exact Option.bind_eq_some_iff.1 hj
theorem J2 {L:List b0} {is:List Nat} (h:jK L.length is=true) {b:Nat} (ae:ik (pick L is) b):ik L b:=by
 obtain⟨j,R,hj,iB⟩:=ae;obtain⟨i,_,ag⟩:=Gb h hj;exact⟨i,R,ag,iB⟩
theorem cv.pick {M:Mem} {L:List b0} (s:cv M L) (is:List Nat) (h:jK L.length is=true):cv M (pick L is) where
 ok j R hj:=by
  obtain⟨i,_,ag⟩:=Gb h hj;exact s.ok i R ag
 two j fC R S cO hj gR b ae dR:=by
  obtain⟨i,ad,af⟩:=Gb h hj;obtain⟨rT,ay,bD⟩:=Gb h gR;refine s.two i rT R S (λe=> ?_) af bD b ae dR;subst e;exact cO (WM h ad ay)
theorem J3:∀(is:List Nat) (L i_:List b0),(lj L is i_).length=L.length
 |[],L,i_=>by unfold lj;rfl
 |i::is,L,[]=>by unfold lj;rfl
 |i::is,L,R::i_=>by
  unfold lj;rw[J3 is];simp
theorem OI:∀{is:List Nat} {L i_:List b0} {m:Nat},m∉is->(lj L is i_)[m]? =L[m]?
 |[],L,i_,m,_=>by unfold lj;rfl
 |i::is,L,[],m,_=>by unfold lj;rfl
 |i::is,L,R::i_,m,h=>by
  unfold lj;rw[OI (λhm=>h (List.mem_cons_of_mem _ hm)),List.getElem?_set,aU (λe=>h (by rw[e];exact List.mem_cons_self))]
theorem WN {n:Nat}:∀{is:List Nat} {L i_:List b0} {m:Nat} {R:b0},jK n is=true->n=L.length->i_.length=is.length->m∈is->(lj L is i_)[m]? =some R->∃(j:Nat),is[j]? =some m/\i_[j]? =some R
 |[],L,i_,m,R,_,_,_,hm,_=>by simp at hm
 |i::is,L,[],m,R,_,_,hl,_,_=>by simp at hl
 |i::is,L,apE::i_,m,R,h,av,hl,hm,aA=>by
  obtain⟨q1,aE,ca⟩:=OH h;unfold lj at aA;by_cases ag:m∈is
  ·obtain⟨j,ad,af⟩:=WN ca (by rw[List.length_set];exact av) (by simpa using hl) ag aA
   exact⟨j+1,by simpa using ad,by simpa using af⟩
  ·have he:m=i:=by
    rcases List.mem_cons.1 hm with h|h
    ·exact h
    ·exact absurd h ag
   subst he;rw[OI ag,List.getElem?_set,aQ rfl,aQ ar] at aA;exact⟨0,rfl,aA⟩
theorem Gc {L L' N:List b0} {is:List Nat} (h:jK L.length is=true) (hl:L'.length=is.length) {m:Nat} {R:b0} (hm:(lj L is L'++N)[m]? =some R):
  (∃(j:Nat),(L'++N)[j]? =some R/\((is[j]? =some m/\j<is.length)\/(j=is.length+(m-L.length)/\L.length<=m)))\/(L[m]? =some R/\m∉is):=by
 by_cases b8:m<L.length
 ·rw[List.getElem?_append_left (by rw[J3];exact b8)] at hm
  by_cases ag:m∈is
  ·obtain⟨j,ad,af⟩:=WN h rfl hl ag hm
   have hj:j<is.length:=(List.getElem?_eq_some_iff.1 ad).1;exact .inl ⟨j,by rw[List.getElem?_append_left ar];exact af,.inl ⟨ad,hj⟩⟩
  ·rw[OI ag] at hm
   exact .inr ⟨hm,ag⟩
 ·rw[List.getElem?_append_right (by rw[J3];omega),J3] at hm
  exact .inl ⟨is.length+(m-L.length),by rw[List.getElem?_append_right ar,hl];rw[show is.length+(m-L.length)-is.length=m-L.length by omega];exact hm,.inr ⟨rfl,ar⟩⟩
section
variable {B:Nat} {dx M M':Mem} {b3 L L' N:List b0}
theorem cv.put (s:cv M L) (is:List Nat) (h:jK L.length is=true) (hl:L'.length=is.length) (t:c5 M (AE.pick L is) M' (L'++N)):cv M' (lj L is L'++N):=by
 have WO:∀(i:Nat) (R:b0),L[i]? =some R->i∉is->∀b,R.nL b->¬ik (AE.pick L is) b:=λi R ag av b ae ⟨j,S,hj,aN⟩=>by
  obtain⟨rT,ad,af⟩:=Gb h hj;exact s.two i rT R S (λe=>av (by rw[e];exact List.mem_of_getElem? ad)) ag af b ae aN
 have gm:∀(i:Nat) (R:b0),L[i]? =some R->i∉is->∀b,R.nL b->¬ik (L'++N) b:=λi R ag av b ae jm=>by
  rcases t.fresh b jm with ad|ad
  ·exact WO i R ag av b ae ad
  ·exact R.w_ M (s.ok i R ag) b ae ad
 refine⟨λm R hm=> ?_,λm m' R S cO hm rM b ae dR=> ?_⟩
 ·rcases Gc h hl hm with ⟨j,hj,_⟩|⟨ag,av⟩
  ·exact t.sp.ok j R hj
  ·exact R.loc M M' (λb o ae ho=>t.keeps b o ho (WO m R ag av b ae)) (s.ok m R ag)
 ·rcases Gc h hl hm with ⟨j,hj,e6⟩|⟨ag,av⟩
  ·rcases Gc h hl rM with ⟨fC,gR,OJ⟩|⟨lv,J4⟩
   ·refine t.sp.two j fC R S (λe=> ?_) hj gR b ae dR
    subst e;rcases e6 with ⟨ad,af⟩|⟨ad,af⟩
    ·rcases OJ with ⟨ay,bD⟩|⟨ay,bD⟩
     ·rw[ad] at ay
      exact cO (Option.some.inj ay)
     ·omega
    ·rcases OJ with ⟨ay,bD⟩|⟨ay,bD⟩
     ·omega
     ·exact cO ar
   ·exact gm m' S lv J4 b dR ⟨j,R,hj,ae⟩
  ·rcases Gc h hl rM with ⟨fC,gR,OJ⟩|⟨lv,J4⟩
   ·exact gm m R ag av b ae ⟨fC,S,gR,dR⟩
   ·exact s.two m m' R S cO ag lv b ae dR
theorem agF (s:cv M L) {is:List Nat} (h:jK L.length is=true) (hl:L'.length=is.length) (t:c5 M (AE.pick L is) M' (L'++N)) {b:Nat} (ae:ik (lj L is L'++N) b):ik L b\/M b=none:=by
 obtain⟨m,R,hm,iB⟩:=ae;rcases Gc h hl hm with ⟨j,hj,_⟩|⟨ag,av⟩
 ·rcases t.fresh b ⟨j,R,hj,iB⟩ with ad|ad
  ·exact .inl (J2 h ad)
  ·exact .inr ad
 ·exact .inl ⟨m,R,ag,iB⟩
theorem bH.put (h:bH B dx b3 M L) (is:List Nat) (h3:jK L.length is=true) (hl:L'.length=is.length) (t:c5 M (AE.pick L is) M' (L'++N)):bH B dx b3 M' (lj L is L'++N) where
 sp:=h.sp.put is h3 hl t
 keeps i o ag av:=by
  have ad:=h.keeps i o ag av;refine t.keeps i o ad λaf=> ?_
  rcases h.fresh i (J2 h3 af) with ay|ay
  ·exact av ay
  ·rw[ag] at ay
   cases ay
 fresh b ae:=by
  rcases agF h.sp h3 hl t ae with ad|ad
  ·exact h.fresh b ad
  ·by_cases af:ik b3 b
   ·exact .inl af
   ·right
    cases ay:dx b with
    |none=>rfl
    |some o=>
     have:=h.keeps b o ay af;rw[ad] at this;cases this
 base:=h.base
theorem bH.mQ (h:bH B dx b3 M L) (i:Nat) {R OK:b0} (ag:L[i]? =some R) (t:c5 M [R] M' [OK]):bH B dx b3 M' (L.set i OK):=by
 have b8:i<L.length:=(List.getElem?_eq_some_iff.1 ag).1;have h3:jK L.length [i]=true:=by
  simp [jK,Nat.blt_eq,b8]
 have hp:AE.pick L [i]=[R]:=by simp [AE.pick,ag]
 have:=h.put (L':=[OK]) (N:=[]) [i] h3 rfl (by rw[hp];exact t);simpa [lj] using this
theorem bH.new (h:bH B dx b3 M L) {R:b0} (t:c5 M [] M' [R]):bH B dx b3 M' (L++[R]):=by
 have:=h.put (L':=[]) (N:=[R]) [] U U (by exact t);simpa [lj] using this
theorem bH.pick (h:bH B dx b3 M L) (is:List Nat) (h3:jK L.length is=true):bH B dx b3 M (AE.pick L is):=
 ⟨h.sp.pick is h3,h.keeps,λb ae=>h.fresh b (J2 h3 ae),h.base⟩
theorem bH.low (h:bH B dx b3 M L):∀b,ik L b->B<=b:=λb ae=>h.base b (h.fresh b ae)
theorem bH.start (W:ax) (L:List b0) (h:cv (aF W) L):bH 0 (aF W) L (aF W) L:=⟨h,λ_ _ h _=>h,λ_ h=> .inl h,λ_ _=>Nat.zero_le _⟩
theorem bH.qA (W:ax):bH W.heap.size (aF W) [] (aF W) []:=
 ⟨cv.nil _,λ_ _ h _=>h,λb h=>absurd h (DX b),λb h=>by
   rcases h with h|h
   ·exact absurd h (DX b)
   ·exact Array.getElem?_eq_none_iff.1 h⟩
theorem bH.ext (h:bH B dx [] M L):∀i o,dx i=some o->M i=some o:=λi o ag=>h.keeps i o ag (DX i)
theorem bH.kept (h:bH B dx b3 M L) {i:Nat} {o:Obj} (ag:dx i=some o) (av:¬ik b3 i):M i=some o:=h.keeps i o ag av
theorem bH.done {w':ax} (h:bH B dx b3 M L) (hw:∀i o,M i=some o->w'.heap[i]? =some o):c5 dx b3 (aF w') L:=
 ⟨h.sp.mono λb o _ ho=>hw b o ho,λi o ag av=>hw i o (h.keeps i o ag av),h.fresh⟩
theorem bH.box (h:bH B dx b3 M L) (i:Nat) {g:Nat} {ty:aJ} {cs:List J} (ag:L[i]? =some (ij g ty cs)):i' B M (.pointer (some ⟨g,0,none⟩)) ty cs:=⟨g,rfl,h.low g ⟨i,_,ag,rfl⟩,h.sp.ok i _ ag⟩
theorem bH.arr (h:bH B dx b3 M L) (i:Nat) {α:Type} {e:aJ} {k:Nat} {enc:α->List J} {v:J} {l:List α} (ag:L[i]? =some (h2 e k enc v l)):dm B M e k enc v l:=
 dm.agE (h.sp.ok i _ ag) (λj hj=>h.low j ⟨i,_,ag,hj⟩) λ_ _ _ ho=>ho
theorem bH.jq (h:bH B dx b3 M L) (i:Nat) {α:Type} {e:aJ} {k:Nat} {enc:α->List J} {v:J} {l:List α} (ag:L[i]? =some (pV e k enc v l)):ky B M e k enc v l:=
 ky.mono (h.sp.ok i _ ag) (λj hj=>h.low j ⟨i,_,ag,hj⟩) λ_ _ _ ho=>ho
theorem bH.red (h:bH B dx b3 M L) (i:Nat) {α:Type} {k:Nat} {enc:α->List J} {v:J} {l:List α} (ag:L[i]? =some (r' k enc v l)):cu M k enc v l:=(h.sp.ok i _ ag).1
theorem bH.any (h:bH B dx b3 M L) (i:Nat) {R:b0} (ag:L[i]? =some R):R.ok M:=h.sp.ok i _ ag
end
theorem cv.box {M:Mem} {L:List b0} (h:cv M L) (i:Nat) {g:Nat} {ty:aJ} {cs:List J} (ag:L[i]? =some (ij g ty cs)):i' 0 M (.pointer (some ⟨g,0,none⟩)) ty cs:=⟨g,rfl,Nat.zero_le _,h.ok i _ ag⟩
theorem cv.arr {M:Mem} {L:List b0} (h:cv M L) (i:Nat) {α:Type} {e:aJ} {k:Nat} {enc:α->List J} {v:J} {l:List α} (ag:L[i]? =some (h2 e k enc v l)):dm 0 M e k enc v l:=h.ok i _ ag
theorem cv.jq {M:Mem} {L:List b0} (h:cv M L) (i:Nat) {α:Type} {e:aJ} {k:Nat} {enc:α->List J} {v:J} {l:List α} (ag:L[i]? =some (pV e k enc v l)):ky 0 M e k enc v l:=h.ok i _ ag
theorem cv.red {M:Mem} {L:List b0} (h:cv M L) (i:Nat) {α:Type} {k:Nat} {enc:α->List J} {v:J} {l:List α} (ag:L[i]? =some (r' k enc v l)):cu M k enc v l:=(h.ok i _ ag).1
theorem cv.one {M:Mem} {R:b0} (h:R.ok M):cv M [R]:=by
 refine⟨λi S ag=> ?_,λi j S T cO ag hj=> ?_⟩
 ·cases i with
  |zero=>
   have e:=Option.some.inj (show some R=some S from ag);rw[<-e];exact h
  |succ i=>simp at ag
 ·cases i with
  |zero=>
   cases j with
   |zero=>exact absurd rfl cO
   |succ j=>simp at hj
  |succ i=>simp at ag
theorem nM {R:b0} {b:Nat}:ik [R] b↔R.nL b:=by
 constructor
 ·rintro ⟨i,S,ag,ae⟩
  cases i with
  |zero=>
   have e:=Option.some.inj (show some R=some S from ag);rw[e];exact ae
  |succ i=>simp at ag
 ·intro h
  exact⟨0,R,rfl,h⟩
section
variable {M M':Mem}
theorem xb {B g:Nat} {ty:aJ} {cs cs':List J} (cn:i' B M' (.pointer (some ⟨g,0,none⟩)) ty cs') (bS:hk M M' (some g)):c5 M [ij g ty cs] M' [ij g ty cs']:=
 ⟨cv.one cn.known.1,λi o ag av=>bS i o ag λe=>av (nM.2 (Option.some.inj e)),λb ae=> .inl (nM.2 (show b=g from nM.1 ae))⟩
theorem yy {B g:Nat} {ty:aJ} {cs:List J} (cn:i' B M' (.pointer (some ⟨g,0,none⟩)) ty cs) (av:M g=none) (bS:hk M M' none):c5 M [] M' [ij g ty cs]:=
 ⟨cv.one cn.known.1,λi o ag _=>bS i o ag λe=>(by cases e),λb ae=> .inr (by rw[show b=g from nM.1 ae];exact av)⟩
variable {α:Type} {B:Nat} {e:aJ} {k:Nat} {enc:α->List J} {v aB:J} {l l':List α}
theorem r_ (cn:dm B M' e k enc aB l'):(h2 e k enc aB l').ok M':=cn.mono (Nat.zero_le _) λ_ _ _ h=>h
theorem WQ (cn:ky B M' e k enc aB l'):(pV e k enc aB l').ok M':=cn.mono (λ_ _=>Nat.zero_le _) λ_ _ _ h=>h
theorem OL (cn:dm B M' e k enc aB l') (bS:hk M M' (eL v)) (aO:∀i,some i=eL aB->some i=eL v\/M i=none):c5 M [h2 e k enc v l] M' [h2 e k enc aB l']:=
 ⟨cv.one (r_ cn),λi o ag av=>bS i o ag λe=>av (nM.2 e),λb ae=>by
   rcases aO b (nM.1 ae) with h|h
   ·exact .inl (nM.2 h)
   ·exact .inr h⟩
theorem Gd (cn:dm B M' e k enc v l') (bS:hk M M' (eL v)):c5 M [h2 e k enc v l] M' [h2 e k enc v l']:=OL cn bS λ_ h=> .inl h
theorem J5 (cn:ky B M' e k enc aB l') (bS:hk M M' (eL v)) (aO:∀i,some i=eL aB->some i=eL v\/M i=none):c5 M [pV e k enc v l] M' [pV e k enc aB l']:=
 ⟨cv.one (WQ cn),λi o ag av=>bS i o ag λe=>av (nM.2 e),λb ae=>by
   rcases aO b (nM.1 ae) with h|h
   ·exact .inl (nM.2 h)
   ·exact .inr h⟩
theorem J6 (cn:dm B M' e k enc v l) (bS:hk M M' none) (aO:∀i,some i=eL v->M i=none):c5 M [] M' [h2 e k enc v l]:=
 ⟨cv.one (r_ cn),λi o ag _=>bS i o ag λe=>(by cases e),λb ae=> .inr (aO b (nM.1 ae))⟩
end
theorem WR {B:Nat} {M:Mem} {w w':ax} {dx:Mem} {b3 L nN L':List b0} (h:bH B dx b3 M L) (is:List Nat) (h3:jK L.length is=true) (hp:AE.pick L is=nN) (hw:∀i o,M i=some o->w.heap[i]? =some o) (cC:B<=w.heap.size) (aw:c5 (aF w) nN (aF w') L') (hl:cb 0 w w'):
  ∃M',c5 M nN M' L'/\DV B M M' (ik nN) w w':=by
 subst hp;have ae:∀i,i<w.heap.size->¬ik (AE.pick L is) i->w'.heap[i]? =w.heap[i]? :=λi ag av=>by
  have ay:aF w i=some (w.heap[i]):=Array.getElem?_eq_getElem ag;have bD:=aw.keeps i _ ay av;rw[Array.getElem?_eq_getElem ag];exact bD
 have hd:∀i,ik (AE.pick L is) i->M i≠none/\B<=i:=λi ag=>⟨(h.sp.pick is h3).known i ag,h.low i (J2 h3 ag)⟩
 obtain⟨t1,t2⟩:=WE (B:=B) (M:=M) (S:=ik (AE.pick L is)) (w:=w) (w':=w') hw hd ⟨hl.below.os,hl.below.tape,hl.below.output⟩ hl.size ae;have gm:∀b,ik L' b->((M b).isSome=true/\B<=b)\/w.heap.size<=b:=λb pa=>by
  rcases aw.fresh b pa with ay|ay
  ·obtain⟨db,dr⟩:=hd b ay
   refine .inl ⟨?_,dr⟩;cases bn:M b with
   |none=>exact absurd bn db
   |some o=>rfl
  ·exact .inr (Array.getElem?_eq_none_iff.1 ay)
 refine⟨yx B M w w',⟨aw.sp.mono λb o pa ho=> ?_,t2,λb pa=> ?_⟩,t1⟩
 ·rw[OE (by
   rcases gm b pa with ay|ay
   ·exact .inl ay.1
   ·exact .inr (.inl ay))]
  exact ho
 ·rcases aw.fresh b pa with ay|ay
  ·exact .inl ay
  ·exact .inr (zU hw (Array.getElem?_eq_none_iff.1 ay))
theorem bH.at {B:Nat} {M:Mem} {w:ax} {dx:Mem} {b3 L nN:List b0} (h:bH B dx b3 M L) (is:List Nat) (h3:jK L.length is=true) (hp:AE.pick L is=nN) (hw:∀i o,M i=some o->w.heap[i]? =some o):cv (aF w) nN:=by
 subst hp;exact(h.sp.pick is h3).mono λb o _ ho=>hw b o ho
theorem agG {Y:Type} {P:aR} {f:FuncId} {args:Array J} {B:Nat} {M:Mem} {w:ax} {dx:Mem} {b3 L nN:List b0} {ea:J} {bh:Y->List J} {r:Y->J} {L':Y->List b0} (h:bH B dx b3 M L) (is:List Nat) (h3:jK L.length is=true) (hp:AE.pick L is=nN) (hw:∀i o,M i=some o->w.heap[i]? =some o) (cC:B<=w.heap.size)
  (aC:∀M' y,@aI (aS M' (bh y)) ea=r y) (fI:Calls P f args w λe w'=>(∃y,e= .returned (r y)/\c5 (aF w) nN (aF w') (L' y))/\cb 0 w w'):
  Calls P f args w λe w'=>∃y M',e= .returned (@aI (aS M' (bh y)) ea)/\c5 M nN M' (L' y)/\DV B M M' (ik nN) w w':=
 fI.mono λe w' he=>by
  obtain⟨⟨y,rfl,aw⟩,hl⟩:=he;obtain⟨M',ad,af⟩:=WR h is h3 hp hw cC aw hl;exact⟨y,M',by rw[aC],ad,af⟩
end AE
end Go.Proofs.YtepcfjbfkedlpaaDoor
