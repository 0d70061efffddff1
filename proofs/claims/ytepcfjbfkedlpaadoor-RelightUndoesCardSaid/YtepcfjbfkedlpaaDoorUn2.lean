/- Parts of the proof. -/
import Derived.Test.YtepcfjbfkedlpaaDoorUn1
import Derived.LoopNIn
import Derived.Laws.Sem
import Derived.Below
import Derived.Test.YtepcfjbfkedlpaaDoorProg
import Derived.KernelRfl
import Derived.Laws.Entries
import Derived.Laws.StructEq
import Derived.IntWalk
import Derived.Laws.AppendOwn
import Derived.Laws.Small
import Derived.OrdersIn
import Derived.Lib.SliceRun
import Derived.Laws.Slices
import Derived.Laws.Strings2
import Derived.Laws.Concat
import Derived.ChangeKeysEq
import Derived.Test.YtepcfjbfkedlpaaDoorRows
import Derived.ProofKit
import Derived.Lay
import Derived.SevenTiedAt
import Derived.Carry
import Derived.Lib.SmallJoins
import Derived.Deep.Slices
import Derived.LaidSub
set_option maxRecDepth 100000
set_option maxHeartbeats 4000000
namespace Go.Proofs.YtepcfjbfkedlpaaDoor
open Go
namespace AE
variable [a1]
structure r2 (gl:bV Nat) (N:Nat) (ds:List Deferred) (ops:Array Oper) (m:Nat) (B:Nat->a6) (vs:List J) (fE:b2) (w0:ax) (a0:Act) (φ:b2) (listed:Array Bool) (a:Act) (w:ax):Prop where
 size:listed.size=ops.size
 down:∀i j,listed.getD i false=true->direct ops i j=true->listed.getD j false=true
 sT:∀i,m<=i->listed.getD i false=false
 defers:a.defers=ds
 my:a.tmps.size=N
 rel:b0 φ (B m) w
 old:∀b,b<(B 0).n->φ b=fE b
 mapped:∀b e,(B 0).n<=b->φ b=some e->∃j,j<m/\listed.getD j false=true/\own B j b
 total:∀j b,j<m->listed.getD j false=true->own B j b->φ b≠none
 new:∀b e,(B 0).n<=b->φ b=some e->w0.heap.size<=e.bk
 Nd:∀j b e b' e',j<m->own B j b->¬own B j b'->φ b=some e->φ b'=some e'->e.bk≠e'.bk
 keep:∀i,i<w0.heap.size->(∀b e k,fE b=some e->e.bk=i->(B 0).bl.get b=some k->k.ro=true)->w.heap[i]? =w0.heap[i]?
 gL:w0.heap.size<=w.heap.size
 os:w.os=w0.os
 tape:w.tape=w0.tape
 output:w.output=w0.output
 drawn:iF w0<=iF w
 other:∀t,(∀i,i<m->listed.getD i false=true->fx ops i≠some t)->a.tmps.getD t undef=a0.tmps.getD t undef
 val:∀i t,i<m->listed.getD i false=true->fx ops i=some t->aD (restrict φ (B (i+1)).n) (vs.getD i cu) (a.tmps.getD t undef)
omit [a1] in
theorem uk {φ:b2} {n b:Nat} {e:hP} (h:restrict φ n b=some e):b<n/\φ b=some e:=by
 unfold restrict at h;by_cases af:b<n
 ·rw[aY af] at h;exact⟨af,h⟩
 ·rw[a' af] at h;cases h
omit [a1] in
theorem UU {φ:b2} {n ga:Nat} (h:n<=ga):∀b e,restrict φ n b=some e->restrict φ ga b=some e:=λb e af=>by
 obtain⟨ad,ag⟩:=uk af;unfold restrict;rw[aY aj];exact ag
section
variable {P:aR} [Lib P] [eh P] {C:ix} {gl:bV Nat} {N:Nat} {ds:List Deferred} {ops:Array Oper} {m:Nat} {dv mz:aF} {B:Nat->a6} {vs:List J} {fE φ:b2} {w0 w:ax} {a0 a:Act} {listed:Array Bool}
theorem r2.done (i':pw fE B vs m) (k8:b0 fE (B 0) w0) (zm:fD N ds fE mz a0) (bf:r2 gl N ds ops m B vs fE w0 a0 φ listed a w) (lr:∀i,i<m->listed.getD i false=true)
  (fo:hR N ops (λ_=>cu) (List.range m) mz=some dv) {eK:aF} (ad:hR N ops (λj=>vs.getD j cu) (List.range m) dv=some eK):
  fD N ds φ eK a/\cA fE (B 0) w0 φ (B m) w:=by
 have sU:∀b e,fE b=some e->φ b=some e:=λb e af=>by rw[bf.old b (k8.lt af)];exact af
 refine⟨⟨bf.my,bf.defers,λt v aC=> ?_⟩,?_⟩
 ·rcases oW _ _ _ ad t v aC with ⟨j,hj,bc,rfl⟩|⟨av,aA⟩
  ·have ff:=List.mem_range.1 hj
   exact(bf.val j t ff (lr j ff) bc).mono λb e af=>(uk af).2
  ·rcases oW _ _ _ fo t v aA with ⟨j,hj,bc,rfl⟩|⟨_,vn⟩
   ·exact .cu _
   ·rw[bf.other t λi ai _=>av i (List.mem_range.2 ai)]
    exact(zm.get t v vn).mono sU
 ·refine {rel:=bf.rel,eC:=bf.old,rN:=λb af ef=> ?_,new:=λb e af he=> .inl (bf.new b e af he),qp:=i'.sV (Nat.zero_le _) (cj _),low:=by rw[i'.ad3 (cj _)];exact cj _,
          same:=λb af _=>i'.wT (Nat.zero_le _) (cj _) b af,ro:=λb k al _=> ?_,keep:=bf.keep,gL:=bf.gL,os:=bf.os,tape:=bf.tape,output:=bf.output,drawn:=bf.drawn}
  ·obtain⟨j,hj,ho⟩:=i'.UT (cj _) af ef
   exact bf.total j b hj (lr j hj) ho
  ·rw[i'.wT (Nat.zero_le _) (cj _) b (k8.wf.lt b k al)];exact al
theorem r2.here (i':pw fE B vs m) (_:b0 fE (B 0) w0) (UW:(B m).n<=dead) (bf:r2 gl N ds ops m B vs fE w0 a0 φ listed a w) {i:Nat} (ai:i<m):b0 (restrict φ (B i).n) (B i) w:=by
 obtain⟨ψ,w',g1,g2,g3,_⟩:=i'.ex i aj;have bc:∀b e,φ b=some e->b≠dead:=λb e af ah=>by
  have:=bf.rel.lt af;omega
 have gO:∀b,b<(B i).n->(B m).bl.get b=(B i).bl.get b:=λb af=>i'.wT aj (cj _) b af
 refine⟨g1.wf,λb e af=> ?_,λb e k b' e' k' af ef al dB cW=> ?_,λb e k b' e' k' af ef al dB aQ jR=> ?_,λi o ai=>⟨(bf.rel.dq i o ai).1,λb e af=>(bf.rel.dq i o ai).2 b e (uk af).2⟩⟩
 ·obtain⟨ck,ie⟩:=uk af
  obtain⟨k,al,ad,ag⟩:=bf.rel.eC b e ie;rw[gO b ck] at al;refine⟨k,al,ad,?_⟩;have r1:ψ b≠none:=by
   rcases Nat.lt_or_ge b (B 0).n with h0|h0
   ·rw[g2 b h0,<-bf.old b h0,ie];simp
   ·exact g3 b h0 ck
  obtain⟨e',oV⟩:=Option.ne_none_iff_exists'.1 r1;obtain⟨k',dB,_,ay⟩:=g1.eC b e' oV;rw[al] at dB;cases dB;exact ag.restrict bc (λb e af=>g1.lt af) ay
 ·obtain⟨ck,ie⟩:=uk af
  obtain⟨rS,sX⟩:=uk ef;exact bf.rel.apart b e k b' e' k' ie sX ((gO b ck).trans al) ((gO b' rS).trans dB) cW
 ·obtain⟨ck,ie⟩:=uk af
  obtain⟨rS,sX⟩:=uk ef;exact bf.rel.along b e k b' e' k' ie sX ((gO b ck).trans al) ((gO b' rS).trans dB) aQ jR
theorem r2.step (i':pw fE B vs m) (_:b0 fE (B 0) w0) (bf:r2 gl N ds ops m B vs fE w0 a0 φ listed a w) {i:Nat} {o:Oper} (ai:i<m) (hm:m<=ops.size) (ho:ops[i]? =some o) (sY:listed.getD i false=false)
  (um:∀k,direct ops i k=true->listed.getD k false=true) (mC:∀i j,i<m->j<m->i≠j->∀t,fx ops i=some t->fx ops j≠some t) (ck:∀i t,i<m->fx ops i=some t->t<N)
  {bC:a6} (mP:(B i).n<=bC.low) (q':B (i+1)={bC with low:=(B i).low}) {c8:b2} {aB:J} {w':ax} (aC:aD c8 (vs.getD i cu) aB) (c1:cA (restrict φ (B i).n) {B i with low:=(B i).n} w c8 bC w'):
  ∃fm,r2 gl N ds ops m B vs fE w0 a0 fm (listed.setIfInBounds i true) (a.put o.dst aB) w':=by
 have h5:(B (i+1)).n=bC.n:=by rw[q']
 have ad6:(B (i+1)).bl=bC.bl:=by rw[q']
 have k9:fx ops i=o.dst:=by simp [fx,ho]
 have fg:∀j,(listed.setIfInBounds i true).getD j false=true↔j=i\/listed.getD j false=true:=by
  intro j;by_cases hj:j=i
  ·subst hj
   have:=bf.size;simp [show j<listed.size by omega]
  ·rw[getD_set_ne false (Ne.symm hj)]
   simp [hj]
 let fm:b2:=λb=>if b<(B i).n then φ b else if b<(B (i+1)).n then c8 b else φ b
 have E6:∀b,b<(B i).n->fm b=φ b:=λb af=>aY af
 have I1:∀b,own B i b->fm b=c8 b:=λb af=>by
  show (if _ then _ else if _ then _ else _)=_;rw[a' (by unfold own at af;omega),aY af.2]
 have Nf:∀b,(B (i+1)).n<=b->fm b=φ b:=λb af=>by
  have:=i'.I0 i ai;show (if _ then _ else if _ then _ else _)=_;rw[a' aj,a' aj]
 have mx:∀b,b<(B i).n\/own B i b\/(B (i+1)).n<=b:=λb=>by unfold own;omega
 have UX:∀b,b<(B i).n->c8 b=φ b:=λb af=>by
  rw[c1.eC b af];unfold restrict;rw[aY af]
 have UY:∀b e,c8 b=some e->b<(B (i+1)).n:=λb e af=>by rw[h5];exact c1.rel.lt af
 have UZ:∀b e,c8 b=some e->fm b=some e:=λb e af=>by
  have:=UY b e af;rcases mx b with h|h|h
  ·rw[E6 b h,<-UX b h];exact af
  ·rw[I1 b h];exact af
  ·omega
 have ad7:∀b,own B i b->φ b=none:=λb af=>by
  cases h:φ b with
  |none=>rfl
  |some e=>
   exfalso;have h0:(B 0).n<=b:=Nat.le_trans (i'.sV (Nat.zero_le i) aj) af.1;obtain⟨j,hj,mS,iu⟩:=bf.mapped b e h0 h;have:=i'.US ai hj af iu;subst this;rw[sY] at mS;cases mS
 have Ng:∀b e,φ b=some e->fm b=some e:=λb e af=>by
  rcases mx b with h|h|h
  ·rw[E6 b h];exact af
  ·rw[ad7 b h] at af;cases af
  ·rw[Nf b h];exact af
 have ad8:∀b e,own B i b->c8 b=some e->w.heap.size<=e.bk:=λb e af he=>by
  rcases c1.new b e af.1 he with h|⟨ct,e0,ey,q1,_,bW,_,_⟩
  ·exact h
  ·exfalso
   have:=(uk q1).1;omega
 have aou:(B 0).n<=(B i).n:=i'.sV (Nat.zero_le i) aj;have E7:∀b,b<(B (i+1)).n->(B m).bl.get b=bC.bl.get b:=λb af=>by rw[i'.wT aj (cj _) b af,ad6]
 have Nh:∀b e,φ b=some e->e.bk<w.heap.size:=λb e af=>by
  obtain⟨k,_,_,ag⟩:=bf.rel.eC b e af;exact ag.lt
 have U0:∀b e,fm b=some e->(b<(B (i+1)).n/\c8 b=some e)\/((B (i+1)).n<=b/\φ b=some e):=λb e af=>by
  have:=i'.I0 i ai;rcases mx b with h|h|h
  ·rw[E6 b h,<-UX b h] at af;exact .inl ⟨aj,af⟩
  ·rw[I1 b h] at af;exact .inl ⟨h.2,af⟩
  ·rw[Nf b h] at af;exact .inr ⟨h,af⟩
 have wU:∀b e,fm b=some e->(own B i b/\c8 b=some e/\w.heap.size<=e.bk)\/(¬own B i b/\φ b=some e/\e.bk<w.heap.size):=λb e af=>by
  rcases mx b with h|h|h
  ·rw[E6 b h] at af;exact .inr ⟨by unfold own;omega,af,Nh b e af⟩
  ·rw[I1 b h] at af;exact .inl ⟨h,af,ad8 b e h af⟩
  ·rw[Nf b h] at af;exact .inr ⟨by unfold own;omega,af,Nh b e af⟩
 have ad9:∀b e,(B (i+1)).n<=b->φ b=some e->w'.heap[e.bk]? =w.heap[e.bk]? :=λb e af he=>by
  have h0:(B 0).n<=b:=by have:=i'.I0 i ai;omega
  obtain⟨j,hj,mS,iu⟩:=bf.mapped b e h0 he;refine c1.keep e.bk (Nh b e he) λct e0 ey eX ze _=> ?_
  exfalso;obtain⟨aov,ad'⟩:=uk eX;refine bf.Nd j b e ct e0 hj iu (λah=> ?_) he ad' ze.symm;have oj:i+1<=j:=by
   rcases Nat.lt_or_ge i j with h|h
   ·exact h
   ·exfalso
    have:=i'.sV (i:=j+1) (j:=i+1) aj aj;unfold own at iu;omega
  have:=i'.sV (i:=i) (j:=j) aj aj;unfold own at ah;omega
 refine⟨fm,by simpa using bf.size,?_,?_,by rw[Act.CZ];exact bf.defers,by rw[Act.size_put];exact bf.my,⟨bf.rel.wf,?_,?_,?_,λi o ai=>⟨(c1.rel.dq i o ai).1,λb e af=>by
   rcases U0 b e af with ⟨_,h⟩|⟨_,h⟩
   ·exact(c1.rel.dq i o ai).2 b e h
   ·exact(bf.rel.dq i o ai).2 b e h⟩⟩,?_,?_,?_,?_,?_,?_,Nat.le_trans bf.gL c1.gL,c1.os.trans bf.os,c1.tape.trans bf.tape,c1.output.trans bf.output,Nat.le_trans bf.drawn c1.drawn,?_,?_⟩
 ·intro j k hj bc
  rw[fg] at hj ⊢;rcases hj with rfl|hj
  ·exact .inr (um k bc)
  ·exact .inr (bf.down j k hj bc)
 ·intro j hj
  rw[getD_set_ne false aj];exact bf.sT j hj
 ·
  intro b e af;rcases U0 b e af with ⟨l_,ef⟩|⟨l_,ef⟩
  ·obtain⟨k,al,ad,ag⟩:=c1.rel.eC b e ef
   exact⟨k,(E7 b l_).trans al,ad,ag.mono UZ rfl⟩
  ·obtain⟨k,al,ad,ag⟩:=bf.rel.eC b e ef
   exact⟨k,al,ad,ag.mono Ng (ad9 b e l_ ef)⟩
 ·
  intro b e k b' e' k' af ef al dB cW;rcases wU b e af with ⟨iw,ih,q1⟩|⟨iw,ih,q1⟩<;>rcases wU b' e' ef with ⟨jS,hz,aH⟩|⟨jS,hz,aH⟩
  ·exact c1.rel.apart b e k b' e' k' ih hz ((E7 b iw.2).symm.trans al) ((E7 b' jS.2).symm.trans dB) cW
  ·omega
  ·omega
  ·exact bf.rel.apart b e k b' e' k' ih hz al dB cW
 ·intro b e k b' e' k' af ef al dB aQ jR
  rcases wU b e af with ⟨iw,ih,q1⟩|⟨iw,ih,q1⟩<;>rcases wU b' e' ef with ⟨jS,hz,aH⟩|⟨jS,hz,aH⟩
  ·exact c1.rel.along b e k b' e' k' ih hz ((E7 b iw.2).symm.trans al) ((E7 b' jS.2).symm.trans dB) aQ jR
  ·omega
  ·omega
  ·exact bf.rel.along b e k b' e' k' ih hz al dB aQ jR
 ·intro b af
  rw[E6 b aj];exact bf.old b af
 ·intro b e h0 af
  rcases wU b e af with ⟨iw,ih,_⟩|⟨iw,ih,_⟩
  ·exact⟨i,ai,(fg i).2 (.inl rfl),iw⟩
  ·obtain⟨j,hj,mS,iu⟩:=bf.mapped b e h0 ih
   exact⟨j,hj,(fg j).2 (.inr mS),iu⟩
 ·intro j b hj hl iu
  rcases(fg j).1 hl with rfl|hl
  ·rw[I1 b iu]
   exact c1.rN b iu.1 (by rw[<-h5];exact iu.2)
  ·obtain⟨e,he⟩:=Option.ne_none_iff_exists'.1 (bf.total j b hj hl iu)
   rw[Ng b e he];simp
 ·intro b e h0 af
  rcases wU b e af with ⟨iw,ih,q1⟩|⟨iw,ih,_⟩
  ·exact Nat.le_trans bf.gL q1
  ·exact bf.new b e h0 ih
 ·
  intro j b e b' e' hj iu U1 af ef;rcases wU b e af with ⟨iw,ih,q1⟩|⟨iw,ih,q1⟩<;>rcases wU b' e' ef with ⟨jS,hz,aH⟩|⟨jS,hz,aH⟩
  ·exfalso
   have:=i'.US hj ai iu iw;subst this;exact U1 jS
  ·omega
  ·omega
  ·exact bf.Nd j b e b' e' hj iu U1 ih hz
 ·
  intro k al lr;rw[c1.keep k (Nat.lt_of_lt_of_le al bf.gL) ?_,bf.keep k al lr];intro b e dj af he xZ;obtain⟨aow,U2⟩:=uk af;rcases Nat.lt_or_ge b (B 0).n with h0|h0
  ·refine lr b e dj ?_ he ?_
   ·rw[<-bf.old b h0];exact U2
   ·rw[<-i'.wT (Nat.zero_le i) aj b h0];exact xZ
  ·have:=bf.new b e h0 U2
   omega
 ·
  intro t h;have q_:o.dst≠some t:=λah=>h i ai ((fg i).2 (.inl rfl)) (k9.trans ah)
  have:(a.put o.dst aB).tmps.getD t undef=a.tmps.getD t undef:=by
   rcases Nat.lt_or_ge t a.tmps.size with kG|kG
   ·rw[Act.sS _ _ _ _ kG,a' q_]
   ·simp [Array.getElem?_eq_none kG,Array.getElem?_eq_none (show (a.put o.dst aB).tmps.size<=t by rw[Act.size_put];exact kG)]
  rw[this];exact bf.other t λj hj hl=>h j hj ((fg j).2 (.inr hl))
 ·intro j t hj hl bc
  by_cases ei:j=i
  ·subst ei
   have kG:t<N:=ck j t hj bc;have:(a.put o.dst aB).tmps.getD t undef=aB:=by
    rw[Act.sS _ _ _ _ (by rw[bf.my];exact kG),aY (k9.symm.trans bc)]
   rw[this];refine aC.mono λb e af=> ?_
   unfold restrict;rw[aY (UY b e af)];exact UZ b e af
  ·have mS:=((fg j).1 hl).resolve_left ei
   have kG:t<N:=ck j t hj bc;have:(a.put o.dst aB).tmps.getD t undef=a.tmps.getD t undef:=by
    rw[Act.sS _ _ _ _ (by rw[bf.my];exact kG),a'];intro ah;exact mC i j ai hj (Ne.symm ei) t (k9.trans ah) bc
   rw[this];refine(bf.val j t hj mS bc).mono λb e af=> ?_
   obtain⟨ad,ag⟩:=uk af;unfold restrict;rw[aY ad];exact Ng b e ag
end
end AE
namespace AE
variable [a1]
section
variable {P:aR} {ops:Array Oper}
omit [a1] in
theorem Ni {ro:Option Nat} {Q:Exit->Act->ax->Prop} {m:Nat} (oX:∀i j,i<ops.size->direct ops i j=true->j<i) (vp:∀i j,i<ops.size->m<=j->j<i->M_ ops i j):
  ∀(bn k:Nat) (listed:Array Bool) (a:Act) (w:ax),m<=k->listed.size=ops.size->(∀i,listed.getD i false=decide (i<k/\i<ops.size))->
   q9 listed<=bn->wpListIn (Fr ro) 0 P ops Q (ops.toList.drop k) a w->wpAnyIn (Fr ro) 0 P .any ops Q bn listed a w:=by
 intro bn
 induction bn with
 |zero=>
  intro k listed a w sZ aw hl aQ h;have al:ops.size<=k:=by
   rcases Nat.lt_or_ge k ops.size with al|al
   ·exfalso
    have ad:=hl k;simp only [Nat.lt_irrefl,false_and,decide_false] at ad;have:=xW (i:=k) (listed:=listed) aj (by rw[qA aj];exact ad);omega
   ·exact al
  have ao:Region.ready .any ops listed=[]:=by
   apply List.eq_nil_iff_forall_not_mem.2;intro i ai;obtain⟨h0,o,ho,_⟩:=mem_ready.1 ai;have k4:i<ops.size:=(Array.getElem?_eq_some_iff.1 ho).1;rw[qA aj,hl i] at h0;simp [k4] at h0;omega
  rw[List.drop_of_length_le (by simpa using al)] at h;exact⟨ao,h⟩
 |succ bn cz=>
  intro k listed a w sZ aw hl aQ h;rcases Nat.lt_or_ge k ops.size with al|al
  ·have x0:listed.getD k false=false:=by rw[hl k];simp
   have ho:ops[k]? =some ops[k]:=Array.getElem?_eq_getElem al;have uo:k∈Region.ready .any ops listed:=by
    refine mem_ready.2 ⟨by rw[qA aj];exact x0,ops[k],ho,λe he af=> ?_⟩;have:direct ops k e.on=true:=by
     simp only [direct,ho];exact Array.any_eq_true'.2 ⟨e,he,by simp [af]⟩
    have:=oX k e.on al this;rw[hl e.on];simp;omega
   refine⟨λh0=>absurd (h0▸uo) (by simp),λi ai=> ?_⟩;have Nj:i=k:=by
    obtain⟨h0,o,l9,_⟩:=mem_ready.1 ai;have k4:i<ops.size:=(Array.getElem?_eq_some_iff.1 l9).1;rw[qA aj,hl i] at h0;simp only [k4,and_true,decide_eq_false_iff_not,Nat.not_lt] at h0;rcases Nat.lt_or_eq_of_le h0 with r3|r3
    ·exfalso
     have down:∀i j,listed.getD i false=true->direct ops i j=true->listed.getD j false=true:=by
      intro i j ad ag;rw[hl i] at ad;simp only [decide_eq_true_eq] at ad;have:=oX i j ad.2 ag;rw[hl j];simp;omega
     have:=vp i k k4 aj r3 listed down (qz ai);rw[x0] at this;cases this
    ·exact r3.symm
   subst Nj;have ad_:ops.toList.drop i=ops[i]::ops.toList.drop (i+1):=by
    rw[List.drop_eq_getElem_cons (by simpa using al)];simp
   rw[ad_] at h;have U3:∀a7 w',wpListIn (Fr ro) 0 P ops Q (ops.toList.drop (i+1)) a7 w'->wpAnyIn (Fr ro) 0 P .any ops Q bn (listed.setIfInBounds i true) a7 w':=by
    intro a7 w' fu;refine cz (i+1) _ a7 w' aj (by simpa using aw) ?_ ?_ fu
    ·intro j
     by_cases hj:j=i
     ·subst hj
      simp [aw,al]
     ·rw[getD_set_ne false (Ne.symm hj),hl j]
      congr 1;simp only [eq_iff_iff];omega
    ·have:=xW (i:=i) (listed:=listed) aj (by rw[qA aj];exact x0)
     omega
   unfold wpOpIn;simp only [ho];unfold wpListIn at h;split at h
   ·rename_i hw
    rw[aY hw];exact Oper.wpIn_mono U3 h
   ·rename_i hw
    rw[a' hw];exact⟨h.1,U3 _ _ h.2⟩
  ·refine⟨λ_=> ?_,λi ai=> ?_⟩
   ·rw[List.drop_of_length_le (by simpa using al)] at h
    exact h
   ·exfalso
    obtain⟨h0,o,ho,_⟩:=mem_ready.1 ai;have k4:i<ops.size:=(Array.getElem?_eq_some_iff.1 ho).1;rw[qA aj,hl i] at h0;simp [k4] at h0;omega
end
section
variable {P:aR} [Lib P] [eh P] {C:ix} {gl:bV Nat} {N:Nat} {ds:List Deferred} {ro:Option Nat} {ops:Array Oper} {m:Nat} {dv mz eK:aF} {L:List Nat} {B:Nat->a6} {vs:List J} {fE:b2} {w0:ax} {a0:Act}
theorem aea {Q:Exit->Act->ax->Prop} (hI:ui ops L m N=true) (cX:lP P gl C) (i':pw fE B vs m) (k8:b0 fE (B 0) w0) (C8:mT gl fE) (zm:fD N ds fE mz a0) (UW:(B m).n<=dead)
  (fo:hR N ops (λ_=>cu) (List.range m) mz=some dv) (ad:hR N ops (λj=>vs.getD j cu) (List.range m) dv=some eK)
  (hl:∀i o,i<m->ops[i]? =some o->C3 P C gl N ops L m dv i o (vs.take i) (vs.getD i cu) (B i) (B (i+1)))
  (aeb:∀φ a w,fD N ds φ eK a->cA fE (B 0) w0 φ (B m) w->wpListIn (Fr ro) 0 P ops Q (ops.toList.drop m) a w):
  ∀(bn:Nat) (listed:Array Bool) (a:Act) (w:ax) (φ:b2),r2 gl N ds ops m B vs fE w0 a0 φ listed a w->(∀j∈L,j<m->listed.getD j false=true)->q9 listed<=bn->wpAnyIn (Fr ro) 0 P .any ops Q bn listed a w:=by
 obtain⟨hm,ou,mC,ck,rV,oX,vp⟩:=C1 hI;have tail:∀(bn:Nat) (listed:Array Bool) (a:Act) (w:ax) (φ:b2),r2 gl N ds ops m B vs fE w0 a0 φ listed a w->q9 listed<=bn->(∀i,i<m->listed.getD i false=true)->wpAnyIn (Fr ro) 0 P .any ops Q bn listed a w:=by
  intro bn listed a w φ bf aQ lQ;refine Ni oX (λi j ai hj ei=>(vp i j ai aj ei).resolve_left aj) bn m listed a w (cj _) bf.size (λi=> ?_) aQ ?_
  ·by_cases ai:i<m
   ·rw[lQ i ai];simp;omega
   ·rw[bf.sT i aj];simp;omega
  ·obtain⟨q1,aH⟩:=bf.done i' k8 zm lQ fo ad
   exact aeb φ a w q1 aH
 intro bn
 induction bn with
 |zero=>
  intro listed a w φ bf C9 aQ;refine tail 0 listed a w φ bf aQ λi ai=> ?_
  cases h:listed.getD i false with
  |true=>rfl
  |false=>
   exfalso;have:=xW (i:=i) (listed:=listed) (by have:=bf.size;omega) (by rw[qA (by have:=bf.size;omega)];exact h);omega
 |succ bn cz=>
  intro listed a w φ bf C9 aQ;by_cases lQ:∀i,i<m->listed.getD i false=true
  ·exact tail (bn+1) listed a w φ bf aQ lQ
  ·obtain⟨i0,vl⟩:=Classical.not_forall.1 lQ
   obtain⟨C',ra⟩:=Classical.not_imp.1 vl;have ra:listed.getD i0 false=false:=by simpa using ra
   have uo:Region.ready .any ops listed≠[]:=by
    have key:∀n i,i<n->i<m->listed.getD i false=false->∃k,k∈Region.ready .any ops listed:=by
     intro n
     induction n with
     |zero=>intro i ai;omega
     |succ n E8=>
      intro i ai mD E9;by_cases hp:∀k,direct ops i k=true->listed.getD k false=true
      ·refine⟨i,mem_ready.2 ⟨by rw[qA (by have:=bf.size;omega)];exact E9,ops[i]'(by omega),Array.getElem?_eq_getElem _,λe he af=>hp _ ?_⟩⟩
       have ho:ops[i]? =some (ops[i]'(by omega)):=Array.getElem?_eq_getElem _;simp only [direct,ho];exact Array.any_eq_true'.2 ⟨e,he,by simp [af]⟩
      ·obtain⟨k,al⟩:=Classical.not_forall.1 hp
       obtain⟨bc,x0⟩:=Classical.not_imp.1 al;have:=oX i k aj bc;exact E8 k aj aj (by simpa using x0)
    obtain⟨k,al⟩:=key (i0+1) i0 aj C' ra;intro h;rw[h] at al;cases al
   refine⟨λh0=>absurd h0 uo,λi ai=> ?_⟩;obtain⟨sY,o,ho,_⟩:=mem_ready.1 ai;have k4:i<ops.size:=(Array.getElem?_eq_some_iff.1 ho).1;have uq:listed.getD i false=false:=by rw[<-qA (by have:=bf.size;omega)];exact sY
   have mD:i<m:=by
    rcases Nat.lt_or_ge i m with h|h
    ·exact h
    ·exfalso
     rcases vp i i0 k4 h aj with ⟨x1,_⟩|ha
     ·have:=C9 i0 x1 C'
      rw[ra] at this;cases this
     ·have:=ha listed bf.down (qz ai)
      rw[ra] at this;cases this
   obtain⟨sl,gI,C5⟩:=hl i o mD ho;have Nk:∃bC,vi P C gl ops o sl {B i with low:=(B i).n}=some (vs.getD i cu,bC)/\(B i).n<=bC.low/\B (i+1)={bC with low:=(B i).low}:=by
    rcases C5 with ⟨x1,_⟩|⟨_,h⟩
    ·have:=C9 i x1 mD
     rw[uq] at this;cases this
    ·exact h
   obtain⟨bC,aC,mP,q'⟩:=Nk;have aec:=bf.here i' k8 UW mD;have sU:∀b e,fE b=some e->restrict φ (B i).n b=some e:=λb e af=>by
    have eX:=k8.lt af;have:=i'.sV (Nat.zero_le i) aj;unfold restrict;rw[aY aj,bf.old b eX];exact af
   have C6:∀t v,sl.get t=some v->aD (restrict φ (B i).n) v (a.tmps.getD t undef):=by
    intro t v pU;rcases oW _ _ _ gI t v pU with ⟨j,hj,bc,rfl⟩|⟨x2,E5⟩
    ·have r4:=rV i o mD ho j hj
     have ei:=oX i j k4 r4;have mS:=qz ai j r4;have hval:=bf.val j t aj mS bc;have e1:(vs.take i).getD j cu=vs.getD j cu:=by
      simp only [dp,List.getElem?_take,aY ei]
     rw[e1];exact hval.mono (UU (i'.sV aj aj))
    ·rcases oW _ _ _ fo t v E5 with ⟨j,hj,bc,rfl⟩|⟨I2,vn⟩
     ·exact .cu _
     ·rw[bf.other t λj hj _=>I2 j (List.mem_range.2 hj)]
      exact(zm.get t v vn).mono sU
   unfold wpOpIn;simp only [ho];refine IX cX (aec.lower (B i).n) (C8.mono sU) C6 aC λc8 aB w' xR pR=> ?_
   obtain⟨fm,Nl⟩:=bf.step i' k8 mD hm ho uq (qz ai) mC ck mP q' xR pR;exact cz _ _ _ fm Nl (λj hj ff=>by
    by_cases ei:j=i
    ·subst ei
     have:=bf.size;simp [show j<listed.size by omega]
    ·rw[getD_set_ne false (Ne.symm ei)]
     exact C9 j hj ff) (by
    have:=xW (i:=i) (listed:=listed) (by have:=bf.size;omega) sY
    omega)
end
section
variable {P:aR} [Lib P] [eh P] {C:ix} {gl:bV Nat} {N:Nat} {ds:List Deferred} {ro:Option Nat} {ops:Array Oper} {m:Nat} {dv mz:aF} {L:List Nat} {B:Nat->a6} {vs:List J} {fE:b2} {w0:ax} {a0:Act}
omit [Lib P] [eh P] in
theorem r2.aed {φ:b2} {listed:Array Bool} {a:Act} {w:ax} (bf:r2 gl N ds ops m B vs fE w0 a0 φ listed a w) {i:Nat} {o:Oper} (ai:i<m) (hm:m<=ops.size) (ho:ops[i]? =some o) (sY:listed.getD i false=false)
  (um:∀k,direct ops i k=true->listed.getD k false=true) (mC:∀i j,i<m->j<m->i≠j->∀t,fx ops i=some t->fx ops j≠some t) (ck:∀i t,i<m->fx ops i=some t->t<N)
  (q':B (i+1)=B i) {aB:J} (aC:aD (restrict φ (B i).n) (vs.getD i cu) aB):r2 gl N ds ops m B vs fE w0 a0 φ (listed.setIfInBounds i true) (a.put o.dst aB) w:=by
 have k9:fx ops i=o.dst:=by simp [fx,ho]
 have fg:∀j,(listed.setIfInBounds i true).getD j false=true↔j=i\/listed.getD j false=true:=by
  intro j;by_cases hj:j=i
  ·subst hj
   have:=bf.size;simp [show j<listed.size by omega]
  ·rw[getD_set_ne false (Ne.symm hj)]
   simp [hj]
 refine⟨by simpa using bf.size,?_,?_,by rw[Act.CZ];exact bf.defers,by rw[Act.size_put];exact bf.my,bf.rel,bf.old,?_,?_,bf.new,bf.Nd,bf.keep,bf.gL,bf.os,bf.tape,bf.output,bf.drawn,?_,?_⟩
 ·intro j k hj bc
  rw[fg] at hj ⊢;rcases hj with rfl|hj
  ·exact .inr (um k bc)
  ·exact .inr (bf.down j k hj bc)
 ·intro j hj
  rw[getD_set_ne false aj];exact bf.sT j hj
 ·intro b e h0 af
  obtain⟨j,hj,mS,iu⟩:=bf.mapped b e h0 af;exact⟨j,hj,(fg j).2 (.inr mS),iu⟩
 ·intro j b hj hl iu
  rcases(fg j).1 hl with rfl|hl
  ·exfalso
   unfold own at iu;rw[q'] at iu;omega
  ·exact bf.total j b hj hl iu
 ·intro t h
  have q_:o.dst≠some t:=λah=>h i ai ((fg i).2 (.inl rfl)) (k9.trans ah)
  have:(a.put o.dst aB).tmps.getD t undef=a.tmps.getD t undef:=by
   rcases Nat.lt_or_ge t a.tmps.size with kG|kG
   ·rw[Act.sS _ _ _ _ kG,a' q_]
   ·simp [Array.getElem?_eq_none kG,Array.getElem?_eq_none (show (a.put o.dst aB).tmps.size<=t by rw[Act.size_put];exact kG)]
  rw[this];exact bf.other t λj hj hl=>h j hj ((fg j).2 (.inr hl))
 ·intro j t hj hl bc
  by_cases ei:j=i
  ·subst ei
   have kG:t<N:=ck j t hj bc;have:(a.put o.dst aB).tmps.getD t undef=aB:=by
    rw[Act.sS _ _ _ _ (by rw[bf.my];exact kG),aY (k9.symm.trans bc)]
   rw[this,q'];exact aC
  ·have mS:=((fg j).1 hl).resolve_left ei
   have kG:t<N:=ck j t hj bc;have:(a.put o.dst aB).tmps.getD t undef=a.tmps.getD t undef:=by
    rw[Act.sS _ _ _ _ (by rw[bf.my];exact kG),a'];intro ah;exact mC i j ai hj (Ne.symm ei) t (k9.trans ah) bc
   rw[this];exact bf.val j t hj mS bc
theorem aee {Q:Exit->Act->ax->Prop} (hI:ui ops L m N=true) (dh:q7 P) (i':pw fE B vs m) (k8:b0 fE (B 0) w0) (C8:mT gl fE) (zm:fD N ds fE mz a0)
  (fo:hR N ops (λ_=>cu) (List.range m) mz=some dv) (qB:∀c a w,¬Q (.panic c) a w)
  (hl:∀i o,i<m->ops[i]? =some o->C3 P C gl N ops L m dv i o (vs.take i) (vs.getD i cu) (B i) (B (i+1)))
  (zn:∀(bn:Nat) (listed:Array Bool) (a:Act),r2 gl N ds ops m B vs fE w0 a0 fE listed a w0->(∀j∈L,j<m->listed.getD j false=true)->q9 listed<=bn->wpAnyIn (Fr ro) 0 P .any ops Q bn listed a w0):
  ∀(r:List Nat) (bn:Nat) (listed:Array Bool) (a:Act),(r≠[]->ro=none)->wR ops r listed=true->(∀i∈r,i∈L/\i<m)->(∀j∈L,j<m->listed.getD j false=true\/j∈r)->r2 gl N ds ops m B vs fE w0 a0 fE listed a w0->
   q9 listed<=bn->wpAnyIn (Fr ro) 0 P .any ops Q bn listed a w0:=by
 obtain⟨hm,ou,mC,ck,rV,oX,vp⟩:=C1 hI;intro r
 induction r with
 |nil=>
  intro bn listed a _ _ _ hL bf aQ;exact zn bn listed a bf (λj hj ff=>(hL j hj ff).resolve_right (by simp)) aQ
 |cons i r cz=>
  intro bn listed a dK x3 ao hL bf aQ;have E':ro=none:=dK (by simp);obtain⟨x1,mD⟩:=ao i List.mem_cons_self;simp only [wR,c7] at x3;obtain⟨⟨uo,AT⟩,nU,x3⟩:=x3;have ai:i∈Region.ready .any ops listed:=by simpa using uo
  obtain⟨sY,o,ho,_⟩:=mem_ready.1 ai;have k4:i<ops.size:=(Array.getElem?_eq_some_iff.1 ho).1;have uq:listed.getD i false=false:=by rw[<-qA (by have:=bf.size;omega)];exact sY
  rw[ho] at nU;simp only at nU;have U4:=xW (i:=i) (listed:=listed) (by have:=bf.size;omega) sY;cases bn with
  |zero=>omega
  |succ bn=>
   obtain⟨sl,gI,C5⟩:=hl i o mD ho;have Nk:xY P (dH gl sl) o=some (vs.getD i cu)/\B (i+1)=B i:=by
    rcases C5 with ⟨_,h⟩|⟨av,_⟩
    ·exact h
    ·exact absurd x1 av
   obtain⟨qx,q'⟩:=Nk;have sU:∀b e,fE b=some e->restrict fE (B i).n b=some e:=λb e af=>by
    have eX:=k8.lt af;have:=i'.sV (Nat.zero_le i) aj;unfold restrict;rw[aY aj];exact af
   have C6:∀t v,sl.get t=some v->aD (restrict fE (B i).n) v (a.tmps.getD t undef):=by
    intro t v pU;rcases oW _ _ _ gI t v pU with ⟨j,hj,bc,rfl⟩|⟨x2,E5⟩
    ·have r4:=rV i o mD ho j hj
     have ei:=oX i j k4 r4;have mS:=qz ai j r4;have hval:=bf.val j t aj mS bc;have e1:(vs.take i).getD j cu=vs.getD j cu:=by
      simp only [dp,List.getElem?_take,aY ei]
     rw[e1];exact hval.mono (UU (i'.sV aj aj))
    ·rcases oW _ _ _ fo t v E5 with ⟨j,hj,bc,rfl⟩|⟨I2,vn⟩
     ·exact .cu _
     ·rw[bf.other t λj hj _=>I2 j (List.mem_range.2 hj)]
      exact(zm.get t v vn).mono sU
   obtain⟨aB,fw,aC⟩:=E4 dh (gV (C8.mono sU) C6) qx;have wV:Region.wanted o (yielded ops a.tmps)=true:=by
    unfold xX at nU;unfold Region.wanted;cases aA:o.guard with
    |none=>rfl
    |some g=>rw[aA] at nU;simp at nU
   have Nn:∀w,o.about P w a.eval=none:=by
    intro w;unfold Oper.about;unfold xX at nU;cases cy:o.op<;>simp only [cy,Bool.and_false,Bool.false_eq_true] at nU ⊢
   have Np:YieldsFenced P ops o aB a:=⟨.inl ⟨wV,fw⟩,Nn⟩;refine wpAnyIn_take (F:=Fr ro) (by rw[E'];rfl) ho ou AT uo (λc a w h=>absurd h (qB c _ w)) Np ?_;refine cz bn _ _ (λ_=>E') x3 (λk al=>ao k (List.mem_cons_of_mem _ al)) (λj hj ff=> ?_) (bf.aed mD hm ho uq (qz ai) mC ck q' aC) aj;by_cases ei:j=i
   ·subst ei
    refine .inl ?_;have:=bf.size;simp [show j<listed.size by omega]
   ·rw[getD_set_ne false (Ne.symm ei)]
    rcases hL j hj ff with h|h
    ·exact .inl h
    ·rcases List.mem_cons.1 h with rfl|h
     ·exact absurd rfl ei
     ·exact .inr h
end
omit [a1] in
theorem aef {ops:Array Oper} {N:Nat} {gW:Bool} {L:List Nat} {m:Nat} (h:Nb ops N gW=some (L,m)):
  ui ops L m N=true/\wR ops L (Array.replicate ops.size false)=true/\(∀i∈L,i<m)/\(gW=true->L=[]):=by
 unfold Nb at h;simp only at h;generalize hm:Na (UQ (bif gW then [] else vk ops)) ops.toList 0 [] 0=m' at h;generalize hL:(bif gW then [] else vk ops).filter (λi=>Nat.blt i m')=L' at h;cases af:(ui ops L' m' N&&wR ops L' (Array.replicate ops.size false)) with
 |false=>rw[af] at h;cases h
 |true=>
  rw[af] at h;cases h;simp only [c7] at af;refine⟨af.1,af.2,λi ai=> ?_,λao=> ?_⟩
  ·rw[<-hL] at ai
   exact Nat.blt_eq.mp (List.mem_filter.1 ai).2
  ·rw[<-hL,ao];rfl
section
variable {P:aR} [Lib P] [eh P] {C:ix} {gl:bV Nat} {N:Nat}
theorem U5 (cQ:P.follows .mixedOrders=true) (cX:lP P gl C) {ro:Option Nat} {ds:List Deferred} {Q:Exit->Act->ax->Prop} {id:Nat} {ops:Array Oper} {sl dN:aF} {A bh:a6} {r:List Oper} {φ:b2} {w:ax} {a:Act} (ao:b0 φ A w) (aA:mT gl φ) (aw:fD N ds φ sl a) {gW:Bool} (dK:gW=false->ro=none) (qB:∀c a w,¬Q (.panic c) a w)
  (h:IY P C gl N gW ops sl A=some (dN,bh,r)) (c5:∀c8 a7 w',fD N ds c8 dN a7->cA φ A w c8 bh w'->wpListIn (Fr ro) 0 P ops Q r a7 w'):(Code.region id ops true).wpIn (Fr ro) 0 P Q a w:=by
 unfold IY at h;split at h
 ·rename_i L m zl
  obtain⟨hI,E_,Nq,aeg⟩:=aef zl;have aeh:m<=ops.size:=(C1 hI).1;split at h
  ·rename_i dv fo
   split at h
   ·rename_i vs bC dh
    cases af:Nat.ble bC.n dead with
    |false=>rw[af] at h;cases h
    |true=>
     rw[af,bD] at h;split at h
     ·rename_i eK ad
      cases h;obtain⟨B,ct,kh,lM,tV,wF⟩:=UR _ 0 [] _ _ _ rfl dh;have hlen:(ops.toList.take m).length=m:=by simp;omega
      rw[hlen] at kh;subst ct;have hl:∀i o,i<m->ops[i]? =some o->C3 P C gl N ops L m dv i o (vs.take i) (vs.getD i cu) (B i) (B (i+1)):=by
       intro i o ai ho;have:=wF i o (by rw[List.getElem?_take,aY ai];simpa using ho);simpa using this
      have k8:b0 φ (B 0) {w with drawn:=w.drawn+1}:=(cA.za ao (w.drawn+1)).rel;obtain⟨_,_,_,_,rV,oX,_⟩:=C1 hI;have i':pw φ B vs m:=ad1 cX k8 aA rfl aeh (λt v aC=>⟨_,aw.get t v aC⟩) fo (λi o ai ho j hj=>oX i j aj (rV i o ai ho j hj)) hl;refine wpIn_region_any cQ ?_;refine aee hI cX.facts i' k8 aA aw fo qB hl (λbn listed a2 Nl C9 U6=>aea hI cX i' k8 aA aw (by rw[kh];exact Nat.ble_eq.mp af) fo ad hl (λgM dZ w1 q1 aH=> ?_) bn listed a2 _ φ Nl C9 U6) L ops.size _ a ?_ E_ (λi ai=>⟨ai,Nq i ai⟩) (λj hj _=> .inr hj) ?_ ?_
      ·rw[kh] at aH
       exact c5 gM dZ w1 q1 (cA.trans ao (cA.za ao (w.drawn+1)) aH)
      ·intro cW
       refine dK ?_;cases x4:gW with
       |false=>rfl
       |true=>exact absurd (aeg x4) cW
      ·have aQ:∀i,(Array.replicate ops.size false).getD i false=false:=λi=>by
        rw[fh,Array.getElem?_replicate];split<;>rfl
       have Nr:∀b e,φ b=some e->¬(B 0).n<=b:=λb e af=>by have:=k8.lt af;omega
       refine⟨by simp,λi j ai=>absurd ai (by rw[aQ];simp),λi _=>aQ i,aw.defers,aw.size,?_,λ_ _=>rfl,λb e h0 af=>absurd h0 (Nr b e af),λj b _ hl=>absurd hl (by rw[aQ];simp),
        λb e h0 af=>absurd h0 (Nr b e af),λj b e b' e' hj ho _ af=> ?_,λ_ _ _=>rfl,cj _,rfl,rfl,rfl,cj _,λ_ _=>rfl,λi t _ hl=>absurd hl (by rw[aQ];simp)⟩
       ·obtain⟨ψ,w',g1,_⟩:=i'.ex m (cj _)
        refine⟨g1.wf,λb e af=> ?_,λb e k b' e' k' af ef al dB cW=> ?_,λb e k b' e' k' af ef al dB aQ jR=> ?_,k8.dq⟩
        ·obtain⟨k,al,q1,aH⟩:=k8.eC b e af
         exact⟨k,by rw[i'.wT (Nat.zero_le m) (cj _) b (k8.lt af)];exact al,q1,aH⟩
        ·rw[i'.wT (Nat.zero_le m) (cj _) b (k8.lt af)] at al
         rw[i'.wT (Nat.zero_le m) (cj _) b' (k8.lt ef)] at dB;exact k8.apart b e k b' e' k' af ef al dB cW
        ·rw[i'.wT (Nat.zero_le m) (cj _) b (k8.lt af)] at al
         rw[i'.wT (Nat.zero_le m) (cj _) b' (k8.lt ef)] at dB;exact k8.along b e k b' e' k' af ef al dB aQ jR
       ·exfalso
        have:=i'.sV (Nat.zero_le j) aj;exact Nr b e af (Nat.le_trans this ho.1)
      ·unfold q9
       exact Nat.le_trans List.count_le_length (by simp)
     ·cases h
   ·cases h
  ·cases h
 ·cases h
theorem aei (cQ:P.follows .mixedOrders=true) (cX:lP P gl C) {ro:Option Nat} {ds:List Deferred} {Q:Exit->Act->ax->Prop} {id:Nat} {ops:Array Oper} {sl dN:aF} {A bh:a6} {φ:b2} {w:ax} {a:Act} (ao:b0 φ A w) (aA:mT gl φ) (aw:fD N ds φ sl a) {gW:Bool} (dK:gW=false->ro=none) (qB:∀c a w,¬Q (.panic c) a w)
  (h:Nc P C gl N gW ops sl A=some (dN,bh)) (c5:∀c8 a7 w',fD N ds c8 dN a7->cA φ A w c8 bh w'->Q .normal a7 w'):(Code.region id ops true).wpIn (Fr ro) 0 P Q a w:=by
 unfold Nc at h;split at h
 ·rename_i eK bC r ad
  refine U5 cQ cX ao aA aw dK qB ad λgM dZ w1 q1 aH=> ?_
  refine M7 cX _ _ _ _ _ _ _ _ aH.rel (aA.mono (aH.ext ao)) q1 h λfm a2 w2 cO dx=> ?_
  exact c5 fm a2 w2 cO (cA.trans ao aH dx)
 ·cases h
end
end AE
namespace AE
mutual
def zo:J->J->Bool
 | .bool a,.bool b=>a==b
 | .int k n,.int k' ga=>decide (k=k')&&decide (n=ga)
 | .complex k a b,.complex k' a7 b'=>decide (k=k')&&(Nat.beq a a7&&Nat.beq b b')
 | .string s,.string t=>s.data.toList==t.data.toList
 | .pointer none,.pointer none=>true
 | .pointer (some ⟨b,o,none⟩),.pointer (some ⟨b',o',none⟩)=>Nat.beq b b'&&Nat.beq o o'
 | .slice none l c,.slice none l' c'=>Nat.beq l l'&&Nat.beq c c'
 | .slice (some ⟨b,o,none⟩) l c,.slice (some ⟨b',o',none⟩) l' c'=>(Nat.beq b b'&&Nat.beq o o')&&(Nat.beq l l'&&Nat.beq c c')
 | .map none,.map none=>true
 | .map (some a),.map (some b)=>Nat.beq a b
 | .nilFunc,.nilFunc=>true
 | .nilIface,.nilIface=>true
 | .func (.func f) ⟨a⟩ ⟨b⟩,.func (.func g) ⟨a7⟩ ⟨b'⟩=>Nat.beq f g&&(ur a a7&&ur b b')
 | .func (.yield f) ⟨a⟩ ⟨b⟩,.func (.yield g) ⟨a7⟩ ⟨b'⟩=>Nat.beq f g&&(ur a a7&&ur b b')
 | .iface t v,.iface dt aB=>Nat.beq t dt&&zo v aB
 | .agg ⟨l⟩,.agg ⟨l'⟩=>ur l l'
 | .tuple ⟨l⟩,.tuple ⟨l'⟩=>ur l l'
 |_,_=>false
def ur:List J->List J->Bool
 |[],[]=>true
 |v::r,aB::ek=>zo v aB&&ur r ek
 |_,_=>false
end
mutual
theorem Fa:∀(a b:J),zo a b=true->a=b:=by
 intro a b h;unfold zo at h;split at h<;>try (simp only [c7,decide_eq_true_eq] at h)
 ·rw[eq_of_beq h]
 ·rw[h.1,h.2]
 ·rw[h.1,cH h.2.1,cH h.2.2]
 ·rename_i s t
  have:=eq_of_beq h;obtain⟨⟨s⟩⟩:=s;obtain⟨⟨t⟩⟩:=t;simp only at this;rw[this]
 ·rfl
 ·rw[cH h.1,cH h.2]
 ·rw[cH h.1,cH h.2]
 ·rw[cH h.1.1,cH h.1.2,cH h.2.1,cH h.2.2]
 ·rfl
 ·rw[cH h]
 ·rfl
 ·rfl
 ·rw[cH h.1,zp _ _ h.2.1,zp _ _ h.2.2]
 ·rw[cH h.1,zp _ _ h.2.1,zp _ _ h.2.2]
 ·rename_i t v dt aB
  rw[cH h.1,Fa v aB h.2]
 ·rw[zp _ _ h]
 ·rw[zp _ _ h]
 ·cases h
theorem zp:∀(a b:List J),ur a b=true->a=b
 |[],[],_=>rfl
 |v::r,aB::ek,h=>by
  unfold ur at h;simp only [c7] at h;rw[Fa v aB h.1,zp r ek h.2]
 |[],_::_,h=>by simp [ur] at h
 |_::_,[],h=>by simp [ur] at h
end
def aej {α:Type} (f:α->α->Bool):Option α->Option α->Bool
 |none,none=>true
 |some a,some b=>f a b
 |_,_=>false
def AU {α:Type} (f:α->α->Bool):bV α->bV α->Bool
 | .nil,.nil=>true
 | .node v l r,.node aB l' ek=>aej f v aB&&(AU f l l'&&AU f r ek)
 |_,_=>false
theorem Fb {α:Type} {f:α->α->Bool} (aQ:∀a b,f a b=true->a=b):∀(a b:bV α),AU f a b=true->a=b
 | .nil,.nil,_=>rfl
 | .nil,.node _ _ _,h=>by cases h
 | .node _ _ _,.nil,h=>by cases h
 | .node v l r,.node aB l' ek,h=>by
   unfold AU at h;simp only [c7] at h;rw[Fb aQ l l' h.2.1,Fb aQ r ek h.2.2];have ad:=h.1;cases v with
   |none=>cases aB with
    |none=>rfl
    |some b=>cases ad
   |some a=>cases aB with
    |none=>cases ad
    |some b=>rw[aQ a b ad]
def U7 (a b:kg):Bool:=zo a.key b.key&&(zo a.val b.val&&Nat.beq a.born b.born)
def I3:List kg->List kg->Bool
 |[],[]=>true
 |a::r,b::ek=>U7 a b&&I3 r ek
 |_,_=>false
theorem U8:∀(a b:List kg),I3 a b=true->a=b
 |[],[],_=>rfl
 |[],_::_,h=>by cases h
 |_::_,[],h=>by cases h
 |⟨k,v,n⟩::r,⟨k',aB,ga⟩::ek,h=>by
  unfold I3 U7 at h;simp only [c7] at h;rw[Fa _ _ h.1.1,Fa _ _ h.1.2.1,cH h.1.2.2,U8 r ek h.2]
def Ns:qZ->qZ->Bool
 | .cells c,.cells c'=>ur c c'
 | .map es e4,.map du aek=>I3 es du&&Nat.beq e4 aek
 | .gu (.xE s p),.gu (.xE fC p')=>s.data.toList==fC.data.toList&&Nat.beq p p'
 | .gu .deferred,.gu .deferred=>true
 | .gu .gone,.gu .gone=>true
 |_,_=>false
theorem ael {a b:qZ} (h:Ns a b=true):a=b:=by
 unfold Ns at h;split at h<;>try (simp only [c7] at h)
 ·rw[zp _ _ h]
 ·rw[U8 _ _ h.1,cH h.2]
 ·rename_i s p fC p'
  have:=eq_of_beq h.1;obtain⟨⟨s⟩⟩:=s;obtain⟨⟨fC⟩⟩:=fC;simp only at this;rw[this,cH h.2]
 ·rfl
 ·rfl
 ·cases h
def Nt (a b:h4):Bool:=Ns a.obj b.obj&&((Nat.beq a.cP b.cP&&Nat.beq a.pos b.pos)&&((Nat.beq a.eN b.eN&&Nat.beq a.ty b.ty)&&a.ro==b.ro))
theorem aem {a b:h4} (h:Nt a b=true):a=b:=by
 obtain⟨o,f,p,s,r,t⟩:=a;obtain⟨o',ij,p',fC,ek,dt⟩:=b;unfold Nt at h;simp only [c7] at h;obtain⟨ad,⟨ag,ay⟩,⟨bG,cE⟩,cR⟩:=h;rw[ael ad,cH ag,cH ay,cH bG,cH cE,eq_of_beq cR]
def I4:List Nat->List Nat->Bool
 |[],[]=>true
 |a::r,b::ek=>Nat.beq a b&&I4 r ek
 |_,_=>false
theorem U9:∀(a b:List Nat),I4 a b=true->a=b
 |[],[],_=>rfl
 |[],_::_,h=>by cases h
 |_::_,[],h=>by cases h
 |a::r,b::ek,h=>by
  unfold I4 at h;simp only [c7] at h;rw[cH h.1,U9 r ek h.2]
def I5 (x y:aF×a6):Bool:=AU zo x.1 y.1&&((AU Nt x.2.bl y.2.bl&&AU I4 x.2.mem y.2.mem)&&(Nat.beq x.2.n y.2.n&&Nat.beq x.2.low y.2.low))
theorem aen {x y:aF×a6} (h:I5 x y=true):x=y:=by
 obtain⟨sl,bl,n,mem,low⟩:=x;obtain⟨dN,aox,ga,aoy,aoz⟩:=y;unfold I5 at h;simp only [c7] at h;obtain⟨ad,⟨ag,ay⟩,bG,cE⟩:=h;rw[Fb Fa _ _ ad,Fb (λ_ _=>aem) _ _ ag,Fb U9 _ _ ay,cH bG,cH cE]
def AV (P:aR) [Lib P] [eh P] (C:ix) (gl:bV Nat) (N:Nat) (ops:Array Oper):Nat->Array Bool->aF->a6->Option (aF×a6)
 |0,listed,sl,A=>match Region.ready .any ops listed with
  |[]=>some (sl,A)
  |_::_=>none
 |f+1,listed,sl,A=>
  let go:=λi=>match ops[i]? with
   |some o=>match wP P C gl N ops o sl A with
    |some (eK,bC)=>AV P C gl N ops f (listed.setIfInBounds i true) eK bC
    |none=>none
   |none=>none
  match Region.ready .any ops listed with
  |[]=>some (sl,A)
  |i::r=>match go i with
   |some x=>match r.all (λj=>match go j with|some y=>I5 x y|none=>false) with
    |true=>some x
    |false=>none
   |none=>none
def I6 (P:aR) [eh P] (gl:bV Nat) (N:Nat) (ops:Array Oper):List Nat->aF->Option aF
 |[],sl=>some sl
 |i::r,sl=>match ops[i]? with
  |some o=>match xY P (dH gl sl) o with
   |some v=>match gZ N sl o.dst v with
    |some eK=>I6 P gl N ops r eK
    |none=>none
   |none=>none
  |none=>none
def I7:List Nat->Array Bool->Array Bool
 |[],l=>l
 |i::r,l=>I7 r (l.setIfInBounds i true)
def I8 (P:aR) [Lib P] [eh P] (C:ix) (gl:bV Nat) (N:Nat) (gW:Bool) (ops:Array Oper) (sl:aF) (A:a6):Option (aF×a6):=
 let L:=bif gW then [] else vk ops
 bif Nat.ble ops.size (L.length+64)&&(Region.noSelect ops&&(wR ops L (Array.replicate ops.size false)&&Nat.ble L.length ops.size)) then
  match I6 P gl N ops L sl with
  |some eK=>AV P C gl N ops (ops.size-L.length) (I7 L (Array.replicate ops.size false)) eK A
  |none=>none
 else none
variable [a1]
section
variable {P:aR} [Lib P] [eh P] {C:ix} {gl:bV Nat} {N:Nat} {ds:List Deferred} {ro:Option Nat} {ops:Array Oper} {Q:Exit->Act->ax->Prop}
theorem U' (cX:lP P gl C):∀(f:Nat) (listed:Array Bool) (sl dN:aF) (A bh:a6) (φ:b2) (w:ax) (a:Act),b0 φ A w->mT gl φ->fD N ds φ sl a->AV P C gl N ops f listed sl A=some (dN,bh)->
  (∀c8 a7 w',fD N ds c8 dN a7->cA φ A w c8 bh w'->Q .normal a7 w')->wpAnyIn (Fr ro) 0 P .any ops Q f listed a w
 |0,listed,sl,dN,A,bh,φ,w,a,ao,aA,aw,h,c5=>by
  unfold AV at h;split at h
  ·rename_i wW
   cases h;exact wpAnyIn_done wW (c5 φ a w aw (cA.refl ao)) 0
  ·cases h
 |f+1,listed,sl,dN,A,bh,φ,w,a,ao,aA,aw,h,c5=>by
  unfold AV at h;simp only at h;split at h
  ·rename_i wW
   cases h;exact wpAnyIn_done wW (c5 φ a w aw (cA.refl ao)) _
  ·rename_i i r wW
   have lr:∀j∈i::r,(match ops[j]? with
     |some o=>match wP P C gl N ops o sl A with
      |some (eK,bC)=>AV P C gl N ops f (listed.setIfInBounds j true) eK bC
      |none=>none
     |none=>none)=some (dN,bh):=by
    split at h
    ·rename_i x aq
     split at h
     ·rename_i af
      cases h;intro j hj;rcases List.mem_cons.1 hj with rfl|hj
      ·exact aq
      ·have ef:=List.all_eq_true.1 af j hj
       revert ef;generalize (match ops[j]? with
        |some o=>match wP P C gl N ops o sl A with
         |some (eK,bC)=>AV P C gl N ops f (listed.setIfInBounds j true) eK bC
         |none=>none
        |none=>none)=z
       intro ef;cases z with
       |none=>cases ef
       |some y=>rw[aen ef]
     ·cases h
    ·cases h
   refine wpAnyIn_all wW (by simp) λj hj=> ?_
   have gY:=lr j hj;split at gY
   ·rename_i o ho
    split at gY
    ·rename_i eK bC c1
     obtain⟨v,aC,hp⟩:=M5 c1;unfold wpOpIn;rw[ho];refine IX cX ao aA aw.get aC λc8 aB w' xR pR=> ?_
     exact U' cX f _ eK dN bC bh c8 w' (a.put o.dst aB) pR.rel (aA.mono (pR.ext ao)) ((aw.mono (pR.ext ao)).put xR hp) gY λfm a2 w2 ad ag=>c5 fm a2 w2 ad (cA.trans ao pR ag)
    ·cases gY
   ·cases gY
omit [Lib P] in
theorem U_ (dh:q7 P) (ou:Region.noSelect ops=true) (E':ro=none) (qB:∀c a w,¬Q (.panic c) a w) {φ:b2} {w:ax} (aA:mT gl φ):∀(L:List Nat) (bn:Nat) (listed:Array Bool) (sl dN:aF) (a:Act),fD N ds φ sl a->wR ops L listed=true->I6 P gl N ops L sl=some dN->
  (∀a7,fD N ds φ dN a7->wpAnyIn (Fr ro) 0 P .any ops Q bn (I7 L listed) a7 w)->wpAnyIn (Fr ro) 0 P .any ops Q (bn+L.length) listed a w
 |[],bn,listed,sl,dN,a,aw,_,h,c5=>by
  cases h;exact c5 a aw
 |i::r,bn,listed,sl,dN,a,aw,x3,h,c5=>by
  simp only [wR,c7] at x3;obtain⟨⟨uo,AT⟩,nU,x3⟩:=x3;unfold I6 at h;split at h
  ·rename_i o ho
   rw[ho] at nU;simp only at nU;split at h
   ·rename_i v qx
    split at h
    ·rename_i eK eL
     obtain⟨aB,fw,aC⟩:=E4 dh (gV aA aw.get) qx;have wV:Region.wanted o (yielded ops a.tmps)=true:=by
      unfold xX at nU;unfold Region.wanted;cases aA:o.guard with
      |none=>rfl
      |some g=>rw[aA] at nU;simp at nU
     have Nn:∀w,o.about P w a.eval=none:=by
      intro w;unfold Oper.about;unfold xX at nU;cases cy:o.op<;>simp only [cy,Bool.and_false,Bool.false_eq_true] at nU ⊢
     have Np:YieldsFenced P ops o aB a:=⟨.inl ⟨wV,fw⟩,Nn⟩;show wpAnyIn (Fr ro) 0 P .any ops Q (bn+r.length+1) listed a w;refine wpAnyIn_take (F:=Fr ro) (by rw[E'];rfl) ho ou AT uo (λc a w h=>absurd h (qB c _ w)) Np ?_;exact U_ dh ou E' qB aA r bn _ eK dN (a.put o.dst aB) (aw.put aC eL) x3 h c5
    ·cases h
   ·cases h
  ·cases h
theorem Va (cQ:P.follows .mixedOrders=true) (cX:lP P gl C) {id:Nat} {sl dN:aF} {A bh:a6} {φ:b2} {w:ax} {a:Act} (ao:b0 φ A w) (aA:mT gl φ) (aw:fD N ds φ sl a) {gW:Bool} (dK:gW=false->ro=none) (qB:∀c a w,¬Q (.panic c) a w)
  (h:I8 P C gl N gW ops sl A=some (dN,bh)) (c5:∀c8 a7 w',fD N ds c8 dN a7->cA φ A w c8 bh w'->Q .normal a7 w'):(Code.region id ops true).wpIn (Fr ro) 0 P Q a w:=by
 unfold I8 at h;simp only at h;cases af:(Nat.ble ops.size ((bif gW then [] else vk ops).length+64)&&(Region.noSelect ops&&(wR ops (bif gW then [] else vk ops) (Array.replicate ops.size false)&&Nat.ble (bif gW then [] else vk ops).length ops.size))) with
 |false=>rw[af] at h;cases h
 |true=>
  rw[af,bD] at h;simp only [c7] at af;obtain⟨_,ou,E_,hle⟩:=af;have Nu:=Nat.ble_eq.mp hle;split at h
  ·rename_i eK aL
   have c1:=cA.za ao (w.drawn+1) (Nat.le_succ _);refine wpIn_region_any cQ ?_;have zn:∀a7,fD N ds φ eK a7->wpAnyIn (Fr ro) 0 P .any ops Q (ops.size-(bif gW then [] else vk ops).length) (I7 (bif gW then [] else vk ops) (Array.replicate ops.size false)) a7 {w with drawn:=w.drawn+1}:=
    λa7 pT=>U' cX _ _ eK dN A bh φ _ a7 c1.rel aA pT h λfm a2 w2 ad ag=>c5 fm a2 w2 ad (cA.trans ao c1 ag)
   cases AW:gW with
   |true=>
    rw[AW] at aL zn;simp only [bD,List.length_nil,Nat.sub_zero] at aL zn;cases aL;exact zn a aw
   |false=>
    rw[AW] at aL zn E_ Nu;simp only [eB] at aL zn E_ Nu;have:=U_ cX.facts ou (dK AW) qB aA (vk ops) (ops.size-(vk ops).length) _ sl eK a aw E_ aL zn
    rwa [Nat.sub_add_cancel Nu] at this
  ·cases h
end
end AE
namespace AE
variable [a1]
def a6.C_ (A:a6) (b:Nat) (x:Cz):Option a6:=
 match A.bl.get b with
 |some k=>match k.obj,A.mem.get k.cP with
  | .gu _,some [m]=>bif Nat.beq m b&& !k.ro then
      match bV.set {k with obj:= .gu x} depth A.bl b with
      |some t=>some {A with bl:=t,low:=Nat.min A.low b}
      |none=>none
    else none
  |_,_=>none
 |none=>none
def a6.getLoop (A:a6) (b:Nat):Option Ar:=
 match A.bl.get b with
 |some k=>match k.obj with
  | .gu (.loop fY)=>some fY
  |_=>none
 |none=>none
section
variable {P:aR} {φ:b2} {A bh:a6} {w:ax}
theorem I9 (ao:b0 φ A w) {b:Nat} {x:Cz} {e:hP} {o':Obj} (he:φ b=some e) (h:A.C_ b x=some bh) (ho:rM φ x o'):cA φ A w φ bh {w with heap:=w.heap.setIfInBounds e.bk o'}:=by
 unfold a6.C_ at h;split at h
 ·rename_i k al
  split at h
  ·rename_i fO m fK mQ
   cases ar:(Nat.beq m b&& !k.ro) with
   |false=>rw[ar] at h;cases h
   |true=>
    rw[ar,bD] at h;simp only [c7,Bool.not_eq_true'] at ar;have EU:m=b:=cH ar.1;subst EU;have dK:=ar.2;split at h
    ·rename_i t aL
     cases h;have gO:=λj=>bV.ob _ _ _ _ _ j aL
     obtain⟨ey,hY,c1,CO⟩:=ao.eC m e he;rw[al] at hY;cases hY;have ck:=CO.lt;have MG:∀j cm,A.bl.get j=some cm->cm.cP=k.cP->j=m:=by
      intro j cm hj aQ;obtain⟨l,q1,aH⟩:=ao.wf.mem j cm hj;rw[aQ,mQ] at q1;cases q1;simpa using aH
     have cW:∀j gi,j≠m->φ j=some gi->gi.bk≠e.bk:=by
      intro j gi hj ie;obtain⟨cm,hZ,_,_⟩:=ao.eC j gi ie;exact ao.apart j gi cm m e k ie he hZ al λaQ=>hj (MG j cm hZ aQ)
     have qq:∀i,i≠e.bk->(w.heap.setIfInBounds e.bk o')[i]? =w.heap[i]? :=λi ai=>by
      rw[Array.getElem?_setIfInBounds_ne (Ne.symm ai)]
     have gH:∀j dS,t.get j=some dS->∃cm,A.bl.get j=some cm/\dS.cP=cm.cP/\dS.pos=cm.pos/\dS.ro=cm.ro:=by
      intro j dS hj;rw[gO] at hj;by_cases ff:j=m
      ·rw[aY ff] at hj
       cases hj;subst ff;exact⟨k,al,rfl,rfl,rfl⟩
      ·rw[a' ff] at hj
       exact⟨dS,hj,rfl,rfl,rfl⟩
     refine {rel:=⟨⟨?_,?_,?_,?_⟩,?_,?_,?_,λi o ai=>⟨by rw[qq i (Ne.symm ((ao.dq i o ai).2 _ _ he))];exact(ao.dq i o ai).1,(ao.dq i o ai).2⟩⟩,eC:=λ_ _=>rfl,rN:=λb ad ag=>absurd ag (by show ¬b<A.n;omega),new:=λb e ad ag=>absurd (ao.lt ag) aj,qp:=cj _,low:=Nat.min_le_left _ _,same:= ?_,ro:= ?_,keep:= ?_,gL:=by simp,os:=rfl,tape:=rfl,output:=rfl,drawn:=cj _}
     ·intro j dS hj
      obtain⟨cm,q1,_⟩:=gH j dS hj;exact ao.wf.lt j cm q1
     ·intro j dS hj
      obtain⟨cm,q1,aH,_⟩:=gH j dS hj;rw[aH];exact ao.wf.tQ j cm q1
     ·intro j dS hj
      obtain⟨cm,q1,aH,_⟩:=gH j dS hj;rw[aH];exact ao.wf.mem j cm q1
     ·intro j pP fM pQ hj gY aQ
      obtain⟨cm,q1,aH,_,bW⟩:=gH j pP hj;obtain⟨dS,u9,Aw,_,sO⟩:=gH fM pQ gY;rw[bW,sO];exact ao.wf.u2 j cm fM dS q1 u9 (by rw[<-aH,<-Aw];exact aQ)
     ·intro j gi hj
      by_cases ff:j=m
      ·subst ff
       rw[he] at hj;cases hj;refine⟨{k with obj:= .gu x},by rw[gO,aY rfl],c1,?_⟩;unfold fT at CO;simp only [fK] at CO;simp only [fT];exact⟨CO.1,o',by rw[Array.getElem?_setIfInBounds_self_of_lt ck],ho⟩
      ·obtain⟨cm,hZ,wD,iu⟩:=ao.eC j gi hj
       exact⟨cm,by rw[gO,a' ff];exact hZ,wD,iu.mono (λ_ _ h=>h) (qq _ (cW j gi ff hj))⟩
     ·intro j gi pP fM q2 pQ q1 aH hj gY nC
      obtain⟨cm,cO,dx,_⟩:=gH j pP hj;obtain⟨dS,uc,ve,_⟩:=gH fM pQ gY;exact ao.apart j gi cm fM q2 dS q1 aH cO uc (by rw[<-dx,<-ve];exact nC)
     ·intro j gi pP fM q2 pQ q1 aH hj gY aQ af
      obtain⟨cm,cO,dx,gh,_⟩:=gH j pP hj;obtain⟨dS,uc,ve,CM,_⟩:=gH fM pQ gY;rw[gh,CM];exact ao.along j gi cm fM q2 dS q1 aH cO uc (by rw[<-dx,<-ve];exact aQ) af
     ·intro j hj kE
      show t.get j=_;rw[gO,a'];intro ff;subst ff;exact absurd (Nat.lt_of_lt_of_le kE (Nat.min_le_right A.low j)) (Nat.lt_irrefl j)
     ·intro j cm hZ rQ
      show t.get j=_;rw[gO,a']
      ·exact hZ
      ·intro ff
       subst ff;rw[al] at hZ;cases hZ;rw[dK] at rQ;cases rQ
     ·intro i ai lr
      refine qq i λqs=> ?_
      have:=lr m e k he qs.symm al;rw[dK] at this;cases this
    ·cases h
  ·cases h
 ·cases h
theorem Nv (ao:b0 φ A w) {b:Nat} {fY:Ar} {e:hP} (h:A.getLoop b=some fY) (he:φ b=some e):∃r,w.heap[e.bk]? =some (.loop r)/\rM φ (.loop fY) (.loop r)/\(Instr.getLoop e.bk).run P w= .ok r w/\
  ∀ek,(setObj e.bk (.loop ek)).run P w= .ok () {w with heap:=w.heap.setIfInBounds e.bk (.loop ek)}:=by
 unfold a6.getLoop at h;split at h
 ·rename_i k al
  split at h
  ·rename_i aoA fK
   cases h;obtain⟨k',dB,_,ho⟩:=ao.eC b e he;rw[al] at dB;cases dB;unfold fT at ho;simp only [fK] at ho;obtain⟨_,o',ad,ag⟩:=ho;obtain⟨r,rfl,_⟩:=id ag;refine⟨r,ad,ag,?_,λek=> ?_⟩
   ·unfold Instr.getLoop
    exact dm (a:= .loop r) (w1:=w) (rZ ad (λ_ _ _ h=>by cases h)) rfl
   ·simp only [setObj,Sem.run,ad]
  ·cases h
 ·cases h
inductive rb (φ:b2):List Nat->List Deferred->Prop where
 |nil:rb φ [] []
 |cons {b:Nat} {e:hP} {ms:List Nat} {ds:List Deferred} (h:φ b=some e) (hm:rb φ ms ds):rb φ (b::ms) ({target:= .collected e.bk,args:= #[]}::ds)
omit [a1] in
theorem rb.mono {φ c8:b2} {ms:List Nat} {ds:List Deferred} (ie:∀b e,φ b=some e->c8 b=some e) (h:rb φ ms ds):rb c8 ms ds:=by
 induction h with
 |nil=>exact .nil
 |cons h _ cz=>exact .cons (ie _ _ h) cz
def x5 (A:a6):List Nat->Option a6
 |[]=>some A
 |b::r=>match A.bl.get b with
  |some k=>match k.obj with
   | .gu .deferred=>match A.C_ b .gone with
     |some bC=>x5 bC r
     |none=>none
   |_=>none
  |none=>none
theorem Nw {fn:Func} {tmps:Array J} {R:Ending->ax->Prop}:∀(ms:List Nat) (ds:List Deferred) (A bh:a6) (w:ax),b0 φ A w->rb φ ms ds->x5 A ms=some bh->
  (∀w',cA φ A w φ bh w'->LeavesInM (Fr none) 0 P fn tmps R [] .returning w')->LeavesInM (Fr none) 0 P fn tmps R ds .returning w
 |[],ds,A,bh,w,ao,hm,h,c5=>by
  cases hm;cases h;exact c5 w (cA.refl ao)
 |b::ms,ds,A,bh,w,ao,hm,h,c5=>by
  cases hm with
  |cons he hm=>
   rename_i e ds;unfold x5 at h;split at h
   ·rename_i k al
    split at h
    ·rename_i fK
     split at h
     ·rename_i bC aw
      obtain⟨k',dB,_,ho⟩:=ao.eC b e he;rw[al] at dB;cases dB;unfold fT at ho;simp only [fK] at ho;obtain⟨_,o',ad,ag⟩:=ho;cases ag;have c1:=I9 (o':= .deferred none) ao he aw rfl;refine⟨by simp,.inl ⟨e.bk,_,rfl,?_,Nw ms ds bC bh _ c1.rel (hm.mono (c1.ext ao)) h λw' hw=>c5 w' (cA.trans ao c1 hw)⟩⟩;unfold Instr.takeDeferred;refine dm (a:= .deferred (some [])) (w1:=w) (rZ ad (λ_ _ _ h=>by cases h)) ?_;exact dm (a:=()) (by simp only [setObj,Sem.run,ad]) rfl
     ·cases h
    ·cases h
   ·cases h
inductive k_ where
 |normal
 |exit (id:Nat)
 |goto (l:Nat)
 |ret
def k_.exit':k_->Exit
 | .normal=> .normal
 | .exit id=> .exit id
 | .goto l=> .goto l
 | .ret=> .ret
structure b6 where
 sl:aF
 ms:List Nat
 A:a6
def x6 (φ:b2) (A:a6) (w:ax) (N:Nat) (x:k_) (s:b6) (e:Exit) (a7:Act) (w':ax):Prop:=
 e=x.exit'/\∃c8 ds,rb c8 s.ms ds/\fD N ds c8 s.sl a7/\cA φ A w c8 s.A w'
theorem x6.trans {φ gM:b2} {A bC:a6} {w w1:ax} {N:Nat} {x:k_} {s:b6} {e:Exit} {a2:Act} {w2:ax} (ao:b0 φ A w) (ad:cA φ A w gM bC w1) (ag:x6 gM bC w1 N x s e a2 w2):x6 φ A w N x s e a2 w2:=by
 obtain⟨h,fm,ds,kx,q1,aH⟩:=ag;exact⟨h,fm,ds,kx,q1,cA.trans ao ad aH⟩
end
def I' (f:b6->Option (k_×b6)):Nat->b6->Option (k_×b6)
 |0,_=>none
 |n+1,s=>match f s with
  |some (x,s1)=>match x with
   | .normal=>I' f n s1
   | .exit id=>some (.exit id,s1)
   | .goto l=>some (.goto l,s1)
   | .ret=>some (.ret,s1)
  |none=>none
def Nx:Option Code->Option k_
 |none=>some .normal
 |some .ret=>some .ret
 |some (.exit id)=>some (.exit id)
 |some (.goto l)=>some (.goto l)
 |_=>none
def Vb:LoopState->Bool
 | .busy=>true
 |_=>false
def Ny (P:aR) [Lib P] [eh P] (C:ix) (gl:bV Nat) (N:Nat) (g:Operand) (ps:Array Tmp) (nE body:Code) (s:b6):Option (k_×b6):=
 match dH gl s.sl g with
 | .func (.func f) ⟨first⟩ ⟨Nz⟩=>bif enters P f then
     match s.A.push (.gu .deferred) 0 0 with
     |some (d,bC)=>match bC.push (.gu (.loop {state:= .ready,pending:=none,sl:=s.sl,N,params:=ps.toList,assign:=nE,body,Ez:=d})) 0 0 with
      |some (l,fU)=>match C.call f (first++[.func (.yield l) ⟨[]⟩ ⟨[]⟩]++Nz) fU with
       |some (_,Da)=>match Da.getLoop l with
        |some fY=>bif Vb fY.state then none else
         match Da.C_ l (.loop {fY with state:= .exhausted}),Nx fY.pending with
         |some AX,some x=>some (x,{sl:=s.sl,ms:=d::s.ms,A:=AX})
         |_,_=>none
        |none=>none
       |none=>none
      |none=>none
     |none=>none
   else none
 |_=>none
def mU (P:aR) [Lib P] [eh P] (C:ix) (gl:bV Nat) (N:Nat) (gW:Bool) (bn:Nat):Code->b6->Option (k_×b6)
 | .skip,s=>some (.normal,s)
 | .label _,s=>some (.normal,s)
 | .exit id,s=>some (.exit id,s)
 | .goto l,s=>some (.goto l,s)
 | .ret,s=>some (.ret,s)
 | .region _ ops d,s=>match (bif d then (match Nc P C gl N gW ops s.sl s.A with|some r=>some r|none=>I8 P C gl N gW ops s.sl s.A) else wQ P C gl N ops ops.toList s.sl s.A) with
   |some (eK,bC)=>some (.normal,{sl:=eK,ms:=s.ms,A:=bC})
   |none=>none
 | .seq x y,s=>match mU P C gl N gW bn x s with
   |some (x,s1)=>match x with
    | .normal=>mU P C gl N gW bn y s1
    | .exit id=>some (.exit id,s1)
    | .goto l=>some (.goto l,s1)
    | .ret=>some (.ret,s1)
   |none=>none
 | .cond c x y,s=>match dH gl s.sl c with
   | .bool t=>bif t then mU P C gl N gW bn x s else mU P C gl N gW bn y s
   |v=>match AO P v with
    |some t=>bif t then mU P C gl N gW bn x s else mU P C gl N gW bn y s
    |none=>none
 | .block id x,s=>match mU P C gl N gW bn x s with
   |some (x,s1)=>match x with
    | .normal=>some (.normal,s1)
    | .exit id'=>bif Nat.beq id' id then some (.normal,s1) else some (.exit id',s1)
    | .goto l=>some (.goto l,s1)
    | .ret=>some (.ret,s1)
   |none=>none
 | .loop x,s=>I' (mU P C gl N gW bn x) bn s
 | .scope _,_=>none
 | .rangeFunc g ps nE body,s=>bif gW then none else Ny P C gl N g ps nE body s
 | .refuse _,_=>none
def Vc (P:aR) (gl:bV Nat) (N:Nat) (ro:Option Nat) (c:Code) (f:b6->Option (k_×b6)):Prop:=
 ∀(s:b6) (x:k_) (fC:b6) (φ:b2) (w:ax) (a:Act) (ds:List Deferred),f s=some (x,fC)->b0 φ s.A w->mT gl φ->rb φ s.ms ds->fD N ds φ s.sl a->c.wpIn (Fr ro) 0 P (x6 φ s.A w N x fC) a w
section
variable {P:aR} {gl:bV Nat} {N:Nat} {ro:Option Nat}
theorem Vd {c:Code} {f:b6->Option (k_×b6)} (aQ:Vc P gl N ro c f):∀(n:Nat) (s:b6) (x:k_) (fC:b6) (φ:b2) (w:ax) (a:Act) (ds:List Deferred),I' f n s=some (x,fC)->b0 φ s.A w->mT gl φ->rb φ s.ms ds->fD N ds φ s.sl a->
  ∀(Q:Exit->Act->ax->Prop),(∀e a7 w',x6 φ s.A w N x fC e a7 w'->Q e a7 w')->Code.roundsIn (Fr ro) 0 P c Q n a w
 |0,s,x,fC,φ,w,a,ds,h,ao,aA,hm,aw,Q,c5=>by cases h
 |n+1,s,x,fC,φ,w,a,ds,h,ao,aA,hm,aw,Q,c5=>by
  unfold I' at h;show c.wpIn (Fr ro) 0 P (Exit.then (Code.roundsIn (Fr ro) 0 P c Q n) Q) a w;split at h
  ·rename_i eI s1 ad
   refine wpIn_mono (aQ s eI s1 φ w a ds ad ao aA hm aw) λe dZ w1 aq=> ?_
   cases eI with
   |normal=>
    obtain⟨rfl,gM,Db,kx,q1,aH⟩:=aq;exact Vd aQ n s1 x fC gM w1 dZ Db h aH.rel (aA.mono (aH.ext ao)) kx q1 Q λe a7 w' hp=>c5 e a7 w' (x6.trans ao aH hp)
   |exit Dc=>cases h;obtain⟨rfl,_⟩:=id aq;exact c5 _ _ _ aq
   |goto l=>cases h;obtain⟨rfl,_⟩:=id aq;exact c5 _ _ _ aq
   |ret=>cases h;obtain⟨rfl,_⟩:=id aq;exact c5 _ _ _ aq
  ·cases h
end
end AE
namespace AE
variable [a1]
section
variable {P:aR} [Lib P] [eh P] {C:ix} {gl:bV Nat} {N:Nat}
omit [a1] in
omit [Lib P] [eh P] in
theorem aeo {F:Fence} {n:Nat} {Q:Exit->Act->ax->Prop} {a:Act} {w:ax} {c:Code} {x:k_} (h:Nx (some c)=some x) (c5:Q x.exit' a w):c.wpIn F n P Q a w:=by
 cases c<;>simp only [Nx,cN] at h<;>first|(cases h;done)|skip
 case ret=>cases h;exact wpIn_ret c5
 case exit id=>cases h;exact wpIn_exit c5
 case goto l=>cases h;exact wpIn_goto c5
theorem aep (cX:lP P gl C) {g:Operand} {ps:Array Tmp} {nE body:Code} {s:b6} {x:k_} {fC:b6} {φ:b2} {w:ax} {a:Act} {ds:List Deferred} (h:Ny P C gl N g ps nE body s=some (x,fC))
  (ao:b0 φ s.A w) (aA:mT gl φ) (hm:rb φ s.ms ds) (aw:fD N ds φ s.sl a):(Code.rangeFunc g ps nE body).wpIn (Fr none) 0 P (x6 φ s.A w N x fC) a w:=by
 unfold Ny at h;split at h
 ·rename_i f first Nz oY
  cases vj:enters P f with
  |false=>rw[vj] at h;cases h
  |true=>
   rw[vj,bD] at h;split at h
   ·rename_i d bC hp1
    split at h
    ·rename_i l fU hp2
     split at h
     ·rename_i v Da ar
      split at h
      ·rename_i fY aeq
       cases af:Vb fY.state with
       |true=>rw[af] at h;cases h
       |false=>
        rw[af,eB] at h;split at h
        ·rename_i AX x' NA hj
         cases h;have wX:=gV aA aw.get g;rw[oY] at wX;have aer:∃kC cs',a.eval g= .func (.func f) kC cs'/\h6 first φ kC/\h6 Nz φ cs':=by
          generalize a.eval g=u at wX;cases wX with
          |func _ kC _ cs' av ad ag ay bG=>exact⟨kC,cs',rfl,h6.of ad ay,h6.of ag bG⟩
         obtain⟨kC,cs',aes,MU,fV⟩:=aer;have pq:=CB (o':= .deferred (some [])) (e:=⟨w.heap.size,0,0,0⟩) ao hp1 U U (by
          unfold fT
          exact⟨rfl,.deferred (some []),by simp,rfl⟩)
         have bc:=(ao.wf.push hp1).2.1;refine wpIn_rangeFunc λfn _=> ?_
         let px:Loop:={state:= .ready,pending:=none,fn:=fn,tmps:=a.tmps,params:=ps,assign:=nE,body:=body,defers:=w.heap.size}
         have wG:=CB (o':= .loop px) (e:=⟨w.heap.size+1,0,0,0⟩) pq.rel hp2 (by simp) rfl (by
          unfold fT;refine⟨rfl,.loop px,by
           show ((w.heap.push (Obj.deferred (some []))).push (Obj.loop px))[w.heap.size+1]? =_
           rw[Array.getElem?_push,aY (by simp)],px,rfl,rfl,rfl,aw.size,rfl,rfl,rfl,⟨⟨w.heap.size,0,0,0⟩,?_,rfl⟩,λt v aC=> ?_⟩
          ·have ck:=(pq.rel.wf.push hp2).2.1
           have h5:=(ao.wf.push hp1).2.2.1;show hn _ _ _ d=_;unfold hn;rw[a' aj,aY rfl]
          ·refine(aw.get t v aC).mono λb e af=> ?_
           have ck:=(pq.rel.wf.push hp2).2.1;have h5:=(ao.wf.push hp1).2.2.1;have:=ao.lt af;unfold hn;rw[a' aj,a' aj]
           exact af)
         have zq:=cA.trans ao pq wG;have I_:=zq.ext ao;have Ve:hn (hn φ d ⟨w.heap.size,0,0,0⟩) l ⟨w.heap.size+1,0,0,0⟩ l=some ⟨w.heap.size+1,0,0,0⟩:=by unfold hn;rw[aY rfl]
         have AY:hn (hn φ d ⟨w.heap.size,0,0,0⟩) l ⟨w.heap.size+1,0,0,0⟩ d=some ⟨w.heap.size,0,0,0⟩:=by
          have ck:=(pq.rel.wf.push hp2).2.1;have h5:=(ao.wf.push hp1).2.2.1;unfold hn;rw[a' aj,aY rfl]
         have aeu:aD (hn (hn φ d ⟨w.heap.size,0,0,0⟩) l ⟨w.heap.size+1,0,0,0⟩) (.func (.yield l) ⟨[]⟩ ⟨[]⟩) (.func (.yield (w.heap.size+1)) #[] #[]):= .tP Ve;have Vf:∀{Vg:List J} {Vh:Array J},h6 Vg φ Vh->h6 Vg (hn (hn φ d ⟨w.heap.size,0,0,0⟩) l ⟨w.heap.size+1,0,0,0⟩) Vh:=λh=>⟨h.1,λj hj=>(h.2 j hj).mono I_⟩
         have ad:h6 [.func (.yield l) ⟨[]⟩ ⟨[]⟩] (hn (hn φ d ⟨w.heap.size,0,0,0⟩) l ⟨w.heap.size+1,0,0,0⟩) #[.func (.yield (w.heap.size+1)) #[] #[]]:=⟨rfl,λj hj=>by
          have:j=0:=by simpa using hj
          subst this
          exact aeu⟩
         have gK:=((Vf MU).append ad).append (Vf fV);refine⟨w.heap.size+1,[{target:= .collected w.heap.size,args:= #[]}],{w with heap:=(w.heap.push (.deferred (some []))).push (.loop px)},{target:= .fn (.func f) cs',args:=kC++ #[.func (.yield (w.heap.size+1)) #[] #[]]},{w with heap:=(w.heap.push (.deferred (some []))).push (.loop px)},f,kC++ #[.func (.yield (w.heap.size+1)) #[] #[]]++cs',{w with heap:=(w.heap.push (.deferred (some []))).push (.loop px)},?_,?_,λ_ _=>trivial,?_,λh=>absurd h (by simp [Fr,Fence.wide]),
          CallsIn.mono (CY (cX.call f _ fU v Da _ _ _ ar zq.rel (aA.mono I_) gK)) λe Ja he=> ?_⟩
         ·unfold Instr.enterLoop
          simp only [Fr];have Ma:(newObj (.deferred (some []))).run P w= .ok w.heap.size {w with heap:=w.heap.push (.deferred (some []))}:=rfl;have gH:(newObj (.loop px)).run P {w with heap:=w.heap.push (.deferred (some []))}= .ok (w.heap.size+1) {w with heap:=(w.heap.push (.deferred (some []))).push (.loop px)}:=by
           simp only [newObj,Sem.run,Array.size_push]
          refine dm Ma ?_;refine c4 (a:=(w.heap.size,[({target:= .collected w.heap.size,args:= #[]}:Deferred)])) rfl ?_;exact dm (k:=λx=>pure (x,[({target:= .collected w.heap.size,args:= #[]}:Deferred)])) gH rfl
         ·unfold resolve
          simp only [aes,List.map_toArray,List.map_cons,List.map_nil];rfl
         ·exact jz (EY vj _) _
         ·cases e with
          |returned aB=>
           obtain⟨Fc,_,AZ⟩:=he;have Fe:=AZ.ext zq.rel _ _ Ve;obtain⟨r,q1,aH,bW,et⟩:=Nv (P:=P) AZ.rel aeq Fe;obtain⟨ek,TR,aev,NB,wH⟩:=id aH;cases TR;have NC:=I9 (o':= .loop {r with state:= .exhausted}) AZ.rel Fe NA (by
            obtain⟨uu,x7,A0,A1,Ff,Fg⟩:=wH
            exact⟨{r with state:= .exhausted},rfl,rfl,NB,uu,x7,A0,A1,Ff,Fg⟩)
           have ND:=cA.trans ao zq (cA.trans zq.rel AZ NC);have aew:rb Fc (d::s.ms) ({target:= .collected w.heap.size,args:= #[]}::ds):= .cons (AZ.ext zq.rel _ _ AY) (hm.mono λb e af=>AZ.ext zq.rel _ _ (I_ b e af));have x8:fD N ({target:= .collected w.heap.size,args:= #[]}::ds) Fc s.sl {a with defers:=[{target:= .collected w.heap.size,args:= #[]}]++a.defers}:=
            ⟨aw.size,by simp [aw.defers],λt v aC=>(aw.get t v aC).mono λb e af=>AZ.ext zq.rel _ _ (I_ b e af)⟩
           refine⟨fY.pending,{Ja with heap:=Ja.heap.setIfInBounds (w.heap.size+1) (.loop {r with state:= .exhausted})},?_,?_⟩
           ·unfold Instr.endLoop
            refine dm bW ?_;have AD:(r.state==LoopState.busy)=false:=by
             rw[aev];cases c1:fY.state<;>rw[c1] at af<;>first|rfl|cases af
            rw[AD];simp only [Bool.false_eq_true,if_false];refine dm (a:=()) (et _) ?_;rw[NB];rfl
           ·have post:x6 φ s.A w N x ⟨s.sl,d::s.ms,AX⟩ x.exit' {a with defers:=[{target:= .collected w.heap.size,args:= #[]}]++a.defers} {Ja with heap:=Ja.heap.setIfInBounds (w.heap.size+1) (.loop {r with state:= .exhausted})}:=
             ⟨rfl,Fc,_,aew,x8,ND⟩
            cases zs:fY.pending with
            |none=>
             rw[zs] at hj;cases hj;exact post
            |some c=>
             rw[zs] at hj;exact aeo hj post
          |panicked cl=>exact he.elim
          |outgrown=>exact he.elim
        ·cases h
      ·cases h
     ·cases h
    ·cases h
   ·cases h
 ·cases h
end
section
variable {P:aR} [Lib P] [eh P] {C:ix} {gl:bV Nat} {N:Nat}
theorem uv (cQ:P.follows .mixedOrders=true) (cX:lP P gl C) (gW:Bool) {ro:Option Nat} (dK:gW=false->ro=none) (bn:Nat):∀c:Code,Vc P gl N ro c (mU P C gl N gW bn c)
 | .skip,s,x,fC,φ,w,a,ds,h,ao,aA,hm,aw=>by cases h;exact wpIn_skip ⟨rfl,φ,ds,hm,aw,cA.refl ao⟩
 | .label _,s,x,fC,φ,w,a,ds,h,ao,aA,hm,aw=>by cases h;exact wpIn_label ⟨rfl,φ,ds,hm,aw,cA.refl ao⟩
 | .exit id,s,x,fC,φ,w,a,ds,h,ao,aA,hm,aw=>by cases h;exact wpIn_exit ⟨rfl,φ,ds,hm,aw,cA.refl ao⟩
 | .goto l,s,x,fC,φ,w,a,ds,h,ao,aA,hm,aw=>by cases h;exact wpIn_goto ⟨rfl,φ,ds,hm,aw,cA.refl ao⟩
 | .ret,s,x,fC,φ,w,a,ds,h,ao,aA,hm,aw=>by cases h;exact wpIn_ret ⟨rfl,φ,ds,hm,aw,cA.refl ao⟩
 | .region id ops d,s,x,fC,φ,w,a,ds,h,ao,aA,hm,aw=>by
   unfold mU at h;cases d with
   |true=>
    simp only [bD] at h;split at h
    ·rename_i s1 bC ad
     cases h;split at ad
     ·rename_i px h0
      cases ad;exact aei cQ cX ao aA aw dK (λc a w aq=>by obtain⟨he,_⟩:=aq;cases he) h0 λfm a2 w2 cO dx=>⟨rfl,fm,ds,hm.mono (dx.ext ao),cO,dx⟩
     ·exact Va cQ cX ao aA aw dK (λc a w aq=>by obtain⟨he,_⟩:=aq;cases he) ad λfm a2 w2 cO dx=>⟨rfl,fm,ds,hm.mono (dx.ext ao),cO,dx⟩
    ·cases h
   |false=>
    simp only [eB] at h;split at h
    ·rename_i s1 bC ad
     cases h;exact wpIn_region_list (M7 cX _ _ _ _ _ _ _ _ ao aA aw ad λfm a2 w2 cO dx=>⟨rfl,fm,ds,hm.mono (dx.ext ao),cO,dx⟩)
    ·cases h
 | .seq hq c2,s,x,fC,φ,w,a,ds,h,ao,aA,hm,aw=>by
   unfold mU at h;refine wpIn_seq ?_;split at h
   ·rename_i eI s1 ad
    refine wpIn_mono (uv cQ cX gW dK bn hq s eI s1 φ w a ds ad ao aA hm aw) λe dZ w1 aq=> ?_
    cases eI with
    |normal=>
     obtain⟨rfl,gM,Db,kx,q1,aH⟩:=aq;exact wpIn_mono (uv cQ cX gW dK bn c2 s1 x fC gM w1 dZ Db h aH.rel (aA.mono (aH.ext ao)) kx q1) λe a2 w2 hp=>x6.trans ao aH hp
    |exit Dc=>cases h;obtain⟨rfl,_⟩:=id aq;exact aq
    |goto l=>cases h;obtain⟨rfl,_⟩:=id aq;exact aq
    |ret=>cases h;obtain⟨rfl,_⟩:=id aq;exact aq
   ·cases h
 | .cond c hq c2,s,x,fC,φ,w,a,ds,h,ao,aA,hm,aw=>by
   unfold mU at h;split at h
   ·rename_i t ar
    have A2:=gV aA aw.get c;rw[ar] at A2;have aex:a.eval c= .bool t:=by
     cases A3:a.eval c<;>rw[A3] at A2<;>cases A2
     rfl
    refine wpIn_cond aex ?_;cases t with
    |true=>exact uv cQ cX gW dK bn hq s x fC φ w a ds h ao aA hm aw
    |false=>exact uv cQ cX gW dK bn c2 s x fC φ w a ds h ao aA hm aw
   ·split at h
    ·rename_i t aL
     refine wpIn_cond (IU cX.facts w aL (gV aA aw.get c)) ?_;cases t with
     |true=>exact uv cQ cX gW dK bn hq s x fC φ w a ds h ao aA hm aw
     |false=>exact uv cQ cX gW dK bn c2 s x fC φ w a ds h ao aA hm aw
    ·cases h
 | .block Vi c,s,x,fC,φ,w,a,ds,h,ao,aA,hm,aw=>by
   unfold mU at h;refine wpIn_block ?_;split at h
   ·rename_i eI s1 ad
    refine wpIn_mono (uv cQ cX gW dK bn c s eI s1 φ w a ds ad ao aA hm aw) λe dZ w1 aq=> ?_
    cases eI with
    |normal=>cases h;obtain⟨rfl,_⟩:=id aq;exact aq
    |goto l=>cases h;obtain⟨rfl,_⟩:=id aq;exact aq
    |ret=>cases h;obtain⟨rfl,_⟩:=id aq;exact aq
    |exit Dc=>
     obtain⟨rfl,aq⟩:=aq;show if Dc=Vi then _ else _
     cases af:Nat.beq Dc Vi with
     |true=>
      simp only [af,bD] at h;cases h;rw[aY (cH af)];exact⟨rfl,aq⟩
     |false=>
      simp only [af,eB] at h;cases h;rw[a' (λe=>by subst e;rw[Nat.beq_refl] at af;cases af)];exact⟨rfl,aq⟩
   ·cases h
 | .loop c,s,x,fC,φ,w,a,ds,h,ao,aA,hm,aw=>by
   unfold mU at h;exact wpIn_loop_rounds bn (Vd (uv cQ cX gW dK bn c) bn s x fC φ w a ds h ao aA hm aw _ λ_ _ _ aq=>aq)
 | .scope c,s,x,fC,φ,w,a,ds,h,ao,aA,hm,aw=>by cases h
 | .rangeFunc g ps nE body,s,x,fC,φ,w,a,ds,h,ao,aA,hm,aw=>by
   unfold mU at h;cases AW:gW with
   |true=>rw[AW] at h;cases h
   |false=>
    rw[AW,eB] at h;have:=dK AW;subst this;exact aep cX h ao aA hm aw
 | .refuse _,s,x,fC,φ,w,a,ds,h,ao,aA,hm,aw=>by cases h
end
def setArgs:Nat->List J->aF->Option aF
 |_,[],sl=>some sl
 |i,v::r,sl=>match bV.set v depth sl i with
  |some s=>setArgs (i+1) r s
  |none=>none
omit [a1] in
theorem NF:∀(l:List J) (i:Nat) (sl dN:aF),setArgs i l sl=some dN->∀t v,dN.get t=some v->(∃j,j<l.length/\t=i+j/\v=l.getD j undef)\/sl.get t=some v
 |[],i,sl,dN,h,t,v,aC=>by
  cases h;exact .inr aC
 |u::r,i,sl,dN,h,t,v,aC=>by
  unfold setArgs at h;split at h
  ·rename_i s aw
   rcases NF r (i+1) s dN h t v aC with ⟨j,hj,aL,aey⟩|aA
   ·exact .inl ⟨j+1,by simp;omega,aj,by simpa using aey⟩
   ·rw[bV.ob _ _ _ _ _ t aw] at aA
    by_cases aL:t=i
    ·subst aL
     rw[aY rfl] at aA;cases aA;exact .inl ⟨0,by simp,rfl,rfl⟩
    ·rw[a' aL] at aA
     exact .inr aA
  ·cases h
def wY (P:aR) (A:a6) (sl:aF):List ResultVar->Option (List J)
 |[]=>some []
 | .tmp t::r=>match wY P A sl r with
   |some vs=>some (slot sl t::vs)
   |none=>none
 | .cell a t::r=>match CG P A t (slot sl a),wY P A sl r with
   |some v,some vs=>some (v::vs)
   |_,_=>none
def x9:List J->J
 |[v]=>v
 |vs=> .tuple ⟨vs⟩
section
variable {P:aR} {φ:b2} {A bh:a6} {w:ax}
theorem aez (ao:b0 φ A w) {t:aK} {p p' v:J} (hp:aD φ p p') (h:CG P A t p=some v):∃aB,(do loadVar t (<-asAddr p')).run P w= .ok aB w/\aD φ v aB:=by
 unfold CG at h;split at h
 ·rename_i b off
  cases hp with
  |ptr he=>
   unfold loadVar;cases qt:bg P (isAgg t) with
   |none=>rw[qt] at h;cases h
   |some EF=>
    rw[qt] at h;cases EF with
    |false=>
     simp only at h;obtain⟨aB,ad,ag⟩:=u6 ao h he;refine⟨aB,c4 (a:=(⟨_,_,none⟩:Addr)) rfl (c4 qt ?_),ag⟩;simp [Go.load,Sem.run,ad]
    |true=>
     simp only at h;cases cr:bg P (sizeOf t) with
     |none=>rw[cr] at h;cases h
     |some n=>
      rw[cr] at h;simp only at h;obtain⟨l,hl,rfl⟩:=Option.map_eq_some_iff.1 h;obtain⟨cL,ad,ag,ay⟩:=EC ao P hl he;refine⟨.agg cL,c4 (a:=(⟨_,_,none⟩:Addr)) rfl (c4 qt ?_),.agg _ _ (by simp [ag]) λi ai=>by simpa using ay i (by simpa using ai)⟩;simp only [if_true];exact c4 cr (dm ad rfl)
 ·cases h
def NG (tmps:Array J):ResultVar->Sem J
 | .tmp t=>pure (tmps.getD t undef)
 | .cell a t=>do loadVar t (<-asAddr (tmps.getD a undef))
theorem NH (ao:b0 φ A w) {sl:aF} {tmps:Array J} (aw:∀t v,sl.get t=some v->aD φ v (tmps.getD t undef)):∀(l:List ResultVar) (vs:List J),wY P A sl l=some vs->
  ∃cL,(l.mapM (NG tmps)).run P w= .ok cL w/\h6 vs φ ⟨cL⟩
 |[],vs,h=>by
  cases h;exact⟨[],rfl,rfl,λj hj=>absurd hj (by simp)⟩
 | .tmp t::r,vs,h=>by
   unfold wY at h;split at h
   ·rename_i us hu
    cases h;obtain⟨NI,ad,ag,ay⟩:=NH ao aw r us hu;refine⟨tmps.getD t undef::NI,?_,by simpa using ag,λj hj=> ?_⟩
    ·rw[List.mapM_cons]
     exact c4 (a:=tmps.getD t undef) rfl (dm ad rfl)
    ·cases j with
     |zero=>exact IV (aw t)
     |succ j=>simpa using ay j (by simpa using hj)
   ·cases h
 | .cell a t::r,vs,h=>by
   unfold wY at h;split at h
   ·rename_i v us aC hu
    cases h;obtain⟨NI,ad,ag,ay⟩:=NH ao aw r us hu;obtain⟨aB,g1,g2⟩:=aez ao (IV (aw a)) aC;refine⟨aB::NI,?_,by simpa using ag,λj hj=> ?_⟩
    ·rw[List.mapM_cons]
     exact dm g1 (dm ad rfl)
    ·cases j with
     |zero=>exact g2
     |succ j=>simpa using ay j (by simpa using hj)
   ·cases h
theorem Vj (ao:b0 φ A w) {sl:aF} {fn:Func} {tmps:Array J} (aw:∀t v,sl.get t=some v->aD φ v (tmps.getD t undef)) {vs:List J} (h:wY P A sl fn.results.toList=some vs):
  ∃aB,(results fn tmps).run P w= .ok aB w/\aD φ (x9 vs) aB:=by
 obtain⟨cL,ad,ag,ay⟩:=NH ao aw _ vs h;have e:results fn tmps=(fn.results.mapM (NG tmps)) >>= λvs=>pure (if h:vs.size=1 then vs[0] else .tuple vs):=by
  unfold results;congr 1
 rw[e,Array.mapM_eq_mapM_toList];refine⟨_,dm (a:=(⟨cL⟩:Array J)) (dm ad rfl) rfl,?_⟩
 match vs,cL,ag,ay with
 |[v],[aB],_,ay=>exact ay 0 (by simp)
 |[],[],_,_=>exact .tuple _ _ rfl λi ai=>absurd ai (by simp)
 |a::b::r,a7::b'::ek,ag,ay=>exact .tuple _ _ (by simpa using ag.symm) λi ai=>by simpa using ay i (by simpa using ai)
end
def A4 (N:Nat):List Tmp->List J->aF->Option aF
 |[],[],sl=>some sl
 |t::c0,v::vs,sl=>match gZ N sl (some t) v with
  |some s=>A4 N c0 vs s
  |none=>none
 |_,_,_=>none
def Vk:LoopState->Bool
 | .ready=>true
 |_=>false
def zt:k_->Option Code
 | .normal=>none
 | .exit id=>some (.exit id)
 | .goto l=>some (.goto l)
 | .ret=>some .ret
def Dd:k_->LoopState
 | .normal=> .ready
 |_=> .done
def Fh:k_->Bool
 | .normal=>true
 |_=>false
def NJ (P:aR) [Lib P] [eh P] (gl:bV Nat) (bn:Nat) (C:ix) (b:Nat) (args:List J) (A:a6):Option (J×a6):=
 match A.getLoop b with
 |some fY=>match A4 fY.N fY.params args fY.sl with
  |some mz=>match mU P C gl fY.N true bn fY.assign {sl:=mz,ms:=[],A} with
   |some (.normal,s1)=>match s1.A.getLoop b with
    |some Fi=>bif Vk Fi.state then
      match s1.A.C_ b (.loop {Fi with state:= .busy}) with
      |some fU=>match mU P C gl fY.N true bn fY.body {sl:=s1.sl,ms:=s1.ms,A:=fU} with
       |some (x,r5)=>match r5.A.getLoop b with
        |some Vl=>match r5.A.C_ b (.loop {Vl with state:=Dd x,pending:=zt x}) with
         |some AX=>some (.bool (Fh x),AX)
         |none=>none
        |none=>none
       |none=>none
      |none=>none
     else none
    |none=>none
   |_=>none
  |none=>none
 |none=>none
def NK (P:aR) [Lib P] [eh P] (gl:bV Nat) (bn:Nat) (C:ix) (f:FuncId) (args:List J) (A:a6):Option (J×a6):=
 match P.funcs[f]? with
 |some fn=>match fn.body with
  |some c=>match setArgs 0 args .nil with
   |some sl=>match mU P C gl (args.length+(fn.ntmps-args.length)) false bn c {sl,ms:=[],A} with
    |some (x,s1)=>match x with
     | .exit _=>none
     | .goto _=>none
     |_=>match x5 s1.A s1.ms with
      |some fU=>match wY P fU s1.sl fn.results.toList with
       |some vs=>some (x9 vs,fU)
       |none=>none
      |none=>none
    |none=>none
   |none=>none
  |none=>none
 |none=>none
section
variable {P:aR} {gl:bV Nat}
theorem fD.A4 {N:Nat} {ds:List Deferred} {φ:b2}:∀(c0:List Tmp) (vs:List J) (us:List J) (sl dN:aF) (a:Act),fD N ds φ sl a->AE.A4 N c0 vs sl=some dN->us.length=vs.length->(∀j,j<vs.length->aD φ (vs.getD j undef) (us.getD j undef))->
  c0.length=us.length/\fD N ds φ dN {a with tmps:=(c0.zip us).foldl (λtmps p=>tmps.setIfInBounds p.1 p.2) a.tmps}
 |[],[],us,sl,dN,a,aw,h,hl,aC=>by
  cases h;have:us=[]:=by simpa using hl
  subst this;exact⟨rfl,aw⟩
 |t::c0,v::vs,us,sl,dN,a,aw,h,hl,aC=>by
  unfold AE.A4 at h;split at h
  ·rename_i s1 ad
   cases us with
   |nil=>simp at hl
   |cons u us=>
    have eL:=aw.put (by simpa using aC 0 (by simp)) ad;obtain⟨q1,aH⟩:=fD.A4 c0 vs us s1 dN _ eL h (by simpa using hl) (λj hj=>by simpa using aC (j+1) (by simpa using hj));exact⟨by simp [q1],aH⟩
  ·cases h
 |[],_::_,_,_,_,_,_,h,_,_=>by cases h
 |_::_,[],_,_,_,_,_,h,_,_=>by cases h
end
end AE
namespace AE
variable [a1]
section
variable {P:aR} [Lib P] [eh P] {gl:bV Nat} {bn:Nat} {C:ix}
theorem aeA (cQ:P.follows .mixedOrders=true) (cX:lP P gl C) {f:FuncId} {args:List J} {A:a6} {v:J} {bh:a6} {φ:b2} {w:ax} {gv:Array J} (h:NK P gl bn C f args A=some (v,bh)) (ao:b0 φ A w) (aA:mT gl φ)
  (gK:h6 args φ gv):Calls P f gv w (zj φ A w v bh):=by
 unfold NK at h;split at h
 ·rename_i fn mV
  split at h
  ·rename_i c ar
   split at h
   ·rename_i sl gI
    split at h
    ·rename_i x s1 pV
     have cr:gv.size=args.length:=gK.1;have aw:fD (args.length+(fn.ntmps-args.length)) [] φ sl {tmps:=gv++Array.replicate (fn.ntmps-gv.size) undef,defers:=[]}:=by
      refine⟨by simp [cr],rfl,λt u hu=> ?_⟩;rcases NF _ _ _ _ gI t u hu with ⟨j,hj,aL,rfl⟩|aA
      ·have:=gK.2 j hj
       simp only [Nat.zero_add] at aL;subst aL;simp only [fh] at this ⊢;rw[Array.getElem?_append_left aj];exact this
      ·cases aA
     have fW:∀(vs:List J) (fU:a6),(x= .normal\/x= .ret)->x5 s1.A s1.ms=some fU->wY P fU s1.sl fn.results.toList=some vs->v=x9 vs->bh=fU->Calls P f gv w (zj φ A w v bh):=by
      intro vs fU aq aeB kF aC lR;subst aC;subst lR;refine(callsIn_wide (n:=0)).1 ?_;refine callsIn_of_wp_marks mV ar trivial ?_ rfl;have aeC:=uv (ro:=none) cQ cX false (λ_=>rfl) bn c {sl,ms:=[],A} x s1 φ w _ [] pV ao aA .nil aw;refine wpIn_mono (F:=Fr none) aeC λe dZ w1 hp=> ?_
      obtain⟨rfl,gM,ds,kx,q1,aH⟩:=hp;have main:LeavesInM (Fr none) 0 P fn dZ.tmps (zj φ A w (x9 vs) bh) dZ.defers .returning w1:=by
       rw[q1.defers];refine Nw s1.ms ds s1.A bh w1 aH.rel kx aeB λw2 bW=> ?_
       obtain⟨aB,g1,g2⟩:=Vj (fn:=fn) bW.rel q1.get kF;exact⟨aB,g1,gM,g2,cA.trans ao aH bW⟩
      rcases aq with rfl|rfl
      ·exact main
      ·exact main
     cases x with
     |exit Dc=>cases h
     |goto l=>cases h
     |normal=>
      simp only at h;split at h
      ·rename_i fU hl
       split at h
       ·rename_i vs kF
        cases h;exact fW vs bh (.inl rfl) hl kF U U
       ·cases h
      ·cases h
     |ret=>
      simp only at h;split at h
      ·rename_i fU hl
       split at h
       ·rename_i vs kF
        cases h;exact fW vs bh (.inr rfl) hl kF U U
       ·cases h
      ·cases h
    ·cases h
   ·cases h
  ·cases h
 ·cases h
theorem aeD (cQ:P.follows .mixedOrders=true) (cX:lP P gl C) {b:Nat} {args:List J} {A:a6} {v:J} {bh:a6} {φ:b2} {w:ax} {gv:Array J} {e:hP} {k:h4} {fY:Ar} {r:Loop}
  (h:NJ P gl bn C b args A=some (v,bh)) (ao:b0 φ A w) (aA:mT gl φ) (gK:h6 args φ gv) (he:φ b=some e) (al:A.bl.get b=some k) (fK:k.obj= .gu (.loop fY)) (_:w.heap[e.bk]? =some (.loop r)) (AP:rM φ (.loop fY) (.loop r)):
  gv.size=r.params.size/\RoundIn Fence.wide 0 P e.bk r.fn ((r.params.zip gv).foldl (λtmps (t,a)=>tmps.setIfInBounds t a) r.tmps) r.assign r.body w (zj φ A w v bh):=by
 unfold NJ at h;have aeE:A.getLoop b=some fY:=by unfold a6.getLoop;rw[al];simp only [fK]
 rw[aeE] at h;simp only at h;obtain⟨px,k8,c1,NB,kj,NL,has,zd,aoB,gI⟩:=id AP;cases k8;split at h
 ·rename_i mz fg
  have zm:fD fY.N [] φ fY.sl {tmps:=r.tmps,defers:=[]}:=⟨kj,rfl,gI⟩;obtain⟨NM⟩:=gv;obtain⟨Vm,tZ⟩:=gK;simp only [List.size_toArray] at Vm;obtain⟨hlen,xJ⟩:=fD.A4 fY.params args NM fY.sl mz _ zm fg Vm (λj hj=>by simpa [fh] using tZ j hj);refine⟨by rw[NL];simp [hlen],?_⟩;have aeF:(r.params.zip ⟨NM⟩).foldl (λtmps (t,a)=>tmps.setIfInBounds t a) r.tmps=(fY.params.zip NM).foldl (λtmps p=>tmps.setIfInBounds p.1 p.2) r.tmps:=by
   rw[NL,<-Array.foldl_toList];simp
  rw[aeF];split at h
  ·rename_i s1 aeG
   split at h
   ·rename_i Fi De
    cases wW:Vk Fi.state with
    |false=>rw[wW] at h;cases h
    |true=>
     rw[wW,bD] at h;split at h
     ·rename_i fU NA
      split at h
      ·rename_i x r5 rf
       split at h
       ·rename_i Vl Fe
        split at h
        ·rename_i AX aeH
         cases h;refine roundIn_of_wpIn trivial ?_;rw[has,zd];have aeI:=uv (ro:=some e.bk) cQ cX true (λh=>by cases h) bn fY.assign {sl:=mz,ms:=[],A} .normal s1 φ w _ [] aeG ao aA .nil xJ;refine wpIn_mono (F:=Fr (some e.bk)) aeI λe1 dZ w1 hp=> ?_
         obtain⟨rfl,gM,Db,kx,q1,aH⟩:=hp;have NN:=aH.ext ao _ _ he;obtain⟨cO,g1,g2,g3,g4⟩:=Nv (P:=P) aH.rel De NN;obtain⟨uc,k7,EP,aeJ⟩:=id g2;cases k7;have wG:=I9 (o':= .loop {cO with state:= .busy}) aH.rel NN NA ⟨{cO with state:= .busy},rfl,rfl,aeJ⟩;refine⟨{w1 with heap:=w1.heap.setIfInBounds e.bk (.loop {cO with state:= .busy})},?_,?_⟩
         ·unfold Instr.beginRound
          refine dm g3 ?_;refine dm (a:=()) (g4 _) ?_;rw[EP];cases Jb:Fi.state<;>rw[Jb] at wW<;>first|rfl|cases wW
         ·have Vn:=cA.trans ao aH wG
          have aeK:=uv (ro:=some e.bk) cQ cX true (λh=>by cases h) bn fY.body {sl:=s1.sl,ms:=s1.ms,A:=fU} x r5 gM _ dZ Db rf wG.rel (aA.mono (Vn.ext ao)) kx q1;refine wpIn_mono (F:=Fr (some e.bk)) aeK λe2 a2 w2 hp2=> ?_
          obtain⟨rfl,Fc,aeL,sQ,ih,hz⟩:=hp2;have Vo:=hz.ext wG.rel _ _ NN;obtain⟨gh,uu,x7,A0,A1⟩:=Nv (P:=P) hz.rel Fe Vo;obtain⟨CM,Vp,aoC,aoD,aeM⟩:=id x7;cases Vp;have NC:=I9 (o':= .loop {gh with state:=Dd x,pending:=zt x}) hz.rel Vo aeH ⟨{gh with state:=Dd x,pending:=zt x},rfl,rfl,rfl,aeM⟩;have ND:=cA.trans ao Vn (cA.trans wG.rel hz NC);have Jc:∀(j:Option Code),j=zt x->(Instr.endRound e.bk j).run P w2= .ok (.bool (Fh x)) {w2 with heap:=w2.heap.setIfInBounds e.bk (.loop {gh with state:=Dd x,pending:=zt x})}:=by
           intro j hj;subst hj;unfold Instr.endRound;refine dm A0 ?_;have c1:(if (zt x).isNone then LoopState.ready else LoopState.done)=Dd x:=by cases x<;>rfl
           have av:(zt x).isNone=Fh x:=by cases x<;>rfl
           rw[c1,av];exact dm (a:=()) (A1 _) rfl
          have post:zj φ A w (.bool (Fh x)) bh (.returned (.bool (Fh x))) {w2 with heap:=w2.heap.setIfInBounds e.bk (.loop {gh with state:=Dd x,pending:=zt x})}:=⟨Fc,.bool _,ND⟩;cases x with
          |normal=>exact⟨_,_,Jc _ rfl,post⟩
          |ret=>exact⟨_,_,Jc _ rfl,post⟩
          |exit Dc=>exact⟨_,_,Jc _ rfl,post⟩
          |goto l=>exact⟨_,_,Jc _ rfl,post⟩
        ·cases h
       ·cases h
      ·cases h
     ·cases h
   ·cases h
  ·cases h
 ·cases h
end
end AE
end Go.Proofs.YtepcfjbfkedlpaaDoor
namespace Go.Proofs.YtepcfjbfkedlpaaDoor
open Go Go.RowKit
namespace AE
structure cg (B:Nat) (w w':ax):Prop where
 below:Below B w w'
 drawn:iF w<=iF w'
theorem cg.refl (B:Nat) (w:ax):cg B w w:=⟨Below.refl _ _,cj _⟩
theorem cg.trans {B:Nat} {a w w':ax} (h:cg B a w) (g:cg B w w'):cg B a w':=⟨h.below.trans g.below,Nat.le_trans h.drawn g.drawn⟩
theorem cg.mono {B vq:Nat} {w w':ax} (h:cg B w w') (af:vq<=B):cg vq w w':=⟨h.below.mono af,h.drawn⟩
theorem cg.size {B:Nat} {w w':ax} (h:cg B w w'):w.heap.size<=w'.heap.size:=h.below.size
theorem cg.block {B:Nat} {w w':ax} (h:cg B w w'):∀k,k<B->w'.heap[k]? =w.heap[k]? :=h.below.block
class s3 (P:aR) where
 calls:List (FuncId×List J×J)
def Jd (f:FuncId) (args:List J):List (FuncId×List J×J)->Option J
 |[]=>none
 |p::r=>bif Nat.beq f p.1&&oo args p.2.1 then some p.2.2 else Jd f args r
theorem Vq {f:FuncId} {args:List J} {v:J}:∀{l:List (FuncId×List J×J)},Jd f args l=some v->(f,args,v)∈l
 |[],h=>by cases h
 |p::r,h=>by
  unfold Jd at h;cases he:(Nat.beq f p.1&&oo args p.2.1) with
  |true=>
   rw[he,bD,cN] at h;simp only [c7] at he;have ad:=cH he.1;have ag:=q6 _ _ he.2;subst ad;subst ag;subst h;exact List.mem_cons_self
  |false=>
   rw[he,eB] at h;exact List.mem_cons_of_mem _ (Vq h)
def zu (g:FuncId) (u:J):J:= .func (.func g) ⟨[]⟩ ⟨[.agg ⟨[.slice none 7 7,u]⟩]⟩
def NO (A:a6) (v:J):Option J:=
 bif aM v then some v else match v with
 | .func (.func g) ⟨[]⟩ ⟨[.pointer (some ⟨b,off,none⟩)]⟩=>match A.load b off with
   |some u=>bif aM u then some (zu g u) else none
   |none=>none
 |_=>none
def Je (A:a6):List J->Option (List J)
 |[]=>some []
 |v::r=>match NO A v,Je A r with
  |some aB,some ek=>some (aB::ek)
  |_,_=>none
def Jf (P:aR) [s3 P] (C:ix):ix where
 call:=λf args A=>match s3.calls P with
  |[]=>C.call f args A
  |l=>match Je A args with
   |some us=>match Jd f us l with
    |some v=>some (v,A)
    |none=>C.call f args A
   |none=>C.call f args A
 round:=C.round
def s4 (P:aR) [Lib P] [eh P] [s3 P] (gl:bV Nat) (bn:Nat):Nat->ix
 |0=>Jf P {call:=λ_ _ _=>none,round:=λ_ _ _=>none}
 |d+1=>Jf P {call:=NK P gl bn (s4 P gl bn d),round:=NJ P gl bn (s4 P gl bn d)}
variable [a1]
def i_ (P:aR) (p:FuncId×List J×J):Prop:=
 dL p.2.1=true/\aM p.2.2=true/\∀w,ot w->Calls P p.1 ⟨eo p.2.1⟩ w λe w'=>e= .returned (aJ p.2.2)/\cg w.heap.size w w'
def Vr (w:ax) (v a:J):Prop:=
 (aM v=true/\a=aJ v)\/∃g u B off,v=zu g u/\aM u=true/\a= .func (.func g) #[] #[.pointer (some ⟨B,off,none⟩)]/\B<w.heap.size/\w.cell? ⟨B,off,none⟩=some (aJ u)
def Df (w:ax):List J->List J->Prop
 |[],[]=>True
 |v::r,a::s=>Vr w v a/\Df w r s
 |_,_=>False
def A5 (P:aR) (p:FuncId×List J×J):Prop:=
 ∀w,ot w->∀us,Df w p.2.1 us->Calls P p.1 ⟨us⟩ w λe w'=>∃aB,e= .returned aB/\(∀φ,aD φ p.2.2 aB)/\cg w.heap.size w w'
theorem Df.plain {w:ax}:∀{l us:List J},dL l=true->Df w l us->us=eo l
 |[],[],_,_=>rfl
 |v::r,a::s,hp,h=>by
  simp only [dL,c7] at hp;have ag:=Df.plain hp.2 h.2;rcases h.1 with ⟨_,ad⟩|⟨g,u,B,off,rfl,_⟩
  ·rw[ad,ag];rfl
  ·have:aM (zu g u)=false:=by unfold zu;simp [aM,dL]
   rw[this] at hp;exact absurd hp.1 (by simp)
 |[],_::_,_,h=>h.elim
 |_::_,[],_,h=>h.elim
theorem A5.of {P:aR} {p:FuncId×List J×J} (ad:dL p.2.1=true) (h:∀w,ot w->Calls P p.1 ⟨eo p.2.1⟩ w λe w'=>∃aB,e= .returned aB/\(∀φ,aD φ p.2.2 aB)/\cg w.heap.size w w'):A5 P p:=
 λw hw us ha=>by rw[ha.plain ad];exact h w hw
theorem i_.NP {P:aR} {p:FuncId×List J×J} (h:i_ P p):A5 P p:=
 .of h.1 λw hw=>(h.2.2 w hw).mono λ_ _ ⟨he,af⟩=>⟨_,he,λφ=>aD.vh φ _ h.2.1,af⟩
def Vs (P:aR) [s3 P]:Prop:=∀p∈s3.calls P,A5 P p
theorem cA.below {φ:b2} {A:a6} {w w':ax} (ao:b0 φ A w) (af:cg w.heap.size w w'):cA φ A w φ A w' where
 rel:=⟨ao.wf,λb e h=>by
  obtain⟨k,ad,ag,ay⟩:=ao.eC b e h;exact⟨k,ad,ag,ay.mono (λ_ _ h=>h) (af.block _ ay.lt)⟩,ao.apart,ao.along,λi o ai=>by
  obtain⟨ad,ag⟩:=ao.dq i o ai
  exact⟨by rw[af.block i (Array.getElem?_eq_some_iff.1 ad).1];exact ad,ag⟩⟩
 eC:=λ_ _=>rfl
 rN:=λb ad ag=>by omega
 new:=λb e ad ag=>absurd (ao.lt ag) aj
 qp:=cj _
 low:=cj _
 same:=λ_ _ _=>rfl
 ro:=λ_ _ h _=>h
 keep:=λi ai _=>af.block i ai
 gL:=af.size
 os:=af.below.os
 tape:=af.below.tape
 output:=af.below.output
 drawn:=af.drawn
theorem aeN {φ:b2} {A:a6} {w:ax} (ao:b0 φ A w) {v aB a:J} (h:NO A v=some aB) (ha:aD φ v a):Vr w aB a:=by
 unfold NO at h;cases hp:aM v with
 |true=>
  rw[hp,bD,cN] at h;subst h;exact .inl ⟨hp,aD.ji v hp ha⟩
 |false=>
  rw[hp,eB] at h;split at h
  ·rename_i g b off
   split at h
   ·rename_i u hu
    cases Jg:aM u with
    |false=>rw[Jg] at h;cases h
    |true=>
     rw[Jg,bD,cN] at h;subst h;cases ha with
     |func fs kC cs cs' av ad ag aQ ar=>
      have e1:kC= #[]:=by
       apply Array.eq_empty_of_size_eq_zero;have:=ad;simp at this;omega
      have aw:cs'.size=1:=by
       have:=ag;simp at this;omega
      have h0:=ar 0 (by simp);obtain⟨dC,rfl⟩:∃dC,cs'= #[dC]:=by
       obtain⟨l⟩:=cs'
       match l,aw with
       |[dC],_=>exact⟨dC,rfl⟩
      have aeO:aD φ (.pointer (some ⟨b,off,none⟩)) dC:=by simpa using h0
      cases aeO with
      |ptr he=>
       rename_i e;obtain⟨u',g1,g2⟩:=u6 ao hu he;refine .inr ⟨g,u,e.bk,e.sh+off,rfl,Jg,by rw[e1],?_,?_⟩
       ·obtain⟨k,_,_,ay⟩:=ao.eC b e he
        exact ay.lt
       ·rw[g1,aD.ji u Jg g2]
   ·cases h
  ·cases h
theorem Vt {φ:b2} {A:a6} {w:ax} (ao:b0 φ A w):∀{args us l:List J},Je A args=some us->args.length=l.length->(∀j,j<args.length->aD φ (args.getD j Go.undef) (l.getD j Go.undef))->Df w us l
 |[],us,[],h,_,_=>by cases h;trivial
 |v::r,us,a::s,h,hl,hj=>by
  unfold Je at h;split at h
  ·rename_i aB ek ad ag
   cases h;exact⟨aeN ao ad (by simpa using hj 0 (by simp)),Vt ao ag (by simpa using hl) λj gY=>by simpa using hj (j+1) (by simpa using gY)⟩
  ·cases h
 |[],_,_::_,_,h,_=>by cases h
 |_::_,_,[],_,h,_=>by cases h
theorem Vu {P:aR} [eh P] [s3 P] {gl:bV Nat} {C:ix} (Dg:Vs P) (h:lP P gl C):lP P gl (Jf P C):=by
 refine⟨h.facts,λf args A v bh φ w gv ar ao aA gK=> ?_,h.round⟩;unfold Jf at ar;simp only at ar;split at ar
 ·exact h.call f args A v bh φ w gv ar ao aA gK
 split at ar
 ·rename_i us has
  split at ar
  ·rename_i u hu
   cases ar;have ay:=Dg _ (Vq hu);obtain⟨l⟩:=gv;have hl:=Vt ao has gK.1.symm (l:=l) (λi ai=>by simpa using gK.2 i ai);refine(ay w (λi o ai=>(ao.dq i o ai).1) l hl).mono λe w' he=> ?_
   obtain⟨aB,rfl,aC,af⟩:=he;exact⟨φ,aC φ,cA.below ao af⟩
  ·exact h.call f args A v bh φ w gv ar ao aA gK
 ·exact h.call f args A v bh φ w gv ar ao aA gK
theorem zv {P:aR} [Lib P] [eh P] [s3 P] {gl:bV Nat} {bn:Nat} (cQ:P.follows .mixedOrders=true) (dh:q7 P) (Dg:Vs P):∀d,lP P gl (s4 P gl bn d)
 |0=>Vu Dg ⟨dh,λf args A v bh φ w gv h=>(by cases h),λb args A v bh φ w gv e k fY r h=>(by cases h)⟩
 |d+1=>Vu Dg ⟨dh,λf args A v bh φ w gv h ao aA gK=>aeA cQ (zv cQ dh Dg d) h ao aA gK,
   λb args A v bh φ w gv e k fY r h ao aA gK he al fK rO AP=>aeD cQ (zv cQ dh Dg d) h ao aA gK he al fK rO AP⟩
def start:a6:={bl:= .nil,n:=0,mem:= .nil,low:=0}
theorem Vv {w:ax} (ai:ot w):b0 (λ_=>none) start w:=
 ⟨⟨λ_ _ h=>(by cases h),λ_ _ h=>(by cases h),λ_ _ h=>(by cases h),λ_ _ _ _ h=>(by cases h)⟩,λ_ _ h=>(by cases h),λ_ _ _ _ _ _ h=>(by cases h),λ_ _ _ _ _ _ h=>(by cases h),λi o h=>⟨ai i o h,λ_ _ h=>by cases h⟩⟩
end AE
end Go.Proofs.YtepcfjbfkedlpaaDoor
namespace Go.Proofs.YtepcfjbfkedlpaaDoor
open Go Go.Proofs Go.RowKit
namespace AE
noncomputable instance:Lib Tryd.prog where
 same:=[]
 Uj:=λf aQ x=>by cases aQ
 Mx:=[]
 Uk:=λp hp=>by cases hp
theorem mixed:Tryd.prog.follows .mixedOrders=true:=au
end AE
end Go.Proofs.YtepcfjbfkedlpaaDoor
namespace Go.Proofs.YtepcfjbfkedlpaaDoor
open Go Go.RowKit
namespace AE
class cS where
 fE:b2
 eu:Nat
@[reducible] def gm:cS:=⟨λ_=>none,0⟩
def vr [cS] (φ:b2) (A:a6):Prop:=cS.eu<=A.n/\∀b,b<cS.eu->φ b=cS.fE b
theorem vr.step [a1] [cS] {φ c8:b2} {A bh:a6} {w w':ax} (h:vr φ A) (aw:cA φ A w c8 bh w'):vr c8 bh:=
 ⟨Nat.le_trans h.1 aw.qp,λb af=>by rw[aw.eC b (Nat.lt_of_lt_of_le af h.1)];exact h.2 b af⟩
theorem vr.none (φ:b2) (A:a6): @vr gm φ A:=⟨Nat.zero_le _,λ_ af=>absurd af (Nat.not_lt_zero _)⟩
structure Here [a1] [cS] (N:Nat) (s:b6) (B:Nat) (w0:ax) (a:Act) (w:ax):Prop where
 ex:∃φ ds,rb φ s.ms ds/\fD N ds φ s.sl a/\b0 φ s.A w/\(∀b e,φ b=some e->B<=e.bk)/\vr φ s.A
 below:cg B w0 w
 size:B<=w.heap.size
section
variable [a1]
theorem Dh {φ c8:b2} {A bh:a6} {w w':ax} {B:Nat} (cT:∀b e,φ b=some e->B<=e.bk) (aw:cA φ A w c8 bh w') (cr:B<=w.heap.size):(∀b e,c8 b=some e->B<=e.bk)/\cg B w w':=by
 refine⟨λb e he=> ?_,⟨aw.os,aw.tape,aw.output,aw.gL,λk al=>aw.keep k aj λb e dj af he _=>by have:=cT b e af;omega⟩,aw.drawn⟩;rcases Nat.lt_or_ge b A.n with h|h
 ·rw[aw.eC b h] at he
  exact cT b e he
 ·rcases aw.new b e h he with ad|⟨ct,e0,ey,q1,aH,_⟩
  ·omega
  ·rw[<-aH]
   exact cT ct e0 q1
omit [a1] in
theorem iG (φ:b2):mT .nil φ:=λg b aA=>by cases aA
variable [cS]
variable {P:aR} [Lib P] [eh P] {C:ix} {N B:Nat} {w0 w:ax} {a:Act} {s fC:b6}
theorem aeP (cQ:P.follows .mixedOrders=true) (cX:lP P .nil C) (bn:Nat) {c:Code} {x:k_} (h:mU P C .nil N false bn c s=some (x,fC)) (ah:Here N s B w0 a w):
  c.wpIn (Fr none) 0 P (λe a7 w'=>e=x.exit'/\Here N fC B w0 a7 w') a w:=by
 obtain⟨⟨φ,ds,ad,ag,ay,bG,fS⟩,cE,cR⟩:=ah;refine wpIn_mono (uv (ro:=none) cQ cX false (λ_=>rfl) bn c s x fC φ w a ds h ay (iG φ) ad ag) λe a7 w' hp=> ?_
 obtain⟨rfl,c8,aeQ,q1,aH,bW⟩:=hp;obtain⟨dg,k2⟩:=Dh bG bW cR;exact⟨rfl,⟨c8,aeQ,q1,aH,bW.rel,dg,fS.step bW⟩,cE.trans k2,Nat.le_trans cR bW.gL⟩
theorem aeR {c:Operand} {t:Bool} (h:dH .nil s.sl c= .bool t) (ah:Here N s B w0 a w):a.eval c= .bool t:=by
 obtain⟨⟨φ,ds,ad,ag,ay,bG,_⟩,_,_⟩:=ah;have:=gV (iG φ) ag.get c;rw[h] at this;cases aC:a.eval c<;>rw[aC] at this<;>cases this
 rfl
omit [Lib P] in
theorem aeS (dh:q7 P) {c:Operand} {t:Bool} (h:AO P (dH .nil s.sl c)=some t) (ah:Here N s B w0 a w):a.eval c= .bool t:=by
 obtain⟨⟨φ,ds,ad,ag,ay,bG,_⟩,_,_⟩:=ah;exact IU dh w h (gV (iG φ) ag.get c)
omit [cS] in
theorem Vw (cX:lP P .nil C) {ds:List Deferred} {ops:Array Oper} {Q:Exit->Act->ax->Prop} {ly:List Oper}:∀(l:List Oper) (sl dN:aF) (A bh:a6) (φ:b2) (w:ax) (a:Act),b0 φ A w->fD N ds φ sl a->wQ P C .nil N ops l sl A=some (dN,bh)->
  (∀c8 a7 w',fD N ds c8 dN a7->cA φ A w c8 bh w'->wpListIn (Fr none) 0 P ops Q ly a7 w')->wpListIn (Fr none) 0 P ops Q (l++ly) a w
 |[],sl,dN,A,bh,φ,w,a,ao,aw,h,c5=>by
  cases h;exact c5 φ a w aw (cA.refl ao)
 |o::r,sl,dN,A,bh,φ,w,a,ao,aw,h,c5=>by
  unfold wQ at h;split at h
  ·rename_i eK bC c1
   obtain⟨v,aC,hp⟩:=M5 c1;rw[List.cons_append];unfold wpListIn;refine IX cX ao (iG φ) aw.get aC λc8 aB w' xR pR=> ?_
   exact Vw cX r eK dN bC bh c8 w' (a.put o.dst aB) pR.rel ((aw.mono (pR.ext ao)).put xR hp) h λfm a2 w2 ad ag=>c5 fm a2 w2 ad (cA.trans ao pR ag)
  ·cases h
theorem Vx (cX:lP P .nil C) {ops:Array Oper} {Q:Exit->Act->ax->Prop} (l1 ly:List Oper) {eK:aF} {bC:a6} (h:wQ P C .nil N ops l1 s.sl s.A=some (eK,bC)) (ah:Here N s B w0 a w)
  (c5:∀a7 w',Here N {sl:=eK,ms:=s.ms,A:=bC} B w0 a7 w'->wpListIn (Fr none) 0 P ops Q ly a7 w'):wpListIn (Fr none) 0 P ops Q (l1++ly) a w:=by
 obtain⟨⟨φ,ds,ad,ag,ay,bG,fS⟩,cE,cR⟩:=ah;refine Vw cX l1 _ _ _ _ φ w a ay ag h λc8 a7 w' q1 aH=> ?_
 obtain⟨dg,k2⟩:=Dh bG aH cR;exact c5 a7 w' ⟨⟨c8,ds,ad.mono (aH.ext ay),q1,aH.rel,dg,fS.step aH⟩,cE.trans k2,Nat.le_trans cR aH.gL⟩
theorem Here.quiet {w':ax} (ah:Here N s B w0 a w) (af:cg w.heap.size w w'):Here N s B w0 a w':=by
 obtain⟨⟨φ,ds,ad,ag,ay,bG,fS⟩,cE,cR⟩:=ah;exact⟨⟨φ,ds,ad,ag,(cA.below ay af).rel,bG,fS⟩,cE.trans (af.mono cR),Nat.le_trans cR af.size⟩
theorem Here.put {d:Option Tmp} {v:J} {dN:aF} (ah:Here N s B w0 a w) (hp:aM v=true) (fg:gZ N s.sl d v=some dN):Here N {s with sl:=dN} B w0 (a.put d (aJ v)) w:=by
 obtain⟨⟨φ,ds,ad,ag,ay,bG,fS⟩,cE,cR⟩:=ah;exact⟨⟨φ,ds,ad,ag.put (aD.vh φ v hp) fg,ay,bG,fS⟩,cE,cR⟩
end
theorem Vy [cS] {P:aR} {N B:Nat} {w0 w:ax} {a:Act} {X:Type} (gn:X->a1) (aN:b6) (gw:X->Prop) (iR:X->Nat) {body:Code} {Q:Exit->Act->ax->Prop}
  (round:∀x,gw x->∀a w,@Here (gn x) _ N aN B w0 a w->body.wpIn (Fr none) 0 P (Exit.then (λa7 w'=>∃x',gw x'/\iR x'<iR x/\ @Here (gn x') _ N aN B w0 a7 w') Q) a w)
  (x:X) (aq:gw x) (ah: @Here (gn x) _ N aN B w0 a w):(Code.loop body).wpIn (Fr none) 0 P Q a w:=by
 have key:∀n x a w,iR x<=n->gw x-> @Here (gn x) _ N aN B w0 a w->Code.roundsIn (Fr none) 0 P body Q (n+1) a w:=by
  intro n
  induction n with
  |zero=>
   intro x a w av aq ah;rw[roundsIn_succ];refine wpIn_mono (round x aq a w ah) λe a7 w' hp=> ?_
   cases e with
   |normal=>obtain⟨x',_,ck,_⟩:=hp;omega
   |_=>exact hp
  |succ n cz=>
   intro x a w av aq ah;rw[roundsIn_succ];refine wpIn_mono (round x aq a w ah) λe a7 w' hp=> ?_
   cases e with
   |normal=>
    obtain⟨x',rY,ck,x_⟩:=hp;exact cz x' a7 w' aj rY x_
   |_=>exact hp
 exact wpIn_loop_rounds _ (key (iR x) x a w (cj _) aq ah)
def Jh (v:J) (A:a6):b6:={sl:= .node (some v) .nil .nil,ms:=[],A}
def NQ (v:J):Act:={tmps:= #[v],defers:=[]}
def aeT [a1] (P:aR) (fn:Func) (A:a6) (sl:aF) (v:J):Prop:=
 ∀(φ:b2) (w:ax) (tmps:Array J),b0 φ A w->(∀t u,sl.get t=some u->aD φ u (tmps.getD t undef))->∃aB,(results fn tmps).run P w= .ok aB w/\aD φ v aB
def Fj [cS] (P:aR) (fn:Func) (N B:Nat) (w0:ax) (R:Ending->ax->Prop) (a:Act) (w:ax):Prop:=
 ∃(gn:a1) (s:b6) (fU:a6) (v:J),@Here gn _ N s B w0 a w/\ @x5 s.A s.ms=some fU/\ @aeT gn P fn fU s.sl v/\
  ∀aB w2,@Here gn _ 1 (Jh v fU) B w0 (NQ aB) w2->R (.returned aB) w2
def rh [cS] (P:aR) (fn:Func) (N B:Nat) (w0:ax) (R:Ending->ax->Prop):Exit->Act->ax->Prop
 | .normal,a,w=>Fj P fn N B w0 R a w
 | .ret,a,w=>Fj P fn N B w0 R a w
 |_,_,_=>False
theorem NR [a1] [cS] {P:aR} {f:FuncId} {fn:Func} {c:Code} (mV:P.funcs[f]? =some fn) (ar:fn.body=some c) {args:List J} {sl:aF} (gI:setArgs 0 args .nil=some sl) {φ:b2} {A:a6} {w0 w:ax} {B:Nat} {gv:Array J}
  (ao:b0 φ A w) (cT:∀b e,φ b=some e->B<=e.bk) (ho:vr φ A) (gK:h6 args φ gv) (af:cg B w0 w) (cr:B<=w.heap.size) {R:Ending->ax->Prop}
  (pV:∀a,Here (args.length+(fn.ntmps-args.length)) {sl,ms:=[],A} B w0 a w->c.wpIn (Fr none) 0 P (rh P fn (args.length+(fn.ntmps-args.length)) B w0 R) a w):Calls P f gv w R:=by
 have NS:gv.size=args.length:=gK.1;have aw:fD (args.length+(fn.ntmps-args.length)) [] φ sl {tmps:=gv++Array.replicate (fn.ntmps-gv.size) undef,defers:=[]}:=by
  refine⟨by simp [NS],rfl,λt u hu=> ?_⟩;rcases NF _ _ _ _ gI t u hu with ⟨j,hj,aL,rfl⟩|aA
  ·have:=gK.2 j hj
   simp only [Nat.zero_add] at aL;subst aL;simp only [fh] at this ⊢;rw[Array.getElem?_append_left aj];exact this
  ·cases aA
 refine(callsIn_wide (n:=0)).1 ?_;refine callsIn_of_wp_marks mV ar trivial ?_ rfl;refine wpIn_mono (F:=Fr none) (pV _ ⟨⟨φ,[],.nil,aw,ao,cT,ho⟩,af,cr⟩) λe dZ w1 hp=> ?_
 have main:Fj P fn (args.length+(fn.ntmps-args.length)) B w0 R dZ w1->LeavesInM (Fr none) 0 P fn dZ.tmps R dZ.defers .returning w1:=by
  rintro ⟨gn,s,fU,v,ah,hl,kF,jA⟩;letI:=gn;obtain⟨⟨gM,ds,kx,q1,aH,bW,j_⟩,et,gN⟩:=ah;rw[q1.defers];refine Nw s.ms ds s.A fU w1 aH kx hl λw2 dg=> ?_
  obtain⟨aB,g1,g2⟩:=kF gM w2 dZ.tmps dg.rel q1.get;refine⟨aB,g1,?_⟩;obtain⟨uu,x7⟩:=Dh bW dg gN;refine jA aB w2 ⟨⟨gM,[],.nil,⟨rfl,rfl,λt u hu=> ?_⟩,dg.rel,uu,j_.step dg⟩,et.trans x7,Nat.le_trans gN dg.gL⟩;unfold Jh at hu;simp only [bV.get] at hu;cases aL:(t==0) with
  |true=>
   rw[aL,bD,cN] at hu;subst hu;have:t=0:=by simpa using aL
   subst this;exact g2
  |false=>
   rw[aL,eB] at hu;cases hp:(t%2==1)<;>rw[hp] at hu<;>cases hu
 cases e with
 |normal=>exact main hp
 |ret=>exact main hp
 |_=>exact hp.elim
end AE
namespace AE
abbrev eE:=List (J×J)
def both:Option eE->Option eE->Option eE
 |some a,some b=>some (a++b)
 |_,_=>none
theorem uw {a b:Option eE} {l:eE} (h:both a b=some l):∃x y,a=some x/\b=some y/\l=x++y:=by
 cases a<;>cases b<;>simp [both] at h
 exact⟨_,_,rfl,rfl,h.symm⟩
def ya:J->Bool
 | .complex .f32 a b=>Nat.beq a 77&&Nat.beq b 77
 |_=>false
theorem Vz {v:J} (h:ya v=true):v=cu:=by
 unfold ya at h;split at h
 ·simp only [c7] at h
  rw[cH h.1,cH h.2];rfl
 ·cases h
def Di (v1 gJ:J):Option eE:=bif ya gJ then some [] else bif aM v1&&aM gJ then (bif gj v1 gJ&&plain v1 then some [] else some [(v1,gJ)]) else none
mutual
def vt (n:Nat):J->J->Option eE
 | .pointer (some ⟨b,o,none⟩),.pointer (some ⟨b',o',none⟩)=>bif Nat.blt b n&&(Nat.beq b b'&&Nat.beq o o') then some [] else none
 | .slice (some ⟨b,o,none⟩) m c,.slice (some ⟨b',o',none⟩) m' c'=>bif Nat.blt b n&&(Nat.beq b b'&&(Nat.beq o o'&&(Nat.beq m m'&&Nat.beq c c'))) then some [] else none
 | .agg ⟨l⟩,.agg ⟨l'⟩=>yb n l l'
 | .func (.func f) ⟨l⟩ ⟨k⟩,.func (.func ij) ⟨l'⟩ ⟨k'⟩=>bif Nat.beq f ij then both (yb n l l') (yb n k k') else none
 | .func (.yield b) ⟨[]⟩ ⟨[]⟩,.func (.yield b') ⟨[]⟩ ⟨[]⟩=>bif Nat.blt b n&&Nat.beq b b' then some [] else none
 |v1,gJ=>Di v1 gJ
def yb (n:Nat):List J->List J->Option eE
 |[],[]=>some []
 |v::r,aB::ek=>both (vt n v aB) (yb n r ek)
 |_,_=>none
end
def nV (n:Nat) (φ:b2):b2:=λb=>if b<n then φ b else none
theorem Dj {n b:Nat} {φ:b2} {e:hP} (h:φ b=some e) (af:b<n):nV n φ b=some e:=by unfold nV;rw[aY af];exact h
theorem qC {n b:Nat} {φ:b2} {e:hP} (h:nV n φ b=some e):b<n/\φ b=some e:=by
 unfold nV at h;split at h
 ·rename_i af;exact⟨af,h⟩
 ·cases h
def fP (s1 s2:a1) (l:eE):Prop:=∀p∈l,@aJ s1 p.1= @aJ s2 p.2
theorem fP.left {s1 s2:a1} {a b:eE} (h:fP s1 s2 (a++b)):fP s1 s2 a:=λp hp=>h p (List.mem_append_left _ hp)
theorem fP.right {s1 s2:a1} {a b:eE} (h:fP s1 s2 (a++b)):fP s1 s2 b:=λp hp=>h p (List.mem_append_right _ hp)
theorem aeU {s1 s2:a1} {φ fm:b2} {v1 gJ aB:J} {l:eE} (h:Di v1 gJ=some l) (hm:fP s1 s2 l) (aC: @aD s1 φ v1 aB): @aD s2 fm gJ aB:=by
 unfold Di at h;cases ad:ya gJ with
 |true=>rw[Vz ad];exact @aD.cu s2 fm aB
 |false=>
  rw[ad,eB] at h;cases ag:(aM v1&&aM gJ) with
  |false=>rw[ag] at h;cases h
  |true=>
   rw[ag,bD] at h;simp only [c7] at ag;cases ay:(gj v1 gJ&&plain v1) with
   |true=>
    simp only [c7] at ay;have he:=hJ _ _ ay.1;subst he;rw[@aD.k6 s1 φ v1 aB ay.2 aC];exact @aD.kq s2 fm v1 ay.2
   |false=>
    rw[ay,eB,cN] at h;subst h;have:=hm (v1,gJ) (by simp);rw[@aD.ji s1 φ v1 aB ag.1 aC];simp only at this;rw[this];exact @aD.vh s2 fm gJ ag.2
mutual
theorem VA {s1 s2:a1} {φ:b2} {n:Nat}:∀(v1 gJ:J) {aB:J} {l:eE},vt n v1 gJ=some l->fP s1 s2 l-> @aD s1 φ v1 aB-> @aD s2 (nV n φ) gJ aB:=by
 intro v1 gJ aB l h hm aC;unfold vt at h;split at h
 ·rename_i b o b' o'
  cases af:(Nat.blt b n&&(Nat.beq b b'&&Nat.beq o o')) with
  |false=>rw[af] at h;cases h
  |true=>
   simp only [c7] at af;have e1:=cH af.2.1;have e2:=cH af.2.2;subst e1;subst e2;cases aC with
   |ptr h=>exact @aD.ptr s2 (nV n φ) _ _ _ (Dj h (Nat.blt_eq.mp af.1))
 ·rename_i b o m c b' o' m' c'
  cases af:(Nat.blt b n&&(Nat.beq b b'&&(Nat.beq o o'&&(Nat.beq m m'&&Nat.beq c c')))) with
  |false=>rw[af] at h;cases h
  |true=>
   simp only [c7] at af;have e1:=cH af.2.1;have e2:=cH af.2.2.1;have e3:=cH af.2.2.2.1;have hA:=cH af.2.2.2.2;subst e1;subst e2;subst e3;subst hA;cases aC with
   |iZ a7 ad=>exact @aD.iZ s2 (nV n φ) _ _ a7 ad
   |iD _ _ h=>exact @aD.iD s2 (nV n φ) _ _ _ _ _ (Dj h (Nat.blt_eq.mp af.1))
   |iE _ _ c' h aw ar hl=>exact @aD.iE s2 (nV n φ) _ _ _ _ _ c' (Dj h (Nat.blt_eq.mp af.1)) aw ar hl
 ·rename_i l1 ly
  cases aC with
  |agg cs cs' ad ag=>
   obtain⟨q1,aH⟩:=Dk l1 ly h hm cs'.toList (by simpa using ad.symm) λi ai=>by simpa [fh] using ag i (by simpa using ai)
   exact @aD.agg s2 (nV n φ) _ _ (by simpa using q1.symm) λi ai=>by simpa [fh] using aH i (by simpa using ai)
 ·rename_i f l1 dg ij ly k2
  cases aQ:Nat.beq f ij with
  |false=>rw[aQ] at h;cases h
  |true=>
   rw[aQ,bD] at h;have e1:=cH aQ;subst e1;obtain⟨x,y,aq,bE,rfl⟩:=uw h;cases aC with
   |func fs kC cs cs' av ad ag ay bG=>
    obtain⟨q1,aH⟩:=Dk l1 ly aq hm.left kC.toList (by simpa using ad.symm) λi ai=>by simpa [fh] using ay i (by simpa using ai)
    obtain⟨bW,et⟩:=Dk dg k2 bE hm.right cs'.toList (by simpa using ag.symm) λi ai=>by simpa [fh] using bG i (by simpa using ai)
    exact @aD.func s2 (nV n φ) _ _ _ _ _ av (by simpa using q1.symm) (by simpa using bW.symm) (λi ai=>by simpa [fh] using aH i (by simpa using ai)) λi ai=>by simpa [fh] using et i (by simpa using ai)
 ·rename_i b b'
  cases af:(Nat.blt b n&&Nat.beq b b') with
  |false=>rw[af] at h;cases h
  |true=>
   simp only [c7] at af;have e1:=cH af.2;subst e1;cases aC with
   |tP h=>exact @aD.tP s2 (nV n φ) _ _ (Dj h (Nat.blt_eq.mp af.1))
   |func _ _ _ _ av _ _ _ _=>exact absurd rfl (av _)
 ·exact aeU h hm aC
theorem Dk {s1 s2:a1} {φ:b2} {n:Nat}:∀(l1 ly:List J) {l:eE},yb n l1 ly=some l->fP s1 s2 l->∀(u:List J),u.length=l1.length->(∀i,i<l1.length-> @aD s1 φ (l1.getD i Go.undef) (u.getD i Go.undef))->
  u.length=ly.length/\∀i,i<ly.length-> @aD s2 (nV n φ) (ly.getD i Go.undef) (u.getD i Go.undef)
 |[],[],_,_,_,u,hu,_=>⟨hu,λi ai=>absurd ai (by simp)⟩
 |[],_::_,_,h,_,_,_,_=>by cases h
 |_::_,[],_,h,_,_,_,_=>by cases h
 |v::r,gJ::dx,l,h,hm,u,hu,aC=>by
  unfold yb at h;obtain⟨x,y,aq,bE,rfl⟩:=uw h;cases u with
  |nil=>simp at hu
  |cons w u=>
   obtain⟨q1,aH⟩:=Dk r dx bE hm.right u (by simpa using hu) λi ai=>by simpa using aC (i+1) (by simpa using ai)
   refine⟨by simp [q1],λi ai=> ?_⟩;cases i with
   |zero=>simpa using VA v gJ aq hm.left (by simpa using aC 0 (by simp))
   |succ i=>simpa using aH i (by simpa using ai)
end
def Ji (n:Nat):Option J->Option J->Option eE
 |_,none=>some []
 |some a,some b=>vt n a b
 |none,some b=>bif ya b then some [] else none
def Fk (n:Nat):bV J->Option eE
 | .nil=>some []
 | .node v l r=>both (Ji n none v) (both (Fk n l) (Fk n r))
def s5 (n:Nat):bV J->bV J->Option eE
 |_,.nil=>some []
 | .nil,.node v l r=>Fk n (.node v l r)
 | .node v1 l1 cO,.node v l r=>both (Ji n v1 v) (both (s5 n l1 l) (s5 n cO r))
theorem VB {s1 s2:a1} {φ:b2} {n:Nat} {a b:Option J} {l:eE} (h:Ji n a b=some l) (hm:fP s1 s2 l) {aB gJ:J} (af:b=some gJ) (aC:∀v1,a=some v1-> @aD s1 φ v1 aB): @aD s2 (nV n φ) gJ aB:=by
 subst af;cases a with
 |none=>
  simp only [Ji] at h;cases hp:ya gJ with
  |false=>rw[hp] at h;cases h
  |true=>rw[Vz hp];exact @aD.cu s2 (nV n φ) aB
 |some v1=>exact VA v1 gJ h hm (aC v1 rfl)
theorem NT {s1 s2:a1} {φ:b2} {n:Nat}:∀(t:bV J) {l:eE},Fk n t=some l->fP s1 s2 l->∀(i:Nat) (gJ aB:J),t.get i=some gJ-> @aD s2 (nV n φ) gJ aB
 | .nil,_,_,_,i,gJ,aB,h=>by cases h
 | .node v Fl py,l,h,hm,i,gJ,aB,aA=>by
   unfold Fk at h;obtain⟨x,y,aq,bE,rfl⟩:=uw h;obtain⟨zw,Jj,ad,ag,rfl⟩:=uw bE;unfold bV.get at aA;cases ai:(i==0) with
   |true=>
    rw[ai,bD] at aA;exact VB (s1:=s1) aq hm.left aA (λv1 h=>by cases h)
   |false=>
    rw[ai,eB] at aA;cases hp:(i%2==1) with
    |true=>rw[hp,bD] at aA;exact NT Fl ad hm.right.left _ gJ aB aA
    |false=>rw[hp,eB] at aA;exact NT py ag hm.right.right _ gJ aB aA
theorem Dl {s1 s2:a1} {φ:b2} {n:Nat}:∀(t1 t2:bV J) {l:eE},s5 n t1 t2=some l->fP s1 s2 l->∀(i:Nat) (gJ aB:J),t2.get i=some gJ->(∀v1,t1.get i=some v1-> @aD s1 φ v1 aB)-> @aD s2 (nV n φ) gJ aB
 |t1,.nil,_,_,_,i,gJ,aB,h,_=>by cases h
 | .nil,.node v Fl py,l,h,hm,i,gJ,aB,aA,_=>NT (s1:=s1) (.node v Fl py) (by simpa [s5] using h) hm i gJ aB aA
 | .node v1 l1 cO,.node v Fl py,l,h,hm,i,gJ,aB,aA,aC=>by
   unfold s5 at h;obtain⟨x,y,aq,bE,rfl⟩:=uw h;obtain⟨zw,Jj,ad,ag,rfl⟩:=uw bE;unfold bV.get at aA aC;cases ai:(i==0) with
   |true=>
    simp only [ai,bD] at aA aC;exact VB aq hm.left aA aC
   |false=>
    simp only [ai,eB] at aA aC;cases hp:(i%2==1) with
    |true=>simp only [hp,bD] at aA aC;exact Dl l1 Fl ad hm.right.left _ gJ aB aA aC
    |false=>simp only [hp,eB] at aA aC;exact Dl cO py ag hm.right.right _ gJ aB aA aC
structure bu where
 obj:qZ
 ty:aK
 eN:Nat
def bu.bk (b:bu) (i:Nat):h4:={obj:=b.obj,cP:=i,pos:=0,eN:=b.eN,ro:=false,ty:=b.ty}
def Dm:List bu->Nat->bV h4->bV h4
 |[],_,t=>t
 |b::r,i,t=>Dm r (i+1) (match bV.set (b.bk i) depth t i with|some dt=>dt|none=>t)
def NU:Nat->Nat->bV (List Nat)->bV (List Nat)
 |0,_,t=>t
 |n+1,i,t=>NU n (i+1) (match bV.set [i] depth t i with|some dt=>dt|none=>t)
def c6 (l:List bu):a6:={bl:=Dm l 0 .nil,n:=l.length,mem:=NU l.length 0 .nil,low:=0}
def zx (l:List bu):Bool:=(List.range l.length).all λi=>(match (NU l.length 0 .nil).get i with|some m=>m.contains i|none=>false)&&(match (Dm l 0 .nil).get i with|some _=>true|none=>false)
theorem VC:∀(l:List bu) (i:Nat) (t:bV h4) (b:Nat) (k:h4),(Dm l i t).get b=some k->(∃j x,l[j]? =some x/\b=i+j/\k=x.bk b)\/((b<i\/i+l.length<=b\/True)/\t.get b=some k)
 |[],i,t,b,k,h=> .inr ⟨.inr (.inr trivial),h⟩
 |x::r,i,t,b,k,h=>by
  unfold Dm at h;rcases VC r (i+1) _ b k h with ⟨j,y,ad,ag,ay⟩|⟨_,ad⟩
  ·exact .inl ⟨j+1,y,by simpa using ad,aj,ay⟩
  ·split at ad
   ·rename_i dt aL
    rw[bV.ob _ _ _ _ _ b aL] at ad;split at ad
    ·rename_i af
     cases ad;exact .inl ⟨0,x,by simp,aj,by rw[af]⟩
    ·exact .inr ⟨.inr (.inr trivial),ad⟩
   ·exact .inr ⟨.inr (.inr trivial),ad⟩
theorem zy {l:List bu} {b:Nat} {k:h4} (h:(c6 l).bl.get b=some k):∃x,l[b]? =some x/\k=x.bk b:=by
 rcases VC l 0 .nil b k h with ⟨j,x,ad,ag,ay⟩|⟨_,ad⟩
 ·have:b=j:=by omega
  subst this;exact⟨x,ad,ay⟩
 ·cases ad
theorem VD {l:List bu} (hI:zx l=true):Au (c6 l) where
 lt:=λb k h=>by
  obtain⟨x,ad,_⟩:=zy h;have:=(List.getElem?_eq_some_iff.1 ad).1;exact this
 tQ:=λb k h=>by
  obtain⟨x,ad,rfl⟩:=zy h;have:=(List.getElem?_eq_some_iff.1 ad).1;exact this
 mem:=λb k h=>by
  obtain⟨x,ad,rfl⟩:=zy h;have af:=(List.getElem?_eq_some_iff.1 ad).1;have:=List.all_eq_true.1 hI b (by simpa using af);simp only [c7] at this;obtain⟨hm,_⟩:=this;split at hm
  ·rename_i m sN
   exact⟨m,sN,by simpa using hm⟩
  ·cases hm
 u2:=λb k b' k' h fu _=>by
  obtain⟨x,_,rfl⟩:=zy h;obtain⟨x',_,rfl⟩:=zy fu;rfl
def VE:LoopState->LoopState->Bool
 | .ready,.ready=>true
 | .busy,.busy=>true
 | .done,.done=>true
 | .exhausted,.exhausted=>true
 |_,_=>false
theorem VF {a b:LoopState} (h:VE a b=true):a=b:=by cases a<;>cases b<;>first|rfl|cases h
def Fm (n:Nat) (a b:Ar):Bool:=VE a.state b.state&&(a.pending.isNone&&(b.pending.isNone&&(Nat.beq a.N b.N&&(decide (a.params=b.params)&&(Nat.beq a.Ez b.Ez&&Nat.blt a.Ez n)))))
def A6 (n:Nat):qZ->qZ->Option eE
 | .cells c,.cells c'=>yb n c c'
 | .gu (.loop a),.gu (.loop b)=>bif Fm n a b then s5 n a.sl b.sl else none
 | .gu .deferred,.gu .deferred=>some []
 | .gu .gone,.gu .gone=>some []
 |_,_=>none
def zz (n:Nat) (A:a6):List bu->Nat->Option eE
 |[],_=>some []
 |x::r,i=>match A.bl.get i with
  |some k=>bif Nat.beq k.cP i&&(Nat.beq k.eN x.eN&&(Nat.beq k.ty x.ty&& !k.ro)) then both (A6 n k.obj x.obj) (zz n A r (i+1)) else none
  |none=>none
theorem Dn {n:Nat} {A:a6}:∀(l:List bu) (i:Nat) {bL:eE},zz n A l i=some bL->∀(j:Nat) (x:bu),l[j]? =some x->∃k o,A.bl.get (i+j)=some k/\k.cP=i+j/\k.eN=x.eN/\k.ty=x.ty/\k.ro=false/\A6 n k.obj x.obj=some o/\∀p∈o,p∈bL
 |[],i,bL,h,j,x,hj=>by simp at hj
 |y::r,i,bL,h,j,x,hj=>by
  unfold zz at h;split at h
  ·rename_i k al
   cases ar:(Nat.beq k.cP i&&(Nat.beq k.eN y.eN&&(Nat.beq k.ty y.ty&& !k.ro))) with
   |false=>rw[ar] at h;cases h
   |true=>
    rw[ar,bD] at h;simp only [c7,Bool.not_eq_true'] at ar;obtain⟨a,b,ad,ag,rfl⟩:=uw h;cases j with
    |zero=>
     simp only [List.getElem?_cons_zero,cN] at hj;subst hj;exact⟨k,a,al,cH ar.1,cH ar.2.1,cH ar.2.2.1,ar.2.2.2,ad,λp hp=>List.mem_append_left _ hp⟩
    |succ j=>
     obtain⟨k',o,q1,aH,bW,et,gN,j_,nB⟩:=Dn r (i+1) ag j x (by simpa using hj);exact⟨k',o,by rw[show i+(j+1)=i+1+j by omega];exact q1,aj,bW,et,gN,j_,λp hp=>List.mem_append_right _ (nB p hp)⟩
  ·cases h
def Jk (A:a6) (i:Nat):Option (Code×Code):=match A.bl.get i with
 |some k=>match k.obj with
  | .gu (.loop fY)=>some (fY.assign,fY.body)
  |_=>none
 |none=>none
def iy (A:a6):List bu->Nat->Prop
 |[],_=>True
 |x::r,i=>(match x.obj with| .gu (.loop fY)=>Jk A i=some (fY.assign,fY.body)|_=>True)/\iy A r (i+1)
def ri:List bu->Bool
 |[]=>true
 |x::r=>(match x.obj with| .gu (.loop _)=>false|_=>true)&&ri r
theorem NV {A:a6}:∀{l:List bu} {i j:Nat} {x:bu} {fY:Ar},iy A l i->l[j]? =some x->x.obj= .gu (.loop fY)->Jk A (i+j)=some (fY.assign,fY.body)
 |[],i,j,x,fY,_,hj,_=>by simp at hj
 |y::r,i,0,x,fY,h,hj,ho=>by
  simp only [List.getElem?_cons_zero,cN] at hj;subst hj;have:=h.1;rw[ho] at this;exact this
 |y::r,i,j+1,x,fY,h,hj,ho=>by
  rw[show i+(j+1)=i+1+j by omega];exact NV h.2 (by simpa using hj) ho
theorem gX {A:a6}:∀{l:List bu} {i:Nat},ri l=true->iy A l i
 |[],_,_=>trivial
 |x::r,i,h=>by
  unfold ri at h;simp only [c7] at h;refine⟨?_,gX h.2⟩;split
  ·rename_i fY aq
   rw[aq] at h;cases h.1
  ·trivial
def cp (s1:b6) (sl:aF) (l:List bu):Option eE:=
 match s1.ms with
 |[]=>bif zx l then both (s5 l.length s1.sl sl) (zz l.length s1.A l 0) else none
 |_=>none
theorem Here.A7 [cS] {s1 s2:a1} {N B:Nat} {st:b6} {w0 w w':ax} {a:Act} {sl:aF} {l:List bu} {bL:eE} (T:Nat->Prop) (dd:cp st sl l=some bL) (hm:fP s1 s2 bL) (eA:∀i,T i->s1.dq i≠none/\B<=i)
  (ux:w'.os=w.os/\w'.tape=w.tape/\w'.output=w.output/\iF w<=iF w') (cr:w.heap.size<=w'.heap.size) (hw:∀i,i<w.heap.size->¬T i->w'.heap[i]? =w.heap[i]?)
  (qD:∀i o,s2.dq i=some o->w'.heap[i]? =some o/\(s1.dq i≠none\/w.heap.size<=i\/i<B)) (av:cS.eu<=l.length) (ar:iy st.A l 0) (ah: @Here s1 _ N st B w0 a w): @Here s2 _ N {sl,ms:=[],A:=c6 l} B w0 a w':=by
 unfold cp at dd;split at dd
 ·rename_i vu
  cases hI:zx l with
  |false=>rw[hI] at dd;cases dd
  |true=>
   rw[hI,bD] at dd;obtain⟨x,y,aq,bE,rfl⟩:=uw dd;obtain⟨⟨φ,ds,ad,ag,ay,bG,fS⟩,cE,cR⟩:=ah;rw[vu] at ad;cases ad;have hold:∀b k,(c6 l).bl.get b=some k->∃x dj o,l[b]? =some x/\k=x.bk b/\st.A.bl.get b=some dj/\dj.cP=b/\dj.eN=x.eN/\dj.ty=x.ty/\dj.ro=false/\A6 l.length dj.obj x.obj=some o/\∀p∈o,p∈y:=λb k al=>by
    obtain⟨x,q1,aH⟩:=zy al;obtain⟨dj,o,cO,dx,gh⟩:=Dn l 0 bE b x q1;rw[Nat.zero_add] at cO dx;exact⟨x,dj,o,q1,aH,cO,dx,gh⟩
   have tR:∀b e,φ b=some e->e.bk<w.heap.size/\¬T e.bk/\s1.dq e.bk=none:=λb e af=>by
    obtain⟨k,_,_,q⟩:= @b0.eC s1 _ _ _ ay b e af;have s6:s1.dq e.bk=none:=by
     cases ai:s1.dq e.bk with
     |none=>rfl
     |some o=>exact absurd rfl ((@b0.dq s1 _ _ _ ay e.bk o ai).2 b e af)
    exact⟨@fT.lt s1 _ _ _ _ q,λaL=>(eA _ aL).1 s6,s6⟩
   have zA:∀b e,φ b=some e->w'.heap[e.bk]? =w.heap[e.bk]? :=λb e af=>hw _ (tR b e af).1 (tR b e af).2.1
   have gO:∀b,b<l.length->∃k,(c6 l).bl.get b=some k:=λb af=>by
    have:=List.all_eq_true.1 hI b (by simpa using af);simp only [c7] at this;obtain⟨_,hm⟩:=this;split at hm
    ·rename_i k al;exact⟨k,al⟩
    ·cases hm
   refine⟨⟨nV l.length φ,[],.nil,⟨@fD.size s1 _ _ _ _ _ ag,@fD.defers s1 _ _ _ _ _ ag,λt gJ yc=>Dl st.sl sl aq hm.left t gJ _ yc λv1 wZ=> @fD.get s1 _ _ _ _ _ ag t v1 wZ⟩,⟨VD hI,?_,?_,?_,λi o ai=> ?_⟩,λb e af=>bG b e (qC af).2,av,λb af=>by unfold nV;rw[aY (Nat.lt_of_lt_of_le af av)];exact fS.2 b af⟩,cE.trans ⟨⟨ux.1,ux.2.1,ux.2.2.1,cr,λk al=>hw k aj λaL=>by have:=(eA k aL).2;omega⟩,ux.2.2.2⟩,Nat.le_trans cR cr⟩
   ·intro b e af
    obtain⟨ck,ie⟩:=qC af;obtain⟨k,al⟩:=gO b ck;obtain⟨x,dj,o,q1,rfl,bW,et,gN,j_,nB,g',AR⟩:=hold b k al;obtain⟨dg,cO,dx,gh⟩:= @b0.eC s1 _ _ _ ay b e ie;rw[bW] at cO;cases cO;refine⟨_,al,by rw[dx,gN];rfl,?_⟩;unfold fT at gh ⊢;show match x.obj with| .cells c=>_| .map es e4=>_| .gu x=>_
    cases fK:dj.obj with
    |cells c=>
     rw[fK] at g';simp only [fK] at gh;cases iH:x.obj with
     |cells c2=>
      rw[iH] at g';obtain⟨c',jk,g1,g2,g3,g4,k5⟩:=gh;have oh:∀i,i<c.length->((List.range c.length).map λj=>c'.getD (e.sh+j) undef).getD i undef=c'.getD (e.sh+i) undef:=λi ai=>by
       rw[dp,List.getElem?_map,List.getElem?_range ai];rfl
      have:=Dk (s1:=s1) (s2:=s2) (φ:=φ) c c2 g' (λp hp=>hm.right p (AR p hp)) ((List.range c.length).map λj=>c'.getD (e.sh+j) undef) (by simp) λi ai=>by
       rw[oh i ai];exact g4 i ai
      obtain⟨t1,t2⟩:=this;simp only [List.length_map,List.length_range] at t1;refine⟨c',jk,by rw[zA b e ie,show (x.bk b).ty=dj.ty from j_.symm];exact g1,g2,by rw[<-t1,show (x.bk b).eN=dj.eN from gN.symm];exact g3,λj hj=> ?_,λ_=>k5 nB⟩;have:=t2 j hj;rw[oh j aj] at this;exact this
     |map es e4=>rw[iH] at g';cases g'
     |gu z=>rw[iH] at g';cases g'
    |map es e4=>
     rw[fK] at g';cases iH:x.obj<;>rw[iH] at g'<;>cases g'
    |gu z=>
     rw[fK] at g';simp only [fK] at gh;obtain⟨eF,o',g1,g2⟩:=gh;cases iH:x.obj with
     |cells c2=>rw[iH] at g';cases z<;>cases g'
     |map es e4=>rw[iH] at g';cases z<;>cases g'
     |gu z2=>
      rw[iH] at g';refine⟨eF,o',(zA b e ie).trans g1,?_⟩;cases z with
      |loop a=>
       cases z2 with
       |loop b=>
        unfold A6 at g';simp only at g';cases aw:Fm l.length a b with
        |false=>rw[aw] at g';cases g'
        |true=>
         rw[aw,bD] at g';unfold Fm at aw;simp only [c7,decide_eq_true_eq,Option.isNone_iff_eq_none] at aw;obtain⟨hq,c2,c3,rW,Jl,Jm,Jn⟩:=aw;have pV:=NV ar q1 iH;rw[Nat.zero_add] at pV;unfold Jk at pV;rw[bW] at pV;simp only [fK,cN,Prod.mk.injEq] at pV;obtain⟨r,mc,uu,x7,A0,A1,Ff,Fg,⟨e',NW,u8⟩,NY⟩:=g2;refine⟨r,mc,uu.trans (VF hq),by rw[x7,c2,c3],by rw[A0,cH rW],by rw[A1,Jl],by rw[Ff,pV.1],by rw[Fg,pV.2],⟨e',?_,u8⟩,λt v aC=> ?_⟩
         ·rw[<-cH Jm]
          exact Dj NW (Nat.blt_eq.mp Jn)
         ·exact Dl (s1:=s1) a.sl b.sl g' (λp hp=>hm.right p (AR p hp)) t v _ aC λv1 wZ=>NY t v1 wZ
       |_=>cases g'
      |_=>cases z2<;>first|(cases g';done)|exact g2
   ·intro b e k b' e' k' af ef al dB cW
    obtain⟨_,ie⟩:=qC af;obtain⟨_,sX⟩:=qC ef;obtain⟨x,dj,o,q1,rfl,bW,et,_⟩:=hold b k al;obtain⟨x',Fo,o',u9,rfl,sO,Fp,_⟩:=hold b' k' dB;exact @b0.apart s1 _ _ _ ay b e dj b' e' Fo ie sX bW sO (by rw[et,Fp];exact cW)
   ·intro b e k b' e' k' af ef al dB aQ _
    obtain⟨_,ie⟩:=qC af;obtain⟨_,sX⟩:=qC ef;obtain⟨x,dj,o,q1,rfl,bW,et,_⟩:=hold b k al;obtain⟨x',Fo,o',u9,rfl,sO,Fp,_⟩:=hold b' k' dB;have:b=b':=aQ;subst this;rw[ie] at sX;cases sX;rfl
   ·obtain⟨g1,g2⟩:=qD i o ai
    refine⟨g1,λb e af aeV=> ?_⟩;obtain⟨q1,_,bW⟩:=tR b e (qC af).2;have et:=bG b e (qC af).2;rw[aeV] at q1 bW et;rcases g2 with g2|g2|g2
    ·exact g2 bW
    ·omega
    ·omega
 ·cases dd
theorem Here.move [cS] {s1 s2:a1} {N B:Nat} {st:b6} {w0 w:ax} {a:Act} {sl:aF} {l:List bu} {bL:eE} (dd:cp st sl l=some bL) (hm:fP s1 s2 bL)
  (qD:∀i o,s2.dq i=some o->s1.dq i=some o) (av:cS.eu<=l.length) (ar:iy st.A l 0) (ah: @Here s1 _ N st B w0 a w): @Here s2 _ N {sl,ms:=[],A:=c6 l} B w0 a w:=by
 have ai:=ah;obtain⟨⟨φ,ds,ad,ag,ay,bG,fS⟩,cE,cR⟩:=ai;exact Here.A7 (λ_=>False) dd hm (λ_ h=>h.elim) ⟨rfl,rfl,rfl,cj _⟩ (cj _) (λ_ _ _=>rfl) (λi o h=>⟨(@b0.dq s1 _ _ _ ay i o (qD i o h)).1,.inl (by rw[qD i o h];simp)⟩) av ar ah
theorem Here.nW [a1] [cS] {N B:Nat} {st:b6} {w0 w:ax} {a:Act} (ah:Here N st B w0 a w):ot w:=by
 obtain⟨⟨φ,ds,ad,ag,ay,bG,fS⟩,cE,cR⟩:=ah;exact λi o ai=>(ay.dq i o ai).1
end AE
namespace AE
inductive fi where
 |mW (y:Code)
 |vv (id:Nat)
 |s7 (c:Code) (m:Nat)
inductive bY where
 |done (x:k_) (s:b6)
 |loop (body:Code) (s:b6) (ks:List fi)
 |oper (o:Oper) (r:List Oper) (ops:Array Oper) (s:b6) (ks:List fi)
 |range (g:Operand) (ps:Array Tmp) (nE body:Code) (s:b6) (ks:List fi)
 |draw (id:Nat) (ops:Array Oper) (s:b6) (ks:List fi)
 |cond (c:Operand) (x y:Code) (s:b6) (ks:List fi)
def bY.push (k:fi):bY->bY
 | .loop b s ks=> .loop b s (ks++[k])
 | .oper o r ops s ks=> .oper o r ops s (ks++[k])
 | .range g ps nE b s ks=> .range g ps nE b s (ks++[k])
 | .draw id ops s ks=> .draw id ops s (ks++[k])
 | .cond c x y s ks=> .cond c x y s (ks++[k])
 |st=>st
def bY.w3 (k:List fi):bY->bY
 | .loop b s ks=> .loop b s (ks++k)
 | .oper o r ops s ks=> .oper o r ops s (ks++k)
 | .range g ps nE b s ks=> .range g ps nE b s (ks++k)
 | .draw id ops s ks=> .draw id ops s (ks++k)
 | .cond c x y s ks=> .cond c x y s (ks++k)
 |st=>st
def Dp (P:aR) [Lib P] [eh P] (C:ix) (N:Nat) (ops:Array Oper) (ms:List Nat):List Oper->aF->a6->bY
 |[],sl,A=> .done .normal {sl,ms,A}
 |o::r,sl,A=>match wP P C .nil N ops o sl A with
  |some (eK,bC)=>Dp P C N ops ms r eK bC
  |none=> .oper o r ops {sl,ms,A} []
def pW (P:aR) [Lib P] [eh P] (C:ix) (N bn:Nat):Code->b6->Option bY
 | .loop b,s=>match mU P C .nil N false bn (.loop b) s with
   |some (x,s1)=>some (.done x s1)
   |none=>some (.loop b s [])
 | .region id ops d,s=>bif d then match IY P C .nil N false ops s.sl s.A with
     |some (eK,bC,r)=>some (Dp P C N ops s.ms r eK bC)
     |none=>match I8 P C .nil N false ops s.sl s.A with
      |some (eK,bC)=>some (.done .normal {sl:=eK,ms:=s.ms,A:=bC})
      |none=>some (.draw id ops s [])
   else some (Dp P C N ops s.ms ops.toList s.sl s.A)
 | .seq x y,s=>match pW P C N bn x s with
   |some (.done x s1)=>match x with
    | .normal=>pW P C N bn y s1
    |x=>some (.done x s1)
   |some st=>some (st.push (.mW y))
   |none=>none
 | .cond c x y,s=>match dH .nil s.sl c with
   | .bool t=>bif t then pW P C N bn x s else pW P C N bn y s
   |v=>match AO P v with
    |some t=>bif t then pW P C N bn x s else pW P C N bn y s
    |none=>some (.cond c x y s [])
 | .block id x,s=>match pW P C N bn x s with
   |some (.done x s1)=>match x with
    | .exit id'=>bif Nat.beq id' id then some (.done .normal s1) else some (.done (.exit id') s1)
    |x=>some (.done x s1)
   |some st=>some (st.push (.vv id))
   |none=>none
 | .rangeFunc g ps nE b,s=>match mU P C .nil N false bn (.rangeFunc g ps nE b) s with
   |some (x,s1)=>some (.done x s1)
   |none=>some (.range g ps nE b s [])
 |c,s=>match mU P C .nil N false bn c s with
  |some (x,s1)=>some (.done x s1)
  |none=>none
def Fq (P:aR) [Lib P] [eh P] (C:ix) (N bn:Nat) (c:Code):Nat->b6->Option bY
 |0,_=>none
 |m+1,s=>match pW P C N bn c s with
  |some (.done x s1)=>match x with
   | .normal=>Fq P C N bn c m s1
   |x=>some (.done x s1)
  |some st=>some (st.push (.s7 c m))
  |none=>none
def resume (P:aR) [Lib P] [eh P] (C:ix) (N bn:Nat):List fi->k_->b6->Option bY
 |[],x,s=>some (.done x s)
 | .mW y::ks,x,s=>match x with
   | .normal=>match pW P C N bn y s with
     |some (.done x s1)=>resume P C N bn ks x s1
     |some st=>some (st.w3 ks)
     |none=>none
   |x=>resume P C N bn ks x s
 | .vv id::ks,x,s=>match x with
   | .exit id'=>bif Nat.beq id' id then resume P C N bn ks .normal s else resume P C N bn ks (.exit id') s
   |x=>resume P C N bn ks x s
 | .s7 c m::ks,x,s=>match x with
   | .normal=>match Fq P C N bn c m s with
     |some (.done x s1)=>resume P C N bn ks x s1
     |some st=>some (st.w3 ks)
     |none=>none
   |x=>resume P C N bn ks x s
def dY (P:aR):List fi->(Exit->Act->ax->Prop)->Exit->Act->ax->Prop
 |[],Q=>Q
 | .mW y::ks,Q=>Exit.then (y.wpIn (Fr none) 0 P (dY P ks Q)) (dY P ks Q)
 | .vv id::ks,Q=>Exit.inBlock id (dY P ks Q)
 | .s7 c m::ks,Q=>Exit.then (Code.roundsIn (Fr none) 0 P c (dY P ks Q) m) (dY P ks Q)
theorem s8 (P:aR):∀(dg k2:List fi) (Q:Exit->Act->ax->Prop),dY P (dg++k2) Q=dY P dg (dY P k2 Q)
 |[],_,_=>rfl
 | .mW y::ks,k2,Q=>by simp only [List.cons_append,dY,s8 P ks k2 Q]
 | .vv id::ks,k2,Q=>by simp only [List.cons_append,dY,s8 P ks k2 Q]
 | .s7 c m::ks,k2,Q=>by simp only [List.cons_append,dY,s8 P ks k2 Q]
def ov (Q:Exit->Act->ax->Prop):Prop:=∀c a w,¬Q (.panic c) a w
theorem ov.then {Q:Exit->Act->ax->Prop} (h:ov Q) (R:Act->ax->Prop):ov (Exit.then R Q):=λc a w bb=>h c a w bb
theorem ov.inBlock {Q:Exit->Act->ax->Prop} (h:ov Q) (id:Nat):ov (Exit.inBlock id Q):=λc a w bb=>h c a w bb
theorem ov.vw {P:aR} {Q:Exit->Act->ax->Prop} (h:ov Q):∀ks:List fi,ov (dY P ks Q)
 |[]=>h
 | .mW _::ks=>(ov.vw h ks).then _
 | .vv id::ks=>(ov.vw h ks).inBlock id
 | .s7 _ _::ks=>(ov.vw h ks).then _
section
variable [a1] [cS]
def mE (P:aR) (N B:Nat) (w0:ax) (Q:Exit->Act->ax->Prop):bY->Prop
 | .done x s=>∀a w,Here N s B w0 a w->Q x.exit' a w
 | .loop b s ks=>∀a w,Here N s B w0 a w->(Code.loop b).wpIn (Fr none) 0 P (dY P ks Q) a w
 | .oper o r ops s ks=>∀a w,Here N s B w0 a w->wpListIn (Fr none) 0 P ops (dY P ks Q) (o::r) a w
 | .range g ps nE b s ks=>∀a w,Here N s B w0 a w->(Code.rangeFunc g ps nE b).wpIn (Fr none) 0 P (dY P ks Q) a w
 | .draw id ops s ks=>∀a w,Here N s B w0 a w->(Code.region id ops true).wpIn (Fr none) 0 P (dY P ks Q) a w
 | .cond c x y s ks=>∀a w,Here N s B w0 a w->(Code.cond c x y).wpIn (Fr none) 0 P (dY P ks Q) a w
omit [a1] [cS] in
theorem Jo {Q:Exit->Act->ax->Prop} {x:k_} {a:Act} {w:ax} (aq:x≠.normal) (h:Q x.exit' a w) (R:Act->ax->Prop):Exit.then R Q x.exit' a w:=by
 cases x<;>first|exact absurd rfl aq|exact h
variable {P:aR} [Lib P] [eh P] {C:ix} {N B:Nat} {w0:ax}
omit [Lib P] [eh P] in
theorem mE.push {k:fi} {Q:Exit->Act->ax->Prop} {st:bY} (bc:∀x s,st≠.done x s) (h:mE P N B w0 Q (st.push k)):mE P N B w0 (dY P [k] Q) st:=by
 cases st with
 |done x s=>exact absurd rfl (bc x s)
 |loop b s ks=>intro a w ah;have:=h a w ah;rw[s8] at this;exact this
 |oper o r ops s ks=>intro a w ah;have:=h a w ah;rw[s8] at this;exact this
 |range g ps nE b s ks=>intro a w ah;have:=h a w ah;rw[s8] at this;exact this
 |draw id ops s ks=>intro a w ah;have:=h a w ah;rw[s8] at this;exact this
 |cond c x y s ks=>intro a w ah;have:=h a w ah;rw[s8] at this;exact this
omit [Lib P] [eh P] in
theorem mE.w3 {k:List fi} {Q:Exit->Act->ax->Prop} {st:bY} (bc:∀x s,st≠.done x s) (h:mE P N B w0 Q (st.w3 k)):mE P N B w0 (dY P k Q) st:=by
 cases st with
 |done x s=>exact absurd rfl (bc x s)
 |loop b s ks=>intro a w ah;have:=h a w ah;rw[s8] at this;exact this
 |oper o r ops s ks=>intro a w ah;have:=h a w ah;rw[s8] at this;exact this
 |range g ps nE b s ks=>intro a w ah;have:=h a w ah;rw[s8] at this;exact this
 |draw id ops s ks=>intro a w ah;have:=h a w ah;rw[s8] at this;exact this
 |cond c x y s ks=>intro a w ah;have:=h a w ah;rw[s8] at this;exact this
theorem Jp (cX:lP P .nil C) {ops:Array Oper} {ms:List Nat} {Q:Exit->Act->ax->Prop}:∀(l:List Oper) (sl:aF) (A:a6) (a:Act) (w:ax),mE P N B w0 Q (Dp P C N ops ms l sl A)->Here N {sl,ms,A} B w0 a w->wpListIn (Fr none) 0 P ops Q l a w
 |[],sl,A,a,w,c5,ah=>c5 a w ah
 |o::r,sl,A,a,w,c5,ah=>by
  unfold Dp at c5;split at c5
  ·rename_i eK bC c1
   exact Vx (l1:=[o]) (s:={sl,ms,A}) cX r (by simp only [wQ,c1]) ah λa7 w' x_=>Jp cX r eK bC a7 w' c5 x_
  ·exact c5 a w ah
theorem yd (cQ:P.follows .mixedOrders=true) (cX:lP P .nil C) {bn:Nat} {c:Code} {s:b6} {st:bY} {Q:Exit->Act->ax->Prop} {a:Act} {w:ax}
  (h:(match mU P C .nil N false bn c s with|some (x,s1)=>some (bY.done x s1)|none=>none)=some st) (c5:mE P N B w0 Q st) (ah:Here N s B w0 a w):c.wpIn (Fr none) 0 P Q a w:=by
 split at h
 ·rename_i x s1 ad
  cases h;refine wpIn_mono (aeP cQ cX bn ad ah) λe a7 w' hp=> ?_
  obtain⟨rfl,x_⟩:=hp;exact c5 a7 w' x_
 ·cases h
theorem r6 (cQ:P.follows .mixedOrders=true) (cX:lP P .nil C) {bn:Nat}:∀(c:Code) (s:b6) (st:bY) (Q:Exit->Act->ax->Prop) (a:Act) (w:ax),ov Q->pW P C N bn c s=some st->mE P N B w0 Q st->Here N s B w0 a w->c.wpIn (Fr none) 0 P Q a w
 | .loop b,s,st,Q,a,w,bb,h,c5,ah=>by
   unfold pW at h;split at h
   ·rename_i x s1 ad
    exact yd (bn:=bn) (c:= .loop b) cQ cX (by rw[ad];exact h) c5 ah
   ·cases h
    exact c5 a w ah
 | .region id ops d,s,st,Q,a,w,bb,h,c5,ah=>by
   unfold pW at h;cases d with
   |false=>
    rw[eB,cN] at h;subst h;exact wpIn_region_list (Jp cX _ _ _ a w c5 ah)
   |true=>
    rw[bD] at h;split at h
    ·rename_i eK bC r ad
     cases h;obtain⟨⟨φ,ds,g1,g2,g3,g4,g7⟩,k5,g6⟩:=ah;refine U5 cQ cX g3 (iG φ) g2 (λ_=>rfl) bb ad λgM dZ w1 q1 aH=> ?_
     obtain⟨dg,k2⟩:=Dh g4 aH g6;exact Jp cX _ _ _ dZ w1 c5 ⟨⟨gM,ds,g1.mono (aH.ext g3),q1,aH.rel,dg,g7.step aH⟩,k5.trans k2,Nat.le_trans g6 aH.gL⟩
    ·split at h
     ·rename_i eK bC ad
      cases h;obtain⟨⟨φ,ds,g1,g2,g3,g4,g7⟩,k5,g6⟩:=ah;refine Va cQ cX g3 (iG φ) g2 (λ_=>rfl) bb ad λgM dZ w1 q1 aH=> ?_
      obtain⟨dg,k2⟩:=Dh g4 aH g6;exact c5 dZ w1 ⟨⟨gM,ds,g1.mono (aH.ext g3),q1,aH.rel,dg,g7.step aH⟩,k5.trans k2,Nat.le_trans g6 aH.gL⟩
     ·cases h
      exact c5 a w ah
 | .seq x y,s,st,Q,a,w,bb,h,c5,ah=>by
   unfold pW at h;refine wpIn_seq ?_;split at h
   ·rename_i eI s1 ad
    refine r6 cQ cX x s _ _ a w (bb.then _) ad (λdZ w1 lS=> ?_) ah;split at h
    ·exact r6 cQ cX y s1 st Q dZ w1 bb h c5 lS
    ·rename_i aq
     cases h;exact Jo (λh=>aq h) (c5 dZ w1 lS) _
   ·rename_i pq ad bc
    cases h;exact r6 cQ cX x s _ _ a w (bb.then _) bc (mE.push (Q:=Q) (k:= .mW y) ad c5) ah
   ·cases h
 | .cond c x y,s,st,Q,a,w,bb,h,c5,ah=>by
   unfold pW at h;split at h
   ·rename_i t aL
    refine wpIn_cond (aeR aL ah) ?_;cases t with
    |true=>exact r6 cQ cX x s st Q a w bb h c5 ah
    |false=>exact r6 cQ cX y s st Q a w bb h c5 ah
   ·split at h
    ·rename_i t aL
     refine wpIn_cond (aeS cX.facts aL ah) ?_;cases t with
     |true=>exact r6 cQ cX x s st Q a w bb h c5 ah
     |false=>exact r6 cQ cX y s st Q a w bb h c5 ah
    ·cases h
     exact c5 a w ah
 | .block id x,s,st,Q,a,w,bb,h,c5,ah=>by
   unfold pW at h;refine wpIn_block ?_;split at h
   ·rename_i eI s1 ad
    refine r6 cQ cX x s _ _ a w (bb.inBlock id) ad (λdZ w1 lS=> ?_) ah;split at h
    ·rename_i id'
     show if id'=id then Q .normal dZ w1 else Q (.exit id') dZ w1
     cases af:Nat.beq id' id with
     |true=>
      rw[af] at h;cases h;rw[aY (cH af)];exact c5 dZ w1 lS
     |false=>
      rw[af] at h;cases h;rw[a' (Nat.ne_of_beq_eq_false af)];exact c5 dZ w1 lS
    ·rename_i aq
     cases h;have:=c5 dZ w1 lS;cases eI with
     |exit id'=>exact absurd rfl (aq id')
     |_=>exact this
   ·rename_i pq ad bc
    cases h;exact r6 cQ cX x s _ _ a w (bb.inBlock id) bc (mE.push (Q:=Q) (k:= .vv id) ad c5) ah
   ·cases h
 | .skip,s,st,Q,a,w,bb,h,c5,ah=>yd (bn:=bn) cQ cX h c5 ah
 | .rangeFunc g ps nE b,s,st,Q,a,w,bb,h,c5,ah=>by
   unfold pW at h;split at h
   ·rename_i x s1 ad
    exact yd (bn:=bn) (c:= .rangeFunc g ps nE b) cQ cX (by rw[ad];exact h) c5 ah
   ·cases h
    exact c5 a w ah
 | .exit _,s,st,Q,a,w,bb,h,c5,ah=>yd (bn:=bn) cQ cX h c5 ah
 | .scope _,s,st,Q,a,w,bb,h,c5,ah=>yd (bn:=bn) cQ cX h c5 ah
 | .label _,s,st,Q,a,w,bb,h,c5,ah=>yd (bn:=bn) cQ cX h c5 ah
 | .goto _,s,st,Q,a,w,bb,h,c5,ah=>yd (bn:=bn) cQ cX h c5 ah
 | .ret,s,st,Q,a,w,bb,h,c5,ah=>yd (bn:=bn) cQ cX h c5 ah
 | .refuse _,s,st,Q,a,w,bb,h,c5,ah=>yd (bn:=bn) cQ cX h c5 ah
theorem Fs (cQ:P.follows .mixedOrders=true) (cX:lP P .nil C) {bn:Nat} {c:Code}:∀(m:Nat) (s:b6) (st:bY) (Q:Exit->Act->ax->Prop) (a:Act) (w:ax),ov Q->Fq P C N bn c m s=some st->mE P N B w0 Q st->Here N s B w0 a w->Code.roundsIn (Fr none) 0 P c Q m a w
 |0,s,st,Q,a,w,bb,h,c5,ah=>by cases h
 |m+1,s,st,Q,a,w,bb,h,c5,ah=>by
  unfold Fq at h;rw[roundsIn_succ];split at h
  ·rename_i eI s1 ad
   refine r6 cQ cX c s _ _ a w (bb.then _) ad (λdZ w1 lS=> ?_) ah;split at h
   ·exact Fs cQ cX m s1 st Q dZ w1 bb h c5 lS
   ·rename_i aq
    cases h;exact Jo (λh=>aq h) (c5 dZ w1 lS) _
  ·rename_i pq ad bc
   cases h;exact r6 cQ cX c s _ _ a w (bb.then _) bc (mE.push (Q:=Q) (k:= .s7 c m) ad c5) ah
  ·cases h
theorem pX (cQ:P.follows .mixedOrders=true) (cX:lP P .nil C) {bn:Nat}:∀(ks:List fi) (x:k_) (s:b6) (st:bY) (Q:Exit->Act->ax->Prop) (a:Act) (w:ax),ov Q->resume P C N bn ks x s=some st->mE P N B w0 Q st->Here N s B w0 a w->dY P ks Q x.exit' a w
 |[],x,s,st,Q,a,w,bb,h,c5,ah=>by
  cases h;exact c5 a w ah
 | .mW y::ks,x,s,st,Q,a,w,bb,h,c5,ah=>by
   unfold resume at h;unfold dY;cases x with
   |normal=>
    simp only at h;show y.wpIn (Fr none) 0 P (dY P ks Q) a w;split at h
    ·rename_i eI s1 ad
     exact r6 cQ cX y s _ _ a w (bb.vw ks) ad (λdZ w1 lS=>pX cQ cX ks eI s1 st Q dZ w1 bb h c5 lS) ah
    ·rename_i pq ad bc
     cases h;exact r6 cQ cX y s _ _ a w (bb.vw ks) bc (mE.w3 (Q:=Q) (k:=ks) ad c5) ah
    ·cases h
   |exit id=>exact pX cQ cX ks (.exit id) s st Q a w bb h c5 ah
   |goto l=>exact pX cQ cX ks (.goto l) s st Q a w bb h c5 ah
   |ret=>exact pX cQ cX ks .ret s st Q a w bb h c5 ah
 | .vv id::ks,x,s,st,Q,a,w,bb,h,c5,ah=>by
   unfold resume at h;unfold dY;cases x with
   |exit id'=>
    simp only at h;show if id'=id then dY P ks Q .normal a w else dY P ks Q (.exit id') a w
    cases af:Nat.beq id' id with
    |true=>
     rw[af,bD] at h;rw[aY (cH af)];exact pX cQ cX ks .normal s st Q a w bb h c5 ah
    |false=>
     rw[af,eB] at h;rw[a' (Nat.ne_of_beq_eq_false af)];exact pX cQ cX ks (.exit id') s st Q a w bb h c5 ah
   |normal=>exact pX cQ cX ks .normal s st Q a w bb h c5 ah
   |goto l=>exact pX cQ cX ks (.goto l) s st Q a w bb h c5 ah
   |ret=>exact pX cQ cX ks .ret s st Q a w bb h c5 ah
 | .s7 c m::ks,x,s,st,Q,a,w,bb,h,c5,ah=>by
   unfold resume at h;unfold dY;cases x with
   |normal=>
    simp only at h;show Code.roundsIn (Fr none) 0 P c (dY P ks Q) m a w;split at h
    ·rename_i eI s1 ad
     exact Fs cQ cX m s _ _ a w (bb.vw ks) ad (λdZ w1 lS=>pX cQ cX ks eI s1 st Q dZ w1 bb h c5 lS) ah
    ·rename_i pq ad bc
     cases h;exact Fs cQ cX m s _ _ a w (bb.vw ks) bc (mE.w3 (Q:=Q) (k:=ks) ad c5) ah
    ·cases h
   |exit id=>exact pX cQ cX ks (.exit id) s st Q a w bb h c5 ah
   |goto l=>exact pX cQ cX ks (.goto l) s st Q a w bb h c5 ah
   |ret=>exact pX cQ cX ks .ret s st Q a w bb h c5 ah
end
end AE
namespace AE
def aG (W:ax) (i:Nat):Option Obj:=W.heap[i]?
inductive cF {α:Type} (M:Nat->Option Obj) (k:Nat) (enc:α->List J):J->List α->Prop
 |nil (a:Option Addr) (c:Nat):cF M k enc (.slice a 0 c) []
 |mk {b off c:Nat} {l:List α} {cs:Array J} {ty:aK} {fr:Nat×Nat} (af:M b=some (.cells cs ty fr)) (ar:l.length<=c) (h:∀(i:Nat) (x:α),l[i]? =some x->∀(j:Nat) (u:J),(enc x)[j]? =some u->cs[off+i*k+j]? =some u):
   cF M k enc (.slice (some ⟨b,off,none⟩) l.length c) l
theorem cF.mono {α:Type} {M M':Nat->Option Obj} {k:Nat} {enc:α->List J} {v:J} {l:List α} (h:cF M k enc v l) (hm:∀i o,M i=some o->M' i=some o):cF M' k enc v l:=by
 cases h with
 |nil=>exact .nil _ _
 |mk ad ag ay=>exact .mk (hm _ _ ad) ag ay
theorem cF.below {α:Type} {W W':ax} {k:Nat} {enc:α->List J} {v:J} {l:List α} (h:cF (aG W) k enc v l) (af:cg W.heap.size W W'):cF (aG W') k enc v l:=
 h.mono λi o ai=>by
   have lL:W.heap[i]? =some o:=ai;show W'.heap[i]? =some o;rw[af.block i (Array.getElem?_eq_some_iff.1 lL).1];exact lL
theorem cF.slice {α:Type} {M:Nat->Option Obj} {k:Nat} {enc:α->List J} {v:J} {l:List α} (h:cF M k enc v l):∃a c,v= .slice a l.length c:=by
 cases h with
 |nil=>exact⟨_,_,rfl⟩
 |mk=>exact⟨_,_,rfl⟩
def cellAt:J->Nat->Option Addr
 | .slice (some ⟨b,off,_⟩) _ _,o=>some ⟨b,off+o,none⟩
 |_,_=>none
def hb (v:J) (o:Nat):J:= .pointer (cellAt v o)
variable [a1]
section
variable {P:aR}
theorem aT.len {t ty e:aK} {x r:J} {a:Option Addr} {n c:Nat} (aq:aM x=true) (ao:aM r=true) (aL:P.underlying t=some (.slice e)) (ex:aJ x= .slice a n c) (b9:aJ r= .int .i64 n):aT P (.len #[t] ty x,r):=by
 refine⟨aq,ao,λd_ ea w=> ?_⟩;show (gk d_ ea (.len #[t] ty (aJ x))).run P w=_;rw[ex];unfold gk;have:(Builtin.len_ #[t] ty #[.slice a n c]).run P w= .ok (.int .i64 n) w:=by
  simp [Builtin.len_,run_underlying aL];rfl
 simp only [Sem.run_bind,this,Result.andThen_ok,b9];rfl
theorem uy {op:BinOp} {t:aK} {x y r:J} {a b:J} (aq:aM x=true) (bE:aM y=true) (ao:aM r=true) (ex:aJ x=a) (hK:aJ y=b)
  (h:∀d_ ea w,(gk d_ ea (.bin op t a b)).run P w= .ok (.value (aJ r)) w):aT P (.bin op t x y,r):=by
 refine⟨by simp [oq,aq,bE],ao,?_⟩;show ∀d_ ea w,(gk d_ ea (.bin op t (aJ x) (aJ y))).run P w=_;rw[ex,hK];exact h
def ye (op:BinOp) (k:IntKind) (a b:Int):J:=
 match op with
 | .lss=> .bool (decide (a<b))
 | .leq=> .bool (decide (a<=b))
 | .gtr=> .bool (decide (b<a))
 | .geq=> .bool (decide (b<=a))
 | .eql=> .bool (decide (a=b))
 | .neq=> .bool (!decide (a=b))
 | .add=> .int k (k.wrap (a+b))
 | .sub=> .int k (k.wrap (a-b))
 | .mul=> .int k (k.wrap (a*b))
 |_=>undef
def zB:BinOp->Bool
 | .lss| .leq| .gtr| .geq| .eql| .neq| .add| .sub| .mul=>true
 |_=>false
omit [a1] in
theorem aeW {op:BinOp} (cy:zB op=true) (t:aK) (k:IntKind) (a b:Int) (d_ ea:Operand) (w:ax):(gk d_ ea (.bin op t (.int k a) (.int k b))).run P w= .ok (.value (ye op k a b)) w:=by
 have e1:(a==b)=decide (a=b):=by rw[Bool.eq_iff_iff];simp
 cases op<;>first|(cases cy;done)|skip
 all_goals unfold gk
 all_goals simp [eqGuard,binOp,Op.intCmp,Op.intArith,ye,e1,bne]
theorem aT.bi {op:BinOp} {t:aK} {x y r:J} {k:IntKind} {a b:Int} (aq:aM x=true) (bE:aM y=true) (ao:aM r=true) (cy:zB op=true) (ex:aJ x= .int k a) (hK:aJ y= .int k b)
 (b9:aJ r=ye op k a b):aT P (.bin op t x y,r):=uy aq bE ao ex hK λd_ ea w=>by rw[b9];exact aeW cy t k a b d_ ea w
theorem aT.pY {c0:Array aK} {ty:aK} {x y r:J} {k:IntKind} {a b:Int} (aq:aM x=true) (bE:aM y=true) (ao:aM r=true) (ex:aJ x= .int k a) (hK:aJ y= .int k b) (b9:aJ r= .int k (max a b)):aT P (.eY c0 ty x y,r):=by
 refine⟨by simp [oq,aq,bE],ao,λd_ ea w=> ?_⟩;show (gk d_ ea (.eY c0 ty (aJ x) (aJ y))).run P w=_;rw[ex,hK,b9];unfold gk;simp only [Sem.run_bind,run_max_int2,Result.andThen_ok];rw[show (if b>a then b else a)=max a b by rw[Int.max_def];split<;>split<;>omega];rfl
theorem aT.s9 {c0:Array aK} {ty:aK} {x y r:J} {k:IntKind} {a b:Int} (aq:aM x=true) (bE:aM y=true) (ao:aM r=true) (ex:aJ x= .int k a) (hK:aJ y= .int k b) (b9:aJ r= .int k (min a b)):aT P (.lO c0 ty x y,r):=by
 refine⟨by simp [oq,aq,bE],ao,λd_ ea w=> ?_⟩;show (gk d_ ea (.lO c0 ty (aJ x) (aJ y))).run P w=_;rw[ex,hK,b9];unfold gk;simp only [Sem.run_bind,run_min_int2,Result.andThen_ok];rw[show (if b<a then b else a)=min a b by rw[Int.min_def];split<;>split<;>omega];rfl
theorem aT.dG {t e:aK} {x i r:J} {b off n c a_:Nat} {j:Nat} {k:IntKind} (aq:aM x=true) (ai:aM i=true) (ao:aM r=true) (aL:P.underlying t=some (.slice e)) (cr:bg P (sizeOf e)=some a_)
  (ex:aJ x= .slice (some ⟨b,off,none⟩) n c) (hB:aJ i= .int k j) (hj:j<n) (b9:aJ r= .pointer (some ⟨b,off+j*a_,none⟩)):aT P (.dG t x i,r):=by
 refine⟨by simp [oq,aq,ai],ao,λd_ ea w=> ?_⟩;show (gk d_ ea (.dG t (aJ x) (aJ i))).run P w=_;rw[ex,hB];unfold gk;have:(Instr.indexAt t (.slice (some ⟨b,off,none⟩) n c) (.int k j)).run P w= .ok (.pointer (some ⟨b,off+j*a_,none⟩)) w:=by
  simp [Instr.indexAt,run_underlying aL,asIntOf,hj,jz cr w,Addr.kr]
 simp only [Sem.run_bind,this,Result.andThen_ok,b9];rfl
theorem aT.cn {s:aK} {x r:J} {f b o:Nat} {fields:Array Field} {iv:Field} {n:Nat} (aq:aM x=true) (ao:aM r=true) (aw:bg P (underlying s)=some (.struct fields)) (aQ:fields[f]? =some iv) (av:bg P (sizeOf iv.type)=some n) (h0:n≠0)
  (ex:aJ x= .pointer (some ⟨b,o,none⟩)) (b9:aJ r= .pointer (some ⟨b,o+iv.offset,none⟩)):aT P (.cn s x f,r):=by
 refine⟨aq,ao,λd_ ea w=> ?_⟩;show (gk d_ ea (.cn s (aJ x) f)).run P w=_;rw[ex];unfold gk;have:(Instr.fieldAt s (.pointer (some ⟨b,o,none⟩)) f).run P w= .ok (.pointer (some ⟨b,o+iv.offset,none⟩)) w:=by
  unfold Instr.fieldAt;refine c4 aw ?_;simp only [aQ];refine c4 (a:=(⟨b,o,none⟩:Addr)) rfl ?_;unfold fieldPlace;simp only [Sem.run_bind,jz av w,Result.andThen_ok,a' h0,Addr.kr];rfl
 simp only [Sem.run_bind,this,Result.andThen_ok,b9];rfl
theorem aT.bA {t:aK} {x r:J} {b o n:Nat} {l:List J} (aq:aM x=true) (ao:aM r=true) (ha:bg P (isAgg t)=some true) (av:bg P (sizeOf t)=some n) (ex:aJ x= .pointer (some ⟨b,o,none⟩))
  (hl:l.length=n) (ar:∀w,ot w->∀j u,l[j]? =some u->w.cell? ⟨b,o+j,none⟩=some u) (b9:aJ r= .agg ⟨l⟩):aT P (.bA t x,r):=by
 refine⟨aq,ao,λd_ ea w hw=> ?_⟩;show (gk d_ ea (.bA t (aJ x))).run P w=_;rw[ex];unfold gk;have xM:∀j,j<n->w.cell? ((⟨b,o,none⟩:Addr).add j)=some (l.getD j undef):=λj hj=>by
  rw[Addr.kr];refine ar w hw j _ ?_;rw[f_ aj,dp,f_ aj];rfl
 have:(Instr.loadAt t (.pointer (some ⟨b,o,none⟩))).run P w= .ok (.agg ⟨l⟩) w:=by
  unfold Instr.loadAt;refine c4 (a:=(⟨b,o,none⟩:Addr)) rfl ?_;unfold loadVar;refine c4 ha ?_;simp only [if_true];refine c4 av ?_;refine dm (run_loadCells _ _ n (λj=>l.getD j undef) xM) ?_;have:(List.range n).map (λj=>l.getD j undef)=l:=by
   apply List.ext_getElem
   ·simp [hl]
   ·intro i ad ag
    simp only [List.getElem_map,List.getElem_range,dp];rw[f_ ag];rfl
  show Result.ok (Value.agg (List.map (λj=>l.getD j undef) (List.range n)).toArray) w=_;rw[this]
 simp only [Sem.run_bind,this,Result.andThen_ok,b9];rfl
theorem aT.VG {t:aK} {x r:J} {b o:Nat} {u:J} (aq:aM x=true) (ao:aM r=true) (ha:bg P (isAgg t)=some false) (ex:aJ x= .pointer (some ⟨b,o,none⟩))
  (ar:∀w,ot w->w.cell? ⟨b,o,none⟩=some u) (b9:aJ r=u):aT P (.bA t x,r):=by
 refine⟨aq,ao,λd_ ea w hw=> ?_⟩;show (gk d_ ea (.bA t (aJ x))).run P w=_;rw[ex];unfold gk;have:(Instr.loadAt t (.pointer (some ⟨b,o,none⟩))).run P w= .ok u w:=by
  unfold Instr.loadAt;refine c4 (a:=(⟨b,o,none⟩:Addr)) rfl ?_;unfold loadVar;refine c4 ha ?_;simp [Go.load,Sem.run,ar w hw]
 simp only [Sem.run_bind,this,Result.andThen_ok,b9];rfl
omit [a1] in
theorem cF.at' {α:Type} {M:Nat->Option Obj} {k:Nat} {enc:α->List J} {v:J} {l:List α} (h:cF M k enc v l) {i:Nat} {x:α} (ai:l[i]? =some x):∃b off c cs ty fr,v= .slice (some ⟨b,off,none⟩) l.length c/\M b=some (.cells cs ty fr)/\
  ∀(j:Nat) (u:J),(enc x)[j]? =some u->cs[off+i*k+j]? =some u:=by
 cases h with
 |nil=>simp at ai
 |mk ad ag ay=>exact⟨_,_,_,_,_,_,rfl,ad,ay i x ai⟩
theorem aT.aeX {α:Type} {k:Nat} {enc:α->List J} {v:J} {l:List α} (h:cF a1.dq k enc v l) {t ty e:aK} {x r:J} (aq:aM x=true) (ao:aM r=true) (aL:P.underlying t=some (.slice e)) (ex:aJ x=v) (b9:aJ r= .int .i64 l.length):
  aT P (.len #[t] ty x,r):=by
 obtain⟨a,c,aC⟩:=h.slice;exact aT.len aq ao aL (ex.trans aC) b9
theorem aT.Ft {α:Type} {k:Nat} {enc:α->List J} {v:J} {l:List α} (h:cF a1.dq k enc v l) {t e:aK} {x i r:J} {j:Nat} {hD:IntKind} (hj:j<l.length) (aq:aM x=true) (ai:aM i=true) (ao:aM r=true) (aL:P.underlying t=some (.slice e))
  (cr:bg P (sizeOf e)=some k) (ex:aJ x=v) (hB:aJ i= .int hD j) (b9:aJ r=hb v (j*k)):aT P (.dG t x i,r):=by
 obtain⟨b,off,c,_,_,_,aC,_⟩:=h.at' (f_ hj);refine aT.dG aq ai ao aL cr (ex.trans aC) hB hj ?_;rw[b9,aC];rfl
theorem aT.VH {s:aK} {x r v:J} {f o o':Nat} {fields:Array Field} {iv:Field} {n:Nat} (aq:aM x=true) (ao:aM r=true) (aw:bg P (underlying s)=some (.struct fields)) (aQ:fields[f]? =some iv) (av:bg P (sizeOf iv.type)=some n) (h0:n≠0)
  (aC:∃b off n c,v= .slice (some ⟨b,off,none⟩) n c) (ho:o'=o+iv.offset) (ex:aJ x=hb v o) (b9:aJ r=hb v o'):aT P (.cn s x f,r):=by
 obtain⟨b,off,m,c,rfl⟩:=aC;refine aT.cn aq ao aw aQ av h0 ex ?_;rw[b9,ho];show Value.pointer (some ⟨b,off+(o+iv.offset),none⟩)=_;rw[Nat.add_assoc]
theorem aT.r7 {α:Type} {k:Nat} {enc:α->List J} {v:J} {l:List α} (h:cF a1.dq k enc v l) {t:aK} {p r:J} {i:Nat} {x:α} (ai:l[i]? =some x) (hp:aM p=true) (ao:aM r=true)
  (ha:bg P (isAgg t)=some true) (av:bg P (sizeOf t)=some k) (al:(enc x).length=k) (ex:aJ p=hb v (i*k)) (b9:aJ r= .agg ⟨enc x⟩):aT P (.bA t p,r):=by
 obtain⟨b,off,c,cs,ty,fr,aC,af,ar⟩:=h.at' ai;rw[aC] at ex;refine aT.bA hp ao ha av ex al (λw hw j u hj=> ?_) b9;rw[cell_of_row w b _ cs ty fr (hw b _ af)];exact ar j u hj
theorem aT.VI {α:Type} {k:Nat} {enc:α->List J} {v:J} {l:List α} (h:cF a1.dq k enc v l) {t:aK} {p r:J} {i o j:Nat} {x:α} {u:J} (ai:l[i]? =some x) (hp:aM p=true) (ao:aM r=true)
  (ha:bg P (isAgg t)=some false) (ho:o=i*k+j) (hu:(enc x)[j]? =some u) (ex:aJ p=hb v o) (b9:aJ r=u):aT P (.bA t p,r):=by
 obtain⟨b,off,c,cs,ty,fr,aC,af,ar⟩:=h.at' ai;rw[aC] at ex;refine aT.VG hp ao ha ex (λw hw=> ?_) b9;rw[cell_of_row w b _ cs ty fr (hw b _ af),ho,<-Nat.add_assoc];exact ar j u hu
end
end AE
namespace AE
def oZ:J->J
 | .agg _=> .bool false
 | .tuple _=> .bool false
 |v=>v
theorem aeY (v:J):∀cs,oZ v≠.agg cs/\oZ v≠.tuple cs:=by
 intro cs;cases v<;>simp [oZ]
def me (bq:List J) (k:Nat):J:=bif Nat.blt k eZ then oZ (bq.getD k (.bool false)) else .pointer (some ⟨k-eZ,0,none⟩)
theorem aeZ (bq:List J) (k:Nat):∀cs,me bq k≠.agg cs/\me bq k≠.tuple cs:=by
 unfold me;cases Nat.blt k eZ with
 |true=>exact aeY _
 |false=>exact λcs=>⟨λh=>(by cases h),λh=>(by cases h)⟩
theorem ae0 (bq:List J) (g:Nat):me bq (eZ+g)= .pointer (some ⟨g,0,none⟩):=by
 unfold me;rw[show Nat.blt (eZ+g) eZ=false from Bool.eq_false_iff.2 λh=>by rw[Nat.blt_eq] at h;omega,eB,Nat.add_sub_cancel_left]
@[reducible] def aW (M:Nat->Option Obj) (bq:List J):a1:=⟨me bq,aeZ bq,M,ae0 bq⟩
theorem NZ (W:ax) (bq:List J): @ot (aW (aG W) bq) W:=λ_ _ h=>h
class mX (Q:Exit->Act->ax->Prop):Prop where
 calm:ov Q
instance [cS] {P:aR} {fn:Func} {N B:Nat} {w0:ax} {R:Ending->ax->Prop}:mX (rh P fn N B w0 R):=⟨λ_ _ _ h=>h⟩
instance {Q:Exit->Act->ax->Prop} [mX Q] {R:Act->ax->Prop}:mX (Exit.then R Q):=⟨(mX.calm (Q:=Q)).then R⟩
instance {P:aR} {Q:Exit->Act->ax->Prop} [mX Q] {ks:List fi}:mX (dY P ks Q):=⟨(mX.calm (Q:=Q)).vw ks⟩
def Dq:k_->Bool
 | .normal| .ret=>true
 |_=>false
def fj (P:aR) (fn:Func):Option bY->Option J
 |some (.done x s)=>bif Dq x then match x5 s.A s.ms with
  |some fU=>match wY P fU s.sl fn.results.toList with
   |some vs=>bif aM (x9 vs) then some (x9 vs) else none
   |none=>none
  |none=>none
  else none
 |_=>none
def qE (head:aF) (aZ:List bu):Option bY->Option eE
 |some (.done .normal s)=>cp s head aZ
 |_=>none
def pZ (head:aF) (aZ:List bu):Option bY->Option eE
 |some (.loop _ s _)=>cp s head aZ
 |_=>none
def pz:Option bY->Code
 |some (.loop b _ _)=>b
 |_=> .skip
def gA:Option bY->List fi
 |some (.loop _ _ ks)=>ks
 |some (.oper _ _ _ _ ks)=>ks
 |some (.range _ _ _ _ _ ks)=>ks
 |some (.draw _ _ _ ks)=>ks
 |some (.cond _ _ _ _ ks)=>ks
 |_=>[]
def b7:Option bY->b6
 |some (.done _ s)=>s
 |some (.loop _ s _)=>s
 |some (.oper _ _ _ s _)=>s
 |some (.range _ _ _ _ s _)=>s
 |some (.draw _ _ s _)=>s
 |some (.cond _ _ _ s _)=>s
 |none=>{sl:= .nil,ms:=[],A:=start}
def kH:Option bY->List Oper
 |some (.oper _ r _ _ _)=>r
 |_=>[]
def kI:Option bY->Array Oper
 |some (.oper _ _ ops _ _)=>ops
 |_=> #[]
def ka:Option bY->Option Tmp
 |some (.oper o _ _ _ _)=>o.dst
 |_=>none
def Jq (P:aR) [Lib P] [eh P] (C:ix) (N bn:Nat) (ks:List fi):Option bY->Option bY
 |some (.done .normal _)=>none
 |some (.done x s)=>resume P C N bn ks x s
 |_=>none
def b3 (head:aF) (aZ:List bu):b6:={sl:=head,ms:=[],A:=c6 aZ}
def b1:List (Nat×J)->aF
 |[]=> .nil
 |(t,v)::r=>match bV.set v depth (b1 r) t with
  |some s=>s
  |none=> .nil
def Jr (P:aR) (fn:Func):Option bY->Option (J×a6)
 |some (.done x s)=>bif Dq x then match x5 s.A s.ms with
  |some fU=>match wY P fU s.sl fn.results.toList with
   |some vs=>some (x9 vs,fU)
   |none=>none
  |none=>none
  else none
 |_=>none
theorem ae1 [a1] [cS] {P:aR} {fn:Func} {N B:Nat} {w0:ax} {R:Ending->ax->Prop} {st:bY} {v:J} {fU:a6} (h:Jr P fn (some st)=some (v,fU)) (jA:∀aB w2,Here 1 (Jh v fU) B w0 (NQ aB) w2->R (.returned aB) w2):mE P N B w0 (rh P fn N B w0 R) st:=by
 unfold Jr at h;split at h
 ·rename_i x s c1
  cases c1;cases aq:Dq x with
  |false=>rw[aq] at h;cases h
  |true=>
   rw[aq,bD] at h;split at h
   ·rename_i Da hl
    split at h
    ·rename_i vs kF
     cases h;intro a w ah;have main:Fj P fn N B w0 R a w:=⟨inferInstance,s,fU,x9 vs,ah,hl,λ_ _ _ ao aw=>Vj ao aw kF,jA⟩;cases x with
     |normal=>exact main
     |ret=>exact main
     |exit id=>cases aq
     |goto l=>cases aq
    ·cases h
   ·cases h
 ·cases h
theorem ae2 {P:aR} {fn:Func} {o:Option bY} {v:J} (h:fj P fn o=some v):∃fU,Jr P fn o=some (v,fU)/\aM v=true:=by
 unfold fj at h;unfold Jr;split at h
 ·rename_i x s
  cases aq:Dq x with
  |false=>rw[aq] at h;cases h
  |true=>
   rw[aq,bD] at h;simp only [bD];split at h
   ·rename_i fU hl
    split at h
    ·rename_i vs kF
     cases hp:aM (x9 vs) with
     |false=>rw[hp] at h;cases h
     |true=>
      rw[hp,bD,cN] at h;subst h;exact⟨fU,by simp only,hp⟩
    ·cases h
   ·cases h
 ·cases h
theorem VJ [a1] [cS] {P:aR} {fn:Func} {N B:Nat} {w0:ax} {R:Ending->ax->Prop} {st:bY} {v:J} (h:fj P fn (some st)=some v) (jA:∀w2,cg B w0 w2->ot w2->R (.returned (aJ v)) w2):mE P N B w0 (rh P fn N B w0 R) st:=by
 obtain⟨fU,ad,hp⟩:=ae2 h;refine ae1 ad λaB w2 ah=> ?_
 have ai:=ah.nW;obtain⟨⟨φ,ds,q1,aH,bW,et,_⟩,gN,j_⟩:=ah;have:=aH.get 0 v rfl;rw[show aB=aJ v from aD.ji v hp this];exact jA w2 gN ai
theorem ae3 [a1] [cS] {P:aR} [Lib P] [eh P] {C:ix} {N B bn:Nat} {w0:ax} {ks:List fi} {st s2:bY} {Q:Exit->Act->ax->Prop} [mX Q] {R:Act->ax->Prop} (cQ:P.follows .mixedOrders=true) (cX:lP P .nil C) (h:Jq P C N bn ks (some st)=some s2) (ag:mE P N B w0 Q s2):mE P N B w0 (Exit.then R (dY P ks Q)) st:=by
 unfold Jq at h;split at h
 ·cases h
 ·rename_i x s aq c1
  cases c1;intro a w ah;exact Jo (Q:=dY P ks Q) (λav=>aq av) (pX cQ cX ks x s s2 Q a w mX.calm h ag ah) R
 ·cases h
theorem ae4 [cS] {P:aR} {N B:Nat} {w0:ax} {s1:a1} {X:Type} {gn:X->a1} (gw:X->Prop) (iR:X->Nat) {head:aF} {aZ:List bu} {st:bY} {bL:eE} {Q:Exit->Act->ax->Prop} (x:X) (af:pZ head aZ (some st)=some bL) (hm:fP s1 (gn x) bL)
  (qD:∀i o,(gn x).dq i=some o->s1.dq i=some o) (aq:gw x)
  (round:∀x,gw x->∀a w,@Here (gn x) _ N (b3 head aZ) B w0 a w->(pz (some st)).wpIn (Fr none) 0 P (Exit.then (λa7 w'=>∃x',gw x'/\iR x'<iR x/\ @Here (gn x') _ N (b3 head aZ) B w0 a7 w') (dY P (gA (some st)) Q)) a w) (av:cS.eu<=aZ.length) (ar:iy (b7 (some st)).A aZ 0): @mE s1 _ P N B w0 Q st:=by
 unfold pZ at af;split at af
 ·rename_i b s ks c1
  cases c1;intro a w ah;exact Vy gn (b3 head aZ) gw iR round x aq (Here.move af hm qD av ar ah)
 ·cases af
def fy [a1] [cS] (P:aR) (N B:Nat) (w0:ax) (Q:Exit->Act->ax->Prop) (o:Option bY):Prop:=∃st,o=some st/\mE P N B w0 Q st
theorem jm [a1] [cS] {P:aR} {fn:Func} {N B:Nat} {w0:ax} {R:Ending->ax->Prop} {o:Option bY} {v:J} (h:fj P fn o=some v) (jA:∀w2,cg B w0 w2->ot w2->R (.returned (aJ v)) w2):fy P N B w0 (rh P fn N B w0 R) o:=by
 cases o with
 |none=>cases h
 |some st=>exact⟨st,rfl,VJ h jA⟩
theorem ae5 [a1] [cS] {P:aR} [Lib P] [eh P] {C:ix} {N B bn:Nat} {w0:ax} {ks:List fi} {o:Option bY} {Q:Exit->Act->ax->Prop} [mX Q] {R:Act->ax->Prop} (cQ:P.follows .mixedOrders=true) (cX:lP P .nil C) (ag:fy P N B w0 Q (Jq P C N bn ks o)):fy P N B w0 (Exit.then R (dY P ks Q)) o:=by
 obtain⟨s2,h,ag⟩:=ag;cases o with
 |none=>cases h
 |some st=>exact⟨st,rfl,ae3 cQ cX h ag⟩
theorem ae6 [cS] {P:aR} {N B:Nat} {w0:ax} {s1:a1} {X:Type} {gn:X->a1} (gw:X->Prop) (iR:X->Nat) {head:aF} {aZ:List bu} {o:Option bY} {bL:eE} {Q:Exit->Act->ax->Prop} (x:X) (af:pZ head aZ o=some bL) (hm:fP s1 (gn x) bL)
  (qD:∀i o,(gn x).dq i=some o->s1.dq i=some o) (aq:gw x)
  (round:∀x,gw x->∀a w,@Here (gn x) _ N (b3 head aZ) B w0 a w->(pz o).wpIn (Fr none) 0 P (Exit.then (λa7 w'=>∃x',gw x'/\iR x'<iR x/\ @Here (gn x') _ N (b3 head aZ) B w0 a7 w') (dY P (gA o) Q)) a w) (av:cS.eu<=aZ.length:=by first|exact Nat.zero_le _|exact gG rfl) (ar:iy (b7 o).A aZ 0:=by exact gX rfl): @fy s1 _ P N B w0 Q o:=by
 cases o with
 |none=>cases af
 |some st=>exact⟨st,rfl,ae4 gw iR x af hm qD aq round av ar⟩
def VK (P:aR) [Lib P] (F:List (gd×J)) (T:List (FuncId×List J×J)) (N bn d:Nat) (c:Code) (s:b6):Option bY:=
 @pW P _ ⟨F⟩ (@s4 P _ ⟨F⟩ ⟨T⟩ .nil bn d) N bn c s
def VL (P:aR) [Lib P] (F:List (gd×J)) (T:List (FuncId×List J×J)) (N bn d:Nat) (ks:List fi) (o:Option bY):Option bY:=
 @Jq P _ ⟨F⟩ (@s4 P _ ⟨F⟩ ⟨T⟩ .nil bn d) N bn ks o
def s' [a1] (P:aR) (F:List (gd×J)):Prop:=∀p∈F,aT P p
def r8 [a1] (P:aR) (T:List (FuncId×List J×J)):Prop:=∀p∈T,A5 P p
theorem aO [a1] {P:aR}:s' P []:=λ_ h=>by cases h
theorem ae [a1] {P:aR} {p:gd×J} {l:List (gd×J)} (h:aT P p) (hl:s' P l):s' P (p::l):=λq bb=>by
 rcases List.mem_cons.1 bb with rfl|bb
 ·exact h
 ·exact hl q bb
theorem aP [a1] {P:aR}:r8 P []:=λ_ h=>by cases h
theorem N0 [a1] {P:aR} {p:FuncId×List J×J} {l:List (FuncId×List J×J)} (h:A5 P p) (hl:r8 P l):r8 P (p::l):=λq bb=>by
 rcases List.mem_cons.1 bb with rfl|bb
 ·exact h
 ·exact hl q bb
theorem cD [a1] {P:aR} {p:FuncId×List J×J} {l:List (FuncId×List J×J)} (h:i_ P p) (hl:r8 P l):r8 P (p::l):=N0 h.NP hl
theorem ae7 [a1] [cS] {P:aR} [Lib P] {F:List (gd×J)} {T:List (FuncId×List J×J)} {N B bn d:Nat} {w0 w:ax} {a:Act} {c:Code} {s:b6} {Q:Exit->Act->ax->Prop} [mX Q] (cQ:P.follows .mixedOrders=true) (dh:s' P F) (eA:r8 P T)
  (h:fy P N B w0 Q (VK P F T N bn d c s)) (ah:Here N s B w0 a w):c.wpIn (Fr none) 0 P Q a w:=by
 obtain⟨st,ad,ag⟩:=h;letI:eh P:=⟨F⟩;letI:s3 P:=⟨T⟩;exact r6 cQ (zv cQ dh eA d) c s st Q a w mX.calm ad ag ah
theorem ae8 [a1] [cS] {P:aR} [Lib P] {F:List (gd×J)} {T:List (FuncId×List J×J)} {N B bn d:Nat} {w0:ax} {ks:List fi} {o:Option bY} {Q:Exit->Act->ax->Prop} [mX Q] {R:Act->ax->Prop} (cQ:P.follows .mixedOrders=true) (dh:s' P F) (eA:r8 P T)
  (ag:fy P N B w0 Q (VL P F T N bn d ks o)):fy P N B w0 (Exit.then R (dY P ks Q)) o:=by
 letI:eh P:=⟨F⟩;letI:s3 P:=⟨T⟩;exact ae5 cQ (zv cQ dh eA d) ag
def A8 (P:aR) [Lib P] (F:List (gd×J)) (T:List (FuncId×List J×J)) (N bn d:Nat) (r:List Oper) (ops:Array Oper) (ks:List fi) (s:b6):Option bY:=
 match @Dp P _ ⟨F⟩ (@s4 P _ ⟨F⟩ ⟨T⟩ .nil bn d) N ops s.ms r s.sl s.A with
 | .done .normal s1=> @resume P _ ⟨F⟩ (@s4 P _ ⟨F⟩ ⟨T⟩ .nil bn d) N bn ks .normal s1
 | .done _ _=>none
 |st=>some (st.w3 ks)
theorem Fu [a1] [cS] {P:aR} [Lib P] {F:List (gd×J)} {T:List (FuncId×List J×J)} {N B bn d:Nat} {w0 w:ax} {a:Act} {r:List Oper} {ops:Array Oper} {ks:List fi} {s:b6} {Q:Exit->Act->ax->Prop} [mX Q] (cQ:P.follows .mixedOrders=true) (dh:s' P F) (eA:r8 P T)
  (h:fy P N B w0 Q (A8 P F T N bn d r ops ks s)) (ah:Here N s B w0 a w):wpListIn (Fr none) 0 P ops (dY P ks Q) r a w:=by
 obtain⟨st,ad,ag⟩:=h;letI:eh P:=⟨F⟩;letI:s3 P:=⟨T⟩;have ar:=zv (gl:= .nil) (bn:=bn) cQ dh eA d;unfold A8 at ad;refine Jp (ms:=s.ms) ar r s.sl s.A a w ?_ ah;split at ad
 ·rename_i s1 he
  rw[he];intro a7 w' x_;exact pX cQ ar ks .normal s1 st Q a7 w' mX.calm ad ag x_
 ·cases ad
 ·rename_i pq bc he
  cases ad;exact mE.w3 (λx s aq=>by
   cases x with
   |normal=>exact bc _ aq
   |_=>exact he _ _ aq) ag
theorem VM [a1] {P:aR} {f:FuncId} {fn:Func} {c:Code} {args:List J} {sl:aF} {N:Nat} {W:ax} {R:Ending->ax->Prop} (mV:P.funcs[f]? =some fn) (ar:fn.body=some c) (gI:setArgs 0 args .nil=some sl) (hp:dL args=true)
  (kj:args.length+(fn.ntmps-args.length)=N) (pA:ot W) (rf:∀a,@Here _ gm N {sl,ms:=[],A:=start} W.heap.size W a W->c.wpIn (Fr none) 0 P (@rh gm P fn N W.heap.size W R) a W):Calls P f ⟨eo args⟩ W R:=by
 subst kj;letI:=gm;exact NR mV ar gI (Vv pA) (λb e h=>by cases h) (vr.none _ _) ⟨by simp [xT],λj hj=>by simpa using aD.AN (λ_=>none) args hp j hj⟩ (cg.refl _ _) (cj _) rf
theorem zC {s1 s2:a1}:fP s1 s2 []:=λ_ h=>by cases h
theorem ae9 {s1 s2:a1} {p:J×J} {l:eE} (h: @aJ s1 p.1= @aJ s2 p.2) (hl:fP s1 s2 l):fP s1 s2 (p::l):=λq bb=>by
 rcases List.mem_cons.1 bb with rfl|bb
 ·exact h
 ·exact hl q bb
theorem ae' {k:IntKind} {a b:Int} (h:a=b):Value.int k a= .int k b:=by rw[h]
theorem VN {M M':Nat->Option Obj} {bq vals':List J} {a b:Nat} (v:J) (ad:me bq a=v) (ag:me vals' b=v): @aJ (aW M bq) (ak a)= @aJ (aW M' vals') (ak b):=by
 exact((@IQ (aW M bq) a).trans ad).trans ((@IQ (aW M' vals') b).trans ag).symm
theorem ae_ {M M':Nat->Option Obj} {bq vals':List J} {a b:Nat} {k:IntKind} {x y:Int} (ad:me bq a= .int k x) (ag:me vals' b= .int k y) (h:x=y): @aJ (aW M bq) (ak a)= @aJ (aW M' vals') (ak b):=by
 subst h;exact VN (.int k x) ad ag
theorem wrap64 {n:Int} (ad: -9223372036854775808<=n) (ag:n<=9223372036854775807):IntKind.i64.wrap n=n:=IntWalk.i64_in n ⟨ad,ag⟩
attribute [instance] gm
end AE
namespace AE
theorem VO:∀{l:List J},dL l=true->∀{v:J},v∈l->aM v=true
 |[],_,v,aC=>by cases aC
 |x::r,h,v,aC=>by
  unfold dL at h;simp only [c7] at h;rcases List.mem_cons.1 aC with rfl|aC
  ·exact h.1
  ·exact VO h.2 aC
end AE
namespace AE
def VP [cS] {Y:Type} (Dr:Y->a1) (R:Y->Prop) (eO:J) (Ds:List bu) (B:Nat) (w0:ax) (e:Ending) (w':ax):Prop:=
 ∃aB y,e= .returned aB/\R y/\ @Here (Dr y) _ 1 (Jh eO (c6 Ds)) B w0 (NQ aB) w'
def VQ [a1] (P:aR) (f:FuncId) (args:List J) (A:a6) (B:Nat) (w0:ax) {Y:Type} (Dr:Y->a1) (R:Y->Prop) (eO:J) (Ds:List bu):Prop:=
 ∀φ w gv,b0 φ A w->(∀b e,φ b=some e->B<=e.bk)->h6 args φ gv->cg B w0 w->B<=w.heap.size->Calls P f gv w (@VP ⟨φ,A.n⟩ Y Dr R eO Ds B w0)
theorem VQ.of [a1] {P:aR} {f:FuncId} {fn:Func} {c:Code} {args:List J} {sl:aF} {A:a6} {N B:Nat} {w0:ax} {Y:Type} {Dr:Y->a1} {R:Y->Prop} {eO:J} {Ds:List bu} (mV:P.funcs[f]? =some fn) (ar:fn.body=some c) (gI:setArgs 0 args .nil=some sl)
  (kj:args.length+(fn.ntmps-args.length)=N) (rf:∀φ a w,@Here _ ⟨φ,A.n⟩ N {sl,ms:=[],A} B w0 a w->c.wpIn (Fr none) 0 P (@rh ⟨φ,A.n⟩ P fn N B w0 (@VP ⟨φ,A.n⟩ Y Dr R eO Ds B w0)) a w):VQ P f args A B w0 Dr R eO Ds:=by
 subst kj;intro φ w gv ao cT gK af cr;letI:cS:=⟨φ,A.n⟩;exact NR mV ar gI ao cT ⟨cj _,λ_ _=>rfl⟩ gK af cr λa ah=>rf φ a w ah
def vx (P:aR) [Lib P]:Option bY->Option (FuncId×List J×a6)
 |some (.oper o _ ops s _)=>match q8 ops o s.sl with
  |some true=>match E0 P (dH .nil s.sl) s.A o with
   |some (.enter f args,bC)=>some (f,args,bC)
   |_=>none
  |_=>none
 |_=>none
theorem afa {α:Type} {o:Option α} {d:α} (h:o.isSome=true):o=some (o.getD d):=by
 cases o with
 |none=>cases h
 |some a=>rfl
def N1 (P:aR) [Lib P] (F:List (gd×J)) (T:List (FuncId×List J×J)) (N bn d m:Nat):Option bY->Option bY
 |some (.loop b s ks)=>match @Fq P _ ⟨F⟩ (@s4 P _ ⟨F⟩ ⟨T⟩ .nil bn d) N bn b m s with
  |some (.done x s1)=> @resume P _ ⟨F⟩ (@s4 P _ ⟨F⟩ ⟨T⟩ .nil bn d) N bn ks x s1
  |some st=>some (st.w3 ks)
  |none=>none
 |_=>none
theorem s_ [a1] [cS] {P:aR} [Lib P] {F:List (gd×J)} {T:List (FuncId×List J×J)} {N B bn d m:Nat} {w0:ax} {o:Option bY} {Q:Exit->Act->ax->Prop} [mX Q] (cQ:P.follows .mixedOrders=true) (dh:s' P F) (eA:r8 P T)
  (h:fy P N B w0 Q (N1 P F T N bn d m o)):fy P N B w0 Q o:=by
 obtain⟨st,ad,ag⟩:=h;letI:eh P:=⟨F⟩;letI:s3 P:=⟨T⟩;have ar:=zv (gl:= .nil) (bn:=bn) cQ dh eA d;unfold N1 at ad;split at ad
 ·rename_i b s ks
  refine⟨_,rfl,λa w ah=>wpIn_loop_rounds m ?_⟩;have bb:ov (dY P ks Q):=(mX.calm (Q:=Q)).vw ks;split at ad
  ·rename_i eI s1 he
   exact Fs cQ ar m s _ _ a w bb he (λdZ w1 lS=>pX cQ ar ks eI s1 st Q dZ w1 mX.calm ad ag lS) ah
  ·rename_i pq bc he
   cases ad;exact Fs cQ ar m s _ _ a w bb he (mE.w3 (Q:=Q) (k:=ks) (λx s aq=>bc x s aq) ag) ah
  ·cases ad
 ·cases ad
end AE
namespace AE
abbrev Mem:=Nat->Option Obj
def eP:J->Option Nat
 | .slice (some a) _ c=>if c=0 then none else some a.block
 |_=>none
theorem Fv (a:Option Addr) (n:Nat):eP (.slice a n 0)=none:=by cases a<;>rfl
theorem nX (a:Addr) (n:Nat) {c:Nat} (h:0<c):eP (.slice (some a) n c)=some a.block:=by
 show (if c=0 then none else some a.block)=_;rw[a' aj]
theorem A9 {v:J} {i:Nat} (h:some i=eP v):some i=v.ownBlock:=by
 cases v<;>first|(cases h;done)|skip
 rename_i a n c;cases a with
 |none=>cases h
 |some a=>
  rcases Nat.eq_zero_or_pos c with ar|ar
  ·subst ar;cases h
  ·rw[nX a n ar] at h;exact h
def dw {α:Type} (B:Nat) (M:Mem) (e:aK) (k:Nat) (enc:α->List J) (v:J) (l:List α):Prop:=
 (∃a,v= .slice a 0 0/\l=[])\/
 ∃g cap cur,v= .slice (some ⟨g,0,none⟩) l.length cap/\0<cap/\B<=g/\M g=some (.cells cur e (0,0))/\l.length<=cap/\cap<=maxLen/\cur.size=cap*k/\cur.toList.take (l.length*k)=l.flatMap enc
theorem rj {α:Type} {k:Nat} {enc:α->List J} (al:∀x,(enc x).length=k):∀l:List α,(l.flatMap enc).length=l.length*k
 |[]=>by simp
 |x::r=>by rw[List.flatMap_cons,List.length_append,al,rj al r,List.length_cons,Nat.add_mul,Nat.one_mul,Nat.add_comm]
theorem zD {α:Type} {k:Nat} {enc:α->List J} (al:∀x,(enc x).length=k):∀(l:List α) (i:Nat) (x:α),l[i]? =some x->∀(j:Nat) (u:J),(enc x)[j]? =some u->(l.flatMap enc)[i*k+j]? =some u
 |[],i,x,h,_,_,_=>by simp at h
 |y::r,0,x,h,j,u,hu=>by
  simp only [List.getElem?_cons_zero,cN] at h;subst h;have hj:j<(enc y).length:=(List.getElem?_eq_some_iff.1 hu).1;rw[List.flatMap_cons,List.getElem?_append_left aj,Nat.zero_mul,Nat.zero_add];exact hu
 |y::r,i+1,x,h,j,u,hu=>by
  rw[List.flatMap_cons,List.getElem?_append_right (by rw[al,Nat.add_mul];omega),al,show (i+1)*k+j-k=i*k+j by rw[Nat.add_mul];omega];exact zD al r i x (by simpa using h) j u hu
section
variable {α:Type} {B:Nat} {M:Mem} {e:aK} {k:Nat} {enc:α->List J} {v:J} {l:List α}
theorem dw.nil (B:Nat) (M:Mem) (e:aK) (k:Nat) (enc:α->List J) (a:Option Addr):dw B M e k enc (.slice a 0 0) []:= .inl ⟨a,rfl,rfl⟩
theorem dw.slice (h:dw B M e k enc v l):∃a c,v= .slice a l.length c:=by
 rcases h with ⟨a,rfl,rfl⟩|⟨g,cap,cur,rfl,_⟩
 ·exact⟨a,0,rfl⟩
 ·exact⟨_,_,rfl⟩
theorem dw.known (h:dw B M e k enc v l):∀i,some i=eP v->M i≠none/\B<=i:=by
 intro i ai;rcases h with ⟨a,rfl,rfl⟩|⟨g,cap,cur,rfl,h0,ad,ag,_⟩
 ·rw[Fv] at ai;cases ai
 ·have:i=g:=by
   rw[nX _ _ h0] at ai;simpa using ai
  subst this;exact⟨by rw[ag];simp,ad⟩
theorem dw.mono {vq:Nat} {M':Mem} (h:dw B M e k enc v l) (cT:vq<=B) (hm:∀i,some i=eP v->∀o,M i=some o->M' i=some o):dw vq M' e k enc v l:=by
 rcases h with ⟨a,rfl,rfl⟩|⟨g,cap,cur,rfl,h0,ad,ag,ay,bG,cE,cR⟩
 ·exact .inl ⟨a,rfl,rfl⟩
 ·exact .inr ⟨g,cap,cur,rfl,h0,Nat.le_trans cT ad,hm g (by rw[nX _ _ h0]) _ ag,ay,bG,cE,cR⟩
def r9 (w:ax) (_:Nat) (enc:α->List J) (v:J) (l:List α):Prop:=
 ∃a c,v= .slice a l.length c/\(a=none->l=[])/\∀hc,a=some hc->∀j u,(l.flatMap enc)[j]? =some u->w.cell? (hc.add j)=some u
theorem afb {enc:α->List J} (al:∀x,(enc x).length=k) {l:List α} {j:Nat} {u:J} (h:(l.flatMap enc)[j]? =some u):∃i x r,l[i]? =some x/\(enc x)[r]? =some u/\j=i*k+r:=by
 have hj:j<l.length*k:=by
  have:=(List.getElem?_eq_some_iff.1 h).1
  rwa [rj al] at this
 have ey:0<k:=by rcases Nat.eq_zero_or_pos k with h|h;· subst h;simp at hj
                 ·exact h
 have ai:j/k<l.length:=Nat.div_lt_of_lt_mul (by rwa [Nat.mul_comm] at hj);have ao:j%k<k:=Nat.mod_lt _ ey;refine⟨j/k,l[j/k],j%k,f_ ai,?_,(Nat.div_add_mod' j k).symm⟩;have ag:=zD al l (j/k) _ (f_ ai) (j%k) ((enc l[j/k])[j%k]'(by rw[al];exact ao)) (f_ _);rw[Nat.div_add_mod',h] at ag;rw[f_ (by rw[al];exact ao)];exact ag.symm
theorem cF.reads {w:ax} (h:cF M k enc v l) (al:∀x,(enc x).length=k) (hw:∀i o,M i=some o->w.heap[i]? =some o):r9 w k enc v l:=by
 cases h with
 |nil a c=>exact⟨a,c,rfl,λ_=>rfl,λhc _ j u h=>by simp at h⟩
 |mk ad ag ay=>
  refine⟨_,_,rfl,(λh=>by cases h),λhc had j u hj=> ?_⟩;cases had;obtain⟨i,x,r,q1,aH,rfl⟩:=afb al hj;rw[Addr.kr,cell_of_row w _ _ _ _ _ (hw _ _ ad),<-Nat.add_assoc];exact ay i x q1 r u aH
theorem dw.reads {w:ax} (h:dw B M e k enc v l) (hw:∀i o,M i=some o->w.heap[i]? =some o):r9 w k enc v l:=by
 rcases h with ⟨a,rfl,rfl⟩|⟨g,cap,cur,rfl,h0,ad,ag,ay,bG,cE,cR⟩
 ·exact⟨a,0,rfl,λ_=>rfl,λhc _ j u h=>by simp at h⟩
 ·refine⟨_,_,rfl,(λh=>by cases h),λhc had j u hj=> ?_⟩
  cases had;rw[Addr.kr,cell_of_row w _ _ _ _ _ (hw _ _ ag),Nat.zero_add];rw[<-cR,List.getElem?_take] at hj;split at hj
  ·simpa using hj
  ·cases hj
theorem dw.arr (h:dw B M e k enc v l) (al:∀x,(enc x).length=k):cF M k enc v l:=by
 rcases h with ⟨a,rfl,rfl⟩|⟨g,cap,cur,rfl,ar,ad,ag,ay,bG,cE,cR⟩
 ·exact .nil _ _
 ·refine .mk ag ay λi x aq j u hu=> ?_
  have fS:=zD al l i x aq j u hu;rw[<-cR,List.getElem?_take] at fS;split at fS
  ·rw[Nat.zero_add]
   simpa using fS
  ·cases fS
theorem dw.row (h:dw B M e k enc v l) (al:∀x,(enc x).length=k) (ar:eP v≠none) {w:ax} (hw:∀i o,M i=some o->w.heap[i]? =some o):w.ownsRow B e k v l.length (l.flatMap enc):=by
 refine⟨rj al l,?_⟩;rcases h with ⟨a,rfl,rfl⟩|⟨g,cap,cur,rfl,h0,ad,ag,ay,bG,cE,cR⟩
 ·exact absurd (Fv _ _) ar
 ·exact .inr ⟨g,cap,cur,rfl,ad,hw _ _ ag,ay,bG,cE,cR⟩
theorem dw.N2 {w:ax} (h:w.ownsRow B e k v l.length (l.flatMap enc)):dw B (aG w) e k enc v l:=by
 obtain⟨_,⟨rfl,h0⟩|⟨g,cap,cur,rfl,ad,ag,ay,bG,cE,cR⟩⟩:=h
 ·exact .inl ⟨none,rfl,List.eq_nil_of_length_eq_zero h0⟩
 ·rcases Nat.eq_zero_or_pos cap with ar|ar
  ·subst ar
   have:l=[]:=List.eq_nil_of_length_eq_zero aj;subst this;exact .inl ⟨_,rfl,rfl⟩
  ·exact .inr ⟨g,cap,cur,rfl,ar,ad,ag,ay,bG,cE,cR⟩
end
def h7 (M M':Mem) (T:Option Nat):Prop:=∀i o,M i=some o->some i≠T->M' i=some o
theorem h7.up {B:Nat} {W:ax} {M M':Mem} {T:Option Nat} (al:h7 M M' T) (cT:∀i,some i=T->B<=i) (afc:W.heap.size<=B) (bt:∀i o,aG W i=some o->M i=some o):∀i o,aG W i=some o->M' i=some o:=λi o h=>
 al i o (bt i o h) λai=>by
  have ad:=cT i ai;have ag:i<W.heap.size:=(Array.getElem?_eq_some_iff.1 h).1;omega
theorem h7.own {α:Type} {B:Nat} {M M':Mem} {T:Option Nat} {e:aK} {k:Nat} {enc:α->List J} {v:J} {l:List α} (al:h7 M M' T) (h:dw B M e k enc v l) (cW:∀i,some i=eP v->some i≠T):dw B M' e k enc v l:=
 h.mono (cj _) λi ai o ho=>al i o ho (cW i ai)
structure A' (B:Nat) (M M':Mem) (T:Option Nat) (w w':ax):Prop where
 known:∀i,some i=T->M i≠none/\B<=i
 os:w'.os=w.os
 tape:w'.tape=w.tape
 output:w'.output=w.output
 drawn:iF w<=iF w'
 size:w.heap.size<=w'.heap.size
 block:∀i,i<w.heap.size->some i≠T->w'.heap[i]? =w.heap[i]?
 dq:∀i o,M' i=some o->w'.heap[i]? =some o/\(M i≠none\/w.heap.size<=i\/i<B)
theorem Here.turns [cS] {M M':Mem} {bq vals':List J} {T:Option Nat} {N B:Nat} {st:b6} {w0 w w':ax} {a:Act} {sl:aF} {l:List bu} {bL:eE} (dd:cp st sl l=some bL) (hm:fP (aW M bq) (aW M' vals') bL) (aL:A' B M M' T w w') (av:cS.eu<=l.length) (ar:iy st.A l 0)
  (ah: @Here (aW M bq) _ N st B w0 a w): @Here (aW M' vals') _ N {sl,ms:=[],A:=c6 l} B w0 a w':=
 Here.A7 (λi=>some i=T) dd hm (λi ai=>aL.known i ai) ⟨aL.os,aL.tape,aL.output,aL.drawn⟩ aL.size (λi ai aC=>aL.block i ai aC) (λi o ai=>aL.dq i o ai) av ar ah
def h8 (M:Mem) (w':ax) (T da:Option Nat):Mem:=λi=>if some i=da then w'.heap[i]? else if some i=T then none else M i
theorem qF {B:Nat} {M:Mem} {T da:Option Nat} {w w':ax} (hw:∀i o,M i=some o->w.heap[i]? =some o) (eA:∀i,some i=T->M i≠none/\B<=i) (Dt:∀i,some i=da->some i=T\/w.heap.size<=i)
  (ux:w'.os=w.os/\w'.tape=w.tape/\w'.output=w.output) (bc:iF w<=iF w') (cr:w.heap.size<=w'.heap.size) (af:∀i,i<w.heap.size->some i≠T->w'.heap[i]? =w.heap[i]?):A' B M (h8 M w' T da) T w w'/\h7 M (h8 M w' T da) T:=by
 have zA:∀i o,M i=some o->some i≠T->w'.heap[i]? =some o:=λi o ai aC=>by
  have h:=hw i o ai;rw[af i (Array.getElem?_eq_some_iff.1 h).1 aC];exact h
 refine⟨⟨eA,ux.1,ux.2.1,ux.2.2,bc,cr,af,λi o ai=> ?_⟩,λi o ai aC=> ?_⟩
 ·unfold h8 at ai
  split at ai
  ·rename_i h
   refine⟨ai,?_⟩;rcases Dt i h with h|h
   ·exact .inl (eA i h).1
   ·exact .inr (.inl h)
  ·split at ai
   ·cases ai
   ·rename_i ad ag
    exact⟨zA i o ai ag,.inl (by rw[ai];simp)⟩
 ·unfold h8
  split
  ·exact zA i o ai aC
  ·first
    |exact ai
    |(rw[a' aC];exact ai)
theorem N3 {P:aR} {w:ax} {t ty e:aK} {i:TypeInfo} (aL:P.underlying t=some (.slice e)) (ai:P.info? e=some i) {a b:Option Addr} {n cap c:Nat} (h:n<=cap):
  (Builtin.append_ #[t,t] ty #[.slice a n cap,.slice b 0 c]).run P w= .ok (.slice a n cap) w:=by
 cases b<;>cases a<;>simp [Builtin.append_,run_underlying aL,sizeOf,typeInfo,ai,Builtin.lenOf,Builtin.firstCells,loadCells,loadCellsFrom,h,storeCells]
theorem N4 {P:aR} {w w':ax} {base:Nat} {t ty e:aK} {i:TypeInfo} {z:J} {size bytes:Nat} (aL:P.underlying t=some (.slice e)) (ai:P.info? e=some i) (bU:i.zero=some z) (gL:i.size=size) (jU:i.bytes=bytes) (mf:z.cells.size=size) (cr:0<size)
  {v aB:J} {n:Nat} {xs:List J} (w4:w.ownsRow base e size v n xs) (a:Addr) (m c:Nat) {dc:List J} (hl:dc.length=m*size) (AB:∀j u,dc[j]? =some u->w.cell? (a.add j)=some u) (ad:∀u∈dc,u.oneCell'=true)
  (iS:n+m<=maxLen) (lN:(n+m)*bytes<=140737488355328) (ao:(Builtin.append_ #[t,t] ty #[v,.slice (some a) m c]).run P w= .ok aB w'):∀j,some j=aB.ownBlock->some j=v.ownBlock\/w.heap.size<=j:=by
 subst gL;subst jU;have N5:n+m<=9223372036854775807:=by simp only [maxLen] at iS;omega
 rcases w4.2 with ⟨rfl,rfl⟩|⟨g,cap,cur,rfl,aoE,aA,iz,Js,fV,vm⟩
 ·by_cases hm:m=0
  ·subst hm
   have av:dc=[]:=List.eq_nil_of_length_eq_zero (by simpa using hl);subst av;have ag:(Builtin.append_ #[t,t] ty #[.slice none 0 0,.slice (some a) 0 c]).run P w= .ok (.slice none 0 0) w:=by
    simp [Builtin.append_,run_underlying aL,sizeOf,typeInfo,ai,Builtin.lenOf,Builtin.firstCells,loadCells,loadCellsFrom]
   rw[ag] at ao;cases ao;intro j hj;cases hj
  ·have ag:=run_append_nil (P:=P) w t ty e i z aL ai bU a m c dc hl AB aj aj (by have af:=lN;simp only [Nat.zero_add] at af;omega)
   rw[ag] at ao;cases ao;intro j hj;have:j=w.heap.size:=by simpa [Value.ownBlock] using hj
   exact .inr aj
 ·by_cases Du:n+m<=cap
  ·have qv:n*i.size+dc.length<=cur.size:=by rw[hl,fV,<-Nat.add_mul];exact Nat.mul_le_mul_right _ Du
   have ag:=run_append_room (P:=P) w t ty e i aL ai g n cap cur aA a m c dc hl AB ad Du qv;rw[ag] at ao;cases ao;intro j hj;exact .inl hj
  ·have holds:∀j u,xs[j]? =some u->w.cell? ((⟨g,0,none⟩:Addr).add j)=some u:=w4.cells (g:=g) rfl
   have ag:=run_append_grow (P:=P) w t ty e i z aL ai bU ⟨g,0,none⟩ n cap xs w4.1 holds a m c dc hl AB aj aj (growslice_fits aj lN);rw[ag] at ao;cases ao;intro j hj;have:j=w.heap.size:=by simpa [Value.ownBlock] using hj
   exact .inr aj
theorem N6 {α:Type} {P:aR} {w:ax} {B:Nat} {M:Mem} {t ty e:aK} {i:TypeInfo} {z:J} {k bytes:Nat} (aL:P.underlying t=some (.slice e)) (ai:P.info? e=some i) (bU:i.zero=some z) (gL:i.size=k) (jU:i.bytes=bytes) (mf:z.cells.size=k) (hY:0<k)
  {enc:α->List J} (al:∀x,(enc x).length=k) (kb:∀x,∀u∈enc x,u.oneCell'=true) {v x:J} {l lx:List α} (cM:dw B M e k enc v l) (aq:r9 w k enc x lx) (hw:∀i o,M i=some o->w.heap[i]? =some o) (cT:B<=w.heap.size)
  (iS:l.length+lx.length<=maxLen) (lN:(l.length+lx.length)*bytes<=140737488355328):
  ∃aB w' M',(Builtin.append_ #[t,t] ty #[v,x]).run P w= .ok aB w'/\dw B M' e k enc aB (l++lx)/\A' B M M' (eP v) w w'/\h7 M M' (eP v):=by
 obtain⟨w5,c,rfl,yf,ki⟩:=aq;by_cases hm:lx=[]
 ·subst hm
  obtain⟨a,cap,rfl⟩:=cM.slice;have hle:l.length<=cap:=by
   rcases cM with ⟨a7,h,rfl⟩|⟨g,wL,cur,h,h0,ad,ag,ay,_⟩
   ·exact Nat.zero_le _
   ·cases h;exact ay
  refine⟨_,w,M,N3 aL ai hle,by rw[List.append_nil];exact cM,⟨cM.known,rfl,rfl,rfl,cj _,cj _,λ_ _ _=>rfl,λi o h=>⟨hw i o h,.inl (by rw[h];simp)⟩⟩,λi o h _=>h⟩
 ·cases w5 with
  |none=>exact absurd (yf rfl) hm
  |some hc=>
   have hlen:=rj al lx;have tU:0<lx.length:=List.length_pos_iff.2 hm;have ad:∀u∈lx.flatMap enc,u.oneCell'=true:=λu hu=>by
    obtain⟨y,_,bE⟩:=List.mem_flatMap.1 hu;exact kb y u bE
   have fW:∀{v0:J},w.ownsRow B e k v0 l.length (l.flatMap enc)->(∀i,some i=v0.ownBlock->M i≠none/\B<=i)->∃aB w' M',(Builtin.append_ #[t,t] ty #[v0,.slice (some hc) lx.length c]).run P w= .ok aB w'/\dw B M' e k enc aB (l++lx)/\A' B M M' v0.ownBlock w w'/\h7 M M' v0.ownBlock:=by
    intro v0 oh hM;obtain⟨aB,w',g1,g2,g3,_⟩:=run_append_own (P:=P) w B t ty e i z k bytes aL ai bU gL jU mf hY v0 l.length _ oh hc lx.length c _ hlen (ki hc rfl) ad iS lN cT;have gH:=N4 aL ai bU gL jU mf hY oh hc lx.length c hlen (ki hc rfl) ad iS lN g1;have ag:w'.ownsRow B e k aB (l++lx).length ((l++lx).flatMap enc):=by rw[List.length_append,List.flatMap_append];exact g2
    obtain⟨q1,aH⟩:=qF (B:=B) (M:=M) (T:=v0.ownBlock) (da:=aB.ownBlock) hw hM gH ⟨g3.os,g3.tape,g3.output⟩ (cj _) g3.size g3.block;refine⟨aB,w',_,g1,(dw.N2 ag).mono (cj _) λi ai o ho=> ?_,q1,aH⟩;have:some i=aB.ownBlock:=A9 ai;unfold h8;rw[aY this];exact ho
   by_cases ar:eP v=none
   ·rcases cM with ⟨a,rfl,rfl⟩|⟨g,cap,cur,rfl,h0,_⟩
    ·have e0:(Builtin.append_ #[t,t] ty #[.slice a 0 0,.slice (some hc) lx.length c]).run P w=(Builtin.append_ #[t,t] ty #[.slice none 0 0,.slice (some hc) lx.length c]).run P w:=by
      cases a with
      |none=>rfl
      |some a=>
       subst gL;subst jU;have N5:lx.length<=9223372036854775807:=by simp only [maxLen,List.length_nil] at iS;omega
       have cO:=run_append_nil (P:=P) w t ty e i z aL ai bU hc lx.length c _ hlen (ki hc rfl) aj aj (by have af:=lN;simp only [List.length_nil,Nat.zero_add] at af;omega);have dx:=run_append_grow (P:=P) w t ty e i z aL ai bU a 0 0 [] (by simp) (λj u h=>by simp at h) hc lx.length c _ hlen (ki hc rfl) aj aj (growslice_fits aj (by have af:=lN;simp only [List.length_nil] at af;exact af));rw[cO,dx];simp
     obtain⟨aB,w',M',q1,aH,bW,et⟩:=fW (v0:= .slice none 0 0) (World.ownsRow_nil w B e k) (λi h=>by cases h);rw[ar];exact⟨aB,w',M',e0.trans q1,aH,bW,et⟩
    ·exact absurd ar (by rw[nX _ _ h0];simp)
   ·have heq:eP v=v.ownBlock:=by
     cases h:eP v with
     |none=>exact absurd h ar
     |some i=>exact A9 h.symm
    have:=fW (v0:=v) (cM.row al ar hw) (λi h=>cM.known i (by rw[heq];exact h));rw[heq];exact this
def p0 (t:aK):Option bY->Option (J×J)
 |some (.oper o _ ops s _)=>match o.op with
  | .call c=>match c.callee,c.args with
    | .builtin .append,⟨[nF,hd]⟩=>bif decide (c.argTypes= #[t,t]) then match q8 ops o s.sl with
      |some true=>some (dH .nil s.sl nF,dH .nil s.sl hd)
      |_=>none
      else none
    |_,_=>none
  |_=>none
 |_=>none
theorem A_ [cS] {α:Type} {P:aR} {N B:Nat} {w0:ax} {Q:Exit->Act->ax->Prop} {M:Mem} {bq:List J} {o:Option bY} {t e:aK} {k bytes:Nat} {i:TypeInfo} {z vs lC eO:J} {enc:α->List J} {l lx l':List α} {bj:Option Addr->Nat->List J} {eb dI:aF} {aZ:List bu} {bL:eE}
  (fL:l'=l++lx) (h:p0 t o=some (vs,lC)) (aL:P.underlying t=some (.slice e)) (ai:P.info? e=some i) (bU:i.zero=some z) (gL:i.size=k) (jU:i.bytes=bytes) (mf:z.cells.size=k) (hY:0<k) (al:∀x,(enc x).length=k) (kb:∀x,∀u∈enc x,u.oneCell'=true)
  (dd:cp (b7 o) eb aZ=some bL) (eL:gZ N eb (ka o) eO=some dI) (fB:aM eO=true) (T:Option Nat)
  (cM:∀φ w v,@b0 (aW M bq) φ (b7 o).A w-> @aD (aW M bq) φ vs v->dw B M e k enc v l/\eP v=T)
  (jV:∀φ w x,@b0 (aW M bq) φ (b7 o).A w-> @aD (aW M bq) φ lC x->r9 w k enc x lx)
  (iS:l.length+lx.length<=maxLen) (lN:(l.length+lx.length)*bytes<=140737488355328)
  (hm:∀M' a c,fP (aW M bq) (aW M' (bj a c)) bL) (aC:∀M' a c,@aJ (aW M' (bj a c)) eO= .slice a l'.length c)
  (rest:∀M' a c,dw B M' e k enc (.slice a l'.length c) l'->h7 M M' T->(∀i,some i=T->B<=i)->∀a7 w,@Here (aW M' (bj a c)) _ N {sl:=dI,ms:=[],A:=c6 aZ} B w0 a7 w->wpListIn (Fr none) 0 P (kI o) (dY P (gA o) Q) (kH o) a7 w)
  (av:cS.eu<=aZ.length:=by first|exact Nat.zero_le _|exact gG rfl) (ar:iy (b7 o).A aZ 0:=by exact gX rfl): @fy (aW M bq) _ P N B w0 Q o:=by
 subst fL;letI:=aW M bq;unfold p0 at h;split at h
 ·rename_i op r ops s ks
  refine⟨_,rfl,λa w ah=> ?_⟩;split at h
  ·rename_i c cy
   split at h
   ·rename_i nF hd pS gK
    cases hty:decide (c.argTypes= #[t,t]) with
    |false=>rw[hty] at h;cases h
    |true=>
     rw[hty,bD] at h;have yg:c.argTypes= #[t,t]:=of_decide_eq_true hty;split at h
     ·rename_i jK
      cases h;have hE:=ah;obtain⟨⟨φ,ds,ad,ag,ay,bG,_⟩,cE,cR⟩:=ah;unfold wpListIn;rw[pv ag.get jK,aY rfl];have es:=gV (iG φ) ag.get nF;have ex:=gV (iG φ) ag.get hd;obtain⟨Jt,eA⟩:=cM φ w _ ay es;subst eA;have hw:∀i o,M i=some o->w.heap[i]? =some o:=hE.nW;obtain⟨aB,w',M',g1,g2,g3,g4⟩:=N6 (ty:=op.type) aL ai bU gL jU mf hY al kb Jt (jV φ w _ ay ex) hw cR iS lN;have fw:(execOp a.eval op).run P w= .ok (.value aB) w':=by
       unfold execOp resolve;rw[cy];simp only [pS,gK,yg,List.map_toArray,List.map_cons,List.map_nil];show (do pure (Next.value (<-Builtin.append_ #[t,t] op.type #[a.eval nF,a.eval hd])):Sem Next).run P w=_;simp only [Sem.run_bind,g1,Result.andThen_ok];rfl
      have fz:∀c',op.op≠.defer c':=λc' h=>by rw[cy] at h;cases h
      refine⟨λ_ _=>trivial,?_⟩;rw[Oper.semAt_eq _ _ _ fz,fw,Oper.uponIn_value];obtain⟨a7,c',rfl⟩:=g2.slice;have hS:=Here.turns (vals':=bj a7 c') dd (hm M' a7 c') g3 av ar hE;letI:=aW M' (bj a7 c');have lT:=Here.put (d:=op.dst) hS fB eL;rw[aC M' a7 c'] at lT;exact rest M' a7 c' g2 g4 (λi ai=>(g3.known i ai).2) _ w' lT
     ·cases h
   ·cases h
  ·cases h
 ·cases h
theorem Fw {α:Type} {A:a6} {B:Nat} {M:Mem} {bq:List J} {e:aK} {k:Nat} {enc:α->List J} {vs u:J} {l:List α} (hp:aM vs=true) (bp: @aJ (aW M bq) vs=u) (cM:dw B M e k enc u l):∀φ w v,@b0 (aW M bq) φ A w-> @aD (aW M bq) φ vs v->dw B M e k enc v l/\eP v=eP u:=λφ w v _ aC=>by
 letI:=aW M bq;rw[aD.ji vs hp aC,bp];exact⟨cM,rfl⟩
def VR (A:a6) (b:Nat):Bool:=match A.bl.get b with
 |some k=>Nat.beq k.eN 0&& !Nat.beq b dead
 |none=>false
theorem Ju {α:Type} {A:a6} {B:Nat} {M:Mem} {bq:List J} {e:aK} {k:Nat} {enc:α->List J} {b o:Nat} (lR:VR A b=true):∀φ w v,@b0 (aW M bq) φ A w-> @aD (aW M bq) φ (.slice (some ⟨b,o,none⟩) 0 0) v->dw B M e k enc v ([]:List α)/\eP v=none:=λφ w v ao aC=>by
 letI:=aW M bq;unfold VR at lR;split at lR
 ·rename_i dj al
  simp only [c7,Bool.not_eq_true'] at lR;cases aC with
  |iZ a7 h=>exact absurd lR.2 (by simp)
  |iD _ _ h=>exact⟨dw.nil _ _ _ _ _ _,Fv _ _⟩
  |iE _ _ c' h aw ar hl=>
   obtain⟨k',ad,ag,_⟩:=ao.eC _ _ h;rw[al] at ad;cases ad;have:=cH lR.1;omega
 ·cases lR
theorem zE {α:Type} {M:Mem} {bq:List J} {A:a6} {k:Nat} {enc:α->List J} {lC u:J} {lx:List α} (hp:aM lC=true) (bp: @aJ (aW M bq) lC=u) (jV:∀w,(∀i o,M i=some o->w.heap[i]? =some o)->r9 w k enc u lx):∀φ w x,@b0 (aW M bq) φ A w-> @aD (aW M bq) φ lC x->r9 w k enc x lx:=λφ w x ao aC=>by
 letI:=aW M bq;rw[aD.ji lC hp aC,bp];exact jV w λi o h=>(ao.dq i o h).1
def Ba (A:a6) (k:Nat):J->Option (List J)
 | .slice (some ⟨b,off,none⟩) m _=>match A.rR b off (m*k) with
   |some bq=>bif dL bq&&(bq.all xH&&(Nat.blt 0 m&&Nat.beq bq.length (m*k))) then some bq else none
   |none=>none
 |_=>none
theorem Dv {α:Type} {M:Mem} {bq:List J} {A:a6} {k:Nat} {enc:α->List J} {lC:J} {cs:List J} {lx:List α} (h:Ba A k lC=some cs) (al:∀x,(enc x).length=k) (hY:0<k) (he: @eo (aW M bq) cs=lx.flatMap enc):∀φ w x,@b0 (aW M bq) φ A w-> @aD (aW M bq) φ lC x->r9 w k enc x lx:=λφ w x ao aC=>by
 letI:=aW M bq;unfold Ba at h;split at h
 ·rename_i b off m aoF
  split at h
  ·rename_i vs hl
   cases hp:(dL vs&&(vs.all xH&&(Nat.blt 0 m&&Nat.beq vs.length (m*k)))) with
   |false=>rw[hp] at h;cases h
   |true=>
    rw[hp,bD,cN] at h;subst h;simp only [c7] at hp;obtain⟨hz,uj,sW,vo⟩:=hp;have hm:0<m:=Nat.blt_eq.mp sW;have hlen:vs.length=m*k:=cH vo;have rX:m=lx.length:=by
     have ad:=congrArg List.length he;rw[xT,hlen,rj al] at ad;exact Nat.eq_of_mul_eq_mul_right hY ad
    have Az:∃ee VS,φ b=some ee/\x= .slice (some ⟨ee.bk,ee.sh+off,none⟩) m VS:=by
     cases aC with
     |iZ a7 h=>exact absurd hm aj
     |iD _ _ h=>exact⟨_,_,h,rfl⟩
     |iE _ _ c' h _ _ _=>exact⟨_,_,h,rfl⟩
    obtain⟨ee,VS,af,rfl⟩:=Az;refine⟨_,_,by rw[rX],(λh=>by cases h),λhc had j u hj=> ?_⟩;cases had;rw[<-he] at hj;obtain⟨q1,aH⟩:=Ay hl;have kE:j<vs.length:=by
     have:=(List.getElem?_eq_some_iff.1 hj).1
     rwa [xT] at this
    obtain⟨aB,g1,g2⟩:=u6 ao (aH j aj) af;rw[Addr.kr,Nat.add_assoc,g1];have wE:aM (vs.getD j undef)=true:=by
     rw[dp,f_ kE];exact VO hz (List.getElem_mem kE)
    rw[aD.ji _ wE g2];rw[MW,List.getElem?_map,f_ kE] at hj;rw[dp,f_ kE];simpa using hj
  ·cases h
 ·cases h
def gP:Option bY->Array Oper
 |some (.draw _ ops _ _)=>ops
 |_=> #[]
theorem yh {n:Nat} (h:n<=1000000):n<=maxLen:=Nat.le_trans h (by unfold maxLen;decide)
theorem cF.isNil {α:Type} {M:Mem} {k:Nat} {enc:α->List J} {n c:Nat} {l:List α} (h:cF M k enc (.slice none n c) l):l=[]:=by cases h;rfl
theorem Jv {α:Type} {B:Nat} {M:Mem} {e:aK} {k:Nat} {enc:α->List J} {l:List α} (h:l=[]):∃a c,Ending.returned (.slice none 0 0)= .returned (.slice a l.length c)/\dw B M e k enc (.slice a l.length c) l:=by
 subst h;exact⟨none,0,rfl,dw.nil _ _ _ _ _ _⟩
theorem Bb {α:Type} {B:Nat} {M:Mem} {e:aK} {k:Nat} {enc:α->List J} {l b:List α} {a:Option Addr} {c:Nat} {w:ax} (cM:dw B M e k enc (.slice a b.length c) b) (af:b=l) (ai:∀i o,M i=some o->w.heap[i]? =some o):∃a7 c',Ending.returned (.slice a b.length c)= .returned (.slice a7 l.length c')/\dw B (aG w) e k enc (.slice a7 l.length c') l:=by
 subst af;exact⟨a,c,rfl,cM.mono (cj _) λi _ o ho=>ai i o ho⟩
section
variable [a1] {P:aR}
omit [a1] in
theorem VT {op:BinOp} {t e:aK} (aL:P.underlying t=some (.slice e)) (a:Option Addr) (n c:Nat) (d_ ea:Operand) (w:ax) (cy:op= .eql\/op= .neq):
  (gk d_ ea (.bin op t (.slice a n c) (.slice none 0 0))).run P w= .ok (.value (.bool (if op= .eql then a.isNone else !a.isNone))) w:=by
 have he:(Op.equal t (.slice a n c) (.slice none 0 0)).run P w= .ok a.isNone w:=by
  unfold Op.equal Op.maxDepth;exact Lib.run_equalIn_slice_nil w 9999 t e a n c 0 0 aL
 rcases cy with rfl|rfl<;>unfold gk<;>simp [eqGuard,binOp,he]
theorem aT.Jw {t e:aK} {x:J} {a:Option Addr} {n c:Nat} (aq:aM x=true) (aL:P.underlying t=some (.slice e)) (ex:aJ x= .slice a n c) (h:a=none):aT P (.bin .eql t x (.slice none 0 0),.bool true):=
 uy aq U U ex rfl λd_ ea w=>(VT aL a n c d_ ea w (.inl rfl)).trans (by rw[h];rfl)
theorem aT.Jx {t e:aK} {x:J} {a:Option Addr} {n c:Nat} (aq:aM x=true) (aL:P.underlying t=some (.slice e)) (ex:aJ x= .slice a n c) (h:¬a=none):aT P (.bin .eql t x (.slice none 0 0),.bool false):=
 uy aq U U ex rfl λd_ ea w=>(VT aL a n c d_ ea w (.inl rfl)).trans (by
  cases a with
  |none=>exact absurd rfl h
  |some a=>rfl)
end
end AE
namespace AE
theorem N7 {α:Type} {k:Nat} {enc:α->List J} (al:∀x,(enc x).length=k):∀(l:List α) (j:Nat),(l.take j).flatMap enc=(l.flatMap enc).take (j*k)
 |[],j=>by simp
 |x::r,0=>by simp
 |x::r,j+1=>by
  have ad:(enc x).take ((j+1)*k)=enc x:=List.take_of_length_le (by rw[al,Nat.add_mul];omega);rw[List.take_succ_cons,List.flatMap_cons,List.flatMap_cons,N7 al r j,List.take_append,ad,al,show (j+1)*k-k=j*k by rw[Nat.add_mul];omega]
theorem N8 {α:Type} {k:Nat} {enc:α->List J} (al:∀x,(enc x).length=k):∀(l:List α) (j:Nat),(l.drop j).flatMap enc=(l.flatMap enc).drop (j*k)
 |[],j=>by simp
 |x::r,0=>by simp
 |x::r,j+1=>by
  have ad:(enc x).drop ((j+1)*k)=[]:=List.drop_eq_nil_of_le (by rw[al,Nat.add_mul];omega);rw[List.drop_succ_cons,List.flatMap_cons,N8 al r j,List.drop_append,ad,al,List.nil_append,show (j+1)*k-k=j*k by rw[Nat.add_mul];omega]
def la (a:Option Addr) (c j k:Nat):Option Addr:=if c=j then a else a.map λa=>a.add (j*k)
section
variable {α:Type} {B:Nat} {M:Mem} {e:aK} {k:Nat} {enc:α->List J} {a:Option Addr} {c:Nat} {l:List α}
theorem cF.take {j n:Nat} (h:cF M k enc (.slice a n c) l) (hj:j<=n):cF M k enc (.slice a j c) (l.take j):=by
 obtain rfl:n=l.length:=by obtain⟨_,_,ag⟩:=h.slice;cases ag;rfl
 generalize aC:Value.slice a l.length c=v at h;have hlen:(l.take j).length=j:=by rw[List.length_take];omega
 cases h with
 |nil a7 c'=>
  have:j=0:=by simpa using hj
  subst this;exact .nil _ _
 |mk ad ag ay=>
  cases aC;have:=cF.mk (enc:=enc) (k:=k) (l:=l.take j) (c:=c) ad (by rw[hlen];omega) λi x aq u w hw=>by
   rw[List.getElem?_take] at aq;split at aq
   ·exact ay i x aq u w hw
   ·cases aq
  rw[hlen] at this;exact this
theorem cF.drop {j n:Nat} (h:cF M k enc (.slice a n c) l) (hj:j<=n):cF M k enc (.slice (la a c j k) (n-j) (c-j)) (l.drop j):=by
 obtain rfl:n=l.length:=by obtain⟨_,_,ag⟩:=h.slice;cases ag;rfl
 have hlen:(l.drop j).length=l.length-j:=List.length_drop;rcases Nat.lt_or_ge j l.length with ck|kD
 ·generalize aC:Value.slice a l.length c=v at h
  cases h with
  |nil a7 c'=>simp at ck
  |mk ad ag ay=>
   rename_i b off c' cs ty fr;cases aC;have bc:la (some ⟨b,off,none⟩) c j k=some ⟨b,off+j*k,none⟩:=by
    unfold la;rw[a' aj];simp only [Option.map_some,Addr.kr]
   rw[bc];have:=cF.mk (enc:=enc) (k:=k) (l:=l.drop j) (off:=off+j*k) (c:=c-j) ad (by rw[hlen];omega) λi x aq u w hw=>by
    rw[List.getElem?_drop] at aq;have:=ay (j+i) x aq u w hw;rw[Nat.add_mul] at this;rw[<-this];congr 1;omega
   rw[hlen] at this;exact this
 ·have h0:l.length-j=0:=by omega
  rw[h0,List.drop_eq_nil_of_le kD];exact .nil _ _
theorem dw.take (al:∀x,(enc x).length=k) {j n:Nat} (h:dw B M e k enc (.slice a n c) l) (hj:j<=l.length):dw B M e k enc (.slice a j c) (l.take j):=by
 have hlen:(l.take j).length=j:=by rw[List.length_take];omega
 rcases h with ⟨a7,h0,rfl⟩|⟨g,cap,cur,h0,ad,ag,ay,bG,cE,cR,fS⟩
 ·cases h0
  have:j=0:=by simpa using hj
  subst this;exact .inl ⟨_,rfl,rfl⟩
 ·cases h0
  refine .inr ⟨g,c,cur,by rw[hlen],ad,ag,ay,by rw[hlen];omega,cE,cR,?_⟩;rw[hlen];have po:(cur.toList.take (l.length*k)).take (j*k)=(l.flatMap enc).take (j*k):=by rw[fS]
  rw[List.take_take,Nat.min_eq_left (Nat.mul_le_mul_right k hj)] at po;rw[po,N7 al]
theorem afd {v:J} {w:ax} (al:∀x,(enc x).length=k) (kb:∀x,∀u∈enc x,u.oneCell'=true) (lR:dw B M e k enc v l) (hw:∀i o,M i=some o->w.heap[i]? =some o) (h0:0<l.length) (i:Nat) (xs:List α) (ai:i+xs.length<=l.length):
  ∃g c w',v= .slice (some ⟨g,0,none⟩) l.length c/\l.length<=c/\(∀P,(storeCells ⟨g,i*k,none⟩ (xs.flatMap enc)).run P w= .ok () w')/\∃M',dw B M' e k enc v (l.take i++xs++l.drop (i+xs.length))/\A' B M M' (eP v) w w'/\h7 M M' (eP v):=by
 rcases lR with ⟨a,rfl,rfl⟩|⟨g,cap,cur,rfl,ku,yi,bt,w6,Js,fV,vm⟩
 ·exact absurd h0 (by simp)
 ·have aA:=hw _ _ bt
  have yj:=rj al xs;have Nj:i*k+xs.length*k<=l.length*k:=by rw[<-Nat.add_mul];exact Nat.mul_le_mul_right k ai
  have C5:l.length*k<=cur.size:=by rw[fV];exact Nat.mul_le_mul_right k w6
  have ad:∀u∈xs.flatMap enc,u.oneCell'=true:=λu hu=>by
   obtain⟨y,_,bE⟩:=List.mem_flatMap.1 hu;exact kb y u bE
  let fQ:Array J:=(cur.toList.take (i*k)++xs.flatMap enc++cur.toList.drop (i*k+(xs.flatMap enc).length)).toArray
  have fw:∀P,(storeCells ⟨g,i*k,none⟩ (xs.flatMap enc)).run P w= .ok () (w.setRow g fQ):=λP=>by
   have:=run_storeCells_at P g (i*k) e (xs.flatMap enc) 0 cur w aA (by rw[yj];omega) ad;simpa only [Nat.add_zero] using this
  have cr:fQ.size=cap*k:=by
   show (cur.toList.take (i*k)++xs.flatMap enc++cur.toList.drop (i*k+(xs.flatMap enc).length)).toArray.size=_;simp only [List.size_toArray,List.length_append,List.length_take,List.length_drop,Array.length_toList,yj];omega
  obtain⟨q1,aH⟩:=qF (B:=B) (M:=M) (w':=w.setRow g fQ) (T:=some g) (da:=some g) hw (λi ai=>by cases ai;exact⟨by rw[bt];simp,yi⟩) (λi ai=> .inl ai) ⟨rfl,rfl,rfl⟩ (cj _) (by simp [World.setRow]) (λj _ hj=>setRow_other w g j fQ (λh=>hj (by rw[h])));have N9:(l.take i++xs++l.drop (i+xs.length)).length=l.length:=by
   simp only [List.length_append,List.length_take,List.length_drop];omega
  refine⟨g,cap,w.setRow g fQ,rfl,w6,fw,?_⟩;rw[nX _ _ ku];refine⟨_,.inr ⟨g,cap,fQ,by rw[N9],ku,yi,?_,by rw[N9];exact w6,Js,cr,?_⟩,q1,aH⟩
  ·unfold h8
   rw[aY rfl];exact setRow_heap w g cur fQ e (0,0) aA
  ·rw[N9,List.flatMap_append,List.flatMap_append,N7 al,N8 al,<-vm]
   show (cur.toList.take (i*k)++xs.flatMap enc++cur.toList.drop (i*k+(xs.flatMap enc).length)).take (l.length*k)=_;have l1:(cur.toList.take (i*k)++xs.flatMap enc).length=i*k+xs.length*k:=by
    rw[List.length_append,List.length_take,Array.length_toList,yj,Nat.min_eq_left aj]
   rw[yj,List.take_append,l1,List.take_of_length_le (by rw[l1];exact Nj),List.take_take,Nat.min_eq_left aj,Nat.add_mul,List.drop_take]
end
section
variable [a1] {P:aR}
omit [a1] in
theorem afe (a:Addr) (n:Nat):a.add (0*n)=a:=by
 rw[Nat.zero_mul];cases a;simp [Addr.add]
omit [a1] in
theorem aff {t e:aK} {a_:Nat} (aL:P.underlying t=some (.slice e)) (cr:bg P (sizeOf e)=some a_) (a:Option Addr) (n c j:Nat) (hj:j<=n) (w:ax):
  (Instr.sliceAt t (.slice a n c) (some (.int .i64 j)) none none).run P w= .ok (.slice (la a c j a_) (n-j) (c-j)) w:=by
 have af:(Instr.sliceBound (.int .i64 (j:Int)) n .sliceB).run P w= .ok j w:=by
  have:=run_sliceBound (P:=P) (w:=w) .i64 (j:Int) n .sliceB aj aj;simpa using this
 simp [Instr.sliceAt,Instr.slice,run_underlying aL,Instr.sliceBounds,af,jz cr w,la]
omit [a1] in
theorem afg {t e:aK} {a_:Nat} (aL:P.underlying t=some (.slice e)) (cr:bg P (sizeOf e)=some a_) (a:Option Addr) (n c j:Nat) (hj:j<=c) (w:ax):
  (Instr.sliceAt t (.slice a n c) none (some (.int .i64 j)) none).run P w= .ok (.slice a j c) w:=by
 have af:(Instr.sliceBound (.int .i64 (j:Int)) c .sliceAcap).run P w= .ok j w:=by
  have:=run_sliceBound (P:=P) (w:=w) .i64 (j:Int) c .sliceAcap aj aj;simpa using this
 simp [Instr.sliceAt,Instr.slice,run_underlying aL,Instr.sliceBounds,af,jz cr w];intro _;cases a with
 |none=>rfl
 |some a=>
  have:=afe a a_;rw[Nat.zero_mul] at this;simpa using this
theorem aT.VU {t e:aK} {a_:Nat} {x i r:J} {a:Option Addr} {n c j:Nat} (aq:aM x=true) (ai:aM i=true) (ao:aM r=true) (aL:P.underlying t=some (.slice e)) (cr:bg P (sizeOf e)=some a_) (ex:aJ x= .slice a n c) (hB:aJ i= .int .i64 (j:Int)) (hj:j<=n)
  (b9:aJ r= .slice (la a c j a_) (n-j) (c-j)):aT P (.mb t x (some i) none none,r):=by
 refine⟨by simp [oq,plainO,aq,ai],ao,λd_ ea w _=> ?_⟩;show (gk d_ ea (.mb t (aJ x) (some (aJ i)) none none)).run P w=_;rw[ex,hB,b9];unfold gk;simp only [Sem.run_bind,aff aL cr a n c j hj w,Result.andThen_ok];rfl
theorem aT.afh {t e:aK} {a_:Nat} {x i r:J} {a:Option Addr} {n c j:Nat} (aq:aM x=true) (ai:aM i=true) (ao:aM r=true) (aL:P.underlying t=some (.slice e)) (cr:bg P (sizeOf e)=some a_) (ex:aJ x= .slice a n c) (hB:aJ i= .int .i64 (j:Int)) (hj:j<=c)
  (b9:aJ r= .slice a j c):aT P (.mb t x none (some i) none,r):=by
 refine⟨by simp [oq,plainO,aq,ai],ao,λd_ ea w _=> ?_⟩;show (gk d_ ea (.mb t (aJ x) none (some (aJ i)) none)).run P w=_;rw[ex,hB,b9];unfold gk;simp only [Sem.run_bind,afg aL cr a n c j hj w,Result.andThen_ok];rfl
end
def nG:Option bY->Option (aK×J×J)
 |some (.oper o _ ops s _)=>match o.op with
  | .store t ow hd=>match q8 ops o s.sl with
    |some true=>some (t,dH .nil s.sl ow,dH .nil s.sl hd)
    |_=>none
  |_=>none
 |_=>none
theorem afi [cS] {α:Type} {P:aR} {N B:Nat} {w0:ax} {Q:Exit->Act->ax->Prop} {M:Mem} {bq bj:List J} {o:Option bY} {t e:aK} {k:Nat} {p x u:J} {enc:α->List J} {l l':List α} {i:Nat} {y:α} {eb dI:aF} {aZ:List bu} {bL:eE}
  (fL:l'=l.set i y) (h:nG o=some (t,p,x)) (cr:bg P (sizeOf t)=some k) (al:∀x,(enc x).length=k) (kb:∀x,∀u∈enc x,u.oneCell'=true)
  (dd:cp (b7 o) eb aZ=some bL) (eL:gZ N eb (ka o) undef=some dI) (hp:aM p=true) (aq:aM x=true) (mg: @aJ (aW M bq) p=hb u (i*k)) (ex: @aJ (aW M bq) x= .agg ⟨enc y⟩)
  (cM:dw B M e k enc u l) (ai:i<l.length) (hm:∀M',fP (aW M bq) (aW M' bj) bL)
  (rest:∀M',dw B M' e k enc u l'->h7 M M' (eP u)->∀a7 w,@Here (aW M' bj) _ N {sl:=dI,ms:=[],A:=c6 aZ} B w0 a7 w->wpListIn (Fr none) 0 P (kI o) (dY P (gA o) Q) (kH o) a7 w)
  (av:cS.eu<=aZ.length:=by first|exact Nat.zero_le _|exact gG rfl) (ar:iy (b7 o).A aZ 0:=by exact gX rfl): @fy (aW M bq) _ P N B w0 Q o:=by
 letI:=aW M bq;unfold nG at h;split at h
 ·rename_i op r ops s ks
  refine⟨_,rfl,λa w ah=> ?_⟩;split at h
  ·rename_i dt ow hd cy
   split at h
   ·rename_i jK
    cases h;have hE:=ah;obtain⟨⟨φ,ds,ad,ag,ay,bG,_⟩,cE,cR⟩:=ah;unfold wpListIn;rw[pv ag.get jK,aY rfl];have es:a.eval ow=hb u (i*k):=(aD.ji _ hp (gV (iG φ) ag.get ow)).trans mg;have o0:a.eval hd= .agg ⟨enc y⟩:=(aD.ji _ aq (gV (iG φ) ag.get hd)).trans ex;have hw:∀i o,M i=some o->w.heap[i]? =some o:=hE.nW;obtain⟨g,c,w',rfl,w6,afj,M',g2,g3,g4⟩:=afd al kb cM hw aj i [y] (by simp only [List.length_cons,List.length_nil];omega);have fg:l.take i++[y]++l.drop (i+[y].length)=l.set i y:=by
     rw[List.set_eq_take_append_cons_drop,aY ai];simp
    rw[fg,<-fL] at g2;have fw:(execOp a.eval op).run P w= .ok .skip w':=by
     unfold execOp;rw[cy];simp only [es,o0];show (do Instr.storeAt t (hb (.slice (some ⟨g,0,none⟩) l.length c) (i*k)) (.agg ⟨enc y⟩);pure Next.skip:Sem Next).run P w=_;have c1:(Instr.storeAt t (hb (.slice (some ⟨g,0,none⟩) l.length c) (i*k)) (.agg ⟨enc y⟩)).run P w= .ok () w':=by
      unfold Instr.storeAt;refine c4 (a:=(⟨g,0+i*k,none⟩:Addr)) rfl ?_;unfold storeVar;refine c4 cr ?_;rw[a' (by simp [Value.cells,al])];have:=afj P;rw[List.flatMap_cons,List.flatMap_nil,List.append_nil] at this;rw[Nat.zero_add];exact this
     simp only [Sem.run_bind,c1,Result.andThen_ok];rfl
    have fz:∀c',op.op≠.defer c':=λc' h=>by rw[cy] at h;cases h
    refine⟨λ_ _=>trivial,?_⟩;rw[Oper.semAt_eq _ _ _ fz,fw,Oper.uponIn_skip];have hS:=Here.turns (vals':=bj) dd (hm M') g3 av ar hE;letI:=aW M' bj;exact rest M' g2 g4 _ w' (Here.put (d:=op.dst) hS (v:=undef) rfl eL)
   ·cases h
  ·cases h
 ·cases h
theorem VV [a1] {P:aR} {f:FuncId} {fn:Func} {c:Code} {args:List J} {sl:aF} {N:Nat} {W:ax} {R:Ending->ax->Prop} (mV:P.funcs[f]? =some fn) (ar:fn.body=some c) (gI:setArgs 0 args .nil=some sl) (hp:dL args=true)
  (kj:args.length+(fn.ntmps-args.length)=N) (pA:ot W) (rf:∀a,@Here _ gm N {sl,ms:=[],A:=start} 0 W a W->c.wpIn (Fr none) 0 P (@rh gm P fn N 0 W R) a W):Calls P f ⟨eo args⟩ W R:=by
 subst kj;letI:=gm;exact NR mV ar gI (Vv pA) (λb e h=>by cases h) (vr.none _ _) ⟨by simp [xT],λj hj=>by simpa using aD.AN (λ_=>none) args hp j hj⟩ (cg.refl _ _) (Nat.zero_le _) rf
theorem dw.cap {α:Type} {B:Nat} {M:Mem} {e:aK} {k:Nat} {enc:α->List J} {a:Option Addr} {n c:Nat} {l:List α} (h:dw B M e k enc (.slice a n c) l):n<=c:=by
 rcases h with ⟨a7,h0,rfl⟩|⟨g,cap,cur,h0,ad,ag,ay,bG,cE,cR,fS⟩
 ·cases h0;exact cj _
 ·cases h0;exact bG
end AE
end Go.Proofs.YtepcfjbfkedlpaaDoor
namespace Go.Proofs.YtepcfjbfkedlpaaDoor
open Go Go.Proofs Go.RowKit
namespace AE
theorem VW {α:Type} {P:aR} {w:ax} {B:Nat} {M:Mem} {t ty e:aK} {i:TypeInfo} {z:J} {k bytes:Nat} (aL:P.underlying t=some (.slice e)) (ai:P.info? e=some i) (bU:i.zero=some z) (gL:i.size=k) (jU:i.bytes=bytes) (mf:z.cells.size=k) (hY:0<k)
  {enc:α->List J} (al:∀x,(enc x).length=k) (kb:∀x,∀u∈enc x,u.oneCell'=true) {v x:J} {l lx:List α} (cM:dw B M e k enc v l) (aq:r9 w k enc x lx) (hw:∀i o,M i=some o->w.heap[i]? =some o)
  (iS:l.length+lx.length<=maxLen) (lN:(l.length+lx.length)*bytes<=140737488355328) {aB:J} {w':ax} (ao:(Builtin.append_ #[t,t] ty #[v,x]).run P w= .ok aB w'):
  ∀j,some j=eP aB->some j=eP v\/w.heap.size<=j:=by
 obtain⟨w5,c,rfl,yf,ki⟩:=aq;by_cases hm:lx=[]
 ·subst hm
  obtain⟨a,cap,rfl⟩:=cM.slice;have hle:l.length<=cap:=by
   rcases cM with ⟨a7,h,rfl⟩|⟨g,wL,cur,h,h0,ad,ag,ay,_⟩
   ·exact Nat.zero_le _
   ·cases h;exact ay
  have ag:=N3 (P:=P) (w:=w) (ty:=ty) (a:=a) (b:=w5) (c:=c) aL ai hle;cases ag.symm.trans ao;exact λj h=> .inl h
 ·cases w5 with
  |none=>exact absurd (yf rfl) hm
  |some hc=>
   have hlen:=rj al lx;have ad:∀u∈lx.flatMap enc,u.oneCell'=true:=λu hu=>by
    obtain⟨y,_,bE⟩:=List.mem_flatMap.1 hu;exact kb y u bE
   by_cases ar:eP v=none
   ·rcases cM with ⟨a,rfl,rfl⟩|⟨g,cap,cur,rfl,h0,_⟩
    ·have e0:(Builtin.append_ #[t,t] ty #[.slice a 0 0,.slice (some hc) lx.length c]).run P w=(Builtin.append_ #[t,t] ty #[.slice none 0 0,.slice (some hc) lx.length c]).run P w:=by
      cases a with
      |none=>rfl
      |some a=>
       subst gL;subst jU;have N5:lx.length<=9223372036854775807:=by simp only [maxLen,List.length_nil] at iS;omega
       have tU:0<lx.length:=List.length_pos_iff.2 hm;have cO:=run_append_nil (P:=P) w t ty e i z aL ai bU hc lx.length c _ hlen (ki hc rfl) aj aj (by have af:=lN;simp only [List.length_nil,Nat.zero_add] at af;omega);have dx:=run_append_grow (P:=P) w t ty e i z aL ai bU a 0 0 [] (by simp) (λj u h=>by simp at h) hc lx.length c _ hlen (ki hc rfl) aj aj (growslice_fits aj (by have af:=lN;simp only [List.length_nil] at af;exact af));rw[cO,dx];simp
     have av:=N4 aL ai bU gL jU mf hY (World.ownsRow_nil w B e k) hc lx.length c hlen (ki hc rfl) ad iS lN (e0.symm.trans ao);intro j hj;rcases av j (A9 hj) with h|h
     ·cases h
     ·exact .inr h
    ·exact absurd ar (by rw[nX _ _ h0];simp)
   ·have heq:eP v=v.ownBlock:=by
     cases h:eP v with
     |none=>exact absurd h ar
     |some i=>exact A9 h.symm
    have av:=N4 aL ai bU gL jU mf hY (cM.row al ar hw) hc lx.length c hlen (ki hc rfl) ad iS lN ao;intro j hj;rw[heq];exact av j (A9 hj)
theorem VX [cS] {α:Type} {P:aR} {N B:Nat} {w0:ax} {Q:Exit->Act->ax->Prop} {M:Mem} {bq:List J} {o:Option bY} {t e:aK} {k bytes:Nat} {i:TypeInfo} {z vs lC eO:J} {enc:α->List J} {l lx l':List α} {bj:Option Addr->Nat->List J} {eb dI:aF} {aZ:List bu} {bL:eE}
  (fL:l'=l++lx) (h:p0 t o=some (vs,lC)) (aL:P.underlying t=some (.slice e)) (ai:P.info? e=some i) (bU:i.zero=some z) (gL:i.size=k) (jU:i.bytes=bytes) (mf:z.cells.size=k) (hY:0<k) (al:∀x,(enc x).length=k) (kb:∀x,∀u∈enc x,u.oneCell'=true)
  (dd:cp (b7 o) eb aZ=some bL) (eL:gZ N eb (ka o) eO=some dI) (fB:aM eO=true) (T:Option Nat)
  (cM:∀φ w v,@b0 (aW M bq) φ (b7 o).A w-> @aD (aW M bq) φ vs v->dw B M e k enc v l/\eP v=T)
  (jV:∀φ w x,@b0 (aW M bq) φ (b7 o).A w-> @aD (aW M bq) φ lC x->r9 w k enc x lx)
  (iS:l.length+lx.length<=maxLen) (lN:(l.length+lx.length)*bytes<=140737488355328)
  (hm:∀M' a c,fP (aW M bq) (aW M' (bj a c)) bL) (aC:∀M' a c,@aJ (aW M' (bj a c)) eO= .slice a l'.length c)
  (rest:∀M' a c,dw B M' e k enc (.slice a l'.length c) l'->h7 M M' T->(∀i,some i=T->B<=i)->(∀i,some i=eP (.slice a l'.length c)->some i=T\/M i=none)->∀a7 w,@Here (aW M' (bj a c)) _ N {sl:=dI,ms:=[],A:=c6 aZ} B w0 a7 w->wpListIn (Fr none) 0 P (kI o) (dY P (gA o) Q) (kH o) a7 w)
  (av:cS.eu<=aZ.length:=by first|exact Nat.zero_le _|exact gG rfl) (ar:iy (b7 o).A aZ 0:=by exact gX rfl): @fy (aW M bq) _ P N B w0 Q o:=by
 subst fL;letI:=aW M bq;unfold p0 at h;split at h
 ·rename_i op r ops s ks
  refine⟨_,rfl,λa w ah=> ?_⟩;split at h
  ·rename_i c cy
   split at h
   ·rename_i nF hd pS gK
    cases hty:decide (c.argTypes= #[t,t]) with
    |false=>rw[hty] at h;cases h
    |true=>
     rw[hty,bD] at h;have yg:c.argTypes= #[t,t]:=of_decide_eq_true hty;split at h
     ·rename_i jK
      cases h;have hE:=ah;obtain⟨⟨φ,ds,ad,ag,ay,bG,_⟩,cE,cR⟩:=ah;unfold wpListIn;rw[pv ag.get jK,aY rfl];have es:=gV (iG φ) ag.get nF;have ex:=gV (iG φ) ag.get hd;obtain⟨Jt,eA⟩:=cM φ w _ ay es;subst eA;have hw:∀i o,M i=some o->w.heap[i]? =some o:=hE.nW;obtain⟨aB,w',M',g1,g2,g3,g4⟩:=N6 (ty:=op.type) aL ai bU gL jU mf hY al kb Jt (jV φ w _ ay ex) hw cR iS lN;have zc:=VW aL ai bU gL jU mf hY al kb Jt (jV φ w _ ay ex) hw iS lN g1;have fw:(execOp a.eval op).run P w= .ok (.value aB) w':=by
       unfold execOp resolve;rw[cy];simp only [pS,gK,yg,List.map_toArray,List.map_cons,List.map_nil];show (do pure (Next.value (<-Builtin.append_ #[t,t] op.type #[a.eval nF,a.eval hd])):Sem Next).run P w=_;simp only [Sem.run_bind,g1,Result.andThen_ok];rfl
      have fz:∀c',op.op≠.defer c':=λc' h=>by rw[cy] at h;cases h
      refine⟨λ_ _=>trivial,?_⟩;rw[Oper.semAt_eq _ _ _ fz,fw,Oper.uponIn_value];obtain⟨a7,c',rfl⟩:=g2.slice;have hS:=Here.turns (vals':=bj a7 c') dd (hm M' a7 c') g3 av ar hE;letI:=aW M' (bj a7 c');have lT:=Here.put (d:=op.dst) hS fB eL;rw[aC M' a7 c'] at lT;exact rest M' a7 c' g2 g4 (λi ai=>(g3.known i ai).2) (λi ai=>(zc i ai).imp id λaw=>by
       cases bt:M i with
       |none=>rfl
       |some o=>
        have:=(Array.getElem?_eq_some_iff.1 (hw i o bt)).1
        omega) _ w' lT
     ·cases h
   ·cases h
  ·cases h
 ·cases h
end AE
end Go.Proofs.YtepcfjbfkedlpaaDoor
namespace Go.Proofs.YtepcfjbfkedlpaaDoor
open Go Go.RowKit
namespace AE
abbrev fF:=List UInt8
def cw (l:fF):J:= .string ⟨l.toArray⟩
variable [a1]
section
variable {P:aR}
omit [a1] in
theorem N' (l:fF):(⟨l.toArray⟩:ByteArray).size=l.length:=by simp [ByteArray.size]
theorem Dw {f:gd} {r:J} (aQ:oq f=true) (ao:aM r=true) (av:CU f=false) (h:∀d_ ea w,ot w->(gk d_ ea (xV f)).run P w= .ok (.value (aJ r)) w):aT P (f,r):=by
 refine⟨aQ,ao,?_⟩;simp only [av];exact h
theorem Jy {f:gd} {r:J} (aQ:oq f=true) (ao:aM r=true) (av:CU f=true) (h:∀d_ ea w,(gk d_ ea (xV f)).run P w= .ok (.value (aJ r)) w):aT P (f,r):=by
 refine⟨aQ,ao,?_⟩;simp only [av];exact h
theorem aT.d' {x:J} {b:Bool} (aq:aM x=true) (h:aJ x= .bool b):aT P (.d' x,.bool b):=by
 refine⟨aq,rfl,?_⟩;show ∀d_ ea w,(gk d_ ea (.d' (aJ x))).run P w=_;intro d_ ea w;rw[h];rfl
theorem aT.zF {t ty:aK} {x r:J} {l:fF} (aq:aM x=true) (ao:aM r=true) (aL:P.underlying t=some .string) (ex:aJ x=cw l) (b9:aJ r= .int .i64 l.length):aT P (.len #[t] ty x,r):=by
 refine Jy aq ao rfl λd_ ea w=> ?_
 show (gk d_ ea (.len #[t] ty (aJ x))).run P w=_;rw[ex,b9];unfold gk cw;simp only [Sem.run_bind,run_len_string w t ty _ aL,Result.andThen_ok,N'];rfl
theorem aT.Bc {t:aK} {x i r:J} {l:fF} {j:Nat} {k:IntKind} (hj:j<l.length) (aq:aM x=true) (ai:aM i=true) (ao:aM r=true) (aL:P.underlying t=some .string) (ex:aJ x=cw l) (hB:aJ i= .int k j)
  (b9:aJ r= .int .u8 ((l.getD j 0).toNat:Nat)):aT P (.fX t x i,r):=by
 refine Dw (by simp [oq,aq,ai]) ao rfl λd_ ea w _=> ?_
 show (gk d_ ea (.fX t (aJ x) (aJ i))).run P w=_;rw[ex,hB,b9];unfold gk cw;have ah:(0:Int)<=(j:Int)/\(j:Int)<((⟨l.toArray⟩:ByteArray).size:Nat):=⟨aj,by rw[N'];omega⟩;simp only [Sem.run_bind,run_index_string w t _ k _ aL,dif_pos ah,Result.andThen_ok,Int.toNat_natCast];have:((⟨l.toArray⟩:ByteArray)[j]'(by rw[N'];exact hj))=l.getD j 0:=by
  rw[dp,f_ hj];rfl
 rw[this];rfl
omit [a1] in
theorem VY (t:aK) (op:BinOp) (cy:op= .eql\/op= .neq) (l m:fF) (d_ ea:Operand) (w:ax):(gk d_ ea (.bin op t (cw l) (cw m))).run P w= .ok (.value (.bool (if op= .eql then decide (l=m) else !decide (l=m)))) w:=by
 unfold gk cw;rcases cy with rfl|rfl
 ·simp [eqGuard,binOp,Op.stringOp]
  rw[Bool.eq_iff_iff];simp
 ·simp [eqGuard,binOp,Op.stringOp]
  rw[Bool.eq_iff_iff];simp
theorem aT.Bd {t:aK} {x y:J} {l m:fF} (aq:aM x=true) (bE:aM y=true) (ex:aJ x=cw l) (hK:aJ y=cw m) (h:l=m):aT P (.bin .neq t x y,.bool false):=
 uy aq bE rfl ex hK λd_ ea w=>by rw[VY t .neq (.inr rfl) l m,a' (by simp),eH h];rfl
theorem aT.nY {t:aK} {x y:J} {l m:fF} (aq:aM x=true) (bE:aM y=true) (ex:aJ x=cw l) (hK:aJ y=cw m) (h:¬l=m):aT P (.bin .neq t x y,.bool true):=
 uy aq bE rfl ex hK λd_ ea w=>by rw[VY t .neq (.inr rfl) l m,a' (by simp),cx h];rfl
theorem aT.Fx {s d:aK} {x r:J} {k k':IntKind} {n:Int} (aq:aM x=true) (ao:aM r=true) (aw:(P.underlying s).isSome=true) (bc:P.underlying d=some (.int (P.intKind d))) (al:P.intKind d=k') (hw:k'.wrap n=n) (ex:aJ x= .int k n) (b9:aJ r= .int k' n):aT P (.conv s d x,r):=by
 refine Dw aq ao rfl λd_ ea w _=> ?_
 show (gk d_ ea (.conv s d (aJ x))).run P w=_;rw[ex,b9];unfold gk;simp only [Sem.run_bind,run_convert_int w s d k n aw bc,Result.andThen_ok,al,hw];rfl
omit [a1] in
theorem VZ {t:aK} (aL:P.underlying t=some .bool) (op:BinOp) (cy:op= .eql\/op= .neq) (l m:Bool) (d_ ea:Operand) (w:ax):(gk d_ ea (.bin op t (.bool l) (.bool m))).run P w= .ok (.value (.bool (if op= .eql then l==m else !(l==m)))) w:=by
 unfold gk;rcases cy with rfl|rfl
 ·simp [eqGuard,binOp,Op.equal,Op.maxDepth,run_equalIn_bool w 9999 t _ _ aL]
 ·simp [eqGuard,binOp,Op.equal,Op.maxDepth,run_equalIn_bool w 9999 t _ _ aL]
theorem aT.Fy {t:aK} {x y:J} {l m r:Bool} (aL:P.underlying t=some .bool) (aq:aM x=true) (bE:aM y=true) (ex:aJ x= .bool l) (hK:aJ y= .bool m) (h:r=(l==m)):aT P (.bin .eql t x y,.bool r):=
 uy aq bE rfl ex hK λd_ ea w=>by rw[VZ aL .eql (.inl rfl) l m,aY rfl,h];rfl
theorem aT.afk {t:aK} {x y:J} {l m r:Bool} (aL:P.underlying t=some .bool) (aq:aM x=true) (bE:aM y=true) (ex:aJ x= .bool l) (hK:aJ y= .bool m) (h:r= !(l==m)):aT P (.bin .neq t x y,.bool r):=
 uy aq bE rfl ex hK λd_ ea w=>by rw[VZ aL .neq (.inr rfl) l m,a' (by simp),h];rfl
theorem aT.N_ {x:J} {l r:Bool} (aq:aM x=true) (ex:aJ x= .bool l) (h:r= !l):aT P (.un .not x,.bool r):=by
 refine⟨aq,rfl,?_⟩;show ∀d_ ea w,(gk d_ ea (.un .not (aJ x))).run P w=_;intro d_ ea w;rw[ex,h];rfl
theorem aT.afl {α:Type} {k:Nat} {enc:α->List J} {v:J} {l:List α} (h:cF a1.dq k enc v l) {t:aK} {p r:J} {i o j n:Nat} {x:α} {us:List J} (ai:l[i]? =some x) (hp:aM p=true) (ao:aM r=true)
  (ha:bg P (isAgg t)=some true) (av:bg P (sizeOf t)=some n) (ho:o=i*k+j) (hl:us.length=n) (hu:∀q u,us[q]? =some u->(enc x)[j+q]? =some u) (ex:aJ p=hb v o) (b9:aJ r= .agg ⟨us⟩):aT P (.bA t p,r):=by
 obtain⟨b,off,c,cs,ty,fr,rfl,af,ar⟩:=h.at' ai;refine aT.bA (b:=b) (o:=off+o) (l:=us) hp ao ha av ex hl (λw hw q u bb=> ?_) b9;have ad:=hw b _ af;have ag:=ar (j+q) u (hu q u bb);show w.cell? ⟨b,off+o+q,none⟩=some u;rw[show off+o+q=off+i*k+(j+q) by omega];unfold World.cell?;simp only [ad];exact ag
theorem aT.V0 {t e:aK} {x i r:J} {g o n a_:Nat} {j:Nat} {k:IntKind} (aq:aM x=true) (ai:aM i=true) (ao:aM r=true) (aL:P.underlying t=some (.array n e)) (cr:bg P (sizeOf e)=some a_)
  (ex:aJ x= .pointer (some ⟨g,o,none⟩)) (hB:aJ i= .int k j) (hj:j<n) (b9:aJ r= .pointer (some ⟨g,o+j*a_,none⟩)):aT P (.dG t x i,r):=by
 refine Jy (by simp [oq,aq,ai]) ao rfl λd_ ea w=> ?_
 show (gk d_ ea (.dG t (aJ x) (aJ i))).run P w=_;rw[ex,hB];unfold gk;have:(Instr.indexAt t (.pointer (some ⟨g,o,none⟩)) (.int k j)).run P w= .ok (.pointer (some ⟨g,o+j*a_,none⟩)) w:=by
  have h0:(Instr.sureAddr (.pointer (some ⟨g,o,none⟩))).run P w= .ok (⟨g,o,none⟩:Addr) w:=rfl;simp [Instr.indexAt,run_underlying aL,asIntOf,hj,h0,jz cr w,Addr.kr]
 simp only [Sem.run_bind,this,Result.andThen_ok,b9];rfl
theorem aT.afm {t e:aK} {x i r v:J} {n m j o o':Nat} {hD:IntKind} (aq:aM x=true) (ai:aM i=true) (ao:aM r=true) (aL:P.underlying t=some (.array n e)) (cr:bg P (sizeOf e)=some m)
  (aC:∃b off n c,v= .slice (some ⟨b,off,none⟩) n c) (hj:j<n) (ho:o'=o+j*m) (ex:aJ x=hb v o) (hB:aJ i= .int hD j) (b9:aJ r=hb v o'):aT P (.dG t x i,r):=by
 obtain⟨b,off,ga,c,rfl⟩:=aC;exact aT.V0 (g:=b) (o:=off+o) aq ai ao aL cr ex hB hj (by rw[b9,ho];simp [hb,cellAt,Nat.add_assoc])
theorem aT.afn {t e:aK} {x r:J} {g o n a_:Nat} (aq:aM x=true) (ao:aM r=true) (aL:P.underlying t=some (.array n e)) (cr:bg P (sizeOf e)=some a_)
  (ex:aJ x= .pointer (some ⟨g,o,none⟩)) (av:0<n) (b9:aJ r= .slice (some ⟨g,o,none⟩) n n):aT P (.mb t x none none none,r):=by
 refine Dw (by simp [oq,plainO,aq]) ao rfl λd_ ea w _=> ?_
 show (gk d_ ea (.mb t (aJ x) none none none)).run P w=_;rw[ex];unfold gk;have:(Instr.sliceAt t (.pointer (some ⟨g,o,none⟩)) none none none).run P w= .ok (.slice (some ⟨g,o,none⟩) n n) w:=by
  have h0:(Instr.sureAddr (.pointer (some ⟨g,o,none⟩))).run P w= .ok (⟨g,o,none⟩:Addr) w:=rfl;unfold Instr.sliceAt;simp only [Sem.run_bind,run_underlying aL,Result.andThen_ok,h0];have cW:n≠0:=by omega
  simp [Instr.sliceBounds,jz cr w,cW];rfl
 simp only [Sem.run_bind,this,Result.andThen_ok,b9];rfl
section
omit [a1]
def Fz (P:aR) (f:aK->J->J->Option Bool) (xs ys:Array J):List Field->Option Bool
 |[]=>some true
 |iv::r=>bif iv.name== "_" then Fz P f xs ys r else
  match bg P (part iv.type xs iv.offset),bg P (part iv.type ys iv.offset) with
  |some a,some b=>match f iv.type a b,Fz P f xs ys r with
   |some p,some q=>some (p&&q)
   |_,_=>none
  |_,_=>none
def Jz (P:aR) (f:aK->J->J->Option Bool) (e:aK) (c:Nat) (xs ys:Array J):List Nat->Option Bool
 |[]=>some true
 |i::r=>match bg P (part e xs (i*c)),bg P (part e ys (i*c)) with
  |some a,some b=>match f e a b,Jz P f e c xs ys r with
   |some p,some q=>some (p&&q)
   |_,_=>none
  |_,_=>none
def r' (P:aR):Nat->aK->J->J->Option Bool
 |0,_,_,_=>none
 |d+1,t,x,y=>match P.underlying t with
  |some .bool=>match x,y with
   | .bool a,.bool b=>some (a==b)
   |_,_=>none
  |some (.int _)=>match x,y with
   | .int k a,.int k' b=>bif decide (k=k') then some (a==b) else none
   |_,_=>none
  |some .string=>match x,y with
   | .string a,.string b=>some (a.data.toList==b.data.toList)
   |_,_=>none
  |some (.struct _)=>match x,y with
   | .agg xs,.agg ys=>bif P.stoodInHeld t then none else Fz P (r' P d) xs ys (P.fieldsOf t).toList
   |_,_=>none
  |some (.array n e)=>match x,y with
   | .agg xs,.agg ys=>match P.info? e with
     |some _=>Jz P (r' P d) e (P.cellsOf e) xs ys (List.range n)
     |none=>none
   |_,_=>none
  |_=>none
theorem Oa {d:Nat} (cz:∀t x y b,r' P d t x y=some b->∀w,(Op.equalIn d t x y).run P w= .ok b w) {xs ys:Array J}:∀(l:List Field) (b:Bool),Fz P (r' P d) xs ys l=some b->∀w,(Op.eqFields d xs ys l).run P w= .ok b w
 |[],b,h,w=>by cases h;rfl
 |iv::r,b,h,w=>by
  unfold Fz at h;unfold Op.eqFields;by_cases av:iv.name= "_"
  ·rw[show (iv.name== "_")=true by simpa using av,bD] at h
   rw[a' (λah=>ah av)];exact Oa cz r b h w
  ·rw[show (iv.name== "_")=false by simpa using av,eB] at h
   rw[aY av];split at h
   ·rename_i a c ha ar
    split at h
    ·rename_i p q hp bb
     cases h;simp only [Sem.run_bind,jz ha,jz ar,cz _ _ _ _ hp,Result.andThen_ok];cases p with
     |true=>simpa using Oa cz r q bb w
     |false=>rfl
    ·cases h
   ·cases h
theorem V1 {d:Nat} (cz:∀t x y b,r' P d t x y=some b->∀w,(Op.equalIn d t x y).run P w= .ok b w) {e:aK} {c:Nat} {xs ys:Array J}:∀(l:List Nat) (b:Bool),Jz P (r' P d) e c xs ys l=some b->∀w,(Op.eqItems d e c xs ys l).run P w= .ok b w
 |[],b,h,w=>by cases h;rfl
 |i::r,b,h,w=>by
  unfold Jz at h;unfold Op.eqItems;split at h
  ·rename_i a c ha ar
   split at h
   ·rename_i p q hp bb
    cases h;simp only [Sem.run_bind,jz ha,jz ar,cz _ _ _ _ hp,Result.andThen_ok];cases p with
    |true=>simpa using V1 cz r q bb w
    |false=>rfl
   ·cases h
  ·cases h
theorem JA:∀(d:Nat) (t:aK) (x y:J) (b:Bool),r' P d t x y=some b->∀w,(Op.equalIn d t x y).run P w= .ok b w
 |0,_,_,_,_,h,_=>by cases h
 |d+1,t,x,y,b,h,w=>by
  unfold r' at h;split at h
  ·rename_i hu
   split at h
   ·cases h;exact run_equalIn_bool' w d t _ _ hu
   ·cases h
  ·rename_i ey hu
   split at h
   ·rename_i k a k' b'
    by_cases al:k=k'
    ·subst al
     simp only [decide_true,bD,cN] at h;subst h;exact run_equalIn_int w d t k ey a b' hu
    ·rw[cx al,eB] at h
     cases h
   ·cases h
  ·rename_i hu
   split at h
   ·rename_i a c
    cases h;rw[run_equalIn_string w d t _ _ hu,ByteArray.toList_eq,ByteArray.toList_eq]
   ·cases h
  ·rename_i fs hu
   split at h
   ·rename_i xs ys
    cases aw:P.stoodInHeld t with
    |true=>rw[aw] at h;cases h
    |false=>
     rw[aw,eB] at h;have afo:P.underlying t=some (.struct (P.fieldsOf t)):=by unfold Program.fieldsOf;rw[hu]
     rw[run_equalIn_struct w d t xs ys afo aw];exact Oa (λt x y b h=>JA d t x y b h) _ b h w
   ·cases h
  ·rename_i n e hu
   split at h
   ·rename_i xs ys
    split at h
    ·rename_i i ai
     rw[run_equalIn_array (w:=w) d xs ys hu ai];exact V1 (λt x y b h=>JA d t x y b h) _ b h w
    ·cases h
   ·cases h
  ·cases h
end
theorem aT.zo {t:aK} {x y:J} {xs ys:Array J} {b:Bool} (aA:P.eqGuardType P.depth t=false) (aq:aM x=true) (bE:aM y=true) (ex:aJ x= .agg xs) (hK:aJ y= .agg ys) (h:r' P 10000 t (.agg xs) (.agg ys)=some b):aT P (.bin .eql t x y,.bool b):=
 uy aq bE rfl ex hK λd_ ea w=>by
  unfold gk;simp only [Sem.run_bind,run_eqGuard_agg w .eql t d_ ea xs ys aA,Result.andThen_ok,run_eql_struct,JA 10000 t _ _ b h w];rfl
theorem aT.JB {t:aK} {x y:J} {xs ys:Array J} {b:Bool} (aA:P.eqGuardType P.depth t=false) (aq:aM x=true) (bE:aM y=true) (ex:aJ x= .agg xs) (hK:aJ y= .agg ys) (h:r' P 10000 t (.agg xs) (.agg ys)=some b):aT P (.bin .neq t x y,.bool (!b)):=
 uy aq bE rfl ex hK λd_ ea w=>by
  unfold gk;simp only [Sem.run_bind,run_eqGuard_agg w .neq t d_ ea xs ys aA,Result.andThen_ok,run_neq_struct,JA 10000 t _ _ b h w];rfl
end
end AE
end Go.Proofs.YtepcfjbfkedlpaaDoor
namespace Go.Proofs.YtepcfjbfkedlpaaDoor
open Go Go.Proofs Go.RowKit
namespace AE
theorem afp {p:Prop} [Decidable p] (h:p):Value.bool true= .bool (decide p):=by rw[eH h]
theorem afq {p:Prop} [Decidable p] (h:¬p):Value.bool false= .bool (decide p):=by rw[cx h]
theorem afr {p:Prop} [Decidable p] (h:¬p):Value.bool true= .bool (!decide p):=by rw[cx h];rfl
theorem afs {p:Prop} [Decidable p] (h:p):Value.bool false= .bool (!decide p):=by rw[eH h];rfl
theorem mh {a b:Int} (h:a=b) (ad: -9223372036854775808<=a) (ag:a<=9223372036854775807):Value.int .i64 a= .int .i64 (IntKind.i64.wrap b):=by rw[<-h,wrap64 ad ag]
theorem FA {a:Int} (h:0<=a):Value.int .i64 a= .int .i64 ((a.toNat:Nat):Int):=by rw[Int.toNat_of_nonneg h]
theorem FB {α:Type} [Inhabited α] {l:List α} {i:Nat} (h:i<l.length):l[i]? =some (l.getD i default):=by rw[dp,f_ h];rfl
theorem uz:bg Tryd.prog (sizeOf 3)=some 1:=au
theorem vy:bg Tryd.prog (isAgg 3)=some false:=au
theorem JC:bg Tryd.prog (isAgg 4)=some false:=au
theorem V2:bg Tryd.prog (isAgg 9)=some false:=au
theorem aft:bg Tryd.prog (sizeOf 9)=some 1:=au
theorem rk:Tryd.prog.underlying 9=some .string:=au
theorem JD:Tryd.prog.underlying 4=some .bool:=au
abbrev kJ:aK:=3
theorem iA:Tryd.prog.underlying 26=some (.slice kJ):=au
noncomputable def JE:TypeInfo:=(Tryd.prog.info? kJ).getD default
theorem JF:Tryd.prog.info? kJ=some JE:=au
theorem JG:JE.zero=some (.int .i64 0):=au
theorem JH:JE.size=1:=au
abbrev yk:Nat:=8
theorem JI:JE.bytes=yk:=au
theorem JJ:(Value.int .i64 0).cells.size=1:=rfl
def gf (n:Int):List J:=[.int .i64 n]
theorem kk:∀x,(gf x).length=1:=λ_=>rfl
theorem JK:∀x,∀u∈gf x,u.oneCell'=true:=λx u hu=>by
 simp only [gf,List.mem_cons,List.not_mem_nil,or_false] at hu;subst hu;rfl
abbrev cU:=fF×Bool×Bool×Bool×Int×Int×Int×Int
instance aoG:DecidableEq (Bool×Bool×Bool×Int×Int×Int×Int):=λp q=>decidable_of_iff (p.1=q.1/\p.2.1=q.2.1/\p.2.2=q.2.2) ⟨λh=>Prod.ext h.1 (Prod.ext h.2.1 h.2.2),λh=>by subst h;exact⟨rfl,rfl,rfl⟩⟩
instance aoH:DecidableEq cU:=λp q=>decidable_of_iff (p.1=q.1/\p.2=q.2) ⟨λh=>Prod.ext h.1 h.2,λh=>by subst h;exact⟨rfl,rfl⟩⟩
def jB (x:cU):List J:=[cw x.1,.bool x.2.1,.bool x.2.2.1,.bool x.2.2.2.1,.int .i64 x.2.2.2.2.1,.int .i64 x.2.2.2.2.2.1,.int .i64 x.2.2.2.2.2.2.1,.int .i64 x.2.2.2.2.2.2.2]
abbrev M.val (x:cU):J:= .agg ⟨jB x⟩
abbrev ox:aK:=70
theorem qG:bg Tryd.prog (sizeOf ox)=some 8:=au
theorem Be:bg Tryd.prog (isAgg ox)=some true:=au
theorem lU:Tryd.prog.underlying 29=some (.slice ox):=au
theorem afu:bg Tryd.prog (underlying ox)=some (.struct (Tryd.prog.fieldsOf ox)):=au
noncomputable def JL:TypeInfo:=(Tryd.prog.info? ox).getD default
theorem afv:Tryd.prog.info? ox=some JL:=au
theorem afw:JL.zero=some (.agg ⟨[cw [],.bool false,.bool false,.bool false,.int .i64 0,.int .i64 0,.int .i64 0,.int .i64 0]⟩):=au
theorem afx:JL.size=8:=au
abbrev Ob:Nat:=56
theorem afy:JL.bytes=Ob:=au
theorem afz:(Value.agg ⟨[cw [],.bool false,.bool false,.bool false,.int .i64 0,.int .i64 0,.int .i64 0,.int .i64 0]⟩).cells.size=8:=rfl
theorem JM:∀x,(jB x).length=8:=λ_=>rfl
theorem afA:∀x,∀u∈jB x,u.oneCell'=true:=λx u hu=>by
 simp only [jB,List.mem_cons,List.not_mem_nil,or_false] at hu;rcases hu with rfl|rfl|rfl|rfl|rfl|rfl|rfl|rfl<;>rfl
section
variable [a1]
theorem Oc {α:Type} {k:Nat} {enc:α->List J} {v:J} {l:List α} (h:cF a1.dq k enc v l) {n:Nat} (av:n<l.length):∃b off n c,v= .slice (some ⟨b,off,none⟩) n c:=by
 obtain⟨b,off,c,_,_,_,aC,_⟩:=h.at' (f_ av);exact⟨b,off,_,c,aC⟩
theorem afB {P:aR} {α:Type} {k:Nat} {enc:α->List J} {v:J} {l:List α} {s:aK} {f m off ty:Nat} (aw:bg P (underlying s)=some (.struct (P.fieldsOf s))) (aQ:((P.fieldsOf s)[f]?).map (λf=>(f.type,f.offset))=some (ty,off)) (hm:bg P (sizeOf ty)=some m) (h0:m≠0)
  (h:cF a1.dq k enc v l) {n:Nat} (av:n<l.length) {x r:J} {o:Nat} (aq:aM x=true) (ao:aM r=true) (ex:aJ x=hb v o) (b9:aJ r=hb v (o+off)):aT P (.cn s x f,r):=by
 rw[xD] at aQ;obtain⟨iv,ad,ag⟩:=aQ;cases ag;exact aT.VH aq ao aw ad hm h0 (Oc h av) rfl ex b9
variable {α:Type} {k:Nat} {enc:α->List J} {v:J} {l:List α} {n o:Nat} {x r:J}
theorem V3 (h:cF a1.dq k enc v l) (av:n<l.length) (aq:aM x=true) (ao:aM r=true) (ex:aJ x=hb v o) (b9:aJ r=hb v (o+0)):aT Tryd.prog (.cn ox x 0,r):=afB (ty:=9) afu au aft cB h av aq ao ex b9
end
abbrev V4:=Int×Int×Int
def afC (x:V4):List J:=[.int .i64 x.1,.int .i64 x.2.1,.int .i64 x.2.2]
abbrev E.val (x:V4):J:= .agg ⟨afC x⟩
theorem afD (p q:cU):r' Tryd.prog 10000 ox (M.val p) (M.val q)=some (p.1==q.1&&(p.2.1==q.2.1&&(p.2.2.1==q.2.2.1&&(p.2.2.2.1==q.2.2.2.1&&(p.2.2.2.2.1==q.2.2.2.2.1&&((p.2.2.2.2.2.1==q.2.2.2.2.2.1&&(p.2.2.2.2.2.2.1==q.2.2.2.2.2.2.1&&(p.2.2.2.2.2.2.2==q.2.2.2.2.2.2.2&&true)))&&true)))))):=au
theorem afE:Tryd.prog.eqGuardType Tryd.prog.depth ox=false:=au
theorem afF (p q:cU):(p.1==q.1&&(p.2.1==q.2.1&&(p.2.2.1==q.2.2.1&&(p.2.2.2.1==q.2.2.2.1&&(p.2.2.2.2.1==q.2.2.2.2.1&&((p.2.2.2.2.2.1==q.2.2.2.2.2.1&&(p.2.2.2.2.2.2.1==q.2.2.2.2.2.2.1&&(p.2.2.2.2.2.2.2==q.2.2.2.2.2.2.2&&true)))&&true))))))=decide (p=q):=by
 obtain⟨a,b,c,d,e,f,g,h⟩:=p;obtain⟨a7,b',c',oi,e',ij,afG,fu⟩:=q;rw[Bool.eq_iff_iff];simp
section
variable [a1]
theorem V5 {x y:J} {p q:cU} (aq:aM x=true) (bE:aM y=true) (ex:aJ x=M.val p) (hK:aJ y=M.val q) {d:Bool} (bc:d= !decide (p=q)):aT Tryd.prog (.bin .neq ox x y,.bool d):=by
 subst bc;exact aT.JB afE aq bE ex hK ((afD p q).trans (by rw[afF]))
theorem Dx {P:aR} {x:J} {t:Bool} (aq:aM x=true) (ex:aJ x= .bool t) (h:t=true):aT P (.d' x,.bool true):=aT.d' aq (by rw[ex,h])
theorem Od {P:aR} {x:J} {t:Bool} (aq:aM x=true) (ex:aJ x= .bool t) (h:¬t=true):aT P (.d' x,.bool false):=aT.d' aq (by rw[ex,Bool.eq_false_iff.2 h])
theorem afH {P:aR} {x:J} {t:Bool} (aq:aM x=true) (ex:aJ x= .bool t) (h:t=true):aT P (.un .not x,.bool false):=aT.N_ aq ex (by rw[h];rfl)
theorem afI {P:aR} {x:J} {t:Bool} (aq:aM x=true) (ex:aJ x= .bool t) (h:¬t=true):aT P (.un .not x,.bool true):=aT.N_ aq ex (by rw[Bool.eq_false_iff.2 h];rfl)
variable {x y:J} {s t:Bool}
theorem Dy (aq:aM x=true) (bE:aM y=true) (ex:aJ x= .bool s) (hK:aJ y= .bool t) (h:s=true) (fu:t=true):aT Tryd.prog (.bin .eql 4 x y,.bool true):=aT.Fy JD aq bE ex hK (by rw[h,fu];rfl)
theorem JN (aq:aM x=true) (bE:aM y=true) (ex:aJ x= .bool s) (hK:aJ y= .bool t) (h:s=true) (fu:¬t=true):aT Tryd.prog (.bin .eql 4 x y,.bool false):=aT.Fy JD aq bE ex hK (by rw[h,Bool.eq_false_iff.2 fu];rfl)
theorem yl (aq:aM x=true) (bE:aM y=true) (ex:aJ x= .bool s) (hK:aJ y= .bool t) (h:¬s=true) (fu:t=true):aT Tryd.prog (.bin .eql 4 x y,.bool false):=aT.Fy JD aq bE ex hK (by rw[Bool.eq_false_iff.2 h,fu];rfl)
theorem vz (aq:aM x=true) (bE:aM y=true) (ex:aJ x= .bool s) (hK:aJ y= .bool t) (h:¬s=true) (fu:¬t=true):aT Tryd.prog (.bin .eql 4 x y,.bool true):=aT.Fy JD aq bE ex hK (by rw[Bool.eq_false_iff.2 h,Bool.eq_false_iff.2 fu];rfl)
end
def JO:List J:=[cw [103,97,115],.bool false,.bool false,.bool false,cw [115,111,108,105,100],.bool true,.bool false,.bool false,cw [102,97,108,108,105,110,103],.bool true,.bool false,.bool true,cw [108,105,113,117,105,100],.bool false,.bool true,.bool false]
def mF (M:Mem):Prop:=∃ty fr,M 0=some (.cells ⟨JO⟩ ty fr)
theorem mF.mono {M M':Mem} (h:mF M) (hm:∀i o,M i=some o->M' i=some o):mF M':=by
 obtain⟨ty,fr,h⟩:=h;exact⟨ty,fr,hm _ _ h⟩
section
variable [a1] {P:aR}
theorem afJ (cv:mF a1.dq) {w:ax} (hw:ot w) {o:Nat} {u:J} (hu:JO[o]? =some u):w.cell? ⟨0,o,none⟩=some u:=by
 obtain⟨ty,fr,h⟩:=cv;have:=hw _ _ h;unfold World.cell?;simp only [this];simpa using hu
theorem Bf (cv:mF a1.dq) {t:aK} {x r:J} {o n:Nat} {l:List J} (aq:aM x=true) (ao:aM r=true) (ha:bg P (isAgg t)=some true) (av:bg P (sizeOf t)=some n) (ex:aJ x= .pointer (some ⟨0,o,none⟩)) (b9:aJ r= .agg ⟨l⟩) (hl:(JO.drop o).take n=l) (lz:l.length=n):aT P (.bA t x,r):=
 aT.bA (b:=0) (o:=o) (l:=l) aq ao ha av ex lz (λw hw j u hj=>afJ cv hw (by
  rw[<-hl,List.getElem?_take] at hj;split at hj
  ·rwa [List.getElem?_drop] at hj
  ·cases hj)) b9
theorem kK {f:FuncId} {args:List J} {v:J} {a:Array J} {u:J} (hp:dL args=true) (aC:aM v=true) (ha:eo args=a.toList) (hu:aJ v=u)
  (h:∀w,ot w->Calls P f a w λe w'=>e= .returned u/\cg w.heap.size w w'):i_ P (f,args,v):=
 ⟨hp,aC,λw hw=>by show Calls P f ⟨eo args⟩ w _;rw[ha,hu];exact h w hw⟩
end
end AE
end Go.Proofs.YtepcfjbfkedlpaaDoor
namespace Go.Proofs.YtepcfjbfkedlpaaDoor
open Go Go.ChangeShapes Go.WideShapes Go.ChangeAt Go.RowKit
section
theorem own:ownKnob Tryd.prog.godebug=none:=au
theorem afK:laidOutB Tryd.prog=true:=au
theorem V6 {H:Type} {enc:aK×J->H} {P:aR} (hl:laidOutB P=true) {W W':ax} (af:Below W.heap.size W W'):∀(c0:List aK) (vs:List J) (ds:List (DataW H)) (ps:List MemPlace),
  c0.all (λt=>P.readableRec t&&decide (t<P.types.size))=true->DataW.TrodAll enc P W 0 (λ_=>true) true c0 vs ds ps->(∀x∈ps,x.block<W.heap.size)->DataW.TrodAll enc P W' 0 (λb=>decide (b<W.heap.size)) true c0 vs ds ps
 |[],[],[],ps,_,h,_=>h
 |t::c0,v::vs,d::ds,ps,aL,h,ck=>by
  obtain⟨p,q,ad,ag,rfl⟩:=h;simp only [List.all_cons,c7,decide_eq_true_eq] at aL;exact⟨p,q,Below.trod hl aL.1.1 aL.1.2 ad af (λx aq=>ck x (List.mem_append_left _ aq)),V6 hl af c0 vs ds q aL.2 ag λx aq=>ck x (List.mem_append_right _ aq),rfl⟩
 |[],_::_,_,_,_,h,_=>by cases h
 |[],[],_::_,_,_,h,_=>by cases h
 |_::_,[],_,_,_,h,_=>by cases h
 |_::_,_::_,[],_,_,h,_=>by cases h
theorem V7:Tryd.prog.cellsOf AE.ox=8:=au
theorem Dz:Tryd.prog.cellsOf 3=1:=au
theorem V8:Tryd.prog.cellsOf 9=1:=au
theorem Bg:Tryd.prog.cellsOf 4=1:=au
theorem afL:Tryd.prog.cellsOf 68=3:=au
abbrev FC:aK:=141
theorem V9:Tryd.prog.cellsOf FC=4:=au
theorem afM:Tryd.prog.cellsOf 151=16:=au
theorem Bh:Tryd.prog.underlying AE.ox=some (.struct (Tryd.prog.fieldsOf AE.ox)):=au
theorem FD:Tryd.prog.underlying FC=some (.struct (Tryd.prog.fieldsOf FC)):=au
section
variable {H:Type} {enc:aK×J->H} {W:ax} {r:Reach} {ct:Nat} {base:Nat} {oy:Nat->Bool} {oz:Bool} {v:J} {d:DataW H} {p:List MemPlace}
theorem p1 {P:aR} {t ty off k i n:Nat} {cs:List J} {x:DataW H×List MemPlace} (hu:P.underlying t=some (.struct (P.fieldsOf t))) (aQ:((P.fieldsOf t)[i]?).map (λf=>(f.type,f.offset))=some (ty,off)) (al:P.cellsOf ty=k)
  (h:DataW.trod enc P W base oy oz n t cs=some x):∃m y,DataW.trod enc P W base oy oz m ty ((cs.drop off).take k)=some y/\∀l,x.1= .agg l->l[i]? =some y.1:=by
 obtain⟨xs,m,_,ex,hlen,Bi,om⟩:=DataW.trod_struct hu h;rw[xD] at aQ;obtain⟨iv,ad,ag⟩:=aQ;cases ag;have cE:=om i iv ad;have ck:i<xs.length:=by rw[Bi];exact(Array.getElem?_eq_some_iff.1 ad).1
 rw[al,f_ ck] at cE;refine⟨m,_,cE,λl hl=> ?_⟩;rw[ex] at hl;injection hl with hl;rw[<-hl,List.getElem?_map,f_ ck];rfl
theorem V' (s:ByteArray):Value.string s=AE.cw s.data.toList:=by cases s;rfl
theorem afN {n:Nat} {cs:List J} {x:DataW H×List MemPlace} (h:DataW.trod enc Tryd.prog W base oy oz n FC cs=some x):cs.length=4:=by
 obtain⟨_,_,_,_,hlen,_,_⟩:=DataW.trod_struct FD h;rw[hlen,V9]
theorem JP {n:Nat} {cs:List J} {x:DataW H×List MemPlace} {s:List UInt8} {a b c:Bool} (h:DataW.trod enc Tryd.prog W base oy oz n FC cs=some x) (aq:x.1= .agg [.lit (.string s),.lit (.bool a),.lit (.bool b),.lit (.bool c)]):
  cs=[AE.cw s,.bool a,.bool b,.bool c]:=by
 have hlen:=afN h;obtain⟨_,vf,h0,eF⟩:=p1 (i:=0) (ty:=9) (off:=0) FD au V8 h;obtain⟨_,zw,ad,g1⟩:=p1 (i:=1) (ty:=4) (off:=1) FD au Bg h;obtain⟨_,Jj,ag,g2⟩:=p1 (i:=2) (ty:=4) (off:=2) FD au Bg h;obtain⟨_,afO,ay,g3⟩:=p1 (i:=3) (ty:=4) (off:=3) FD au Bg h;obtain⟨aN,e0,rfl,_⟩:=DataW.trod_string Tryd.underlying9 h0;obtain⟨s1,e1,rfl⟩:=DataW.trod_bool Tryd.underlying4 ad;obtain⟨s2,e2,rfl⟩:=DataW.trod_bool Tryd.underlying4 ag;obtain⟨r5,e3,rfl⟩:=DataW.trod_bool Tryd.underlying4 ay;have ey:=eF _ aq;have dg:=g1 _ aq;have k2:=g2 _ aq;have vA:=g3 _ aq;simp only [List.getElem?_cons_zero,List.getElem?_cons_succ,cN,DataW.lit.injEq,Lit.string.injEq,Lit.bool.injEq] at ey dg k2 vA;subst ey dg k2 vA
 match cs,hlen,e0,e1,e2,e3 with
 |[dC,hq,c2,c3],_,e0,e1,e2,e3=>
  simp only [List.drop_zero,List.drop_succ_cons,List.take_succ_cons,List.take_zero,List.cons.injEq,and_true] at e0 e1 e2 e3;rw[e0,e1,e2,e3,V']
theorem afP {n:Nat} {cs:List J} {x:DataW H×List MemPlace} (h:DataW.trod enc Tryd.prog W base oy oz n AE.ox cs=some x):∃s:AE.cU,cs=AE.jB s:=by
 have hlen:cs.length=8:=by
  obtain⟨_,_,_,_,hlen,_,_⟩:=DataW.trod_struct Bh h;rw[hlen,V7]
 obtain⟨_,vf,h0,_⟩:=p1 (i:=0) (ty:=9) (off:=0) Bh au V8 h;obtain⟨_,zw,ad,_⟩:=p1 (i:=1) (ty:=4) (off:=1) Bh au Bg h;obtain⟨_,Jj,ag,_⟩:=p1 (i:=2) (ty:=4) (off:=2) Bh au Bg h;obtain⟨_,afO,ay,_⟩:=p1 (i:=3) (ty:=4) (off:=3) Bh au Bg h;obtain⟨_,aoI,bG,_⟩:=p1 (i:=4) (ty:=3) (off:=4) Bh au Dz h;obtain⟨_,aoJ,cE,_⟩:=p1 (i:=5) (ty:=68) (off:=5) Bh au afL h;obtain⟨aN,e0,_⟩:=DataW.trod_string Tryd.underlying9 h0;obtain⟨s1,e1,_⟩:=DataW.trod_bool Tryd.underlying4 ad;obtain⟨s2,e2,_⟩:=DataW.trod_bool Tryd.underlying4 ag;obtain⟨r5,e3,_⟩:=DataW.trod_bool Tryd.underlying4 ay;obtain⟨ym,hA,_⟩:=DataW.trod_int Tryd.underlying3 bG;obtain⟨xs,m,_,_,Fe,Bi,aQ⟩:=DataW.trod_array Tryd.underlying68 cE;have ai:∀i,i<3->∃z:Int,(((cs.drop 5).take 3).drop i).take 1=[.int .i64 z]:=λi ay=>by
  have cR:=aQ i ay;rw[Dz,Nat.mul_one,f_ (show i<xs.length by omega)] at cR;obtain⟨z,e,_⟩:=DataW.trod_int Tryd.underlying3 cR;exact⟨z,e⟩
 obtain⟨z0,f0⟩:=ai 0 aj;obtain⟨FE,f1⟩:=ai 1 aj;obtain⟨z2,f2⟩:=ai 2 aj
 match cs,hlen,e0,e1,e2,e3,hA,f0,f1,f2 with
 |[dC,hq,c2,c3,rW,Jl,Jm,Jn],_,e0,e1,e2,e3,hA,f0,f1,f2=>
  simp only [List.drop_zero,List.drop_succ_cons,List.take_succ_cons,List.take_zero,List.cons.injEq,and_true] at e0 e1 e2 e3 hA f0 f1 f2;exact⟨(aN.data.toList,s1,s2,r5,ym,z0,FE,z2),by rw[e0,e1,e2,e3,hA,f0,f1,f2,V'];rfl⟩
theorem V_ (aC:Value.okWide Tryd.prog W r ct 3 v) (h:DataW.Trod enc Tryd.prog W base oy oz 3 v d p):∃n:Int,v= .int .i64 n:=by
 obtain⟨n,rfl⟩:=okWide_int Tryd.underlying3 aC;exact⟨n,rfl⟩
theorem afQ (aC:Value.okWide Tryd.prog W r ct 29 v) (h:DataW.Trod enc Tryd.prog W base oy oz 29 v d p):∃l:List AE.cU,AE.cF (AE.aG W) 8 AE.jB v l:=by
 obtain⟨a0,Bj,Bk,rfl⟩:=okWide_slice Tryd.underlying29 aC;obtain⟨bn,h⟩:=h;rcases Deep.open_slice Tryd.underlying29 h with ⟨fV,_⟩|⟨a,len,cap,m,n,zG,jn,fV,af,hl,hm,sN,aq,ai⟩
 ·have e:Value.slice a0 Bj Bk= .slice none 0 0:=(List.cons.inj (show [Value.slice a0 Bj Bk]=[.slice none 0 0] from fV)).1
  rw[e];exact⟨[],.nil _ _⟩
 ·have e:Value.slice a0 Bj Bk= .slice (some a) len cap:=(List.cons.inj (show [Value.slice a0 Bj Bk]=[.slice (some a) len cap] from fV)).1
  rw[e];have rX:len<=m:=by rw[sN];split<;>omega
  have Bl:∀i,i<len->∃s:AE.cU,∀j u,(AE.jB s)[j]? =some u->W.cell? (a.add (i*8+j))=some u:=λi p2=>by
   obtain⟨cs',ar,aL⟩:=ai i aj;rw[V7] at ar;obtain⟨s,rfl⟩:=afP aL;obtain⟨_,_,DA⟩:=World.cells?_some ar;refine⟨s,λj u hj=> ?_⟩;have Oe:j<8:=(List.getElem?_eq_some_iff.1 hj).1;rw[<-Deep.add_add,DA j Oe];exact hj
  let f:Nat->AE.cU:=λi=>if h:i<len then (Bl i h).choose else default
  have aQ:∀i,i<len->∀j u,(AE.jB (f i))[j]? =some u->W.cell? (a.add (i*8+j))=some u:=λi p2=>by
   show ∀j u,(AE.jB (if h:i<len then (Bl i h).choose else default))[j]? =some u->_;rw[dif_pos p2];exact(Bl i p2).choose_spec
  refine⟨(List.range len).map f,?_⟩;rcases Nat.eq_zero_or_pos len with h0|h0
  ·subst h0
   exact .nil _ _
  ·have nH:=aQ 0 h0 0 _ rfl
   obtain⟨bk,off,spot⟩:=a;have Og:∃cs ty fr,W.heap[bk]? =some (.cells cs ty fr)/\spot=none:=by
    unfold World.cell? at nH;split at nH
    ·rename_i hq t1 f1 l_
     split at nH
     ·cases nH
     ·rename_i jW
      refine⟨hq,t1,f1,l_,?_⟩;cases spot with
      |none=>rfl
      |some x=>exact absurd rfl jW
    ·cases nH
   obtain⟨cs,ty,fr,jR,rfl⟩:=Og;have hlen:((List.range len).map f).length=len:=by simp
   have key:AE.cF (AE.aG W) 8 AE.jB (.slice (some ⟨bk,off,none⟩) ((List.range len).map f).length cap) ((List.range len).map f):=by
    refine .mk (cs:=cs) (ty:=ty) (fr:=fr) jR (by rw[hlen];exact hl) λi x aq j u hj=> ?_
    have p2:i<len:=by
     have:=(List.getElem?_eq_some_iff.1 aq).1
     rwa [hlen] at this
    have Oh:x=f i:=by
     rw[List.getElem?_map,List.getElem?_range p2] at aq;exact(Option.some.inj aq).symm
    subst Oh;have:=aQ i p2 j u hj;rw[AE.Addr.kr,cell_of_row W _ _ _ _ _ jR,<-Nat.add_assoc] at this;exact this
   rw[hlen] at key;exact key
end
theorem afR {W:ax} {l:List (String×DataW Unit)} (h:laidMetH Tryd.prog l W) (hl:(l.filter λx=>x.1== "voxel/material.kinds")=[("voxel/material.kinds",Rows.laid_voxel_material_kinds)]):AE.mF (AE.aG W):=by
 have ad:=laidMetH.filter (λx=>x.1== "voxel/material.kinds") h;rw[hl,MakeChecks.laidMetH_plain _ _ _ au] at ad;obtain⟨ps,⟨g,t,cs,bn,p,q,aA,aL,aC,bc,_,_⟩,_,_⟩:=ad;obtain rfl:=Option.some.inj ((show Tryd.prog.globalNamed "voxel/material.kinds"=some 0 by kernel_rfl).symm.trans aA);obtain rfl:=Option.some.inj ((show (Tryd.prog.globals[0]?).map (·.type)=some 151 by kernel_rfl).symm.trans aL);obtain⟨xs,m,_,ex,hlen,Bi,aQ⟩:=DataW.trod_array Tryd.underlying151 bc;rw[afM] at hlen
 match xs,Bi with
 |[fO,eI,gQ,hf],_=>
  have e3:=DataW.agg.inj (Prod.mk.inj ex).1;simp only [List.map_cons,List.map_nil,List.cons.injEq,and_true] at e3;obtain⟨eF,g1,g2,g3⟩:=e3;have ey:=aQ 0 aj;have dg:=aQ 1 aj;have k2:=aQ 2 aj;have vA:=aQ 3 aj;rw[V9] at ey dg k2 vA;have e0:=JP ey eF.symm;have e1:=JP dg g1.symm;have e2:=JP k2 g2.symm;have e3:=JP vA g3.symm;have fV:cs.toList=AE.JO:=by
   match cs.toList,hlen,e0,e1,e2,e3 with
   |[a0,dZ,a2,a3,a4,TO,TP,TQ,aoK,a9,aa,ab,ac,hc,aoL,aoM],_,e0,e1,e2,e3=>
    simp only [Nat.zero_mul,Nat.one_mul,Nat.reduceMul,List.drop_zero,List.drop_succ_cons,List.take_succ_cons,List.take_zero,List.cons.injEq,and_true] at e0 e1 e2 e3;obtain⟨rfl,rfl,rfl,rfl⟩:=e0;obtain⟨rfl,rfl,rfl,rfl⟩:=e1;obtain⟨rfl,rfl,rfl,rfl⟩:=e2;obtain⟨rfl,rfl,rfl,rfl⟩:=e3;rfl
  unfold World.var? at aC;rw[aA] at aC;simp only [Option.bind_some] at aC;split at aC
  ·rename_i cs' ty fr af
   cases aC;refine⟨ty,fr,?_⟩;show W.heap[0]? =_;rw[af,<-fV]
  ·cases aC
end
end Go.Proofs.YtepcfjbfkedlpaaDoor
namespace Go.Proofs.YtepcfjbfkedlpaaDoor
open Go Go.RowKit
namespace AE
def r_:Nat->List fF->List MapEntry
 |_,[]=>[]
 |i,n::r=>{key:=cw n,val:= .bool true,born:=i}::r_ (i+1) r
theorem Wa:∀(i:Nat) (l:List fF) (n:fF),r_ i (l++[n])=r_ i l++[{key:=cw n,val:= .bool true,born:=i+l.length}]
 |i,[],n=>by simp [r_]
 |i,x::r,n=>by
  simp only [List.cons_append,r_,Wa (i+1) r n,List.length_cons];rw[show i+1+r.length=i+(r.length+1) by omega]
def uA (B:Nat) (M:Mem) (v:J) (ns:List fF):Prop:=∃b,v= .map (some b)/\B<=b/\M b=some (.map ⟨r_ 0 ns⟩ ns.length)
def Oi:J->Option Nat
 | .map b=>b
 |_=>none
theorem uA.known {B:Nat} {M:Mem} {v:J} {ns:List fF} (h:uA B M v ns):∀i,some i=Oi v->M i≠none/\B<=i:=by
 obtain⟨b,rfl,ad,ag⟩:=h;intro i ai;cases ai;exact⟨by rw[ag];simp,ad⟩
theorem Wb (a b:fF):Instr.sameNow .string (cw a) (cw b)=some (decide (a=b)):=by
 show some ((⟨a.toArray⟩:ByteArray)==⟨b.toArray⟩)=_;congr 1;rw[Bool.eq_iff_iff];show (a.toArray==b.toArray)=true↔_;simp
theorem Wc {n:fF}:∀{ns:List fF} (i j:Nat),n∈ns->∃q,Instr.findNow .string (cw n) (r_ i ns) j=some (some (q,.bool true))
 |[],_,_,h=>by cases h
 |x::r,i,j,h=>by
  unfold r_ Instr.findNow;simp only [Wb];by_cases aq:n=x
  ·rw[eH aq]
   exact⟨j,rfl⟩
  ·rw[cx aq]
   exact Wc (i+1) (j+1) ((List.mem_cons.1 h).resolve_left aq)
theorem Wd {n:fF}:∀{ns:List fF} (i j:Nat),n∉ns->Instr.findNow .string (cw n) (r_ i ns) j=some none
 |[],_,_,_=>rfl
 |x::r,i,j,h=>by
  unfold r_ Instr.findNow;simp only [Wb];rw[cx (λe=>h (by rw[e];exact List.mem_cons_self))];exact Wd (i+1) (j+1) λfu=>h (List.mem_cons_of_mem _ fu)
section
variable {P:aR} {hs:aK} {n:fF} {ns:List fF}
theorem afS (al:bg P (underlying hs)=some .string) (h:n∈ns) (w:ax):∃q,(Instr.findKey hs (cw n) (r_ 0 ns)).run P w= .ok (some (q,.bool true)) w:=by
 obtain⟨q,bb⟩:=Wc (ns:=ns) 0 0 h;refine⟨q,?_⟩;unfold Instr.findKey;refine c4 al ?_;rw[bb];rfl
theorem We (al:bg P (underlying hs)=some .string) (h:n∉ns) (w:ax):(Instr.findKey hs (cw n) (r_ 0 ns)).run P w= .ok none w:=by
 have bb:=Wd (ns:=ns) 0 0 h;unfold Instr.findKey;refine c4 al ?_;rw[bb];rfl
variable [a1]
theorem aT.afT {t DB:aK} {x i:J} {u:J} {B:Nat} (aq:aM x=true) (ai:aM i=true) (aL:bg P (underlying t)=some (.map hs DB)) (al:bg P (underlying hs)=some .string) (nD:∀b n,bg P (Instr.checkKey b 10000 hs (cw n))=some ()) (cM:uA B a1.dq u ns)
  (ex:aJ x=u) (hB:aJ i=cw n) (h:n∈ns):aT P (.lB t x i false,.bool true):=by
 obtain⟨b,rfl,_,af⟩:=cM;refine Dw (by simp [oq,aq,ai]) U U λd_ ea w hw=> ?_
 show (gk d_ ea (.lB t (aJ x) (aJ i) false)).run P w=_;obtain⟨q,bb⟩:=afS (P:=P) al h w;have:=II (P:=P) (w:=w) (z:=undef) (ok:=false) (.inr ⟨b,ns.length,rfl,hw _ _ af⟩) aL (nD _ n) bb (λh=>by cases h);rw[ex,hB];unfold gk;simp only [Sem.run_bind,this,Result.andThen_ok];rfl
theorem aT.afU {t DB:aK} {x i:J} {u:J} {B:Nat} (aq:aM x=true) (ai:aM i=true) (aL:bg P (underlying t)=some (.map hs DB)) (al:bg P (underlying hs)=some .string) (bU:bg P (zeroValue DB)=some (.bool false)) (nD:∀b n,bg P (Instr.checkKey b 10000 hs (cw n))=some ()) (cM:uA B a1.dq u ns)
  (ex:aJ x=u) (hB:aJ i=cw n) (h:n∉ns):aT P (.lB t x i false,.bool false):=by
 obtain⟨b,rfl,_,af⟩:=cM;refine Dw (by simp [oq,aq,ai]) U U λd_ ea w hw=> ?_
 show (gk d_ ea (.lB t (aJ x) (aJ i) false)).run P w=_;have:=II (P:=P) (w:=w) (z:= .bool false) (ok:=false) (.inr ⟨b,ns.length,rfl,hw _ _ af⟩) aL (nD _ n) (We (P:=P) al h w) (λ_=>bU);rw[ex,hB];unfold gk;simp only [Sem.run_bind,this,Result.andThen_ok];rfl
end
def Oj:Option bY->Option aK
 |some (.oper o _ ops s _)=>match o.op with
  | .makeMap t none=>match q8 ops o s.sl with
    |some true=>some t
    |_=>none
  |_=>none
 |_=>none
theorem afV [cS] {P:aR} {N B:Nat} {w0:ax} {Q:Exit->Act->ax->Prop} {M:Mem} {bq:List J} {o:Option bY} {t:aK} {eO:J} {bj:Nat->List J} {eb dI:aF} {aZ:List bu} {bL:eE} {ns:List fF}
  (fL:ns=[]) (h:Oj o=some t) (dd:cp (b7 o) eb aZ=some bL) (eL:gZ N eb (ka o) eO=some dI) (fB:aM eO=true)
  (hm:∀M' g,fP (aW M bq) (aW M' (bj g)) bL) (aC:∀M' g,@aJ (aW M' (bj g)) eO= .map (some g))
  (rest:∀M' g,uA B M' (.map (some g)) ns->h7 M M' none->∀a7 w,@Here (aW M' (bj g)) _ N {sl:=dI,ms:=[],A:=c6 aZ} B w0 a7 w->wpListIn (Fr none) 0 P (kI o) (dY P (gA o) Q) (kH o) a7 w)
  (av:cS.eu<=aZ.length:=by first|exact Nat.zero_le _|exact gG rfl) (ar:iy (b7 o).A aZ 0:=by exact gX rfl): @fy (aW M bq) _ P N B w0 Q o:=by
 subst fL;letI:=aW M bq;unfold Oj at h;split at h
 ·rename_i op r ops s ks
  refine⟨_,rfl,λa w ah=> ?_⟩;split at h
  ·rename_i dt cy
   split at h
   ·rename_i jK
    cases h;have hE:=ah;obtain⟨⟨φ,ds,ad,ag,ay,bG,_⟩,cE,cR⟩:=ah;unfold wpListIn;rw[pv ag.get jK,aY rfl];have hw:∀i o,M i=some o->w.heap[i]? =some o:=hE.nW
    let w':ax:={w with heap:=w.heap.push (.map #[] 0)}
    have fw:(execOp a.eval op).run P w= .ok (.value (.map (some w.heap.size))) w':=by
     unfold execOp;rw[cy];rfl
    have fz:∀c',op.op≠.defer c':=λc' h=>by rw[cy] at h;cases h
    refine⟨λ_ _=>trivial,?_⟩;rw[Oper.semAt_eq _ _ _ fz,fw,Oper.uponIn_value];obtain⟨q1,aH⟩:=qF (B:=B) (M:=M) (w:=w) (w':=w') (T:=none) (da:=some w.heap.size) hw (λi h=>by cases h) (λi ai=> .inr (by cases ai;exact cj _)) ⟨rfl,rfl,rfl⟩ (cj _) (by simp [w']) (λi ai _=>by
     show (w.heap.push _)[i]? =_
     rw[Array.getElem?_push,a' aj])
    have cM:uA B (h8 M w' none (some w.heap.size)) (.map (some w.heap.size)) []:=by
     refine⟨_,rfl,cR,?_⟩;unfold h8;rw[aY rfl];show (w.heap.push _)[w.heap.size]? =_;rw[Array.getElem?_push,aY rfl];rfl
    have hS:=Here.turns (vals':=bj w.heap.size) dd (hm _ _) q1 av ar hE;letI:=aW (h8 M w' none (some w.heap.size)) (bj w.heap.size);have lT:=Here.put (d:=op.dst) hS (v:=eO) fB eL;rw[aC] at lT;exact rest _ _ cM aH _ w' lT
   ·cases h
  ·cases h
 ·cases h
def Ok:Option bY->Option (aK×J×J×J)
 |some (.oper o _ ops s _)=>match o.op with
  | .mapUpdate t m k x=>match q8 ops o s.sl with
    |some true=>some (t,dH .nil s.sl m,dH .nil s.sl k,dH .nil s.sl x)
    |_=>none
  |_=>none
 |_=>none
theorem afW [cS] {P:aR} {N B:Nat} {w0:ax} {Q:Exit->Act->ax->Prop} {M:Mem} {bq bj:List J} {o:Option bY} {t hs DB:aK} {m k u:J} {n:fF} {ns ns':List fF} {eb dI:aF} {aZ:List bu} {bL:eE}
  (fL:ns'=ns++[n]) (h:Ok o=some (t,m,k,.bool true)) (aL:bg P (underlying t)=some (.map hs DB)) (al:bg P (underlying hs)=some .string) (nD:∀b n,bg P (Instr.checkKey b 10000 hs (cw n))=some ())
  (dd:cp (b7 o) eb aZ=some bL) (eL:gZ N eb (ka o) undef=some dI) (hp:aM m=true) (aq:aM k=true) (em: @aJ (aW M bq) m=u) (Ol: @aJ (aW M bq) k=cw n)
  (cM:uA B M u ns) (gH:n∉ns) (hm:∀M',fP (aW M bq) (aW M' bj) bL)
  (rest:∀M',uA B M' u ns'->h7 M M' (Oi u)->∀a7 w,@Here (aW M' bj) _ N {sl:=dI,ms:=[],A:=c6 aZ} B w0 a7 w->wpListIn (Fr none) 0 P (kI o) (dY P (gA o) Q) (kH o) a7 w)
  (av:cS.eu<=aZ.length:=by first|exact Nat.zero_le _|exact gG rfl) (ar:iy (b7 o).A aZ 0:=by exact gX rfl): @fy (aW M bq) _ P N B w0 Q o:=by
 subst fL;letI:=aW M bq;unfold Ok at h;split at h
 ·rename_i op r ops s ks
  refine⟨_,rfl,λa w ah=> ?_⟩;split at h
  ·rename_i dt Wf sa hd cy
   split at h
   ·rename_i jK
    simp only [cN,Prod.mk.injEq] at h;obtain⟨rfl,rfl,rfl,hA⟩:=h;have hE:=ah;obtain⟨⟨φ,ds,ad,ag,ay,bG,_⟩,cE,cR⟩:=ah;unfold wpListIn;rw[pv ag.get jK,aY rfl];have es:a.eval Wf=u:=(aD.ji _ hp (gV (iG φ) ag.get Wf)).trans em;have o0:a.eval sa=cw n:=(aD.ji _ aq (gV (iG φ) ag.get sa)).trans Ol;have afX:a.eval hd= .bool true:=by
     have xF:=gV (iG φ) ag.get hd;rw[hA] at xF;exact aD.ji _ rfl xF
    have hw:∀i o,M i=some o->w.heap[i]? =some o:=hE.nW;obtain⟨b,rfl,cT,af⟩:=cM;have aA:=hw _ _ af
    let o':Obj:= .map ⟨r_ 0 (ns++[n])⟩ (ns++[n]).length
    let w':ax:={w with heap:=w.heap.setIfInBounds b o'}
    have fK:Obj.map ((⟨r_ 0 ns⟩:Array MapEntry).push {key:=cw n,val:= .bool true,born:=ns.length}) (ns.length+1)=o':=by
     show _=Obj.map _ _;rw[Wa,List.length_append,Nat.zero_add];simp
    have fw:(execOp a.eval op).run P w= .ok .skip w':=by
     unfold execOp;rw[cy];simp only [es,o0,afX];show (do Instr.mapUpdate dt (.map (some b)) (cw n) (.bool true);pure Next.skip:Sem Next).run P w=_;have c1:(Instr.mapUpdate dt (.map (some b)) (cw n) (.bool true)).run P w= .ok () w':=by
      unfold Instr.mapUpdate;refine c4 aL ?_;simp only;refine dm (rZ aA (by simp)) ?_;simp only;refine c4 (nD _ n) ?_;refine dm (We al gH w) ?_;simp only;rw[fK];exact xQ aA (by simp)
     simp only [Sem.run_bind,c1,Result.andThen_ok];rfl
    have fz:∀c',op.op≠.defer c':=λc' h=>by rw[cy] at h;cases h
    refine⟨λ_ _=>trivial,?_⟩;rw[Oper.semAt_eq _ _ _ fz,fw,Oper.uponIn_skip];have afY:b<w.heap.size:=(Array.getElem?_eq_some_iff.1 aA).1;obtain⟨q1,aH⟩:=qF (B:=B) (M:=M) (w:=w) (w':=w') (T:=some b) (da:=some b) hw (λi ai=>by cases ai;exact⟨by rw[af];simp,cT⟩) (λi ai=> .inl ai) ⟨rfl,rfl,rfl⟩ (cj _) (by simp [w']) (λi ai cW=>by
     show (w.heap.setIfInBounds b o')[i]? =_
     rw[Array.getElem?_setIfInBounds,a' (λe=>cW (by rw[e]))])
    have cM:uA B (h8 M w' (some b) (some b)) (.map (some b)) (ns++[n]):=by
     refine⟨_,rfl,cT,?_⟩;unfold h8;rw[aY rfl];show (w.heap.setIfInBounds b o')[b]? =_;rw[Array.getElem?_setIfInBounds,aY rfl,aY afY]
    have hS:=Here.turns (vals':=bj) dd (hm _) q1 av ar hE;letI:=aW (h8 M w' (some b) (some b)) bj;exact rest _ cM aH _ w' (Here.put (d:=op.dst) hS (v:=undef) rfl eL)
   ·cases h
  ·cases h
 ·cases h
theorem h7.map {B:Nat} {M M':Mem} {T:Option Nat} {v:J} {l:List fF} (al:h7 M M' T) (h:uA B M v l) (cW:∀i,some i=Oi v->some i≠T):uA B M' v l:=by
 obtain⟨b,rfl,ad,ag⟩:=h;exact⟨b,rfl,ad,al _ _ ag (cW b rfl)⟩
end AE
namespace AE
def sb (P:aR) [Lib P] (o:Option bY):FuncId×List J×a6:=(vx P o).getD (0,[],start)
end AE
namespace AE
structure DC (B:Nat) (M M':Mem) (S:Nat->Prop) (w w':ax):Prop where
 known:∀i,S i->M i≠none/\B<=i
 os:w'.os=w.os
 tape:w'.tape=w.tape
 output:w'.output=w.output
 size:w.heap.size<=w'.heap.size
 block:∀i,i<w.heap.size->¬S i->w'.heap[i]? =w.heap[i]?
 dq:∀i o,M' i=some o->w'.heap[i]? =some o/\(M i≠none\/w.heap.size<=i\/i<B)
def Bm (M M':Mem) (S:Nat->Prop):Prop:=∀i o,M i=some o->¬S i->M' i=some o
theorem Bm.up {B:Nat} {W:ax} {M M':Mem} {S:Nat->Prop} (al:Bm M M' S) (cT:∀i,S i->B<=i) (afc:W.heap.size<=B) (bt:∀i o,aG W i=some o->M i=some o):∀i o,aG W i=some o->M' i=some o:=λi o h=>
 al i o (bt i o h) λai=>by
  have ad:=cT i ai;have ag:=(Array.getElem?_eq_some_iff.1 (show W.heap[i]? =some o from h)).1;omega
theorem Bm.own {α:Type} {B:Nat} {M M':Mem} {S:Nat->Prop} {e:aK} {k:Nat} {enc:α->List J} {v:J} {l:List α} (al:Bm M M' S) (h:dw B M e k enc v l) (cW:∀i,some i=eP v->¬S i):dw B M' e k enc v l:=
 h.mono (cj _) λi ai o ho=>al i o ho (cW i ai)
theorem Here.Om [cS] {M M':Mem} {bq vals':List J} {S:Nat->Prop} {N B:Nat} {st:b6} {w0 w w':ax} {a:Act} {sl:aF} {l:List bu} {bL:eE} (dd:cp st sl l=some bL) (hm:fP (aW M bq) (aW M' vals') bL) (aL:DC B M M' S w w') (av:cS.eu<=l.length) (ar:iy st.A l 0)
  (ah: @Here (aW M bq) _ N st B w0 a w): @Here (aW M' vals') _ N {sl,ms:=[],A:=c6 l} B w0 a w':=
 Here.A7 S dd hm (λi ai=>aL.known i ai) ⟨aL.os,aL.tape,aL.output,cj _⟩ aL.size (λi ai aC=>aL.block i ai aC) (λi o ai=>aL.dq i o ai) av ar ah
def yn (B:Nat) (M:Mem) (w w':ax):Mem:=λi=>if (M i).isSome=true\/w.heap.size<=i\/i<B then w'.heap[i]? else none
theorem On {B:Nat} {M:Mem} {w w':ax} {i:Nat} (h:(M i).isSome=true\/w.heap.size<=i\/i<B):yn B M w w' i=w'.heap[i]? :=by unfold yn;rw[aY h]
theorem Wg {B:Nat} {M:Mem} {S:Nat->Prop} {w w':ax} (hw:∀i o,M i=some o->w.heap[i]? =some o) (aI:∀i,S i->M i≠none/\B<=i) (ux:w'.os=w.os/\w'.tape=w.tape/\w'.output=w.output) (cr:w.heap.size<=w'.heap.size)
  (af:∀i,i<w.heap.size->¬S i->w'.heap[i]? =w.heap[i]?):DC B M (yn B M w w') S w w'/\Bm M (yn B M w w') S:=by
 refine⟨⟨aI,ux.1,ux.2.1,ux.2.2,cr,af,λi o ai=> ?_⟩,λi o ai aC=> ?_⟩
 ·unfold yn at ai
  split at ai
  ·rename_i h
   refine⟨ai,?_⟩;rcases h with h|h|h
   ·exact .inl λag=>by rw[ag] at h;cases h
   ·exact .inr (.inl h)
   ·exact .inr (.inr h)
  ·cases ai
 ·rw[On (.inl (by rw[ai];rfl)),af i (Array.getElem?_eq_some_iff.1 (hw i o ai)).1 aC]
  exact hw i o ai
theorem zH {M:Mem} {w:ax} (hw:∀i o,M i=some o->w.heap[i]? =some o) {i:Nat} (h:w.heap.size<=i):M i=none:=by
 cases ai:M i with
 |none=>rfl
 |some o=>
  have:=(Array.getElem?_eq_some_iff.1 (hw i o ai)).1;omega
theorem gB [a1] {P:aR} (n:Int):aT P (.d' (.int .i64 n),.int .i64 n):=
 Jy U U U λ_ _ _=>rfl
def FF:Option bY->Option aK
 |some (.oper o _ ops s _)=>match o.op with
  | .alloc t=>match q8 ops o s.sl with
    |some true=>some t
    |_=>none
  |_=>none
 |_=>none
theorem Oo [cS] {P:aR} {N B:Nat} {w0:ax} {Q:Exit->Act->ax->Prop} {M:Mem} {bq:List J} {o:Option bY} {t:aK} {z eO:J} {bj:Nat->List J} {eb dI:aF} {aZ:List bu} {bL:eE}
  (h:FF o=some t) (bU:bg P (zeroValue t)=some z) (dd:cp (b7 o) eb aZ=some bL) (eL:gZ N eb (ka o) eO=some dI) (fB:aM eO=true)
  (hm:∀M' g,fP (aW M bq) (aW M' (bj g)) bL) (aC:∀M' g,@aJ (aW M' (bj g)) eO= .pointer (some ⟨g,0,none⟩))
  (rest:∀M' g,B<=g->M g=none->M' g=some (.cells z.cells t (0,0))->h7 M M' none->∀a7 w,@Here (aW M' (bj g)) _ N {sl:=dI,ms:=[],A:=c6 aZ} B w0 a7 w->wpListIn (Fr none) 0 P (kI o) (dY P (gA o) Q) (kH o) a7 w)
  (av:cS.eu<=aZ.length:=by first|exact Nat.zero_le _|exact gG rfl) (ar:iy (b7 o).A aZ 0:=by exact gX rfl): @fy (aW M bq) _ P N B w0 Q o:=by
 letI:=aW M bq;unfold FF at h;split at h
 ·rename_i op r ops s ks
  refine⟨_,rfl,λa w ah=> ?_⟩;split at h
  ·rename_i dt cy
   split at h
   ·rename_i jK
    cases h;have hE:=ah;obtain⟨⟨φ,ds,ad,ag,ay,bG,_⟩,cE,cR⟩:=ah;unfold wpListIn;rw[pv ag.get jK,aY rfl];have hw:∀i o,M i=some o->w.heap[i]? =some o:=hE.nW
    let w':ax:={w with heap:=w.heap.push (.cells z.cells t)}
    have fw:(execOp a.eval op).run P w= .ok (.value (.pointer (some ⟨w.heap.size,0,none⟩))) w':=by
     unfold execOp;rw[cy];show (do pure (Next.value (<-Instr.alloc t true (.tuple #[]))):Sem Next).run P w=_;have ha:(Instr.alloc t true (.tuple #[])).run P w= .ok (.pointer (some ⟨w.heap.size,0,none⟩)) w':=by
      unfold Instr.alloc;refine c4 bU ?_;simp [newVar,newRow,newObj,Sem.run,w']
     simp only [Sem.run_bind,ha,Result.andThen_ok];rfl
    have fz:∀c',op.op≠.defer c':=λc' h=>by rw[cy] at h;cases h
    refine⟨λ_ _=>trivial,?_⟩;rw[Oper.semAt_eq _ _ _ fz,fw,Oper.uponIn_value];obtain⟨q1,aH⟩:=qF (B:=B) (M:=M) (w:=w) (w':=w') (T:=none) (da:=some w.heap.size) hw (λi h=>by cases h) (λi ai=> .inr (by cases ai;exact cj _)) ⟨rfl,rfl,rfl⟩ (cj _) (by simp [w']) (λi ai _=>by
     show (w.heap.push _)[i]? =_
     rw[Array.getElem?_push,a' aj])
    have cM:h8 M w' none (some w.heap.size) w.heap.size=some (.cells z.cells t (0,0)):=by
     unfold h8;rw[aY rfl];show (w.heap.push _)[w.heap.size]? =_;rw[Array.getElem?_push,aY rfl]
    have hS:=Here.turns (vals':=bj w.heap.size) dd (hm _ _) q1 av ar hE;letI:=aW (h8 M w' none (some w.heap.size)) (bj w.heap.size);have lT:=Here.put (d:=op.dst) hS (v:=eO) fB eL;rw[aC] at lT;exact rest _ _ cR (zH hw (cj _)) cM aH _ w' lT
   ·cases h
  ·cases h
 ·cases h
def kL (P:aR) [Lib P] (o:Option bY):b6:={b7 o with A:=(sb P o).2.2}
theorem afZ [a1] [cS] {P:aR} [Lib P] {N B:Nat} {w0:ax} {Q:Exit->Act->ax->Prop} {o:Option bY} {f:FuncId} {args:List J} {R:ax->J->ax->Prop} (h:(vx P o).isSome=true) (aQ:(sb P o).1=f) (ha:(sb P o).2.1=args) (hp:dL args=true)
  (fA:∀a w,Here N (kL P o) B w0 a w->Calls P f ⟨eo args⟩ w λe w'=>∃v,e= .returned v/\R w v w')
  (cv:∀a w v w',Here N (kL P o) B w0 a w->R w v w'->wpListIn (Fr none) 0 P (kI o) (dY P (gA o) Q) (kH o) (a.put (ka o) v) w'):fy P N B w0 Q o:=by
 have bc:=afa (d:=(0,[],start)) h
 change vx P o=some (sb P o) at bc
 generalize he:sb P o=d at bc aQ ha;obtain⟨f0,Oq,bC⟩:=d;simp only at aQ ha;subst aQ ha;have t_:kL P o={b7 o with A:=bC}:=by unfold kL;rw[he]
 rw[t_] at fA cv;unfold vx at bc;split at bc
 ·rename_i op r ops s ks
  split at bc
  ·rename_i hw
   split at bc
   ·rename_i ij gv aoN ha
    cases bc;refine⟨_,rfl,λa w ah=> ?_⟩;obtain⟨⟨φ,ds,ad,ag,ay,bG,fS⟩,cE,cR⟩:=ah;unfold wpListIn;rw[pv ag.get hw,aY rfl];obtain⟨gM,w1,n,g1,g2,g3⟩:=UE ay (gV (iG φ) ag.get) ha;refine⟨λ_ _=>trivial,?_⟩;letI:eh P:=⟨[]⟩;have af0:CV P (dH .nil s.sl) s.A op=some (.enter f0 Oq,bC):=ha;rw[Oper.semAt_eq _ _ _ (IW af0),g1];obtain⟨Wh,rfl,gK⟩:=g2;rw[Oper.uponIn_enter];refine⟨λh=>absurd h (by simp [Fr,Fence.wide]),?_⟩;obtain⟨dg,k2⟩:=Dh bG g3 cR;have af1:Wh=⟨eo Oq⟩:=by
     obtain⟨q1,aH⟩:=gK;obtain⟨u⟩:=Wh;rw[aD.xU Oq u hp (by simpa using q1.symm) (λi ai=>by simpa using aH i ai)]
    subst af1;have lS:Here N {b7 (some (.oper op r ops s ks)) with A:=bC} B w0 a w1:=⟨⟨gM,ds,ad.mono (g3.ext ay),ag.mono (g3.ext ay),g3.rel,dg,fS.step g3⟩,cE.trans k2,Nat.le_trans cR g3.gL⟩;refine CallsIn.mono (CY (fA a w1 lS)) λe w2 he=> ?_
    obtain⟨v,rfl,jA⟩:=he;exact cv a w1 v w2 lS jA
   ·cases bc
  ·cases bc
 ·cases bc
theorem af2 [cS] {P:aR} [Lib P] {N B:Nat} {w0:ax} {Q:Exit->Act->ax->Prop} {M:Mem} {bq:List J} {o:Option bY} {f:FuncId} {args:List J} {eO:J} {Y:Type} {bj:Y->List J} {eb dI:aF} {aZ:List bu} {bL:eE} {S:Nat->Prop} {R:Y->Mem->Prop}
  (h:(vx P o).isSome=true) (aQ:(sb P o).1=f) (ha:(sb P o).2.1=args) (hp:dL args=true) (dd:cp (kL P o) eb aZ=some bL) (eL:gZ N eb (ka o) eO=some dI) (fB:aM eO=true)
  (fA:∀w,(∀i o,M i=some o->w.heap[i]? =some o)->B<=w.heap.size->Calls P f ⟨@eo (aW M bq) args⟩ w λe w'=>∃y M',e= .returned (@aJ (aW M' (bj y)) eO)/\R y M'/\DC B M M' S w w')
  (hm:∀M' y,R y M'->fP (aW M bq) (aW M' (bj y)) bL)
  (rest:∀M' y,R y M'->∀a7 w,@Here (aW M' (bj y)) _ N {sl:=dI,ms:=[],A:=c6 aZ} B w0 a7 w->wpListIn (Fr none) 0 P (kI o) (dY P (gA o) Q) (kH o) a7 w)
  (av:cS.eu<=aZ.length:=by first|exact Nat.zero_le _|exact gG rfl) (ar:iy (kL P o).A aZ 0:=by exact gX rfl): @fy (aW M bq) _ P N B w0 Q o:=by
 letI:=aW M bq;refine afZ (R:=λw v w'=>∃y M',v= @aJ (aW M' (bj y)) eO/\R y M'/\DC B M M' S w w') h aQ ha hp (λa w ah=>(fA w ah.nW ah.size).mono λe w' he=> ?_) λa w v w' ah jA=> ?_
 ·obtain⟨y,M',rfl,ad,ag⟩:=he
  exact⟨_,rfl,y,M',rfl,ad,ag⟩
 ·obtain⟨y,M',rfl,ad,ag⟩:=jA
  have hS:=Here.Om (vals':=bj y) dd (hm M' y ad) ag av ar ah;exact rest M' y ad _ w' (@Here.put (aW M' (bj y)) _ _ _ _ _ _ _ _ _ _ hS fB eL)
end AE
namespace AE
def jo (B:Nat) (M:Mem) (v:J) (ty:aK) (cs:List J):Prop:=∃g,v= .pointer (some ⟨g,0,none⟩)/\B<=g/\M g=some (.cells ⟨cs⟩ ty (0,0))
theorem jo.known {B g:Nat} {M:Mem} {ty:aK} {cs:List J} (h:jo B M (.pointer (some ⟨g,0,none⟩)) ty cs):M g=some (.cells ⟨cs⟩ ty (0,0))/\B<=g:=by
 obtain⟨afG,e,ad,ag⟩:=h;cases e;exact⟨ag,ad⟩
theorem jo.ptr {B:Nat} {M:Mem} {v:J} {ty:aK} {cs:List J} (h:jo B M v ty cs):∃g,v= .pointer (some ⟨g,0,none⟩):=by
 obtain⟨g,e,_⟩:=h;exact⟨g,e⟩
theorem h7.box {B g:Nat} {M M':Mem} {T:Option Nat} {ty:aK} {cs:List J} (al:h7 M M' T) (h:jo B M (.pointer (some ⟨g,0,none⟩)) ty cs) (cW:∀i,some i=T->some i≠some g):jo B M' (.pointer (some ⟨g,0,none⟩)) ty cs:=
 ⟨g,rfl,h.known.2,al _ _ h.known.1 λe=>cW g e rfl⟩
theorem cF.kept {α:Type} {M M':Mem} {T:Option Nat} {k:Nat} {enc:α->List J} {a:Option Addr} {n c:Nat} {l:List α} (al:h7 M M' T) (h:cF M k enc (.slice a n c) l) (cW:∀p,a=some p->some p.block≠T):cF M' k enc (.slice a n c) l:=by
 cases h with
 |nil a c=>exact .nil a c
 |mk af ar h=>exact .mk (al _ _ af (cW _ rfl)) ar h
section
variable [a1] {P:aR}
theorem aT.Wi {B g j:Nat} {ty t:aK} {cs:List J} {p r u:J} (cM:jo B a1.dq (.pointer (some ⟨g,0,none⟩)) ty cs) (hj:cs[j]? =some u) (hp:aM p=true) (ao:aM r=true) (ha:bg P (isAgg t)=some false) (mg:aJ p= .pointer (some ⟨g,j,none⟩)) (b9:aJ r=u):aT P (.bA t p,r):=
 aT.VG hp ao ha mg (λw hw=>by
  have:=hw _ _ cM.known.1;simp only [World.cell?,this]
  simpa using hj) b9
theorem aT.Wj {x r:J} {a:Addr} (aq:aM x=true) (ao:aM r=true) (ex:aJ x= .pointer (some a)) (b9:aJ r= .pointer (some a)):aT P (.dM x,r):=
 Jy (by simpa [oq] using aq) ao rfl λd_ ea w=>by
  show (gk d_ ea (.dM (aJ x))).run P w=_;rw[ex,b9];rfl
theorem aT.Wk {s:aK} {x r:J} {f g o ty off m:Nat} (aQ:((P.fieldsOf s)[f]?).map (λf=>(f.type,f.offset))=some (ty,off)) (aw:bg P (underlying s)=some (.struct (P.fieldsOf s))) (hm:bg P (sizeOf ty)=some m) (h0:m≠0) (aq:aM x=true) (ao:aM r=true)
  (ex:aJ x= .pointer (some ⟨g,o,none⟩)) (b9:aJ r= .pointer (some ⟨g,o+off,none⟩)):aT P (.cn s x f,r):=by
 obtain⟨iv,ad,ag⟩:=Option.map_eq_some_iff.1 aQ;cases ag;exact aT.cn aq ao aw ad hm h0 ex b9
end
def uB:Option bY->Option (aK×J)
 |some (.oper o _ ops s _)=>match o.op with
  | .box t hd=>match q8 ops o s.sl with
    |some true=>some (t,dH .nil s.sl hd)
    |_=>none
  |_=>none
 |_=>none
theorem w7 [cS] {P:aR} {N B:Nat} {w0:ax} {Q:Exit->Act->ax->Prop} {M:Mem} {bq:List J} {o:Option bY} {t:aK} {x u eO:J} {cs:List J} {bj:Nat->List J} {eb dI:aF} {aZ:List bu} {bL:eE}
  (h:uB o=some (t,x)) (aq:aM x=true) (ex: @aJ (aW M bq) x=u) (fV:u.cells=⟨cs⟩) (dd:cp (b7 o) eb aZ=some bL) (eL:gZ N eb (ka o) eO=some dI) (fB:aM eO=true)
  (hm:∀M' g,fP (aW M bq) (aW M' (bj g)) bL) (aC:∀M' g,@aJ (aW M' (bj g)) eO= .pointer (some ⟨g,0,none⟩))
  (rest:∀M' g,M g=none->jo B M' (.pointer (some ⟨g,0,none⟩)) t cs->h7 M M' none->∀a7 w,@Here (aW M' (bj g)) _ N {sl:=dI,ms:=[],A:=c6 aZ} B w0 a7 w->wpListIn (Fr none) 0 P (kI o) (dY P (gA o) Q) (kH o) a7 w)
  (av:cS.eu<=aZ.length:=by first|exact Nat.zero_le _|exact gG rfl) (ar:iy (b7 o).A aZ 0:=by exact gX rfl): @fy (aW M bq) _ P N B w0 Q o:=by
 letI:=aW M bq;unfold uB at h;split at h
 ·rename_i op r ops s ks
  refine⟨_,rfl,λa w ah=> ?_⟩;split at h
  ·rename_i dt hd cy
   split at h
   ·rename_i jK
    cases h;have hE:=ah;obtain⟨⟨φ,ds,ad,ag,ay,bG,_⟩,cE,cR⟩:=ah;unfold wpListIn;rw[pv ag.get jK,aY rfl];have o0:a.eval hd=u:=(aD.ji _ aq (gV (iG φ) ag.get hd)).trans ex;have hw:∀i o,M i=some o->w.heap[i]? =some o:=hE.nW
    let w':ax:={w with heap:=w.heap.push (.cells ⟨cs⟩ t)}
    have fw:(execOp a.eval op).run P w= .ok (.value (.pointer (some ⟨w.heap.size,0,none⟩))) w':=by
     unfold execOp;rw[cy];simp only [o0];show (do pure (Next.value (<-Instr.box t u)):Sem Next).run P w=_;have ha:(Instr.box t u).run P w= .ok (.pointer (some ⟨w.heap.size,0,none⟩)) w':=by
      unfold Instr.box newVar newRow;rw[fV];simp [newObj,Sem.run,w']
     simp only [Sem.run_bind,ha,Result.andThen_ok];rfl
    have fz:∀c',op.op≠.defer c':=λc' h=>by rw[cy] at h;cases h
    refine⟨λ_ _=>trivial,?_⟩;rw[Oper.semAt_eq _ _ _ fz,fw,Oper.uponIn_value];obtain⟨q1,aH⟩:=qF (B:=B) (M:=M) (w:=w) (w':=w') (T:=none) (da:=some w.heap.size) hw (λi h=>by cases h) (λi ai=> .inr (by cases ai;exact cj _)) ⟨rfl,rfl,rfl⟩ (cj _) (by simp [w']) (λi ai _=>by
     show (w.heap.push _)[i]? =_
     rw[Array.getElem?_push,a' aj])
    have cM:jo B (h8 M w' none (some w.heap.size)) (.pointer (some ⟨w.heap.size,0,none⟩)) t cs:=by
     refine⟨_,rfl,cR,?_⟩;unfold h8;rw[aY rfl];show (w.heap.push _)[w.heap.size]? =_;rw[Array.getElem?_push,aY rfl]
    have hS:=Here.turns (vals':=bj w.heap.size) dd (hm _ _) q1 av ar hE;letI:=aW (h8 M w' none (some w.heap.size)) (bj w.heap.size);have lT:=Here.put (d:=op.dst) hS (v:=eO) fB eL;rw[aC] at lT;exact rest _ _ (zH hw (cj _)) cM aH _ w' lT
   ·cases h
  ·cases h
 ·cases h
theorem Wl [cS] {P:aR} {N B:Nat} {w0:ax} {Q:Exit->Act->ax->Prop} {M:Mem} {bq bj:List J} {o:Option bY} {t ty:aK} {g j:Nat} {p x u:J} {cs cs':List J} {eb dI:aF} {aZ:List bu} {bL:eE}
  (fL:cs'=cs.set j u) (h:nG o=some (t,p,x)) (cr:bg P (sizeOf t)=some 1)
  (dd:cp (b7 o) eb aZ=some bL) (eL:gZ N eb (ka o) undef=some dI) (hp:aM p=true) (aq:aM x=true) (mg: @aJ (aW M bq) p= .pointer (some ⟨g,j,none⟩)) (ex: @aJ (aW M bq) x=u) (hu:u.cells= #[u]) (kb:u.oneCell'=true)
  (cM:jo B M (.pointer (some ⟨g,0,none⟩)) ty cs) (hj:j<cs.length) (hm:∀M',fP (aW M bq) (aW M' bj) bL)
  (rest:∀M',jo B M' (.pointer (some ⟨g,0,none⟩)) ty cs'->h7 M M' (some g)->∀a7 w,@Here (aW M' bj) _ N {sl:=dI,ms:=[],A:=c6 aZ} B w0 a7 w->wpListIn (Fr none) 0 P (kI o) (dY P (gA o) Q) (kH o) a7 w)
  (av:cS.eu<=aZ.length:=by first|exact Nat.zero_le _|exact gG rfl) (ar:iy (b7 o).A aZ 0:=by exact gX rfl): @fy (aW M bq) _ P N B w0 Q o:=by
 subst fL;letI:=aW M bq;unfold nG at h;split at h
 ·rename_i op r ops s ks
  refine⟨_,rfl,λa w ah=> ?_⟩;split at h
  ·rename_i dt ow hd cy
   split at h
   ·rename_i jK
    cases h;have hE:=ah;obtain⟨⟨φ,ds,ad,ag,ay,bG,_⟩,cE,cR⟩:=ah;unfold wpListIn;rw[pv ag.get jK,aY rfl];have es:a.eval ow= .pointer (some ⟨g,j,none⟩):=(aD.ji _ hp (gV (iG φ) ag.get ow)).trans mg;have o0:a.eval hd=u:=(aD.ji _ aq (gV (iG φ) ag.get hd)).trans ex;have hw:∀i o,M i=some o->w.heap[i]? =some o:=hE.nW;obtain⟨bt,cT⟩:=cM.known;have aA:=hw _ _ bt
    let fQ:Array J:=(cs.take j++[u]++cs.drop (j+1)).toArray
    have fg:fQ=⟨cs.set j u⟩:=by
     show (cs.take j++[u]++cs.drop (j+1)).toArray=_;rw[List.set_eq_take_append_cons_drop,aY hj];simp
    have xK:(storeCells ⟨g,j,none⟩ [u]).run P w= .ok () (w.setRow g fQ):=by
     have:=run_storeCells_at P g j ty [u] 0 ⟨cs⟩ w aA (by simp only [List.length_cons,List.length_nil,List.size_toArray];omega) (λv aC=>by rw[List.mem_singleton.1 aC];exact kb);simpa only [Nat.add_zero,List.length_cons,List.length_nil] using this
    have fw:(execOp a.eval op).run P w= .ok .skip (w.setRow g fQ):=by
     unfold execOp;rw[cy];simp only [es,o0];show (do Instr.storeAt t (.pointer (some ⟨g,j,none⟩)) u;pure Next.skip:Sem Next).run P w=_;have c1:(Instr.storeAt t (.pointer (some ⟨g,j,none⟩)) u).run P w= .ok () (w.setRow g fQ):=by
      unfold Instr.storeAt;refine c4 (a:=(⟨g,j,none⟩:Addr)) rfl ?_;unfold storeVar;refine c4 cr ?_;rw[a' (by rw[hu];simp),hu];exact xK
     simp only [Sem.run_bind,c1,Result.andThen_ok];rfl
    have fz:∀c',op.op≠.defer c':=λc' h=>by rw[cy] at h;cases h
    refine⟨λ_ _=>trivial,?_⟩;rw[Oper.semAt_eq _ _ _ fz,fw,Oper.uponIn_skip];obtain⟨q1,aH⟩:=qF (B:=B) (M:=M) (w':=w.setRow g fQ) (T:=some g) (da:=some g) hw (λi ai=>by cases ai;exact⟨by rw[bt];simp,cT⟩) (λi ai=> .inl ai) ⟨rfl,rfl,rfl⟩ (cj _) (by simp [World.setRow]) (λj _ hj=>setRow_other w g j fQ (λh=>hj (by rw[h])));have vB:jo B (h8 M (w.setRow g fQ) (some g) (some g)) (.pointer (some ⟨g,0,none⟩)) ty (cs.set j u):=by
     refine⟨g,rfl,cT,?_⟩;unfold h8;rw[aY rfl,<-fg];exact setRow_heap w g ⟨cs⟩ fQ ty (0,0) aA
    have hS:=Here.turns (vals':=bj) dd (hm _) q1 av ar hE;letI:=aW (h8 M (w.setRow g fQ) (some g) (some g)) bj;exact rest _ vB aH _ _ (Here.put (d:=op.dst) hS (v:=undef) rfl eL)
   ·cases h
  ·cases h
 ·cases h
def oA:Code->List Nat->List fi->List fi
 | .seq x y,n::p,acc=>bif Nat.beq n 0 then oA x p (.mW y::acc) else oA y p acc
 | .cond _ x y,n::p,acc=>bif Nat.beq n 2 then oA x p acc else oA y p acc
 | .block id x,_::p,acc=>oA x p (.vv id::acc)
 | .loop x,n::p,acc=>oA x p (.s7 x (n-5)::acc)
 |_,_,acc=>acc
def zI:Code->List Nat->Code
 | .seq x y,n::p=>bif Nat.beq n 0 then zI x p else zI y p
 | .cond _ x y,n::p=>bif Nat.beq n 2 then zI x p else zI y p
 | .block _ x,_::p=>zI x p
 | .loop x,_::p=>zI x p
 |c,_=>c
def af3 (c:Code) (p:List Nat):Array Oper:=match zI c p with
 | .region _ ops _=>ops
 |_=> #[]
def ta (c:Code) (p:List Nat):Code:=match zI c p with
 | .loop b=>b
 |_=> .skip
theorem af4 [a1] [cS] {P:aR} [Lib P] {F:List (gd×J)} {T:List (FuncId×List J×J)} {N B bn d:Nat} {w0 w:ax} {a:Act} {o:Option bY} {r:List Oper} {ops:Array Oper} {ks:List fi} {s:b6} {Q:Exit->Act->ax->Prop} [mX Q]
  (ao:kH o=r) (ho:kI o=ops) (al:gA o=ks) (cQ:P.follows .mixedOrders=true) (dh:s' P F) (eA:r8 P T)
  (h:fy P N B w0 Q (A8 P F T N bn d r ops ks s)) (ah:Here N s B w0 a w):wpListIn (Fr none) 0 P (kI o) (dY P (gA o) Q) (kH o) a w:=by
 subst ao ho al;exact Fu cQ dh eA h ah
theorem tc {P:aR} {o:Option bY} {b:Code} {ks:List fi} {a:Act} {w:ax} {R:Act->ax->Prop} {Q:Exit->Act->ax->Prop} (af:pz o=b) (al:gA o=ks)
  (h:b.wpIn (Fr none) 0 P (Exit.then R (dY P ks Q)) a w):(pz o).wpIn (Fr none) 0 P (Exit.then R (dY P (gA o) Q)) a w:=by
 subst af al;exact h
end AE
namespace AE
structure cc where
 oB:Nat->Prop
 ok:Mem->Prop
 gC:∀M,ok M->∀b,oB b->M b≠none
 loc:∀M M',(∀b o,oB b->M b=some o->M' b=some o)->ok M->ok M'
def dW (g:Nat) (ty:aK) (cs:List J):cc where
 oB b:=b=g
 ok M:=M g=some (.cells ⟨cs⟩ ty (0,0))
 gC M h b af:=by
  subst af;rw[h];simp
 loc M M' h ho:=h g _ rfl ho
def ht {α:Type} (e:aK) (k:Nat) (enc:α->List J) (v:J) (l:List α):cc where
 oB b:=some b=eP v
 ok M:=dw 0 M e k enc v l
 gC M h b af:=(h.known b af).1
 loc M M' h ho:=by
  rcases ho with ho|⟨g,cap,cur,rfl,ar,ad,aA,ag⟩
  ·exact .inl ho
  ·exact .inr ⟨g,cap,cur,rfl,ar,ad,h g _ (nX ⟨g,_,none⟩ _ ar).symm aA,ag⟩
def kM {α:Type} (B:Nat) (M:Mem) (e:aK) (k:Nat) (enc:α->List J) (v:J) (l:List α):Prop:=
 (∃a,v= .slice a 0 0/\l=[])\/
 ∃g off cap cur,v= .slice (some ⟨g,off,none⟩) l.length cap/\0<cap/\B<=g/\M g=some (.cells cur e (0,0))/\l.length<=cap/\cap<=maxLen/\cur.size=off+cap*k/\(cur.toList.drop off).take (l.length*k)=l.flatMap enc
section
variable {α:Type} {B:Nat} {M:Mem} {e:aK} {k:Nat} {enc:α->List J} {v:J} {l:List α}
theorem dw.queue (h:dw B M e k enc v l):kM B M e k enc v l:=by
 rcases h with h|⟨g,cap,cur,ad,ag,ay,bG,cE,cR,fS,po⟩
 ·exact .inl h
 ·exact .inr ⟨g,0,cap,cur,ad,ag,ay,bG,cE,cR,aj,by rw[List.drop_zero];exact po⟩
theorem kM.known (h:kM B M e k enc v l):∀i,some i=eP v->M i≠none/\B<=i:=λi ai=>by
 rcases h with ⟨a,rfl,_⟩|⟨g,off,cap,cur,rfl,ar,cT,aA,_⟩
 ·rw[Fv] at ai
  cases ai
 ·rw[nX _ _ ar] at ai
  have e:=Option.some.inj ai;subst e;exact⟨λh=>(by rw[aA] at h;cases h),cT⟩
theorem kM.mono {vq:Nat} {M':Mem} (h:kM B M e k enc v l) (cT:∀i,some i=eP v->vq<=i) (hm:∀i,some i=eP v->∀o,M i=some o->M' i=some o):kM vq M' e k enc v l:=by
 rcases h with h|⟨g,off,cap,cur,rfl,ar,ad,aA,ag⟩
 ·exact .inl h
 ·exact .inr ⟨g,off,cap,cur,rfl,ar,cT g (nX ⟨g,_,none⟩ _ ar).symm,hm g (nX ⟨g,_,none⟩ _ ar).symm _ aA,ag⟩
theorem kM.slice (h:kM B M e k enc v l):∃a c,v= .slice a l.length c:=by
 rcases h with ⟨a,rfl,rfl⟩|⟨g,off,cap,cur,rfl,_⟩
 ·exact⟨a,0,rfl⟩
 ·exact⟨_,cap,rfl⟩
theorem kM.arr (h:kM B M e k enc v l) (al:∀x,(enc x).length=k):cF M k enc v l:=by
 rcases h with ⟨a,rfl,rfl⟩|⟨g,off,cap,cur,rfl,ar,ad,ag,ay,bG,cE,cR⟩
 ·exact .nil _ _
 ·refine .mk ag ay λi x aq j u hu=> ?_
  have fS:=zD al l i x aq j u hu;rw[<-cR,List.getElem?_take] at fS;split at fS
  ·rw[List.getElem?_drop] at fS
   rw[Nat.add_assoc];simpa using fS
  ·cases fS
theorem kM.cap (h:kM B M e k enc v l):∃a c,v= .slice a l.length c/\l.length<=c:=by
 rcases h with ⟨a,rfl,rfl⟩|⟨g,off,cap,cur,rfl,ad,ag,ay,bG,_⟩
 ·exact⟨a,0,rfl,cj _⟩
 ·exact⟨_,cap,rfl,bG⟩
theorem dw.af5 {vq:Nat} {M':Mem} (h:dw B M e k enc v l) (cT:∀i,some i=eP v->vq<=i) (hm:∀i,some i=eP v->∀o,M i=some o->M' i=some o):dw vq M' e k enc v l:=by
 rcases h with h|⟨g,cap,cur,rfl,ar,ad,aA,ag⟩
 ·exact .inl h
 ·exact .inr ⟨g,cap,cur,rfl,ar,cT g (nX ⟨g,_,none⟩ _ ar).symm,hm g (nX ⟨g,_,none⟩ _ ar).symm _ aA,ag⟩
end
def nI {α:Type} (e:aK) (k:Nat) (enc:α->List J) (v:J) (l:List α):cc where
 oB b:=some b=eP v
 ok M:=kM 0 M e k enc v l
 gC _ h b af:=(h.known b af).1
 loc _ _ h ho:=ho.mono (λ_ _=>Nat.zero_le _) λi ai o ad=>h i o ai ad
def p3 {α:Type} (k:Nat) (enc:α->List J) (v:J) (l:List α):cc where
 oB b:=some b=v.ownBlock
 ok M:=cF M k enc v l/\∀b,some b=v.ownBlock->M b≠none
 gC M h b af:=h.2 b af
 loc M M' h ho:=by
  refine⟨?_,λb af=> ?_⟩
  ·obtain⟨ad,ag⟩:=ho
   cases ad with
   |nil a c=>exact .nil a c
   |mk af ar ay=>exact .mk (h _ _ rfl af) ar ay
  ·cases bt:M b with
   |none=>exact absurd bt (ho.2 b af)
   |some o=>
    rw[h b o af bt];simp
theorem cF.arr {α:Type} {M:Mem} {k:Nat} {enc:α->List J} {v:J} {l:List α} (h:cF M k enc v l) (_:∀x,(enc x).length=k):cF M k enc v l:=h
structure cG (M:Mem) (L:List cc):Prop where
 ok:∀(i:Nat) (R:cc),L[i]? =some R->R.ok M
 two:∀(i j:Nat) (R S:cc),i≠j->L[i]? =some R->L[j]? =some S->∀b,R.oB b->¬S.oB b
def iI (L:List cc):Nat->Prop:=λb=>∃(i:Nat) (R:cc),L[i]? =some R/\R.oB b
theorem Bn (b:Nat):¬iI [] b:=λ⟨i,R,h,_⟩=>by simp at h
theorem cG.nil (M:Mem):cG M []:=⟨λi R h=>by simp at h,λi j R S _ h=>by simp at h⟩
theorem cG.known {M:Mem} {L:List cc} (h:cG M L):∀b,iI L b->M b≠none:=λb ⟨i,R,ai,af⟩=>R.gC M (h.ok i R ai) b af
theorem cG.mono {M M':Mem} {L:List cc} (h:cG M L) (hm:∀b o,iI L b->M b=some o->M' b=some o):cG M' L:=
 ⟨λi R ai=>R.loc M M' (λb o af ho=>hm b o ⟨i,R,ai,af⟩ ho) (h.ok i R ai),h.two⟩
structure cV (M:Mem) (L:List cc) (M':Mem) (L':List cc):Prop where
 sp:cG M' L'
 keeps:Bm M M' (iI L)
 fresh:∀b,iI L' b->iI L b\/M b=none
structure bI (B:Nat) (dE:Mem) (ca:List cc) (M:Mem) (L:List cc):Prop where
 sp:cG M L
 keeps:Bm dE M (iI ca)
 fresh:∀b,iI L b->iI ca b\/dE b=none
 base:∀b,iI ca b\/dE b=none->B<=b
def pick (L:List cc):List Nat->List cc
 |[]=>[]
 |i::is=>match L[i]? with
  |some R=>R::pick L is
  |none=>pick L is
def kl (n:Nat):List Nat->Bool
 |[]=>true
 |i::is=>Nat.blt i n&& !is.contains i&&kl n is
def lD (L:List cc):List Nat->List cc->List cc
 |i::is,R::jq=>lD (L.set i R) is jq
 |_,_=>L
theorem Ot {n i:Nat} {is:List Nat} (h:kl n (i::is)=true):i<n/\i∉is/\kl n is=true:=by
 simp only [kl,c7,Bool.not_eq_true',List.contains_eq_mem,decide_eq_false_iff_not] at h;exact⟨of_decide_eq_true (by simpa [Nat.blt_eq] using h.1.1),h.1.2,h.2⟩
theorem Wm {L:List cc}:∀{is:List Nat},kl L.length is=true->∀(j:Nat),(pick L is)[j]? =(is[j]?).bind λ(i:Nat)=>L[i]?
 |[],_,j=>by simp [pick]
 |i::is,h,j=>by
  obtain⟨ad,ag,ay⟩:=Ot h;unfold pick;rw[f_ ad];cases j with
  |zero=>simp [f_ ad]
  |succ j=>
   simp only [List.getElem?_cons_succ];exact Wm ay j
theorem Wn {n:Nat}:∀{is:List Nat},kl n is=true->∀{j fM i:Nat},is[j]? =some i->is[fM]? =some i->j=fM
 |[],_,j,fM,i,h,_=>by simp at h
 |x::is,h,j,fM,i,ad,ag=>by
  obtain⟨q1,aH,bW⟩:=Ot h;cases j with
  |zero=>
   cases fM with
   |zero=>rfl
   |succ fM=>
    simp only [List.getElem?_cons_zero,cN] at ad;simp only [List.getElem?_cons_succ] at ag;subst ad;exact absurd (List.mem_of_getElem? ag) aH
  |succ j=>
   simp only [List.getElem?_cons_succ] at ad;cases fM with
   |zero=>
    simp only [List.getElem?_cons_zero,cN] at ag;subst ag;exact absurd (List.mem_of_getElem? ad) aH
   |succ fM=>
    simp only [List.getElem?_cons_succ] at ag;rw[Wn bW ad ag]
theorem FG {L:List cc} {is:List Nat} (h:kl L.length is=true) {j:Nat} {R:cc} (hj:(pick L is)[j]? =some R):∃(i:Nat),is[j]? =some i/\L[i]? =some R:=by
 rw[Wm h] at hj;exact Option.bind_eq_some_iff.1 hj
theorem JQ {L:List cc} {is:List Nat} (h:kl L.length is=true) {b:Nat} (af:iI (pick L is) b):iI L b:=by
 obtain⟨j,R,hj,jA⟩:=af;obtain⟨i,_,ai⟩:=FG h hj;exact⟨i,R,ai,jA⟩
theorem cG.pick {M:Mem} {L:List cc} (s:cG M L) (is:List Nat) (h:kl L.length is=true):cG M (pick L is) where
 ok j R hj:=by
  obtain⟨i,_,ai⟩:=FG h hj;exact s.ok i R ai
 two j fM R S cW hj gY b af ef:=by
  obtain⟨i,ad,ag⟩:=FG h hj;obtain⟨tX,ay,bG⟩:=FG h gY;refine s.two i tX R S (λe=> ?_) ag bG b af ef;subst e;exact cW (Wn h ad ay)
theorem JR:∀(is:List Nat) (L jq:List cc),(lD L is jq).length=L.length
 |[],L,jq=>by unfold lD;rfl
 |i::is,L,[]=>by unfold lD;rfl
 |i::is,L,R::jq=>by
  unfold lD;rw[JR is];simp
theorem Ou:∀{is:List Nat} {L jq:List cc} {m:Nat},m∉is->(lD L is jq)[m]? =L[m]?
 |[],L,jq,m,_=>by unfold lD;rfl
 |i::is,L,[],m,_=>by unfold lD;rfl
 |i::is,L,R::jq,m,h=>by
  unfold lD;rw[Ou (λhm=>h (List.mem_cons_of_mem _ hm)),List.getElem?_set,a' (λe=>h (by rw[e];exact List.mem_cons_self))]
theorem Wo {n:Nat}:∀{is:List Nat} {L jq:List cc} {m:Nat} {R:cc},kl n is=true->n=L.length->jq.length=is.length->m∈is->(lD L is jq)[m]? =some R->∃(j:Nat),is[j]? =some m/\jq[j]? =some R
 |[],L,jq,m,R,_,_,_,hm,_=>by simp at hm
 |i::is,L,[],m,R,_,_,hl,_,_=>by simp at hl
 |i::is,L,aoO::jq,m,R,h,av,hl,hm,aA=>by
  obtain⟨q1,aH,bW⟩:=Ot h;unfold lD at aA;by_cases ai:m∈is
  ·obtain⟨j,ad,ag⟩:=Wo bW (by rw[List.length_set];exact av) (by simpa using hl) ai aA
   exact⟨j+1,by simpa using ad,by simpa using ag⟩
  ·have he:m=i:=by
    rcases List.mem_cons.1 hm with h|h
    ·exact h
    ·exact absurd h ai
   subst he;rw[Ou ai,List.getElem?_set,aY rfl,aY aj] at aA;exact⟨0,rfl,aA⟩
theorem FH {L L' N:List cc} {is:List Nat} (h:kl L.length is=true) (hl:L'.length=is.length) {m:Nat} {R:cc} (hm:(lD L is L'++N)[m]? =some R):
  (∃(j:Nat),(L'++N)[j]? =some R/\((is[j]? =some m/\j<is.length)\/(j=is.length+(m-L.length)/\L.length<=m)))\/(L[m]? =some R/\m∉is):=by
 by_cases ck:m<L.length
 ·rw[List.getElem?_append_left (by rw[JR];exact ck)] at hm
  by_cases ai:m∈is
  ·obtain⟨j,ad,ag⟩:=Wo h rfl hl ai hm
   have hj:j<is.length:=(List.getElem?_eq_some_iff.1 ad).1;exact .inl ⟨j,by rw[List.getElem?_append_left aj];exact ag,.inl ⟨ad,hj⟩⟩
  ·rw[Ou ai] at hm
   exact .inr ⟨hm,ai⟩
 ·rw[List.getElem?_append_right (by rw[JR];omega),JR] at hm
  exact .inl ⟨is.length+(m-L.length),by rw[List.getElem?_append_right aj,hl];rw[show is.length+(m-L.length)-is.length=m-L.length by omega];exact hm,.inr ⟨rfl,aj⟩⟩
section
variable {B:Nat} {dE M M':Mem} {ca L L' N:List cc}
theorem cG.put (s:cG M L) (is:List Nat) (h:kl L.length is=true) (hl:L'.length=is.length) (t:cV M (AE.pick L is) M' (L'++N)):cG M' (lD L is L'++N):=by
 have Wp:∀(i:Nat) (R:cc),L[i]? =some R->i∉is->∀b,R.oB b->¬iI (AE.pick L is) b:=λi R ai av b af ⟨j,S,hj,aI⟩=>by
  obtain⟨tX,ad,ag⟩:=FG h hj;exact s.two i tX R S (λe=>av (by rw[e];exact List.mem_of_getElem? ad)) ai ag b af aI
 have gH:∀(i:Nat) (R:cc),L[i]? =some R->i∉is->∀b,R.oB b->¬iI (L'++N) b:=λi R ai av b af jH=>by
  rcases t.fresh b jH with ad|ad
  ·exact Wp i R ai av b af ad
  ·exact R.gC M (s.ok i R ai) b af ad
 refine⟨λm R hm=> ?_,λm m' R S cW hm rL b af ef=> ?_⟩
 ·rcases FH h hl hm with ⟨j,hj,_⟩|⟨ai,av⟩
  ·exact t.sp.ok j R hj
  ·exact R.loc M M' (λb o af ho=>t.keeps b o ho (Wp m R ai av b af)) (s.ok m R ai)
 ·rcases FH h hl hm with ⟨j,hj,ff⟩|⟨ai,av⟩
  ·rcases FH h hl rL with ⟨fM,gY,Ov⟩|⟨lL,JS⟩
   ·refine t.sp.two j fM R S (λe=> ?_) hj gY b af ef
    subst e;rcases ff with ⟨ad,ag⟩|⟨ad,ag⟩
    ·rcases Ov with ⟨ay,bG⟩|⟨ay,bG⟩
     ·rw[ad] at ay
      exact cW (Option.some.inj ay)
     ·omega
    ·rcases Ov with ⟨ay,bG⟩|⟨ay,bG⟩
     ·omega
     ·exact cW aj
   ·exact gH m' S lL JS b ef ⟨j,R,hj,af⟩
  ·rcases FH h hl rL with ⟨fM,gY,Ov⟩|⟨lL,JS⟩
   ·exact gH m R ai av b af ⟨fM,S,gY,ef⟩
   ·exact s.two m m' R S cW ai lL b af ef
theorem af6 (_:cG M L) {is:List Nat} (h:kl L.length is=true) (hl:L'.length=is.length) (t:cV M (AE.pick L is) M' (L'++N)) {b:Nat} (af:iI (lD L is L'++N) b):iI L b\/M b=none:=by
 obtain⟨m,R,hm,jA⟩:=af;rcases FH h hl hm with ⟨j,hj,_⟩|⟨ai,av⟩
 ·rcases t.fresh b ⟨j,R,hj,jA⟩ with ad|ad
  ·exact .inl (JQ h ad)
  ·exact .inr ad
 ·exact .inl ⟨m,R,ai,jA⟩
theorem bI.put (h:bI B dE ca M L) (is:List Nat) (ik:kl L.length is=true) (hl:L'.length=is.length) (t:cV M (AE.pick L is) M' (L'++N)):bI B dE ca M' (lD L is L'++N) where
 sp:=h.sp.put is ik hl t
 keeps i o ai av:=by
  have ad:=h.keeps i o ai av;refine t.keeps i o ad λag=> ?_
  rcases h.fresh i (JQ ik ag) with ay|ay
  ·exact av ay
  ·rw[ai] at ay
   cases ay
 fresh b af:=by
  rcases af6 h.sp ik hl t af with ad|ad
  ·exact h.fresh b ad
  ·by_cases ag:iI ca b
   ·exact .inl ag
   ·right
    cases ay:dE b with
    |none=>rfl
    |some o=>
     have:=h.keeps b o ay ag;rw[ad] at this;cases this
 base:=h.base
theorem bI.lV (h:bI B dE ca M L) (i:Nat) {R Ow:cc} (ai:L[i]? =some R) (t:cV M [R] M' [Ow]):bI B dE ca M' (L.set i Ow):=by
 have ck:i<L.length:=(List.getElem?_eq_some_iff.1 ai).1;have ik:kl L.length [i]=true:=by
  simp [kl,Nat.blt_eq,ck]
 have hp:AE.pick L [i]=[R]:=by simp [AE.pick,ai]
 have:=h.put (L':=[Ow]) (N:=[]) [i] ik rfl (by rw[hp];exact t);simpa [lD] using this
theorem bI.new (h:bI B dE ca M L) {R:cc} (t:cV M [] M' [R]):bI B dE ca M' (L++[R]):=by
 have:=h.put (L':=[]) (N:=[R]) [] U U (by exact t);simpa [lD] using this
theorem bI.pick (h:bI B dE ca M L) (is:List Nat) (ik:kl L.length is=true):bI B dE ca M (AE.pick L is):=
 ⟨h.sp.pick is ik,h.keeps,λb af=>h.fresh b (JQ ik af),h.base⟩
theorem bI.low (h:bI B dE ca M L):∀b,iI L b->B<=b:=λb af=>h.base b (h.fresh b af)
theorem bI.start (W:ax) (L:List cc) (h:cG (aG W) L):bI 0 (aG W) L (aG W) L:=⟨h,λ_ _ h _=>h,λ_ h=> .inl h,λ_ _=>Nat.zero_le _⟩
theorem bI.o1 (W:ax):bI W.heap.size (aG W) [] (aG W) []:=
 ⟨cG.nil _,λ_ _ h _=>h,λb h=>absurd h (Bn b),λb h=>by
   rcases h with h|h
   ·exact absurd h (Bn b)
   ·exact Array.getElem?_eq_none_iff.1 h⟩
theorem bI.ext (h:bI B dE [] M L):∀i o,dE i=some o->M i=some o:=λi o ai=>h.keeps i o ai (Bn i)
theorem bI.kept (h:bI B dE ca M L) {i:Nat} {o:Obj} (ai:dE i=some o) (av:¬iI ca i):M i=some o:=h.keeps i o ai av
theorem bI.done {w':ax} (h:bI B dE ca M L) (hw:∀i o,M i=some o->w'.heap[i]? =some o):cV dE ca (aG w') L:=
 ⟨h.sp.mono λb o _ ho=>hw b o ho,λi o ai av=>hw i o (h.keeps i o ai av),h.fresh⟩
theorem bI.box (h:bI B dE ca M L) (i:Nat) {g:Nat} {ty:aK} {cs:List J} (ai:L[i]? =some (dW g ty cs)):jo B M (.pointer (some ⟨g,0,none⟩)) ty cs:=⟨g,rfl,h.low g ⟨i,_,ai,rfl⟩,h.sp.ok i _ ai⟩
theorem bI.arr (h:bI B dE ca M L) (i:Nat) {α:Type} {e:aK} {k:Nat} {enc:α->List J} {v:J} {l:List α} (ai:L[i]? =some (ht e k enc v l)):dw B M e k enc v l:=
 dw.af5 (h.sp.ok i _ ai) (λj hj=>h.low j ⟨i,_,ai,hj⟩) λ_ _ _ ho=>ho
theorem bI.iT (h:bI B dE ca M L) (i:Nat) {α:Type} {e:aK} {k:Nat} {enc:α->List J} {v:J} {l:List α} (ai:L[i]? =some (nI e k enc v l)):kM B M e k enc v l:=
 kM.mono (h.sp.ok i _ ai) (λj hj=>h.low j ⟨i,_,ai,hj⟩) λ_ _ _ ho=>ho
theorem bI.red (h:bI B dE ca M L) (i:Nat) {α:Type} {k:Nat} {enc:α->List J} {v:J} {l:List α} (ai:L[i]? =some (p3 k enc v l)):cF M k enc v l:=(h.sp.ok i _ ai).1
theorem bI.any (h:bI B dE ca M L) (i:Nat) {R:cc} (ai:L[i]? =some R):R.ok M:=h.sp.ok i _ ai
end
theorem cG.box {M:Mem} {L:List cc} (h:cG M L) (i:Nat) {g:Nat} {ty:aK} {cs:List J} (ai:L[i]? =some (dW g ty cs)):jo 0 M (.pointer (some ⟨g,0,none⟩)) ty cs:=⟨g,rfl,Nat.zero_le _,h.ok i _ ai⟩
theorem cG.arr {M:Mem} {L:List cc} (h:cG M L) (i:Nat) {α:Type} {e:aK} {k:Nat} {enc:α->List J} {v:J} {l:List α} (ai:L[i]? =some (ht e k enc v l)):dw 0 M e k enc v l:=h.ok i _ ai
theorem cG.iT {M:Mem} {L:List cc} (h:cG M L) (i:Nat) {α:Type} {e:aK} {k:Nat} {enc:α->List J} {v:J} {l:List α} (ai:L[i]? =some (nI e k enc v l)):kM 0 M e k enc v l:=h.ok i _ ai
theorem cG.red {M:Mem} {L:List cc} (h:cG M L) (i:Nat) {α:Type} {k:Nat} {enc:α->List J} {v:J} {l:List α} (ai:L[i]? =some (p3 k enc v l)):cF M k enc v l:=(h.ok i _ ai).1
theorem cG.one {M:Mem} {R:cc} (h:R.ok M):cG M [R]:=by
 refine⟨λi S ai=> ?_,λi j S T cW ai hj=> ?_⟩
 ·cases i with
  |zero=>
   have e:=Option.some.inj (show some R=some S from ai);rw[<-e];exact h
  |succ i=>simp at ai
 ·cases i with
  |zero=>
   cases j with
   |zero=>exact absurd rfl cW
   |succ j=>simp at hj
  |succ i=>simp at ai
theorem p4 {R:cc} {b:Nat}:iI [R] b↔R.oB b:=by
 constructor
 ·rintro ⟨i,S,ai,af⟩
  cases i with
  |zero=>
   have e:=Option.some.inj (show some R=some S from ai);rw[e];exact af
  |succ i=>simp at ai
 ·intro h
  exact⟨0,R,rfl,h⟩
section
variable {M M':Mem}
theorem vC {B g:Nat} {ty:aK} {cs cs':List J} (cM:jo B M' (.pointer (some ⟨g,0,none⟩)) ty cs') (cv:h7 M M' (some g)):cV M [dW g ty cs] M' [dW g ty cs']:=
 ⟨cG.one cM.known.1,λi o ai av=>cv i o ai λe=>av (p4.2 (Option.some.inj e)),λb af=> .inl (p4.2 (show b=g from p4.1 af))⟩
theorem td {B g:Nat} {ty:aK} {cs:List J} (cM:jo B M' (.pointer (some ⟨g,0,none⟩)) ty cs) (av:M g=none) (cv:h7 M M' none):cV M [] M' [dW g ty cs]:=
 ⟨cG.one cM.known.1,λi o ai _=>cv i o ai λe=>(by cases e),λb af=> .inr (by rw[show b=g from p4.1 af];exact av)⟩
variable {α:Type} {B:Nat} {e:aK} {k:Nat} {enc:α->List J} {v aB:J} {l l':List α}
theorem sc (cM:dw B M' e k enc aB l'):(ht e k enc aB l').ok M':=cM.mono (Nat.zero_le _) λ_ _ _ h=>h
theorem Wq (cM:kM B M' e k enc aB l'):(nI e k enc aB l').ok M':=cM.mono (λ_ _=>Nat.zero_le _) λ_ _ _ h=>h
theorem Ox (cM:dw B M' e k enc aB l') (cv:h7 M M' (eP v)) (aQ:∀i,some i=eP aB->some i=eP v\/M i=none):cV M [ht e k enc v l] M' [ht e k enc aB l']:=
 ⟨cG.one (sc cM),λi o ai av=>cv i o ai λe=>av (p4.2 e),λb af=>by
   rcases aQ b (p4.1 af) with h|h
   ·exact .inl (p4.2 h)
   ·exact .inr h⟩
theorem Bo (cM:dw B M' e k enc v l') (cv:h7 M M' (eP v)):cV M [ht e k enc v l] M' [ht e k enc v l']:=Ox cM cv λ_ h=> .inl h
theorem FI (cM:kM B M' e k enc aB l') (cv:h7 M M' (eP v)) (aQ:∀i,some i=eP aB->some i=eP v\/M i=none):cV M [nI e k enc v l] M' [nI e k enc aB l']:=
 ⟨cG.one (Wq cM),λi o ai av=>cv i o ai λe=>av (p4.2 e),λb af=>by
   rcases aQ b (p4.1 af) with h|h
   ·exact .inl (p4.2 h)
   ·exact .inr h⟩
theorem JT (cM:dw B M' e k enc v l) (cv:h7 M M' none) (aQ:∀i,some i=eP v->M i=none):cV M [] M' [ht e k enc v l]:=
 ⟨cG.one (sc cM),λi o ai _=>cv i o ai λe=>(by cases e),λb af=> .inr (aQ b (p4.1 af))⟩
end
theorem Wr {B:Nat} {M:Mem} {w w':ax} {dE:Mem} {ca L nZ L':List cc} (h:bI B dE ca M L) (is:List Nat) (ik:kl L.length is=true) (hp:AE.pick L is=nZ) (hw:∀i o,M i=some o->w.heap[i]? =some o) (_:B<=w.heap.size) (aw:cV (aG w) nZ (aG w') L') (hl:cg 0 w w'):
  ∃M',cV M nZ M' L'/\DC B M M' (iI nZ) w w':=by
 subst hp;have af:∀i,i<w.heap.size->¬iI (AE.pick L is) i->w'.heap[i]? =w.heap[i]? :=λi ai av=>by
  have ay:aG w i=some (w.heap[i]):=Array.getElem?_eq_getElem ai;have bG:=aw.keeps i _ ay av;rw[Array.getElem?_eq_getElem ai];exact bG
 have hM:∀i,iI (AE.pick L is) i->M i≠none/\B<=i:=λi ai=>⟨(h.sp.pick is ik).known i ai,h.low i (JQ ik ai)⟩
 obtain⟨t1,t2⟩:=Wg (B:=B) (M:=M) (S:=iI (AE.pick L is)) (w:=w) (w':=w') hw hM ⟨hl.below.os,hl.below.tape,hl.below.output⟩ hl.size af;have gH:∀b,iI L' b->((M b).isSome=true/\B<=b)\/w.heap.size<=b:=λb oU=>by
  rcases aw.fresh b oU with ay|ay
  ·obtain⟨dg,k2⟩:=hM b ay
   refine .inl ⟨?_,k2⟩;cases bt:M b with
   |none=>exact absurd bt dg
   |some o=>rfl
  ·exact .inr (Array.getElem?_eq_none_iff.1 ay)
 refine⟨yn B M w w',⟨aw.sp.mono λb o oU ho=> ?_,t2,λb oU=> ?_⟩,t1⟩
 ·rw[On (by
   rcases gH b oU with ay|ay
   ·exact .inl ay.1
   ·exact .inr (.inl ay))]
  exact ho
 ·rcases aw.fresh b oU with ay|ay
  ·exact .inl ay
  ·exact .inr (zH hw (Array.getElem?_eq_none_iff.1 ay))
theorem bI.at {B:Nat} {M:Mem} {w:ax} {dE:Mem} {ca L nZ:List cc} (h:bI B dE ca M L) (is:List Nat) (ik:kl L.length is=true) (hp:AE.pick L is=nZ) (hw:∀i o,M i=some o->w.heap[i]? =some o):cG (aG w) nZ:=by
 subst hp;exact(h.sp.pick is ik).mono λb o _ ho=>hw b o ho
theorem af7 {Y:Type} {P:aR} {f:FuncId} {args:Array J} {B:Nat} {M:Mem} {w:ax} {dE:Mem} {ca L nZ:List cc} {eO:J} {bj:Y->List J} {r:Y->J} {L':Y->List cc} (h:bI B dE ca M L) (is:List Nat) (ik:kl L.length is=true) (hp:AE.pick L is=nZ) (hw:∀i o,M i=some o->w.heap[i]? =some o) (cT:B<=w.heap.size)
  (aC:∀M' y,@aJ (aW M' (bj y)) eO=r y) (fA:Calls P f args w λe w'=>(∃y,e= .returned (r y)/\cV (aG w) nZ (aG w') (L' y))/\cg 0 w w'):
  Calls P f args w λe w'=>∃y M',e= .returned (@aJ (aW M' (bj y)) eO)/\cV M nZ M' (L' y)/\DC B M M' (iI nZ) w w':=
 fA.mono λe w' he=>by
  obtain⟨⟨y,rfl,aw⟩,hl⟩:=he;obtain⟨M',ad,ag⟩:=Wr h is ik hp hw cT aw hl;exact⟨y,M',by rw[aC],ad,ag⟩
end AE
end Go.Proofs.YtepcfjbfkedlpaaDoor
