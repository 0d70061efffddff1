/- Parts of the proof. -/
import Derived.WalkKit
import Derived.Orders
import Derived.IntWalk
import Derived.CallsIn
import Derived.OrdersIn
import Derived.RangeFuncIn
import Derived.RangeFuncCalls
import Derived.RangeFuncLeaves
import Derived.TacticsIn
set_option maxRecDepth 100000
set_option maxHeartbeats 4000000
namespace Go.Proofs.YtepcfjbfkedlpaaDoor
open Go
section
theorem ar {p:Prop} (h:p:=by omega):p:=h
theorem bt {p:Prop} (h:p:=by assumption):p:=h
theorem cz {p:Prop} (h:p:=by decide):p:=h
theorem au {p:Prop} (h:p:=by kernel_rfl):p:=h
theorem U.{u} {α:Sort u} {a:α}:a=a:=rfl
abbrev aQ:= @if_pos
abbrev aU:= @if_neg
abbrev gC:= @decide_eq_true
abbrev c8:= @decide_eq_false
abbrev dh:= @List.getD_eq_getElem?_getD
abbrev cA:= @Nat.eq_of_beq_eq_true
abbrev fA:= @List.getElem?_eq_getElem
abbrev gv:= @Nat.le_of_ble_eq_true
abbrev cE:= @Option.some.injEq
abbrev ao5:= @List.getElem?_eq_some_iff
abbrev fb:= @Array.getD_eq_getD_getElem?
abbrev bx:= @cond_true
abbrev b2:= @Nat.le_refl
abbrev cV:= @Bool.and_eq_true
abbrev ek:= @cond_false
abbrev xO:= @Option.map_eq_some_iff
abbrev mc:= @List.length_replicate
abbrev J:=Go.Value
abbrev ax:=Go.World
abbrev aR:=Go.Program
abbrev aJ:=Go.TypeId
namespace AE
inductive bR (α:Type) where
 |nil
 |node (v:Option α) (l r:bR α)
def bR.get {α:Type}:bR α->Nat->Option α
 | .nil,_=>none
 | .node v l r,i=>bif i==0 then v else bif i%2==1 then l.get (i/2) else r.get (i/2-1)
def bR.set {α:Type} (x:α):Nat->bR α->Nat->Option (bR α)
 |0,_,_=>none
 |f+1,.nil,i=>bif i==0 then some (.node (some x) .nil .nil) else bif i%2==1 then (bR.set x f .nil (i/2)).map (.node none · .nil) else (bR.set x f .nil (i/2-1)).map (.node none .nil ·)
 |f+1,.node v l r,i=>bif i==0 then some (.node (some x) l r) else bif i%2==1 then (bR.set x f l (i/2)).map (.node v · r) else (bR.set x f r (i/2-1)).map (.node v l ·)
theorem bR.nY {α:Type} (x:α):∀(f:Nat) (t da:bR α) (i j:Nat),bR.set x f t i=some da->da.get j=if j=i then some x else t.get j
 |0,_,_,_,_,h=>by simp [bR.set] at h
 |f+1,.nil,da,i,j,h=>by
  unfold bR.set at h;by_cases ag:i=0
  ·subst ag
   simp only [beq_self_eq_true,bx,cE] at h;subst h;by_cases hj:j=0
   ·simp [hj,bR.get]
   ·have gR:(j==0)=false:=by simpa using hj
    by_cases hm:j%2=1<;>simp [hj,gR,bR.get,hm]
  ·have lv:(i==0)=false:=by simpa using ag
   rw[lv,ek] at h;by_cases hm:i%2=1
   ·rw[show (i%2==1)=true by simpa using hm,bx] at h
    obtain⟨u,hu,rfl⟩:=Option.map_eq_some_iff.1 h;have ck:=bR.nY x f .nil u (i/2) (j/2) hu;by_cases hj:j=0
    ·subst hj;simp [bR.get,Ne.symm ag]
    ·simp only [bR.get,show (j==0)=false by simpa using hj,ek]
     by_cases rM:j%2=1
     ·rw[show (j%2==1)=true by simpa using rM,bx,ck]
      by_cases he:j=i
      ·simp [he]
      ·rw[aU he,aU ar];rfl
     ·rw[show (j%2==1)=false by simpa using rM,ek,aU ar]
   ·rw[show (i%2==1)=false by simpa using hm,ek] at h
    obtain⟨u,hu,rfl⟩:=Option.map_eq_some_iff.1 h;have ck:=bR.nY x f .nil u (i/2-1) (j/2-1) hu;by_cases hj:j=0
    ·subst hj;simp [bR.get,Ne.symm ag]
    ·simp only [bR.get,show (j==0)=false by simpa using hj,ek]
     by_cases rM:j%2=1
     ·rw[show (j%2==1)=true by simpa using rM,bx,aU ar]
     ·rw[show (j%2==1)=false by simpa using rM,ek,ck]
      by_cases he:j=i
      ·simp [he]
      ·rw[aU he,aU ar];rfl
 |f+1,.node v l r,da,i,j,h=>by
  unfold bR.set at h;by_cases ag:i=0
  ·subst ag
   simp only [beq_self_eq_true,bx,cE] at h;subst h;by_cases hj:j=0
   ·simp [hj,bR.get]
   ·have gR:(j==0)=false:=by simpa using hj
    simp [hj,gR,bR.get]
  ·have lv:(i==0)=false:=by simpa using ag
   rw[lv,ek] at h;by_cases hm:i%2=1
   ·rw[show (i%2==1)=true by simpa using hm,bx] at h
    obtain⟨u,hu,rfl⟩:=Option.map_eq_some_iff.1 h;have ck:=bR.nY x f l u (i/2) (j/2) hu;by_cases hj:j=0
    ·subst hj;simp [bR.get,Ne.symm ag]
    ·simp only [bR.get,show (j==0)=false by simpa using hj,ek]
     by_cases rM:j%2=1
     ·rw[show (j%2==1)=true by simpa using rM,bx,bx,ck]
      by_cases he:j=i
      ·simp [he]
      ·rw[aU he,aU ar]
     ·rw[show (j%2==1)=false by simpa using rM,ek,ek,aU ar]
   ·rw[show (i%2==1)=false by simpa using hm,ek] at h
    obtain⟨u,hu,rfl⟩:=Option.map_eq_some_iff.1 h;have ck:=bR.nY x f r u (i/2-1) (j/2-1) hu;by_cases hj:j=0
    ·subst hj;simp [bR.get,Ne.symm ag]
    ·simp only [bR.get,show (j==0)=false by simpa using hj,ek]
     by_cases rM:j%2=1
     ·rw[show (j%2==1)=true by simpa using rM,bx,bx,aU ar]
     ·rw[show (j%2==1)=false by simpa using rM,ek,ek,ck]
      by_cases he:j=i
      ·simp [he]
      ·rw[aU he,aU ar]
def dead:Nat:=1099511627776
def cp:J:= .complex .f32 77 77
structure j2 where
 key:J
 val:J
 born:Nat
def eQ:Nat:=1000000
class a7 where
 σ:Nat->J
 one:∀k,(∀cs,σ k≠.agg cs/\σ k≠.tuple cs)
 df:Nat->Option Obj
 ac2:∀g,σ (eQ+g)= .pointer (some ⟨g,0,none⟩)
def al (k:Nat):J:= .complex .f64 k 0
structure AP where
 state:LoopState
 pending:Option Code
 sl:bR J
 N:Nat
 params:List Tmp
 assign:Code
 body:Code
 E1:Nat
inductive CQ where
 |xP (s:ByteArray) (pos:Nat)
 |deferred
 |gone
 |loop (l:AP)
inductive qT where
 |cells (c:List J)
 |map (es:List j2) (ao6:Nat)
 |gh (x:CQ)
structure hR where
 obj:qT
 cN:Nat
 pos:Nat
 eF:Nat
 ro:Bool
 ty:aJ
structure a' where
 bl:bR hR
 n:Nat
 mem:bR (List Nat)
 low:Nat
structure hz where
 bk:Nat
 sh:Nat
 eF:Nat
 AQ:Nat
abbrev bV:=Nat->Option hz
mutual
def plain:J->Bool
 | .bool _| .int .. | .float .. | .string _| .pointer none| .map none| .chan none| .nilFunc| .nilIface=>true
 | .slice none l c=>l==0&&c==0
 | .func (.func _) ⟨[]⟩ ⟨[]⟩=>true
 | .iface _ v=>plain v
 | .agg ⟨l⟩=>o7 l
 | .tuple ⟨l⟩=>o7 l
 |_=>false
def o7:List J->Bool
 |[]=>true
 |v::r=>plain v&&o7 r
end
variable [a7]
inductive aD (φ:bV):J->J->Prop where
 |cp (aB:J):aD φ cp aB
 |sym (k:Nat):aD φ (al k) (a7.σ k)
 |bool (b:Bool):aD φ (.bool b) (.bool b)
 |int (k:IntKind) (n:Int):aD φ (.int k n) (.int k n)
 |float (k:FloatKind) (b:Nat):aD φ (.float k b) (.float k b)
 |string (s:ByteArray):aD φ (.string s) (.string s)
 |zj:aD φ (.pointer none) (.pointer none)
 |ptr {b o:Nat} {e:hz} (h:φ b=some e):aD φ (.pointer (some ⟨b,o,none⟩)) (.pointer (some ⟨e.bk,e.sh+o,none⟩))
 |slnil (l c:Nat):aD φ (.slice none l c) (.slice none l c)
 |iH {o c':Nat} (aW:Addr) (h:o=0->c'=0):aD φ (.slice (some ⟨dead,o,none⟩) 0 0) (.slice (some aW) 0 c')
 |ia {b o:Nat} {e:hz} (n c:Nat) (h:φ b=some e):aD φ (.slice (some ⟨b,o,none⟩) n c) (.slice (some ⟨e.bk,e.sh+o,none⟩) n c)
 |ib {b o:Nat} {e:hz} (n c c':Nat) (h:φ b=some e) (aw:1<=e.eF) (aq:c<=c') (hl:e.sh+o+c'*e.eF<=e.AQ):aD φ (.slice (some ⟨b,o,none⟩) n c) (.slice (some ⟨e.bk,e.sh+o,none⟩) n c')
 |AR:aD φ (.map none) (.map none)
 |map {b:Nat} {e:hz} (h:φ b=some e):aD φ (.map (some b)) (.map (some e.bk))
 |chan:aD φ (.chan none) (.chan none)
 |func {fn:Fn} (fs kn cs cs':Array J) (av:∀l,fn≠.yield l) (ad:fs.size=kn.size) (af:cs.size=cs'.size) (aO:∀i,i<fs.size->aD φ (fs.getD i undef) (kn.getD i undef)) (aq:∀i,i<cs.size->aD φ (cs.getD i undef) (cs'.getD i undef)):aD φ (.func fn fs cs) (.func fn kn cs')
 |tQ {b:Nat} {e:hz} (h:φ b=some e):aD φ (.func (.yield b) #[] #[]) (.func (.yield e.bk) #[] #[])
 |nilFunc:aD φ .nilFunc .nilFunc
 |nilIface:aD φ .nilIface .nilIface
 |iface (t:aJ) {v aB:J} (h:aD φ v aB):aD φ (.iface t v) (.iface t aB)
 |agg (cs cs':Array J) (ad:cs.size=cs'.size) (h:∀i,i<cs.size->aD φ (cs.getD i undef) (cs'.getD i undef)):aD φ (.agg cs) (.agg cs')
 |tuple (cs cs':Array J) (ad:cs.size=cs'.size) (h:∀i,i<cs.size->aD φ (cs.getD i undef) (cs'.getD i undef)):aD φ (.tuple cs) (.tuple cs')
theorem aD.zk (φ:bV):aD φ undef undef:= .tuple _ _ rfl λi h=>absurd h (by simp)
theorem aD.mono {φ cZ:bV} (h1:∀b e,φ b=some e->cZ b=some e) {v aB:J} (h:aD φ v aB):aD cZ v aB:=by
 induction h with
 |cp aB=>exact .cp aB
 |sym k=>exact .sym k
 |bool b=>exact .bool b
 |int k n=>exact .int k n
 |float k b=>exact .float k b
 |string s=>exact .string s
 |zj=>exact .zj
 |ptr h=>exact .ptr (h1 _ _ h)
 |slnil l c=>exact .slnil l c
 |iH aW h=>exact .iH aW h
 |ia n c h=>exact .ia n c (h1 _ _ h)
 |ib n c c' h aw aq hl=>exact .ib n c c' (h1 _ _ h) aw aq hl
 |AR=>exact .AR
 |map h=>exact .map (h1 _ _ h)
 |chan=>exact .chan
 |func fs kn cs cs' av ad af _ _ sE sF=>exact .func fs kn cs cs' av ad af sE sF
 |tQ h=>exact .tQ (h1 _ _ h)
 |nilFunc=>exact .nilFunc
 |nilIface=>exact .nilIface
 |iface t _ ck=>exact .iface t ck
 |agg cs cs' ad _ ck=>exact .agg cs cs' ad ck
 |tuple cs cs' ad _ ck=>exact .tuple cs cs' ad ck
mutual
theorem aD.kb (φ:bV):∀v:J,plain v=true->aD φ v v
 | .bool b,_=> .bool b
 | .int k n,_=> .int k n
 | .float k b,_=> .float k b
 | .string s,_=> .string s
 | .pointer none,_=> .zj
 | .map none,_=> .AR
 | .chan none,_=> .chan
 | .nilFunc,_=> .nilFunc
 | .nilIface,_=> .nilIface
 | .slice none l c,_=> .slnil l c
 | .func (.func f) ⟨[]⟩ ⟨[]⟩,_=> .func _ _ _ _ (λl h=>by cases h) U U (λi h=>absurd h (by simp)) (λi h=>absurd h (by simp))
 | .iface t v,h=> .iface t (aD.kb φ v (by simpa [plain] using h))
 | .agg ⟨l⟩,h=> .agg _ _ rfl λi ag=>by
     have:=aD.L3 φ l (by simpa [plain] using h) i ag;simpa using this
 | .tuple ⟨l⟩,h=> .tuple _ _ rfl λi ag=>by
     have:=aD.L3 φ l (by simpa [plain] using h) i ag;simpa using this
theorem aD.L3 (φ:bV):∀l:List J,o7 l=true->∀i,i<l.length->aD φ (l.getD i Go.undef) (l.getD i Go.undef)
 |[],_,i,ag=>absurd ag (by simp)
 |v::r,h,0,_=>by
   have:=aD.kb φ v (by simp [o7] at h;exact h.1);simpa using this
 |v::r,h,i+1,ag=>by
   have:=aD.L3 φ r (by simp [o7] at h;exact h.2) i (by simpa using ag);simpa using this
end
end AE
end
namespace AE
variable [a7]
structure AS (A:a'):Prop where
 lt:∀b k,A.bl.get b=some k->b<A.n
 tR:∀b k,A.bl.get b=some k->k.cN<A.n
 mem:∀b k,A.bl.get b=some k->∃l,A.mem.get k.cN=some l/\b∈l
 u3:∀b k b' k',A.bl.get b=some k->A.bl.get b'=some k'->k.cN=k'.cN->k.ro=k'.ro
def rN (φ:bV):CQ->Obj->Prop
 | .xP s p,o=>o= .stringIter s p
 | .deferred,o=>o= .deferred (some [])
 | .gone,o=>o= .deferred none
 | .loop l,o=>∃r:Loop,o= .loop r/\r.state=l.state/\r.pending=l.pending/\r.tmps.size=l.N/\r.params=⟨l.params⟩/\r.assign=l.assign/\r.body=l.body/\(∃e,φ l.E1=some e/\r.defers=e.bk)/\
     (∀t v,l.sl.get t=some v->aD φ v (r.tmps.getD t undef))
theorem rN.T6 {φ:bV} {x:CQ} {c:Array J} {t:aJ} {f:Nat×Nat} (h:rN φ x (.cells c t f)):False:=by
 cases x with
 |xP s p=>cases h
 |deferred=>cases h
 |gone=>cases h
 |loop l=>obtain⟨r,h,_⟩:=h;cases h
theorem rN.mono {φ cZ:bV} {x:CQ} {o:Obj} (h1:∀b e,φ b=some e->cZ b=some e) (h:rN φ x o):rN cZ x o:=by
 cases x with
 |xP s p=>exact h
 |deferred=>exact h
 |gone=>exact h
 |loop l=>
  obtain⟨r,aM,ad,af,ay,bD,cD,cI,⟨e,fK,o8⟩,xQ⟩:=h;exact⟨r,aM,ad,af,ay,bD,cD,cI,⟨e,h1 _ _ fK,o8⟩,λt v aC=>(xQ t v aC).mono h1⟩
def fL (φ:bV) (w:ax) (e:hz) (k:hR):Prop:=
 match k.obj with
 | .cells c=>∃c' iW,w.heap[e.bk]? =some (.cells c' k.ty iW)/\e.AQ=c'.size/\(e.sh+c.length<=c'.size/\(k.eF=0->e.sh=0/\c.length=c'.size))/\
     (∀j,j<c.length->aD φ (c.getD j undef) (c'.getD (e.sh+j) undef))/\(k.ro=false->∀i,i<c'.size->¬(iW.1<=i/\i<iW.2))
 | .map es eU=>∃dg,w.heap[e.bk]? =some (.map dg eU)/\es.length=dg.size/\
     ∀(j:Nat) (a:j2) (b:MapEntry),es[j]? =some a->dg[j]? =some b->plain a.key=true/\a.key=b.key/\aD φ a.val b.val/\a.born=b.born
 | .gh x=>e.sh=0/\∃o',w.heap[e.bk]? =some o'/\rN φ x o'
structure bU (φ:bV) (A:a') (w:ax):Prop where
 wf:AS A
 eo:∀b e,φ b=some e->∃k,A.bl.get b=some k/\e.eF=k.eF/\fL φ w e k
 apart:∀b e k b' e' k',φ b=some e->φ b'=some e'->A.bl.get b=some k->A.bl.get b'=some k'->k.cN≠k'.cN->e.bk≠e'.bk
 along:∀b e k b' e' k',φ b=some e->φ b'=some e'->A.bl.get b=some k->A.bl.get b'=some k'->k.cN=k'.cN->e.bk=e'.bk->e.sh+k'.pos=e'.sh+k.pos
 df:∀i o,a7.df i=some o->w.heap[i]? =some o/\∀b e,φ b=some e->e.bk≠i
abbrev ic (_:ax):Nat:=0
structure cw (φ:bV) (A:a') (w:ax) (cZ:bV) (a_:a') (w':ax):Prop where
 rel:bU cZ a_ w'
 eo:∀b,b<A.n->cZ b=φ b
 rO:∀b,A.n<=b->b<a_.n->cZ b≠none
 new:∀b e,A.n<=b->cZ b=some e->w.heap.size<=e.bk\/∃cB e0 d',φ cB=some e0/\e0.bk=e.bk/\a_.low<=cB/\A.bl.get cB=some d'/\d'.ro=false
 qi:A.n<=a_.n
 low:a_.low<=A.low
 same:∀b,b<A.n->b<a_.low->a_.bl.get b=A.bl.get b
 ro:∀b k,A.bl.get b=some k->k.ro=true->a_.bl.get b=some k
 keep:∀i,i<w.heap.size->(∀b e k,φ b=some e->e.bk=i->A.bl.get b=some k->k.ro=true)->w'.heap[i]? =w.heap[i]?
 gD:w.heap.size<=w'.heap.size
 os:w'.os=w.os
 tape:w'.tape=w.tape
 output:w'.output=w.output
 drawn:ic w<=ic w'
theorem bU.lt {φ:bV} {A:a'} {w:ax} (h:bU φ A w) {b:Nat} {e:hz} (ae:φ b=some e):b<A.n:=by
 obtain⟨k,aj,_⟩:=h.eo b e ae;exact h.wf.lt b k aj
theorem cw.ext {φ cZ:bV} {A a_:a'} {w w':ax} (h:cw φ A w cZ a_ w') (ao:bU φ A w):∀b e,φ b=some e->cZ b=some e:=λb e ae=>by
 rw[h.eo b (ao.lt ae)];exact ae
theorem cw.refl {φ:bV} {A:a'} {w:ax} (h:bU φ A w):cw φ A w φ A w where
 rel:=h
 eo:=λ_ _=>rfl
 rO:=λb ad af=>by omega
 new:=λb e ad af=>absurd (h.lt af) ar
 qi:=b2 _
 low:=b2 _
 same:=λ_ _ _=>rfl
 ro:=λ_ _ h _=>h
 keep:=λ_ _ _=>rfl
 gD:=b2 _
 os:=rfl
 tape:=rfl
 output:=rfl
 drawn:=b2 _
theorem cw.trans {φ gE fh:bV} {A bB fl:a'} {w w1 w2:ax} (ao:bU φ A w) (ad:cw φ A w gE bB w1) (af:cw gE bB w1 fh fl w2):cw φ A w fh fl w2 where
 rel:=af.rel
 eo:=λb ae=>by rw[af.eo b (Nat.lt_of_lt_of_le ae ad.qi),ad.eo b ae]
 rO:=λb h fm=>by
  rcases Nat.lt_or_ge b bB.n with b8|ko
  ·rw[af.eo b b8];exact ad.rO b h b8
  ·exact af.rO b ko fm
 new:=by
  have first:∀b e,A.n<=b->gE b=some e->w.heap.size<=e.bk\/∃cB e0 d',φ cB=some e0/\e0.bk=e.bk/\fl.low<=cB/\A.bl.get cB=some d'/\d'.ro=false:=λb e ae he=>by
   rcases ad.new b e ae he with h|⟨cB,e0,d',q1,aE,ca,ey,hh⟩
   ·exact .inl h
   ·exact .inr ⟨cB,e0,d',q1,aE,Nat.le_trans af.low ca,ey,hh⟩
  intro b e ae he;rcases Nat.lt_or_ge b bB.n with b8|ko
  ·rw[af.eo b b8] at he
   exact first b e ae he
  ·rcases af.new b e ko he with h|⟨cB,e0,d',q1,aE,ca,ey,hh⟩
   ·exact .inl (Nat.le_trans ad.gD h)
   ·rcases Nat.lt_or_ge cB A.n with b8|ac3
    ·rw[ad.eo cB b8] at q1
     obtain⟨k,aj,_⟩:=ao.eo cB e0 q1;refine .inr ⟨cB,e0,k,q1,aE,ca,aj,?_⟩;cases dE:k.ro with
     |false=>rfl
     |true=>
      have:=ad.ro cB k aj dE;rw[ey] at this;cases this;rw[hh] at dE;exact dE.symm▸rfl
    ·rcases first cB e0 ac3 q1 with h|⟨j3,e1,db,cJ,dk,fQ,xR,CR⟩
     ·exact .inl ar
     ·exact .inr ⟨j3,e1,db,cJ,dk.trans aE,fQ,xR,CR⟩
 qi:=Nat.le_trans ad.qi af.qi
 low:=Nat.le_trans af.low ad.low
 same:=λb ae hl=>by rw[af.same b (Nat.lt_of_lt_of_le ae ad.qi) hl,ad.same b ae (Nat.lt_of_lt_of_le hl af.low)]
 ro:=λb k aj dE=>af.ro b k (ad.ro b k aj dE) dE
 keep:=λi ag la=>by
  rw[af.keep i (Nat.lt_of_lt_of_le ag ad.gD) ?_,ad.keep i ag la];intro b e k ae he aj;rcases Nat.lt_or_ge b A.n with b8|ko
  ·rw[ad.eo b b8] at ae
   obtain⟨d',hK,_⟩:=ao.eo b e ae;have dE:=la b e d' ae he hK;have:=ad.ro b d' hK dE;rw[aj] at this;cases this;exact dE
  ·rcases ad.new b e ko ae with h|⟨cB,e0,d',q1,aE,ca,ey,hh⟩
   ·omega
   ·have:=la cB e0 d' q1 (aE.trans he) ey
    rw[hh] at this;cases this
 gD:=Nat.le_trans ad.gD af.gD
 os:=af.os.trans ad.os
 tape:=af.tape.trans ad.tape
 output:=af.output.trans ad.output
 drawn:=Nat.le_trans ad.drawn af.drawn
theorem cw.zl {φ:bV} {A:a'} {w:ax} (h:bU φ A w) (n:Nat) (bc:w.drawn<=n:=by omega):cw φ A w φ A {w with drawn:=n}:=
 {cw.refl h with rel:=⟨h.wf,h.eo,h.apart,h.along,h.df⟩,keep:=λ_ _ _=>rfl,drawn:=b2 _}
def depth:Nat:=30
def a'.push (A:a') (o:qT) (st:Nat) (ty:aJ):Option (Nat×a'):=
 match bR.set {obj:=o,cN:=A.n,pos:=0,eF:=st,ro:=false,ty:=ty:hR} depth A.bl A.n,bR.set [A.n] depth A.mem A.n with
 |some bl,some mem=>some (A.n,{A with bl,mem,n:=A.n+1})
 |_,_=>none
def hc (φ:bV) (b:Nat) (e:hz):bV:=λi=>if i=b then some e else φ i
omit [a7] in
theorem AS.push {A a_:a'} {o:qT} {st:Nat} {ty:aJ} {r:Nat} (h:AS A) (hp:A.push o st ty=some (r,a_)):
  AS a_/\r=A.n/\a_.n=A.n+1/\a_.low=A.low/\(∀b,a_.bl.get b=if b=A.n then some {obj:=o,cN:=A.n,pos:=0,eF:=st,ro:=false,ty:=ty} else A.bl.get b):=by
 unfold a'.push at hp;split at hp
 ·rename_i bl mem ae hm
  simp only [cE,Prod.mk.injEq] at hp;obtain⟨rfl,rfl⟩:=hp;have u4:=λb=>bR.nY _ _ _ _ _ b ae
  have mE:=λb=>bR.nY _ _ _ _ _ b hm
  refine⟨⟨?_,?_,?_,?_⟩,rfl,rfl,rfl,u4⟩
  ·intro b k aj
   simp only at aj ⊢;rw[u4] at aj;split at aj
   ·omega
   ·have:=h.lt b k aj;omega
  ·intro b k aj
   simp only at aj ⊢;rw[u4] at aj;split at aj
   ·cases aj;simp
   ·have:=h.tR b k aj;omega
  ·intro b k aj
   simp only at aj ⊢;rw[u4] at aj;split at aj
   ·rename_i ae
    cases aj;exact⟨[A.n],by rw[mE,aQ rfl],by simp [ae]⟩
   ·obtain⟨l,hl,tS⟩:=h.mem b k aj
    exact⟨l,by rw[mE,aU (by have:=h.tR b k aj;omega)];exact hl,tS⟩
  ·intro b k b' k' aj dt aO
   simp only at aj dt;rw[u4] at aj dt;split at aj
   ·cases aj
    split at dt
    ·cases dt;rfl
    ·have:=h.tR b' k' dt;simp only at aO;omega
   ·split at dt
    ·cases dt
     have:=h.tR b k aj;simp only at aO;omega
    ·exact h.u3 b k b' k' aj dt aO
 ·cases hp
theorem fL.mono {φ cZ:bV} {w w':ax} {e:hz} {k:hR} (h1:∀b e,φ b=some e->cZ b=some e) (hw:w'.heap[e.bk]? =w.heap[e.bk]?) (h:fL φ w e k):fL cZ w' e k:=by
 unfold fL at*
 cases aj:k.obj with
 |cells c=>
  simp only [aj] at h ⊢;obtain⟨c',iW,ad,af,ay,bD,cD⟩:=h;exact⟨c',iW,hw.trans ad,af,ay,λj hj=>(bD j hj).mono h1,cD⟩
 |map es eU=>
  simp only [aj] at h ⊢;obtain⟨dg,ad,af,ay⟩:=h;refine⟨dg,hw.trans ad,af,λj a b ha ae=> ?_⟩;obtain⟨q1,aE,ca,ey⟩:=ay j a b ha ae;exact⟨q1,aE,ca.mono h1,ey⟩
 |gh x=>
  simp only [aj] at h ⊢;obtain⟨aM,o',ad,af⟩:=h;exact⟨aM,o',hw.trans ad,af.mono h1⟩
theorem fL.lt {φ:bV} {w:ax} {e:hz} {k:hR} (h:fL φ w e k):e.bk<w.heap.size:=by
 unfold fL at h;cases aj:k.obj with
 |cells c=>
  simp only [aj] at h;obtain⟨c',iW,ad,_⟩:=h;exact(Array.getElem?_eq_some_iff.1 ad).1
 |map es eU=>
  simp only [aj] at h;obtain⟨dg,ad,_⟩:=h;exact(Array.getElem?_eq_some_iff.1 ad).1
 |gh x=>
  simp only [aj] at h;obtain⟨aM,o',ad,af⟩:=h;exact(Array.getElem?_eq_some_iff.1 ad).1
theorem CS {φ:bV} {A a_:a'} {w:ax} {o:qT} {st:Nat} {ty:aJ} {r:Nat} {o':Obj} {e:hz} (ao:bU φ A w) (hp:A.push o st ty=some (r,a_)) (he:e.bk=w.heap.size) (cP:e.eF=st)
  (ho:fL (hc φ r e) {w with heap:=w.heap.push o'} e {obj:=o,cN:=A.n,pos:=0,eF:=st,ro:=false,ty:=ty}):
  cw φ A w (hc φ r e) a_ {w with heap:=w.heap.push o'}:=by
 obtain⟨u5,rfl,av,mF,gF⟩:=ao.wf.push hp;have hold:∀b e1,φ b=some e1->hc φ A.n e b=some e1:=λb e1 ae=>by
  unfold hc;rw[aU (by have:=ao.lt ae;omega)];exact ae
 have rP:∀i,i<w.heap.size->(w.heap.push o')[i]? =w.heap[i]? :=λi ag=>by
  rw[Array.getElem?_push,aU ar]
 have me:∀b e1,hc φ A.n e b=some e1->(b=A.n/\e1=e)\/(b≠A.n/\φ b=some e1):=λb e1 ae=>by
  unfold hc at ae;split at ae
  ·rename_i h;cases ae;exact .inl ⟨h,rfl⟩
  ·rename_i h;exact .inr ⟨h,ae⟩
 refine {rel:=⟨u5,?_,?_,?_,λi o ag=>by
   obtain⟨ad,af⟩:=ao.df i o ag;have b8:i<w.heap.size:=(Array.getElem?_eq_some_iff.1 ad).1;refine⟨by rw[rP i b8];exact ad,λb e1 ae=> ?_⟩;rcases me b e1 ae with ⟨rfl,rfl⟩|⟨_,ae⟩
   ·omega
   ·exact af b e1 ae⟩,eo:= ?_,rO:= ?_,new:= ?_,qi:=by omega,low:=by omega,same:= ?_,ro:= ?_,keep:= ?_,gD:=by simp,os:=rfl,tape:=rfl,output:=rfl,drawn:=b2 _}
 ·intro b e1 ae
  rcases me b e1 ae with ⟨rfl,rfl⟩|⟨cO,ae⟩
  ·exact⟨_,by rw[gF,aQ rfl],cP,ho⟩
  ·obtain⟨k,aj,ad,af⟩:=ao.eo b e1 ae
   exact⟨k,by rw[gF,aU cO];exact aj,ad,af.mono hold (rP _ af.lt)⟩
 ·intro b e1 k b' oD k' ae dR aj dt cO
  rw[gF] at aj dt;rcases me b e1 ae with ⟨rfl,rfl⟩|⟨jb,sG⟩
  ·rcases me b' oD dR with ⟨rfl,rfl⟩|⟨lb,qU⟩
   ·rw[aQ rfl] at aj dt;cases aj;cases dt;exact absurd rfl cO
   ·obtain⟨db,_,_,af⟩:=ao.eo b' oD qU
    have:=af.lt;omega
  ·rcases me b' oD dR with ⟨rfl,rfl⟩|⟨lb,qU⟩
   ·obtain⟨db,_,_,af⟩:=ao.eo b e1 sG
    have:=af.lt;omega
   ·rw[aU jb] at aj;rw[aU lb] at dt
    exact ao.apart b e1 k b' oD k' sG qU aj dt cO
 ·intro b e1 k b' oD k' ae dR aj dt nZ jz
  rw[gF] at aj dt;rcases me b e1 ae with ⟨rfl,rfl⟩|⟨jb,sG⟩
  ·rcases me b' oD dR with ⟨rfl,rfl⟩|⟨lb,qU⟩
   ·rw[aQ rfl] at aj dt;cases aj;cases dt;rfl
   ·obtain⟨db,_,_,af⟩:=ao.eo b' oD qU
    have:=af.lt;omega
  ·rcases me b' oD dR with ⟨rfl,rfl⟩|⟨lb,qU⟩
   ·obtain⟨db,_,_,af⟩:=ao.eo b e1 sG
    have:=af.lt;omega
   ·rw[aU jb] at aj;rw[aU lb] at dt
    exact ao.along b e1 k b' oD k' sG qU aj dt nZ jz
 ·intro b ae
  unfold hc;rw[aU ar]
 ·intro b ad af
  have:b=A.n:=by omega
  subst this;simp [hc]
 ·intro b e1 ad ae
  rcases me b e1 ae with ⟨rfl,rfl⟩|⟨jb,ae⟩
  ·exact .inl ar
  ·exact absurd (ao.lt ae) ar
 ·intro b ae _
  rw[gF,aU ar]
 ·intro b k aj _
  rw[gF,aU (by have:=ao.wf.lt b k aj;omega)];exact aj
 ·intro i ag _
  exact rP i ag
end AE
namespace AE
variable [a7]
def a'.load (A:a') (b off:Nat):Option J:=
 match A.bl.get b with
 |some {obj:= .cells c,..}=>c[off]?
 |_=>none
theorem u6 {φ:bV} {A:a'} {w:ax} (ao:bU φ A w) {b off:Nat} {v:J} {e:hz} (h:A.load b off=some v) (he:φ b=some e):
  ∃aB,w.cell? ⟨e.bk,e.sh+off,none⟩=some aB/\aD φ v aB:=by
 obtain⟨k,aj,_,ho⟩:=ao.eo b e he;unfold a'.load at h;rw[aj] at h;obtain⟨tT,cN,pos,eF,ro,ty⟩:=k;cases tT with
 |cells c=>
  simp only [fL] at h ho;obtain⟨c',iW,ad,af,ay,bD,cD⟩:=ho;obtain⟨b8,aC⟩:=List.getElem?_eq_some_iff.1 h;refine⟨c'.getD (e.sh+off) undef,?_,?_⟩
  ·simp only [World.cell?,ad]
   simp [show e.sh+off<c'.size by omega]
  ·have:=bD off b8
   rw[dh,h] at this;simpa using this
 |map es eU=>simp at h
 |gh x=>simp at h
def kQ (pos:Nat) (k:hR):hR:=
 bif k.ro then k else
 match k.obj with
 | .cells c=>bif Nat.ble k.pos pos then {k with obj:= .cells (c.set (pos-k.pos) cp)} else k
 |_=>k
omit [a7] in
theorem AT (pos:Nat) (k:hR):(kQ pos k).cN=k.cN/\(kQ pos k).pos=k.pos/\(kQ pos k).eF=k.eF/\(kQ pos k).ro=k.ro/\kQ pos (kQ pos k)=kQ pos k/\(k.ro=true->kQ pos k=k)/\(kQ pos k).ty=k.ty:=by
 obtain⟨tT,cN,p,st,ro,ty⟩:=k;cases ro with
 |true=>simp [kQ]
 |false=>
  cases tT with
  |cells c=>cases h:Nat.ble p pos<;>simp [kQ,h]
  |map es eU=>simp [kQ]
  |gh x=>simp [kQ]
omit [a7] in
theorem ac4 (pos:Nat) (k:hR):(kQ pos k).cN=k.cN:=(AT pos k).1
omit [a7] in
theorem ac5 (pos:Nat) (k:hR):(kQ pos k).pos=k.pos:=(AT pos k).2.1
omit [a7] in
theorem L4 (pos:Nat) (k:hR):(kQ pos k).eF=k.eF:=(AT pos k).2.2.1
omit [a7] in
theorem ac6 (pos:Nat) (k:hR):(kQ pos k).ro=k.ro:=(AT pos k).2.2.2.1
omit [a7] in
theorem ac7 (pos:Nat) (k:hR):(kQ pos k).ty=k.ty:=(AT pos k).2.2.2.2.2.2
omit [a7] in
theorem ac8 (pos:Nat) (k:hR):kQ pos (kQ pos k)=kQ pos k:=(AT pos k).2.2.2.2.1
def zm (pos b:Nat):List Nat->bR hR->Option (bR hR)
 |[],t=>some t
 |m::r,t=>bif m==b then zm pos b r t else
  match t.get m with
  |some k=>match bR.set (kQ pos k) depth t m with
   |some da=>zm pos b r da
   |none=>none
  |none=>zm pos b r t
omit [a7] in
theorem Ix (pos b:Nat):∀(l:List Nat) (t da:bR hR),zm pos b l t=some da->
  ∀j,da.get j=if j∈l/\j≠b then (t.get j).map (kQ pos) else t.get j
 |[],t,da,h,j=>by simp [zm] at h;simp [h]
 |m::r,t,da,h,j=>by
  unfold zm at h;by_cases hm:m=b
  ·rw[show (m==b)=true by simpa using hm,bx] at h
   rw[Ix pos b r t da h j];subst hm;by_cases hj:j∈r/\j≠m
   ·rw[aQ hj,aQ ⟨List.mem_cons_of_mem _ hj.1,hj.2⟩]
   ·rw[aU hj,aU]
    rintro ⟨ad,af⟩;rcases List.mem_cons.1 ad with ad|ad
    ·exact af ad
    ·exact hj ⟨ad,af⟩
  ·rw[show (m==b)=false by simpa using hm,ek] at h
   cases aA:t.get m with
   |none=>
    rw[aA] at h;rw[Ix pos b r t da h j];by_cases e6:j=m
    ·subst e6
     rw[aA];split<;>split<;>rfl
    ·have:(j∈m::r/\j≠b)↔(j∈r/\j≠b):=by simp [e6]
     simp only [this]
   |some k=>
    rw[aA] at h;simp only at h;cases aw:bR.set (kQ pos k) depth t m with
    |none=>rw[aw] at h;cases h
    |some t1=>
     rw[aw] at h;have gF:=λj=>bR.nY _ _ _ _ _ j aw
     rw[Ix pos b r t1 da h j,gF];by_cases e6:j=m
     ·subst e6
      rw[aQ rfl,aQ (show j∈j::r/\j≠b from ⟨List.mem_cons_self,hm⟩),aA];split
      ·simp [ac8]
      ·simp
     ·rw[aU e6]
      have:(j∈m::r/\j≠b)↔(j∈r/\j≠b):=by simp [e6]
      simp only [this]
def a'.store (A:a') (b off:Nat) (v:J):Option a':=
 match A.bl.get b with
 |some k=>
  bif k.ro then none else
  match k.obj with
  | .cells c=>bif Nat.blt off c.length then
      match A.mem.get k.cN,bR.set {k with obj:= .cells (c.set off v)} depth A.bl b with
      |some l,some t=>match zm (k.pos+off) b l t with
       |some da=>some {A with bl:=da,low:=l.foldl Nat.min A.low}
       |none=>none
      |_,_=>none
    else none
  |_=>none
 |none=>none
omit [a7] in
theorem Iy:∀(l:List Nat) (x:Nat),l.foldl Nat.min x<=x/\∀m∈l,l.foldl Nat.min x<=m
 |[],x=>⟨b2 _,λm h=>by cases h⟩
 |a::r,x=>by
  obtain⟨ad,af⟩:=Iy r (Nat.min x a);refine⟨Nat.le_trans ad (Nat.min_le_left _ _),λm hm=> ?_⟩;rcases List.mem_cons.1 hm with rfl|hm
  ·exact Nat.le_trans ad (Nat.min_le_right _ _)
  ·exact af m hm
omit [a7] in
theorem ac9 {A a_:a'} {b off:Nat} {v:J} (h:A.store b off v=some a_):
  ∃k c l,A.bl.get b=some k/\k.ro=false/\k.obj= .cells c/\off<c.length/\A.mem.get k.cN=some l/\a_.n=A.n/\a_.mem=A.mem/\a_.low<=A.low/\(∀m∈l,a_.low<=m)/\
   a_.bl.get b=some {k with obj:= .cells (c.set off v)}/\(∀j,j≠b->a_.bl.get j=if j∈l then (A.bl.get j).map (kQ (k.pos+off)) else A.bl.get j):=by
 unfold a'.store at h;cases aj:A.bl.get b with
 |none=>rw[aj] at h;cases h
 |some k=>
  rw[aj] at h;obtain⟨tT,cN,pos,eF,ro,ty⟩:=k;simp only at h;cases ro with
  |true=>cases h
  |false=>
   simp only [ek] at h;cases tT with
   |map es eU=>cases h
   |gh x=>cases h
   |cells c=>
    simp only at h;cases ae:Nat.blt off c.length with
    |false=>rw[ae] at h;cases h
    |true=>
     rw[ae,bx] at h;cases hm:A.mem.get cN with
     |none=>rw[hm] at h;cases h
     |some l=>
      rw[hm] at h;cases aw:bR.set {obj:= .cells (c.set off v),cN:=cN,pos:=pos,eF:=eF,ro:=false,ty:=ty:hR} depth A.bl b with
      |none=>rw[aw] at h;cases h
      |some t=>
       rw[aw] at h;simp only at h;cases hp:zm (pos+off) b l t with
       |none=>rw[hp] at h;cases h
       |some da=>
        rw[hp] at h;simp only [cE] at h;subst h;have gF:=λj=>bR.nY _ _ _ _ _ j aw
        have la:=Ix _ _ _ _ _ hp;obtain⟨f1,f2⟩:=Iy l A.low;refine⟨_,c,l,rfl,rfl,rfl,Nat.blt_eq.mp ae,hm,rfl,rfl,f1,f2,?_,?_⟩
        ·simp only [la,gF]
         simp
        ·intro j hj
         simp only [la,gF,hj,ne_eq,not_false_eq_true,and_true,if_false]
theorem T7 {φ:bV} {A a_:a'} {w:ax} (ao:bU φ A w) {b off:Nat} {v aB:J} {e:hz} (h:A.store b off v=some a_) (he:φ b=some e) (aC:aD φ v aB):
  cw φ A w φ a_ (w.setCell ⟨e.bk,e.sh+off,none⟩ aB)/\(∃u,w.cell? ⟨e.bk,e.sh+off,none⟩=some u)/\w.frozen? ⟨e.bk,e.sh+off,none⟩=false:=by
 obtain⟨k,c,l,aj,dE,fo,b8,mG,av,sH,mF,Iz,T8,n0⟩:=ac9 h;obtain⟨d',hK,cP,ho⟩:=ao.eo b e he;rw[aj] at hK;cases hK;have tS:b∈l:=by
  obtain⟨l',fB,dR⟩:=ao.wf.mem b k aj;rw[mG] at fB;cases fB;exact dR
 have lR:=ho;unfold fL at ho;simp only [fo] at ho;obtain⟨c',iW,ad,af,ay,bD,cD⟩:=ho;have zn:=cD dE;have jz:e.bk<w.heap.size:=lR.lt;have hw:(w.setCell ⟨e.bk,e.sh+off,none⟩ aB).heap[e.bk]? =some (.cells (c'.setIfInBounds (e.sh+off) aB) k.ty iW):=by
  simp only [World.setCell,Array.getElem?_modify,aQ,ad];simp
 have qj:∀i,i≠e.bk->(w.setCell ⟨e.bk,e.sh+off,none⟩ aB).heap[i]? =w.heap[i]? :=λi ag=>by
  simp only [World.setCell,Array.getElem?_modify];rw[aU (Ne.symm ag)]
 have gm:∀j dJ,a_.bl.get j=some dJ->∃b9,A.bl.get j=some b9/\dJ.cN=b9.cN/\dJ.pos=b9.pos/\dJ.eF=b9.eF/\dJ.ro=b9.ro/\dJ.ty=b9.ty:=by
  intro j dJ hj;by_cases tU:j=b
  ·subst tU
   rw[T8] at hj;cases hj;exact⟨k,aj,rfl,rfl,rfl,rfl,rfl⟩
  ·rw[n0 j tU] at hj
   split at hj
   ·obtain⟨b9,ad,rfl⟩:=Option.map_eq_some_iff.1 hj
    exact⟨b9,ad,ac4 _ _,ac5 _ _,L4 _ _,ac6 _ _,ac7 _ _⟩
   ·exact⟨dJ,hj,rfl,rfl,rfl,rfl,rfl⟩
 refine⟨{rel:=⟨⟨?_,?_,?_,?_⟩,?_,?_,?_,λi o ag=>⟨by rw[qj i (Ne.symm ((ao.df i o ag).2 _ _ he))];exact(ao.df i o ag).1,(ao.df i o ag).2⟩⟩,eo:=λ_ _=>rfl,rO:=λb ad af=>by omega,new:=λb e ad af=>absurd (ao.lt af) ar,qi:=by omega,low:=mF,same:= ?_,ro:= ?_,keep:= ?_,gD:=by simp [World.setCell],os:=rfl,tape:=rfl,output:=rfl,drawn:=b2 _},?_,?_⟩
 ·intro j b9 hj
  obtain⟨db,q1,_⟩:=gm j b9 hj;rw[av];exact ao.wf.lt j db q1
 ·intro j b9 hj
  obtain⟨db,q1,aE,_⟩:=gm j b9 hj;rw[av,aE];exact ao.wf.tR j db q1
 ·intro j b9 hj
  obtain⟨db,q1,aE,_⟩:=gm j b9 hj;rw[sH,aE];exact ao.wf.mem j db q1
 ·intro j b9 fC dJ hj gR aO
  obtain⟨db,q1,aE,_,_,ca,_⟩:=gm j b9 hj;obtain⟨u7,u9,AU,_,_,sI,_⟩:=gm fC dJ gR;rw[ca,sI];exact ao.wf.u3 j db fC u7 q1 u9 (by rw[<-aE,<-AU];exact aO)
 ·intro j fY hj
  obtain⟨b9,hM,wD,h6⟩:=ao.eo j fY hj;by_cases tU:j=b
  ·subst tU
   rw[he] at hj;cases hj;rw[aj] at hM;cases hM;refine⟨_,T8,cP,?_⟩;simp only [fL];refine⟨_,_,hw,by simpa using af,by simpa using ay,?_,λ_=>by simpa using zn⟩;intro i ag;simp only [List.length_set] at ag;by_cases kR:i=off
   ·subst kR
    rw[dh,List.getElem?_set_self ag];simp only [fb,Array.getElem?_setIfInBounds,aQ];rw[aQ ar];exact aC
   ·rw[dh,List.getElem?_set_ne (Ne.symm kR),<-dh]
    have:=bD i ag;simp only [fb,Array.getElem?_setIfInBounds] at this ⊢;rw[aU ar];exact this
  ·by_cases xS:fY.bk=e.bk
   ·
    have nZ:b9.cN=k.cN:=by
     rcases Nat.lt_or_ge b9.cN k.cN with h|h
     ·exact absurd xS (ao.apart j fY b9 b e k hj he hM aj ar)
     ·rcases Nat.eq_or_lt_of_le h with h|h
      ·exact h.symm
      ·exact absurd xS (ao.apart j fY b9 b e k hj he hM aj ar)
    have kp:j∈l:=by
     obtain⟨l',fB,dR⟩:=ao.wf.mem j b9 hM;rw[nZ,mG] at fB;cases fB;exact dR
    have ac':=ao.along j fY b9 b e k hj he hM aj nZ xS;refine⟨kQ (k.pos+off) b9,by rw[n0 j tU,aQ kp,hM];rfl,by rw[L4];exact wD,?_⟩;obtain⟨L5,T9,wE,T',IA,T_⟩:=b9;simp only at nZ ac' wD;cases L5 with
    |map es eU=>
     simp only [fL] at h6;obtain⟨dg,g1,_⟩:=h6;rw[xS,ad] at g1;cases g1
    |gh x=>
     simp only [fL] at h6;obtain⟨_,o',g1,g2⟩:=h6;rw[xS,ad] at g1;cases g1;exact absurd g2 λh=>rN.T6 h
    |cells AV=>
     simp only [fL] at h6;obtain⟨E2,E3,g1,g2,g3,g4,kS⟩:=h6;rw[xS,ad] at g1;simp only [cE,Obj.cells.injEq] at g1;obtain⟨rfl,hty,rfl⟩:=g1;have key:∀(eU:List J),eU.length=AV.length->(∀i,i<AV.length->(fY.sh+i=e.sh+off->eU[i]? =some cp)/\(fY.sh+i≠e.sh+off->eU[i]? =AV[i]? \/eU[i]? =some cp))->
       fL φ (w.setCell ⟨e.bk,e.sh+off,none⟩ aB) fY {obj:= .cells eU,cN:=T9,pos:=wE,eF:=T',ro:=IA,ty:=T_}:=by
      intro eU qk fZ;simp only [fL];refine⟨_,_,by rw[xS,<-hty];exact hw,by simpa using g2,by rw[qk];simpa using g3,?_,λ_=>by simpa using zn⟩;intro i ag;rw[qk] at ag;obtain⟨q1,aE⟩:=fZ i ag;by_cases tV:fY.sh+i=e.sh+off
      ·rw[dh,q1 tV]
       exact .cp _
      ·rcases aE tV with q|q
       ·rw[dh,q,<-dh]
        have:=g4 i ag;simp only [fb,Array.getElem?_setIfInBounds] at this ⊢;rw[aU ar];exact this
       ·rw[dh,q]
        exact .cp _
     have rQ:IA=false:=by
      have:=ao.wf.u3 j _ b k hM aj nZ;simpa [dE] using this
     subst rQ;unfold kQ;simp only [ek];cases IB:Nat.ble wE (k.pos+off) with
     |false=>
      simp only [ek];refine key AV rfl λi ag=>⟨λhp=> ?_,λ_=> .inl rfl⟩
      have:¬wE<=k.pos+off:=by
       intro hle;rw[Nat.ble_eq.mpr hle] at IB;cases IB
      omega
     |true=>
      have hle:=Nat.ble_eq.mp IB;simp only [bx];refine key _ (by simp) λi ag=>⟨λhp=> ?_,λhp=> ?_⟩
      ·have:k.pos+off-wE=i:=by omega
       rw[this,List.getElem?_set_self ag]
      ·have:k.pos+off-wE≠i:=by omega
       rw[List.getElem?_set_ne this];exact .inl rfl
   ·
    rw[n0 j tU];by_cases kp:j∈l
    ·rw[aQ kp,hM]
     refine⟨_,rfl,by rw[L4];exact wD,?_⟩;have CT:fL φ (w.setCell ⟨e.bk,e.sh+off,none⟩ aB) fY b9:=h6.mono (λ_ _ h=>h) (qj _ xS);unfold kQ;obtain⟨L5,T9,wE,T',IA,T_⟩:=b9;cases IA with
     |true=>exact CT
     |false=>
     simp only [ek];cases L5 with
     |map es eU=>exact CT
     |gh x=>exact CT
     |cells AV=>
      simp only;cases IB:Nat.ble wE (k.pos+off) with
      |false=>exact CT
      |true=>
       simp only [bx];simp only [fL] at CT ⊢;obtain⟨E2,E3,g1,g2,g3,g4,kS⟩:=CT;refine⟨E2,E3,g1,g2,by simpa using g3,λi ag=> ?_,kS⟩;simp only [List.length_set] at ag;by_cases Ua:k.pos+off-wE=i
       ·rw[Ua,dh,List.getElem?_set_self ag]
        exact .cp _
       ·rw[dh,List.getElem?_set_ne Ua,<-dh]
        exact g4 i ag
    ·rw[aU kp]
     exact⟨b9,hM,wD,h6.mono (λ_ _ h=>h) (qj _ xS)⟩
 ·intro j fY b9 fC qV dJ q1 aE ca ey hh
  obtain⟨ev,fR,a3,a4,Ub,Uc,Ud⟩:=gm j b9 ca;obtain⟨j3,kq,tW,wF,L6,L7,L8⟩:=gm fC dJ ey;exact ao.apart j fY ev fC qV j3 q1 aE fR kq (by rw[<-a3,<-tW];exact hh)
 ·intro j fY b9 fC qV dJ q1 aE ca ey hh kT
  obtain⟨ev,fR,a3,a4,Ub,Uc,Ud⟩:=gm j b9 ca;obtain⟨j3,kq,tW,wF,L6,L7,L8⟩:=gm fC dJ ey;rw[a4,wF];exact ao.along j fY ev fC qV j3 q1 aE fR kq (by rw[<-a3,<-tW];exact hh) kT
 ·intro j hj hl
  by_cases tU:j=b
  ·subst tU
   have:=Iz j tS;omega
  ·rw[n0 j tU,aU]
   intro kp;have:=Iz j kp;omega
 ·intro j b9 hj rQ
  by_cases tU:j=b
  ·subst tU
   rw[aj] at hj;cases hj;rw[dE] at rQ;cases rQ
  ·rw[n0 j tU]
   by_cases kp:j∈l
   ·rw[aQ kp,hj]
    simp only [Option.map_some,cE];exact(AT _ _).2.2.2.2.2.1 rQ
   ·rw[aU kp];exact hj
 ·intro i ag la
  refine qj i λql=> ?_
  subst ql;have:=la b e k he rfl aj;rw[dE] at this;cases this
 ·refine⟨c'.getD (e.sh+off) undef,?_⟩
  simp only [World.cell?,ad];simp [show e.sh+off<c'.size by omega]
 ·have:=zn (e.sh+off) ar
  obtain⟨fp,ag⟩:=iW;simp only [World.frozen?,ad];simpa using this
end AE
namespace AE
variable [a7]
def bd {α:Type} (P:aR):Sem α->Option α
 | .pure a=>some a
 | .program k=>bd P (k P)
 | .mark _ k=>bd P k
 |_=>none
omit [a7] in
theorem jc {α:Type} {P:aR} {s:Sem α} {a:α} (h:bd P s=some a) (w:ax):s.run P w= .ok a w:=by
 induction s with
 |pure b=>simp only [bd,cE] at h;subst h;rfl
 |program k ck=>exact ck P h
 |mark m k ck=>exact ck h
 |_=>cases h
def xT:J->Bool
 | .agg _| .tuple _| .complex .f32 _ _=>false
 |_=>true
def cellsOf:J->Option (List J)
 | .agg ⟨l⟩=>some l
 | .tuple _| .complex .f32 _ _=>none
 |v=>some [v]
theorem aD.xT {φ:bV} {v aB:J} (h:aD φ v aB) (ad:xT v=true):∀cs,aB≠.agg cs/\aB≠.tuple cs:=by
 intro cs;cases h
 case sym k=>exact a7.one k cs
 all_goals simp_all [AE.xT,AE.cp]
theorem aD.cells {φ:bV} {v aB:J} {l:List J} (h:aD φ v aB) (hl:cellsOf v=some l):
  l.length=aB.cells.size/\∀j,j<l.length->aD φ (l.getD j undef) (aB.cells.getD j undef):=by
 have one:∀{v aB:J},aD φ v aB->(∀cs,aB≠.agg cs)->l=[v]->l.length=aB.cells.size/\∀j,j<l.length->aD φ (l.getD j undef) (aB.cells.getD j undef):=by
  intro v aB h av e;subst e;have:aB.cells= #[aB]:=by cases aB<;>first|rfl|exact absurd rfl (av _)
  rw[this];refine⟨rfl,λj hj=> ?_⟩;have:j=0:=by simpa using hj
  subst this;simpa using h
 cases h with
 |cp=>cases hl
 |sym k=>exact one (.sym k) (λcs=>(a7.one k cs).1) (by simpa [cellsOf,al] using hl.symm)
 |agg cs cs' ad af=>
  obtain⟨IC⟩:=cs;simp only [cellsOf,cE] at hl;subst hl;exact⟨by simpa [Value.cells] using ad,λj hj=>by simpa [Value.cells] using af j (by simpa using hj)⟩
 |tuple=>cases hl
 |bool b=>exact one (.bool b) (λ_=>by simp) (by simpa [cellsOf] using hl.symm)
 |int k n=>exact one (.int k n) (λ_=>by simp) (by simpa [cellsOf] using hl.symm)
 |float k b=>exact one (.float k b) (λ_=>by simp) (by simpa [cellsOf] using hl.symm)
 |string s=>exact one (.string s) (λ_=>by simp) (by simpa [cellsOf] using hl.symm)
 |zj=>exact one .zj (λ_=>by simp) (by simpa [cellsOf] using hl.symm)
 |ptr h=>exact one (.ptr h) (λ_=>by simp) (by simpa [cellsOf] using hl.symm)
 |slnil a b=>exact one (.slnil a b) (λ_=>by simp) (by simpa [cellsOf] using hl.symm)
 |iH b h=>exact one (.iH b h) (λ_=>by simp) (by simpa [cellsOf] using hl.symm)
 |ia n c h=>exact one (.ia n c h) (λ_=>by simp) (by simpa [cellsOf] using hl.symm)
 |ib n c c' h a b d=>exact one (.ib n c c' h a b d) (λ_=>by simp) (by simpa [cellsOf] using hl.symm)
 |AR=>exact one .AR (λ_=>by simp) (by simpa [cellsOf] using hl.symm)
 |map h=>exact one (.map h) (λ_=>by simp) (by simpa [cellsOf] using hl.symm)
 |chan=>exact one .chan (λ_=>by simp) (by simpa [cellsOf] using hl.symm)
 |func fs kn cs cs' a b c d e=>exact one (.func fs kn cs cs' a b c d e) (λ_=>by simp) (by simpa [cellsOf] using hl.symm)
 |tQ h=>exact one (.tQ h) (λ_=>by simp) (by simpa [cellsOf] using hl.symm)
 |nilFunc=>exact one .nilFunc (λ_=>by simp) (by simpa [cellsOf] using hl.symm)
 |nilIface=>exact one .nilIface (λ_=>by simp) (by simpa [cellsOf] using hl.symm)
 |iface t h=>exact one (.iface t h) (λ_=>by simp) (by simpa [cellsOf] using hl.symm)
omit [a7] in
theorem Addr.kc (b o i:Nat):(⟨b,o,none⟩:Addr).add i=⟨b,o+i,none⟩:=by
 unfold Go.Addr.add;split
 ·rename_i h;subst h;rfl
 ·rfl
def a'.rR (A:a') (b off n:Nat):Option (List J):=
 match A.bl.get b with
 |some {obj:= .cells c,..}=>bif Nat.ble (off+n) c.length then some ((c.drop off).take n) else none
 |_=>none
omit [a7] in
theorem AW {A:a'} {b off n:Nat} {vs:List J} (h:A.rR b off n=some vs):vs.length=n/\∀j,j<n->A.load b (off+j)=some (vs.getD j undef):=by
 unfold a'.rR at h;unfold a'.load;cases aj:A.bl.get b with
 |none=>rw[aj] at h;cases h
 |some k=>
  rw[aj] at h;obtain⟨tT,cN,pos,st,ro,ty⟩:=k;cases tT with
  |map es eU=>cases h
  |gh x=>cases h
  |cells c=>
   simp only at h ⊢;cases ae:Nat.ble (off+n) c.length with
   |false=>rw[ae] at h;cases h
   |true=>
    rw[ae,bx,cE] at h;have hle:=Nat.ble_eq.mp ae;subst h;refine⟨by simp;omega,λj hj=> ?_⟩;rw[dh,List.getElem?_take,aQ hj,List.getElem?_drop];rw[fA ar];rfl
theorem E4 {φ:bV} {A:a'} {w:ax} (ao:bU φ A w) (P:aR) {b off n:Nat} {vs:List J} {e:hz} (h:A.rR b off n=some vs) (he:φ b=some e):
  ∃cF:Array J,(loadCells ⟨e.bk,e.sh+off,none⟩ n).run P w= .ok cF w/\cF.size=vs.length/\∀j,j<vs.length->aD φ (vs.getD j undef) (cF.getD j undef):=by
 obtain⟨hl,hj⟩:=AW h;have AX:∀j,j<n->∃aB,w.cell? ⟨e.bk,e.sh+off+j,none⟩=some aB/\aD φ (vs.getD j undef) aB:=λj u_=>by
  obtain⟨aB,ad,af⟩:=u6 ao (hj j u_) he;exact⟨aB,by rw[show e.sh+off+j=e.sh+(off+j) by omega];exact ad,af⟩
 let f:Nat->J:=λj=>(w.cell? ⟨e.bk,e.sh+off+j,none⟩).getD undef
 have aO:∀j,j<n->w.cell? ((⟨e.bk,e.sh+off,none⟩:Addr).add j)=some (f j):=λj u_=>by
  obtain⟨aB,ad,_⟩:=AX j u_;rw[Addr.kc,ad];simp [f,ad]
 refine⟨_,run_loadCells _ _ n f aO,by simp [hl],λj u_=> ?_⟩;obtain⟨aB,ad,af⟩:=AX j ar;have:f j=aB:=by simp [f,ad]
 simp only [fb];simp [show j<n by omega,this];simpa using af
def a'.qW:a'->Nat->Nat->List J->Option a'
 |A,_,_,[]=>some A
 |A,b,off,v::r=>bif xT v then match A.store b off v with
    |some bB=>bB.qW b (off+1) r
    |none=>none
  else none
omit [a7] in
theorem run_store {P:aR} {w:ax} {a:Addr} {v u:J} (aC:∀cs,v≠.agg cs/\v≠.tuple cs) (ad:w.cell? a=some u) (af:w.frozen? a=false):(Go.store a v).run P w= .ok () (w.setCell a v):=by
 unfold Go.store;cases v<;>first|(exfalso;exact(aC _).1 rfl)|(exfalso;exact(aC _).2 rfl)|(simp [Sem.run,ad,af])
theorem CU {φ:bV} (P:aR) {b:Nat} {e:hz} (he:φ b=some e):∀(vs:List J) (A a_:a') (w:ax) (off i:Nat) (cF:List J),bU φ A w->A.qW b (off+i) vs=some a_->
  cF.length=vs.length->(∀j,j<vs.length->aD φ (vs.getD j undef) (cF.getD j undef))->
  ∃w',(storeCells ⟨e.bk,e.sh+off,none⟩ cF i).run P w= .ok () w'/\cw φ A w φ a_ w'
 |[],A,a_,w,off,i,cF,ao,h,hl,aC=>by
  simp only [a'.qW,cE] at h;subst h;have:cF=[]:=by simpa using hl
  subst this;exact⟨w,rfl,cw.refl ao⟩
 |v::r,A,a_,w,off,i,cF,ao,h,hl,aC=>by
  cases cF with
  |nil=>simp at hl
  |cons aB dX=>
   unfold a'.qW at h;cases ad:AE.xT v with
   |false=>rw[ad] at h;cases h
   |true=>
    rw[ad,bx] at h;cases aw:A.store b (off+i) v with
    |none=>rw[aw] at h;cases h
    |some bB=>
     rw[aw] at h;simp only at h;have CV:aD φ v aB:=by simpa using aC 0 (by simp)
     obtain⟨st,⟨u,hu⟩,zn⟩:=T7 ao aw he CV;rw[<-Nat.add_assoc] at st hu zn;obtain⟨w',E5,wG⟩:=CU P he r bB a_ _ off (i+1) dX (by rw[Nat.add_assoc] at st;exact st.rel) (by rw[<-Nat.add_assoc];exact h) (by simpa using hl) (λj hj=>by simpa using aC (j+1) (by simpa using hj));refine⟨w',?_,?_⟩
     ·unfold storeCells
      rw[Addr.kc];simp only [Sem.run_bind,run_store (CV.xT ad) hu zn,Result.andThen_ok];rw[Nat.add_assoc];exact E5
     ·exact cw.trans ao (by rw[Nat.add_assoc] at st;exact st) wG
theorem CW {φ:bV} {A a_:a'} {w:ax} (ao:bU φ A w) (P:aR) {c:List J} {c':Array J} {r st:Nat} (t:aJ) (hp:A.push (.cells c) st t=some (r,a_)) (hl:c.length<=c'.size) (ak:st=0->c.length=c'.size)
  (aC:∀j,j<c.length->aD φ (c.getD j undef) (c'.getD j undef)):
  ∃cZ w',(newRow t c').run P w= .ok ⟨w.heap.size,0,none⟩ w'/\cZ r=some ⟨w.heap.size,0,st,c'.size⟩/\cw φ A w cZ a_ w'/\w'={w with heap:=w.heap.push (.cells c' t)}:=by
 have Ue:=(ao.wf.push hp).2.1;have hmono:∀b e,φ b=some e->hc φ r ⟨w.heap.size,0,st,c'.size⟩ b=some e:=λb e ae=>by
  unfold hc;rw[aU (by have:=ao.lt ae;omega)];exact ae
 refine⟨hc φ r ⟨w.heap.size,0,st,c'.size⟩,{w with heap:=w.heap.push (.cells c' t)},?_,by simp [hc],?_,rfl⟩
 ·simp [newRow,newObj,Sem.run]
 ·refine CS ao hp U U ?_
  simp only [fL];refine⟨c',(0,0),by simp,rfl,by simp;exact⟨hl,ak⟩,λj hj=> ?_,λ_ i _=>by simp⟩;simp only [Nat.zero_add];exact(aC j hj).mono hmono
end AE
namespace AE
variable [a7]
mutual
theorem aD.kU {φ:bV}:∀(v:J) {aB:J},plain v=true->aD φ v aB->aB=v
 | .bool b,_,_,h=>by cases h;rfl
 | .int k n,_,_,h=>by cases h;rfl
 | .float k b,_,_,h=>by cases h;rfl
 | .string s,_,_,h=>by cases h;rfl
 | .pointer none,_,_,h=>by cases h;rfl
 | .map none,_,_,h=>by cases h;rfl
 | .chan none,_,_,h=>by cases h;rfl
 | .nilFunc,_,_,h=>by cases h;rfl
 | .nilIface,_,_,h=>by cases h;rfl
 | .slice none l c,_,_,h=>by cases h;rfl
 | .func (.func f) ⟨[]⟩ ⟨[]⟩,_,_,h=>by
     cases h with
     |func fs kn cs cs' av ad af aO aq=>
      have e1:kn= #[]:=Array.eq_empty_of_size_eq_zero ad.symm;have e2:cs'= #[]:=Array.eq_empty_of_size_eq_zero af.symm;rw[e1,e2]
 | .iface t v,_,hp,h=>by
     cases h with
     |iface t h=>rw[aD.kU v (by simpa [plain] using hp) h]
 | .agg ⟨l⟩,_,hp,h=>by
     cases h with
     |agg cs cs' ad af=>
      obtain⟨l'⟩:=cs';rw[aD.E6 l l' (by simpa [plain] using hp) (by simpa using ad) (λi ag=>by simpa using af i (by simpa using ag))]
 | .tuple ⟨l⟩,_,hp,h=>by
     cases h with
     |tuple cs cs' ad af=>
      obtain⟨l'⟩:=cs';rw[aD.E6 l l' (by simpa [plain] using hp) (by simpa using ad) (λi ag=>by simpa using af i (by simpa using ag))]
theorem aD.E6 {φ:bV}:∀(l l':List J),o7 l=true->l.length=l'.length->(∀i,i<l.length->aD φ (l.getD i Go.undef) (l'.getD i Go.undef))->l'=l
 |[],[],_,_,_=>rfl
 |[],_::_,_,h,_=>by simp at h
 |_::_,[],_,h,_=>by simp at h
 |v::r,aB::dX,hp,hl,h=>by
   have ad:=aD.kU v (by simp [o7] at hp;exact hp.1) (by simpa using h 0 (by simp));have af:=aD.E6 r dX (by simp [o7] at hp;exact hp.2) (by simpa using hl) (λi ag=>by simpa using h (i+1) (by simpa using ag));rw[ad,af]
end
def bY {α:Type} (R:bV->α->Prop) (P:aR) (φ:bV) (A:a') (w:ax) (s:Sem α) (a_:a'):Prop:=
 ∃cZ w' a,s.run P w= .ok a w'/\R cZ a/\cw φ A w cZ a_ w'
theorem bY.pure_run {α:Type} {R:bV->α->Prop} {P:aR} {φ:bV} {A:a'} {w:ax} (ao:bU φ A w) {s:Sem α} {a:α} (h:bd P s=some a) (iB:R φ a):bY R P φ A w s A:=
 ⟨φ,w,a,jc h w,iB,cw.refl ao⟩
theorem bY.bind {α eY:Type} {R:bV->α->Prop} {S:bV->eY->Prop} {P:aR} {φ:bV} {A bB fl:a'} {w:ax} (ao:bU φ A w) {s:Sem α} {k:α->Sem eY} (h:bY R P φ A w s bB)
  (aj:∀gE w1 a,bU gE bB w1->(∀b e,φ b=some e->gE b=some e)->R gE a->bY S P gE bB w1 (k a) fl):bY S P φ A w (s >>= k) fl:=by
 obtain⟨gE,w1,a,ad,af,ay⟩:=h;obtain⟨fh,w2,b,g1,g2,g3⟩:=aj gE w1 a ay.rel (ay.ext ao) af;exact⟨fh,w2,b,by rw[Sem.run_bind,ad];exact g1,g2,cw.trans ao ay g3⟩
theorem bY.map {α eY:Type} {R:bV->α->Prop} {S:bV->eY->Prop} {P:aR} {φ:bV} {A bB:a'} {w:ax} {s:Sem α} {f:α->eY} (h:bY R P φ A w s bB) (aO:∀φ a,R φ a->S φ (f a)):bY S P φ A w (s >>= λa=>pure (f a)) bB:=by
 obtain⟨gE,w1,a,ad,af,ay⟩:=h;exact⟨gE,w1,f a,by rw[Sem.run_bind,ad];rfl,aO _ _ af,ay⟩
theorem bY.pre {α eY:Type} {S:bV->eY->Prop} {P:aR} {φ:bV} {A fl:a'} {w:ax} {s:Sem α} {a:α} {k:α->Sem eY} (h:bd P s=some a) (aj:bY S P φ A w (k a) fl):bY S P φ A w (s >>= k) fl:=by
 obtain⟨fh,w2,b,g1,g2,g3⟩:=aj;exact⟨fh,w2,b,by rw[Sem.run_bind,jc h w];exact g1,g2,g3⟩
theorem bY.ret {α:Type} {R:bV->α->Prop} {P:aR} {φ:bV} {A:a'} {w:ax} (ao:bU φ A w) {a:α} (iB:R φ a):bY R P φ A w (pure a) A:=⟨φ,w,a,rfl,iB,cw.refl ao⟩
abbrev hA (v:J):bV->J->Prop:=λφ aB=>aD φ v aB
abbrev hS (l:List J):bV->Array J->Prop:=λφ a=>a.size=l.length/\∀j,j<l.length->aD φ (l.getD j undef) (a.getD j undef)
section
variable {P:aR} {φ:bV} {A a_:a'} {w:ax}
theorem Uf (ao:bU φ A w) {b off n:Nat} {vs:List J} {e:hz} (h:A.rR b off n=some vs) (he:φ b=some e):bY (hS vs) P φ A w (loadCells ⟨e.bk,e.sh+off,none⟩ n) A:=by
 obtain⟨cF,ad,af,ay⟩:=E4 ao P h he;exact⟨φ,w,cF,ad,⟨af,ay⟩,cw.refl ao⟩
def CX (P:aR) (A:a') (t:aJ):J->Option J
 | .pointer (some ⟨b,off,none⟩)=>match bd P (isAgg t) with
   |some true=>match bd P (sizeOf t) with
    |some n=>(A.rR b off n).map λl=> .agg ⟨l⟩
    |none=>none
   |some false=>A.load b off
   |none=>none
 |_=>none
theorem ac_ (ao:bU φ A w) {t:aJ} {p p' v:J} (hp:aD φ p p') (h:CX P A t p=some v):bY (hA v) P φ A w (Instr.loadAt t p') A:=by
 unfold CX at h;split at h
 ·rename_i b off
  cases hp with
  |ptr he=>
   unfold Instr.loadAt;refine bY.pre (a:=(⟨_,_,none⟩:Addr)) rfl ?_;unfold loadVar;cases qm:bd P (isAgg t) with
   |none=>rw[qm] at h;cases h
   |some E7=>
    rw[qm] at h;refine bY.pre qm ?_;cases E7 with
    |false=>
     simp only at h;obtain⟨aB,ad,af⟩:=u6 ao h he;refine⟨φ,w,aB,?_,af,cw.refl ao⟩;simp [Go.load,Sem.run,ad]
    |true=>
     simp only at h;cases cl:bd P (sizeOf t) with
     |none=>rw[cl] at h;cases h
     |some n=>
      rw[cl] at h;simp only at h;obtain⟨l,hl,rfl⟩:=Option.map_eq_some_iff.1 h;simp only [if_true];refine bY.pre cl ?_;refine bY.map (Uf ao hl he) λφ a ⟨ad,af⟩=> ?_
      exact .agg _ _ (by simp [ad]) λi ag=>by simpa using af i (by simpa using ag)
 ·cases h
def L9 (P:aR) (A:a') (t:aJ) (v:J):J->Option a'
 | .pointer (some ⟨b,off,none⟩)=>match cellsOf v,bd P (sizeOf t) with
   |some l,some n=>bif Nat.beq l.length n then A.qW b off l else none
   |_,_=>none
 |_=>none
theorem ada (ao:bU φ A w) {t:aJ} {b off:Nat} {e:hz} {v aB:J} (he:φ b=some e) (aC:aD φ v aB) {l:List J} {n:Nat} (hl:cellsOf v=some l) (av:bd P (sizeOf t)=some n)
  (L_:l.length=n) (h:A.qW b off l=some a_):bY (λ_ _=>True) P φ A w (storeVar t ⟨e.bk,e.sh+off,none⟩ aB) a_:=by
 obtain⟨gM,c2⟩:=aC.cells hl;unfold storeVar;refine bY.pre av ?_;rw[aU ar];obtain⟨w',ad,af⟩:=CU P he l A a_ w off 0 aB.cells.toList ao h (by simpa using gM.symm) (λj hj=>by
  have:=c2 j hj;simp only [fb] at this
  simpa [dh] using this)
 refine⟨φ,w',(),?_,trivial,af⟩;simpa using ad
theorem adb (ao:bU φ A w) {t:aJ} {p p' v aB:J} (hp:aD φ p p') (aC:aD φ v aB) (h:L9 P A t v p=some a_):bY (λ_ _=>True) P φ A w (Instr.storeAt t p' aB) a_:=by
 unfold L9 at h;split at h
 ·rename_i b off
  split at h
  ·rename_i l n hl av
   cases ae:Nat.beq l.length n with
   |false=>rw[ae] at h;cases h
   |true=>
    rw[ae,bx] at h;cases hp with
    |ptr he=>
     unfold Instr.storeAt;refine bY.pre (a:=(⟨_,_,none⟩:Addr)) rfl ?_;exact ada ao he aC hl av (cA ae) h
  ·cases h
 ·cases h
def ID (A:a') (t:aJ) (v:J):Option (J×a'):=
 match cellsOf v with
 |some l=>match A.push (.cells l) 0 t with
  |some (r,bB)=>some (.pointer (some ⟨r,0,none⟩),bB)
  |none=>none
 |none=>none
theorem Ug (ao:bU φ A w) {t:aJ} {v aB p:J} (aC:aD φ v aB) (h:ID A t v=some (p,a_)):bY (hA p) P φ A w (do pure (.pointer (some (<-newVar t aB)))) a_:=by
 unfold ID at h;cases hl:cellsOf v with
 |none=>rw[hl] at h;cases h
 |some l=>
  rw[hl] at h;simp only at h;cases hp:A.push (.cells l) 0 t with
  |none=>rw[hp] at h;cases h
  |some q=>
   obtain⟨r,bB⟩:=q;rw[hp] at h;simp only [cE,Prod.mk.injEq] at h;obtain⟨rfl,rfl⟩:=h;obtain⟨gM,c2⟩:=aC.cells hl;obtain⟨cZ,w',ad,af,ay,_⟩:=CW ao P t hp (Nat.le_of_eq gM) (λ_=>gM) c2;refine⟨cZ,w',_,by rw[Sem.run_bind,newVar,ad];rfl,?_,ay⟩;have:=aD.ptr (φ:=cZ) (b:=r) (o:=0) af;simpa using this
def Ma (P:aR) (A:a') (t:aJ):Option (J×a'):=
 match bd P (zeroValue t) with
 |some z=>bif plain z then ID A t z else none
 |none=>none
theorem ade (ao:bU φ A w) {t:aJ} {p old:J} (h:Ma P A t=some (p,a_)):bY (hA p) P φ A w (Instr.alloc t true old) a_:=by
 unfold Ma at h;cases bI:bd P (zeroValue t) with
 |none=>rw[bI] at h;cases h
 |some z=>
  rw[bI] at h;simp only at h;cases hp:plain z with
  |false=>rw[hp] at h;cases h
  |true=>
   rw[hp,bx] at h;unfold Instr.alloc;refine bY.pre bI ?_;exact Ug ao (aD.kb φ z hp) h
def E8 (P:aR) (s:aJ) (f:Nat):J->Option J
 | .pointer (some ⟨b,off,none⟩)=>match bd P (underlying s) with
   |some (.struct fields)=>match fields[f]? with
    |some h7=>match bd P (sizeOf h7.type) with
     |some n=>bif n==0 then none else some (.pointer (some ⟨b,off+h7.offset,none⟩))
     |none=>none
    |none=>none
   |_=>none
 |_=>none
theorem Uh {s:aJ} {f:Nat} {p p' v:J} (hp:aD φ p p') (h:E8 P s f p=some v):∃aB,(∀w,(Instr.fieldAt s p' f).run P w= .ok aB w)/\aD φ v aB:=by
 unfold E8 at h;split at h
 ·rename_i b off
  split at h
  ·rename_i fields hu
   split at h
   ·rename_i h7 aO
    split at h
    ·rename_i n av
     cases aM:(n==0) with
     |true=>rw[aM] at h;cases h
     |false=>
      rw[aM,ek,cE] at h;subst h;cases hp with
      |ptr he=>
       rename_i e;refine⟨.pointer (some ⟨e.bk,e.sh+(off+h7.offset),none⟩),λw=> ?_,.ptr he⟩;unfold Instr.fieldAt;have cO:n≠0:=by simpa using aM
       rw[Sem.run_bind,jc hu w];simp only [Result.andThen_ok,aO];rw[Sem.run_bind];have e1:(Instr.sureAddr (.pointer (some ⟨e.bk,e.sh+off,none⟩))).run P w= .ok ⟨e.bk,e.sh+off,none⟩ w:=rfl;rw[e1];unfold fieldPlace;simp only [Sem.run_bind,jc av w,Result.andThen_ok,aU cO,Addr.kc];rw[Nat.add_assoc];rfl
    ·cases h
   ·cases h
  ·cases h
 ·cases h
theorem adf (ao:bU φ A w) {s:aJ} {f:Nat} {p p' v:J} (hp:aD φ p p') (h:E8 P s f p=some v):bY (hA v) P φ A w (Instr.fieldAt s p' f) A:=by
 obtain⟨aB,ad,af⟩:=Uh hp h;exact⟨φ,w,aB,ad w,af,cw.refl ao⟩
def E9 (P:aR) (t:aJ) (x:J) (i:J):Option J:=
 match i with
 | .int _ i=>match bd P (underlying t),x with
   |some (.array len elem),.pointer (some ⟨b,off,none⟩)=>match bd P (sizeOf elem) with
    |some n=>bif decide (0<=i)&&decide (i<(len:Int)) then some (.pointer (some ⟨b,off+i.toNat*n,none⟩)) else none
    |none=>none
   |some (.slice elem),.slice (some ⟨b,off,none⟩) len _=>match bd P (sizeOf elem) with
    |some n=>bif decide (0<=i)&&decide (i<(len:Int)) then some (.pointer (some ⟨b,off+i.toNat*n,none⟩)) else none
    |none=>none
   |_,_=>none
 |_=>none
theorem Ui {t:aJ} {x x' i v:J} (ak:aD φ x x') (h:E9 P t x i=some v):∃aB,(∀w,(Instr.indexAt t x' i).run P w= .ok aB w)/\aD φ v aB:=by
 unfold E9 at h;split at h
 ·rename_i k i
  unfold Instr.indexAt;have e0:∀w,(asIntOf (.int k i)).run P w= .ok (k,i) w:=λw=>rfl
  have e1:∀w,∀a:Addr,(pure a:Sem Addr).run P w= .ok a w:=λ_ _=>rfl
  split at h
  ·rename_i len elem b off hu
   split at h
   ·rename_i n av
    cases ae:(decide (0<=i)&&decide (i<(len:Int))) with
    |false=>rw[ae] at h;cases h
    |true=>
     rw[ae,bx,cE] at h;subst h;have zo:0<=i/\i<(len:Int):=by simpa using ae
     cases ak with
     |ptr he=>
      rename_i e;refine⟨.pointer (some ⟨e.bk,e.sh+(off+i.toNat*n),none⟩),λw=> ?_,.ptr he⟩;simp only [Sem.run_bind,e0,jc hu w,Result.andThen_ok,Instr.sureAddr];simp [zo,jc av w,jc hu w,Addr.kc,Nat.add_assoc,e1]
   ·cases h
  ·rename_i elem b off len cap hu
   split at h
   ·rename_i n av
    cases ae:(decide (0<=i)&&decide (i<(len:Int))) with
    |false=>rw[ae] at h;cases h
    |true=>
     rw[ae,bx,cE] at h;subst h;have zo:0<=i/\i<(len:Int):=by simpa using ae
     cases ak with
     |ia fS c' he=>
      rename_i e;refine⟨.pointer (some ⟨e.bk,e.sh+(off+i.toNat*n),none⟩),λw=> ?_,.ptr he⟩;simp [e0,zo,jc av w,jc hu w,Addr.kc,Nat.add_assoc]
     |ib fS gM c2 he q1 aE ca=>
      rename_i e;refine⟨.pointer (some ⟨e.bk,e.sh+(off+i.toNat*n),none⟩),λw=> ?_,.ptr he⟩;simp [e0,zo,jc av w,jc hu w,Addr.kc,Nat.add_assoc]
     |iH=>omega
   ·cases h
  ·cases h
 ·cases h
theorem adg (ao:bU φ A w) {t:aJ} {x x' i v:J} (ak:aD φ x x') (h:E9 P t x i=some v):bY (hA v) P φ A w (Instr.indexAt t x' i) A:=by
 obtain⟨aB,ad,af⟩:=Ui ak h;exact⟨φ,w,aB,ad w,af,cw.refl ao⟩
end
end AE
namespace AE
variable [a7]
omit [a7] in
theorem sJ {α eY:Type} (P:aR) (s:Sem α) (k:α->Sem eY):bd P (s >>= k)=(bd P s).bind λa=>bd P (k a):=by
 show bd P (s.bind k)=_
 induction s with
 |pure a=>rfl
 |program f ck=>exact ck P
 |mark m s ck=>exact ck
 |_=>rfl
omit [a7] in
theorem E' {α:Type} (P:aR) (a:α):bd P (pure a:Sem α)=some a:=rfl
section
variable {P:aR} {φ:bV} {A a_:a'} {w:ax}
def IE (P:aR) (t:aJ) (cs:List J) (off:Nat):Option J:=
 match bd P (isAgg t) with
 |some true=>match bd P (sizeOf t) with
  |some n=>some (.agg ⟨(cs.drop off).take n⟩)
  |none=>none
 |some false=>cs[off]?
 |none=>none
theorem Uj (ao:bU φ A w) {t:aJ} {cs:List J} {cs':Array J} {off:Nat} {v:J} (aq:hS cs φ cs') (h:IE P t cs off=some v):bY (hA v) P φ A w (part t cs' off) A:=by
 obtain⟨hl,aC⟩:=aq;unfold IE at h;unfold part;cases qm:bd P (isAgg t) with
 |none=>rw[qm] at h;cases h
 |some E7=>
  rw[qm] at h;refine bY.pre qm ?_;cases E7 with
  |false=>
   simp only at h;obtain⟨b8,CV⟩:=List.getElem?_eq_some_iff.1 h;have rS:off<cs'.size:=by omega
   refine⟨φ,w,cs'[off],by simp [rS,Sem.run,pure],?_,cw.refl ao⟩;have:=aC off b8;rw[dh,h] at this;simpa [rS] using this
  |true=>
   simp only at h;cases cl:bd P (sizeOf t) with
   |none=>rw[cl] at h;cases h
   |some n=>
    rw[cl] at h;simp only [cE] at h;subst h;simp only [if_true];refine bY.pre cl (bY.ret ao (.agg _ _ (by simp [hl];omega) λi ag=> ?_));simp at ag;have:=aC (off+i) ar;simp only [fb,dh,Array.getElem?_extract] at this ⊢;rw[aQ ar,List.getElem?_toArray,List.getElem?_take,aQ ar,List.getElem?_drop];exact this
def Mb (P:aR) (s:aJ) (x:J) (f:Nat):Option J:=
 match x,bd P (underlying s) with
 | .agg ⟨cs⟩,some (.struct fields)=>match fields[f]? with
   |some h7=>IE P h7.type cs h7.offset
   |none=>none
 |_,_=>none
theorem adh (ao:bU φ A w) {s:aJ} {f:Nat} {x x' v:J} (ak:aD φ x x') (h:Mb P s x f=some v):bY (hA v) P φ A w (Instr.field s x' f) A:=by
 unfold Mb at h;split at h
 ·rename_i cs fields hu
  split at h
  ·rename_i h7 aO
   cases ak with
   |agg E_ cs' ad af=>
    unfold Instr.field;refine bY.pre hu ?_;simp only [aO];refine bY.pre (a:=cs') rfl ?_;exact Uj ao ⟨by simpa using ad.symm,λj hj=>by simpa using af j (by simpa using hj)⟩ h
  ·cases h
 ·cases h
def Mc (P:aR) (t:aJ) (x i:J):Option J:=
 match x,i,bd P (underlying t) with
 | .agg ⟨cs⟩,.int _ i,some (.array len elem)=>match bd P (sizeOf elem) with
   |some n=>bif decide (0<=i)&&decide (i<(len:Int)) then IE P elem cs (i.toNat*n) else none
   |none=>none
 |_,_,_=>none
theorem adi (ao:bU φ A w) {t:aJ} {x x' i v:J} (ak:aD φ x x') (h:Mc P t x i=some v):bY (hA v) P φ A w (Instr.index t x' i) A:=by
 unfold Mc at h;split at h
 ·rename_i cs k i len elem hu
  split at h
  ·rename_i n av
   cases ae:(decide (0<=i)&&decide (i<(len:Int))) with
   |false=>rw[ae] at h;cases h
   |true=>
    rw[ae,bx] at h;have zo:0<=i/\i<(len:Int):=by simpa using ae
    cases ak with
    |agg E_ cs' ad af=>
     unfold Instr.index;refine bY.pre (a:=(k,i)) rfl ?_;simp only;refine bY.pre hu ?_;simp only [aQ zo];refine bY.pre av ?_;exact Uj ao ⟨by simpa using ad.symm,λj hj=>by simpa using af j (by simpa using hj)⟩ h
  ·cases h
 ·cases h
def Fa:J->Nat->Option J
 | .tuple ⟨cs⟩,i=>cs[i]?
 |_,_=>none
theorem adj (ao:bU φ A w) {x x' v:J} {i:Nat} (ak:aD φ x x') (h:Fa x i=some v):bY (hA v) P φ A w (Instr.extract x' i) A:=by
 unfold Fa at h;split at h
 ·rename_i cs
  cases ak with
  |tuple E_ cs' ad af=>
   obtain⟨b8,_⟩:=List.getElem?_eq_some_iff.1 h;have Uk:cs.length=cs'.size:=by simpa using ad
   have rS:i<cs'.size:=by omega
   refine⟨φ,w,cs'[i],by simp [Instr.extract,rS,Sem.run,pure],?_,cw.refl ao⟩;have:=af i (by simpa using b8);simp only [fb,List.getElem?_toArray,h,Option.getD_some] at this;simpa [rS] using this
 ·cases h
theorem Ul (off:Nat):∀(l l':List J) (k:Nat) (c c':Array J),l.length=l'.length->(∀j,j<l.length->aD φ (l.getD j undef) (l'.getD j undef))->c.size=c'.size->(∀j,j<c.size->aD φ (c.getD j undef) (c'.getD j undef))->
  ((l.zipIdx k).foldl (λcs (x:J×Nat)=>cs.setIfInBounds (off+x.2) x.1) c).size=((l'.zipIdx k).foldl (λcs (x:J×Nat)=>cs.setIfInBounds (off+x.2) x.1) c').size/\
  ∀j,j<((l.zipIdx k).foldl (λcs (x:J×Nat)=>cs.setIfInBounds (off+x.2) x.1) c).size->aD φ (((l.zipIdx k).foldl (λcs (x:J×Nat)=>cs.setIfInBounds (off+x.2) x.1) c).getD j undef) (((l'.zipIdx k).foldl (λcs (x:J×Nat)=>cs.setIfInBounds (off+x.2) x.1) c').getD j undef)
 |[],[],_,c,c',_,_,ad,af=>⟨ad,af⟩
 |[],_::_,_,_,_,h,_,_,_=>by simp at h
 |_::_,[],_,_,_,h,_,_,_=>by simp at h
 |v::r,aB::dX,k,c,c',hl,aC,ad,af=>by
  simp only [List.zipIdx_cons,List.foldl_cons];refine Ul off r dX (k+1) _ _ (by simpa using hl) (λj hj=>by simpa using aC (j+1) (by simpa using hj)) (by simpa using ad) λj hj=> ?_
  have aM:aD φ v aB:=by simpa using aC 0 (by simp)
  simp only [Array.size_setIfInBounds] at hj;have:=af j hj;simp only [fb,Array.getElem?_setIfInBounds] at this ⊢;by_cases aj:off+k=j
  ·rw[aQ aj,aQ aj,aQ ar,aQ ar]
   exact aM
  ·rw[aU aj,aU aj]
   exact this
omit [a7] in
theorem Um {v:J} {l:List J} (h:cellsOf v=some l):v.cells=⟨l⟩:=by
 cases v<;>simp_all [cellsOf,Value.cells]
 case complex k re ao7=>cases k<;>simp_all
 case agg cs=>obtain⟨cs⟩:=cs;simp [cellsOf] at h;rw[h]
def Un (φ:bV) (p p':Nat×J):Prop:=p.1=p'.1/\(cellsOf p.2).isSome=true/\aD φ p.2 p'.2
theorem Md (place:Nat->Option (Nat×Nat)):∀(ps Me:List (Nat×J)) (c c' out:Array J),ps.length=Me.length->(∀(j:Nat) (a b:Nat×J),ps[j]? =some a->Me[j]? =some b->Un φ a b)->c.size=c'.size->(∀j,j<c.size->aD φ (c.getD j undef) (c'.getD j undef))->
  Instr.fill place c ps=some out->∃tX,Instr.fill place c' Me=some tX/\out.size=tX.size/\∀j,j<out.size->aD φ (out.getD j undef) (tX.getD j undef)
 |[],[],c,c',out,_,_,ad,af,h=>by
  simp only [Instr.fill,cE] at h;subst h;exact⟨c',rfl,ad,af⟩
 |[],_::_,_,_,_,h,_,_,_,_=>by simp at h
 |_::_,[],_,_,_,h,_,_,_,_=>by simp at h
 |(i,v)::r,(rT,aB)::dX,c,c',out,hl,hp,ad,af,h=>by
  obtain⟨e1,e2,dn⟩:=hp 0 _ _ U U;simp only at e1 e2 dn;subst e1;obtain⟨l,nE⟩:=Option.isSome_iff_exists.1 e2;obtain⟨gM,c2⟩:=dn.cells nE;have Fb:v.cells=⟨l⟩:=Um nE;unfold Instr.fill at h ⊢;cases fV:place i with
  |none=>rw[fV] at h;cases h
  |some os=>
   obtain⟨off,size⟩:=os;rw[fV] at h;simp only at h ⊢;have fZ:v.cells.size=aB.cells.size:=by rw[Fb];simpa using gM
   split at h
   ·cases h
   ·rename_i av
    rw[aU (by rw[<-fZ,<-ad];exact av)];have key:=Ul (φ:=φ) off l aB.cells.toList 0 c c' (by simpa using gM) (λj hj=>by simpa [fb,dh] using c2 j hj) ad af;refine Md place r dX _ _ out (by simpa using hl) (λj a b ha ae=>hp (j+1) a b (by simpa using ha) (by simpa using ae)) ?_ ?_ h
    ·rw[Fb,<-Array.foldl_toList,<-Array.foldl_toList,Array.toList_zipIdx,Array.toList_zipIdx]
     exact key.1
    ·rw[Fb,<-Array.foldl_toList,<-Array.foldl_toList,Array.toList_zipIdx,Array.toList_zipIdx]
     exact key.2
def Fc (ps:Array (Nat×J)):Bool:=ps.toList.all λp=>(cellsOf p.2).isSome
theorem Uo {ps:Array (Nat×Operand)} {ρ ρ':Operand->J} (cU:∀p∈ps,aD φ (ρ p.2) (ρ' p.2)) (hs:Fc (ps.map λ(i,x)=>(i,ρ x))=true):
  ∀(j:Nat) (a b:Nat×J),((ps.map λ(i,x)=>(i,ρ x)).toList)[j]? =some a->((ps.map λ(i,x)=>(i,ρ' x)).toList)[j]? =some b->Un φ a b:=by
 intro j a b ha ae;have mG:=List.mem_of_getElem? ha;simp only [Array.toList_map,List.getElem?_map,xO] at ha ae;obtain⟨p,hp,rfl⟩:=ha;obtain⟨p',CY,rfl⟩:=ae;rw[hp] at CY;cases CY;refine⟨rfl,?_,cU p (by simpa using List.mem_of_getElem? hp)⟩;exact List.all_eq_true.1 hs _ mG
def Mf (P:aR) (t:aJ) (parts:Array (Nat×J)):Option J:=
 bif Fc parts then
  match bd P (zeroValue t) with
  |some z=>bif plain z&&(cellsOf z).isSome then
    match bd P (underlying t) with
    |some (.struct fields)=>match bd P (fields.mapM λf=>do pure (f.offset,<-sizeOf f.type)) with
     |some Up=>(Instr.fill (Up[·]?) z.cells parts.toList).map .agg
     |none=>none
    |some (.array _ elem)=>match bd P (sizeOf elem) with
     |some size=>(Instr.fill (λi=>some (i*size,size)) z.cells parts.toList).map .agg
     |none=>none
    |_=>none
   else none
  |none=>none
 else none
theorem IG {z:J} (h:plain z=true) (aq:(cellsOf z).isSome=true) (φ:bV):∀j,j<z.cells.size->aD φ (z.cells.getD j undef) (z.cells.getD j undef):=by
 obtain⟨l,hl⟩:=Option.isSome_iff_exists.1 aq;obtain⟨ad,af⟩:=(aD.kb φ z h).cells hl;intro j hj;have Fb:z.cells=⟨l⟩:=Um hl;have:=af j ar;simp only [Fb] at this ⊢;simpa [fb,dh] using this
theorem adk (ao:bU φ A w) {t:aJ} {ps:Array (Nat×Operand)} {ρ ρ':Operand->J} {v:J} (cU:∀p∈ps,aD φ (ρ p.2) (ρ' p.2)) (h:Mf P t (ps.map λ(i,x)=>(i,ρ x))=some v):
  bY (hA v) P φ A w (Instr.build t (ps.map λ(i,x)=>(i,ρ' x))) A:=by
 unfold Mf at h;cases hs:Fc (ps.map λ(i,x)=>(i,ρ x)) with
 |false=>rw[hs] at h;cases h
 |true=>
  rw[hs,bx] at h;have Mg:=Uo cU hs;cases bI:bd P (zeroValue t) with
  |none=>rw[bI] at h;cases h
  |some z=>
   rw[bI] at h;simp only at h;cases ld:(plain z&&(cellsOf z).isSome) with
   |false=>rw[ld] at h;cases h
   |true=>
    rw[ld,bx] at h;simp only [cV] at ld;have qn:=IG ld.1 ld.2 φ;unfold Instr.build;refine bY.pre bI ?_;simp only;have fM:∀(place:Nat->Option (Nat×Nat)),(Instr.fill place z.cells (ps.map λ(i,x)=>(i,ρ x)).toList).map Value.agg=some v->
      ∃tX,Instr.fill place z.cells (ps.map λ(i,x)=>(i,ρ' x)).toList=some tX/\aD φ v (.agg tX):=by
     intro place aO;obtain⟨out,ho,rfl⟩:=Option.map_eq_some_iff.1 aO;obtain⟨tX,g1,g2,g3⟩:=Md place _ _ _ _ out (by simp) Mg rfl qn ho;exact⟨tX,g1,.agg _ _ g2 g3⟩
    split at h
    ·rename_i fields hu
     refine bY.pre hu ?_;simp only;split at h
     ·rename_i Up fV
      refine bY.pre fV ?_;obtain⟨tX,g1,g2⟩:=fM _ h;simp only [g1];exact bY.ret ao g2
     ·cases h
    ·rename_i n elem hu
     refine bY.pre hu ?_;simp only;split at h
     ·rename_i size cl
      refine bY.pre cl ?_;obtain⟨tX,g1,g2⟩:=fM _ h;simp only [g1];exact bY.ret ao g2
     ·cases h
    ·cases h
def Mh (P:aR) (A:a') (t:aJ) (len:Nat) (parts:Array (Nat×J)):Option (J×a'):=
 bif Fc parts then
  match bd P (underlying t) with
  |some (.slice elem)=>match bd P (sizeOf elem) with
   |some size=>bif Nat.blt 0 (len*size)&&Nat.ble (len*size) 16777216 then
     match bd P (zeroValue elem) with
     |some z=>bif plain z&&(cellsOf z).isSome&&Nat.blt 0 z.cells.size then
       match Instr.fill (λi=>some (i*size,size)) ((Array.range (len*size)).map (z.cells[· %z.cells.size]!)) parts.toList with
       |some out=>match A.push (.cells out.toList) 0 elem with
        |some (r,bB)=>some (.slice (some ⟨r,0,none⟩) len len,bB)
        |none=>none
       |none=>none
      else none
     |none=>none
    else none
   |none=>none
  |_=>none
 else none
theorem adl (ao:bU φ A w) {t:aJ} {len:Nat} {ps:Array (Nat×Operand)} {ρ ρ':Operand->J} {v:J} (cU:∀p∈ps,aD φ (ρ p.2) (ρ' p.2)) (h:Mh P A t len (ps.map λ(i,x)=>(i,ρ x))=some (v,a_)):
  bY (hA v) P φ A w (Instr.buildSlice t len (ps.map λ(i,x)=>(i,ρ' x))) a_:=by
 unfold Mh at h;cases hs:Fc (ps.map λ(i,x)=>(i,ρ x)) with
 |false=>rw[hs] at h;cases h
 |true=>
  rw[hs,bx] at h;have Mg:=Uo cU hs;split at h
  ·rename_i elem hu
   split at h
   ·rename_i size cl
    cases ae:(Nat.blt 0 (len*size)&&Nat.ble (len*size) 16777216) with
    |false=>rw[ae] at h;cases h
    |true=>
     rw[ae,bx] at h;simp only [cV] at ae;have lS:=Nat.blt_eq.mp ae.1;have jm:=Nat.ble_eq.mp ae.2;split at h
     ·rename_i z bI
      cases ld:(plain z&&(cellsOf z).isSome&&Nat.blt 0 z.cells.size) with
      |false=>rw[ld] at h;cases h
      |true=>
       rw[ld,bx] at h;simp only [cV] at ld;have pH:=Nat.blt_eq.mp ld.2;have qn:=IG ld.1.1 ld.1.2 φ;split at h
       ·rename_i out ho
        split at h
        ·rename_i r bB hp
         simp only [cE,Prod.mk.injEq] at h;obtain⟨rfl,rfl⟩:=h;unfold Instr.buildSlice;refine bY.pre hu ?_;simp only;refine bY.pre cl ?_;rw[aU ar];rw[aU ar];have xU:∀j,j<((Array.range (len*size)).map (z.cells[· %z.cells.size]!)).size->aD φ (((Array.range (len*size)).map (z.cells[· %z.cells.size]!)).getD j undef) (((Array.range (len*size)).map (z.cells[· %z.cells.size]!)).getD j undef):=by
          intro j hj;simp at hj;have hm:=Nat.mod_lt j pH;have:=qn (j%z.cells.size) hm;simp only [fb] at this ⊢;simpa [hj,hm,getElem!_pos] using this
         obtain⟨tX,g1,g2,g3⟩:=Md (φ:=φ) (λi=>some (i*size,size)) _ _ _ _ out (by simp) Mg rfl xU ho;refine bY.pre bI ?_;refine bY.pre (a:=z.cells) rfl ?_;simp only [g1];obtain⟨cZ,w',q1,aE,ca,_⟩:=CW ao P elem hp (c':=tX) (by simpa using Nat.le_of_eq g2) (λ_=>by simpa using g2) (λj hj=>by
          have:=g3 j (by simpa using hj);simp only [fb] at this
          simpa [dh] using this)
         refine⟨cZ,w',.slice (some ⟨w.heap.size,0,none⟩) len len,by rw[Sem.run_bind,q1];rfl,?_,ca⟩;have:=aD.ia (φ:=cZ) (b:=r) (o:=0) len len aE;simpa using this
        ·cases h
       ·cases h
     ·cases h
   ·cases h
  ·cases h
def Mi (P:aR) (A:a') (t:aJ):Option (J×a'):=
 match bd P (underlying t) with
 |some (.slice elem)=>match bd P (sizeOf elem) with
  |some _=>match A.push (.cells []) 0 elem with
   |some (r,bB)=>some (.slice (some ⟨r,0,none⟩) 0 0,bB)
   |none=>none
  |none=>none
 |_=>none
theorem adn (ao:bU φ A w) {t:aJ} {v:J} (h:Mi P A t=some (v,a_)):bY (hA v) P φ A w (Instr.buildSlice t 0 #[]) a_:=by
 unfold Mi at h;split at h
 ·rename_i elem hu
  split at h
  ·rename_i size cl
   split at h
   ·rename_i r bB hp
    simp only [cE,Prod.mk.injEq] at h;obtain⟨rfl,rfl⟩:=h;unfold Instr.buildSlice;refine bY.pre hu ?_;simp only;refine bY.pre cl ?_;rw[aU ar,aQ ar];refine bY.pre (a:=(#[]:Array J)) rfl ?_;obtain⟨cZ,w',q1,aE,ca,_⟩:=CW ao P (c':= #[]) elem hp (by simp) (λ_=>by simp) (λj hj=>by simp at hj);have e:((Array.range (0*size)).map ((#[]:Array J)[· %(#[]:Array J).size]!))= #[]:=by simp
    rw[e];simp only [Instr.fill];refine⟨cZ,w',.slice (some ⟨w.heap.size,0,none⟩) 0 0,by rw[Sem.run_bind,q1];rfl,?_,ca⟩;have:=aD.ia (φ:=cZ) (b:=r) (o:=0) 0 0 aE;simpa using this
   ·cases h
  ·cases h
 ·cases h
end
end AE
namespace AE
variable [a7]
def a'.II (A:a') (b pos st:Nat) (ty:aJ) (c:List J):Option (Nat×a'):=
 match A.bl.get b with
 |some k=>match k.obj,A.mem.get k.cN with
  | .cells _,some l=>bif k.ro||bne k.ty ty then none else
    match bR.set {obj:= .cells c,cN:=k.cN,pos:=pos,eF:=st,ro:=false,ty:=ty:hR} depth A.bl A.n,bR.set (A.n::l) depth A.mem k.cN with
    |some bl,some mem=>some (A.n,{bl,mem,n:=A.n+1,low:=l.foldl Nat.min A.low})
    |_,_=>none
  |_,_=>none
 |none=>none
omit [a7] in
theorem Mj {A a_:a'} {b pos st:Nat} {ty:aJ} {c:List J} {r:Nat} (h:A.II b pos st ty c=some (r,a_)) (u5:AS A):
  ∃k dw l,A.bl.get b=some k/\k.obj= .cells dw/\k.ro=false/\k.ty=ty/\A.mem.get k.cN=some l/\r=A.n/\AS a_/\a_.n=A.n+1/\a_.low<=A.low/\(∀m∈l,a_.low<=m)/\
   (∀j,a_.bl.get j=if j=A.n then some {obj:= .cells c,cN:=k.cN,pos:=pos,eF:=st,ro:=false,ty:=ty} else A.bl.get j):=by
 unfold a'.II at h;cases aj:A.bl.get b with
 |none=>rw[aj] at h;cases h
 |some k=>
  rw[aj] at h;obtain⟨tT,cN,ao8,ao9,ro,ado⟩:=k;simp only at h;cases tT with
  |map es eU=>cases h
  |gh x=>cases h
  |cells dw=>
   cases hm:A.mem.get cN with
   |none=>rw[hm] at h;cases h
   |some l=>
    rw[hm] at h;simp only at h;cases aq:(ro||bne ado ty) with
    |true=>rw[aq] at h;cases h
    |false=>
     rw[aq,ek] at h;simp only [Bool.or_eq_false_iff,bne_eq_false_iff_eq] at aq;obtain⟨rfl,rfl⟩:=aq;split at h
     ·rename_i bl mem ae sH
      simp only [cE,Prod.mk.injEq] at h;obtain⟨rfl,rfl⟩:=h;have u4:=λb=>bR.nY _ _ _ _ _ b ae
      have mE:=λb=>bR.nY _ _ _ _ _ b sH
      obtain⟨f1,f2⟩:=Iy l A.low;have nZ:=u5.tR b _ aj;refine⟨_,dw,l,rfl,rfl,rfl,rfl,hm,rfl,⟨?_,?_,?_,?_⟩,rfl,f1,f2,u4⟩
      ·intro j b9 hj
       simp only at hj ⊢;rw[u4] at hj;split at hj
       ·omega
       ·have:=u5.lt j b9 hj;omega
      ·intro j b9 hj
       simp only at hj ⊢ nZ;rw[u4] at hj;split at hj
       ·cases hj;simp only;omega
       ·have:=u5.tR j b9 hj;omega
      ·intro j b9 hj
       simp only at hj ⊢;rw[u4] at hj;split at hj
       ·rename_i u_
        cases hj;exact⟨_,by rw[mE,aQ rfl],by simp [u_]⟩
       ·obtain⟨l',fB,kp⟩:=u5.mem j b9 hj
        by_cases aO:b9.cN=cN
        ·rw[aO,hm] at fB
         cases fB;exact⟨_,by rw[mE,aQ aO],List.mem_cons_of_mem _ kp⟩
        ·exact⟨l',by rw[mE,aU aO];exact fB,kp⟩
      ·intro j b9 fC dJ hj gR aO
       simp only at hj gR;rw[u4] at hj gR;split at hj
       ·cases hj
        split at gR
        ·cases gR;rfl
        ·have:=u5.u3 b _ fC dJ aj gR aO
         exact this
       ·split at gR
        ·cases gR
         have:=u5.u3 j b9 b _ hj aj aO;exact this
        ·exact u5.u3 j b9 fC dJ hj gR aO
     ·cases h
theorem Uq {φ:bV} {A a_:a'} {w w':ax} (ao:bU φ A w) {b pos st:Nat} {ty:aJ} {c:List J} {r:Nat} {e:hz} (h:A.II b pos st ty c=some (r,a_)) (cP:e.eF=st)
  (hw:(e.bk=w.heap.size/\∃o,w'={w with heap:=w.heap.push o})\/(w'=w/\∃e0 k,φ b=some e0/\A.bl.get b=some k/\e.bk=e0.bk/\e.sh+k.pos=e0.sh+pos))
  (ho:∀k,A.bl.get b=some k->fL (hc φ r e) w' e {obj:= .cells c,cN:=k.cN,pos:=pos,eF:=st,ro:=false,ty:=ty}):
  cw φ A w (hc φ r e) a_ w':=by
 obtain⟨k,dw,l,aj,fo,dE,hty,mG,rfl,u5,av,mF,Iz,gF⟩:=Mj h ao.wf;have ho:=ho k aj;have hold:∀b e1,φ b=some e1->hc φ A.n e b=some e1:=λb e1 ae=>by
  unfold hc;rw[aU (by have:=ao.lt ae;omega)];exact ae
 have rP:∀i,i<w.heap.size->w'.heap[i]? =w.heap[i]? :=λi ag=>by
  rcases hw with ⟨_,o,rfl⟩|⟨rfl,_⟩
  ·show (w.heap.push o)[i]? =_
   rw[Array.getElem?_push,aU ar]
  ·rfl
 have cl:w.heap.size<=w'.heap.size:=by
  rcases hw with ⟨_,o,rfl⟩|⟨rfl,_⟩
  ·simp
  ·exact b2 _
 have wH:w'.os=w.os/\w'.tape=w.tape/\w'.output=w.output:=by
  rcases hw with ⟨_,o,rfl⟩|⟨rfl,_⟩<;>exact⟨rfl,rfl,rfl⟩
 have me:∀j e1,hc φ A.n e j=some e1->(j=A.n/\e1=e)\/(j≠A.n/\φ j=some e1):=λj e1 ae=>by
  unfold hc at ae;split at ae
  ·rename_i h;cases ae;exact .inl ⟨h,rfl⟩
  ·rename_i h;exact .inr ⟨h,ae⟩
 have tS:b∈l:=by
  obtain⟨l',fB,dR⟩:=ao.wf.mem b k aj;rw[mG] at fB;cases fB;exact dR
 have tY:∀j fY b9,φ j=some fY->A.bl.get j=some b9->(k.cN≠b9.cN->e.bk≠fY.bk)/\(k.cN=b9.cN->e.bk=fY.bk->e.sh+b9.pos=fY.sh+pos):=by
  intro j fY b9 hj hM;rcases hw with ⟨he,_⟩|⟨_,e0,k',qX,dt,jz,tV⟩
  ·obtain⟨_,_,_,af⟩:=ao.eo j fY hj
   have:=af.lt;exact⟨λ_=>by omega,λ_ _=>by omega⟩
  ·rw[aj] at dt;cases dt
   refine⟨λcO=> ?_,λaO ae=> ?_⟩
   ·rw[jz];exact ao.apart b e0 k j fY b9 qX hj aj hM cO
   ·have:=ao.along b e0 k j fY b9 qX hj aj hM aO (by rw[<-jz];exact ae)
    omega
 refine {rel:=⟨u5,?_,?_,?_,λi o ag=>by
   obtain⟨ad,af⟩:=ao.df i o ag;have b8:i<w.heap.size:=(Array.getElem?_eq_some_iff.1 ad).1;refine⟨by rw[rP i b8];exact ad,λj e1 hj=> ?_⟩;rcases me j e1 hj with ⟨rfl,rfl⟩|⟨_,hj⟩
   ·rcases hw with ⟨he,_⟩|⟨_,e0,k',qX,dt,jz,tV⟩
    ·omega
    ·rw[jz];exact af b e0 qX
   ·exact af j e1 hj⟩,eo:= ?_,rO:= ?_,new:= ?_,qi:=by omega,low:=mF,same:= ?_,ro:= ?_,keep:= ?_,gD:=cl,os:=wH.1,tape:=wH.2.1,output:=wH.2.2,drawn:=b2 _}
 ·intro j e1 ae
  rcases me j e1 ae with ⟨rfl,rfl⟩|⟨cO,ae⟩
  ·exact⟨_,by rw[gF,aQ rfl],cP,ho⟩
  ·obtain⟨b9,hM,ad,af⟩:=ao.eo j e1 ae
   exact⟨b9,by rw[gF,aU cO];exact hM,ad,af.mono hold (rP _ af.lt)⟩
 ·intro j e1 b9 fC oD dJ ae dR nk oE cO
  rw[gF] at nk oE;rcases me j e1 ae with ⟨rfl,rfl⟩|⟨jb,sG⟩
  ·rcases me fC oD dR with ⟨rfl,rfl⟩|⟨lb,qU⟩
   ·rw[aQ rfl] at nk oE;cases nk;cases oE;exact absurd rfl cO
   ·rw[aQ rfl] at nk;rw[aU lb] at oE;cases nk
    exact(tY fC oD dJ qU oE).1 cO
  ·rcases me fC oD dR with ⟨rfl,rfl⟩|⟨lb,qU⟩
   ·rw[aQ rfl] at oE;rw[aU jb] at nk;cases oE
    exact Ne.symm ((tY j e1 b9 sG nk).1 (Ne.symm cO))
   ·rw[aU jb] at nk;rw[aU lb] at oE
    exact ao.apart j e1 b9 fC oD dJ sG qU nk oE cO
 ·intro j e1 b9 fC oD dJ ae dR nk oE nZ jz
  rw[gF] at nk oE;rcases me j e1 ae with ⟨rfl,rfl⟩|⟨jb,sG⟩
  ·rcases me fC oD dR with ⟨rfl,rfl⟩|⟨lb,qU⟩
   ·rw[aQ rfl] at nk oE;cases nk;cases oE;rfl
   ·rw[aQ rfl] at nk;rw[aU lb] at oE;cases nk
    exact(tY fC oD dJ qU oE).2 nZ jz
  ·rcases me fC oD dR with ⟨rfl,rfl⟩|⟨lb,qU⟩
   ·rw[aQ rfl] at oE;rw[aU jb] at nk;cases oE
    exact((tY j e1 b9 sG nk).2 nZ.symm jz.symm).symm
   ·rw[aU jb] at nk;rw[aU lb] at oE
    exact ao.along j e1 b9 fC oD dJ sG qU nk oE nZ jz
 ·intro j hj
  unfold hc;rw[aU ar]
 ·intro j ad af
  have:j=A.n:=by omega
  subst this;simp [hc]
 ·intro j e1 ad ae
  rcases me j e1 ae with ⟨rfl,rfl⟩|⟨jb,ae⟩
  ·rcases hw with ⟨he,_⟩|⟨_,e0,k',qX,dt,jz,tV⟩
   ·exact .inl ar
   ·exact .inr ⟨b,e0,k,qX,jz.symm,Iz b tS,aj,dE⟩
  ·exact absurd (ao.lt ae) ar
 ·intro j hj _
  rw[gF,aU ar]
 ·intro j b9 hM _
  rw[gF,aU (by have:=ao.wf.lt j b9 hM;omega)];exact hM
 ·intro i ag _
  exact rP i ag
theorem adp {φ:bV} {A a_:a'} {w:ax} (ao:bU φ A w) {b off:Nat} {v aB:J} {e:hz} (h:A.store b off v=some a_) (he:φ b=some e) (aC:aD φ v aB) (aq:w.cell? ⟨e.bk,e.sh+off,none⟩=some aB):
  cw φ A w φ a_ w:=by
 obtain⟨st,_,_⟩:=T7 ao h he aC;have:w.setCell ⟨e.bk,e.sh+off,none⟩ aB=w:=by
  unfold World.setCell;have:w.heap.modify e.bk (λ
   | .cells c elem frozen=> .cells (if (none:Option Nat).isSome then c else c.setIfInBounds (e.sh+off) aB) elem frozen
   |o=>o)=w.heap:=by
   apply Array.ext_getElem?;intro i;rw[Array.getElem?_modify];split
   ·rename_i ag
    subst ag;cases ah:w.heap[e.bk]? with
    |none=>rfl
    |some o=>
     cases o<;>try rfl
     rename_i c t fr;simp only [Option.map_some,Option.isSome_none,Bool.false_eq_true,if_false,cE,Obj.cells.injEq,and_true];simp only [World.cell?,ah,Option.isSome_none,Bool.false_eq_true,if_false] at aq;apply Array.ext_getElem?;intro j;rw[Array.getElem?_setIfInBounds];split
     ·rename_i hj;subst hj
      obtain⟨b8,_⟩:=Array.getElem?_eq_some_iff.1 aq;rw[aQ b8,aq]
     ·rfl
   ·rfl
  exact congrArg (λh=>{w with heap:=h}) this
 rw[this] at st;exact st
theorem Ur {φ:bV} {b:Nat} {e:hz} (he:φ b=some e) {w:ax}:∀(vs:List J) (A a_:a') (off:Nat),bU φ A w->A.qW b off vs=some a_->
  (∀j,j<vs.length->∃aB,w.cell? ⟨e.bk,e.sh+(off+j),none⟩=some aB/\aD φ (vs.getD j undef) aB)->cw φ A w φ a_ w
 |[],A,a_,off,ao,h,_=>by
  simp only [a'.qW,cE] at h;subst h;exact cw.refl ao
 |v::r,A,a_,off,ao,h,aC=>by
  unfold a'.qW at h;cases ad:AE.xT v with
  |false=>rw[ad] at h;cases h
  |true=>
   rw[ad,bx] at h;cases aw:A.store b off v with
   |none=>rw[aw] at h;cases h
   |some bB=>
    rw[aw] at h;simp only at h;obtain⟨aB,g1,g2⟩:=aC 0 (by simp);have st:=adp ao aw he (by simpa using g2) (by simpa using g1);exact cw.trans ao st (Ur he r bB a_ (off+1) st.rel h λj hj=>by
     obtain⟨adq,q1,aE⟩:=aC (j+1) (by simpa using hj)
     exact⟨adq,by rw[show off+1+j=off+(j+1) by omega];exact q1,by simpa using aE⟩)
end AE
namespace AE
variable [a7]
omit [a7] in
theorem Us (Ut:Nat):∀(r c:Nat),Builtin.growBy Ut r c<=(c+768)*2^r
 |0,c=>by simp [Builtin.growBy]
 |r+1,c=>by
  unfold Builtin.growBy;split
  ·have:1<=2^(r+1):=Nat.one_le_two_pow
   calc c<=c+768:=by omega
    _=(c+768)*1:=by omega
    _<=(c+768)*2^(r+1):=Nat.mul_le_mul_left _ this
  ·have h:=Us Ut r (c+(c+768)/4)
   calc _<=(c+(c+768)/4+768)*2^r:=h
    _<=((c+768)*2)*2^r:=Nat.mul_le_mul_right _ ar
    _=(c+768)*2^(r+1):=by rw[Nat.pow_succ,Nat.mul_assoc,Nat.mul_comm 2]
omit [a7] in
theorem adr {need c:Nat} (h:c<need) (av:need<=1048576):Builtin.nextslicecap need c<=33554432:=by
 unfold Builtin.nextslicecap;split
 ·omega
 ·split
  ·omega
  ·have bD:=Us need 4 c
   have ads:(c+768)*2^4<=33554432:=by
    rw[show (2:Nat)^4=16 from rfl];omega
   exact Nat.le_trans bD ads
omit [a7] in
theorem Uu (z:Array J) (n:Nat):(Builtin.zeroCells z n).size=n*z.size:=by simp [Builtin.zeroCells]
section
variable {P:aR} {φ:bV} {A a_:a'} {w:ax}
omit [a7] in
theorem Uv (a:Addr) (n:Nat) {v:Array J} (h:(loadCells a n).run P w= .ok v w) (d:Nat) (aq:∀j,j<n->∃u,w.cell? (a.add j)=some u):(loadCells a n).run P {w with drawn:=d}= .ok v {w with drawn:=d}:=by
 let f:Nat->J:=λj=>(w.cell? (a.add j)).getD undef
 have aO:∀j,j<n->w.cell? (a.add j)=some (f j):=λj hj=>by
  obtain⟨u,hu⟩:=aq j hj;simp [f,hu]
 have ad:=run_loadCells (P:=P) w a n f aO;rw[h] at ad;have af:=run_loadCells (P:=P) {w with drawn:=d} a n f aO;rw[af];injection ad with ad;rw[ad]
def IJ (A:a') (bb:Nat):J->Option (Nat×List J)
 | .slice (some ⟨b,off,none⟩) n _=>(A.rR b off (n*bb)).map λl=>(n,l)
 | .slice none 0 0=>some (0,[])
 | .string s=>bif bb==1 then some (s.size,s.data.toList.map λb=> .int .u8 b.toNat) else none
 |_=>none
theorem adt (ao:bU φ A w) {bb n:Nat} {x x':J} {l:List J} (ak:aD φ x x') (h:IJ A bb x=some (n,l)):
  l.length=n*bb/\∃kd:Array J,kd.size=l.length/\(∀j,j<l.length->aD φ (l.getD j undef) (kd.getD j undef))/\
    (∀d,(Builtin.lenOf x').run P {w with drawn:=d}= .ok n {w with drawn:=d})/\∀d,(Builtin.firstCells bb n x').run P {w with drawn:=d}= .ok kd {w with drawn:=d}:=by
 unfold IJ at h;split at h
 ·rename_i b off fS c
  obtain⟨l',fB,heq⟩:=Option.map_eq_some_iff.1 h;simp only [Prod.mk.injEq] at heq;obtain⟨rfl,rfl⟩:=heq;obtain⟨hlen,va⟩:=AW fB;have main:∀(e:hz) (c':Nat),φ b=some e->∃kd:Array J,kd.size=l'.length/\(∀j,j<l'.length->aD φ (l'.getD j undef) (kd.getD j undef))/\
   (∀d,(Builtin.lenOf (.slice (some ⟨e.bk,e.sh+off,none⟩) fS c')).run P {w with drawn:=d}= .ok fS {w with drawn:=d})/\∀d,(Builtin.firstCells bb fS (.slice (some ⟨e.bk,e.sh+off,none⟩) fS c')).run P {w with drawn:=d}= .ok kd {w with drawn:=d}:=by
   intro e c' he;obtain⟨cF,ad,af,ay⟩:=E4 ao P fB he;refine⟨cF,af,ay,λd=>rfl,λd=> ?_⟩;exact Uv _ _ ad d λj hj=>by
    obtain⟨aB,g1,_⟩:=u6 ao (va j hj) he;exact⟨aB,by rw[Addr.kc,Nat.add_assoc];exact g1⟩
  cases ak with
  |ia _ c' he=>exact⟨hlen,main _ _ he⟩
  |ib _ _ c' he _ _ _=>exact⟨hlen,main _ _ he⟩
  |iH aW _=>
   have:l'=[]:=by simpa using hlen
   subst this;refine⟨by simp,#[],rfl,λj hj=>absurd hj (by simp),λd=>rfl,λd=> ?_⟩;simp [Builtin.firstCells,loadCells,loadCellsFrom,Sem.run,pure]
 ·simp only [cE,Prod.mk.injEq] at h
  obtain⟨rfl,rfl⟩:=h;cases ak with
  |slnil=>exact⟨by simp,#[],rfl,λj hj=>absurd hj (by simp),λd=>rfl,λd=>rfl⟩
 ·rename_i s
  cases aw:(bb==1) with
  |false=>rw[aw] at h;cases h
  |true=>
   rw[aw,bx] at h;simp only [cE,Prod.mk.injEq] at h;obtain⟨rfl,rfl⟩:=h;have xV:bb=1:=by simpa using aw
   cases ak with
   |string=>
    refine⟨by simp [xV],(s.data.toList.map λb=>Value.int .u8 b.toNat).toArray,by simp,λj hj=> ?_,λd=>rfl,λd=> ?_⟩
    ·simp only [fb,List.getElem?_toArray,dh]
     have gR:j<s.data.toList.length:=by simpa using hj
     simp only [List.getElem?_map,fA gR,Option.map_some,Option.getD_some];exact .int _ _
    ·simp only [Builtin.firstCells]
     show Result.ok _ _=Result.ok _ _;congr 1;have:(s.extract 0 s.size)=s:=by simp
     rw[this];apply Array.ext';simp
 ·cases h
omit [a7] in
theorem cQ {α eY:Type} {s:Sem α} {k:α->Sem eY} {a:α} {w:ax} {r:Result eY} (h:bd P s=some a) (aj:(k a).run P w=r):(s >>= k).run P w=r:=by
 rw[Sem.run_bind,jc h w];exact aj
omit [a7] in
theorem dc {α eY:Type} {s:Sem α} {k:α->Sem eY} {a:α} {w w1:ax} {r:Result eY} (h:s.run P w= .ok a w1) (aj:(k a).run P w1=r):(s >>= k).run P w=r:=by
 rw[Sem.run_bind,h];exact aj
def IK:TypeDesc->Bool
 | .int _=>true
 |_=>false
omit [a7] in
theorem IL {cW:Array aJ} {t t2 elem ty:aJ} {bb n n1 rU:Nat} {base:Option Addr} {x':J} {kd:Array J} (aM:cW[0]? =some t) (ad:cW[1]? =some t2)
  (hu:bd P (underlying t)=some (.slice elem)) {oF:TypeDesc} (tZ:bd P (underlying t2)=some oF) (bc:IK oF=false) (cl:bd P (sizeOf elem)=some bb)
  (hlen:(Builtin.lenOf x').run P w= .ok n w) (wI:(Builtin.firstCells bb n x').run P w= .ok kd w) (qo:n1+n<=rU) {w':ax}
  (cP:(match base with|some a=>storeCells (a.add (n1*bb)) kd.toList|none=>pure ()).run P w= .ok () w'):
  (Builtin.append_ cW ty #[.slice base n1 rU,x']).run P w= .ok (.slice base (n1+n) rU) w':=by
 unfold Builtin.append_;simp only [aM,ad,List.getElem?_toArray,List.getElem?_cons_zero,List.getElem?_cons_succ];refine cQ hu ?_;simp only;refine cQ cl ?_;refine cQ tZ ?_;refine cQ (a:=false) (by cases oF<;>first|rfl|cases bc) ?_;simp only [Bool.false_eq_true,if_false];refine dc hlen ?_;rw[aQ qo];simp only [Bool.not_false,if_true];refine dc wI ?_;cases base with
 |none=>
  have:w'=w:=by
   have h:Result.ok () w=Result.ok () w':=cP;injection h with _ h;exact h.symm
  subst this;rfl
 |some a=>exact dc cP rfl
omit [a7] in
theorem Uw {cW:Array aJ} {t t2 elem ty:aJ} {info:TypeInfo} {z:J} {bb n n1 rU:Nat} {base:Option Addr} {x':J} {jn kd:Array J} (aM:cW[0]? =some t) (ad:cW[1]? =some t2)
  (hu:bd P (underlying t)=some (.slice elem)) {oF:TypeDesc} (tZ:bd P (underlying t2)=some oF) (bc:IK oF=false) (cl:bd P (sizeOf elem)=some bb)
  (ag:bd P (typeInfo elem)=some info) (adu:bd P (zeroValue elem)=some z) (e7:info.bytes≠0) (ae:info.bytes<=65536) (rV:n1+n<=1048576)
  (hlen:(Builtin.lenOf x').run P w= .ok n w) (wI:∀d,(Builtin.firstCells bb n x').run P {w with drawn:=d}= .ok kd {w with drawn:=d})
  (hold:∀d,(Builtin.firstCells bb n1 (.slice base n1 rU)).run P {w with drawn:=d}= .ok jn {w with drawn:=d}) (qo:rU<n1+n):
  ∃lT,n1+n<=lT/\(Builtin.append_ cW ty #[.slice base n1 rU,x']).run P w=
   .ok (.slice (some ⟨w.heap.size,0,none⟩) (n1+n) lT) {w with drawn:=w.drawn+1,heap:=w.heap.push (.cells (jn++kd++Builtin.zeroCells z.cells (lT-(n1+n))) elem)}:=by
 refine⟨(Question.appendCap (n1+n) rU elem).cut (w.tape w.drawn (.appendCap (n1+n) rU elem)),by simp [Question.cut],?_⟩;unfold Builtin.append_;simp only [aM,ad,List.getElem?_toArray,List.getElem?_cons_zero,List.getElem?_cons_succ];refine cQ hu ?_;simp only;refine cQ cl ?_;refine cQ tZ ?_;refine cQ (a:=false) (by cases oF<;>first|rfl|cases bc) ?_;simp only [Bool.false_eq_true,if_false];refine dc hlen ?_;rw[aU ar];refine cQ ag ?_;rw[aU (by simp [e7])];refine cQ ag ?_;have ke:=adr qo rV;have hle:¬(Builtin.nextslicecap (n1+n) rU*info.bytes>2^48):=by
  have h:=Nat.mul_le_mul ke ae;have af:33554432*65536<=2^48:=by decide
  omega
 rw[aU hle];refine dc (w1:={w with drawn:=w.drawn+1}) (a:=(Question.appendCap (n1+n) rU elem).cut (w.tape w.drawn (.appendCap (n1+n) rU elem))) (by simp [choose,Sem.run,Question.forced]) ?_;refine cQ ag ?_;refine dc (w1:={w with drawn:=w.drawn+1}) (a:=()) (by unfold askRoom;split<;>rfl) ?_;refine dc (hold _) ?_;simp only [Bool.not_false,if_true];refine dc (wI _) ?_;refine cQ adu ?_;refine dc (a:=(⟨w.heap.size,0,none⟩:Addr)) (by simp only [newRow,newObj];rfl) ?_;rfl
end
end AE
namespace AE
variable [a7]
section
variable {P:aR} {φ:bV} {A a_:a'} {w:ax}
def Mk (P:aR) (A:a') (cW:Array aJ) (s x:J):Option (J×a'):=
 match cW[0]?,cW[1]? with
 |some t,some t2=>match bd P (underlying t),bd P (underlying t2) with
  |some (.slice elem),some oF=>
   match bd P (sizeOf elem),bd P (typeInfo elem),bd P (zeroValue elem) with
   |some bb,some info,some z=>
    bif IK oF||Nat.beq bb 0||Nat.beq info.bytes 0|| !Nat.ble info.bytes 65536|| !Nat.beq z.cells.size bb then none else
     match IJ A bb x with
     |some (n,c4)=>
      bif !Nat.ble n 524288 then none else
      match s with
      | .slice none 0 0=>bif Nat.beq n 0 then some (.slice none 0 0,A) else
          match A.push (.cells c4) bb elem with
          |some (r,bB)=>some (.slice (some ⟨r,0,none⟩) n n,bB)
          |none=>none
      | .slice (some ⟨b,off,none⟩) sl qY=>
        bif !Nat.ble sl 524288||(Nat.beq b dead&& !Nat.beq off 0) then none else
         bif Nat.ble (sl+n) qY then
          match A.qW b (off+sl*bb) c4 with
          |some bB=>some (.slice (some ⟨b,off,none⟩) (sl+n) qY,bB)
          |none=>none
         else match A.bl.get b with
          |none=>bif Nat.beq sl 0&&Nat.beq qY 0 then
            match A.push (.cells c4) bb elem with
            |some (r,bB)=>some (.slice (some ⟨r,0,none⟩) n n,bB)
            |none=>none
           else none
          |some k=>match A.rR b off (sl*bb) with
           |some old=>
            bif Nat.beq k.eF 0 then
             match A.push (.cells (old++c4)) bb elem with
             |some (r,bB)=>some (.slice (some ⟨r,0,none⟩) (sl+n) (sl+n),bB)
             |none=>none
            else bif Nat.beq k.eF bb then
             match A.II b (k.pos+off) bb elem (old++List.replicate (n*bb) cp) with
             |some (r,bB)=>match bB.qW r (sl*bb) c4 with
              |some fl=>some (.slice (some ⟨r,0,none⟩) (sl+n) (sl+n),fl)
              |none=>none
             |none=>none
            else none
           |none=>none
      |_=>none
     |none=>none
   |_,_,_=>none
  |_,_=>none
 |_,_=>none
theorem Ml (ao:bU φ A w) (d:Nat):bU φ A {w with drawn:=d}:=⟨ao.wf,ao.eo,ao.apart,ao.along,ao.df⟩
theorem Ux {old c4:List J} {jn kd rest:Array J} (ad:jn.size=old.length) (af:∀j,j<old.length->aD φ (old.getD j undef) (jn.getD j undef)) (ay:kd.size=c4.length)
  (bD:∀j,j<c4.length->aD φ (c4.getD j undef) (kd.getD j undef)):∀j,j<(old++c4).length->aD φ ((old++c4).getD j undef) ((jn++kd++rest).getD j undef):=by
 intro j hj;simp only [List.length_append] at hj;simp only [dh,fb,List.getElem?_append,Array.getElem?_append,Array.size_append] at af bD ⊢;by_cases AY:j<old.length
 ·rw[aQ AY,aQ ar,aQ ar]
  exact af j AY
 ·rw[aU AY,aQ ar,aU ar,ad]
  exact bD (j-old.length) ar
theorem adv (ao:bU φ A w) {elem:aJ} {bb sl n:Nat} {old c4:List J} {jn kd rest:Array J} {r lT:Nat} (cl:1<=bb) (hp:A.push (.cells (old++c4)) bb elem=some (r,a_))
  (ad:jn.size=old.length) (af:∀j,j<old.length->aD φ (old.getD j undef) (jn.getD j undef)) (ay:kd.size=c4.length) (bD:∀j,j<c4.length->aD φ (c4.getD j undef) (kd.getD j undef))
  (vb:old.length=sl*bb) (ie:c4.length=n*bb) (ke:sl+n<=lT) (wH:rest.size=(lT-(sl+n))*bb):
  ∃cZ w',w'={w with drawn:=w.drawn+1,heap:=w.heap.push (.cells (jn++kd++rest) elem)}/\
   aD cZ (.slice (some ⟨r,0,none⟩) (sl+n) (sl+n)) (.slice (some ⟨w.heap.size,0,none⟩) (sl+n) lT)/\cw φ A w cZ a_ w':=by
 have kV:=Ml ao (w.drawn+1);obtain⟨cZ,w',g1,g2,g3,g4⟩:=CW kV (default:aR) (c':=jn++kd++rest) elem hp (by simp;omega) (λh=>absurd (show bb=0 from h) ar) (Ux ad af ay bD);refine⟨cZ,w',g4,?_,cw.trans ao (cw.zl ao (w.drawn+1)) g3⟩;have adw:(jn++kd++rest).size=lT*bb:=by
  simp only [Array.size_append,ad,ay,vb,ie,wH];rw[<-Nat.add_mul,<-Nat.add_mul];congr 1;omega
 have:=aD.ib (φ:=cZ) (b:=r) (o:=0) (sl+n) (sl+n) lT g2 cl ke (by
  simp only [Nat.zero_add]
  rw[adw];exact b2 _)
 simpa using this
theorem adx (ao:bU φ A w) {cW:Array aJ} {ty:aJ} {s fu x x' v:J} (aw:aD φ s fu) (ak:aD φ x x') (h:Mk P A cW s x=some (v,a_)):bY (hA v) P φ A w (Builtin.append_ cW ty #[fu,x']) a_:=by
 unfold Mk at h;split at h
 ·rename_i t t2 aK CZ
  split at h
  ·rename_i elem oF hu tZ
   split at h
   ·rename_i bb info z cl ag bI
    cases aq:(IK oF||Nat.beq bb 0||Nat.beq info.bytes 0|| !Nat.ble info.bytes 65536|| !Nat.beq z.cells.size bb) with
    |true=>rw[aq] at h;cases h
    |false=>
     rw[aq,ek] at h;simp only [Bool.or_eq_false_iff,Bool.not_eq_false'] at aq;obtain⟨⟨⟨⟨bc,gM⟩,c2⟩,c3⟩,qZ⟩:=aq;have Mm:1<=bb:=by
      rcases Nat.eq_zero_or_pos bb with aM|aM
      ·subst aM;simp at gM
      ·exact aM
     have e7:info.bytes≠0:=by
      intro aM;rw[aM] at c2;simp at c2
     have ae:info.bytes<=65536:=Nat.ble_eq.mp c3;have qn:z.cells.size=bb:=cA qZ;cases AZ:IJ A bb x with
     |none=>rw[AZ] at h;cases h
     |some q=>
      obtain⟨n,c4⟩:=q;rw[AZ] at h;simp only at h;obtain⟨ie,kd,jb,lb,C2,wI⟩:=adt (P:=P) ao ak AZ;cases A0:Nat.ble n 524288 with
      |false=>rw[A0] at h;cases h
      |true=>
       rw[A0,Bool.not_true,ek] at h;have av:=Nat.ble_eq.mp A0;have fresh:∀(sl:Nat) (old:List J) (jn:Array J) (base:Option Addr) (mH r:Nat),sl<=524288->old.length=sl*bb->jn.size=old.length->(∀j,j<old.length->aD φ (old.getD j undef) (jn.getD j undef))->
         (∀d,(Builtin.firstCells bb sl (.slice base sl mH)).run P {w with drawn:=d}= .ok jn {w with drawn:=d})->mH<sl+n->A.push (.cells (old++c4)) bb elem=some (r,a_)->
         bY (hA (.slice (some ⟨r,0,none⟩) (sl+n) (sl+n))) P φ A w (Builtin.append_ cW ty #[.slice base sl mH,x']) a_:=by
        intro sl old jn base mH r gw vb IM A1 hold qo hp;obtain⟨lT,ke,e8⟩:=Uw (ty:=ty) aK CZ hu tZ bc cl ag bI e7 ae ar (C2 w.drawn) wI hold qo;obtain⟨cZ,w',e1,e2,dn⟩:=adv ao Mm hp IM A1 jb lb vb ie ke (rest:=Builtin.zeroCells z.cells (lT-(sl+n))) (by rw[Uu,qn]);subst e1;exact⟨cZ,_,_,e8,e2,dn⟩
       split at h
       ·
        cases aw;cases fq:Nat.beq n 0 with
        |true=>
         rw[fq,bx] at h;simp only [cE,Prod.mk.injEq] at h;obtain⟨rfl,rfl⟩:=h;have Uy:n=0:=cA fq;subst Uy;exact⟨φ,w,_,IL aK CZ hu tZ bc cl (C2 w.drawn) (wI w.drawn) (b2 _) rfl,.slnil _ _,cw.refl ao⟩
        |false=>
         rw[fq,ek] at h;split at h
         ·rename_i r bB hp
          simp only [cE,Prod.mk.injEq] at h;obtain⟨rfl,rfl⟩:=h;have Uy:n≠0:=λe=>by subst e;simp at fq
          have:=fresh 0 [] #[] none 0 r ar (by simp) rfl (λj hj=>absurd hj (by simp)) (λd=>rfl) ar (by simpa using hp);simpa using this
         ·cases h
       ·rename_i b off sl qY
        cases Mn:Nat.ble sl 524288 with
        |false=>rw[Mn] at h;cases h
        |true=>
         rw[Mn,Bool.not_true,Bool.false_or] at h;cases IN:(Nat.beq b dead&& !Nat.beq off 0) with
         |true=>rw[IN] at h;cases h
         |false=>
         rw[IN,ek] at h;have IP:b=dead->off=0:=λe=>by
          subst e;rw[Nat.beq_refl,Bool.true_and,Bool.not_eq_false'] at IN;exact cA IN
         have gw:=Nat.ble_eq.mp Mn;cases qo:Nat.ble (sl+n) qY with
         |true=>
          rw[qo,bx] at h;have Fe:=Nat.ble_eq.mp qo;split at h
          ·rename_i bB cP
           simp only [cE,Prod.mk.injEq] at h;obtain⟨rfl,rfl⟩:=h;have room:∀(e:hz) (mH:Nat),φ b=some e->sl+n<=mH->∃w',cw φ A w φ bB w'/\(Builtin.append_ cW ty #[.slice (some ⟨e.bk,e.sh+off,none⟩) sl mH,x']).run P w= .ok (.slice (some ⟨e.bk,e.sh+off,none⟩) (sl+n) mH) w':=by
            intro e mH he hle;obtain⟨w',g1,g2⟩:=CU P he c4 A bB w (off+sl*bb) 0 kd.toList ao cP (by simpa using jb) (λj hj=>by
             have:=lb j hj;simp only [fb] at this
             simpa [dh] using this)
            refine⟨w',g2,IL aK CZ hu tZ bc cl (C2 w.drawn) (wI w.drawn) hle ?_⟩;simp only [Addr.kc];rw[Nat.add_assoc];exact g1
           cases aw with
           |ia _ _ he=>
            obtain⟨w',g1,g2⟩:=room _ _ he Fe;exact⟨φ,w',_,g2,.ia _ _ he,g1⟩
           |ib _ _ c' he q1 aE ca=>
            obtain⟨w',g1,g2⟩:=room _ c' he ar;exact⟨φ,w',_,g2,.ib _ _ _ he q1 aE ca,g1⟩
           |iH aW pH=>
            have jo:=pH (IP rfl);subst jo;have fq:n=0:=by omega
            subst fq;have ady:c4=[]:=by simpa using ie
            subst ady;simp only [a'.qW,cE] at cP;subst cP;have Mo:kd= #[]:=Array.eq_empty_of_size_eq_zero jb;subst Mo;exact⟨φ,w,_,IL aK CZ hu tZ bc cl (C2 w.drawn) (wI w.drawn) (b2 _) rfl,.iH _ pH,cw.refl ao⟩
          ·cases h
         |false=>
          rw[qo,ek] at h;have Fe:qY<sl+n:=by
           rcases Nat.lt_or_ge qY (sl+n) with ad|ad
           ·exact ad
           ·rw[Nat.ble_eq.mpr ad] at qo;cases qo
          cases aj:A.bl.get b with
          |none=>
           rw[aj] at h;simp only at h;cases t':(Nat.beq sl 0&&Nat.beq qY 0) with
           |false=>rw[t'] at h;cases h
           |true=>
            rw[t',bx] at h;simp only [cV] at t';have e1:sl=0:=cA t'.1;have e2:qY=0:=cA t'.2;subst e1;subst e2;split at h
            ·rename_i r bB hp
             simp only [cE,Prod.mk.injEq] at h;obtain⟨rfl,rfl⟩:=h;have Ff:∀e,φ b≠some e:=λe he=>by
              obtain⟨k,dt,_⟩:=ao.eo b e he;rw[aj] at dt;cases dt
             cases aw with
             |ia _ _ he=>exact absurd he (Ff _)
             |ib _ _ c' he q1 aE ca=>exact absurd he (Ff _)
             |iH aW pH=>
              have jo:=pH (IP rfl);subst jo;have:=fresh 0 [] #[] (some aW) 0 r ar (by simp) rfl (λj hj=>absurd hj (by simp)) (λd=>by simp [Builtin.firstCells,loadCells,loadCellsFrom,Sem.run,pure]) ar (by simpa using hp);simpa using this
            ·cases h
          |some k=>
           rw[aj] at h;simp only at h;cases hold:A.rR b off (sl*bb) with
           |none=>rw[hold] at h;cases h
           |some old=>
            rw[hold] at h;simp only at h;obtain⟨vb,va⟩:=AW hold;have Mp:∀(e:hz) (mH:Nat),φ b=some e->∃jn:Array J,jn.size=old.length/\(∀j,j<old.length->aD φ (old.getD j undef) (jn.getD j undef))/\
              ∀d,(Builtin.firstCells bb sl (.slice (some ⟨e.bk,e.sh+off,none⟩) sl mH)).run P {w with drawn:=d}= .ok jn {w with drawn:=d}:=by
             intro e mH he;obtain⟨cF,ad,af,ay⟩:=E4 ao P hold he;exact⟨cF,af,ay,λd=>Uv _ _ ad d λj hj=>by
              obtain⟨aB,g1,_⟩:=u6 ao (va j hj) he
              exact⟨aB,by rw[Addr.kc,Nat.add_assoc];exact g1⟩⟩
            have Uz:∀(aW:Addr),sl=0->∀d,(Builtin.firstCells bb sl (.slice (some aW) sl 0)).run P {w with drawn:=d}= .ok #[] {w with drawn:=d}:=by
             intro aW e d;subst e;simp [Builtin.firstCells,loadCells,loadCellsFrom,Sem.run,pure]
            cases xW:Nat.beq k.eF 0 with
            |true=>
             rw[xW,bx] at h;have hK:k.eF=0:=cA xW;split at h
             ·rename_i r bB hp
              simp only [cE,Prod.mk.injEq] at h;obtain⟨rfl,rfl⟩:=h;cases aw with
              |ia _ _ he=>
               obtain⟨jn,jd,kW,zp⟩:=Mp _ qY he;exact fresh sl old jn _ qY r gw vb jd kW zp Fe hp
              |ib _ _ c' he q1 aE ca=>
               obtain⟨k',dt,cP,_⟩:=ao.eo b _ he;rw[aj] at dt;cases dt;omega
              |iH aW pH=>
               have jo:=pH (IP rfl);subst jo;have Mq:old=[]:=by simpa using vb
               subst Mq;exact fresh 0 [] #[] (some aW) 0 r ar (by simp) rfl (λj hj=>absurd hj (by simp)) (Uz aW rfl) ar hp
             ·cases h
            |false=>
             rw[xW,ek] at h;cases Fg:Nat.beq k.eF bb with
             |false=>rw[Fg] at h;cases h
             |true=>
              rw[Fg,bx] at h;have Fh:k.eF=bb:=cA Fg;split at h
              ·rename_i r bB hp
               split at h
               ·rename_i fl UA
                simp only [cE,Prod.mk.injEq] at h;obtain⟨rfl,rfl⟩:=h;obtain⟨_,_,_,n3,_,dE,_,_,rfl,_,_,_,_,_⟩:=Mj hp ao.wf;have b8:∀b e,φ b=some e->∀em,hc φ A.n em b=some e:=λb e ae em=>by
                 unfold hc;rw[aU (by have:=ao.lt ae;omega)];exact ae
                have Mr:∀(base:Option Addr) (mH:Nat) (jn:Array J),jn.size=old.length->(∀j,j<old.length->aD φ (old.getD j undef) (jn.getD j undef))->
                  (∀d,(Builtin.firstCells bb sl (.slice base sl mH)).run P {w with drawn:=d}= .ok jn {w with drawn:=d})->mH<sl+n->
                  bY (hA (.slice (some ⟨A.n,0,none⟩) (sl+n) (sl+n))) P φ A w (Builtin.append_ cW ty #[.slice base sl mH,x']) fl:=by
                 intro base mH jn jd kW zp aO;obtain⟨lT,ke,e8⟩:=Uw (ty:=ty) aK CZ hu tZ bc cl ag bI e7 ae ar (C2 w.drawn) wI zp aO;have n4:(jn++kd++Builtin.zeroCells z.cells (lT-(sl+n))).size=lT*bb:=by
                  simp only [Array.size_append,jd,jb,vb,ie,Uu,qn];rw[<-Nat.add_mul,<-Nat.add_mul];congr 1;omega
                 have kV:=Ml ao (w.drawn+1);have j4:=Ux (rest:=Builtin.zeroCells z.cells (lT-(sl+n))) jd kW jb lb;have hle:(sl+n)*bb<=lT*bb:=Nat.mul_le_mul_right _ ke;have adz:sl*bb+n*bb=(sl+n)*bb:=(Nat.add_mul _ _ _).symm;have o9:=Uq (e:=⟨w.heap.size,0,bb,lT*bb⟩) kV hp rfl (.inl ⟨rfl,.cells (jn++kd++Builtin.zeroCells z.cells (lT-(sl+n))) elem,rfl⟩) (λk' dt=>by
                  simp only [fL];refine⟨_,(0,0),by simp,n4.symm,⟨by simp only [List.length_append,mc,Nat.zero_add,vb,n4];omega,λh=>absurd (show bb=0 from h) ar⟩,λj hj=> ?_,λ_ i _=>by simp⟩;simp only [List.length_append,mc] at hj;simp only [Nat.zero_add];by_cases AY:j<old.length
                  ·have:=(j4 j (by simp;omega)).mono λj3 e1 lS=>b8 j3 e1 lS ⟨w.heap.size,0,bb,lT*bb⟩
                   rw[dh,List.getElem?_append_left AY] at this ⊢;exact this
                  ·rw[dh,List.getElem?_append_right ar,List.getElem?_replicate,aQ ar]
                   exact .cp _)
                 have wG:=Ur (e:=⟨w.heap.size,0,bb,lT*bb⟩) (by simp [hc]) c4 bB fl (sl*bb) o9.rel UA (λj hj=>by
                  have:=(j4 (sl*bb+j) (by simp;omega)).mono λj3 e1 lS=>b8 j3 e1 lS ⟨w.heap.size,0,bb,lT*bb⟩
                  rw[dh,List.getElem?_append_right ar,vb,Nat.add_sub_cancel_left,<-dh] at this;refine⟨_,?_,this⟩;simp only [World.cell?,Nat.zero_add];have iX:sl*bb+j<(jn++kd++Builtin.zeroCells z.cells (lT-(sl+n))).size:=by rw[n4];omega
                  simp only [Array.getElem?_push_size,Option.isSome_none,Bool.false_eq_true,if_false,fb];rw[Array.getElem?_eq_getElem iX]
                  rfl)
                 refine⟨_,_,_,e8,?_,cw.trans ao (cw.zl ao (w.drawn+1)) (cw.trans kV o9 wG)⟩;have:=aD.ib (φ:=hc φ A.n ⟨w.heap.size,0,bb,lT*bb⟩) (b:=A.n) (o:=0) (e:=⟨w.heap.size,0,bb,lT*bb⟩) (sl+n) (sl+n) lT (by simp [hc]) Mm ke (by simp);simpa using this
                cases aw with
                |ia _ _ he=>
                 obtain⟨jn,jd,kW,zp⟩:=Mp _ qY he;exact Mr _ _ jn jd kW zp Fe
                |iH aW pH=>
                 have jo:=pH (IP rfl);subst jo;have Mq:old=[]:=by simpa using vb
                 subst Mq;exact Mr (some aW) 0 #[] rfl (λj hj=>absurd hj (by simp)) (Uz aW rfl) Fe
                |ib _ _ c' he q1 aE ca=>
                 rename_i e;obtain⟨jn,jd,kW,zp⟩:=Mp _ c' he;rcases Nat.lt_or_ge c' (sl+n) with rS|ko
                 ·exact Mr _ _ jn jd kW zp rS
                 ·
                  obtain⟨k',dt,Ms,adA⟩:=ao.eo b e he;rw[aj] at dt;cases dt;have t_:e.eF=bb:=Ms.trans Fh;have adz:sl*bb+n*bb=(sl+n)*bb:=(Nat.add_mul _ _ _).symm;have hle:(sl+n)*bb<=c'*bb:=Nat.mul_le_mul_right _ ko;rw[t_] at ca;have o9:=Uq (e:=⟨e.bk,e.sh+off,bb,e.AQ⟩) ao hp rfl (.inr ⟨rfl,e,k,he,aj,rfl,by simp only;omega⟩) (λk' dt=>by
                   rw[aj] at dt;cases dt;obtain⟨dr,c2,lU,g1,g2,g3,g4,_⟩:=Mj hp ao.wf;rw[aj] at g1;cases g1;have Mt:=adA;unfold fL at Mt;simp only [g2] at Mt;obtain⟨c3,adB,cJ,dk,fQ,xR,CR⟩:=Mt;simp only [fL];refine⟨c3,adB,by rw[<-g4];exact cJ,dk,⟨by simp only [List.length_append,mc,vb];omega,λh=>absurd (show bb=0 from h) ar⟩,λj hj=> ?_,λ_=>CR g3⟩;simp only [List.length_append,mc] at hj;by_cases AY:j<old.length
                   ·rw[dh,List.getElem?_append_left AY,<-dh]
                    obtain⟨aB,ey,hh⟩:=u6 ao (va j ar) he;simp only [World.cell?,cJ,Option.isSome_none,Bool.false_eq_true,if_false] at ey;rw[fb,Nat.add_assoc,ey];exact hh.mono λj3 e1 lS=>b8 j3 e1 lS _
                   ·rw[dh,List.getElem?_append_right ar,List.getElem?_replicate,aQ ar]
                    exact .cp _)
                  obtain⟨w',g1,g2⟩:=CU P (e:=⟨e.bk,e.sh+off,bb,e.AQ⟩) (by simp [hc]) c4 bB fl w (sl*bb) 0 kd.toList o9.rel UA (by simpa using jb) (λj hj=>by
                   have:=(lb j hj).mono λj3 e1 lS=>b8 j3 e1 lS ⟨e.bk,e.sh+off,bb,e.AQ⟩
                   simp only [fb] at this
                   simpa [dh] using this)
                  refine⟨_,w',_,IL aK CZ hu tZ bc cl (C2 w.drawn) (wI w.drawn) ko (w':=w') ?_,?_,cw.trans ao o9 g2⟩
                  ·simp only [Addr.kc]
                   exact g1
                  ·have:=aD.ib (φ:=hc φ A.n ⟨e.bk,e.sh+off,bb,e.AQ⟩) (b:=A.n) (o:=0) (e:=⟨e.bk,e.sh+off,bb,e.AQ⟩) (sl+n) (sl+n) c' (by simp [hc]) Mm ko (by simp only [Nat.add_zero];exact ca)
                   simpa using this
               ·cases h
              ·cases h
       ·cases h
   ·cases h
  ·cases h
 ·cases h
end
end AE
namespace AE
variable [a7]
section
variable {P:aR} {φ:bV} {A a_:a'} {w:ax}
omit [a7] in
theorem adC {α:Type} (k:IntKind) (x y:Int) (c:BoundsCode):bd P (boundsPanic k x y c:Sem α)=none:=by
 unfold boundsPanic;dsimp only;split
 ·rw[sJ]
  have:bd P (Functor.map (λx=>x==1) (choose (.extern "runtime.boundsError.signed" 2)))=none:=rfl;rw[this];rfl
 ·rw[sJ];rfl
omit [a7] in
theorem IQ {v:J} {y:Nat} {c:BoundsCode} {r:Nat} (h:bd P (Instr.sliceBound v y c)=some r):∃k i,v= .int k i/\0<=i/\i<=y/\r=i.toNat:=by
 unfold Instr.sliceBound at h;rw[sJ] at h;cases v with
 |int k i=>
  simp only [asIntOf,E',Option.bind_some] at h;split at h
  ·rename_i ae
   simp only [E',cE] at h;exact⟨k,i,rfl,ae.1,ae.2,h.symm⟩
  ·rw[adC] at h;cases h
 |pointer a=>cases a<;>cases h
 |_=>cases h
omit [a7] in
theorem UB (k:IntKind) (i:Int) (y:Nat) (c:BoundsCode) (aM:0<=i) (ad:i<=y):bd P (Instr.sliceBound (.int k i) y c)=some i.toNat:=by
 unfold Instr.sliceBound;rw[sJ];simp only [asIntOf,E',Option.bind_some];rw[aQ ⟨aM,ad⟩];rfl
omit [a7] in
theorem zq {b:Bool} {len c c' l h m:Nat} {fp ag eR:Option J} (aq:c<=c') (ae:bd P (Instr.sliceBounds b len c fp ag eR)=some (l,h,m)):
  bd P (Instr.sliceBounds b len c' fp ag eR)=some (l,h,if eR.isSome then m else c')/\(eR=none->m=c)/\m<=c/\l<=h/\(eR.isSome=true->h<=m):=by
 have low:∀(y q0 wJ:Nat) (IS:BoundsCode) {l h m:Nat},bd P (do
   let l <-match fp with
    |some v=>Instr.sliceBound v y IS
    |none=>pure 0
   pure (l,y,q0))=some (l,h,m)->bd P (do
   let l <-match fp with
    |some v=>Instr.sliceBound v y IS
    |none=>pure 0
   pure (l,y,wJ))=some (l,h,wJ)/\h=y/\m=q0/\l<=y:=by
  intro y q0 wJ IS l h m hl;cases fp with
  |none=>
   simp only [sJ,E',Option.bind_some,cE,Prod.mk.injEq] at hl ⊢;obtain⟨rfl,rfl,rfl⟩:=hl;simp
  |some v=>
   simp only [sJ] at hl ⊢;cases aw:bd P (Instr.sliceBound v y IS) with
   |none=>rw[aw] at hl;cases hl
   |some r=>
    rw[aw] at hl;simp only [Option.bind_some,E',cE,Prod.mk.injEq] at hl ⊢;obtain⟨k,i,_,aM,ad,af⟩:=IQ aw;obtain⟨rfl,rfl,rfl⟩:=hl;refine⟨by simp,rfl,rfl,ar⟩
 cases eR with
 |none=>
  cases ag with
  |none=>
   have e:∀dw,Instr.sliceBounds b len dw fp none none=(do
     let l <-match fp with
      |some v=>Instr.sliceBound v len (if (none:Option J).isSome then .slice3C else .sliceB)
      |none=>pure 0
     pure (l,len,dw)):=λdw=>by unfold Instr.sliceBounds;cases fp<;>rfl
   rw[e] at ae ⊢;obtain⟨g1,g2,g3,g4⟩:=low len c c' _ ae;subst g2;subst g3;exact⟨by simpa using g1,λ_=>rfl,b2 _,g4,λh=>by cases h⟩
  |some A2=>
   have e:∀dw,Instr.sliceBounds b len dw fp (some A2) none=(do
     let h <-Instr.sliceBound A2 dw (if b then .sliceAcap else .sliceAlen)
     let l <-match fp with
      |some v=>Instr.sliceBound v h (if (none:Option J).isSome then .slice3C else .sliceB)
      |none=>pure 0
     pure (l,h,dw)):=λdw=>by unfold Instr.sliceBounds;cases fp<;>rfl
   rw[e] at ae ⊢;rw[sJ] at ae ⊢;cases aw:bd P (Instr.sliceBound A2 c (if b=true then .sliceAcap else .sliceAlen)) with
   |none=>rw[aw] at ae;cases ae
   |some r=>
    rw[aw,Option.bind_some] at ae;obtain⟨k,i,rfl,aM,ad,rfl⟩:=IQ aw;rw[UB k i c' _ aM ar,Option.bind_some];obtain⟨g1,g2,g3,g4⟩:=low i.toNat c c' _ ae;subst g2;subst g3;exact⟨by simpa using g1,λ_=>rfl,b2 _,g4,λh=>by cases h⟩
 |some wK=>
  cases ag with
  |none=>
   exfalso;have e:Instr.sliceBounds b len c fp none (some wK)=(do
     let m <-Instr.sliceBound wK c (if b then .slice3Acap else .slice3Alen)
     let h <-(stuck "Slice: max without high":Sem Nat)
     let l <-match fp with
      |some v=>Instr.sliceBound v h (if (some wK).isSome then .slice3C else .sliceB)
      |none=>pure 0
     pure (l,h,m)):=by unfold Instr.sliceBounds;cases fp<;>rfl
   rw[e,sJ] at ae;cases aw:bd P (Instr.sliceBound wK c (if b=true then .slice3Acap else .slice3Alen)) with
   |none=>rw[aw] at ae;cases ae
   |some r=>rw[aw] at ae;cases ae
  |some A2=>
   have e:∀dw,Instr.sliceBounds b len dw fp (some A2) (some wK)=(do
     let m <-Instr.sliceBound wK dw (if b then .slice3Acap else .slice3Alen)
     let h <-Instr.sliceBound A2 m .slice3B
     let l <-match fp with
      |some v=>Instr.sliceBound v h (if (some wK).isSome then .slice3C else .sliceB)
      |none=>pure 0
     pure (l,h,m)):=λdw=>by unfold Instr.sliceBounds;cases fp<;>rfl
   rw[e,sJ] at ae ⊢;cases aw:bd P (Instr.sliceBound wK c (if b=true then .slice3Acap else .slice3Alen)) with
   |none=>rw[aw] at ae;cases ae
   |some r=>
    rw[aw,Option.bind_some] at ae;obtain⟨k,i,rfl,aM,ad,rfl⟩:=IQ aw;rw[UB k i c' _ aM ar,Option.bind_some];rw[sJ] at ae ⊢;cases xV:bd P (Instr.sliceBound A2 i.toNat .slice3B) with
    |none=>rw[xV] at ae;cases ae
    |some cJ=>
     rw[xV,Option.bind_some] at ae;rw[Option.bind_some];obtain⟨ao',i4,_,kf,q1,aE⟩:=IQ xV;obtain⟨g1,g2,g3,g4⟩:=low cJ i.toNat i.toNat _ ae;subst g2;subst g3;refine⟨by simpa using g1,λh=>by simp at h,ar,g4,λ_=>by omega⟩
def Mu (P:aR) (A:a') (t:aJ) (x:J) (fp ag eR:Option J):Option J:=
 match bd P (underlying t),x with
 |some (.array n elem),.pointer (some ⟨b,off,none⟩)=>
  match bd P (Instr.sliceBounds false n n fp ag eR),bd P (sizeOf elem) with
  |some (l,h,m),some bb=>some (.slice (some ⟨b,if m=l then off else off+l*bb,none⟩) (h-l) (m-l))
  |_,_=>none
 |some (.slice elem),.slice (some ⟨b,off,none⟩) len cap=>
  match bd P (Instr.sliceBounds true len cap fp ag eR),bd P (sizeOf elem),A.bl.get b with
  |some (l,h,m),some bb,some k=>
   bif Nat.beq k.eF 0||Nat.beq k.eF bb then
    match eR with
    |some _=>bif Nat.beq m l then some (.slice (some ⟨dead,0,none⟩) 0 0) else some (.slice (some ⟨b,off+l*bb,none⟩) (h-l) (m-l))
    |none=>bif Nat.ble h m then (bif Nat.beq m l then some (.slice (some ⟨dead,1,none⟩) 0 0) else some (.slice (some ⟨b,off+l*bb,none⟩) (h-l) (m-l))) else none
   else none
  |some (_,h,m),some _,none=>bif Nat.beq cap 0&&Nat.beq len 0&&Nat.ble h m then some (.slice (some ⟨b,off,none⟩) 0 0) else none
  |_,_,_=>none
 |_,_=>none
theorem adD (ao:bU φ A w) {t:aJ} {x x' v:J} {fp ag eR:Option J} (ak:aD φ x x') (h:Mu P A t x fp ag eR=some v):bY (hA v) P φ A w (Instr.sliceAt t x' fp ag eR) A:=by
 unfold Mu at h;split at h
 ·rename_i n elem b off hu
  split at h
  ·rename_i l ah m bb ae cl
   simp only [cE] at h;subst h;cases ak with
   |ptr he=>
    rename_i e;unfold Instr.sliceAt;refine bY.pre hu ?_;simp only;refine bY.pre (a:=(⟨e.bk,e.sh+off,none⟩:Addr)) rfl ?_;refine bY.pre ae ?_;simp only;refine bY.pre cl ?_;have:=aD.ia (φ:=φ) (b:=b) (o:=if m=l then off else off+l*bb) (ah-l) (m-l) he;refine bY.ret ao ?_;show aD φ _ _;by_cases hm:m=l
    ·simp only [hm,if_true] at this ⊢
     exact this
    ·simp only [hm,if_false,Addr.kc] at this ⊢
     rw[<-Nat.add_assoc] at this;exact this
  ·cases h
 ·rename_i elem b off len cap hu
  have run:∀(a:Addr) (wL l ah m bb:Nat),bd P (Instr.sliceBounds true len wL fp ag eR)=some (l,ah,m)->bd P (sizeOf elem)=some bb->
    (Instr.sliceAt t (.slice (some a) len wL) fp ag eR).run P w= .ok (.slice (if m=l then some a else some (a.add (l*bb))) (ah-l) (m-l)) w:=by
   intro a wL l ah m bb ae cl;unfold Instr.sliceAt;refine cQ hu ?_;simp only;unfold Instr.slice;refine cQ hu ?_;simp only;refine cQ ae ?_;simp only;refine cQ cl ?_;rfl
  split at h
  ·rename_i l ah m bb k ae cl aj
   cases cP:(Nat.beq k.eF 0||Nat.beq k.eF bb) with
   |false=>rw[cP] at h;cases h
   |true=>
    rw[cP,bx] at h;have adE:k.eF=0\/k.eF=bb:=by
     simp only [Bool.or_eq_true] at cP;exact cP.imp cA cA
    split at h
    ·rename_i wK
     have both:∀(e:hz) (wL:Nat),φ b=some e->cap<=wL->bY (hA v) P φ A w (Instr.sliceAt t (.slice (some ⟨e.bk,e.sh+off,none⟩) len wL) fp ag (some wK)) A:=by
      intro e wL he hle;obtain⟨g1,g2,g3,g4,kS⟩:=zq hle ae;simp only [Option.isSome_some,if_true] at g1 kS;have kV:=run ⟨e.bk,e.sh+off,none⟩ wL l ah m bb g1 cl;refine⟨φ,w,_,kV,?_,cw.refl ao⟩;cases rW:Nat.beq m l with
      |true=>
       rw[rW,bx,cE] at h;subst h;have xX:m=l:=cA rW;have ad:ah-l=0:=by have:=kS trivial;omega
       have af:m-l=0:=by omega
       rw[aQ xX,ad,af];exact .iH _ (λ_=>rfl)
      |false=>
       rw[rW,ek,cE] at h;subst h;have xX:m≠l:=λe=>by subst e;simp at rW
       rw[aU xX,Addr.kc];have:=aD.ia (φ:=φ) (b:=b) (o:=off+l*bb) (ah-l) (m-l) he;rw[<-Nat.add_assoc] at this;exact this
     cases ak with
     |ia _ _ he=>exact both _ _ he (b2 _)
     |ib _ _ c' he q1 aE ca=>exact both _ _ he aE
     |iH aW bI=>
      rename_i c';obtain⟨f1,_⟩:=zq (Nat.zero_le c') ae;have kV:=run aW c' l ah m bb (by simpa using f1) cl;obtain⟨g1,g2,g3,g4,kS⟩:=zq (b2 _) ae;have:=kS rfl;have e1:l=0:=by omega
      have e2:ah=0:=by omega
      have dn:m=0:=by omega
      subst e1;subst e2;subst dn;refine⟨φ,w,_,kV,?_,cw.refl ao⟩;simp only [Nat.beq_refl,bx,cE] at h;subst h;simp only [if_true,Nat.sub_self];exact .iH _ (λ_=>rfl)
    ·
     cases Mv:Nat.ble ah m with
     |false=>rw[Mv] at h;cases h
     |true=>
     rw[Mv,bx] at h;have ao_:=Nat.ble_eq.mp Mv;obtain⟨g1,g2,g3,g4,kS⟩:=zq (b2 _) ae;have Mw:=g2 rfl;subst Mw;have empty:∀(aW:Addr) (c':Nat),m=l->∀x',(x'=some aW\/∃IT,x'=some IT)->aD φ (.slice (some ⟨dead,1,none⟩) 0 0) (.slice x' (ah-l) (c'-l)):=by
      intro aW c' rW x' rX;rw[show ah-l=0 by omega];rcases rX with rfl|⟨IT,rfl⟩<;>exact .iH _ (λh=>absurd h cz)
     have Mx:∀(p:Prop) [Decidable p] (a b:Addr),∃IT,(if p then some a else some b)=some IT:=λp _ a b=>by
      by_cases hp:p
      ·exact⟨a,aQ hp⟩
      ·exact⟨b,aU hp⟩
     cases rW:Nat.beq m l with
     |true=>
      have xX:m=l:=cA rW;rw[rW,bx,cE] at h;subst h;cases ak with
      |ia _ _ he=>
       rename_i e;refine⟨φ,w,_,run ⟨e.bk,e.sh+off,none⟩ m l ah m bb ae cl,empty ⟨e.bk,e.sh+off,none⟩ m xX _ (.inr (Mx _ _ _)),cw.refl ao⟩
      |ib _ _ c' he q1 aE ca=>
       rename_i e;obtain⟨f1,_⟩:=zq aE ae;exact⟨φ,w,_,run ⟨e.bk,e.sh+off,none⟩ c' l ah c' bb (by simpa using f1) cl,empty ⟨e.bk,e.sh+off,none⟩ c' xX _ (.inr (Mx _ _ _)),cw.refl ao⟩
      |iH aW bI=>
       rename_i c';obtain⟨f1,_⟩:=zq (Nat.zero_le c') ae;exact⟨φ,w,_,run aW c' l ah c' bb (by simpa using f1) cl,empty aW c' xX _ (.inr (Mx _ _ _)),cw.refl ao⟩
     |false=>
      have xX:m≠l:=λe=>by subst e;simp at rW
      rw[rW,ek,cE] at h;subst h;cases ak with
      |ia _ _ he=>
       rename_i e;have kV:=run ⟨e.bk,e.sh+off,none⟩ m l ah m bb ae cl;refine⟨φ,w,_,kV,?_,cw.refl ao⟩;rw[aU xX,Addr.kc];have:=aD.ia (φ:=φ) (b:=b) (o:=off+l*bb) (ah-l) (m-l) he;rw[<-Nat.add_assoc] at this;exact this
      |ib _ _ c' he q1 aE ca=>
       rename_i e;obtain⟨f1,_⟩:=zq aE ae;have kV:=run ⟨e.bk,e.sh+off,none⟩ c' l ah c' bb (by simpa using f1) cl;refine⟨φ,w,_,kV,?_,cw.refl ao⟩;rw[aU ar,Addr.kc];obtain⟨k',dt,Ms,_⟩:=ao.eo b e he;rw[aj] at dt;cases dt;have t_:e.eF=bb:=by
        rcases adE with aM|aM
        ·omega
        ·exact Ms.trans aM
       have My:l*bb+(c'-l)*bb=c'*bb:=by rw[<-Nat.add_mul];congr 1;omega
       have:=aD.ib (φ:=φ) (b:=b) (o:=off+l*bb) (ah-l) (m-l) (c'-l) he q1 ar (by rw[t_] at ca ⊢;omega);rw[<-Nat.add_assoc] at this;exact this
      |iH aW bI=>omega
  ·rename_i l ah m bb ae cl aj
   cases t':(Nat.beq cap 0&&Nat.beq len 0&&Nat.ble ah m) with
   |false=>rw[t'] at h;cases h
   |true=>
    rw[t',bx,cE] at h;subst h;simp only [cV] at t';have e1:cap=0:=cA t'.1.1;have e2:len=0:=cA t'.1.2;have dn:ah<=m:=Nat.ble_eq.mp t'.2;subst e1;subst e2;have Ff:∀e,φ b≠some e:=λe he=>by
     obtain⟨k,dt,_⟩:=ao.eo b e he;rw[aj] at dt;cases dt
    cases ak with
    |ia _ _ he=>exact absurd he (Ff _)
    |ib _ _ c' he q1 aE ca=>exact absurd he (Ff _)
    |iH aW bI=>
     rename_i c';obtain⟨g1,g2,g3,g4,kS⟩:=zq (Nat.zero_le c') ae;have kV:=run aW c' l ah _ bb g1 cl;refine⟨φ,w,_,kV,?_,cw.refl ao⟩;have hm:m=0:=by omega
     have e1:l=0:=by omega
     have e2:ah=0:=by omega
     subst hm;subst e1;subst e2;have aq:off=0->(if eR.isSome=true then 0 else c')-0=0:=λho=>by
      by_cases Fi:eR.isSome=true
      ·simp [Fi]
      ·simp [Fi,bI ho]
     show aD φ _ (.slice (if (if eR.isSome=true then 0 else c')=0 then some aW else some (aW.add (0*bb))) 0 ((if eR.isSome=true then 0 else c')-0));by_cases n5:(if eR.isSome=true then 0 else c')=0
     ·rw[aQ n5];exact .iH _ aq
     ·rw[aU n5];exact .iH _ aq
  ·cases h
 ·cases h
end
end AE
namespace AE
variable [a7]
section
variable {P:aR} {φ:bV} {A a_:a'} {w:ax}
def Mz (P:aR) (A:a') (cW:Array aJ) (dst o_:J):Option (J×a'):=
 match cW[0]? with
 |some t=>match bd P (underlying t) with
  |some (.slice elem)=>match bd P (sizeOf elem) with
   |some bb=>match dst,o_ with
    | .slice (some ⟨b,off,none⟩) ua _,.slice (some ⟨kq,Fj,none⟩) sl _=>
      match A.rR kq Fj (Nat.min sl ua*bb) with
      |some l=>match A.qW b off l with
       |some bB=>some (.int .i64 (Nat.min sl ua),bB)
       |none=>none
      |none=>none
    | .slice (some _) ua _,.slice none sl _=>some (.int .i64 (Nat.min sl ua),A)
    |_,_=>none
   |none=>none
  |_=>none
 |none=>none
theorem adF (ao:bU φ A w) {cW:Array aJ} {ty:aJ} {d mI s fu v:J} (bc:aD φ d mI) (aw:aD φ s fu) (h:Mz P A cW d s=some (v,a_)):bY (hA v) P φ A w (Builtin.copy_ cW ty #[mI,fu]) a_:=by
 unfold Mz at h;split at h
 ·rename_i t aK
  split at h
  ·rename_i elem hu
   split at h
   ·rename_i bb cl
    split at h
    ·rename_i b off ua wM kq Fj sl qY
     split at h
     ·rename_i l hl
      split at h
      ·rename_i bB cP
       simp only [cE,Prod.mk.injEq] at h;obtain⟨rfl,rfl⟩:=h;unfold Builtin.copy_;simp only [aK,List.getElem?_toArray,List.getElem?_cons_zero,List.getElem?_cons_succ];refine bY.pre hu ?_;obtain⟨lf,mJ⟩:=AW hl;have main:∀(e e2:hz) (mH:Nat),φ b=some e->φ kq=some e2->bY (hA (.int .i64 (Nat.min sl ua))) P φ A w (do
         let n:=Nat.min (<-Builtin.lenOf (.slice (some ⟨e2.bk,e2.sh+Fj,none⟩) sl mH)) ua
         let cells <-Builtin.firstCells (<-sizeOf elem) n (.slice (some ⟨e2.bk,e2.sh+Fj,none⟩) sl mH)
         storeCells ⟨e.bk,e.sh+off,none⟩ cells.toList
         pure (goInt n)) bB:=by
        intro e e2 mH he ub;refine bY.pre (a:=sl) rfl ?_;refine bY.pre cl ?_;refine bY.bind ao (Uf ao hl ub) λgE w1 cells kV hmono ⟨gM,c2⟩=> ?_
        obtain⟨w',g1,g2⟩:=CU P (hmono _ _ he) l A bB w1 off 0 cells.toList kV cP (by simpa using gM) (λj hj=>by
         have:=c2 j hj;simp only [fb] at this
         simpa [dh] using this)
        refine⟨gE,w',_,dc (by simpa using g1) rfl,.int _ _,g2⟩
       have zero:∀(a aW:Option Addr) (adG mH:Nat),Nat.min sl ua*bb=0->Nat.min sl ua=0->bB=A:=by
        intro a aW adG mH aM _;rw[aM] at lf;have:l=[]:=by simpa using lf
        subst this;simpa [a'.qW] using cP.symm
       cases bc with
       |ia _ _ he=>cases aw with
        |ia _ _ ub=>exact main _ _ _ he ub
        |ib _ _ c' ub _ _ _=>exact main _ _ _ he ub
        |iH aW _=>
         have:=zero none none 0 0 (by simp) (by simp);subst this;refine⟨φ,w,.int .i64 0,?_,by simpa using aD.int .i64 0,cw.refl ao⟩;simp [jc cl w,Builtin.firstCells,Builtin.lenOf,loadCells,loadCellsFrom,Sem.run,pure,storeCells,goInt]
       |ib _ _ gM he _ _ _=>cases aw with
        |ia _ _ ub=>exact main _ _ _ he ub
        |ib _ _ c' ub _ _ _=>exact main _ _ _ he ub
        |iH aW _=>
         have:=zero none none 0 0 (by simp) (by simp);subst this;refine⟨φ,w,.int .i64 0,?_,by simpa using aD.int .i64 0,cw.refl ao⟩;simp [jc cl w,Builtin.firstCells,Builtin.lenOf,loadCells,loadCellsFrom,Sem.run,pure,storeCells,goInt]
       |iH aW _=>
        have:=zero none none 0 0 (by simp) (by simp);subst this;have hlen:∀fu,aD φ (.slice (some ⟨kq,Fj,none⟩) sl qY) fu->∃fR c2,fu= .slice (some fR) sl c2:=λfu h=>by
         cases h with
         |ia _ _ h=>exact⟨_,_,rfl⟩
         |ib _ _ _ h _ _ _=>exact⟨_,_,rfl⟩
         |iH aW _=>exact⟨_,_,rfl⟩
        obtain⟨fR,c2,rfl⟩:=hlen fu aw;refine⟨φ,w,.int .i64 0,?_,by simpa using aD.int .i64 0,cw.refl ao⟩;simp [jc cl w,Builtin.firstCells,Builtin.lenOf,loadCells,loadCellsFrom,Sem.run,pure,storeCells,goInt]
      ·cases h
     ·cases h
    ·rename_i a ua wM sl qY
     simp only [cE,Prod.mk.injEq] at h;obtain⟨rfl,rfl⟩:=h;have MA:∃aW c',mI= .slice (some aW) ua c':=by
      cases bc with
      |ia _ _ h=>exact⟨_,_,rfl⟩
      |ib _ _ _ h _ _ _=>exact⟨_,_,rfl⟩
      |iH aW _=>exact⟨_,_,rfl⟩
     obtain⟨aW,c',rfl⟩:=MA;cases aw;refine⟨φ,w,.int .i64 (Nat.min sl ua),?_,.int _ _,cw.refl ao⟩;unfold Builtin.copy_;simp only [aK,List.getElem?_toArray,List.getElem?_cons_zero,List.getElem?_cons_succ];refine cQ hu ?_;refine cQ (a:=sl) rfl ?_;exact cQ cl rfl
    ·cases h
   ·cases h
  ·cases h
 ·cases h
def MB (P:aR) (A:a') (t:aJ) (len cap:J):Option (J×a'):=
 match len,cap with
 | .int _ l,.int _ c=>
   bif decide (0<=l)&&decide (l<=c)&&decide (c<=1048576) then
    match bd P (underlying t) with
    |some (.slice elem)=>match bd P (typeInfo elem),bd P (sizeOf elem),bd P (zeroValue elem) with
     |some info,some bb,some z=>
      bif Nat.ble info.bytes 65536&&plain z&&(cellsOf z).isSome&&Nat.blt 0 z.cells.size then
       match A.push (.cells ((Array.range (c.toNat*bb)).map (z.cells[· %z.cells.size]!)).toList) 0 elem with
       |some (r,bB)=>some (.slice (some ⟨r,0,none⟩) l.toNat c.toNat,bB)
       |none=>none
      else none
     |_,_,_=>none
    |_=>none
   else none
 |_,_=>none
theorem adH (ao:bU φ A w) {t:aJ} {len cap v:J} (h:MB P A t len cap=some (v,a_)):bY (hA v) P φ A w (Instr.makeSlice t len cap) a_:=by
 unfold MB at h;split at h
 ·rename_i db l dr c
  cases ae:(decide (0<=l)&&decide (l<=c)&&decide (c<=1048576)) with
  |false=>rw[ae] at h;cases h
  |true=>
   rw[ae,bx] at h;simp only [cV,decide_eq_true_eq] at ae;obtain⟨⟨j3,kq⟩,tW⟩:=ae;split at h
   ·rename_i elem hu
    split at h
    ·rename_i info bb z ag cl bI
     cases ld:(Nat.ble info.bytes 65536&&plain z&&(cellsOf z).isSome&&Nat.blt 0 z.cells.size) with
     |false=>rw[ld] at h;cases h
     |true=>
      rw[ld,bx] at h;simp only [cV] at ld;obtain⟨⟨⟨q1,aE⟩,ca⟩,ey⟩:=ld;have ly:=Nat.ble_eq.mp q1;have pH:=Nat.blt_eq.mp ey;have qn:=IG aE ca φ;split at h
      ·rename_i r bB hp
       simp only [cE,Prod.mk.injEq] at h;obtain⟨rfl,rfl⟩:=h;have wl:IntKind.i64.wrap l=l:=IntWalk.i64_in _ ar;have adI:IntKind.i64.wrap c=c:=IntWalk.i64_in _ ar;unfold Instr.makeSlice;refine bY.pre hu ?_;simp only;refine bY.pre (a:=l) rfl ?_;refine bY.pre (a:=c) rfl ?_;refine bY.pre ag ?_;have UC:(info.bytes:Int)*c<=2^48:=by
        have ad:(info.bytes:Int)*c<=65536*1048576:=by
         have ev:(info.bytes:Int)<=65536:=by omega
         exact Int.mul_le_mul ev tW ar ar
        have af:(65536:Int)*1048576<=2^48:=by decide
        omega
       have IU:(decide (c<0)||decide ((info.bytes:Int)*c>2^48)||decide (l<0)||decide (l>c))=false:=by
        simp only [Bool.or_eq_false_iff,decide_eq_false_iff_not];omega
       simp only [wl,adI];rw[aU (by rw[IU];simp)];refine bY.pre (a:=()) (by unfold askRoom;split<;>rfl) ?_;refine bY.pre cl ?_;have xU:∀j,j<((Array.range (c.toNat*bb)).map (z.cells[· %z.cells.size]!)).size->aD φ (((Array.range (c.toNat*bb)).map (z.cells[· %z.cells.size]!)).getD j undef) (((Array.range (c.toNat*bb)).map (z.cells[· %z.cells.size]!)).getD j undef):=by
        intro j hj;simp at hj;have hm:=Nat.mod_lt j pH;have:=qn (j%z.cells.size) hm;simp only [fb] at this ⊢;simpa [hj,hm,getElem!_pos] using this
       have fM:bY (hA (.slice (some ⟨r,0,none⟩) l.toNat c.toNat)) P φ A w (do
         let a <-newRow elem ((Array.range (c.toNat*bb)).map (z.cells[· %z.cells.size]!))
         pure (.slice (some a) l.toNat c.toNat)) bB:=by
        obtain⟨cZ,w',g1,g2,g3,_⟩:=CW ao P elem hp (c':=(Array.range (c.toNat*bb)).map (z.cells[· %z.cells.size]!)) (by simp) (λ_=>by simp) (λj hj=>by
         have:=xU j (by simpa using hj);simp only [fb] at this;simp only [dh,Array.getElem?_toList,fb]
         exact this)
        refine⟨cZ,w',_,dc g1 rfl,?_,g3⟩;have:=aD.ia (φ:=cZ) (b:=r) (o:=0) l.toNat c.toNat g2;simpa using this
       by_cases av:c.toNat*bb=0
       ·simp only [av,if_true] at fM ⊢
        refine bY.pre (a:= #[]) rfl ?_;have e0:∀f:Nat->J,(Array.range 0).map f= #[]:=λf=>by simp
        rw[e0] at fM ⊢;exact fM
       ·simp only [av,if_false]
        refine bY.pre bI ?_;refine bY.pre (a:=z.cells) rfl ?_;exact fM
      ·cases h
    ·cases h
   ·cases h
 ·cases h
def MC (P:aR) (A:a') (cW:Array aJ) (x:J):Option J:=
 match cW[0]? with
 |some t=>match bd P (underlying t),x with
  |some (.slice _),.slice _ n _=>some (.int .i64 n)
  |some (.map _ _),.map none=>some (.int .i64 0)
  |some (.map _ _),.map (some b)=>match A.bl.get b with
   |some {obj:= .map es _,..}=>some (.int .i64 es.length)
   |_=>none
  |some (.array n _),_=>some (.int .i64 n)
  |_,_=>none
 |none=>none
omit [a7] in
theorem q2 {o:Obj} {r:Nat} (h:w.heap[r]? =some o) (aq:∀c t f,o≠.cells c t f):(getObj r).run P w= .ok o w:=by
 unfold getObj;simp only [Sem.run,h]
theorem adJ (ao:bU φ A w) {cW:Array aJ} {ty:aJ} {x x' v:J} (ak:aD φ x x') (h:MC P A cW x=some v):bY (hA v) P φ A w (Builtin.len_ cW ty #[x']) A:=by
 unfold MC at h;split at h
 ·rename_i t aK
  unfold Builtin.len_;simp only [aK,List.getElem?_toArray,List.getElem?_cons_zero];split at h
  ·rename_i e a n c hu
   simp only [cE] at h;subst h;refine bY.pre hu ?_;have:∃fR c2,x'= .slice fR n c2:=by cases ak<;>exact⟨_,_,rfl⟩
   obtain⟨fR,c2,rfl⟩:=this;exact bY.ret ao (.int _ _)
  ·rename_i k e hu
   simp only [cE] at h;subst h;refine bY.pre hu ?_;cases ak;exact bY.ret ao (.int _ _)
  ·rename_i k e b hu
   split at h
   ·rename_i es eU cN pos st ro ty' ae
    simp only [cE] at h;subst h;refine bY.pre hu ?_;cases ak with
    |map he=>
     obtain⟨eK,aj,_,ho⟩:=ao.eo b _ he;rw[ae] at aj;cases aj;simp only [fL] at ho;obtain⟨dg,ad,af,_⟩:=ho;refine⟨φ,w,.int .i64 es.length,dc (q2 ad (by simp)) ?_,.int _ _,cw.refl ao⟩;simp only [goInt,af];rfl
   ·cases h
  ·rename_i n e hu
   simp only [cE] at h;subst h;refine bY.pre hu ?_;exact bY.ret ao (.int _ _)
  ·cases h
 ·cases h
end
end AE
namespace AE
variable [a7]
section
variable {P:aR} {φ:bV} {A a_:a'} {w:ax}
def MD (cells:Array J):Sem J:=do
 let mut s:=ByteArray.empty
 for c in cells do
  let .int .u8 n:=c|stuck "bytesToString: byte expected"
  s:=s.push (UInt8.ofNat n.toNat)
 pure (.string s)
omit [a7] in
theorem UD (a:Addr) (len c:Nat):Conv.bytesToString (.slice (some a) len c)=loadCells a len >>= MD:=rfl
def ME (P:aR) (A:a'):J->Option J
 | .slice none _ _=>some (.string .empty)
 | .slice (some ⟨b,off,none⟩) n _=>bif Nat.beq n 0 then some (.string .empty) else match A.rR b off n with
   |some l=>bif o7 l then match bd P (MD ⟨l⟩) with
    |some (.string s)=>some (.string s)
    |_=>none
    else none
   |none=>none
 |_=>none
theorem adK (ao:bU φ A w) {x x' v:J} (ak:aD φ x x') (h:ME P A x=some v):bY (hA v) P φ A w (Conv.bytesToString x') A:=by
 unfold ME at h;split at h
 ·simp only [cE] at h
  subst h;cases ak;exact bY.ret ao (.string _)
 ·rename_i b off n c
  have UE:∀(a:Addr) (c:Nat),(Conv.bytesToString (.slice (some a) 0 c)).run P w= .ok (.string .empty) w:=λa c=>by
   rw[UD];simp [loadCells,loadCellsFrom,MD,Sem.run,pure]
  have main:∀(e:hz) (c':Nat),φ b=some e->bY (hA v) P φ A w (Conv.bytesToString (.slice (some ⟨e.bk,e.sh+off,none⟩) n c')) A:=by
   intro e c' he;cases av:Nat.beq n 0 with
   |true=>
    rw[av,bx,cE] at h;subst h;have:n=0:=cA av;subst this;exact⟨φ,w,_,UE _ _,.string _,cw.refl ao⟩
   |false=>
    rw[av,ek] at h;split at h
    ·rename_i l hl
     cases hp:o7 l with
     |false=>rw[hp] at h;cases h
     |true=>
      rw[hp,bx] at h;split at h
      ·rename_i s aw
       simp only [cE] at h;subst h;rw[UD];obtain⟨cF,ad,af,ay⟩:=E4 ao P hl he;have:cF=⟨l⟩:=by
        obtain⟨l'⟩:=cF;have:=aD.E6 l l' hp (by simpa using af.symm) (λi ag=>by simpa using ay i ag);rw[this]
       subst this;exact⟨φ,w,_,dc ad (jc aw w),.string _,cw.refl ao⟩
      ·cases h
    ·cases h
  cases ak with
  |ia _ _ he=>exact main _ _ he
  |ib _ _ c' he _ _ _=>exact main _ _ he
  |iH aW _=>
   rw[Nat.beq_refl,bx,cE] at h;subst h;exact⟨φ,w,_,UE _ _,.string _,cw.refl ao⟩
 ·cases h
def MF (A:a') (elem:aJ) (s:ByteArray):Option (J×a'):=
 match A.push (.cells (s.data.toList.map λb=> .int .u8 b.toNat)) 1 elem with
 |some (r,bB)=>some (.slice (some ⟨r,0,none⟩) s.size s.size,bB)
 |none=>none
theorem adL (ao:bU φ A w) {elem:aJ} {s:ByteArray} {v:J} (h:MF A elem s=some (v,a_)):bY (hA v) P φ A w (Conv.stringToBytes elem s) a_:=by
 unfold MF at h;split at h
 ·rename_i r bB hp
  simp only [cE,Prod.mk.injEq] at h;obtain⟨rfl,rfl⟩:=h;unfold Conv.stringToBytes
  let cap:=(Question.appendCap s.size 0 elem).cut (w.tape w.drawn (.appendCap s.size 0 elem))
  have ke:s.size<=cap:=by simp [cap,Question.cut]
  let row:Array J:=(s.data.map λb=>Value.int .u8 b.toNat)++Array.replicate (cap-s.size) (.int .u8 0)
  have n4:row.size=cap:=by
   simp only [row,Array.size_append,Array.size_map,Array.size_replicate];have:s.data.size=s.size:=rfl;omega
  have kV:=Ml ao (w.drawn+1);have adM:=(kV.wf.push hp).2.1;have st:=CS (o':= .cells row elem (cap,cap+1)) (e:=⟨w.heap.size,0,1,cap⟩) kV hp U U (by
   simp only [fL];refine⟨row,(cap,cap+1),by simp,n4.symm,⟨by simp only [List.length_map,Nat.zero_add,Array.length_toList];rw[n4];exact ke,λh=>absurd h cz⟩,λj hj=> ?_,λ_ i ag=>by rw[n4] at ag;simp;omega⟩;simp only [List.length_map,Array.length_toList] at hj;simp only [dh,fb,Nat.zero_add,row];rw[Array.getElem?_append_left (by simpa using hj)];simp only [List.getElem?_map,Array.getElem?_toList,Array.getElem?_map,Array.getElem?_eq_getElem hj,Option.map_some,Option.getD_some]
   exact .int _ _)
  refine⟨_,_,.slice (some ⟨w.heap.size,0,none⟩) s.size cap,?_,?_,cw.trans ao (cw.zl ao (w.drawn+1)) st⟩
  ·refine dc (w1:={w with drawn:=w.drawn+1}) (a:=cap) (by simp [choose,Sem.run,Question.forced,cap]) ?_
   refine dc (a:=(⟨w.heap.size,0,none⟩:Addr)) (by simp only [newRow,newObj];rfl) ?_;have A3:({w with drawn:=w.drawn+1,heap:=w.heap.push (.cells row elem)}:ax).shape? w.heap.size=some (elem,cap):=by
    simp [World.shape?,n4]
   refine dc (w1:={w with drawn:=w.drawn+1,heap:=w.heap.push (.cells row elem (cap,cap+1))}) (a:=()) ?_ rfl;unfold markStringish;refine dc (a:=some (elem,cap)) (by simp only [shape,Sem.run];exact congrArg (Result.ok · _) A3) ?_;simp only [freeze,Sem.run,World.freeze];rw[aU ar];refine congrArg (Result.ok ()) ?_;simp only [World.mk.injEq,and_true,true_and];apply Array.ext_getElem?;intro i;rw[Array.getElem?_modify];split
   ·rename_i ag
    subst ag;simp [row]
   ·rename_i ag
    rw[Array.getElem?_push,Array.getElem?_push];rw[aU (Ne.symm ag),aU (Ne.symm ag)]
  ·subst adM
   have:=aD.ib (φ:=hc φ A.n ⟨w.heap.size,0,1,cap⟩) (b:=A.n) (o:=0) (e:=⟨w.heap.size,0,1,cap⟩) s.size s.size cap (by simp [hc]) (b2 _) ke (by simp);simpa using this
 ·cases h
def C3 (P:aR) (t:aJ) (x y:J):Option Bool:=
 match bd P (underlying t),x,y with
 |some (.pointer _),.pointer (some _),.pointer none=>some false
 |some (.pointer _),.pointer none,.pointer (some _)=>some false
 |some (.pointer e),.pointer (some ⟨b,o,none⟩),.pointer (some ⟨b',o',none⟩)=>match bd P (sizeOf e) with
  |some n=>bif Nat.beq b b'&& !Nat.beq n 0 then some (Nat.beq o o') else none
  |none=>none
 |some (.slice _),.slice (some _) _ _,.slice none _ _=>some false
 |some (.slice _),.slice none _ _,.slice (some _) _ _=>some false
 |some (.map _ _),.map (some _),.map none=>some false
 |some (.map _ _),.map none,.map (some _)=>some false
 |some (.interface _),.iface _ _,.nilIface=>some false
 |some (.interface _),.nilIface,.iface _ _=>some false
 |some (.func _ _ _),.func _ _ _,.nilFunc=>some false
 |some (.func _ _ _),.nilFunc,.func _ _ _=>some false
 |_,_,_=>none
theorem UF {t:aJ} {x x' y fD:J} {r:Bool} (ak:aD φ x x') (bq:aD φ y fD) (h:C3 P t x y=some r):(Op.equal t x' fD).run P w= .ok r w/\∀op (jd kW:Operand),(eqGuard op t jd kW x' fD).run P w= .ok () w:=by
 unfold C3 at h;have guard:∀(x' fD:J),(¬(x'= .nilIface/\fD= .nilIface))->(¬∃a b,x'= .agg a/\fD= .agg b)->∀op (jd kW:Operand),(eqGuard op t jd kW x' fD).run P w= .ok () w:=by
  intro x' fD ad af op jd kW;unfold eqGuard;by_cases cm:op= .eql\/op= .neq
  ·cases x'<;>cases fD<;>rcases cm with rfl|rfl<;>first|rfl|exact absurd ⟨rfl,rfl⟩ ad|exact absurd ⟨_,_,rfl,rfl⟩ af
  ·cases op<;>first|rfl|exact absurd (.inl rfl) cm|exact absurd (.inr rfl) cm
 split at h
 all_goals try (cases h;done)
 all_goals rename_i hu
 ·simp only [cE] at h
  subst h;cases ak with
  |ptr he=>cases bq;exact⟨by unfold Op.equal Op.maxDepth Op.equalIn;exact cQ hu rfl,guard _ _ (by simp) (by simp)⟩
 ·simp only [cE] at h
  subst h;cases bq with
  |ptr he=>cases ak;exact⟨by unfold Op.equal Op.maxDepth Op.equalIn;exact cQ hu rfl,guard _ _ (by simp) (by simp)⟩
 ·split at h
  ·rename_i b o b' o' apa n av
   cases ae:(Nat.beq b b'&& !Nat.beq n 0) with
   |false=>rw[ae] at h;cases h
   |true=>
    rw[ae,bx,cE] at h;subst h;simp only [cV,Bool.not_eq_true'] at ae;have pa:b=b':=cA ae.1;subst pa;have fq:n≠0:=λe=>by subst e;simp at ae
    cases ak with
    |ptr he=>cases bq with
     |ptr ub=>
      rw[he] at ub;cases ub;refine⟨?_,guard _ _ (by simp) (by simp)⟩;unfold Op.equal Op.maxDepth Op.equalIn;refine cQ hu ?_;simp only;refine cQ av ?_;rw[aQ fq];unfold sameAddr;simp only [beq_self_eq_true,if_true];show Result.ok _ w=Result.ok _ w;congr 1;by_cases MG:o=o'
      ·subst MG;simp
      ·have ad:Nat.beq o o'=false:=by
        cases ah:Nat.beq o o' with
        |false=>rfl
        |true=>exact absurd (cA ah) MG
       rw[ad];simp [MG]
  ·cases h
 all_goals simp only [cE] at h
 all_goals subst h
 all_goals cases ak<;>cases bq<;>exact⟨by unfold Op.equal Op.maxDepth Op.equalIn;exact cQ hu rfl,guard _ _ (by simp) (by simp)⟩
def MH (P:aR) (op:BinOp) (t:aJ) (x y:J):Option J:=
 match op with
 | .eql=>(C3 P t x y).map .bool
 | .neq=>(C3 P t x y).map λb=> .bool !b
 |_=>none
theorem adN (ao:bU φ A w) {op:BinOp} {t:aJ} {jd kW:Operand} {x x' y fD v:J} (ak:aD φ x x') (bq:aD φ y fD) (h:MH P op t x y=some v):bY (hA v) P φ A w (do eqGuard op t jd kW x' fD;binOp op t x' fD) A:=by
 unfold MH at h;have UG:∀r,C3 P t x y=some r->(binOp .eql t x' fD=do pure (.bool (<-Op.equal t x' fD)))/\(binOp .neq t x' fD=do pure (.bool (!(<-Op.equal t x' fD)))):=by
  intro r aw;unfold C3 at aw;split at aw
  all_goals try (cases aw;done)
  all_goals cases ak<;>cases bq<;>exact⟨rfl,rfl⟩
 split at h
 ·obtain⟨r,aw,rfl⟩:=Option.map_eq_some_iff.1 h
  obtain⟨ad,af⟩:=UF (P:=P) (w:=w) ak bq aw;refine⟨φ,w,.bool r,dc (af _ _ _) ?_,.bool _,cw.refl ao⟩;rw[(UG r aw).1];exact dc ad rfl
 ·obtain⟨r,aw,rfl⟩:=Option.map_eq_some_iff.1 h
  obtain⟨ad,af⟩:=UF (P:=P) (w:=w) ak bq aw;refine⟨φ,w,.bool !r,dc (af _ _ _) ?_,.bool _,cw.refl ao⟩;rw[(UG r aw).2];exact dc ad rfl
 ·cases h
def IV:TypeDesc->Bool
 | .interface _=>true
 |_=>false
def MI (P:aR) (t:aJ) (x:J):Option J:=
 match bd P (underlying t) with
 |some d=>bif IV d then none else some (.iface t x)
 |none=>none
theorem adO (ao:bU φ A w) {t:aJ} {x x' v:J} (ak:aD φ x x') (h:MI P t x=some v):bY (hA v) P φ A w (Instr.makeInterface t x') A:=by
 unfold MI at h;split at h
 ·rename_i d hu
  cases bc:IV d with
  |true=>rw[bc] at h;cases h
  |false=>
   rw[bc,ek,cE] at h;subst h;unfold Instr.makeInterface;refine bY.pre hu ?_;cases d<;>first|(cases bc;done)|exact bY.ret ao (.iface _ ak)
 ·cases h
def MJ (P:aR) (x:J) (asserted:aJ) (ok:Bool):Option J:=
 match bd P (underlying asserted),x with
 |some (.interface want),.iface t _=>match bd P (typeInfo t) with
  |some info=>match Instr.missingMethod want info.methods with
   |none=>some (if ok then .tuple #[x,.bool true] else x)
   |some _=>none
  |none=>none
 |some d,.iface t v=>bif IV d then none else
   if t=asserted then some (if ok then .tuple #[v,.bool true] else v) else
    bif ok then match bd P (zeroValue asserted) with
     |some z=>bif plain z then some (.tuple #[z,.bool false]) else none
     |none=>none
    else none
 |_,_=>none
theorem MK {a aW:J} (h:aD φ a aW) (b:Bool):aD φ (.tuple #[a,.bool b]) (.tuple #[aW,.bool b]):= .tuple _ _ rfl λi ag=>by
 have:i=0\/i=1:=by simp at ag;omega
 rcases this with rfl|rfl
 ·simpa using h
 ·simpa using aD.bool b
theorem adP (ao:bU φ A w) {x x' v:J} {UH asserted:aJ} {ok:Bool} (ak:aD φ x x') (h:MJ P x asserted ok=some v):bY (hA v) P φ A w (Instr.typeAssert x' UH asserted ok) A:=by
 unfold MJ at h;split at h
 ·rename_i want t u hu
  split at h
  ·rename_i info ag
   split at h
   ·rename_i hm
    simp only [cE] at h;subst h;cases ak with
    |iface t aC=>
     unfold Instr.typeAssert;refine bY.pre hu ?_;simp only;refine bY.pre ag ?_;simp only [hm];refine bY.ret ao ?_;cases ok
     ·exact .iface t aC
     ·exact MK (.iface t aC) true
   ·cases h
  ·cases h
 ·rename_i d t u _ hu
  cases bc:IV d with
  |true=>rw[bc] at h;cases h
  |false=>
   rw[bc,ek] at h;cases ak with
   |iface t aC=>
    unfold Instr.typeAssert;refine bY.pre hu ?_;by_cases aK:t=asserted
    ·rw[aQ aK,cE] at h
     subst h;cases d<;>first
      |(cases bc;done)
      |(simp only [aQ aK]
        refine bY.ret ao ?_;cases ok
        ·exact aC
        ·exact MK aC true)
    ·rw[aU aK] at h
     cases ok with
     |false=>cases h
     |true=>
      rw[bx] at h;split at h
      ·rename_i z bI
       cases hp:plain z with
       |false=>rw[hp] at h;cases h
       |true=>
        rw[hp,bx,cE] at h;subst h;cases d<;>first
          |(cases bc;done)
          |(simp only [aU aK,if_true]
            refine bY.pre bI ?_
            exact bY.ret ao (MK (aD.kb φ z hp) false))
      ·cases h
 ·cases h
end
end AE
namespace AE
variable [a7]
class Lib (P:aR) where
 same:List FuncId
 UI:∀f∈same,∀x:J,bd P (callFunc f #[x])=some (.value x)
 ML:List (FuncId×aJ)
 UJ:∀p∈ML,∃ps rY t,(∀n w,(callFunc p.1 #[.int .i64 n]).run P w=(do pure (Next.value (<-Extern.BytealgMakeNoZero.makeNoZero ps rY #[.int .i64 n])):Sem Next).run P w)/\rY[0]? =some t/\bd P (underlying t)=some (.slice p.2)
section
variable {P:aR} {φ:bV} {A a_:a'} {w:ax}
omit [a7] in
theorem IW {r:Nat} {c:Array J} {t:aJ} {f:Nat×Nat} (h:w.heap[r]? =some (.cells c t f)):(shape r).run P w= .ok (some (t,c.size)) w:=by
 simp only [shape,Sem.run,World.shape?,h]
omit [a7] in
theorem UK {a:Addr} {c:Array J} {t:aJ} {f:Nat×Nat} (h:w.heap[a.block]? =some (.cells c t f)):(Conv.seenAt a).run P w= .ok a w:=by
 unfold Conv.seenAt viewAt;refine dc (a:=none) (dc (IW h) rfl) rfl
def MN (P:aR) (A:a') (o_ dst:aJ) (x:J):Option J:=
 match bd P (underlying o_),bd P (underlying dst),x with
 |some (.pointer t),some .unsafePointer,.pointer (some ⟨b,off,none⟩)=>match bd P (sizeOf t),A.bl.get b with
  |some n,some k=>match k.obj with
   | .cells c=>bif Nat.beq n 0|| !Nat.blt off c.length then none else some (.pointer (some ⟨b,off,none⟩))
   |_=>none
  |_,_=>none
 |some .unsafePointer,some (.pointer u),.pointer (some ⟨b,off,none⟩)=>match bd P (sizeOf u),A.bl.get b with
  |some _,some k=>match k.obj with
   | .cells c=>bif Nat.beq k.eF 0&&liesAt P P.depth k.ty (c.length/P.cellsOf k.ty) off u 1 then some (.pointer (some ⟨b,off,none⟩)) else none
   |_=>none
  |_,_=>none
 |_,_,_=>none
theorem adQ (ao:bU φ A w) {o_ dst:aJ} {x x' v:J} (ak:aD φ x x') (h:MN P A o_ dst x=some v):bY (hA v) P φ A w (convert o_ dst x') A:=by
 unfold MN at h;split at h
 ·rename_i t b off aw bc
  split at h
  ·rename_i n k av aj
   split at h
   ·rename_i c fo
    cases aq:(Nat.beq n 0|| !Nat.blt off c.length) with
    |true=>rw[aq] at h;cases h
    |false=>
     rw[aq,ek,cE] at h;subst h;simp only [Bool.or_eq_false_iff,Bool.not_eq_false'] at aq;have apb:off<c.length:=Nat.blt_eq.mp aq.2;have fq:n≠0:=λe=>by subst e;simp at aq
     cases ak with
     |ptr he=>
      rename_i e;obtain⟨k',dt,_,ho⟩:=ao.eo b e he;rw[aj] at dt;cases dt;unfold fL at ho;simp only [fo] at ho;obtain⟨c',iW,ad,af,ay,bD,cD⟩:=ho;refine⟨φ,w,.pointer (some ⟨e.bk,e.sh+off,none⟩),?_,.ptr he,cw.refl ao⟩;unfold convert;refine cQ aw (cQ bc ?_);show (Conv.unsafePointer o_ dst (.pointer (some ⟨e.bk,e.sh+off,none⟩))).run P w=_;unfold Conv.unsafePointer;refine cQ aw (cQ bc ?_);simp only;refine dc (UK ad) ?_;refine dc (a:=some c'.size) (by unfold cellsIn;exact dc (IW ad) rfl) ?_;refine cQ av ?_;have ko:¬(c'.size<=e.sh+off):=by omega
      simp only [fq,decide_false,ge_iff_le,ko,Bool.false_and,Bool.or_false,Bool.false_eq_true,if_false];rfl
   ·cases h
  ·cases h
 ·rename_i u b off aw bc
  split at h
  ·rename_i apc k adR aj
   split at h
   ·rename_i c fo
    cases aq:(Nat.beq k.eF 0&&liesAt P P.depth k.ty (c.length/P.cellsOf k.ty) off u 1) with
    |false=>rw[aq] at h;cases h
    |true=>
     rw[aq,bx,cE] at h;subst h;simp only [cV] at aq;have cP:k.eF=0:=cA aq.1;cases ak with
     |ptr he=>
      rename_i e;obtain⟨k',dt,_,ho⟩:=ao.eo b e he;rw[aj] at dt;cases dt;unfold fL at ho;simp only [fo] at ho;obtain⟨c',iW,ad,af,ay,bD,cD⟩:=ho;obtain⟨A3,cl⟩:=ay.2 cP;have MO:liesAt P P.depth k.ty (c'.size/P.cellsOf k.ty) (e.sh+off) u 1=true:=by rw[A3,Nat.zero_add,<-cl];exact aq.2
      refine⟨φ,w,.pointer (some ⟨e.bk,e.sh+off,none⟩),?_,.ptr he,cw.refl ao⟩;unfold convert;refine cQ aw (cQ bc ?_);show (Conv.unsafePointer o_ dst (.pointer (some ⟨e.bk,e.sh+off,none⟩))).run P w=_;unfold Conv.unsafePointer;refine cQ aw (cQ bc ?_);simp only;refine dc (UK ad) ?_;have aC:(variablesAt ⟨e.bk,e.sh+off,none⟩ u 1).run P w= .ok true w:=by
       unfold variablesAt;refine cQ (a:=P) rfl ?_;refine dc (IW ad) ?_;simp only [MO];rfl
      refine cQ adR ?_;refine dc aC ?_;simp only [Bool.or_true,if_true];rfl
   ·cases h
  ·cases h
 ·cases h
def MP (A:a') (elem:aJ) (n:Int):Option (J×a'):=
 bif decide (0<=n)&&decide (n<=524288) then
  match A.push (.cells (List.replicate n.toNat cp)) 1 elem with
  |some (r,bB)=>some (.slice (some ⟨r,0,none⟩) n.toNat n.toNat,bB)
  |none=>none
 else none
omit [a7] in
theorem UL:∀(n t:Nat) (acc:Array J),(Extern.BytealgMakeNoZero.digits n t acc).size=acc.size+n
 |0,_,_=>rfl
 |n+1,t,acc=>by
  unfold Extern.BytealgMakeNoZero.digits;rw[UL n];simp;omega
theorem adS (ao:bU φ A w) {ps rY:Array aJ} {t elem:aJ} {n:Int} {v:J} (aK:rY[0]? =some t) (hu:bd P (underlying t)=some (.slice elem)) (h:MP A elem n=some (v,a_)):
  bY (hA v) P φ A w (Extern.BytealgMakeNoZero.makeNoZero ps rY #[.int .i64 n]) a_:=by
 unfold MP at h;cases aq:(decide (0<=n)&&decide (n<=524288)) with
 |false=>rw[aq] at h;cases h
 |true=>
  rw[aq,bx] at h;simp only [cV,decide_eq_true_eq] at aq;split at h
  ·rename_i r bB hp
   simp only [cE,Prod.mk.injEq] at h;obtain⟨rfl,rfl⟩:=h
   let q:Question:= .appendCap n.toNat 0 elem
   let cap:=q.cut (w.tape w.drawn q)
   have ke:n.toNat<=cap:=by simp [cap,q,Question.cut]
   let aE:Question:= .extern "internal/bytealg.MakeNoZero.bytes" 0
   have kV:bU φ A {w with drawn:=w.drawn+1+1}:=(cw.zl ao (w.drawn+1+1)).rel
   let row:=Extern.BytealgMakeNoZero.digits cap (aE.cut (w.tape (w.drawn+1) aE)) #[]
   have n4:row.size=cap:=by simp [row,UL]
   obtain⟨cZ,w',g1,g2,g3,g4⟩:=CW kV P (c':=row) elem hp (by rw[n4,mc];exact ke) (λh=>absurd h cz) (λj hj=>by
    rw[dh,List.getElem?_replicate,aQ (by simpa using hj)]
    exact .cp _)
   refine⟨cZ,w',.slice (some ⟨w.heap.size,0,none⟩) n.toNat cap,?_,?_,cw.trans ao (cw.zl ao (w.drawn+1+1)) g3⟩
   ·obtain⟨UM⟩:=rY
    obtain⟨rest,rfl⟩:∃rest,UM=t::rest:=by
     cases UM with
     |nil=>simp at aK
     |cons a r=>simp at aK;exact⟨r,by rw[aK]⟩
    refine cQ (s:=underlying t) hu ?_;simp only;rw[aU (by simp;omega)];refine dc (w1:={w with drawn:=w.drawn+1}) (a:=cap) (by simp [choose,Sem.run,Question.forced,cap,q]) ?_;refine dc (w1:={w with drawn:=w.drawn+1}) (a:=()) (by unfold askRoom;split<;>rfl) ?_;refine dc (w1:={w with drawn:=w.drawn+1+1}) (a:=aE.cut (w.tape (w.drawn+1) aE)) (by simp only [choose,Sem.run];rfl) ?_;exact dc g1 rfl
   ·have:=aD.ib (φ:=cZ) (b:=r) (o:=0) n.toNat n.toNat cap g2 (b2 _) ke (by simp [n4])
    simpa using this
  ·cases h
def MQ:List J->ByteArray->Option ByteArray
 |[],acc=>some acc
 | .int .u8 b::r,acc=>MQ r (acc.push b.toNat.toUInt8)
 |_::_,_=>none
theorem adT (ao:bU φ A w) {b:Nat} {e:hz} (he:φ b=some e):∀(l:List J) (off:Nat) (acc s:ByteArray),(∀j,j<l.length->A.load b (off+j)=some (l.getD j undef))->MQ l acc=some s->
  (loadBytes ⟨e.bk,e.sh+off,none⟩ acc l.length).run P w= .ok s w:=by
 intro l
 induction l with
 |nil=>
  intro off acc s _ h;cases h;rfl
 |cons v r ck=>
  intro off acc s hl h;cases v with
  |int k x=>
   cases k<;>try (cases h;done)
   have aM:=hl 0 (by simp);obtain⟨aB,ad,af⟩:=u6 ao aM he;simp only [List.getD_cons_zero] at af;cases af;have Uk:w.cell? ⟨e.bk,e.sh+off,none⟩=some (.int .u8 x):=by simpa using ad
   have wH:∀j,j<r.length->A.load b (off+1+j)=some (r.getD j undef):=λj hj=>by
    have:=hl (j+1) (by simpa using hj);rw[show off+(j+1)=off+1+j by omega] at this;simpa using this
   have:=ck (off+1) (acc.push x.toNat.toUInt8) s wH h;show (loadBytes _ acc (r.length+1)).run P w=_;unfold loadBytes;refine dc (a:= .int .u8 x) (w1:=w) (by simp [Go.load,Sem.run,Uk]) ?_;simp only [Addr.kc];rw[Nat.add_assoc];exact this
  |_=>cases h
def C4 (cN:Nat):List Nat->bR hR->Option (bR hR)
 |[],t=>some t
 |m::r,t=>match t.get m with
  |some k=>bif Nat.beq k.cN cN then
    match bR.set {k with ro:=true} depth t m with
    |some da=>C4 cN r da
    |none=>none
   else C4 cN r t
  |none=>C4 cN r t
def vd (cN:Nat) (k:hR):hR:=bif Nat.beq k.cN cN then {k with ro:=true} else k
omit [a7] in
theorem adU (cN:Nat) (k:hR):vd cN (vd cN k)=vd cN k:=by
 unfold vd;cases h:Nat.beq k.cN cN<;>simp [h]
omit [a7] in
theorem IX (cN:Nat):∀(l:List Nat) (t da:bR hR),C4 cN l t=some da->∀j,da.get j=if j∈l then (t.get j).map (vd cN) else t.get j
 |[],t,da,h,j=>by cases h;simp
 |m::r,t,da,h,j=>by
  unfold C4 at h;split at h
  ·rename_i k aj
   cases aO:Nat.beq k.cN cN with
   |true=>
    rw[aO,bx] at h;split at h
    ·rename_i t1 adV
     have gF:=λj=>bR.nY _ _ _ _ _ j adV
     have nk:({k with ro:=true}:hR)=vd cN k:=by simp [vd,aO]
     rw[IX cN r t1 da h j,gF];by_cases e6:j=m
     ·subst e6
      rw[aQ rfl,aQ List.mem_cons_self,aj,nk];split
      ·simp [adU]
      ·rfl
     ·rw[aU e6]
      have:(j∈m::r)↔j∈r:=by simp [e6]
      simp only [this]
    ·cases h
   |false=>
    rw[aO,ek] at h;rw[IX cN r t da h j];by_cases e6:j=m
    ·subst e6
     rw[aQ List.mem_cons_self,aj];have:vd cN k=k:=by simp [vd,aO]
     split<;>simp [this]
    ·have:(j∈m::r)↔j∈r:=by simp [e6]
     simp only [this]
  ·rename_i aj
   rw[IX cN r t da h j];by_cases e6:j=m
   ·subst e6
    rw[aQ List.mem_cons_self,aj];split<;>rfl
   ·have:(j∈m::r)↔j∈r:=by simp [e6]
    simp only [this]
def a'.freeze (A:a') (k:hR):Option a':=
 match A.mem.get k.cN with
 |some l=>match C4 k.cN l A.bl with
  |some t=>some {A with bl:=t,low:=l.foldl Nat.min A.low}
  |none=>none
 |none=>none
theorem adW (ao:bU φ A w) {b n:Nat} {k:hR} {c:List J} {e:hz} (off:Nat) (aj:A.bl.get b=some k) (fo:k.obj= .cells c) (dE:k.ro=false) (he:φ b=some e) (h:A.freeze k=some a_):
  cw φ A w φ a_ (w.freeze ⟨e.bk,e.sh+off,none⟩ n):=by
 unfold a'.freeze at h;split at h
 ·rename_i l hl
  split at h
  ·rename_i t aK
   cases h;have gF:=IX _ _ _ _ aK;obtain⟨mF,adX⟩:=Iy l A.low;obtain⟨d',hK,_,ho⟩:=ao.eo b e he;rw[aj] at hK;cases hK;unfold fL at ho;simp only [fo] at ho;obtain⟨c',iW,ad,af,ay,bD,cD⟩:=ho;have gm:∀j dJ,t.get j=some dJ->∃b9,A.bl.get j=some b9/\dJ.cN=b9.cN/\dJ.pos=b9.pos/\dJ.eF=b9.eF/\dJ.ty=b9.ty/\dJ.obj=b9.obj/\dJ.ro=(b9.ro||Nat.beq b9.cN k.cN):=by
    intro j dJ hj;rw[gF] at hj;by_cases kp:j∈l
    ·rw[aQ kp] at hj
     obtain⟨b9,q1,rfl⟩:=Option.map_eq_some_iff.1 hj;refine⟨b9,q1,?_⟩;unfold vd;cases aO:Nat.beq b9.cN k.cN<;>simp
    ·rw[aU kp] at hj
     refine⟨dJ,hj,rfl,rfl,rfl,rfl,rfl,?_⟩;cases aO:Nat.beq dJ.cN k.cN with
     |false=>simp
     |true=>
      exfalso;obtain⟨l',q1,aE⟩:=ao.wf.mem j dJ hj;rw[cA aO,hl] at q1;cases q1;exact kp aE
   have qj:∀i,i≠e.bk->(w.freeze ⟨e.bk,e.sh+off,none⟩ n).heap[i]? =w.heap[i]? :=λi ag=>by
    unfold World.freeze;split
    ·rfl
    ·simp only [Array.getElem?_modify]
     rw[aU (Ne.symm ag)]
   have MR:∃IY,(w.freeze ⟨e.bk,e.sh+off,none⟩ n).heap[e.bk]? =some (.cells c' k.ty IY):=by
    unfold World.freeze;split
    ·exact⟨iW,ad⟩
    ·simp only [Array.getElem?_modify,aQ,ad,Option.map_some]
     exact⟨_,rfl⟩
   obtain⟨IY,MR⟩:=MR;refine {rel:=⟨⟨?_,?_,?_,?_⟩,?_,?_,?_,λi o ag=>⟨by rw[qj i (Ne.symm ((ao.df i o ag).2 _ _ he))];exact(ao.df i o ag).1,(ao.df i o ag).2⟩⟩,eo:=λ_ _=>rfl,rO:=λb ad af=>absurd af (by show ¬b<A.n;omega),new:=λb e ad af=>absurd (ao.lt af) ar,qi:=b2 _,low:=mF,same:= ?_,ro:= ?_,keep:= ?_,gD:= ?_,os:= ?_,tape:= ?_,output:= ?_,drawn:= ?_}
   ·intro j dJ hj
    obtain⟨b9,q1,_⟩:=gm j dJ hj;exact ao.wf.lt j b9 q1
   ·intro j dJ hj
    obtain⟨b9,q1,aE,_⟩:=gm j dJ hj;rw[aE];exact ao.wf.tR j b9 q1
   ·intro j dJ hj
    obtain⟨b9,q1,aE,_⟩:=gm j dJ hj;rw[aE];exact ao.wf.mem j b9 q1
   ·intro j pI fC pJ hj gR aO
    obtain⟨b9,q1,aE,_,_,_,_,ca⟩:=gm j pI hj;obtain⟨dJ,u9,AU,_,_,_,_,sI⟩:=gm fC pJ gR;rw[aE,AU] at aO;rw[ca,sI,ao.wf.u3 j b9 fC dJ q1 u9 aO,aO]
   ·intro j fY hj
    obtain⟨b9,hM,wD,h6⟩:=ao.eo j fY hj;obtain⟨dJ,UN⟩:∃dJ,t.get j=some dJ:=by
     rw[gF];split
     ·rw[hM];exact⟨_,rfl⟩
     ·exact⟨b9,hM⟩
    obtain⟨eK,q1,aE,ca,ey,hh,kT,oG⟩:=gm j dJ UN;rw[hM] at q1;cases q1;refine⟨dJ,UN,by rw[ey];exact wD,?_⟩;by_cases jz:fY.bk=e.bk
    ·have nZ:b9.cN=k.cN:=by
      rcases Nat.lt_trichotomy b9.cN k.cN with h|h|h
      ·exact absurd jz (ao.apart j fY b9 b e k hj he hM aj ar)
      ·exact h
      ·exact absurd jz (ao.apart j fY b9 b e k hj he hM aj ar)
     have adY:dJ.ro=true:=by rw[oG,nZ];simp
     unfold fL at h6 ⊢;rw[kT];cases ht:b9.obj with
     |cells AV=>
      simp only [ht] at h6 ⊢;obtain⟨E2,E3,cJ,dk,fQ,xR,CR⟩:=h6;rw[jz,ad] at cJ;simp only [cE,Obj.cells.injEq] at cJ;obtain⟨rfl,hty,rfl⟩:=cJ;refine⟨c',IY,by rw[jz,hh,<-hty];exact MR,dk,by rw[ey];exact fQ,xR,λah=> ?_⟩;rw[adY] at ah;cases ah
     |map es eU=>
      simp only [ht] at h6;obtain⟨dg,cJ,_⟩:=h6;rw[jz,ad] at cJ;cases cJ
     |gh x=>
      simp only [ht] at h6;obtain⟨_,o',cJ,dk⟩:=h6;rw[jz,ad] at cJ;cases cJ;exact absurd dk λh=>rN.T6 h
    ·have:=h6.mono (w':=w.freeze ⟨e.bk,e.sh+off,none⟩ n) (λ_ _ h=>h) (qj _ jz)
     unfold fL at this ⊢;rw[kT];cases ht:b9.obj with
     |cells AV=>
      simp only [ht] at this ⊢;obtain⟨E2,E3,cJ,dk,fQ,xR,CR⟩:=this;refine⟨E2,E3,by rw[hh];exact cJ,dk,by rw[ey];exact fQ,xR,λah=>CR ?_⟩;rw[oG] at ah;simp only [Bool.or_eq_false_iff] at ah;exact ah.1
     |map es eU=>
      simp only [ht] at this ⊢;exact this
     |gh x=>
      simp only [ht] at this ⊢;exact this
   ·intro j fY pI fC qV pJ q1 aE hj gR cO
    obtain⟨b9,cJ,dk,_⟩:=gm j pI hj;obtain⟨dJ,uc,ve,_⟩:=gm fC pJ gR;exact ao.apart j fY b9 fC qV dJ q1 aE cJ uc (by rw[<-dk,<-ve];exact cO)
   ·intro j fY pI fC qV pJ q1 aE hj gR aO ae
    obtain⟨b9,cJ,dk,fQ,_⟩:=gm j pI hj;obtain⟨dJ,uc,ve,C5,_⟩:=gm fC pJ gR;rw[fQ,C5];exact ao.along j fY b9 fC qV dJ q1 aE cJ uc (by rw[<-dk,<-ve];exact aO) ae
   ·intro j hj kp
    show t.get j=_;rw[gF,aU];intro hm;have:=adX j hm;exact absurd kp (by show ¬j<l.foldl Nat.min A.low;omega)
   ·intro j b9 hM rQ
    show t.get j=_;rw[gF];split
    ·rw[hM]
     simp only [Option.map_some,cE];unfold vd;cases aO:Nat.beq b9.cN k.cN with
     |false=>rfl
     |true=>
      obtain⟨jd,f1,gV,s1,apd,t1⟩:=b9;simp only at rQ;subst rQ;rfl
    ·exact hM
   ·intro i ag la
    refine qj i λql=> ?_
    have:=la b e k he ql.symm aj;rw[dE] at this;cases this
   ·unfold World.freeze;split
    ·exact b2 _
    ·simp
   all_goals (unfold World.freeze;split<;>first|rfl|exact b2 _)
  ·cases h
 ·cases h
def MS (P:aR) (A:a') (cW:Array aJ) (x n:J):Option (J×a'):=
 match cW[0]?,x,n with
 |some UO,.pointer (some ⟨b,off,none⟩),.int _ n=>match bd P (elemOf UO),A.bl.get b with
  |some u,some k=>match k.obj with
   | .cells _=>
     bif decide (0<n)&&decide (n<=16777216)&&Nat.beq (P.cellsOf k.ty) 1&&sameLayout P P.depth k.ty u&& !k.ro then
      match A.rR b off n.toNat with
      |some l=>match MQ l .empty,A.freeze k with
       |some s,some bB=>some (.string s,bB)
       |_,_=>none
      |none=>none
     else none
   |_=>none
  |_,_=>none
 |_,_,_=>none
theorem adZ (ao:bU φ A w) {cW:Array aJ} {ty:aJ} {x x' n v:J} (ak:aD φ x x') (h:MS P A cW x n=some (v,a_)):bY (hA v) P φ A w (Builtin.unsafeString_ cW ty #[x',n]) a_:=by
 unfold MS at h;split at h
 ·rename_i UO b off eK n ad0
  split at h
  ·rename_i u k hu aj
   split at h
   ·rename_i c fo
    cases aq:(decide (0<n)&&decide (n<=16777216)&&Nat.beq (P.cellsOf k.ty) 1&&sameLayout P P.depth k.ty u&& !k.ro) with
    |false=>rw[aq] at h;cases h
    |true=>
     rw[aq,bx] at h;simp only [cV,decide_eq_true_eq,Bool.not_eq_true'] at aq;obtain⟨⟨⟨⟨fq,jb⟩,A4⟩,UP⟩,dE⟩:=aq;have A4:P.cellsOf k.ty=1:=cA A4;split at h
     ·rename_i l hl
      split at h
      ·rename_i s bB aw aO
       simp only [cE,Prod.mk.injEq] at h;obtain⟨rfl,rfl⟩:=h;cases ak with
       |ptr he=>
        rename_i e;obtain⟨hlen,va⟩:=AW hl;obtain⟨k',dt,_,ho⟩:=ao.eo b e he;rw[aj] at dt;cases dt;unfold fL at ho;simp only [fo] at ho;obtain⟨c',iW,ad,af,ay,bD,cD⟩:=ho;have qo:off+n.toNat<=c.length:=by
         have aA:=va (n.toNat-1) ar;unfold a'.load at aA;rw[aj] at aA;obtain⟨tT,cN,pos,st,ro,ape⟩:=k;simp only at fo;subst fo;simp only at aA;have:=(List.getElem?_eq_some_iff.1 aA).1;omega
        have e8:=adT (P:=P) ao he l off .empty s (λj hj=>va j ar) aw;have pK:=adW (n:=n.toNat) ao off aj fo dE he aO;refine⟨φ,_,.string s,?_,.string s,pK⟩;have MO:liesAt P P.depth k.ty (c'.size/P.cellsOf k.ty) (e.sh+off) u n.toNat=true:=by
         obtain⟨d,bc⟩:∃d,P.depth=d+1:=⟨_,rfl⟩;rw[bc] at UP ⊢;unfold liesAt rowAt;rw[bc];simp only [A4,Nat.div_one,Nat.mod_one,beq_self_eq_true,Bool.true_and];have:decide (e.sh+off+n.toNat<=c'.size)=true:=gC ar;simp [this,UP]
        have aC:(variablesAt ⟨e.bk,e.sh+off,none⟩ u n.toNat).run P w= .ok true w:=by
         unfold variablesAt;refine cQ (a:=P) rfl ?_;refine dc (IW ad) ?_;simp only [MO];rfl
        refine cQ (s:=asInt (.int eK n)) (a:=n) rfl ?_;have xY:¬n>IntKind.i64.max:=by
         have:(16777216:Int)<=IntKind.i64.max:=by decide
         omega
        simp only [ad0];rw[aU ar,aU xY,aU ar];refine cQ hu ?_;refine dc aC ?_;rw[aQ rfl];refine dc (by rw[<-hlen];exact e8) ?_;rfl
      ·cases h
     ·cases h
   ·cases h
  ·cases h
 ·cases h
def MT (P:aR) (A:a') (cW:Array aJ) (x:J):Option a':=
 match cW[0]? with
 |some t=>match bd P (underlying t),x with
  |some (.slice _),.slice none _ _=>some A
  |some (.slice elem),.slice (some ⟨b,off,none⟩) n _=>bif Nat.beq n 0 then some A else
    match bd P (zeroValue elem) with
    |some z=>bif plain z&&(cellsOf z).isSome&&Nat.blt 0 z.cells.size then A.qW b off (Builtin.zeroCells z.cells n).toList else none
    |none=>none
  |_,_=>none
 |none=>none
theorem ad1 (ao:bU φ A w) {cW:Array aJ} {ty:aJ} {x x':J} (ak:aD φ x x') (h:MT P A cW x=some a_):bY (hA undef) P φ A w (Builtin.clear_ cW ty #[x']) a_:=by
 unfold MT at h;split at h
 ·rename_i t aK
  split at h
  ·rename_i e l c hu
   cases h;cases ak;refine⟨φ,w,undef,?_,aD.zk φ,cw.refl ao⟩;unfold Builtin.clear_;simp only [aK,List.getElem?_toArray,List.getElem?_cons_zero];exact cQ hu rfl
  ·rename_i elem b off n c hu
   have ad2:∃aW c',x'= .slice (some aW) n c':=by
    cases ak with
    |ia _ _ h=>exact⟨_,_,rfl⟩
    |ib _ _ _ h _ _ _=>exact⟨_,_,rfl⟩
    |iH aW _=>exact⟨_,_,rfl⟩
   cases av:Nat.beq n 0 with
   |true=>
    rw[av] at h;cases h;have fq:n=0:=cA av;subst fq;obtain⟨aW,c',rfl⟩:=ad2;refine⟨φ,w,undef,?_,aD.zk φ,cw.refl ao⟩;unfold Builtin.clear_;simp only [aK,List.getElem?_toArray,List.getElem?_cons_zero];exact cQ hu rfl
   |false=>
    rw[av,ek] at h;have fq:n≠0:=λe=>by subst e;simp at av
    split at h
    ·rename_i z bI
     cases aq:(plain z&&(cellsOf z).isSome&&Nat.blt 0 z.cells.size) with
     |false=>rw[aq] at h;cases h
     |true=>
      rw[aq,bx] at h;simp only [cV] at aq;have pH:=Nat.blt_eq.mp aq.2;have qn:=IG aq.1.1 aq.1.2 φ;have j4:∀j,j<(Builtin.zeroCells z.cells n).toList.length->aD φ ((Builtin.zeroCells z.cells n).toList.getD j undef) ((Builtin.zeroCells z.cells n).toList.getD j undef):=by
       intro j hj;unfold Builtin.zeroCells at hj ⊢;simp at hj;have hm:=Nat.mod_lt j pH;have:=qn (j%z.cells.size) hm;simp only [fb] at this;simpa [dh,hj,hm,getElem!_pos] using this
      have main:∀(e:hz) (c':Nat),φ b=some e->x'= .slice (some ⟨e.bk,e.sh+off,none⟩) n c'->bY (hA undef) P φ A w (Builtin.clear_ cW ty #[x']) a_:=by
       intro e c' he rX;obtain⟨w',g1,g2⟩:=CU P he _ A a_ w off 0 (Builtin.zeroCells z.cells n).toList ao (by simpa using h) rfl j4;refine⟨φ,w',undef,?_,aD.zk φ,g2⟩;subst rX;unfold Builtin.clear_;simp only [aK,List.getElem?_toArray,List.getElem?_cons_zero];refine cQ hu ?_;obtain⟨fS,rfl⟩:∃fS,n=fS+1:=⟨n-1,ar⟩;refine cQ bI ?_;exact dc (by simpa using g1) rfl
      cases ak with
      |ia _ _ he=>exact main _ _ he rfl
      |ib _ _ _ he _ _ _=>exact main _ _ he rfl
      |iH aW _=>exact absurd rfl fq
    ·cases h
  ·cases h
 ·cases h
end
end AE
namespace AE
variable [a7]
def a'.A5 (A:a') (b:Nat):Option (List j2×Nat):=
 match A.bl.get b with
 |some k=>match k.obj with
  | .map es eU=>some (es,eU)
  |_=>none
 |none=>none
def a'.xZ (A:a') (b:Nat) (es:List j2) (eU:Nat):Option a':=
 match A.bl.get b with
 |some k=>match k.obj,A.mem.get k.cN with
  | .map _ _,some [m]=>bif Nat.beq m b&& !k.ro then
      match bR.set {k with obj:= .map es eU} depth A.bl b with
      |some t=>some {A with bl:=t,low:=Nat.min A.low b}
      |none=>none
    else none
  |_,_=>none
 |none=>none
def a'.MU (A:a') (b:Nat):Option (ByteArray×Nat):=
 match A.bl.get b with
 |some k=>match k.obj with
  | .gh (.xP s p)=>some (s,p)
  |_=>none
 |none=>none
def a'.setIter (A:a') (b:Nat) (s:ByteArray) (p:Nat):Option a':=
 match A.bl.get b with
 |some k=>match k.obj,A.mem.get k.cN with
  | .gh _,some [m]=>bif Nat.beq m b&& !k.ro then
      match bR.set {k with obj:= .gh (.xP s p)} depth A.bl b with
      |some t=>some {A with bl:=t,low:=Nat.min A.low b}
      |none=>none
    else none
  |_,_=>none
 |none=>none
def lg (φ:bV) (es:List j2) (dg:Array MapEntry):Prop:=
 es.length=dg.size/\∀(j:Nat) (a:j2) (b:MapEntry),es[j]? =some a->dg[j]? =some b->plain a.key=true/\a.key=b.key/\aD φ a.val b.val/\a.born=b.born
section
variable {P:aR} {φ:bV} {A a_:a'} {w:ax}
theorem Fk (ao:bU φ A w) {b:Nat} {es:List j2} {eU:Nat} {e:hz} (h:A.A5 b=some (es,eU)) (he:φ b=some e):∃dg,w.heap[e.bk]? =some (.map dg eU)/\lg φ es dg:=by
 unfold a'.A5 at h;split at h
 ·rename_i k aj
  obtain⟨k',dt,_,ho⟩:=ao.eo b e he;rw[aj] at dt;cases dt;split at h
  ·rename_i zs apf fo
   cases h;simp only [fL,fo] at ho;obtain⟨dg,ad,af,ay⟩:=ho;exact⟨dg,ad,af,ay⟩
  ·cases h
 ·cases h
theorem ad3 (ao:bU φ A w) {b p:Nat} {s:ByteArray} {e:hz} (h:A.MU b=some (s,p)) (he:φ b=some e):e.sh=0/\w.heap[e.bk]? =some (.stringIter s p):=by
 unfold a'.MU at h;split at h
 ·rename_i k aj
  obtain⟨k',dt,_,ho⟩:=ao.eo b e he;rw[aj] at dt;cases dt;split at h
  ·rename_i a8 sK fo
   cases h;simp only [fL,fo] at ho;obtain⟨aM,o',ad,af⟩:=ho;simp only [rN] at af;exact⟨aM,by rw[ad,af]⟩
  ·cases h
 ·cases h
theorem UQ (ao:bU φ A w) {b:Nat} {k:hR} {o:qT} {t:bR hR} {e:hz} {o':Obj} (he:φ b=some e) (aj:A.bl.get b=some k) (mG:A.mem.get k.cN=some [b]) (dE:k.ro=false) (aK:bR.set {k with obj:=o} depth A.bl b=some t)
  (ho:∀w',w'.heap[e.bk]? =some o'->fL φ w' e k->fL φ w' e {k with obj:=o}\/True) (A1:∀w',w'.heap[e.bk]? =some o'->fL φ w' e {k with obj:=o}):
  cw φ A w φ {A with bl:=t,low:=Nat.min A.low b} {w with heap:=w.heap.setIfInBounds e.bk o'}:=by
 have gF:=λj=>bR.nY _ _ _ _ _ j aK
 obtain⟨d',hK,cP,C6⟩:=ao.eo b e he;rw[aj] at hK;cases hK;have b8:=C6.lt;have MV:∀j b9,A.bl.get j=some b9->b9.cN=k.cN->j=b:=by
  intro j b9 hj aO;obtain⟨l,q1,aE⟩:=ao.wf.mem j b9 hj;rw[aO,mG] at q1;cases q1;simpa using aE
 have cO:∀j fY,j≠b->φ j=some fY->fY.bk≠e.bk:=by
  intro j fY hj h1;obtain⟨b9,hM,_,_⟩:=ao.eo j fY h1;exact ao.apart j fY b9 b e k h1 he hM aj λaO=>hj (MV j b9 hM aO)
 have qj:∀i,i≠e.bk->(w.heap.setIfInBounds e.bk o')[i]? =w.heap[i]? :=λi ag=>by
  rw[Array.getElem?_setIfInBounds_ne (Ne.symm ag)]
 have gm:∀j dJ,t.get j=some dJ->∃b9,A.bl.get j=some b9/\dJ.cN=b9.cN/\dJ.pos=b9.pos/\dJ.ro=b9.ro:=by
  intro j dJ hj;rw[gF] at hj;by_cases e6:j=b
  ·rw[aQ e6] at hj
   cases hj;subst e6;exact⟨k,aj,rfl,rfl,rfl⟩
  ·rw[aU e6] at hj
   exact⟨dJ,hj,rfl,rfl,rfl⟩
 refine {rel:=⟨⟨?_,?_,?_,?_⟩,?_,?_,?_,λi o ag=>⟨by rw[qj i (Ne.symm ((ao.df i o ag).2 _ _ he))];exact(ao.df i o ag).1,(ao.df i o ag).2⟩⟩,eo:=λ_ _=>rfl,rO:=λb ad af=>absurd af (by show ¬b<A.n;omega),new:=λb e ad af=>absurd (ao.lt af) ar,qi:=b2 _,low:=Nat.min_le_left _ _,same:= ?_,ro:= ?_,keep:= ?_,gD:=by simp,os:=rfl,tape:=rfl,output:=rfl,drawn:=b2 _}
 ·intro j dJ hj
  obtain⟨b9,q1,_⟩:=gm j dJ hj;exact ao.wf.lt j b9 q1
 ·intro j dJ hj
  obtain⟨b9,q1,aE,_⟩:=gm j dJ hj;rw[aE];exact ao.wf.tR j b9 q1
 ·intro j dJ hj
  obtain⟨b9,q1,aE,_⟩:=gm j dJ hj;rw[aE];exact ao.wf.mem j b9 q1
 ·intro j pI fC pJ hj gR aO
  obtain⟨b9,q1,aE,_,ca⟩:=gm j pI hj;obtain⟨dJ,u9,AU,_,sI⟩:=gm fC pJ gR;rw[ca,sI];exact ao.wf.u3 j b9 fC dJ q1 u9 (by rw[<-aE,<-AU];exact aO)
 ·intro j fY hj
  by_cases e6:j=b
  ·subst e6
   rw[he] at hj;cases hj;exact⟨{k with obj:=o},by rw[gF,aQ rfl],cP,A1 _ (by show (w.heap.setIfInBounds e.bk o')[e.bk]? =_;rw[Array.getElem?_setIfInBounds_self_of_lt b8])⟩
  ·obtain⟨b9,hM,wD,h6⟩:=ao.eo j fY hj
   exact⟨b9,by rw[gF,aU e6];exact hM,wD,h6.mono (λ_ _ h=>h) (qj _ (cO j fY e6 hj))⟩
 ·intro j fY pI fC qV pJ q1 aE hj gR nm
  obtain⟨b9,cJ,dk,_⟩:=gm j pI hj;obtain⟨dJ,uc,ve,_⟩:=gm fC pJ gR;exact ao.apart j fY b9 fC qV dJ q1 aE cJ uc (by rw[<-dk,<-ve];exact nm)
 ·intro j fY pI fC qV pJ q1 aE hj gR aO ae
  obtain⟨b9,cJ,dk,fQ,_⟩:=gm j pI hj;obtain⟨dJ,uc,ve,C5,_⟩:=gm fC pJ gR;rw[fQ,C5];exact ao.along j fY b9 fC qV dJ q1 aE cJ uc (by rw[<-dk,<-ve];exact aO) ae
 ·intro j hj kp
  show t.get j=_;rw[gF,aU];intro e6;subst e6;exact absurd (Nat.lt_of_lt_of_le kp (Nat.min_le_right A.low j)) (Nat.lt_irrefl j)
 ·intro j b9 hM rQ
  show t.get j=_;rw[gF,aU]
  ·exact hM
  ·intro e6
   subst e6;rw[aj] at hM;cases hM;rw[dE] at rQ;cases rQ
 ·intro i ag la
  refine qj i λql=> ?_
  have:=la b e k he ql.symm aj;rw[dE] at this;cases this
theorem A6 (ao:bU φ A w) {b:Nat} {es:List j2} {dg:Array MapEntry} {eU:Nat} {e:hz} (he:φ b=some e) (h:A.xZ b es eU=some a_) (eV:lg φ es dg):cw φ A w φ a_ {w with heap:=w.heap.setIfInBounds e.bk (.map dg eU)}:=by
 unfold a'.xZ at h;split at h
 ·rename_i k aj
  split at h
  ·rename_i fE ud m fo mG
   cases aq:(Nat.beq m b&& !k.ro) with
   |false=>rw[aq] at h;cases h
   |true=>
    rw[aq,bx] at h;simp only [cV,Bool.not_eq_true'] at aq;have Fl:m=b:=cA aq.1;subst Fl;split at h
    ·rename_i t aK
     cases h;exact UQ ao he aj mG aq.2 aK (λ_ _ _=> .inr trivial) λw' E5=>by
      simp only [fL];exact⟨dg,E5,eV.1,eV.2⟩
    ·cases h
  ·cases h
 ·cases h
theorem ad4 (ao:bU φ A w) {b p:Nat} {s:ByteArray} {e:hz} (he:φ b=some e) (aM:e.sh=0) (h:A.setIter b s p=some a_):cw φ A w φ a_ {w with heap:=w.heap.setIfInBounds e.bk (.stringIter s p)}:=by
 unfold a'.setIter at h;split at h
 ·rename_i k aj
  split at h
  ·rename_i fE m fo mG
   cases aq:(Nat.beq m b&& !k.ro) with
   |false=>rw[aq] at h;cases h
   |true=>
    rw[aq,bx] at h;simp only [cV,Bool.not_eq_true'] at aq;have Fl:m=b:=cA aq.1;subst Fl;split at h
    ·rename_i t aK
     cases h;exact UQ ao he aj mG aq.2 aK (λ_ _ _=> .inr trivial) λw' E5=>by
      simp only [fL];exact⟨aM,_,E5,rfl⟩
    ·cases h
  ·cases h
 ·cases h
def vf (es:List j2):List MapEntry:=es.map λe=>{key:=e.key,val:= .bool false,born:=0}
omit [a7] in
theorem UR (kind:TypeDesc) (key:J):∀(es:List j2) (dg:List MapEntry) (i:Nat),es.map (·.key)=dg.map (·.key)->
  match Instr.findNow kind key (vf es) i with
  |none=>Instr.findNow kind key dg i=none
  |some none=>Instr.findNow kind key dg i=some none
  |some (some (j,_))=>∃b,i<=j/\dg[j-i]? =some b/\Instr.findNow kind key dg i=some (some (j,b.val))
 |[],[],i,_=>by simp [vf,Instr.findNow]
 |[],_::_,_,h=>by simp at h
 |_::_,[],_,h=>by simp at h
 |a::r,b::dX,i,h=>by
  simp only [List.map_cons,List.cons.injEq] at h;have ck:=UR kind key r dX (i+1) h.2;have bc:vf (a::r)={key:=a.key,val:= .bool false,born:=0}::vf r:=rfl;rw[bc];unfold Instr.findNow;simp only;rw[h.1];cases aw:Instr.sameNow kind key b.key with
  |none=>simp
  |some t=>
   cases t with
   |true=>
    simp only;exact⟨b,b2 _,by simp,rfl⟩
   |false=>
    simp only;cases aO:Instr.findNow kind key (vf r) (i+1) with
    |none=>rw[aO] at ck;exact ck
    |some o=>cases o with
     |none=>rw[aO] at ck;exact ck
     |some p=>
      obtain⟨j,u⟩:=p;rw[aO] at ck;obtain⟨b',ad,af,ay⟩:=ck;exact⟨b',ar,by rw[show j-i=(j-(i+1))+1 by omega];exact af,ay⟩
omit [a7] in
theorem US (eC:aJ) (key:J):∀(es:List j2) (dg:List MapEntry) (i:Nat) (r:Option (Nat×J)),es.map (·.key)=dg.map (·.key)->bd P (Instr.findAsking eC key (vf es) i)=some r->
  match r with
  |none=>∀w,(Instr.findAsking eC key dg i).run P w= .ok none w
  |some (j,_)=>∃b,i<=j/\dg[j-i]? =some b/\∀w,(Instr.findAsking eC key dg i).run P w= .ok (some (j,b.val)) w
 |[],[],i,r,_,h=>by
  simp only [vf,List.map_nil,Instr.findAsking] at h;cases h;exact λw=>rfl
 |[],_::_,_,_,h,_=>by simp at h
 |_::_,[],_,_,h,_=>by simp at h
 |a::l,b::l',i,r,aj,h=>by
  simp only [List.map_cons,List.cons.injEq] at aj;have bc:vf (a::l)={key:=a.key,val:= .bool false,born:=0}::vf l:=rfl;rw[bc] at h;unfold Instr.findAsking at h;rw[sJ] at h;cases he:bd P (Op.equal eC key a.key) with
  |none=>rw[he] at h;cases h
  |some t=>
   rw[he] at h;simp only [Option.bind_some] at h;have oH:=jc (aj.1▸he);cases t with
   |true=>
    simp only [if_true] at h;cases h;refine⟨b,b2 _,by simp,λw=> ?_⟩;unfold Instr.findAsking;exact dc (oH w) (by simp only [if_true];rfl)
   |false=>
    simp only [Bool.false_eq_true,if_false] at h;have ck:=US eC key l l' (i+1) r aj.2 h;cases r with
    |none=>
     intro w;unfold Instr.findAsking;exact dc (oH w) (by simp only [Bool.false_eq_true,if_false];exact ck w)
    |some p=>
     obtain⟨j,u⟩:=p;obtain⟨b',ad,af,ay⟩:=ck;refine⟨b',ar,by rw[show j-i=(j-(i+1))+1 by omega];exact af,λw=> ?_⟩;unfold Instr.findAsking;exact dc (oH w) (by simp only [Bool.false_eq_true,if_false];exact ay w)
def C7 (P:aR) (eC:aJ) (key:J) (es:List j2):Option (Option Nat):=(bd P (Instr.findKey eC key (vf es))).map (Option.map (·.1))
omit [a7] in
theorem zt {eC:aJ} {key:J} {es:List j2} {dg:List MapEntry} (aj:es.map (·.key)=dg.map (·.key)) {r:Option Nat} (h:C7 P eC key es=some r):
  match (generalizing:=false) r with
  |none=>∀w,(Instr.findKey eC key dg).run P w= .ok none w
  |some j=>∃b,dg[j]? =some b/\∀w,(Instr.findKey eC key dg).run P w= .ok (some (j,b.val)) w:=by
 unfold C7 at h;rw[xO] at h;obtain⟨q,h,rfl⟩:=h;unfold Instr.findKey at h;rw[sJ] at h;cases hu:bd P (underlying eC) with
 |none=>rw[hu] at h;cases h
 |some d=>
  rw[hu] at h;simp only [Option.bind_some] at h;have av:=UR d key es dg 0 aj;have IZ:=jc hu;cases aO:Instr.findNow d key (vf es) 0 with
  |none=>
   rw[aO] at h av;simp only at h av;have ha:=US (P:=P) eC key es dg 0 q aj h;cases q with
   |none=>
    intro w;unfold Instr.findKey;exact dc (IZ w) (by rw[av];exact ha w)
   |some p=>
    obtain⟨j,u⟩:=p;obtain⟨b,_,af,ay⟩:=ha;refine⟨b,by simpa using af,λw=> ?_⟩;unfold Instr.findKey;exact dc (IZ w) (by rw[av];exact ay w)
  |some o=>
   rw[aO] at h av;simp only at h;have fm:o=q:=by
    have:some o=some q:=h;cases this;rfl
   subst fm;cases o with
   |none=>
    intro w;unfold Instr.findKey;exact dc (IZ w) (by rw[av];rfl)
   |some p=>
    obtain⟨j,u⟩:=p;obtain⟨b,_,af,ay⟩:=av;refine⟨b,by simpa using af,λw=> ?_⟩;unfold Instr.findKey;exact dc (IZ w) (by rw[ay];rfl)
theorem lg.keys {es:List j2} {dg:Array MapEntry} (h:lg φ es dg):es.map (·.key)=dg.toList.map (·.key):=by
 refine List.ext_getElem? λj=> ?_
 simp only [List.getElem?_map,Array.getElem?_toList];cases ad:es[j]? with
 |none=>
  have:dg[j]? =none:=by
   rw[Array.getElem?_eq_none_iff,<-h.1];exact List.getElem?_eq_none_iff.1 ad
  rw[this];rfl
 |some a=>
  have b8:j<dg.size:=by rw[<-h.1];exact(List.getElem?_eq_some_iff.1 ad).1
  obtain⟨b,ae⟩:∃b,dg[j]? =some b:=⟨_,Array.getElem?_eq_getElem b8⟩;rw[ae];simp only [Option.map_some,cE];exact(h.2 j a b ad ae).2.1
theorem lg.isEmpty {es:List j2} {dg:Array MapEntry} (h:lg φ es dg):es.isEmpty=dg.isEmpty:=by
 have:=h.1;cases es with
 |nil=>simp at this;simp [Array.isEmpty,<-this]
 |cons a r=>simp at this;simp [Array.isEmpty,<-this]
theorem lg.nil:lg φ [] #[]:=⟨rfl,λj a b h=>by simp at h⟩
def MW (P:aR) (A:a') (t:aJ) (r:Option J):Option (J×a'):=
 match (match r with
  |none=>some ()
  |some h=>match bd P (underlying t),bd P (asInt h) with
   |some (.map _ _),some _=>some ()
   |_,_=>none) with
 |some _=>match A.push (.map [] 0) 0 0 with
  |some (b,bB)=>some (.map (some b),bB)
  |none=>none
 |none=>none
theorem ad5 (ao:bU φ A w) {t:aJ} {r:Option J} {v:J} (h:MW P A t r=some (v,a_)):bY (hA v) P φ A w (Instr.makeMap t r) a_:=by
 unfold MW at h;split at h
 ·rename_i aq
  split at h
  ·rename_i b bB hp
   cases h;have cP:=CS (e:=⟨w.heap.size,0,0,0⟩) (o':= .map #[] 0) ao hp U U (by simp only [fL];exact⟨#[],by simp,rfl,λj a b h=>by simp at h⟩);have aC:aD (hc φ b ⟨w.heap.size,0,0,0⟩) (.map (some b)) (.map (some w.heap.size)):= .map (e:=⟨w.heap.size,0,0,0⟩) (by simp [hc]);refine⟨_,_,.map (some w.heap.size),?_,aC,cP⟩;unfold Instr.makeMap;cases r with
   |none=>rfl
   |some hint=>
    simp only at aq;split at aq
    ·rename_i a b' hu ag
     refine cQ hu ?_;simp only;refine cQ ag ?_;rfl
    ·cases aq
  ·cases h
 ·cases h
def mapOf (A:a'):J->Option (List j2)
 | .map none=>some []
 | .map (some b)=>(A.A5 b).map (·.1)
 |_=>none
def I0 (P:aR) (A:a') (t:aJ) (x eD:J) (ok:Bool):Option J:=
 bif plain eD then match bd P (underlying t) with
  |some (.map eC elem)=>match mapOf A x with
   |some es=>match bd P (Instr.checkKey es.isEmpty 10000 eC eD) with
    |some _=>match C7 P eC eD es with
     |some (some j)=>match es[j]? with
      |some e=>some (bif ok then .tuple ⟨[e.val,.bool true]⟩ else e.val)
      |none=>none
     |some none=>match bd P (zeroValue elem) with
      |some z=>bif plain z then some (bif ok then .tuple ⟨[z,.bool false]⟩ else z) else none
      |none=>none
     |none=>none
    |none=>none
   |none=>none
  |_=>none
 else none
theorem UT {a aW:J} (h:aD φ a aW) (b:Bool):aD φ (.tuple ⟨[a,.bool b]⟩) (.tuple #[aW,.bool b]):= .tuple _ _ rfl λi ag=>by
 have:i<2:=by simpa using ag
 rcases(by omega:i=0\/i=1) with rfl|rfl
 ·simpa using h
 ·simpa using aD.bool b
omit [a7] in
theorem C8 {t eC elem:aJ} {x' eD z:J} {ok:Bool} {dg:Array MapEntry} {u:Unit} {Fm:Option (Nat×J)} (ak:(x'= .map none/\dg= #[])\/∃r eU,x'= .map (some r)/\w.heap[r]? =some (.map dg eU)) (hu:bd P (underlying t)=some (.map eC elem))
  (nn:bd P (Instr.checkKey dg.isEmpty 10000 eC eD)=some u) (aO:(Instr.findKey eC eD dg.toList).run P w= .ok Fm w) (bI:Fm=none->bd P (zeroValue elem)=some z):
  (Instr.lookup t x' eD ok).run P w= .ok (match (generalizing:=false) Fm with|some p=>(if ok then .tuple #[p.2,.bool true] else p.2)|none=>(if ok then .tuple #[z,.bool false] else z)) w:=by
 unfold Instr.lookup;refine cQ hu ?_;rcases ak with ⟨rfl,rfl⟩|⟨r,eU,rfl,aA⟩
 ·simp only
  refine dc (a:=(#[]:Array MapEntry)) (w1:=w) rfl ?_;refine cQ nn ?_;refine dc aO ?_;cases Fm with
  |some p=>
   obtain⟨j,v⟩:=p;simp only;refine dc (a:=(v,true)) (w1:=w) rfl ?_;cases ok<;>rfl
  |none=>
   simp only;refine cQ (bI rfl) ?_;refine dc (a:=(z,false)) (w1:=w) rfl ?_;cases ok<;>rfl
 ·simp only
  refine dc (q2 aA (by simp)) ?_;simp only;refine dc (a:=dg) (w1:=w) rfl ?_;refine cQ nn ?_;refine dc aO ?_;cases Fm with
  |some p=>
   obtain⟨j,v⟩:=p;simp only;refine dc (a:=(v,true)) (w1:=w) rfl ?_;cases ok<;>rfl
  |none=>
   simp only;refine cQ (bI rfl) ?_;refine dc (a:=(z,false)) (w1:=w) rfl ?_;cases ok<;>rfl
theorem ad6 (ao:bU φ A w) {t:aJ} {x x' eD v:J} {ok:Bool} (ak:aD φ x x') (h:I0 P A t x eD ok=some v):bY (hA v) P φ A w (Instr.lookup t x' eD ok) A:=by
 unfold I0 at h;cases fV:plain eD with
 |false=>rw[fV] at h;cases h
 |true=>
  rw[fV,bx] at h;split at h
  ·rename_i eC elem hu
   split at h
   ·rename_i es t_
    split at h
    ·rename_i nn
     have zu:∃dg:Array MapEntry,lg φ es dg/\((x'= .map none/\dg= #[])\/∃r eU,x'= .map (some r)/\w.heap[r]? =some (.map dg eU)):=by
      unfold mapOf at t_;split at t_
      ·cases t_
       cases ak;exact⟨#[],lg.nil,.inl ⟨rfl,rfl⟩⟩
      ·rw[xO] at t_
       obtain⟨⟨zs,eU⟩,aA,rfl⟩:=t_;cases ak with
       |map he=>
        obtain⟨dg,ad,af⟩:=Fk ao aA he;exact⟨dg,af,.inr ⟨_,_,rfl,ad⟩⟩
      ·cases t_
     obtain⟨dg,eV,rX⟩:=zu;have UU:bd P (Instr.checkKey dg.isEmpty 10000 eC eD)=some ():=by rw[<-eV.isEmpty];exact nn
     split at h
     ·rename_i j hj
      split at h
      ·rename_i e x0
       simp only [cE] at h;subst h;obtain⟨b,ae,aO⟩:=zt eV.keys hj;rw[Array.getElem?_toList] at ae;have aC:=(eV.2 j e b x0 ae).2.2.1;refine⟨φ,w,(if ok then .tuple #[b.val,.bool true] else b.val),C8 (z:=undef) rX hu UU (aO w) (λh=>by cases h),?_,cw.refl ao⟩;cases ok with
       |true=>exact UT aC true
       |false=>exact aC
      ·cases h
     ·rename_i hj
      split at h
      ·rename_i z bI
       cases ld:plain z with
       |false=>rw[ld] at h;cases h
       |true=>
        rw[ld,bx,cE] at h;subst h;have aO:=zt eV.keys hj;refine⟨φ,w,(if ok then .tuple #[z,.bool false] else z),C8 rX hu UU (aO w) (λ_=>bI),?_,cw.refl ao⟩;cases ok with
        |true=>exact UT (aD.kb φ z ld) false
        |false=>exact aD.kb φ z ld
      ·cases h
     ·cases h
    ·cases h
   ·cases h
  ·cases h
def Fo (P:aR) (A:a') (t:aJ) (m key val:J):Option a':=
 bif plain key then match bd P (underlying t),m with
  |some (.map eC _),.map (some b)=>match A.A5 b with
   |some (es,eU)=>match bd P (Instr.checkKey false 10000 eC key),C7 P eC key es with
    |some _,some (some j)=>match es[j]? with
     |some e=>bif Instr.sameBits 10000 e.key key then A.xZ b (es.set j {e with key:=key,val:=val}) eU else none
     |none=>none
    |some _,some none=>A.xZ b (es++[{key:=key,val:=val,born:=eU}]) (eU+1)
    |_,_=>none
   |none=>none
  |_,_=>none
 else none
theorem lg.push {es:List j2} {dg:Array MapEntry} (h:lg φ es dg) {key val val':J} {eU:Nat} (aj:plain key=true) (aC:aD φ val val'):lg φ (es++[{key:=key,val:=val,born:=eU}]) (dg.push {key:=key,val:=val',born:=eU}):=by
 refine⟨by simp [h.1],λj a b ha ae=> ?_⟩;rw[List.getElem?_append] at ha;rw[Array.getElem?_push] at ae;by_cases hj:j<es.length
 ·rw[aQ hj] at ha
  rw[aU (by rw[<-h.1];omega)] at ae;exact h.2 j a b ha ae
 ·rw[aU hj] at ha
  by_cases gR:j=dg.size
  ·rw[aQ gR] at ae
   cases ae;rw[show j-es.length=0 by rw[h.1];omega] at ha;simp only [List.getElem?_cons_zero,cE] at ha;subst ha;exact⟨aj,rfl,aC,rfl⟩
  ·rw[aU gR] at ae
   have:=(Array.getElem?_eq_some_iff.1 ae).1;have:=h.1;omega
theorem lg.modify {es:List j2} {dg:Array MapEntry} (h:lg φ es dg) {j:Nat} {e:j2} (hj:es[j]? =some e) {key val val':J} (aj:plain key=true) (aC:aD φ val val'):
  lg φ (es.set j {e with key:=key,val:=val}) (dg.modify j λe=>{e with key:=key,val:=val'}):=by
 refine⟨by simp [h.1],λi a b ha ae=> ?_⟩;rw[List.getElem?_set] at ha;rw[Array.getElem?_modify] at ae;by_cases n7:j=i
 ·subst n7
  rw[aQ rfl,aQ (List.getElem?_eq_some_iff.1 hj).1] at ha;rw[aQ rfl] at ae;cases ha;rw[xO] at ae;obtain⟨cB,e7,rfl⟩:=ae;exact⟨aj,rfl,aC,(h.2 j e cB hj e7).2.2.2⟩
 ·rw[aU n7] at ha
  rw[aU n7] at ae;exact h.2 i a b ha ae
omit [a7] in
theorem wN {o o':Obj} {r:Nat} (h:w.heap[r]? =some o) (aq:∀c t f,o≠.cells c t f):(setObj r o').run P w= .ok () {w with heap:=w.heap.setIfInBounds r o'}:=by
 unfold setObj;simp only [Sem.run,h]
theorem UW (ao:bU φ A w) {t:aJ} {m m' key val val':J} (hm:aD φ m m') (aC:aD φ val val') (h:Fo P A t m key val=some a_):bY (λ_ _=>True) P φ A w (Instr.mapUpdate t m' key val') a_:=by
 unfold Fo at h;cases fV:plain key with
 |false=>rw[fV] at h;cases h
 |true=>
  rw[fV,bx] at h;split at h
  ·rename_i eC elem b hu
   split at h
   ·rename_i es eU aA
    cases hm with
    |map he=>
     rename_i em;obtain⟨dg,ad,eV⟩:=Fk ao aA he;split at h
     ·rename_i j nn hj
      split at h
      ·rename_i e x0
       cases A7:Instr.sameBits 10000 e.key key with
       |false=>rw[A7] at h;cases h
       |true=>
        rw[A7,bx] at h;obtain⟨cB,ae,aO⟩:=zt eV.keys hj;rw[Array.getElem?_toList] at ae;have MX:=(eV.2 j e cB x0 ae).2.1;refine⟨φ,_,(),?_,trivial,A6 ao he h (eV.modify x0 fV aC)⟩;unfold Instr.mapUpdate;refine cQ hu ?_;simp only;refine dc (q2 ad (by simp)) ?_;simp only;refine cQ nn ?_;refine dc (aO w) ?_;simp only;rw[show (((dg[j]?).map (·.key)).getD key)=e.key by rw[ae];exact MX.symm];refine dc (a:=key) (w1:=w) (by unfold Instr.keyThatStays;rw[aQ A7];rfl) ?_;exact wN ad (by simp)
      ·cases h
     ·rename_i nn hj
      have aO:=zt eV.keys hj;refine⟨φ,_,(),?_,trivial,A6 ao he h (eV.push fV aC)⟩;unfold Instr.mapUpdate;refine cQ hu ?_;simp only;refine dc (q2 ad (by simp)) ?_;simp only;refine cQ nn ?_;refine dc (aO w) ?_;simp only;exact wN ad (by simp)
     ·cases h
    |_=>simp [al,cp] at*
   ·cases h
  ·cases h
def I1 (P:aR) (A:a') (t:aJ) (m key:J):Option (J×a'):=
 bif plain key then match bd P (underlying t),m with
  |some (.map eC elem),.map (some b)=>match A.A5 b with
   |some (es,eU)=>match bd P (Instr.checkKey false 10000 eC key),C7 P eC key es with
    |some _,some (some j)=>match es[j]? with
     |some e=>bif Instr.sameBits 10000 e.key key then match A.xZ b (es.set j {e with key:=key,val:=e.val}) eU with
       |some bB=>some (.tuple ⟨[e.val,.int .i64 e.born]⟩,bB)
       |none=>none
      else none
     |none=>none
    |some _,some none=>match bd P (zeroValue elem) with
     |some z=>bif plain z then match A.xZ b (es++[{key:=key,val:=z,born:=eU}]) (eU+1) with
       |some bB=>some (.tuple ⟨[z,.int .i64 eU]⟩,bB)
       |none=>none
      else none
     |none=>none
    |_,_=>none
   |none=>none
  |_,_=>none
 else none
theorem UX {a aW:J} (h:aD φ a aW) (n:Int):aD φ (.tuple ⟨[a,.int .i64 n]⟩) (.tuple #[aW,.int .i64 n]):= .tuple _ _ rfl λi ag=>by
 have:i<2:=by simpa using ag
 rcases(by omega:i=0\/i=1) with rfl|rfl
 ·simpa using h
 ·simpa using aD.int .i64 n
theorem lg.ad7 {es:List j2} {dg:Array MapEntry} (h:lg φ es dg) {j:Nat} {e:j2} (hj:es[j]? =some e) {key:J} (aj:plain key=true):
  lg φ (es.set j {e with key:=key,val:=e.val}) (dg.modify j λe=>{e with key:=key}):=by
 refine⟨by simp [h.1],λi a b ha ae=> ?_⟩;rw[List.getElem?_set] at ha;rw[Array.getElem?_modify] at ae;by_cases n7:j=i
 ·subst n7
  rw[aQ rfl,aQ (List.getElem?_eq_some_iff.1 hj).1] at ha;rw[aQ rfl] at ae;cases ha;rw[xO] at ae;obtain⟨cB,e7,rfl⟩:=ae;exact⟨aj,rfl,(h.2 j e cB hj e7).2.2.1,(h.2 j e cB hj e7).2.2.2⟩
 ·rw[aU n7] at ha
  rw[aU n7] at ae;exact h.2 i a b ha ae
theorem ad8 (ao:bU φ A w) {t:aJ} {m m' key v:J} (hm:aD φ m m') (h:I1 P A t m key=some (v,a_)):bY (hA v) P φ A w (Instr.mapEntry t m' key) a_:=by
 unfold I1 at h;cases fV:plain key with
 |false=>rw[fV] at h;cases h
 |true=>
  rw[fV,bx] at h;split at h
  ·rename_i eC elem b hu
   split at h
   ·rename_i es eU aA
    cases hm with
    |map he=>
     rename_i em;obtain⟨dg,ad,eV⟩:=Fk ao aA he;split at h
     ·rename_i j nn hj
      split at h
      ·rename_i e x0
       cases A7:Instr.sameBits 10000 e.key key with
       |false=>rw[A7] at h;cases h
       |true=>
        rw[A7,bx] at h;split at h
        ·rename_i bB e9
         cases h;obtain⟨cB,ae,aO⟩:=zt eV.keys hj;rw[Array.getElem?_toList] at ae;obtain⟨_,MX,ad9,sG⟩:=eV.2 j e cB x0 ae;refine⟨φ,_,.tuple #[cB.val,.int .i64 e.born],?_,UX ad9 _,A6 ao he e9 (eV.ad7 x0 fV)⟩;unfold Instr.mapEntry;refine cQ hu ?_;simp only;refine dc (q2 ad (by simp)) ?_;simp only;refine cQ nn ?_;refine dc (aO w) ?_;simp only;rw[show (((dg[j]?).map (·.key)).getD key)=e.key by rw[ae];exact MX.symm];refine dc (a:=key) (w1:=w) (by unfold Instr.keyThatStays;rw[aQ A7];rfl) ?_;refine dc (wN ad (by simp)) ?_;rw[show ((dg[j]?).map λx=>(x.born:Int)).getD 0=(e.born:Int) by rw[ae,sG];rfl];rfl
        ·cases h
      ·cases h
     ·rename_i nn hj
      split at h
      ·rename_i z bI
       cases ld:plain z with
       |false=>rw[ld] at h;cases h
       |true=>
        rw[ld,bx] at h;split at h
        ·rename_i bB e9
         cases h;have aO:=zt eV.keys hj;refine⟨φ,_,.tuple #[z,.int .i64 eU],?_,UX (aD.kb φ z ld) _,A6 ao he e9 (eV.push fV (aD.kb φ z ld))⟩;unfold Instr.mapEntry;refine cQ hu ?_;simp only;refine dc (q2 ad (by simp)) ?_;simp only;refine cQ nn ?_;refine dc (aO w) ?_;simp only;refine cQ bI ?_;refine dc (wN ad (by simp)) ?_;rfl
        ·cases h
      ·cases h
     ·cases h
    |_=>simp [al,cp] at*
   ·cases h
  ·cases h
def MY (es:List j2) (born:Int):Option Nat:=es.findIdx? λe=>(e.born:Int)==born
def I2 (P:aR) (A:a') (m C9 val:J):Option a':=
 match m with
 | .map (some b)=>match A.A5 b with
   |some (es,eU)=>bif plain C9 then match bd P (asInt C9) with
    |some born=>match MY es born with
     |some j=>match es[j]? with
      |some e=>A.xZ b (es.set j {e with val:=val}) eU
      |none=>none
     |none=>none
    |none=>none
    else none
   |none=>none
 |_=>none
theorem lg.ad' {es:List j2} {dg:Array MapEntry} (h:lg φ es dg) {j:Nat} {e:j2} (hj:es[j]? =some e) {val val':J} (aC:aD φ val val'):
  lg φ (es.set j {e with val:=val}) (dg.modify j λe=>{e with val:=val'}):=by
 refine⟨by simp [h.1],λi a b ha ae=> ?_⟩;rw[List.getElem?_set] at ha;rw[Array.getElem?_modify] at ae;by_cases n7:j=i
 ·subst n7
  rw[aQ rfl,aQ (List.getElem?_eq_some_iff.1 hj).1] at ha;rw[aQ rfl] at ae;cases ha;rw[xO] at ae;obtain⟨cB,e7,rfl⟩:=ae;obtain⟨q1,aE,_,ey⟩:=h.2 j e cB hj e7;exact⟨q1,aE,aC,ey⟩
 ·rw[aU n7] at ha
  rw[aU n7] at ae;exact h.2 i a b ha ae
theorem lg.born {es:List j2} {dg:Array MapEntry} (h:lg φ es dg) (born:Int):dg.findIdx? (λe=>(e.born:Int)==born)=MY es born:=by
 unfold MY;rw[show dg.findIdx? (λe=>(e.born:Int)==born)=dg.toList.findIdx? (λe=>(e.born:Int)==born) by obtain⟨l⟩:=dg;simp];have ae:es.map (·.born)=dg.toList.map (·.born):=by
  refine List.ext_getElem? λj=> ?_
  simp only [List.getElem?_map,Array.getElem?_toList];cases ad:es[j]? with
  |none=>
   have:dg[j]? =none:=by
    rw[Array.getElem?_eq_none_iff,<-h.1];exact List.getElem?_eq_none_iff.1 ad
   rw[this];rfl
  |some a=>
   have b8:j<dg.size:=by rw[<-h.1];exact(List.getElem?_eq_some_iff.1 ad).1
   obtain⟨b,ae⟩:∃b,dg[j]? =some b:=⟨_,Array.getElem?_eq_getElem b8⟩;rw[ae];simp only [Option.map_some,cE];exact(h.2 j a b ad ae).2.2.2
 have e1:∀l:List MapEntry,l.findIdx? (λe=>(e.born:Int)==born)=(l.map (·.born)).findIdx? λ(n:Nat)=>(n:Int)==born:=λl=>by rw[List.findIdx?_map];rfl
 have e2:∀l:List j2,l.findIdx? (λe=>(e.born:Int)==born)=(l.map (·.born)).findIdx? λ(n:Nat)=>(n:Int)==born:=λl=>by rw[List.findIdx?_map];rfl
 rw[e1,e2,ae]
theorem ad_ (ao:bU φ A w) {t:aJ} {m m' C9 val val':J} (hm:aD φ m m') (aC:aD φ val val') (h:I2 P A m C9 val=some a_):bY (λ_ _=>True) P φ A w (Instr.entryStore t m' C9 val') a_:=by
 unfold I2 at h;split at h
 ·rename_i b
  split at h
  ·rename_i es eU aA
   cases fV:plain C9 with
   |false=>rw[fV] at h;cases h
   |true=>
    rw[fV,bx] at h;cases hm with
    |map he=>
     rename_i em;obtain⟨dg,ad,eV⟩:=Fk ao aA he;split at h
     ·rename_i born aw
      split at h
      ·rename_i j hj
       split at h
       ·rename_i e x0
        refine⟨φ,_,(),?_,trivial,A6 ao he h (eV.ad' x0 aC)⟩;unfold Instr.entryStore;simp only;refine dc (q2 ad (by simp)) ?_;simp only;refine cQ aw ?_;rw[eV.born,hj];simp only;exact wN ad (by simp)
       ·cases h
      ·cases h
     ·cases h
  ·cases h
 ·cases h
def I3 (P:aR) (A:a') (cW:Array aJ) (m key:J):Option a':=
 match cW[0]?,m with
 |some t,.map (some b)=>bif plain key then match bd P (underlying t) with
  |some (.map eC _)=>match A.A5 b with
   |some (es,eU)=>match bd P (Instr.checkKey es.isEmpty 10000 eC key),C7 P eC key es with
    |some _,some (some j)=>A.xZ b (es.eraseIdx j) eU
    |some _,some none=>A.xZ b es eU
    |_,_=>none
   |none=>none
  |_=>none
  else none
 |_,_=>none
theorem lg.erase {es:List j2} {dg:Array MapEntry} (h:lg φ es dg) (j:Nat):lg φ (es.eraseIdx j) (dg.eraseIdxIfInBounds j):=by
 have hl:(dg.eraseIdxIfInBounds j).toList=dg.toList.eraseIdx j:=by
  unfold Array.eraseIdxIfInBounds;split
  ·simp
  ·rename_i ko
   rw[List.eraseIdx_of_length_le];simpa using ko
 refine⟨?_,λi a b ha ae=> ?_⟩
 ·have af:(dg.eraseIdxIfInBounds j).size=(dg.toList.eraseIdx j).length:=by rw[<-hl,Array.length_toList]
  rw[af];simp only [List.length_eraseIdx,h.1,Array.length_toList]
 ·rw[<-Array.getElem?_toList,hl] at ae
  rw[List.getElem?_eraseIdx] at ha ae;split at ha
  ·rename_i b8
   rw[aQ b8] at ae;exact h.2 i a b ha (by simpa using ae)
  ·rename_i ko
   rw[aU ko] at ae;exact h.2 (i+1) a b ha (by simpa using ae)
theorem aea (ao:bU φ A w) {cW:Array aJ} {ty:aJ} {m m' key:J} (hm:aD φ m m') (h:I3 P A cW m key=some a_):bY (hA (.tuple ⟨[]⟩)) P φ A w (Builtin.delete_ cW ty #[m',key]) a_:=by
 unfold I3 at h;split at h
 ·rename_i t b aK
  cases fV:plain key with
  |false=>rw[fV] at h;cases h
  |true=>
   rw[fV,bx] at h;split at h
   ·rename_i eC elem hu
    split at h
    ·rename_i es eU aA
     cases hm with
     |map he=>
      rename_i em;obtain⟨dg,ad,eV⟩:=Fk ao aA he;split at h
      ·rename_i j nn hj
       obtain⟨cB,ae,aO⟩:=zt eV.keys hj;refine⟨φ,_,.tuple #[],?_,.tuple _ _ rfl (λi ag=>absurd ag (by simp)),A6 ao he h (eV.erase j)⟩;unfold Builtin.delete_;simp only [aK,List.getElem?_toArray,List.getElem?_cons_zero,List.getElem?_cons_succ];refine cQ hu ?_;simp only;refine dc (q2 ad (by simp)) ?_;simp only;refine cQ (by rw[<-eV.isEmpty];exact nn) ?_;refine dc (aO w) ?_;simp only;exact dc (wN ad (by simp)) rfl
      ·rename_i nn hj
       have aO:=zt eV.keys hj;refine⟨φ,_,.tuple #[],?_,.tuple _ _ rfl (λi ag=>absurd ag (by simp)),A6 ao he h eV⟩;unfold Builtin.delete_;simp only [aK,List.getElem?_toArray,List.getElem?_cons_zero,List.getElem?_cons_succ];refine cQ hu ?_;simp only;refine dc (q2 ad (by simp)) ?_;simp only;refine cQ (by rw[<-eV.isEmpty];exact nn) ?_;refine dc (aO w) ?_;simp only;exact dc (wN ad (by simp)) rfl
      ·cases h
    ·cases h
   ·cases h
 ·cases h
def MZ (P:aR) (A:a') (t:aJ):J->Option (J×a')
 | .string s=>match bd P (underlying t) with
   |some .string=>match A.push (.gh (.xP s 0)) 0 0 with
    |some (b,bB)=>some (.pointer (some ⟨b,0,none⟩),bB)
    |none=>none
   |_=>none
 |_=>none
theorem aeb (ao:bU φ A w) {t:aJ} {x x' v:J} (ak:aD φ x x') (h:MZ P A t x=some (v,a_)):bY (hA v) P φ A w (Instr.range t x') a_:=by
 unfold MZ at h;split at h
 ·rename_i s
  cases ak;split at h
  ·rename_i hu
   split at h
   ·rename_i b bB hp
    cases h;have cP:=CS (e:=⟨w.heap.size,0,0,0⟩) (o':= .stringIter s 0) ao hp U U (by simp only [fL];exact⟨trivial,_,by simp,rfl⟩);have aC:aD (hc φ b ⟨w.heap.size,0,0,0⟩) (.pointer (some ⟨b,0,none⟩)) (.pointer (some ⟨w.heap.size,0,none⟩)):= .ptr (e:=⟨w.heap.size,0,0,0⟩) (by simp [hc]);refine⟨_,_,.pointer (some ⟨w.heap.size,0,none⟩),?_,aC,cP⟩;unfold Instr.range;refine cQ hu ?_;rfl
   ·cases h
  ·cases h
 ·cases h
def M0 (A:a') (it:J) (aec:Bool):Option (J×a'):=
 match it,aec with
 | .pointer (some ⟨b,0,none⟩),true=>match A.MU b with
   |some (s,p)=>bif Nat.blt p s.size then match A.setIter b s (p+(Utf8.decode s p).2) with
     |some bB=>some (.tuple ⟨[.bool true,.int .i64 p,.int .i32 (Utf8.decode s p).1]⟩,bB)
     |none=>none
    else some (.tuple ⟨[.bool false]⟩,A)
   |none=>none
 |_,_=>none
theorem aed (ao:bU φ A w) {it UY v:J} {st:Bool} {ty:aJ} (ak:aD φ it UY) (h:M0 A it st=some (v,a_)):bY (hA v) P φ A w (Instr.next UY st ty) a_:=by
 unfold M0 at h;split at h
 ·rename_i b
  split at h
  ·rename_i s p aA
   cases ak with
   |ptr he=>
    rename_i e;obtain⟨aM,ad⟩:=ad3 ao aA he;rw[aM,Nat.zero_add];have n0:(getObj e.bk).run P w= .ok (.stringIter s p) w:=q2 ad (by simp);cases ae:Nat.blt p s.size with
    |true=>
     rw[ae,bx] at h;have b8:p<s.size:=Nat.blt_eq.mp ae;split at h
     ·rename_i bB e9
      cases h;refine⟨φ,_,_,?_,aD.kb φ _ (by simp [plain,o7]),ad4 ao he aM e9⟩;unfold Instr.next
      simp only;refine dc n0 ?_;simp only [b8,if_true];refine dc (wN ad (by simp)) ?_;rfl
     ·cases h
    |false=>
     rw[ae,ek] at h;cases h;have ko:¬p<s.size:=λb8=>by rw[Nat.blt_eq.mpr b8] at ae;cases ae
     refine⟨φ,w,.tuple #[.bool false],?_,aD.kb φ _ (by simp [plain,o7]),cw.refl ao⟩;unfold Instr.next
     simp only;refine dc n0 ?_;simp only [ko,if_false];rfl
  ·cases h
 ·cases h
end
end AE
namespace AE
variable [a7]
inductive sL where
 |value (v:J)
 |skip
 |enter (f:FuncId) (args:List J)
def wO:sL->bV->Next->Prop
 | .value v,φ,n=>∃aB,n= .value aB/\aD φ v aB
 | .skip,_,n=>n= .skip
 | .enter f args,φ,n=>∃gi:Array J,n= .enter f gi/\hS args φ gi
def uf (P:aR) (s:Sem J):Option J:=
 match bd P s with
 |some v=>bif plain v then some v else none
 |none=>none
section
variable {P:aR} {φ:bV} {A a_:a'} {w:ax}
theorem C' (ao:bU φ A w) {s:Sem J} {v:J} (h:uf P s=some v):bY (hA v) P φ A w s A:=by
 unfold uf at h;split at h
 ·rename_i u hu
  cases hp:plain u with
  |false=>rw[hp] at h;cases h
  |true=>
   rw[hp,bx,cE] at h;subst h;exact bY.pure_run ao hu (aD.kb φ u hp)
 ·cases h
def Fp (P:aR) (s:Array J->Sem J) (args:List J):Option J:=
 bif o7 args then uf P (s ⟨args⟩) else none
def M1 (x:J):Option J:=
 match x with
 | .slice none _ _=>some (.pointer none)
 | .slice (some ⟨b,off,none⟩) _ c=>bif Nat.beq c 0 then none else some (.pointer (some ⟨b,off,none⟩))
 |_=>none
def M3 (P:aR) (cW:Array aJ) (x:J):Option J:=
 match cW[0]? with
 |some t=>match bd P (underlying t),x with
  |some (.slice _),.slice none _ c=>some (.int .i64 c)
  |some (.slice _),.slice (some _) _ _=>some cp
  |some (.array n _),_=>some (.int .i64 n)
  |_,_=>none
 |none=>none
def M4 (P:aR) (A:a') (b:Builtin) (cW:Array aJ) (ty:aJ) (args:List J):Option (J×a'):=
 match b,args with
 | .len,[x]=>match MC P A cW x with
   |some v=>some (v,A)
   |none=>match Fp P (Builtin.len_ cW ty) [x] with
    |some v=>some (v,A)
    |none=>none
 | .append,[s,x]=>Mk P A cW s x
 | .copy,[d,s]=>Mz P A cW d s
 | .cap,[x]=>(M3 P cW x).map (·,A)
 | .max,l=>(Fp P (Builtin.max_ cW ty) l).map (·,A)
 | .min,l=>(Fp P (Builtin.min_ cW ty) l).map (·,A)
 | .unsafeSliceData,[x]=>(M1 x).map (·,A)
 | .clear,[x]=>match MT P A cW x with
   |some bB=>some (undef,bB)
   |none=>none
 | .unsafeString,[x,n]=>bif plain n then MS P A cW x n else none
 | .delete,[m,k]=>match I3 P A cW m k with
   |some bB=>some (.tuple ⟨[]⟩,bB)
   |none=>none
 |_,_=>none
theorem hS.eq {l:List J} {a:Array J} (hp:o7 l=true) (h:hS l φ a):a=⟨l⟩:=by
 obtain⟨M5⟩:=a;have:M5=l:=aD.E6 (φ:=φ) l M5 hp (by simpa using h.1.symm) (λi ag=>by simpa [fb] using h.2 i ag);rw[this]
theorem M6 (ao:bU φ A w) {s:Array J->Sem J} {l:List J} {a:Array J} {v:J} (hl:hS l φ a) (h:Fp P s l=some v):bY (hA v) P φ A w (s a) A:=by
 unfold Fp at h;cases hp:o7 l with
 |false=>rw[hp] at h;cases h
 |true=>
  rw[hp,bx] at h;rw[hl.eq hp];exact C' ao h
theorem hS.one {x:J} {a:Array J} (h:hS [x] φ a):∃x',a= #[x']/\aD φ x x':=by
 obtain⟨l⟩:=a;obtain⟨ad,af⟩:=h
 match l,ad with
 |[x'],_=>exact⟨x',rfl,by simpa using af 0 (by simp)⟩
theorem hS.two {x y:J} {a:Array J} (h:hS [x,y] φ a):∃x' fD,a= #[x',fD]/\aD φ x x'/\aD φ y fD:=by
 obtain⟨l⟩:=a;obtain⟨ad,af⟩:=h
 match l,ad with
 |[x',fD],_=>exact⟨x',fD,rfl,by simpa using af 0 (by simp),by simpa using af 1 (by simp)⟩
theorem aee (ao:bU φ A w) {cW:Array aJ} {ty:aJ} {x x' v:J} (ak:aD φ x x') (h:M3 P cW x=some v):bY (hA v) P φ A w (Builtin.cap_ cW ty #[x']) A:=by
 unfold M3 at h;split at h
 ·rename_i t aK
  have hm:∀aB,(do match <-underlying t,x' with
   | .array n _,_=>pure (goInt n)
   | .pointer arr,_=>
     let .array n _ <-underlying arr|stuck "cap: pointer to array expected"
     pure (goInt n)
   | .slice _,.slice _ _ n=>pure (goInt n)
   | .chan _ _,.chan none=>pure (goInt 0)
   | .chan _ _,.chan (some r)=>
     let .chan n _ _ _ _ timer <-getObj r|stuck "cap: channel expected"
     pure (goInt (if timer then 0 else n))
   |_,_=>stuck "cap: array, pointer to array, slice or channel expected":Sem J).run P w= .ok aB w->(Builtin.cap_ cW ty #[x']).run P w= .ok aB w:=by
   intro aB aC;rw[<-aC];unfold Builtin.cap_;simp only [aK];rfl
  split at h
  ·rename_i e l c hu
   simp only [cE] at h;subst h;cases ak;exact⟨φ,w,_,hm _ (cQ hu rfl),.int _ _,cw.refl ao⟩
  ·rename_i e a l c hu
   simp only [cE] at h;subst h;cases ak<;>exact⟨φ,w,_,hm _ (cQ hu rfl),.cp _,cw.refl ao⟩
  ·rename_i n e hu
   simp only [cE] at h;subst h;exact⟨φ,w,_,hm _ (cQ hu rfl),.int _ _,cw.refl ao⟩
  ·cases h
 ·cases h
theorem aef (ao:bU φ A w) {cW:Array aJ} {ty:aJ} {x x' v:J} (ak:aD φ x x') (h:M1 x=some v):bY (hA v) P φ A w (Builtin.unsafeSliceData_ cW ty #[x']) A:=by
 unfold M1 at h;split at h
 ·simp only [cE] at h
  subst h;cases ak;exact bY.ret ao .zj
 ·rename_i b off n c
  cases aq:Nat.beq c 0 with
  |true=>rw[aq] at h;cases h
  |false=>
   rw[aq,ek,cE] at h;subst h;have A8:c≠0:=λah=>by rw[ah] at aq;exact absurd aq cz
   have key:∀(a:Addr) (n c:Nat),c≠0->(Builtin.unsafeSliceData_ cW ty #[.slice (some a) n c]).run P w= .ok (.pointer (some a)) w:=by
    intro a n c aq;have e:Builtin.unsafeSliceData_ cW ty #[.slice (some a) n c]=(if c≠0 then pure (.pointer (some a)) else do
     if (<-viewAt a.block).isSome then pure (.pointer (some a)) else pure (.pointer (some ⟨<-newObj (.view a (<-elemOf ty)),0,none⟩))):=rfl
    rw[e,aQ aq];rfl
   cases ak with
   |iH=>exact absurd rfl A8
   |ia n c he=>exact⟨φ,w,_,key _ _ _ A8,.ptr he,cw.refl ao⟩
   |ib n c c' he ad af ay=>exact⟨φ,w,_,key _ _ _ ar,.ptr he,cw.refl ao⟩
 ·cases h
theorem aeg (ao:bU φ A w) {b:Builtin} {cW:Array aJ} {ty:aJ} {cs:Array Bool} {l:List J} {a:Array J} {v:J} (hl:hS l φ a) (h:M4 P A b cW ty l=some (v,a_)):
  bY (wO (.value v)) P φ A w (builtin b cW ty cs a) a_:=by
 have fM:∀{s:Sem J},bY (hA v) P φ A w s a_->bY (wO (.value v)) P φ A w (do pure (.value (<-s))) a_:=λaw=>bY.map aw λφ a ha=>⟨a,rfl,ha⟩
 unfold M4 at h;split at h
 ·obtain⟨x',rfl,ak⟩:=hl.one
  split at h
  ·rename_i aB aC
   cases h;exact fM (adJ ao ak aC)
  ·split at h
   ·rename_i aB aC
    cases h;exact fM (M6 ao hl aC)
   ·cases h
 ·obtain⟨x',fD,rfl,ak,bq⟩:=hl.two
  exact fM (adx ao ak bq h)
 ·obtain⟨x',fD,rfl,ak,bq⟩:=hl.two
  exact fM (adF ao ak bq h)
 ·obtain⟨x',rfl,ak⟩:=hl.one
  obtain⟨aB,aC,he⟩:=Option.map_eq_some_iff.1 h;cases he;exact fM (aee ao ak aC)
 ·obtain⟨aB,aC,he⟩:=Option.map_eq_some_iff.1 h
  cases he;exact fM (M6 ao hl aC)
 ·obtain⟨aB,aC,he⟩:=Option.map_eq_some_iff.1 h
  cases he;exact fM (M6 ao hl aC)
 ·obtain⟨x',rfl,ak⟩:=hl.one
  obtain⟨aB,aC,he⟩:=Option.map_eq_some_iff.1 h;cases he;exact fM (aef ao ak aC)
 ·obtain⟨x',rfl,ak⟩:=hl.one
  split at h
  ·rename_i bB ug
   cases h;exact fM (ad1 ao ak ug)
  ·cases h
 ·rename_i x n
  obtain⟨x',fD,rfl,ak,bq⟩:=hl.two;cases hp:plain n with
  |false=>rw[hp] at h;cases h
  |true=>
   rw[hp,bx] at h;rw[aD.kU _ hp bq];exact fM (adZ ao ak h)
 ·rename_i m k
  obtain⟨x',fD,rfl,ak,bq⟩:=hl.two;split at h
  ·rename_i bB ug
   cases h;have hp:plain k=true:=by
    unfold I3 at ug;split at ug
    ·cases hp:plain k with
     |true=>rfl
     |false=>rw[hp] at ug;cases ug
    ·cases ug
   rw[aD.kU _ hp bq];exact fM (aea ao ak ug)
  ·cases h
 ·cases h
def enters (P:aR) (f:FuncId):Bool:=
 match P.funcs[f]? with
 |some fn=> !(fn.name== "runtime.NumGoroutine")&&fn.body.isSome
 |none=>false
omit [a7] in
theorem Fq {f:FuncId} (h:enters P f=true) (args:Array J):bd P (callFunc f args)=some (.enter f args):=by
 unfold enters at h;split at h
 ·rename_i fn aO
  simp only [cV,Bool.not_eq_true'] at h;obtain⟨ad,af⟩:=h;have ay:fn.body.isNone=false:=by cases ae:fn.body<;>simp_all
  unfold callFunc;show bd P (match P.funcs[f]? with|none=>_|some fn=>_)=_;simp only [aO,ad,ay,Bool.false_eq_true,if_false];rfl
 ·cases h
def UZ (P:aR) (f:FuncId) (args:List J):Option sL:=
 bif o7 args then match bd P (callFunc f ⟨args⟩) with
  |some (.value v)=>bif plain v then some (.value v) else none
  |_=>none
 else none
def M7 (P:aR) [Lib P] (A:a') (f:FuncId):List J->Option (J×a')
 |[x]=>bif (Lib.same P).contains f then some (x,A) else
  match (Lib.ML P).find? λp=>Nat.beq p.1 f,x with
  |some p,.int .i64 n=>MP A p.2 n
  |_,_=>none
 |_=>none
def I4 (P:aR) [Lib P] (A:a') (f:FuncId) (args:List J):Option (sL×a'):=
 bif enters P f then some (.enter f args,A) else
  match M7 P A f args with
  |some (v,bB)=>some (.value v,bB)
  |none=>match UZ P f args with
   |some n=>some (n,A)
   |none=>none
theorem aeh [Lib P] (ao:bU φ A w) {f:FuncId} {l:List J} {a:Array J} {v:J} (hl:hS l φ a) (h:M7 P A f l=some (v,a_)):bY (wO (.value v)) P φ A w (callFunc f a) a_:=by
 unfold M7 at h;split at h
 ·rename_i x
  obtain⟨x',rfl,ak⟩:=hl.one;cases aq:(Lib.same P).contains f with
  |true=>
   rw[aq] at h;cases h;exact bY.pure_run ao (Lib.UI f (by simpa using aq) x') ⟨x',rfl,ak⟩
  |false=>
   rw[aq,ek] at h;split at h
   ·rename_i p n aO
    cases ak;have hN:p.1=f:=by
     have:=List.find?_some aO;exact cA this
    obtain⟨ps,rY,t,ad,af,ay⟩:=Lib.UJ p (List.mem_of_find?_eq_some aO);obtain⟨gE,w1,v1,g1,g2,g3⟩:=adS (ps:=ps) ao af ay h;refine⟨gE,w1,.value v1,?_,⟨v1,rfl,g2⟩,g3⟩;rw[<-hN,ad];exact dc g1 rfl
   ·cases h
 ·cases h
theorem U0 [Lib P] (ao:bU φ A w) {f:FuncId} {l:List J} {a:Array J} {n:sL} (hl:hS l φ a) (h:I4 P A f l=some (n,a_)):bY (wO n) P φ A w (callFunc f a) a_:=by
 unfold I4 at h;cases he:enters P f with
 |true=>
  rw[he] at h;cases h;exact bY.pure_run ao (Fq he a) ⟨a,rfl,hl⟩
 |false=>
  rw[he,ek] at h;split at h
  ·rename_i v bB aj
   cases h;exact aeh ao hl aj
  ·split at h
   ·rename_i n av
    cases h;unfold UZ at av;cases hp:o7 l with
    |false=>rw[hp] at av;cases av
    |true=>
     rw[hp,bx] at av;split at av
     ·rename_i v aC
      cases qp:plain v with
      |false=>rw[qp] at av;cases av
      |true=>
       rw[qp,bx,cE] at av;subst av;rw[hl.eq hp];exact bY.pure_run ao aC ⟨v,rfl,aD.kb φ v qp⟩
     ·cases av
   ·cases h
def M8 (P:aR) [Lib P] (A:a') (bp:Operand->J) (c:Call) (ty:aJ):Option (sL×a'):=
 match c.callee with
 | .builtin b=>(M4 P A b c.argTypes ty (c.args.toList.map bp)).map λr=>(.value r.1,r.2)
 | .value f=>match bp f with
   | .func (.func g) ⟨first⟩ ⟨C_⟩=>I4 P A g (first++c.args.toList.map bp++C_)
   |_=>none
 | .invoke recv name=>match bp recv with
   | .iface t v=>bif plain v then match bd P (method (P.types.size+Made.depth) t v name) with
       |some (f,r)=>bif plain r then I4 P A f (r::c.args.toList.map bp) else none
       |none=>none
     else none
   |_=>none
theorem hS.append {l1 lU:List J} {ev fR:Array J} (ad:hS l1 φ ev) (af:hS lU φ fR):hS (l1++lU) φ (ev++fR):=by
 obtain⟨M5⟩:=ev;obtain⟨I5⟩:=fR;obtain⟨s1,v1⟩:=ad;obtain⟨s2,gx⟩:=af;simp only [List.size_toArray] at s1 s2;refine⟨by simp [s1,s2],λj hj=> ?_⟩;simp only [List.append_toArray,fb,List.getElem?_toArray,dh] at v1 gx ⊢;rcases Nat.lt_or_ge j l1.length with h|h
 ·rw[List.getElem?_append_left h,List.getElem?_append_left ar]
  exact v1 j h
 ·rw[List.getElem?_append_right h,List.getElem?_append_right ar,s1]
  exact gx _ (by simp at hj;omega)
theorem hS.map {l:Array Operand} {ρ ρ':Operand->J} (h:∀x∈l,aD φ (ρ x) (ρ' x)):hS (l.toList.map ρ) φ (l.map ρ'):=by
 obtain⟨l⟩:=l;refine⟨by simp,λj hj=> ?_⟩;simp only [List.length_map] at hj;simp only [List.map_toArray,fb,List.getElem?_toArray,dh,List.getElem?_map,fA hj,Option.map_some,Option.getD_some];exact h _ (by simp)
theorem hS.of {cs cs':Array J} (ad:cs.size=cs'.size) (h:∀i,i<cs.size->aD φ (cs.getD i undef) (cs'.getD i undef)):hS cs.toList φ cs':=by
 obtain⟨l⟩:=cs;refine⟨by simpa using ad.symm,λj hj=> ?_⟩;simpa [fb] using h j (by simpa using hj)
theorem aei [Lib P] (ao:bU φ A w) {ρ ρ':Operand->J} {c:Call} {ty:aJ} {n:sL} (cU:∀x,aD φ (ρ x) (ρ' x)) (h:M8 P A ρ c ty=some (n,a_)):
  bY (wO n) P φ A w (do let d <-resolve ρ' c ty;invoke d.target d.args) a_:=by
 unfold M8 at h;have gy:hS (c.args.toList.map ρ) φ (c.args.map ρ'):=hS.map λx _=>cU x
 split at h
 ·rename_i b aq
  obtain⟨⟨v,bB⟩,ae,he⟩:=Option.map_eq_some_iff.1 h;cases he;obtain⟨fh,w2,n2,g1,g2,g3⟩:=aeg (cs:=c.args.map λ| .const _=>true|_=>false) ao gy ae;refine⟨fh,w2,n2,?_,g2,g3⟩;rw[<-g1];unfold resolve;rw[aq];rfl
 ·rename_i f aq
  split at h
  ·rename_i g first C_ aO
   have ae:=h;have aC:=cU f;rw[aO] at aC;cases n8:ρ' f with
   |func fn kn cs'=>
    rw[n8] at aC;cases aC with
    |func fs kn cs cs' av ad af M9 fZ=>
     have:=(hS.of ad M9).append gy |>.append (hS.of af fZ);obtain⟨fh,w2,n2,g1,g2,g3⟩:=U0 ao this ae;refine⟨fh,w2,n2,?_,g2,g3⟩;rw[<-g1];unfold resolve;rw[aq];simp only [n8];rfl
   |_=>rw[n8] at aC;cases aC
  ·cases h
 ·rename_i recv name aq
  split at h
  ·rename_i t v aC
   cases hp:plain v with
   |false=>rw[hp] at h;cases h
   |true=>
    rw[hp,bx] at h;split at h
    ·rename_i f r hm
     cases A9:plain r with
     |false=>rw[A9] at h;cases h
     |true=>
      rw[A9,bx] at h;have ae:=h;have Fs:=cU recv;rw[aC] at Fs;cases n8:ρ' recv with
      |iface da aB=>
       rw[n8] at Fs;cases Fs with
       |iface _ x1=>
        have aej:=aD.kU v hp x1;subst aej;have ad:hS [r] φ #[r]:=⟨rfl,λj hj=>by
         have:j=0:=by simpa using hj
         subst this
         exact aD.kb φ r A9⟩
        obtain⟨fh,w2,n2,g1,g2,g3⟩:=U0 ao (ad.append gy) ae;refine⟨fh,w2,n2,?_,g2,g3⟩;rw[<-g1];unfold resolve;rw[aq];simp only [n8];refine cQ (a:={target:= .fn (.method name) #[],args:= #[.iface t aB]++c.args.map ρ'}) rfl ?_;unfold invoke;have e0:(#[Value.iface t aB]++c.args.map ρ')[0]? =some (.iface t aB):=by
         simp [Array.getElem?_append]
        have e1:(#[Value.iface t aB]++c.args.map ρ').extract 1 (#[Value.iface t aB]++c.args.map ρ').size=c.args.map ρ':=by
         apply Array.ext';simp [List.take_of_length_le]
        simp only [e0,e1];unfold callMethod;refine cQ (a:=P) rfl ?_;exact cQ hm rfl
      |_=>rw[n8] at Fs;cases Fs
    ·cases h
  ·cases h
end
end AE
namespace AE
variable [a7]
def x2 (bp:Operand->J):Option Operand->Bool
 |none=>true
 |some x=>plain (bp x)
def M_ (P:aR) (A:a') (o_ dst:aJ) (x:J):Option (J×a'):=
 match (bif plain x then uf P (convert o_ dst x) else none) with
 |some v=>some (v,A)
 |none=>match MN P A o_ dst x with
  |some v=>some (v,A)
  |none=>match bd P (underlying o_),bd P (underlying dst),x with
   |some _,some (.slice e),.string s=>match bd P (underlying e) with
    |some (.int .u8)=>MF A e s
    |_=>none
   |some (.slice e),some .string,.slice a n c=>match bd P (underlying e) with
    |some (.int .u8)=>(ME P A (.slice a n c)).map (·,A)
    |_=>none
   |_,_,_=>none
def U1 (x:J):Option J:=
 match x with
 | .pointer (some _)=>some x
 | .func (.func _) _ _=>some x
 | .iface _ _=>some x
 |_=>none
def U2:Fn->Bool
 | .yield _=>true
 |_=>false
def val (A:a'):Option J->Option (sL×a')
 |some v=>some (.value v,A)
 |none=>none
def uh:Option (J×a')->Option (sL×a')
 |some (v,A)=>some (.value v,A)
 |none=>none
def Ft (P:aR) [Lib P] (bp:Operand->J) (A:a') (o:Oper):Option (sL×a'):=
 match o.op with
 | .move x| .assign x=>some (.value (bp x),A)
 | .pick c a b=>match bp c with
   | .bool t=>some (.value (bif t then bp a else bp b),A)
   |_=>none
 | .alloc t=>uh (Ma P A t)
 | .box t x=>uh (ID A t (bp x))
 | .build t parts=>val A (Mf P t (parts.map λ(i,x)=>(i,bp x)))
 | .buildSlice t len parts=>bif Nat.beq len 0&&Nat.beq parts.size 0 then uh (Mi P A t) else uh (Mh P A t len (parts.map λ(i,x)=>(i,bp x)))
 | .load t a=>val A (CX P A t (bp a))
 | .store t a x=>match L9 P A t (bp x) (bp a) with
   |some bB=>some (.skip,bB)
   |none=>none
 | .nilCheck x=>val A (U1 (bp x))
 | .binOp op t x y _=>match (bif plain (bp x)&&plain (bp y) then uf P (do eqGuard op t x y (bp x) (bp y);binOp op t (bp x) (bp y)) else none) with
   |some v=>some (.value v,A)
   |none=>val A (MH P op t (bp x) (bp y))
 | .unOp op _ x=>bif plain (bp x) then val A (uf P (Op.unary op (bp x))) else none
 | .convert o_ dst x=>uh (M_ P A o_ dst (bp x))
 | .makeInterface t x=>val A (MI P t (bp x))
 | .makeFunc fn first C_=>bif U2 fn then none else some (.value (.func fn ⟨first.toList.map bp⟩ ⟨C_.toList.map bp⟩),A)
 | .makeSlice t l c=>bif plain (bp l)&&plain (bp c) then uh (MB P A t (bp l) (bp c)) else none
 | .slice t x fp ag eR=>bif x2 bp fp&&(x2 bp ag&&x2 bp eR) then val A (match Mu P A t (bp x) (fp.map bp) (ag.map bp) (eR.map bp) with
     |some v=>some v
     |none=>bif plain (bp x) then uf P (Instr.sliceAt t (bp x) (fp.map bp) (ag.map bp) (eR.map bp)) else none) else none
 | .fieldAddr s x f=>val A (E8 P s f (bp x))
 | .field t x f=>val A (Mb P t (bp x) f)
 | .indexAddr t x eD=>bif plain (bp eD) then val A (E9 P t (bp x) (bp eD)) else none
 | .index t x eD=>bif plain (bp eD) then val A (match Mc P t (bp x) (bp eD) with
     |some v=>some v
     |none=>bif plain (bp x) then uf P (Instr.index t (bp x) (bp eD)) else none) else none
 | .typeAssert x _ asserted ok=>val A (MJ P (bp x) asserted ok)
 | .extract t eD=>val A (Fa (bp t) eD)
 | .call c=>M8 P A bp c o.type
 | .makeMap t r=>bif x2 bp r then uh (MW P A t (r.map bp)) else none
 | .lookup t x eD ok=>val A (I0 P A t (bp x) (bp eD) ok)
 | .mapUpdate t m k x| .insert t m k x=>match Fo P A t (bp m) (bp k) (bp x) with
   |some bB=>some (.skip,bB)
   |none=>none
 | .mapEntry t m k=>uh (I1 P A t (bp m) (bp k))
 | .entryStore _ m st x=>match I2 P A (bp m) (bp st) (bp x) with
   |some bB=>some (.skip,bB)
   |none=>none
 | .range t x=>uh (MZ P A t (bp x))
 | .next it U3=>uh (M0 A (bp it) U3)
 |_=>none
section
variable {P:aR} {φ:bV} {A a_:a'} {w:ax}
theorem aek (ao:bU φ A w) {o_ dst:aJ} {x x' v:J} (ak:aD φ x x') (h:M_ P A o_ dst x=some (v,a_)):bY (hA v) P φ A w (convert o_ dst x') a_:=by
 unfold M_ at h;split at h
 ·rename_i u hu
  simp only [cE,Prod.mk.injEq] at h;obtain⟨rfl,rfl⟩:=h;cases hp:plain x with
  |false=>rw[hp] at hu;cases hu
  |true=>
   rw[hp,bx] at hu;rw[aD.kU x hp ak];exact C' ao hu
 split at h
 ·rename_i u hu
  cases h;exact adQ ao ak hu
 ·split at h
  ·rename_i d e s ad af _ _
   split at h
   ·rename_i ay
    cases ak;unfold convert;refine bY.pre ad (bY.pre af ?_);simp only;refine bY.pre ay ?_;exact adL ao h
   ·cases h
  ·rename_i e a n c ad af _ _
   split at h
   ·rename_i ay
    obtain⟨aB,aC,he⟩:=Option.map_eq_some_iff.1 h;cases he;have aw:=adK ao ak aC;unfold convert;refine bY.pre ad (bY.pre af ?_);cases ak<;>exact bY.pre ay aw
   ·cases h
  ·cases h
theorem I6 {ρ ρ':Operand->J} (cU:∀x,aD φ (ρ x) (ρ' x)) {o:Option Operand} (h:x2 ρ o=true):o.map ρ'=o.map ρ:=by
 cases o with
 |none=>rfl
 |some x=>simp only [Option.map_some];rw[aD.kU _ h (cU x)]
theorem U4 [Lib P] (ao:bU φ A w) {ρ ρ':Operand->J} {o:Oper} {n:sL} (cU:∀x,aD φ (ρ x) (ρ' x)) (h:Ft P ρ A o=some (n,a_)):bY (wO n) P φ A w (execOp ρ' o) a_:=by
 have fM:∀{v:J} {s:Sem J},bY (hA v) P φ A w s a_->bY (wO (.value v)) P φ A w (do pure (.value (<-s))) a_:=λaw=>bY.map aw λφ a ha=>⟨a,rfl,ha⟩
 have hval:∀{r:Option J},val A r=some (n,a_)->∃v,r=some v/\n= .value v/\a_=A:=by
  intro r aC;cases r with
  |none=>cases aC
  |some v=>simp only [val,cE,Prod.mk.injEq] at aC;exact⟨v,rfl,aC.1.symm,aC.2.symm⟩
 have wP:∀{r:Option (J×a')},uh r=some (n,a_)->∃v,r=some (v,a_)/\n= .value v:=by
  intro r aC;cases r with
  |none=>cases aC
  |some p=>obtain⟨v,bB⟩:=p;simp only [uh,cE,Prod.mk.injEq] at aC;exact⟨v,by rw[aC.2],aC.1.symm⟩
 obtain⟨dst,op,type,pos,after,guard⟩:=o;unfold Ft at h;unfold execOp;cases op<;>simp only at h ⊢<;>try (cases h;done)
 case move x=>cases h;exact bY.ret ao ⟨_,rfl,cU x⟩
 case assign x=>cases h;exact bY.ret ao ⟨_,rfl,cU x⟩
 case pick c a b=>
  split at h
  ·rename_i t aq
   cases h;have:=cU c;rw[aq] at this;cases A8:ρ' c<;>rw[A8] at this<;>cases this
   refine bY.pre (a:=t) rfl ?_;cases t
   ·exact bY.ret ao ⟨_,rfl,cU b⟩
   ·exact bY.ret ao ⟨_,rfl,cU a⟩
  ·cases h
 case alloc t=>
  obtain⟨v,ad,rfl⟩:=wP h;exact fM (ade ao ad)
 case box t x=>
  obtain⟨v,ad,rfl⟩:=wP h;exact fM (Ug ao (cU x) ad)
 case build t parts=>
  obtain⟨v,ad,rfl,rfl⟩:=hval h;exact fM (adk ao (λp _=>cU p.2) ad)
 case buildSlice t len parts=>
  cases ae:(Nat.beq len 0&&Nat.beq parts.size 0) with
  |true=>
   rw[ae,bx] at h;simp only [cV] at ae;obtain⟨v,ad,rfl⟩:=wP h;have e1:len=0:=cA ae.1;have e2:parts= #[]:=Array.eq_empty_of_size_eq_zero (cA ae.2);subst e1;subst e2;exact fM (by simpa using adn ao ad)
  |false=>
   rw[ae,ek] at h;obtain⟨v,ad,rfl⟩:=wP h;exact fM (adl ao (λp _=>cU p.2) ad)
 case load t a=>
  obtain⟨v,ad,rfl,rfl⟩:=hval h;exact fM (ac_ ao (cU a) ad)
 case store t a x=>
  split at h
  ·rename_i bB ad
   cases h;exact bY.map (adb ao (cU a) (cU x) ad) λ_ _ _=>rfl
  ·cases h
 case nilCheck x=>
  obtain⟨v,ad,rfl,rfl⟩:=hval h;have ak:=cU x;unfold U1 at ad;split at ad
  ·rename_i a ha
   cases ad;rw[ha] at ak;cases rX:ρ' x<;>rw[rX] at ak
   all_goals cases ak
   rename_i h;exact bY.ret ao ⟨_,rfl,ha▸.ptr h⟩
  ·rename_i f fs cs ha
   cases ad;rw[ha] at ak;cases rX:ρ' x<;>rw[rX] at ak
   all_goals cases ak
   rename_i ad af ay bD cD;exact bY.ret ao ⟨_,rfl,ha▸.func _ _ _ _ ad af bD ay cD⟩
  ·rename_i t u ha
   cases ad;rw[ha] at ak;cases rX:ρ' x<;>rw[rX] at ak
   all_goals cases ak
   rename_i h;exact bY.ret ao ⟨_,rfl,ha▸.iface _ h⟩
  ·cases ad
 case binOp op t x y U5=>
  split at h
  ·rename_i v aC
   cases h;cases hp:plain (ρ x) with
   |false=>simp only [hp,Bool.false_and,ek] at aC;cases aC
   |true=>
    cases aZ:plain (ρ y) with
    |false=>simp only [aZ,Bool.and_false,ek] at aC;cases aC
    |true=>
     simp only [hp,aZ,Bool.and_true,bx] at aC;rw[aD.kU _ hp (cU x),aD.kU _ aZ (cU y)];exact fM (C' ao aC)
  ·obtain⟨v,ad,rfl,rfl⟩:=hval h
   exact fM (adN ao (cU x) (cU y) ad)
 case unOp op t x=>
  cases hp:plain (ρ x) with
  |false=>rw[hp] at h;cases h
  |true=>
   rw[hp,bx] at h;obtain⟨v,ad,rfl,rfl⟩:=hval h;rw[aD.kU _ hp (cU x)];exact fM (C' ao ad)
 case convert o_ dst x=>
  obtain⟨v,ad,rfl⟩:=wP h;exact fM (aek ao (cU x) ad)
 case makeInterface t x=>
  obtain⟨v,ad,rfl,rfl⟩:=hval h;exact fM (adO ao (cU x) ad)
 case makeFunc fn first C_=>
  cases bq:U2 fn with
  |true=>rw[bq] at h;cases h
  |false=>
   rw[bq] at h;cases h;have cJ:=hS.map (φ:=φ) (l:=first) (ρ:=ρ) (ρ':=ρ') λx _=>cU x
   have dk:=hS.map (φ:=φ) (l:=C_) (ρ:=ρ) (ρ':=ρ') λx _=>cU x
   refine bY.ret ao ⟨_,rfl,.func _ _ _ _ (λl hl=>by subst hl;cases bq) (by simp) (by simp) (λi ag=> ?_) (λi ag=> ?_)⟩
   ·have:=cJ.2 i (by simpa using ag)
    simpa [fb] using this
   ·have:=dk.2 i (by simpa using ag)
    simpa [fb] using this
 case makeSlice t l c=>
  cases hp:plain (ρ l) with
  |false=>simp only [hp,Bool.false_and,ek] at h;cases h
  |true=>
   cases aZ:plain (ρ c) with
   |false=>simp only [aZ,Bool.and_false,ek] at h;cases h
   |true=>
    simp only [hp,aZ,Bool.and_true,bx] at h;obtain⟨v,ad,rfl⟩:=wP h;rw[aD.kU _ hp (cU l),aD.kU _ aZ (cU c)];exact fM (adH ao ad)
 case slice t x fp ag eR=>
  cases hp:(x2 ρ fp&&(x2 ρ ag&&x2 ρ eR)) with
  |false=>rw[hp] at h;cases h
  |true=>
   rw[hp,bx] at h;simp only [cV] at hp;obtain⟨v,ad,rfl,rfl⟩:=hval h;rw[I6 cU hp.1,I6 cU hp.2.1,I6 cU hp.2.2];split at ad
   ·rename_i u hu
    cases ad;exact fM (adD ao (cU x) hu)
   ·cases aZ:plain (ρ x) with
    |false=>rw[aZ] at ad;cases ad
    |true=>
     rw[aZ,bx] at ad;rw[aD.kU _ aZ (cU x)];exact fM (C' ao ad)
 case fieldAddr s x f=>
  obtain⟨v,ad,rfl,rfl⟩:=hval h;exact fM (adf ao (cU x) ad)
 case field t x f=>
  obtain⟨v,ad,rfl,rfl⟩:=hval h;exact fM (adh ao (cU x) ad)
 case indexAddr t x eD=>
  cases hp:plain (ρ eD) with
  |false=>rw[hp] at h;cases h
  |true=>
   rw[hp,bx] at h;obtain⟨v,ad,rfl,rfl⟩:=hval h;rw[aD.kU _ hp (cU eD)];exact fM (adg ao (cU x) ad)
 case index t x eD=>
  cases hp:plain (ρ eD) with
  |false=>rw[hp] at h;cases h
  |true=>
   rw[hp,bx] at h;obtain⟨v,ad,rfl,rfl⟩:=hval h;rw[aD.kU _ hp (cU eD)];split at ad
   ·rename_i u hu
    cases ad;exact fM (adi ao (cU x) hu)
   ·cases aZ:plain (ρ x) with
    |false=>rw[aZ] at ad;cases ad
    |true=>
     rw[aZ,bx] at ad;rw[aD.kU _ aZ (cU x)];exact fM (C' ao ad)
 case typeAssert x UH asserted ok=>
  obtain⟨v,ad,rfl,rfl⟩:=hval h;exact fM (adP ao (cU x) ad)
 case extract t eD=>
  obtain⟨v,ad,rfl,rfl⟩:=hval h;exact fM (adj ao (cU t) ad)
 case call c=>exact aei ao cU h
 case makeMap t r=>
  cases hp:x2 ρ r with
  |false=>rw[hp] at h;cases h
  |true=>
   rw[hp,bx] at h;obtain⟨v,ad,rfl⟩:=wP h;rw[I6 cU hp];exact fM (ad5 ao ad)
 case lookup t x eD ok=>
  obtain⟨v,ad,rfl,rfl⟩:=hval h;have hp:plain (ρ eD)=true:=by
   unfold I0 at ad;cases hp:plain (ρ eD) with
   |true=>rfl
   |false=>rw[hp] at ad;cases ad
  rw[aD.kU _ hp (cU eD)];exact fM (ad6 ao (cU x) ad)
 case mapUpdate t m k x=>
  split at h
  ·rename_i bB ad
   cases h;have hp:plain (ρ k)=true:=by
    unfold Fo at ad;cases hp:plain (ρ k) with
    |true=>rfl
    |false=>rw[hp] at ad;cases ad
   rw[aD.kU _ hp (cU k)];exact bY.map (UW ao (cU m) (cU x) ad) λ_ _ _=>rfl
  ·cases h
 case insert t m k x=>
  split at h
  ·rename_i bB ad
   cases h;have hp:plain (ρ k)=true:=by
    unfold Fo at ad;cases hp:plain (ρ k) with
    |true=>rfl
    |false=>rw[hp] at ad;cases ad
   rw[aD.kU _ hp (cU k)];exact bY.map (UW ao (cU m) (cU x) ad) λ_ _ _=>rfl
  ·cases h
 case mapEntry t m k=>
  obtain⟨v,ad,rfl⟩:=wP h;have hp:plain (ρ k)=true:=by
   unfold I1 at ad;cases hp:plain (ρ k) with
   |true=>rfl
   |false=>rw[hp] at ad;cases ad
  rw[aD.kU _ hp (cU k)];exact fM (ad8 ao (cU m) ad)
 case entryStore t m st x=>
  split at h
  ·rename_i bB ad
   cases h;have hp:plain (ρ st)=true:=by
    unfold I2 at ad;split at ad
    ·split at ad
     ·cases hp:plain (ρ st) with
      |true=>rfl
      |false=>rw[hp] at ad;cases ad
     ·cases ad
    ·cases ad
   rw[aD.kU _ hp (cU st)];exact bY.map (ad_ ao (cU m) (cU x) ad) λ_ _ _=>rfl
  ·cases h
 case range t x=>
  obtain⟨v,ad,rfl⟩:=wP h;exact fM (aeb ao (cU x) ad)
 case next it U3=>
  obtain⟨v,ad,rfl⟩:=wP h;exact fM (aed ao (cU it) ad)
end
end AE
namespace AE
mutual
def fN:J->J->Bool
 | .bool a,.bool b=>a==b
 | .int k n,.int k' fS=>decide (k=k')&&decide (n=fS)
 | .complex .f64 a b,.complex .f64 aW b'=>Nat.beq a aW&&Nat.beq b b'
 | .string s,.string t=>s.data.toList==t.data.toList
 | .pointer none,.pointer none=>true
 | .slice none l c,.slice none l' c'=>Nat.beq l l'&&Nat.beq c c'
 | .map none,.map none=>true
 | .nilFunc,.nilFunc=>true
 | .nilIface,.nilIface=>true
 | .func (.func f) ⟨a⟩ ⟨b⟩,.func (.func g) ⟨aW⟩ ⟨b'⟩=>Nat.beq f g&&(n9 a aW&&n9 b b')
 | .iface t v,.iface da aB=>Nat.beq t da&&fN v aB
 | .agg ⟨l⟩,.agg ⟨l'⟩=>n9 l l'
 | .tuple ⟨l⟩,.tuple ⟨l'⟩=>n9 l l'
 |_,_=>false
def n9:List J->List J->Bool
 |[],[]=>true
 |v::r,aB::dX=>fN v aB&&n9 r dX
 |_,_=>false
end
mutual
theorem gW:∀(a b:J),fN a b=true->a=b:=by
 intro a b h;unfold fN at h;split at h
 ·rw[eq_of_beq h]
 ·simp only [cV,decide_eq_true_eq] at h;rw[h.1,h.2]
 ·simp only [cV] at h;rw[cA h.1,cA h.2]
 ·rename_i s t
  have:=eq_of_beq h;obtain⟨⟨s⟩⟩:=s;obtain⟨⟨t⟩⟩:=t;simp only at this;rw[this]
 ·rfl
 ·simp only [cV] at h;rw[cA h.1,cA h.2]
 ·rfl
 ·rfl
 ·rfl
 ·simp only [cV] at h;rw[cA h.1,q3 _ _ h.2.1,q3 _ _ h.2.2]
 ·rename_i t v da aB
  simp only [cV] at h;rw[cA h.1,gW v aB h.2]
 ·rename_i l l'
  rw[q3 l l' h]
 ·rename_i l l'
  rw[q3 l l' h]
 ·cases h
theorem q3:∀(a b:List J),n9 a b=true->a=b
 |[],[],_=>rfl
 |v::r,aB::dX,h=>by
  unfold n9 at h;simp only [cV] at h;rw[gW v aB h.1,q3 r dX h.2]
 |[],_::_,h=>by simp [n9] at h
 |_::_,[],h=>by simp [n9] at h
end
mutual
def aL:J->Bool
 | .complex .f64 _ b=>Nat.beq b 0
 | .iface _ v=>aL v
 | .agg ⟨l⟩=>dP l
 | .tuple ⟨l⟩=>dP l
 | .bool _| .int .. | .float .. | .string _| .pointer none| .map none| .chan none| .nilFunc| .nilIface=>true
 | .slice none l c=>l==0&&c==0
 | .func (.func _) ⟨a⟩ ⟨b⟩=>dP a&&dP b
 |_=>false
def dP:List J->Bool
 |[]=>true
 |v::r=>aL v&&dP r
end
variable [a7]
mutual
def aI:J->J
 | .complex .f64 k b=>bif Nat.beq b 0 then a7.σ k else .complex .f64 k b
 | .iface t v=> .iface t (aI v)
 | .agg ⟨l⟩=> .agg ⟨ew l⟩
 | .tuple ⟨l⟩=> .tuple ⟨ew l⟩
 | .func (.func f) ⟨a⟩ ⟨b⟩=> .func (.func f) ⟨ew a⟩ ⟨ew b⟩
 |v=>v
def ew:List J->List J
 |[]=>[]
 |v::r=>aI v::ew r
end
theorem I7 (k:Nat):aI (al k)=a7.σ k:=by simp [al,aI]
theorem x3:∀l:List J,(ew l).length=l.length
 |[]=>rfl
 |v::r=>by simp [ew,x3 r]
theorem Na:∀l:List J,ew l=l.map aI
 |[]=>rfl
 |v::r=>by simp [ew,Na r]
mutual
theorem aD.vg (φ:bV):∀v:J,aL v=true->aD φ v (aI v):=by
 intro v h;unfold aL at h;split at h
 ·rename_i k b
  have:b=0:=cA h;subst this;have:=aD.sym (φ:=φ) k;simpa [aI,al] using this
 ·rename_i t v
  unfold aI;exact .iface t (aD.vg φ v h)
 ·rename_i l
  unfold aI;exact .agg _ _ (by simp [x3]) λi ag=>by simpa using aD.A' φ l h i (by simpa using ag)
 ·rename_i l
  unfold aI;exact .tuple _ _ (by simp [x3]) λi ag=>by simpa using aD.A' φ l h i (by simpa using ag)
 all_goals (first|(cases h;done)|skip)
 ·rename_i b;simpa [aI] using aD.kb φ (.bool b) rfl
 ·rename_i k n;simpa [aI] using aD.kb φ (.int k n) rfl
 ·rename_i k n;simpa [aI] using aD.kb φ (.float k n) rfl
 ·rename_i s;simpa [aI] using aD.kb φ (.string s) rfl
 ·simpa [aI] using aD.kb φ (.pointer none) rfl
 ·simpa [aI] using aD.kb φ (.map none) rfl
 ·simpa [aI] using aD.kb φ (.chan none) rfl
 ·simpa [aI] using aD.kb φ .nilFunc rfl
 ·simpa [aI] using aD.kb φ .nilIface rfl
 ·rename_i l c;simpa [aI] using aD.kb φ (.slice none l c) h
 ·rename_i f a b
  simp only [cV] at h;unfold aI;exact .func _ _ _ _ (λl hl=>by cases hl) (by simp [x3]) (by simp [x3]) (λi ag=>by simpa using aD.A' φ a h.1 i (by simpa using ag)) (λi ag=>by simpa using aD.A' φ b h.2 i (by simpa using ag))
theorem aD.A' (φ:bV):∀l:List J,dP l=true->∀i,i<l.length->aD φ (l.getD i Go.undef) ((ew l).getD i Go.undef)
 |[],_,i,ag=>absurd ag (by simp)
 |v::r,h,0,_=>by
   have:=aD.vg φ v (by simp [dP] at h;exact h.1);simpa [ew] using this
 |v::r,h,i+1,ag=>by
   have:=aD.A' φ r (by simp [dP] at h;exact h.2) i (by simpa using ag);simpa [ew] using this
end
theorem aD.ael {φ:bV} {k:Nat} {aB:J} (h:aD φ (al k) aB):aB=a7.σ k:=by
 generalize aw:al k=s at h;cases h<;>simp [al,AE.cp] at aw
 subst aw;rfl
mutual
theorem aD.ig {φ:bV}:∀(v:J) {aB:J},aL v=true->aD φ v aB->aB=aI v:=by
 intro v aB hp h;unfold aL at hp;split at hp
 ·rename_i k b
  have:b=0:=cA hp;subst this;rw[aD.ael (k:=k) h];simp [aI]
 ·rename_i t v
  cases h with
  |iface t h=>unfold aI;rw[aD.ig v hp h]
 ·rename_i l
  cases h with
  |agg cs cs' ad af=>
   obtain⟨l'⟩:=cs';unfold aI;rw[aD.x4 l l' hp (by simpa using ad) (λi ag=>by simpa using af i (by simpa using ag))]
 ·rename_i l
  cases h with
  |tuple cs cs' ad af=>
   obtain⟨l'⟩:=cs';unfold aI;rw[aD.x4 l l' hp (by simpa using ad) (λi ag=>by simpa using af i (by simpa using ag))]
 all_goals (first|(cases hp;done)|skip)
 all_goals first|(unfold aI;refine aD.kU _ ?_ h;first|exact hp|rfl;done)|skip
 rename_i f a b;simp only [cV] at hp;cases h with
 |func fs kn cs cs' av ad af aO aq=>
  obtain⟨aW⟩:=kn;obtain⟨b'⟩:=cs';unfold aI;rw[aD.x4 a aW hp.1 (by simpa using ad) (λi ag=>by simpa using aO i (by simpa using ag)),aD.x4 b b' hp.2 (by simpa using af) (λi ag=>by simpa using aq i (by simpa using ag))]
theorem aD.x4 {φ:bV}:∀(l l':List J),dP l=true->l.length=l'.length->(∀i,i<l.length->aD φ (l.getD i Go.undef) (l'.getD i Go.undef))->l'=ew l
 |[],[],_,_,_=>rfl
 |[],_::_,_,h,_=>by simp at h
 |_::_,[],_,h,_=>by simp at h
 |v::r,aB::dX,hp,hl,h=>by
   have ad:=aD.ig v (by simp [dP] at hp;exact hp.1) (by simpa using h 0 (by simp));have af:=aD.x4 r dX (by simp [dP] at hp;exact hp.2) (by simpa using hl) (λi ag=>by simpa using h (i+1) (by simpa using ag));rw[ad,af];rfl
end
inductive fW where
 |bin (op:BinOp) (t:aJ) (x y:J)
 |un (op:UnOp) (x:J)
 |conv (s d:aJ) (x:J)
 |lV (t:aJ) (x:J) (fp ag eR:Option J)
 |dC (t:aJ) (x i:J)
 |eD (t:aJ) (x i:J)
 |bF (t:aJ) (a:J)
 |cG (t:aJ) (a:J) (f:Nat)
 |dQ (x:J)
 |len (cW:Array aJ) (ty:aJ) (x:J)
 |eR (cW:Array aJ) (ty:aJ) (x y:J)
 |lz (cW:Array aJ) (ty:aJ) (x y:J)
 |ez (x:J)
 |kX (t:aJ) (x i:J) (ok:Bool)
def Fu:Option J->Option J->Bool
 |none,none=>true
 |some a,some b=>fN a b
 |_,_=>false
omit [a7] in
theorem Nb {a b:Option J} (h:Fu a b=true):a=b:=by
 unfold Fu at h;split at h
 ·rfl
 ·rw[gW _ _ h]
 ·cases h
def Da:fW->fW->Bool
 | .bin op t x y,.bin Nc da x' fD=>decide (op=Nc)&&(Nat.beq t da&&(fN x x'&&fN y fD))
 | .un op x,.un Nc x'=>decide (op=Nc)&&fN x x'
 | .conv s d x,.conv fu mI x'=>Nat.beq s fu&&(Nat.beq d mI&&fN x x')
 | .lV t x fp ag eR,.lV da x' aem lv aen=>Nat.beq t da&&(fN x x'&&(Fu fp aem&&(Fu ag lv&&Fu eR aen)))
 | .dC t x i,.dC da x' rT=>Nat.beq t da&&(fN x x'&&fN i rT)
 | .eD t x i,.eD da x' rT=>Nat.beq t da&&(fN x x'&&fN i rT)
 | .bF t a,.bF da aW=>Nat.beq t da&&fN a aW
 | .cG t a f,.cG da aW hv=>Nat.beq t da&&(fN a aW&&Nat.beq f hv)
 | .dQ x,.dQ x'=>fN x x'
 | .len cW ty x,.len Fv ty' x'=>decide (cW=Fv)&&(Nat.beq ty ty'&&fN x x')
 | .eR cW ty x y,.eR Fv ty' x' fD=>decide (cW=Fv)&&(Nat.beq ty ty'&&(fN x x'&&fN y fD))
 | .lz cW ty x y,.lz Fv ty' x' fD=>decide (cW=Fv)&&(Nat.beq ty ty'&&(fN x x'&&fN y fD))
 | .ez x,.ez x'=>fN x x'
 | .kX t x i ok,.kX da x' rT aeo=>Nat.beq t da&&(fN x x'&&(fN i rT&&decide (ok=aeo)))
 |_,_=>false
omit [a7] in
theorem Nd {a b:fW} (h:Da a b=true):a=b:=by
 unfold Da at h;split at h<;>try simp only [cV,decide_eq_true_eq] at h
 case h_1=>rw[h.1,cA h.2.1,gW _ _ h.2.2.1,gW _ _ h.2.2.2]
 case h_2=>rw[h.1,gW _ _ h.2]
 case h_3=>rw[cA h.1,cA h.2.1,gW _ _ h.2.2]
 case h_4=>rw[cA h.1,gW _ _ h.2.1,Nb h.2.2.1,Nb h.2.2.2.1,Nb h.2.2.2.2]
 case h_5=>rw[cA h.1,gW _ _ h.2.1,gW _ _ h.2.2]
 case h_6=>rw[cA h.1,gW _ _ h.2.1,gW _ _ h.2.2]
 case h_7=>rw[cA h.1,gW _ _ h.2]
 case h_8=>rw[cA h.1,gW _ _ h.2.1,cA h.2.2]
 case h_9=>rw[gW _ _ h]
 case h_10=>rw[h.1,cA h.2.1,gW _ _ h.2.2]
 case h_11=>rw[h.1,cA h.2.1,gW _ _ h.2.2.1,gW _ _ h.2.2.2]
 case h_12=>rw[h.1,cA h.2.1,gW _ _ h.2.2.1,gW _ _ h.2.2.2]
 case h_13=>rw[gW _ _ h]
 case h_14=>rw[cA h.1,gW _ _ h.2.1,gW _ _ h.2.2.1,h.2.2.2]
 case h_15=>cases h
def qq (bp:Operand->J) (o:Oper):Option fW:=
 match o.op with
 | .binOp op t x y _=>some (.bin op t (bp x) (bp y))
 | .unOp op _ x=>some (.un op (bp x))
 | .convert s d x=>some (.conv s d (bp x))
 | .slice t x fp ag eR=>some (.lV t (bp x) (fp.map bp) (ag.map bp) (eR.map bp))
 | .indexAddr t x i=>some (.dC t (bp x) (bp i))
 | .index t x i=>some (.eD t (bp x) (bp i))
 | .load t a=>some (.bF t (bp a))
 | .fieldAddr t a f=>some (.cG t (bp a) f)
 | .nilCheck x=>some (.dQ (bp x))
 | .call c=>match c.callee with
   | .builtin .len=>match c.args with
     |⟨[x]⟩=>some (.len c.argTypes o.type (bp x))
     |_=>none
   | .builtin .max=>match c.args with
     |⟨[x,y]⟩=>some (.eR c.argTypes o.type (bp x) (bp y))
     |_=>none
   | .builtin .min=>match c.args with
     |⟨[x,y]⟩=>some (.lz c.argTypes o.type (bp x) (bp y))
     |_=>none
   |_=>none
 | .lookup t x i ok=>some (.kX t (bp x) (bp i) ok)
 |_=>none
def fF (dF dG:Operand):fW->Sem Next
 | .bin op t x y=>do pure (.value (<-(do eqGuard op t dF dG x y;binOp op t x y)))
 | .un op x=>do pure (.value (<-Op.unary op x))
 | .conv s d x=>do pure (.value (<-convert s d x))
 | .lV t x fp ag eR=>do pure (.value (<-Instr.sliceAt t x fp ag eR))
 | .dC t x i=>do pure (.value (<-Instr.indexAt t x i))
 | .eD t x i=>do pure (.value (<-Instr.index t x i))
 | .bF t a=>do pure (.value (<-Instr.loadAt t a))
 | .cG t a f=>do pure (.value (<-Instr.fieldAt t a f))
 | .dQ x=>execOp (λ_=>x) ⟨none,.nilCheck (.const undef),0,"",#[],none⟩
 | .len cW ty x=>do pure (.value (<-Builtin.len_ cW ty #[x]))
 | .eR cW ty x y=>do pure (.value (<-Builtin.max_ cW ty #[x,y]))
 | .lz cW ty x y=>do pure (.value (<-Builtin.min_ cW ty #[x,y]))
 | .ez x=>pure (.value x)
 | .kX t x i ok=>do pure (.value (<-Instr.lookup t x i ok))
def x5:fW->fW
 | .bin op t x y=> .bin op t (aI x) (aI y)
 | .un op x=> .un op (aI x)
 | .conv s d x=> .conv s d (aI x)
 | .lV t x fp ag eR=> .lV t (aI x) (fp.map aI) (ag.map aI) (eR.map aI)
 | .dC t x i=> .dC t (aI x) (aI i)
 | .eD t x i=> .eD t (aI x) (aI i)
 | .bF t a=> .bF t (aI a)
 | .cG t a f=> .cG t (aI a) f
 | .dQ x=> .dQ (aI x)
 | .len cW ty x=> .len cW ty (aI x)
 | .eR cW ty x y=> .eR cW ty (aI x) (aI y)
 | .lz cW ty x y=> .lz cW ty (aI x) (aI y)
 | .ez x=> .ez (aI x)
 | .kX t x i ok=> .kX t (aI x) (aI i) ok
def plainO:Option J->Bool
 |none=>true
 |some v=>aL v
def np:fW->Bool
 | .bin _ _ x y| .dC _ x y| .eD _ x y| .eR _ _ x y| .lz _ _ x y| .kX _ x y _=>aL x&&aL y
 | .un _ x| .ez x| .conv _ _ x| .bF _ x| .cG _ x _| .dQ x| .len _ _ x=>aL x
 | .lV _ x fp ag eR=>aL x&&(plainO fp&&(plainO ag&&plainO eR))
def Db:fW->Bool
 | .bin .. | .un .. | .ez .. | .dC .. | .cG .. | .len .. | .eR .. | .lz .. | .dQ _=>true
 |_=>false
def n' (w:ax):Prop:=∀i o,a7.df i=some o->w.heap[i]? =some o
def aT (P:aR) (p:fW×J):Prop:=
 np p.1=true/\aL p.2=true/\
 if Db p.1 then ∀dF dG w,(fF dF dG (x5 p.1)).run P w= .ok (.value (aI p.2)) w
 else ∀dF dG w,n' w->(fF dF dG (x5 p.1)).run P w= .ok (.value (aI p.2)) w
class dS (P:aR) where
 ops:List (fW×J)
def q4 (P:aR) [dS P]:Prop:=∀p∈dS.ops P,aT P p
def find (f:fW):List (fW×J)->Option J
 |[]=>none
 |p::r=>bif Da f p.1 then some p.2 else find f r
omit [a7] in
theorem I8 {f:fW} {v:J}:∀{l:List (fW×J)},find f l=some v->(f,v)∈l
 |[],h=>by cases h
 |p::r,h=>by
  unfold find at h;cases he:Da f p.1 with
  |true=>
   rw[he,bx,cE] at h;have:=Nd he;subst this;subst h;exact List.mem_cons_self
  |false=>
   rw[he,ek] at h;exact List.mem_cons_of_mem _ (I8 h)
def ui (P:aR) [dS P] (bp:Operand->J) (o:Oper):Option J:=
 match dS.ops P with
 |[]=>none
 |l=>match qq bp o with
  |some f=>find f l
  |none=>none
def A_ (P:aR) [dS P] (v:J):Option Bool:=
 match dS.ops P with
 |[]=>none
 |l=>match find (.ez v) l with
  |some (.bool b)=>some b
  |_=>none
def aep:fW->Bool
 | .ez (.bool true)=>true
 |_=>false
def aeq (P:aR) [dS P]:Bool:=
 match dS.ops P with
 |[]=>false
 |p::_=>aep p.1
def I9 (P:aR) [dS P] (bp:Operand->J) (o:Oper):Option J:=
 match dS.ops P with
 |[]=>none
 |_=>match o.op with
  | .pick c x y=>match A_ P (bp c) with
    |some t=>some (bif t then bp x else bp y)
    |none=>none
  |_=>none
def Nf (t:aJ):fW->Bool
 | .ez (.int .i64 (.ofNat m))=>Nat.beq m t
 |_=>false
def Ng (P:aR) [dS P] (o:Oper):Bool:=match dS.ops P with
 |[]=>false
 |l=>match o.op with
  | .makeMap .. =>aeq P
  | .alloc t=>l.any λp=>Nf t p.1
  | .box t _=>l.any λp=>Nf t p.1
  | .buildSlice t n _=>bif Nat.beq n 0 then false else l.any λp=>Nf t p.1
  |_=>false
def Dc (P:aR) [Lib P] [dS P] (bp:Operand->J) (A:a') (o:Oper):Option (sL×a'):=
 match ui P bp o with
 |some v=>some (.value v,A)
 |none=>match I9 P bp o with
  |some v=>some (.value v,A)
  |none=>bif Ng P o then none else Ft P bp A o
section
variable {P:aR} {φ:bV} {A a_:a'} {w:ax}
theorem U6 {ρ ρ':Operand->J} {o:Oper} {f:fW} (cU:∀x,aD φ (ρ x) (ρ' x)) (h:qq ρ o=some f) (hp:np f=true):qq ρ' o=some (x5 f):=by
 have e:∀x,aL (ρ x)=true->ρ' x=aI (ρ x):=λx ak=>aD.ig _ ak (cU x)
 have Nh:∀x:Option Operand,plainO (x.map ρ)=true->x.map ρ'=(x.map ρ).map aI:=λx ak=>by
  cases x with
  |none=>rfl
  |some x=>simp only [Option.map_some];rw[e x ak]
 unfold qq at h ⊢;split at h<;>try (cases h;done)
 all_goals try (simp only [cE] at h;subst h;simp only [np,cV] at hp)
 ·rw[e _ hp.1,e _ hp.2];rfl
 ·rw[e _ hp];rfl
 ·rw[e _ hp];rfl
 ·rw[e _ hp.1,Nh _ hp.2.1,Nh _ hp.2.2.1,Nh _ hp.2.2.2];rfl
 ·rw[e _ hp.1,e _ hp.2];rfl
 ·rw[e _ hp.1,e _ hp.2];rfl
 ·rw[e _ hp];rfl
 ·rw[e _ hp];rfl
 ·rw[e _ hp];rfl
 ·split at h<;>try (cases h;done)
  all_goals (split at h<;>try (cases h;done))
  all_goals (simp only [cE] at h;subst h;simp only [np,cV] at hp)
  ·rw[e _ hp];rfl
  ·rw[e _ hp.1,e _ hp.2];rfl
  ·rw[e _ hp.1,e _ hp.2];rfl
 ·rw[e _ hp.1,e _ hp.2];rfl
omit [a7] in
theorem U7 {ρ:Operand->J} {o:Oper} {f:fW} (h:qq ρ o=some f):∃dF dG,∀P w,(execOp ρ o).run P w=(fF dF dG f).run P w:=by
 obtain⟨dst,op,type,pos,after,guard⟩:=o;unfold qq at h;simp only at h;split at h<;>try (cases h;done)
 case h_1 op t x y U5=>cases h;exact⟨x,y,λ_ _=>rfl⟩
 case h_10 c=>
  split at h<;>try (cases h;done)
  all_goals (split at h<;>try (cases h;done))
  all_goals (cases h;refine⟨.const undef,.const undef,λP w=> ?_⟩;unfold execOp resolve)
  ·rename_i _ ad _ _ af;simp only [ad,af,List.map_toArray,List.map_cons,List.map_nil];rfl
  ·rename_i _ ad _ _ _ af;simp only [ad,af,List.map_toArray,List.map_cons,List.map_nil];rfl
  ·rename_i _ ad _ _ _ af;simp only [ad,af,List.map_toArray,List.map_cons,List.map_nil];rfl
 all_goals (cases h;exact⟨.const undef,.const undef,λ_ _=>rfl⟩)
theorem aer [dS P] (c0:q4 P) (ao:bU φ A w) {ρ ρ':Operand->J} {o:Oper} {v:J} (cU:∀x,aD φ (ρ x) (ρ' x)) (h:ui P ρ o=some v):bY (wO (.value v)) P φ A w (execOp ρ' o) A:=by
 unfold ui at h;split at h
 ·cases h
 split at h
 ·rename_i f aO
  have hs:=c0 _ (I8 h);obtain⟨ad,af,ay⟩:=hs;simp only at ad af ay;obtain⟨dF,dG,he⟩:=U7 (U6 cU aO ad);have e8:(fF dF dG (x5 f)).run P w= .ok (.value (aI v)) w:=by
   split at ay
   ·exact ay dF dG w
   ·exact ay dF dG w λi o ag=>(ao.df i o ag).1
  exact⟨φ,w,_,(he P w).trans e8,⟨_,rfl,aD.vg φ v af⟩,cw.refl ao⟩
 ·cases h
theorem I' [dS P] (c0:q4 P) (w:ax) {v aB:J} {b:Bool} (h:A_ P v=some b) (aC:aD φ v aB):aB= .bool b:=by
 unfold A_ at h;split at h
 ·cases h
 split at h
 ·rename_i b' ae
  cases h;obtain⟨ad,af,ay⟩:=c0 _ (I8 ae);have hp:aL v=true:=ad;have bD:=ay (.const undef) (.const undef) w;rw[aD.ig v hp aC];have cD:(Result.ok (Next.value (aI v)) w:Result Next)= .ok (.value (aI (.bool b))) w:=bD;simp only [Result.ok.injEq,Next.value.injEq,and_true] at cD;exact cD
 ·cases h
theorem aes [dS P] (c0:q4 P) (ao:bU φ A w) {ρ ρ':Operand->J} {o:Oper} {v:J} (cU:∀x,aD φ (ρ x) (ρ' x)) (h:I9 P ρ o=some v):bY (wO (.value v)) P φ A w (execOp ρ' o) A:=by
 unfold I9 at h;split at h
 ·cases h
 split at h
 ·rename_i c x y cm
  split at h
  ·rename_i t aK
   cases h;have aq:=I' c0 w aK (cU c);refine⟨φ,w,.value (bif t then ρ' x else ρ' y),?_,?_,cw.refl ao⟩
   ·unfold execOp
    rw[cm];simp only [aq];cases t<;>rfl
   ·cases t
    ·exact⟨_,rfl,cU y⟩
    ·exact⟨_,rfl,cU x⟩
  ·cases h
 ·cases h
theorem Dd [Lib P] [dS P] (c0:q4 P) (ao:bU φ A w) {ρ ρ':Operand->J} {o:Oper} {n:sL} (cU:∀x,aD φ (ρ x) (ρ' x)) (h:Dc P ρ A o=some (n,a_)):bY (wO n) P φ A w (execOp ρ' o) a_:=by
 unfold Dc at h;split at h
 ·rename_i v aC
  cases h;exact aer c0 ao cU aC
 split at h
 ·rename_i v aC
  cases h;exact aes c0 ao cU aC
 ·cases ae:Ng P o with
  |true=>rw[ae] at h;cases h
  |false=>rw[ae,ek] at h;exact U4 ao cU h
theorem De [dS P] (c0:q4 P) {ρ ρ':Operand->J} {o:Oper} {v:J} (cU:∀x,aD φ (ρ x) (ρ' x)) (h:ui P ρ o=some v) (aj:∀f,qq ρ o=some f->Db f=true):∃aB,(∀w,(execOp ρ' o).run P w= .ok (.value aB) w)/\aD φ v aB:=by
 unfold ui at h;split at h
 ·cases h
 split at h
 ·rename_i f aO
  obtain⟨ad,af,ay⟩:=c0 _ (I8 h);simp only at ad af ay;obtain⟨dF,dG,he⟩:=U7 (U6 cU aO ad);rw[aQ (aj f aO)] at ay;exact⟨_,λw=>(he P w).trans (ay dF dG w),aD.vg φ v af⟩
 ·cases h
end
end AE
namespace AE
variable [a7]
abbrev aG:=bR J
abbrev aeu:=FuncId->List J->a'->Option (J×a')
def slot (sl:aG) (t:Nat):J:=
 match sl.get t with
 |some v=>v
 |none=>cp
def dB (gl:bR Nat) (sl:aG):Operand->J
 | .tmp t=>slot sl t
 | .const v=>bif plain v then v else cp
 | .global g=>match gl.get g with
   |some b=> .pointer (some ⟨b,0,none⟩)
   |none=>al (eQ+g)
 | .func f=> .func (.func f) ⟨[]⟩ ⟨[]⟩
def mK (gl:bR Nat) (φ:bV):Prop:=∀g b,gl.get g=some b->∃e,φ b=some e/\e.bk=g/\e.sh=0
structure fw (N:Nat) (ds:List Deferred) (φ:bV) (sl:aG) (a:Act):Prop where
 size:a.tmps.size=N
 defers:a.defers=ds
 get:∀t v,sl.get t=some v->aD φ v (a.tmps.getD t undef)
theorem fw.mono {N:Nat} {ds:List Deferred} {φ cZ:bV} {sl:aG} {a:Act} (h:fw N ds φ sl a) (he:∀b e,φ b=some e->cZ b=some e):fw N ds cZ sl a:=
 ⟨h.size,h.defers,λt v aC=>(h.get t v aC).mono he⟩
omit [a7] in
theorem mK.mono {gl:bR Nat} {φ cZ:bV} (h:mK gl φ) (he:∀b e,φ b=some e->cZ b=some e):mK gl cZ:=λg b aA=>by
 obtain⟨e,ad,af⟩:=h g b aA;exact⟨e,he _ _ ad,af⟩
theorem I_ {φ:bV} {sl:aG} {aB:J} {t:Nat} (h:∀v,sl.get t=some v->aD φ v aB):aD φ (slot sl t) aB:=by
 unfold slot;cases aA:sl.get t with
 |none=>exact .cp _
 |some v=>exact h v aA
theorem gq {gl:bR Nat} {φ:bV} {sl:aG} {a:Act} (aA:mK gl φ) (aw:∀t v,sl.get t=some v->aD φ v (a.tmps.getD t undef)) (x:Operand):aD φ (dB gl sl x) (a.eval x):=by
 cases x with
 |tmp t=>exact I_ (aw t)
 |const v=>
  simp only [dB];cases hp:plain v with
  |true=>exact aD.kb φ v hp
  |false=>exact .cp _
 |global g=>
  simp only [dB];cases ae:gl.get g with
  |none=>
   have h:=aD.sym (φ:=φ) (eQ+g);rw[a7.ac2 g] at h;exact h
  |some b=>
   obtain⟨e,ad,af,ay⟩:=aA g b ae;have:=aD.ptr (o:=0) ad;rw[af,ay] at this;exact this
 |func f=>exact .func _ _ _ _ (λl h=>by cases h) U U (λi h=>absurd h (by simp)) (λi h=>absurd h (by simp))
def gX (N:Nat) (sl:aG) (dst:Option Tmp) (v:J):Option aG:=
 match dst with
 |none=>some sl
 |some d=>bif Nat.blt d N then bR.set v depth sl d else none
theorem fw.put {N:Nat} {ds:List Deferred} {φ:bV} {sl dH:aG} {a:Act} {dst:Option Tmp} {v aB:J} (h:fw N ds φ sl a) (aC:aD φ v aB) (hp:gX N sl dst v=some dH):fw N ds φ dH (a.put dst aB):=by
 unfold gX at hp;cases dst with
 |none=>cases hp;exact h
 |some d=>
  simp only at hp;cases ae:Nat.blt d N with
  |false=>rw[ae] at hp;cases hp
  |true=>
   rw[ae,bx] at hp;have b8:d<N:=Nat.blt_eq.mp ae;refine⟨by simp [Act.put,h.size],h.defers,λt u hu=> ?_⟩;rw[bR.nY _ _ _ _ _ t hp] at hu;have cl:=h.size;by_cases aK:t=d
   ·subst aK
    rw[aQ rfl] at hu;cases hu;simp only [Act.put,fb];rw[Array.getElem?_setIfInBounds_self_of_lt (Nat.lt_of_lt_of_eq b8 cl.symm)];exact aC
   ·rw[aU aK] at hu
    have:=h.get t u hu;simp only [Act.put,fb] at this ⊢;rw[Array.getElem?_setIfInBounds_ne (Ne.symm aK)];exact this
def q5 (ops:Array Oper) (o:Oper) (sl:aG):Option Bool:=
 match o.guard with
 |none=>some true
 |some (j,want)=>match (ops[j]?).bind (·.dst) with
  |none=>some false
  |some t=>match sl.get t with
   |some (.bool b)=>some (b==want)
   |some (.tuple ⟨[]⟩)=>some false
   |_=>none
theorem n_ {φ:bV} {ops:Array Oper} {o:Oper} {sl:aG} {a:Act} {r:Bool} (aw:∀t v,sl.get t=some v->aD φ v (a.tmps.getD t undef)) (h:q5 ops o sl=some r):Region.wanted o (yielded ops a.tmps)=r:=by
 unfold q5 at h;unfold Region.wanted;split at h
 ·rename_i aA
  cases h;rw[aA]
 ·rename_i j want aA
  rw[aA];simp only;unfold yielded;split at h
  ·rename_i bc
   cases h;rw[bc];simp
  ·rename_i t bc
   rw[bc];simp only [Option.bind_some];split at h
   ·rename_i b ae
    have aC:=aw t _ ae;cases h;rw[fb] at aC;cases aK:a.tmps[t]? with
    |none=>rw[aK] at aC;simp [undef] at aC;cases aC
    |some u=>
     rw[aK] at aC;simp only [Option.getD_some] at aC;cases aC;cases b<;>cases want<;>rfl
   ·rename_i ae
    have aC:=aw t _ ae;cases h;rw[fb] at aC;cases aK:a.tmps[t]? with
    |none=>simp
    |some u=>
     rw[aK] at aC;simp only [Option.getD_some] at aC;cases aC;simp
   ·cases h
def Ni (P:aR) [dS P] (ops:Array Oper) (o:Oper) (sl:aG):Option Bool:=
 match q5 ops o sl with
 |some b=>some b
 |none=>match o.guard with
  |none=>none
  |some (j,want)=>match (ops[j]?).bind (·.dst) with
   |none=>none
   |some t=>match sl.get t with
    |some v=>(A_ P v).map (· ==want)
    |none=>none
theorem U8 {P:aR} [dS P] (c0:q4 P) (w:ax) {φ:bV} {ops:Array Oper} {o:Oper} {sl:aG} {a:Act} {r:Bool} (aw:∀t v,sl.get t=some v->aD φ v (a.tmps.getD t undef)) (h:Ni P ops o sl=some r):Region.wanted o (yielded ops a.tmps)=r:=by
 unfold Ni at h;split at h
 ·rename_i b ae
  cases h;exact n_ aw ae
 ·split at h
  ·cases h
  ·rename_i j want aA
   split at h
   ·cases h
   ·rename_i t bc
    split at h
    ·rename_i v aC
     rw[xO] at h;obtain⟨b,ae,rfl⟩:=h;have dR:=I' c0 w ae (aw t v aC);unfold Region.wanted;rw[aA];simp only;unfold yielded;rw[bc];simp only [Option.bind_some];rw[fb] at dR;cases aK:a.tmps[t]? with
     |none=>rw[aK] at dR;simp [undef] at dR
     |some u=>
      rw[aK] at dR;simp only [Option.getD_some] at dR;subst dR;cases b<;>cases want<;>rfl
    ·cases h
structure h8 where
 call:aeu
 round:Nat->List J->a'->Option (J×a')
def zv (φ:bV) (A:a') (w:ax) (v:J) (a_:a'):Ending->ax->Prop
 | .returned aB,w'=>∃cZ,aD cZ v aB/\cw φ A w cZ a_ w'
 |_,_=>False
def Fr (r:Option Nat):Fence:={Fence.wide with round:=r}
omit [a7] in
theorem Df {r:Option Nat} {n:Nat} {P:aR} {f:FuncId} {args:Array J} {w:ax} {R:Ending->ax->Prop} (h:Calls P f args w R):CallsIn (Fr r) n P f args w R:=by
 have fm:CallsIn Fence.wide n P f args w R:=callsIn_wide.2 h;exact fm
structure lA (P:aR) [dS P] (gl:bR Nat) (C:h8):Prop where
 facts:q4 P
 call:∀(f:FuncId) (args:List J) (A:a') (v:J) (a_:a') (φ:bV) (w:ax) (gi:Array J),C.call f args A=some (v,a_)->bU φ A w->mK gl φ->hS args φ gi->
  Calls P f gi w (zv φ A w v a_)
 round:∀(b:Nat) (args:List J) (A:a') (v:J) (a_:a') (φ:bV) (w:ax) (gi:Array J) (e:hz) (k:hR) (fO:AP) (r:Loop),C.round b args A=some (v,a_)->bU φ A w->mK gl φ->hS args φ gi->
  φ b=some e->A.bl.get b=some k->k.obj= .gh (.loop fO)->w.heap[e.bk]? =some (.loop r)->rN φ (.loop fO) (.loop r)->gi.size=r.params.size/\
  RoundIn Fence.wide 0 P e.bk r.fn ((r.params.zip gi).foldl (λtmps (t,a)=>tmps.setIfInBounds t a) r.tmps) r.assign r.body w (zv φ A w v a_)
def yieldOf (bp:Operand->J) (o:Oper):Option (Nat×List J):=
 match o.op with
 | .call c=>match c.callee with
   | .value f=>match bp f with
     | .func (.yield b) ⟨[]⟩ ⟨[]⟩=>some (b,c.args.toList.map bp)
     |_=>none
   |_=>none
 |_=>none
def Fw (A:a') (b:Nat):Bool:=
 match A.bl.get b with
 |some k=>match k.obj with
  | .gh (.loop _)=>true
  |_=>false
 |none=>false
def vh (P:aR) [Lib P] [dS P] (C:h8) (gl:bR Nat) (ops:Array Oper) (o:Oper) (sl:aG) (A:a'):Option (J×a'):=
 match Ni P ops o sl with
 |none=>none
 |some false=>some (undef,A)
 |some true=>match yieldOf (dB gl sl) o with
  |some (b,args)=>bif Fw A b then C.round b args A else none
  |none=>match Dc P (dB gl sl) A o with
   |some (.value v,bB)=>some (v,bB)
   |some (.skip,bB)=>some (undef,bB)
   |some (.enter f args,bB)=>C.call f args bB
   |none=>none
def wQ (P:aR) [Lib P] [dS P] (C:h8) (gl:bR Nat) (N:Nat) (ops:Array Oper) (o:Oper) (sl:aG) (A:a'):Option (aG×a'):=
 match vh P C gl ops o sl A with
 |some (v,bB)=>match gX N sl o.dst v with
  |some eE=>some (eE,bB)
  |none=>none
 |none=>none
omit [a7] in
theorem Nj {P:aR} [Lib P] [dS P] {C:h8} {gl:bR Nat} {N:Nat} {ops:Array Oper} {o:Oper} {sl dH:aG} {A a_:a'} (h:wQ P C gl N ops o sl A=some (dH,a_)):
  ∃v,vh P C gl ops o sl A=some (v,a_)/\gX N sl o.dst v=some dH:=by
 unfold wQ at h;split at h
 ·rename_i v bB aC
  split at h
  ·rename_i eE hp
   cases h;exact⟨v,aC,hp⟩
  ·cases h
 ·cases h
section
variable {P:aR} [Lib P] [dS P] {C:h8} {gl:bR Nat} {φ:bV} {A a_:a'} {w:ax} {a:Act}
omit [a7] in
theorem Ja {ρ:Operand->J} {o:Oper} {r:sL×a'} (h:Dc P ρ A o=some r) (c:Call):o.op≠.defer c:=by
 intro aq;unfold Dc at h;split at h
 ·rename_i v aC
  unfold ui at aC;split at aC
  ·cases aC
  ·unfold qq at aC
   rw[aq] at aC;cases aC
 split at h
 ·rename_i v aC
  unfold I9 at aC;split at aC
  ·cases aC
  ·rw[aq] at aC
   cases aC
 ·cases ae:Ng P o with
  |true=>rw[ae] at h;cases h
  |false=>
   rw[ae,ek] at h;unfold Ft at h;rw[aq] at h;cases h
omit [a7] in
omit [Lib P] [dS P] in
theorem aev {ρ:Operand->J} {o:Oper} {r:Nat×List J} (h:yieldOf ρ o=some r) (c:Call):o.op≠.defer c:=by
 intro aq;unfold yieldOf at h;rw[aq] at h;cases h
omit [Lib P] [dS P] in
theorem U9 (ao:bU φ A w) {ρ ρ':Operand->J} {o:Oper} {b:Nat} {args:List J} (cU:∀x,aD φ (ρ x) (ρ' x)) (h:yieldOf ρ o=some (b,args)) (hl:Fw A b=true):
  ∃e k fO r gi,φ b=some e/\A.bl.get b=some k/\k.obj= .gh (.loop fO)/\w.heap[e.bk]? =some (.loop r)/\rN φ (.loop fO) (.loop r)/\hS args φ gi/\
   (gi.size=r.params.size->(execOp ρ' o).run P w= .ok (.round e.bk r.fn ((r.params.zip gi).foldl (λtmps (t,a)=>tmps.setIfInBounds t a) r.tmps) r.assign r.body) w):=by
 unfold yieldOf at h;split at h
 ·rename_i c cm
  split at h
  ·rename_i f pL
   split at h
   ·rename_i b' aO
    simp only [cE,Prod.mk.injEq] at h;obtain⟨rfl,rfl⟩:=h;have aC:=cU f;rw[aO] at aC;have aew:∃e,φ b'=some e/\ρ' f= .func (.yield e.bk) #[] #[]:=by
     generalize ρ' f=u at aC;cases aC with
     |tQ h=>exact⟨_,h,rfl⟩
     |func _ _ _ _ av=>exact absurd rfl (av _)
    obtain⟨e,he,n8⟩:=aew;unfold Fw at hl;split at hl
    ·rename_i k aj
     split at hl
     ·rename_i fO fo
      obtain⟨k',dt,_,ho⟩:=ao.eo b' e he;rw[aj] at dt;cases dt;unfold fL at ho;simp only [fo] at ho;obtain⟨_,o',ad,af⟩:=ho;obtain⟨r,rfl,wH⟩:=id af;refine⟨e,k,fO,r,c.args.map ρ',he,aj,fo,ad,af,hS.map λx _=>cU x,λcl=> ?_⟩;unfold execOp;rw[cm];simp only;refine cQ (a:={target:= .fn (.yield e.bk) #[],args:= #[]++c.args.map ρ'}) (by unfold resolve;rw[pL];simp only [n8];rfl) ?_;simp only [Array.empty_append];show (Instr.yield e.bk (c.args.map ρ')).run P w=_;unfold Instr.yield Instr.getLoop;refine dc (a:=r) (w1:=w) (by
       refine dc (a:= .loop r) (w1:=w) (q2 ad (λ_ _ _ h=>by cases h)) rfl) ?_
      rw[aU (λcO=>cO cl)];rfl
     ·cases hl
    ·cases hl
   ·cases h
  ·cases h
 ·cases h
theorem Jb (cT:lA P gl C) (ao:bU φ A w) (aA:mK gl φ) {ro:Option Nat} {ops:Array Oper} {o:Oper} {sl:aG} {v:J} (aw:∀t v,sl.get t=some v->aD φ v (a.tmps.getD t undef)) (h:vh P C gl ops o sl A=some (v,a_))
  {K:Act->ax->Prop} {Q:Exit->Act->ax->Prop} (bS:∀cZ aB w',aD cZ v aB->cw φ A w cZ a_ w'->K (a.put o.dst aB) w'):
  if Region.wanted o (yielded ops a.tmps) then o.wpIn (Fr ro) 0 P a w K Q else (∀f,o.about P w a.eval=some f->(Fr ro).fn f)/\K (a.put o.dst undef) w:=by
 unfold vh at h;split at h
 ·cases h
 ·rename_i hw
  rw[U8 cT.facts w aw hw];cases h;exact⟨λ_ _=>trivial,bS φ undef w (aD.zk φ) (cw.refl ao)⟩
 ·rename_i hw
  rw[U8 cT.facts w aw hw,aQ rfl];refine⟨λ_ _=>trivial,?_⟩;split at h
  ·rename_i b args bq
   cases hl:Fw A b with
   |false=>rw[hl] at h;cases h
   |true=>
    rw[hl,bx] at h;obtain⟨e,k,fO,r,gi,he,aj,fo,rP,Ba,gy,e8⟩:=U9 (P:=P) ao (gq aA aw) bq hl;obtain⟨cl,Nk⟩:=cT.round b args A v a_ φ w gi e k fO r h ao aA gy he aj fo rP Ba;rw[Oper.semAt_eq _ _ _ (aev bq),e8 cl,Oper.uponIn_round];refine⟨λh=>absurd h (by simp [Fr,Fence.wide]),?_⟩;have aex:RoundIn (Fr ro) (0-1) P e.bk r.fn ((r.params.zip gi).foldl (λtmps (t,a)=>tmps.setIfInBounds t a) r.tmps) r.assign r.body w (zv φ A w v a_):=Nk;refine RoundIn.mono aex λen w2 vi=> ?_
    cases en with
    |returned aB=>
     obtain⟨fh,ad,af⟩:=vi;exact bS fh aB w2 ad af
    |panicked b_=>exact vi.elim
    |outgrown=>exact vi.elim
  ·split at h
   ·rename_i v1 bB ha
    cases h;obtain⟨gE,w1,n,g1,g2,g3⟩:=Dd cT.facts ao (gq aA aw) ha;rw[Oper.semAt_eq _ _ _ (Ja ha),g1];obtain⟨aB,rfl,aC⟩:=g2;exact bS gE aB w1 aC g3
   ·rename_i bB ha
    cases h;obtain⟨gE,w1,n,g1,g2,g3⟩:=Dd cT.facts ao (gq aA aw) ha;rw[Oper.semAt_eq _ _ _ (Ja ha),g1];cases g2;exact bS gE undef w1 (aD.zk gE) g3
   ·rename_i f args bB ha
    obtain⟨gE,w1,n,g1,g2,g3⟩:=Dd cT.facts ao (gq aA aw) ha;rw[Oper.semAt_eq _ _ _ (Ja ha),g1];obtain⟨gi,rfl,gy⟩:=g2;rw[Oper.uponIn_enter];refine⟨λh=>absurd h (by simp [Fr,Fence.wide]),?_⟩;refine CallsIn.mono (Df (cT.call f args bB v a_ gE w1 gi h g3.rel (aA.mono (g3.ext ao)) gy)) λe w2 he=> ?_
    cases e with
    |returned aB=>
     obtain⟨fh,ad,af⟩:=he;exact bS fh aB w2 ad (cw.trans ao g3 af)
    |panicked b_=>exact he.elim
    |outgrown=>exact he.elim
   ·cases h
def wR (P:aR) [Lib P] [dS P] (C:h8) (gl:bR Nat) (N:Nat) (ops:Array Oper):List Oper->aG->a'->Option (aG×a')
 |[],sl,A=>some (sl,A)
 |o::r,sl,A=>match wQ P C gl N ops o sl A with
  |some (eE,bB)=>wR P C gl N ops r eE bB
  |none=>none
theorem Nl (cT:lA P gl C) {ro:Option Nat} {N:Nat} {ds:List Deferred} {ops:Array Oper} {Q:Exit->Act->ax->Prop}:∀(l:List Oper) (sl dH:aG) (A a_:a') (φ:bV) (w:ax) (a:Act),bU φ A w->mK gl φ->fw N ds φ sl a->wR P C gl N ops l sl A=some (dH,a_)->
  (∀cZ aW w',fw N ds cZ dH aW->cw φ A w cZ a_ w'->Q .normal aW w')->wpListIn (Fr ro) 0 P ops Q l a w
 |[],sl,dH,A,a_,φ,w,a,ao,aA,aw,h,cY=>by
  cases h;exact cY φ a w aw (cw.refl ao)
 |o::r,sl,dH,A,a_,φ,w,a,ao,aA,aw,h,cY=>by
  unfold wR at h;split at h
  ·rename_i eE bB cP
   obtain⟨v,aC,hp⟩:=Nj cP;unfold wpListIn;refine Jb cT ao aA aw.get aC λcZ aB w' x1 pK=> ?_
   exact Nl cT r eE dH bB a_ cZ w' (a.put o.dst aB) pK.rel (aA.mono (pK.ext ao)) ((aw.mono (pK.ext ao)).put x1 hp) h λfh fR w2 ad af=>cY fh fR w2 ad (cw.trans ao pK af)
  ·cases h
end
end AE
section
section
variable {P:aR} {ops:Array Oper}
def ft (ops:Array Oper) (j:Nat):Option Tmp:=(ops[j]?).bind (·.dst)
def needs (ops:Array Oper) (m:Nat) (o:Oper):List Nat:=(List.range m).filter λj=>match ft ops j with
 |some d=>(o.looksAt ops).contains d
 |none=>false
def direct (ops:Array Oper) (i j:Nat):Bool:=match ops[i]? with
 |some o=>o.after.any λe=>Region.binds .any e&&e.on==j
 |none=>false
theorem Act.size_put (a:Act) (d:Option Tmp) (v:J):(a.put d v).tmps.size=a.tmps.size:=by cases d<;>simp [Act.put]
theorem Act.Dg (a:Act) (d:Option Tmp) (v:J):(a.put d v).defers=a.defers:=by cases d<;>rfl
theorem Act.sM (a:Act) (d:Option Tmp) (v:J) (t:Nat) (aK:t<a.tmps.size):(a.put d v).tmps.getD t undef=if d=some t then v else a.tmps.getD t undef:=by
 cases d with
 |none=>simp [Act.put]
 |some d=>
  simp only [Act.put,cE,fb,Array.getElem?_setIfInBounds];by_cases h:d=t
  ·subst h;simp [aK]
  ·simp [h]
structure apg (ops:Array Oper) (m:Nat) (G:ax->ax->Prop) (aey:Nat->J->ax->Prop) (U':Nat->Bool) (a0:Act) (w0:ax) (listed:Array Bool) (a:Act) (w:ax):Prop where
 size:listed.size=ops.size
 down:∀i j,listed.getD i false=true->direct ops i j=true->listed.getD j false=true
 sN:∀i,m<=i->listed.getD i false=false
 defers:a.defers=a0.defers
 mf:a.tmps.size=a0.tmps.size
 g:G w0 w
 other:∀t,(∀i,i<m->listed.getD i false=true->ft ops i≠some t)->a.tmps.getD t undef=a0.tmps.getD t undef
 post:∀i t,i<m->listed.getD i false=true->ft ops i=some t->aey i (a.tmps.getD t undef) w
 aph:∀i j t u b o s b' o' fu,i<m->j<m->i≠j->listed.getD i false=true->listed.getD j false=true->U' i=true->U' j=true->ft ops i=some t->ft ops j=some u->
  a.tmps.getD t undef= .pointer (some ⟨b,o,s⟩)->a.tmps.getD u undef= .pointer (some ⟨b',o',fu⟩)->b≠b'
theorem qs {listed:Array Bool} {i:Nat} (h:i∈Region.ready .any ops listed):∀k,direct ops i k=true->listed.getD k false=true:=by
 intro k aj;obtain⟨_,o,ho,la⟩:=mem_ready.1 h;simp only [direct,ho] at aj;obtain⟨e,he,ae⟩:=Array.any_eq_true'.1 aj;simp only [cV,beq_iff_eq] at ae;exact ae.2▸la e he ae.1
def q6 (listed:Array Bool):Nat:=listed.toList.count false
theorem U_:∀(l:List Bool) (i:Nat),l[i]? =some false->(l.set i true).count false+1=l.count false
 |[],i,h=>by simp at h
 |b::r,0,h=>by simp at h;subst h;simp
 |b::r,i+1,h=>by
  have:=U_ r i (by simpa using h);simp only [List.set_cons_succ,List.count_cons];omega
theorem x6 {listed:Array Bool} {i:Nat} (ag:i<listed.size) (h:listed.getD i true=false):q6 (listed.setIfInBounds i true)+1=q6 listed:=by
 unfold q6;rw[Array.toList_setIfInBounds];refine U_ _ _ ?_;have:listed[i]? =some listed[i]:=Array.getElem?_eq_getElem ag;simp only [fb,this,Option.getD_some] at h;rw[Array.getElem?_toList,this,h]
theorem qt {listed:Array Bool} {i:Nat} (h:i<listed.size):listed.getD i true=listed.getD i false:=by
 simp [fb,h]
end
end
namespace AE
variable [a7]
def hB (N:Nat) (ops:Array Oper) (jJ:Nat->J):List Nat->aG->Option aG
 |[],sl=>some sl
 |j::r,sl=>match gX N sl (ft ops j) (jJ j) with
  |some s=>hB N ops jJ r s
  |none=>none
omit [a7] in
theorem oI {N:Nat} {ops:Array Oper} {jJ:Nat->J}:∀(cd:List Nat) (sl dH:aG),hB N ops jJ cd sl=some dH->∀t v,dH.get t=some v->
  (∃j∈cd,ft ops j=some t/\v=jJ j)\/((∀j∈cd,ft ops j≠some t)/\sl.get t=some v)
 |[],sl,dH,h,t,v,aC=>by
  cases h;exact .inr ⟨λj hj=>absurd hj (by simp),aC⟩
 |j::r,sl,dH,h,t,v,aC=>by
  unfold hB at h;split at h
  ·rename_i s aw
   rcases oI r s dH h t v aC with ⟨k,aj,bc,vj⟩|⟨av,aA⟩
   ·exact .inl ⟨k,List.mem_cons_of_mem _ aj,bc,vj⟩
   ·unfold gX at aw
    cases bc:ft ops j with
    |none=>
     rw[bc] at aw;cases aw;refine .inr ⟨λk aj=> ?_,aA⟩;rcases List.mem_cons.1 aj with rfl|aj
     ·rw[bc];simp
     ·exact av k aj
    |some d=>
     rw[bc] at aw;simp only at aw;cases ae:Nat.blt d N with
     |false=>rw[ae] at aw;cases aw
     |true=>
      rw[ae,bx] at aw;rw[bR.nY _ _ _ _ _ t aw] at aA;by_cases Nn:t=d
      ·subst Nn
       rw[aQ rfl] at aA;cases aA;exact .inl ⟨j,List.mem_cons_self,bc,rfl⟩
      ·rw[aU Nn] at aA
       refine .inr ⟨λk aj=> ?_,aA⟩;rcases List.mem_cons.1 aj with rfl|aj
       ·rw[bc];simp;exact λh=>Nn h.symm
       ·exact av k aj
  ·cases h
def x7 (o:Oper):Bool:=
 (match o.guard with|none=>true|some _=>false)&&
 match o.op with
 | .move _| .assign _| .binOp .. | .unOp .. | .fieldAddr .. | .indexAddr .. =>true
 |_=>false
def x8 (P:aR) [dS P] (bp:Operand->J) (o:Oper):Option J:=
 match o.op with
 | .move x| .assign x=>some (bp x)
 | .binOp op t x y _=>match ui P bp o with
   |some v=>some v
   |none=>bif plain (bp x)&&plain (bp y) then uf P (do eqGuard op t x y (bp x) (bp y);binOp op t (bp x) (bp y)) else none
 | .unOp op _ x=>match ui P bp o with
   |some v=>some v
   |none=>bif plain (bp x) then uf P (Op.unary op (bp x)) else none
 | .fieldAddr s x f=>match ui P bp o with
   |some v=>some v
   |none=>E8 P s f (bp x)
 | .indexAddr t x i=>match ui P bp o with
   |some v=>some v
   |none=>bif plain (bp i) then E9 P t (bp x) (bp i) else none
 |_=>none
theorem Fx {P:aR} [dS P] (c0:q4 P) {φ:bV} {ρ ρ':Operand->J} {o:Oper} {v:J} (cU:∀x,aD φ (ρ x) (ρ' x)) (h:x8 P ρ o=some v):∃aB,(∀w,(execOp ρ' o).run P w= .ok (.value aB) w)/\aD φ v aB:=by
 have fM:∀{s:Sem J},uf P s=some v->∃aB,(∀w,(do pure (Next.value (<-s)):Sem Next).run P w= .ok (.value aB) w)/\aD φ v aB:=by
  intro s aw;unfold uf at aw;split at aw
  ·rename_i u hu
   cases hp:plain u with
   |false=>rw[hp] at aw;cases aw
   |true=>
    rw[hp,bx,cE] at aw;subst aw;exact⟨u,λw=>jc (by rw[sJ,hu];rfl) w,aD.kb φ u hp⟩
  ·cases aw
 unfold x8 at h;unfold execOp;split at h
 ·rename_i x cm
  cases h;rw[cm];exact⟨_,λ_=>rfl,cU x⟩
 ·rename_i x cm
  cases h;rw[cm];exact⟨_,λ_=>rfl,cU x⟩
 ·rename_i op t x y U5 cm
  split at h
  ·rename_i u hu
   cases h;have:=De c0 cU hu λf aO=>by
    unfold qq at aO;rw[cm] at aO;cases aO;rfl
   unfold execOp at this;exact this
  ·cases hp:plain (ρ x) with
   |false=>rw[hp] at h;cases h
   |true=>
    cases aZ:plain (ρ y) with
    |false=>rw[hp,aZ] at h;cases h
    |true=>
     rw[hp,aZ] at h;rw[cm];simp only;rw[aD.kU _ hp (cU x),aD.kU _ aZ (cU y)];exact fM h
 ·rename_i op t x cm
  split at h
  ·rename_i u hu
   cases h;have:=De c0 cU hu λf aO=>by
    unfold qq at aO;rw[cm] at aO;cases aO;rfl
   unfold execOp at this;exact this
  ·cases hp:plain (ρ x) with
   |false=>rw[hp] at h;cases h
   |true=>
    rw[hp] at h;rw[cm];simp only;rw[aD.kU _ hp (cU x)];exact fM h
 ·rename_i s x f cm
  split at h
  ·rename_i u hu
   cases h;have:=De c0 cU hu λf aO=>by
    unfold qq at aO;rw[cm] at aO;cases aO;rfl
   unfold execOp at this;exact this
  ·obtain⟨aB,ad,af⟩:=Uh (cU x) h
   rw[cm];exact⟨aB,λw=>by simp only [Sem.run_bind,ad w,Result.andThen_ok];rfl,af⟩
 ·rename_i t x i cm
  split at h
  ·rename_i u hu
   cases h;have:=De c0 cU hu λf aO=>by
    unfold qq at aO;rw[cm] at aO;cases aO;rfl
   unfold execOp at this;exact this
  ·cases hp:plain (ρ i) with
   |false=>rw[hp] at h;cases h
   |true=>
    rw[hp] at h;obtain⟨aB,ad,af⟩:=Ui (cU x) h;rw[cm];simp only;rw[aD.kU _ hp (cU i)];exact⟨aB,λw=>by simp only [Sem.run_bind,ad w,Result.andThen_ok];rfl,af⟩
 ·cases h
def Np (ops:Array Oper):List Oper->Nat->Array Bool->List Nat
 |[],_,_=>[]
 |o::r,i,listed=>bif x7 o&&((Region.ready .any ops listed).contains i&&Region.free .any ops listed i) then i::Np ops r (i+1) (listed.setIfInBounds i true) else Np ops r (i+1) listed
def vk (ops:Array Oper):List Nat:=Np ops ops.toList 0 (Array.replicate ops.size false)
def wS (ops:Array Oper):List Nat->Array Bool->Bool
 |[],_=>true
 |i::r,listed=>((Region.ready .any ops listed).contains i&&Region.free .any ops listed i)&&((match ops[i]? with|some o=>x7 o|none=>false)&&wS ops r (listed.setIfInBounds i true))
def Bb (o:Oper) (masks:List Nat) (q0:Nat):Nat:=o.after.toList.foldl (λacc e=>bif Region.binds .any e then Nat.lor acc (Nat.lor (Nat.shiftLeft 1 e.on) (masks.getD e.on 0)) else acc) q0
def wT:List Oper->List Nat->List Nat
 |[],ms=>ms
 |o::r,ms=>wT r (ms++[Bb o ms 0])
def zw (ops:Array Oper):List Nat:=wT ops.toList []
def Dh (ms:List Nat) (i j:Nat):Bool:=(ms.getD i 0).testBit j
def Nq (ops:Array Oper) (i j:Nat):Prop:=∀listed:Array Bool,(∀i j,listed.getD i false=true->direct ops i j=true->listed.getD j false=true)->(∀k,direct ops i k=true->listed.getD k false=true)->listed.getD j false=true
omit [a7] in
theorem Va {masks:List Nat} {j:Nat}:∀(l:List Edge) (q0:Nat),(l.foldl (λacc e=>bif Region.binds .any e then Nat.lor acc (Nat.lor (Nat.shiftLeft 1 e.on) (masks.getD e.on 0)) else acc) q0).testBit j=true->q0.testBit j=true\/∃e∈l,Region.binds .any e=true/\(e.on=j\/(masks.getD e.on 0).testBit j=true)
 |[],q0,h=> .inl h
 |e::r,q0,h=>by
  simp only [List.foldl_cons] at h;rcases Va r _ h with h|⟨e',oH,fm⟩
  ·cases ae:Region.binds .any e with
   |false=>rw[ae] at h;exact .inl h
   |true=>
    rw[ae,bx] at h;have af:(q0 ||| ((1 <<< e.on) ||| masks.getD e.on 0)).testBit j=true:=h;rw[Nat.testBit_or,Nat.testBit_or,Nat.one_shiftLeft,Nat.testBit_two_pow] at af;simp only [Bool.or_eq_true,decide_eq_true_eq] at af;rcases af with af|af
    ·exact .inl af
    ·exact .inr ⟨e,List.mem_cons_self,ae,af⟩
  ·exact .inr ⟨e',List.mem_cons_of_mem _ oH,fm⟩
omit [a7] in
theorem Vb:∀(l:List Oper) (ms:List Nat),(wT l ms).take ms.length=ms/\∀i o,l[i]? =some o->(wT l ms).getD (ms.length+i) 0=Bb o ((wT l ms).take (ms.length+i)) 0
 |[],ms=>⟨by simp [wT],λi o h=>by simp at h⟩
 |o::r,ms=>by
  obtain⟨ad,af⟩:=Vb r (ms++[Bb o ms 0]);have hm:wT (o::r) ms=wT r (ms++[Bb o ms 0]):=rfl;rw[hm];have ay:(wT r (ms++[Bb o ms 0])).take ms.length=ms:=by
   have:=congrArg (List.take ms.length) ad;rw[List.take_take] at this;simpa using this
  refine⟨ay,λi o' ag=> ?_⟩;cases i with
  |zero=>
   simp only [List.getElem?_cons_zero,cE] at ag;subst ag;rw[Nat.add_zero,ay];have:=congrArg (λl=>l[ms.length]?) ad;simp only [List.getElem?_take,List.length_append,List.length_cons,List.length_nil] at this;rw[aQ ar] at this;rw[dh,this];simp
  |succ i=>
   simp only [List.getElem?_cons_succ] at ag;have:=af i o' ag;simp only [List.length_append,List.length_cons,List.length_nil] at this;rw[show ms.length+(i+1)=ms.length+(0+1)+i by omega];exact this
omit [a7] in
theorem Vc {ops:Array Oper}:∀(i:Nat),i<ops.size->∀j,Dh (zw ops) i j=true->Nq ops i j:=by
 intro i
 induction i using Nat.strongRecOn with
 |_ i ck=>
  intro ag j h listed down Vd;have ho:ops.toList[i]? =some ops[i]:=by rw[Array.getElem?_toList];exact Array.getElem?_eq_getElem ag
  have aw:=(Vb ops.toList []).2 i _ ho;simp only [List.length_nil,Nat.zero_add] at aw;unfold Dh zw at h;rw[aw] at h;unfold Bb at h;rcases Va _ _ h with h|⟨e,he,ae,h⟩
  ·simp at h
  ·have bc:direct ops i e.on=true:=by
    unfold direct;rw[Array.getElem?_eq_getElem ag];simp only;exact Array.any_eq_true'.2 ⟨e,by simpa using he,by simp [ae]⟩
   rcases h with rfl|h
   ·exact Vd _ bc
   ·rcases Nat.lt_or_ge e.on i with b8|ko
    ·have aA:((wT ops.toList []).take i).getD e.on 0=(zw ops).getD e.on 0:=by
      unfold zw;rw[dh,List.getElem?_take,aQ b8,dh]
     rw[aA] at h;exact ck e.on b8 ar j h listed down λk aj=>down e.on k (Vd _ bc) aj
    ·rw[dh,List.getElem?_take,aU ar] at h
     simp at h
def uj (ops:Array Oper) (L:List Nat) (m N:Nat):Bool:=
 decide (m<=ops.size)&&Region.noSelect ops&&
 ((List.range m).all λi=>(List.range m).all λj=>i==j||ft ops i==none||ft ops i !=ft ops j)&&
 ((List.range m).all λi=>match ft ops i with|some d=>decide (d<N)|none=>true)&&
 ((List.range m).all λi=>match ops[i]? with|some o=>(needs ops m o).all (direct ops i ·)|none=>false)&&
 ((List.range ops.size).all λi=>match ops[i]? with|some o=>o.after.all (λe=> !Region.binds .any e||decide (e.on<i))|none=>false)&&
 ((List.range ops.size).all λi=>decide (i<m)||(List.range i).all λj=>(L.contains j&&decide (j<m))||Dh (zw ops) i j)
omit [a7] in
theorem Di {ops:Array Oper} {L:List Nat} {m N:Nat} (h:uj ops L m N=true):m<=ops.size/\Region.noSelect ops=true/\
  (∀i j,i<m->j<m->i≠j->∀t,ft ops i=some t->ft ops j≠some t)/\(∀i t,i<m->ft ops i=some t->t<N)/\
  (∀i o,i<m->ops[i]? =some o->∀j∈needs ops m o,direct ops i j=true)/\(∀i j,i<ops.size->direct ops i j=true->j<i)/\
  (∀i j,i<ops.size->m<=i->j<i->(j∈L/\j<m)\/Nq ops i j):=by
 simp only [uj,cV,decide_eq_true_eq,List.all_eq_true,List.mem_range] at h;obtain⟨⟨⟨⟨⟨⟨ad,af⟩,ay⟩,bD⟩,cD⟩,cI⟩,fK⟩:=h;refine⟨ad,af,?_,?_,?_,?_,?_⟩
 ·intro i j ag hj cO t aK aez
  have:=ay i ag j hj;simp [cO,aK,aez] at this
 ·intro i t ag aK
  have:=bD i ag;simpa [aK] using this
 ·intro i o ag ho j hj
  have:=cD i ag;simp only [ho,List.all_eq_true] at this;exact this j hj
 ·intro i j ag bc
  have:=cI i ag;unfold direct at bc;have ho:ops[i]? =some ops[i]:=Array.getElem?_eq_getElem ag;simp only [ho] at this bc;obtain⟨e,he,ae⟩:=Array.any_eq_true'.1 bc;simp only [cV,beq_iff_eq] at ae;have fm:=Array.all_eq_true_iff_forall_mem.1 this e he;simp only [ae.1,Bool.not_true,Bool.false_or,decide_eq_true_eq] at fm;exact ae.2▸fm
 ·intro i j ag hm hj
  have:=fK i ag;simp only [Bool.or_eq_true,decide_eq_true_eq,List.all_eq_true,List.mem_range,cV] at this;have:=this.resolve_left ar j hj;rcases this with h|h
  ·exact .inl (by simpa using h)
  ·exact .inr (Vc i ag j h)
def Nr (q0:Nat):List Oper->Nat->List Nat->Nat->Nat
 |[],_,_,m=>m
 |o::r,i,masks,m=>let p:=Bb o masks (Nat.land q0 (Nat.shiftLeft 1 i-1));Nr q0 r (i+1) (masks++[p]) (bif Nat.beq p (Nat.shiftLeft 1 i-1) then m else i+1)
def Ve (L:List Nat):Nat:=L.foldl (λa i=>Nat.lor a (Nat.shiftLeft 1 i)) 0
def Ns (ops:Array Oper) (N:Nat) (gN:Bool):Option (List Nat×Nat):=
 let b3:=bif gN then [] else vk ops
 let m:=Nr (Ve b3) ops.toList 0 [] 0
 let L:=b3.filter λi=>Nat.blt i m
 bif uj ops L m N&&wS ops L (Array.replicate ops.size false) then some (L,m) else none
def Dj (P:aR) [Lib P] [dS P] (C:h8) (gl:bR Nat) (N:Nat) (ops:Array Oper) (L:List Nat) (m:Nat) (dj:aG):List Oper->Nat->List J->a'->Option (List J×a')
 |[],_,vs,A=>some (vs,A)
 |o::r,i,vs,A=>match hB N ops (λj=>vs.getD j cp) (needs ops m o) dj with
  |some sl=>bif L.contains i then
    match x8 P (dB gl sl) o with
    |some v=>Dj P C gl N ops L m dj r (i+1) (vs++[v]) A
    |none=>none
   else match vh P C gl ops o sl {A with low:=A.n} with
    |some (v,bB)=>bif Nat.ble A.n bB.low then Dj P C gl N ops L m dj r (i+1) (vs++[v]) {bB with low:=A.low} else none
    |none=>none
  |none=>none
def Jc (P:aR) [Lib P] [dS P] (C:h8) (gl:bR Nat) (N:Nat) (gN:Bool) (ops:Array Oper) (sl:aG) (A:a'):Option (aG×a'×List Oper):=
 match Ns ops N gN with
 |some (L,m)=>match hB N ops (λ_=>cp) (List.range m) sl with
  |some dj=>match Dj P C gl N ops L m dj (ops.toList.take m) 0 [] A with
   |some (vs,bB)=>bif Nat.ble bB.n dead then
     match hB N ops (λj=>vs.getD j cp) (List.range m) dj with
     |some eE=>some (eE,bB,ops.toList.drop m)
     |none=>none
    else none
   |none=>none
  |none=>none
 |none=>none
def Nt (P:aR) [Lib P] [dS P] (C:h8) (gl:bR Nat) (N:Nat) (gN:Bool) (ops:Array Oper) (sl:aG) (A:a'):Option (aG×a'):=
 match Jc P C gl N gN ops sl A with
 |some (eE,bB,r)=>wR P C gl N ops r eE bB
 |none=>none
def Dk (P:aR) [Lib P] [dS P] (C:h8) (gl:bR Nat) (N:Nat) (ops:Array Oper) (L:List Nat) (m:Nat) (dj:aG) (i:Nat) (o:Oper) (Jd:List J) (v:J) (A a_:a'):Prop:=
 ∃sl,hB N ops (λj=>Jd.getD j cp) (needs ops m o) dj=some sl/\
  ((i∈L/\x8 P (dB gl sl) o=some v/\a_=A)\/(i∉L/\∃bB,vh P C gl ops o sl {A with low:=A.n}=some (v,bB)/\A.n<=bB.low/\a_={bB with low:=A.low}))
section
variable {P:aR} [Lib P] [dS P] {C:h8} {gl:bR Nat} {N:Nat} {ops:Array Oper} {L:List Nat} {m:Nat} {dj:aG}
omit [a7] in
theorem Vf:∀(l:List Oper) (i0:Nat) (vs cF:List J) (A a_:a'),vs.length=i0->Dj P C gl N ops L m dj l i0 vs A=some (cF,a_)->
  ∃(B:Nat->a'),B 0=A/\B l.length=a_/\cF.length=vs.length+l.length/\cF.take vs.length=vs/\
   ∀i o,l[i]? =some o->Dk P C gl N ops L m dj (i0+i) o (cF.take (vs.length+i)) (cF.getD (vs.length+i) cp) (B i) (B (i+1))
 |[],i0,vs,cF,A,a_,_,h=>by
  cases h;exact⟨λ_=>A,rfl,rfl,by simp,by simp,λi o ag=>by simp at ag⟩
 |o::r,i0,vs,cF,A,a_,vl,h=>by
  unfold Dj at h;split at h
  ·rename_i sl gw
   have go:∀(v:J) (fl:a'),((i0∈L/\x8 P (dB gl sl) o=some v/\fl=A)\/(i0∉L/\∃bB,vh P C gl ops o sl {A with low:=A.n}=some (v,bB)/\A.n<=bB.low/\fl={bB with low:=A.low}))->
     Dj P C gl N ops L m dj r (i0+1) (vs++[v]) fl=some (cF,a_)->
     ∃(B:Nat->a'),B 0=A/\B (o::r).length=a_/\cF.length=vs.length+(o::r).length/\cF.take vs.length=vs/\
      ∀i o',(o::r)[i]? =some o'->Dk P C gl N ops L m dj (i0+i) o' (cF.take (vs.length+i)) (cF.getD (vs.length+i) cp) (B i) (B (i+1)):=by
    intro v fl aeA h;obtain⟨B,aM,ad,af,ay,bD⟩:=Vf r (i0+1) (vs++[v]) cF _ a_ (by simp [vl]) h;have hlen:(vs++[v]).length=vs.length+1:=by simp
    rw[hlen] at af ay;have vm:cF.take vs.length=vs:=by
     have:=congrArg (List.take vs.length) ay;rw[List.take_take,Nat.min_eq_left ar] at this;simpa using this
    refine⟨λi=>match i with|0=>A|i+1=>B i,rfl,?_,by simp;omega,vm,?_⟩
    ·simpa using ad
    ·intro i o' ag
     match i with
     |0=>
      simp only [List.getElem?_cons_zero,cE] at ag;subst ag;simp only [Nat.add_zero];rw[vm];have gF:cF.getD vs.length cp=v:=by
       have:=congrArg (λl=>l[vs.length]?) ay;simp at this;rw[dh,this];rfl
      rw[gF];refine⟨sl,gw,?_⟩;show (_/\_/\B 0=A)\/_;rw[aM];exact aeA
     |i+1=>
      have:=bD i o' (by simpa using ag);rw[hlen] at this;rw[show vs.length+(i+1)=vs.length+1+i by omega,show i0+(i+1)=i0+1+i by omega];exact this
   cases aq:L.contains i0 with
   |true=>
    rw[aq,bx] at h;split at h
    ·rename_i v aC
     exact go v A (.inl ⟨by simpa using aq,aC,rfl⟩) h
    ·cases h
   |false=>
    rw[aq,ek] at h;split at h
    ·rename_i v bB aC
     cases ae:Nat.ble A.n bB.low with
     |false=>rw[ae] at h;cases h
     |true=>
      rw[ae,bx] at h;exact go v _ (.inr ⟨by simpa using aq,bB,aC,Nat.ble_eq.mp ae,rfl⟩) h
    ·cases h
  ·cases h
theorem bU.lower {φ:bV} {A:a'} {w:ax} (h:bU φ A w) (x:Nat):bU φ {A with low:=x} w:=⟨⟨h.wf.lt,h.wf.tR,h.wf.mem,h.wf.u3⟩,h.eo,h.apart,h.along,h.df⟩
theorem aeB {φ:bV} {A a_:a'} {w:ax} (cT:lA P gl C) (ao:bU φ A w) (aA:mK gl φ) {o:Oper} {sl:aG} {v:J} (aw:∀t v,sl.get t=some v->∃aB,aD φ v aB) (h:vh P C gl ops o sl A=some (v,a_)):
  ∃cZ aB w',aD cZ v aB/\cw φ A w cZ a_ w':=by
 have pM:∀x:Operand,∃aB,aD φ (dB gl sl x) aB:=by
  intro x;cases x with
  |tmp t=>
   show ∃aB,aD φ (slot sl t) aB;unfold slot;cases Dl:sl.get t with
   |none=>exact⟨undef,.cp _⟩
   |some v=>exact aw t v Dl
  |const v=>exact⟨_,gq (sl:= .nil) (a:=⟨#[],[]⟩) aA (λt v h=>by cases h) (.const v)⟩
  |global g=>exact⟨_,gq (sl:= .nil) (a:=⟨#[],[]⟩) aA (λt v h=>by cases h) (.global g)⟩
  |func f=>exact⟨_,gq (sl:= .nil) (a:=⟨#[],[]⟩) aA (λt v h=>by cases h) (.func f)⟩
 obtain⟨ρ',cU⟩:=Classical.axiomOfChoice pM;unfold vh at h;split at h
 ·cases h
 ·cases h
  exact⟨φ,undef,w,aD.zk φ,cw.refl ao⟩
 ·split at h
  ·rename_i b args bq
   cases hl:Fw A b with
   |false=>rw[hl] at h;cases h
   |true=>
    rw[hl,bx] at h;obtain⟨e,k,fO,r,gi,he,aj,fo,rP,Ba,gy,e8⟩:=U9 (P:=P) ao cU bq hl;obtain⟨cl,Nk⟩:=cT.round b args A v a_ φ w gi e k fO r h ao aA gy he aj fo rP Ba;obtain⟨en,w2,vi,_⟩:=Nk.2 default [] (room_wide _);cases en with
    |returned aB=>
     obtain⟨fh,ad,af⟩:=vi;exact⟨fh,aB,w2,ad,af⟩
    |panicked b_=>exact vi.elim
    |outgrown=>exact vi.elim
  ·split at h
   ·rename_i v1 bB ha
    cases h;obtain⟨gE,w1,n,g1,g2,g3⟩:=Dd cT.facts ao cU ha;obtain⟨aB,_,aC⟩:=g2;exact⟨gE,aB,w1,aC,g3⟩
   ·rename_i bB ha
    cases h;obtain⟨gE,w1,n,g1,g2,g3⟩:=Dd cT.facts ao cU ha;exact⟨gE,undef,w1,aD.zk gE,g3⟩
   ·rename_i f args bB ha
    obtain⟨gE,w1,n,g1,g2,g3⟩:=Dd cT.facts ao cU ha;obtain⟨gi,_,gy⟩:=g2;obtain⟨e,w2,fr,he,_⟩:=cT.call f args bB v a_ gE w1 gi h g3.rel (aA.mono (g3.ext ao)) gy [];cases e with
    |returned aB=>
     obtain⟨fh,ad,af⟩:=he;exact⟨fh,aB,w2,ad,cw.trans ao g3 af⟩
    |panicked b_=>exact he.elim
    |outgrown=>exact he.elim
   ·cases h
structure pb (fx:bV) (B:Nat->a') (vs:List J) (m:Nat):Prop where
 Je:∀i,i<m->(B i).n<=(B (i+1)).n
 same:∀i b,i<m->b<(B i).n->(B (i+1)).bl.get b=(B i).bl.get b
 aeC:∀i,i<m->(B (i+1)).low=(B i).low
 ex:∀i,i<=m->∃φ w,bU φ (B i) w/\(∀b,b<(B 0).n->φ b=fx b)/\(∀b,(B 0).n<=b->b<(B i).n->φ b≠none)/\∀j,j<i->∃aB,aD φ (vs.getD j cp) aB
theorem aeD {fx:bV} {A:a'} {w0:ax} {B:Nat->a'} {vs:List J} {mg:aG} (cT:lA P gl C) (ao:bU fx A w0) (aA:mK gl fx) (cC:B 0=A) (zx:m<=ops.size)
  (aw:∀t v,mg.get t=some v->∃aB,aD fx v aB) (eX:hB N ops (λ_=>cp) (List.range m) mg=some dj)
  (rV:∀i o,i<m->ops[i]? =some o->∀j∈needs ops m o,j<i)
  (hl:∀i o,i<m->ops[i]? =some o->Dk P C gl N ops L m dj i o (vs.take i) (vs.getD i cp) (B i) (B (i+1))):pb fx B vs m:=by
 have step:∀i,i<m->(∃φ w,bU φ (B i) w/\(∀b,b<(B 0).n->φ b=fx b)/\(∀b,(B 0).n<=b->b<(B i).n->φ b≠none)/\(B 0).n<=(B i).n/\∀j,j<i->∃aB,aD φ (vs.getD j cp) aB)->
   ((B i).n<=(B (i+1)).n/\(∀b,b<(B i).n->(B (i+1)).bl.get b=(B i).bl.get b)/\(B (i+1)).low=(B i).low)/\
   (∃φ w,bU φ (B (i+1)) w/\(∀b,b<(B 0).n->φ b=fx b)/\(∀b,(B 0).n<=b->b<(B (i+1)).n->φ b≠none)/\(B 0).n<=(B (i+1)).n/\∀j,j<i+1->∃aB,aD φ (vs.getD j cp) aB):=by
  rintro i ag ⟨φ,w,ad,af,ay,bD,cD⟩;have ho:ops[i]? =some (ops[i]'(by omega)):=Array.getElem?_eq_getElem _;obtain⟨sl,gw,Dm⟩:=hl i _ ag ho;have sO:∀b e,fx b=some e->φ b=some e:=λb e ae=>by
   rw[af b (by rw[cC];exact ao.lt ae)];exact ae
  have Dn:∀t v,sl.get t=some v->∃aB,aD φ v aB:=by
   intro t v pN;rcases oI _ _ _ gw t v pN with ⟨j,hj,bc,rfl⟩|⟨_,Fy⟩
   ·have dT:=rV i _ ag ho j hj
    obtain⟨aB,mh⟩:=cD j dT;refine⟨aB,?_⟩;have:(vs.take i).getD j cp=vs.getD j cp:=by
     simp only [dh,List.getElem?_take,aQ dT]
    rw[this];exact mh
   ·rcases oI _ _ _ eX t v Fy with ⟨j,hj,bc,rfl⟩|⟨_,vn⟩
    ·exact⟨undef,.cp _⟩
    ·obtain⟨aB,mh⟩:=aw t v vn
     exact⟨aB,mh.mono sO⟩
  rcases Dm with ⟨_,qp,aeE⟩|⟨_,bB,aC,mF,sP⟩
  ·rw[aeE]
   refine⟨⟨b2 _,λ_ _=>rfl,rfl⟩,φ,w,ad,af,ay,bD,λj hj=> ?_⟩;rcases Nat.lt_or_ge j i with b8|ko
   ·exact cD j b8
   ·have:j=i:=by omega
    subst this;have pM:∀x:Operand,∃aB,aD φ (dB gl sl x) aB:=by
     intro x;cases x with
     |tmp t=>
      show ∃aB,aD φ (slot sl t) aB;unfold slot;cases Dl:sl.get t with
      |none=>exact⟨undef,.cp _⟩
      |some v=>exact Dn t v Dl
     |const v=>exact⟨_,gq (sl:= .nil) (a:=⟨#[],[]⟩) (aA.mono sO) (λt v h=>by cases h) (.const v)⟩
     |global g=>exact⟨_,gq (sl:= .nil) (a:=⟨#[],[]⟩) (aA.mono sO) (λt v h=>by cases h) (.global g)⟩
     |func f=>exact⟨_,gq (sl:= .nil) (a:=⟨#[],[]⟩) (aA.mono sO) (λt v h=>by cases h) (.func f)⟩
    obtain⟨ρ',cU⟩:=Classical.axiomOfChoice pM;obtain⟨aB,_,mh⟩:=Fx cT.facts cU qp;exact⟨aB,mh⟩
  obtain⟨cZ,aB,w',g1,g2⟩:=aeB cT (ad.lower (B i).n) (aA.mono sO) Dn aC;have av:(B i).n<=bB.n:=g2.qi;rw[sP];refine⟨⟨av,λb ae=>g2.same b ae (by show b<bB.low;omega),rfl⟩,cZ,w',g2.rel.lower _,λb ae=> ?_,λb ae dR=> ?_,by simp only;omega,λj hj=> ?_⟩
  ·rw[g2.eo b (by show b<(B i).n;omega),af b ae]
  ·rcases Nat.lt_or_ge b (B i).n with b8|ko
   ·rw[g2.eo b b8];exact ay b ae b8
   ·exact g2.rO b ko dR
  ·rcases Nat.lt_or_ge j i with b8|ko
   ·obtain⟨u,hu⟩:=cD j b8
    exact⟨u,hu.mono (g2.ext (ad.lower _))⟩
   ·have:j=i:=by omega
    subst this;exact⟨aB,g1⟩
 have all:∀i,i<=m->(∃φ w,bU φ (B i) w/\(∀b,b<(B 0).n->φ b=fx b)/\(∀b,(B 0).n<=b->b<(B i).n->φ b≠none)/\(B 0).n<=(B i).n/\∀j,j<i->∃aB,aD φ (vs.getD j cp) aB):=by
  intro i
  induction i with
  |zero=>exact λ_=>⟨fx,w0,by rw[cC];exact ao,λ_ _=>rfl,λb ad af=>by omega,b2 _,λj hj=>by omega⟩
  |succ i ck=>exact λag=>(step i ar (ck ar)).2
 refine⟨λi ag=>(step i ag (all i ar)).1.1,λi b ag ae=>(step i ag (all i ar)).1.2.1 b ae,λi ag=>(step i ag (all i ar)).1.2.2,λi ag=> ?_⟩;obtain⟨φ,w,ad,af,ay,_,cD⟩:=all i ag;exact⟨φ,w,ad,af,ay,cD⟩
theorem pb.sQ {fx:bV} {B:Nat->a'} {vs:List J} (h:pb fx B vs m):∀{i j:Nat},i<=j->j<=m->(B i).n<=(B j).n:=by
 intro i j n7
 induction n7 with
 |refl=>exact λ_=>b2 _
 |step aj ck=>exact λhm=>Nat.le_trans (ck ar) (h.Je _ ar)
theorem pb.wU {fx:bV} {B:Nat->a'} {vs:List J} (h:pb fx B vs m):∀{i j:Nat},i<=j->j<=m->∀b,b<(B i).n->(B j).bl.get b=(B i).bl.get b:=by
 intro i j n7
 induction n7 with
 |refl=>exact λ_ _ _=>rfl
 |step aj ck=>exact λhm b ae=>by rw[h.same _ b ar (Nat.lt_of_lt_of_le ae (h.sQ aj ar)),ck ar b ae]
theorem pb.aeF {fx:bV} {B:Nat->a'} {vs:List J} (h:pb fx B vs m):∀{j:Nat},j<=m->(B j).low=(B 0).low:=by
 intro j
 induction j with
 |zero=>exact λ_=>rfl
 |succ j ck=>exact λhm=>by rw[h.aeC j ar,ck ar]
def own (B:Nat->a') (j b:Nat):Prop:=(B j).n<=b/\b<(B (j+1)).n
theorem pb.Vg {fx:bV} {B:Nat->a'} {vs:List J} (h:pb fx B vs m) {i j b:Nat} (ag:i<m) (hj:j<m) (ad:own B i b) (af:own B j b):i=j:=by
 unfold own at ad af;rcases Nat.lt_trichotomy i j with b8|heq|Dl
 ·have:=h.sQ (i:=i+1) (j:=j) ar ar;omega
 ·exact heq
 ·have:=h.sQ (i:=j+1) (j:=i) ar ar;omega
theorem pb.Vh {fx:bV} {B:Nat->a'} {vs:List J} (aeG:pb fx B vs m) {b:Nat}:∀{k:Nat},k<=m->(B 0).n<=b->b<(B k).n->∃j,j<k/\own B j b
 |0,_,ad,af=>by omega
 |k+1,aj,ad,af=>by
  rcases Nat.lt_or_ge b (B k).n with b8|ko
  ·obtain⟨j,hj,ho⟩:=pb.Vh aeG (k:=k) ar ad b8
   exact⟨j,ar,ho⟩
  ·exact⟨k,ar,ko,af⟩
def restrict (φ:bV) (n:Nat):bV:=λb=>if b<n then φ b else none
theorem aD.restrict {φ ψ:bV} {n:Nat} {v aB:J} (bc:∀b e,φ b=some e->b≠dead) (rZ:∀b e,ψ b=some e->b<n) (h:aD φ v aB):∀u,aD ψ v u->aD (AE.restrict φ n) v aB:=by
 have kr:∀{b e},φ b=some e->b<n->AE.restrict φ n b=some e:=λad af=>by unfold AE.restrict;rw[aQ af];exact ad
 induction h with
 |cp aB=>exact λ_ _=> .cp aB
 |sym k=>exact λ_ _=> .sym k
 |bool b=>exact λ_ _=> .bool b
 |int k i=>exact λ_ _=> .int k i
 |float k b=>exact λ_ _=> .float k b
 |string s=>exact λ_ _=> .string s
 |zj=>exact λ_ _=> .zj
 |ptr h=>
   intro u hu;cases hu with
   |ptr af=>exact .ptr (kr h (rZ _ _ af))
 |slnil l c=>exact λ_ _=> .slnil l c
 |iH aW h=>exact λ_ _=> .iH aW h
 |ia fS c h=>
   intro u hu;cases hu with
   |ia _ _ af=>exact .ia fS c (kr h (rZ _ _ af))
   |ib _ _ c' af _ _ _=>exact .ia fS c (kr h (rZ _ _ af))
   |iH aW af=>exact absurd rfl (bc _ _ h)
 |ib fS c c' h aw aq hl=>
   intro u hu;cases hu with
   |ia _ _ af=>exact .ib fS c c' (kr h (rZ _ _ af)) aw aq hl
   |ib _ _ c' af _ _ _=>exact .ib fS c _ (kr h (rZ _ _ af)) aw aq hl
   |iH aW af=>exact absurd rfl (bc _ _ h)
 |AR=>exact λ_ _=> .AR
 |map h=>
   intro u hu;cases hu with
   |map af=>exact .map (kr h (rZ _ _ af))
 |chan=>exact λ_ _=> .chan
 |func fs kn cs cs' av ad af aO aq sE sF=>
   intro u hu;cases hu with
   |func _ _ _ _ _ _ _ g1 g2=>exact .func fs kn cs cs' av ad af (λi ag=>sE i ag _ (g1 i ag)) (λi ag=>sF i ag _ (g2 i ag))
   |tQ af=>exact absurd rfl (av _)
 |tQ h=>
   intro u hu;cases hu with
   |tQ af=>exact .tQ (kr h (rZ _ _ af))
   |func _ _ _ _ av=>exact absurd rfl (av _)
 |nilFunc=>exact λ_ _=> .nilFunc
 |nilIface=>exact λ_ _=> .nilIface
 |iface t h ck=>
   intro u hu;cases hu with
   |iface _ g=>exact .iface t (ck _ g)
 |agg cs cs' ad h ck=>
   intro u hu;cases hu with
   |agg _ _ _ g=>exact .agg cs cs' ad λi ag=>ck i ag _ (g i ag)
 |tuple cs cs' ad h ck=>
   intro u hu;cases hu with
   |tuple _ _ _ g=>exact .tuple cs cs' ad λi ag=>ck i ag _ (g i ag)
theorem fL.restrict {φ ψ:bV} {n:Nat} {w w':ax} {e e':hz} {k:hR} (bc:∀b e,φ b=some e->b≠dead) (rZ:∀b e,ψ b=some e->b<n) (h:fL φ w e k) (fm:fL ψ w' e' k):fL (AE.restrict φ n) w e k:=by
 unfold fL at*
 cases aj:k.obj with
 |cells c=>
  simp only [aj] at h fm ⊢;obtain⟨c',iW,ad,af,ay,bD,cD⟩:=h;obtain⟨mI,IY,g1,g2,g3,g4,kS⟩:=fm;exact⟨c',iW,ad,af,ay,λj hj=>(bD j hj).restrict bc rZ _ (g4 j hj),cD⟩
 |map es eU=>
  simp only [aj] at h fm ⊢;obtain⟨dg,ad,af,ay⟩:=h;obtain⟨kn,g1,g2,g3⟩:=fm;refine⟨dg,ad,af,λj a b ha ae=> ?_⟩;obtain⟨q1,aE,ca,ey⟩:=ay j a b ha ae;have hj:j<es.length:=(List.getElem?_eq_some_iff.1 ha).1;obtain⟨_,_,fQ,_⟩:=g3 j a (kn[j]'(by omega)) ha (Array.getElem?_eq_getElem _);exact⟨q1,aE,ca.restrict bc rZ _ fQ,ey⟩
 |gh x=>
  simp only [aj] at h fm ⊢;obtain⟨aM,jd,ad,af⟩:=h;obtain⟨_,kW,g1,g2⟩:=fm;refine⟨aM,jd,ad,?_⟩;cases x with
  |xP s p=>exact af
  |deferred=>exact af
  |gone=>exact af
  |loop l=>
   obtain⟨r,kf,q1,aE,ca,ey,hh,kT,⟨lh,oG,gS⟩,Bc⟩:=af;obtain⟨dX,sK,gV,gO,pc,q7,sR,Dp,⟨mi,Bd,api⟩,aeH⟩:=g2;refine⟨r,kf,q1,aE,ca,ey,hh,kT,⟨lh,?_,gS⟩,λt v aC=>(Bc t v aC).restrict bc rZ _ (aeH t v aC)⟩;unfold AE.restrict;rw[aQ (rZ _ _ Bd)];exact oG
end
end AE
end Go.Proofs.YtepcfjbfkedlpaaDoor
