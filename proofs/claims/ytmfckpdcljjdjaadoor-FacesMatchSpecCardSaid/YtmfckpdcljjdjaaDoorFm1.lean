/- Parts of the proof. -/
import Derived.WalkKit
import Derived.Orders
import Derived.IntWalk
import Derived.CallsIn
import Derived.OrdersIn
import Derived.RangeFuncIn
import Derived.RangeFuncCalls
import Derived.RangeFuncLeaves
import Derived.TacticsIn
set_option maxRecDepth 100000
set_option maxHeartbeats 4000000
namespace Go.Proofs.YtmfckpdcljjdjaaDoor
open Go
section
theorem af {p:Prop} (h:p:=by omega):p:=h
theorem W3 {p:Prop} (h:p:=by assumption):p:=h
theorem cG {p:Prop} (h:p:=by decide):p:=h
theorem a6 {p:Prop} (h:p:=by kernel_rfl):p:=h
theorem ae.{u} {α:Sort u} {a:α}:a=a:=rfl
abbrev aR:= @if_pos
abbrev aW:= @if_neg
abbrev jh:= @decide_eq_true
abbrev kJ:= @decide_eq_false
abbrev de:= @List.getD_eq_getElem?_getD
abbrev bJ:= @Nat.eq_of_beq_eq_true
abbrev fc:= @List.getElem?_eq_getElem
abbrev jX:= @Nat.le_of_ble_eq_true
abbrev bS:= @Option.some.injEq
abbrev W4:= @List.getElem?_eq_some_iff
abbrev dD:= @Array.getD_eq_getD_getElem?
abbrev a7:= @cond_true
abbrev bM:= @Nat.le_refl
abbrev b4:= @Bool.and_eq_true
abbrev cV:= @cond_false
abbrev ru:= @Option.map_eq_some_iff
abbrev rv:= @List.length_replicate
abbrev I:=Go.Value
abbrev aj:=Go.World
abbrev aC:=Go.Program
abbrev az:=Go.TypeId
namespace AE
inductive bB (α:Type) where
 |nil
 |node (v:Option α) (l r:bB α)
def bB.get {α:Type}:bB α->Nat->Option α
 | .nil,_=>none
 | .node v l r,i=>bif i==0 then v else bif i%2==1 then l.get (i/2) else r.get (i/2-1)
def bB.set {α:Type} (x:α):Nat->bB α->Nat->Option (bB α)
 |0,_,_=>none
 |f+1,.nil,i=>bif i==0 then some (.node (some x) .nil .nil) else bif i%2==1 then (bB.set x f .nil (i/2)).map (.node none · .nil) else (bB.set x f .nil (i/2-1)).map (.node none .nil ·)
 |f+1,.node v l r,i=>bif i==0 then some (.node (some x) l r) else bif i%2==1 then (bB.set x f l (i/2)).map (.node v · r) else (bB.set x f r (i/2-1)).map (.node v l ·)
theorem bB.jY {α:Type} (x:α):∀(f:Nat) (t cq:bB α) (i j:Nat),bB.set x f t i=some cq->cq.get j=if j=i then some x else t.get j
 |0,_,_,_,_,h=>by simp [bB.set] at h
 |f+1,.nil,cq,i,j,h=>by
  unfold bB.set at h;by_cases J:i=0
  ·subst J
   simp only [beq_self_eq_true,a7,bS] at h;subst h;by_cases hj:j=0
   ·simp [hj,bB.get]
   ·have ey:(j==0)=false:=by simpa using hj
    by_cases hm:j%2=1<;>simp [hj,ey,bB.get,hm]
  ·have fZ:(i==0)=false:=by simpa using J
   rw[fZ,cV] at h;by_cases hm:i%2=1
   ·rw[show (i%2==1)=true by simpa using hm,a7] at h
    obtain⟨u,hu,rfl⟩:=Option.map_eq_some_iff.1 h;have bI:=bB.jY x f .nil u (i/2) (j/2) hu;by_cases hj:j=0
    ·subst hj;simp [bB.get,Ne.symm J]
    ·simp only [bB.get,show (j==0)=false by simpa using hj,cV]
     by_cases mf:j%2=1
     ·rw[show (j%2==1)=true by simpa using mf,a7,bI]
      by_cases he:j=i
      ·simp [he]
      ·rw[aW he,aW af];rfl
     ·rw[show (j%2==1)=false by simpa using mf,cV,aW af]
   ·rw[show (i%2==1)=false by simpa using hm,cV] at h
    obtain⟨u,hu,rfl⟩:=Option.map_eq_some_iff.1 h;have bI:=bB.jY x f .nil u (i/2-1) (j/2-1) hu;by_cases hj:j=0
    ·subst hj;simp [bB.get,Ne.symm J]
    ·simp only [bB.get,show (j==0)=false by simpa using hj,cV]
     by_cases mf:j%2=1
     ·rw[show (j%2==1)=true by simpa using mf,a7,aW af]
     ·rw[show (j%2==1)=false by simpa using mf,cV,bI]
      by_cases he:j=i
      ·simp [he]
      ·rw[aW he,aW af];rfl
 |f+1,.node v l r,cq,i,j,h=>by
  unfold bB.set at h;by_cases J:i=0
  ·subst J
   simp only [beq_self_eq_true,a7,bS] at h;subst h;by_cases hj:j=0
   ·simp [hj,bB.get]
   ·have ey:(j==0)=false:=by simpa using hj
    simp [hj,ey,bB.get]
  ·have fZ:(i==0)=false:=by simpa using J
   rw[fZ,cV] at h;by_cases hm:i%2=1
   ·rw[show (i%2==1)=true by simpa using hm,a7] at h
    obtain⟨u,hu,rfl⟩:=Option.map_eq_some_iff.1 h;have bI:=bB.jY x f l u (i/2) (j/2) hu;by_cases hj:j=0
    ·subst hj;simp [bB.get,Ne.symm J]
    ·simp only [bB.get,show (j==0)=false by simpa using hj,cV]
     by_cases mf:j%2=1
     ·rw[show (j%2==1)=true by simpa using mf,a7,a7,bI]
      by_cases he:j=i
      ·simp [he]
      ·rw[aW he,aW af]
     ·rw[show (j%2==1)=false by simpa using mf,cV,cV,aW af]
   ·rw[show (i%2==1)=false by simpa using hm,cV] at h
    obtain⟨u,hu,rfl⟩:=Option.map_eq_some_iff.1 h;have bI:=bB.jY x f r u (i/2-1) (j/2-1) hu;by_cases hj:j=0
    ·subst hj;simp [bB.get,Ne.symm J]
    ·simp only [bB.get,show (j==0)=false by simpa using hj,cV]
     by_cases mf:j%2=1
     ·rw[show (j%2==1)=true by simpa using mf,a7,a7,aW af]
     ·rw[show (j%2==1)=false by simpa using mf,cV,cV,bI]
      by_cases he:j=i
      ·simp [he]
      ·rw[aW he,aW af]
def dead:Nat:=1099511627776
def cC:I:= .complex .f32 77 77
structure hd where
 key:I
 val:I
 born:Nat
def cP:Nat:=1000000
class aX where
 σ:Nat->I
 one:∀k,(∀cs,σ k≠.agg cs/\σ k≠.tuple cs)
 eb:Nat->Option Obj
 NU:∀g,σ (cP+g)= .pointer (some ⟨g,0,none⟩)
def bP (k:Nat):I:= .complex .f64 k 0
structure sJ where
 state:LoopState
 pending:Option Code
 sl:bB I
 N:Nat
 params:List Tmp
 assign:Code
 body:Code
 wK:Nat
inductive uA where
 |qe (s:ByteArray) (pos:Nat)
 |deferred
 |gone
 |loop (l:sJ)
inductive lG where
 |cells (c:List I)
 |map (es:List hd) (W5:Nat)
 |dE (x:uA)
structure fq where
 obj:lG
 bQ:Nat
 pos:Nat
 da:Nat
 ro:Bool
 ty:az
structure aD where
 bl:bB fq
 n:Nat
 mem:bB (List Nat)
 low:Nat
structure fj where
 aU:Nat
 bR:Nat
 da:Nat
 lim:Nat
abbrev bn:=Nat->Option fj
mutual
def plain:I->Bool
 | .bool _| .int .. | .float .. | .string _| .pointer none| .map none| .chan none| .nilFunc| .nilIface=>true
 | .slice none l c=>l==0&&c==0
 | .func (.func _) ⟨[]⟩ ⟨[]⟩=>true
 | .iface _ v=>plain v
 | .agg ⟨l⟩=>kj l
 | .tuple ⟨l⟩=>kj l
 |_=>false
def kj:List I->Bool
 |[]=>true
 |v::r=>plain v&&kj r
end
variable [aX]
inductive ar (φ:bn):I->I->Prop where
 |cC (au:I):ar φ cC au
 |sym (k:Nat):ar φ (bP k) (aX.σ k)
 |bool (b:Bool):ar φ (.bool b) (.bool b)
 |int (k:IntKind) (n:Int):ar φ (.int k n) (.int k n)
 |float (k:FloatKind) (b:Nat):ar φ (.float k b) (.float k b)
 |string (s:ByteArray):ar φ (.string s) (.string s)
 |ry:ar φ (.pointer none) (.pointer none)
 |ptr {b o:Nat} {e:fj} (h:φ b=some e):ar φ (.pointer (some ⟨b,o,none⟩)) (.pointer (some ⟨e.aU,e.bR+o,none⟩))
 |slnil (l c:Nat):ar φ (.slice none l c) (.slice none l c)
 |gi {o c':Nat} (aL:Addr) (h:o=0->c'=0):ar φ (.slice (some ⟨dead,o,none⟩) 0 0) (.slice (some aL) 0 c')
 |fS {b o:Nat} {e:fj} (n c:Nat) (h:φ b=some e):ar φ (.slice (some ⟨b,o,none⟩) n c) (.slice (some ⟨e.aU,e.bR+o,none⟩) n c)
 |fT {b o:Nat} {e:fj} (n c c':Nat) (h:φ b=some e) (hs:1<=e.da) (ao:c<=c') (hl:e.bR+o+c'*e.da<=e.lim):ar φ (.slice (some ⟨b,o,none⟩) n c) (.slice (some ⟨e.aU,e.bR+o,none⟩) n c')
 |sK:ar φ (.map none) (.map none)
 |map {b:Nat} {e:fj} (h:φ b=some e):ar φ (.map (some b)) (.map (some e.aU))
 |chan:ar φ (.chan none) (.chan none)
 |func {fn:Fn} (fs hI cs cs':Array I) (ah:∀l,fn≠.yield l) (h1:fs.size=hI.size) (ad:cs.size=cs'.size) (aB:∀i,i<fs.size->ar φ (fs.getD i undef) (hI.getD i undef)) (ao:∀i,i<cs.size->ar φ (cs.getD i undef) (cs'.getD i undef)):ar φ (.func fn fs cs) (.func fn hI cs')
 |nw {b:Nat} {e:fj} (h:φ b=some e):ar φ (.func (.yield b) #[] #[]) (.func (.yield e.aU) #[] #[])
 |nilFunc:ar φ .nilFunc .nilFunc
 |nilIface:ar φ .nilIface .nilIface
 |iface (t:az) {v au:I} (h:ar φ v au):ar φ (.iface t v) (.iface t au)
 |agg (cs cs':Array I) (h1:cs.size=cs'.size) (h:∀i,i<cs.size->ar φ (cs.getD i undef) (cs'.getD i undef)):ar φ (.agg cs) (.agg cs')
 |tuple (cs cs':Array I) (h1:cs.size=cs'.size) (h:∀i,i<cs.size->ar φ (cs.getD i undef) (cs'.getD i undef)):ar φ (.tuple cs) (.tuple cs')
theorem ar.rz (φ:bn):ar φ undef undef:= .tuple _ _ rfl λi h=>absurd h (by simp)
theorem ar.mono {φ bY:bn} (ft:∀b e,φ b=some e->bY b=some e) {v au:I} (h:ar φ v au):ar bY v au:=by
 induction h with
 |cC au=>exact .cC au
 |sym k=>exact .sym k
 |bool b=>exact .bool b
 |int k n=>exact .int k n
 |float k b=>exact .float k b
 |string s=>exact .string s
 |ry=>exact .ry
 |ptr h=>exact .ptr (ft _ _ h)
 |slnil l c=>exact .slnil l c
 |gi aL h=>exact .gi aL h
 |fS n c h=>exact .fS n c (ft _ _ h)
 |fT n c c' h hs ao hl=>exact .fT n c c' (ft _ _ h) hs ao hl
 |sK=>exact .sK
 |map h=>exact .map (ft _ _ h)
 |chan=>exact .chan
 |func fs hI cs cs' ah h1 ad _ _ mK mL=>exact .func fs hI cs cs' ah h1 ad mK mL
 |nw h=>exact .nw (ft _ _ h)
 |nilFunc=>exact .nilFunc
 |nilIface=>exact .nilIface
 |iface t _ bI=>exact .iface t bI
 |agg cs cs' h1 _ bI=>exact .agg cs cs' h1 bI
 |tuple cs cs' h1 _ bI=>exact .tuple cs cs' h1 bI
mutual
theorem ar.h5 (φ:bn):∀v:I,plain v=true->ar φ v v
 | .bool b,_=> .bool b
 | .int k n,_=> .int k n
 | .float k b,_=> .float k b
 | .string s,_=> .string s
 | .pointer none,_=> .ry
 | .map none,_=> .sK
 | .chan none,_=> .chan
 | .nilFunc,_=> .nilFunc
 | .nilIface,_=> .nilIface
 | .slice none l c,_=> .slnil l c
 | .func (.func f) ⟨[]⟩ ⟨[]⟩,_=> .func _ _ _ _ (λl h=>by cases h) ae ae (λi h=>absurd h (by simp)) (λi h=>absurd h (by simp))
 | .iface t v,h=> .iface t (ar.h5 φ v (by simpa [plain] using h))
 | .agg ⟨l⟩,h=> .agg _ _ rfl λi J=>by
     have:=ar.Ce φ l (by simpa [plain] using h) i J;simpa using this
 | .tuple ⟨l⟩,h=> .tuple _ _ rfl λi J=>by
     have:=ar.Ce φ l (by simpa [plain] using h) i J;simpa using this
theorem ar.Ce (φ:bn):∀l:List I,kj l=true->∀i,i<l.length->ar φ (l.getD i Go.undef) (l.getD i Go.undef)
 |[],_,i,J=>absurd J (by simp)
 |v::r,h,0,_=>by
   have:=ar.h5 φ v (by simp [kj] at h;exact h.1);simpa using this
 |v::r,h,i+1,J=>by
   have:=ar.Ce φ r (by simp [kj] at h;exact h.2) i (by simpa using J);simpa using this
end
end AE
end
namespace AE
variable [aX]
structure sL (A:aD):Prop where
 lt:∀b k,A.bl.get b=some k->b<A.n
 nx:∀b k,A.bl.get b=some k->k.bQ<A.n
 mem:∀b k,A.bl.get b=some k->∃l,A.mem.get k.bQ=some l/\b∈l
 od:∀b k b' k',A.bl.get b=some k->A.bl.get b'=some k'->k.bQ=k'.bQ->k.ro=k'.ro
def mg (φ:bn):uA->Obj->Prop
 | .qe s p,o=>o= .stringIter s p
 | .deferred,o=>o= .deferred (some [])
 | .gone,o=>o= .deferred none
 | .loop l,o=>∃r:Loop,o= .loop r/\r.state=l.state/\r.pending=l.pending/\r.tmps.size=l.N/\r.params=⟨l.params⟩/\r.assign=l.assign/\r.body=l.body/\(∃e,φ l.wK=some e/\r.defers=e.aU)/\
     (∀t v,l.sl.get t=some v->ar φ v (r.tmps.getD t undef))
theorem mg.HD {φ:bn} {x:uA} {c:Array I} {t:az} {f:Nat×Nat} (h:mg φ x (.cells c t f)):False:=by
 cases x with
 |qe s p=>cases h
 |deferred=>cases h
 |gone=>cases h
 |loop l=>obtain⟨r,h,_⟩:=h;cases h
theorem mg.mono {φ bY:bn} {x:uA} {o:Obj} (ft:∀b e,φ b=some e->bY b=some e) (h:mg φ x o):mg bY x o:=by
 cases x with
 |qe s p=>exact h
 |deferred=>exact h
 |gone=>exact h
 |loop l=>
  obtain⟨r,h0,h1,ad,al,bb,b5,cE,⟨e,fC,kk⟩,NV⟩:=h;exact⟨r,h0,h1,ad,al,bb,b5,cE,⟨e,ft _ _ fC,kk⟩,λt v aw=>(NV t v aw).mono ft⟩
def dZ (φ:bn) (w:aj) (e:fj) (k:fq):Prop:=
 match k.obj with
 | .cells c=>∃c' gV,w.heap[e.aU]? =some (.cells c' k.ty gV)/\e.lim=c'.size/\(e.bR+c.length<=c'.size/\(k.da=0->e.bR=0/\c.length=c'.size))/\
     (∀j,j<c.length->ar φ (c.getD j undef) (c'.getD (e.bR+j) undef))/\(k.ro=false->∀i,i<c'.size->¬(gV.1<=i/\i<gV.2))
 | .map es cl=>∃cj,w.heap[e.aU]? =some (.map cj cl)/\es.length=cj.size/\
     ∀(j:Nat) (a:hd) (b:MapEntry),es[j]? =some a->cj[j]? =some b->plain a.key=true/\a.key=b.key/\ar φ a.val b.val/\a.born=b.born
 | .dE x=>e.bR=0/\∃o',w.heap[e.aU]? =some o'/\mg φ x o'
structure bs (φ:bn) (A:aD) (w:aj):Prop where
 wf:sL A
 c5:∀b e,φ b=some e->∃k,A.bl.get b=some k/\e.da=k.da/\dZ φ w e k
 apart:∀b e k b' e' k',φ b=some e->φ b'=some e'->A.bl.get b=some k->A.bl.get b'=some k'->k.bQ≠k'.bQ->e.aU≠e'.aU
 along:∀b e k b' e' k',φ b=some e->φ b'=some e'->A.bl.get b=some k->A.bl.get b'=some k'->k.bQ=k'.bQ->e.aU=e'.aU->e.bR+k'.pos=e'.bR+k.pos
 eb:∀i o,aX.eb i=some o->w.heap[i]? =some o/\∀b e,φ b=some e->e.aU≠i
abbrev k5 (w:aj):Nat:=w.drawn
structure bF (φ:bn) (A:aD) (w:aj) (bY:bn) (aO:aD) (w':aj):Prop where
 rel:bs bY aO w'
 c5:∀b,b<A.n->bY b=φ b
 mh:∀b,A.n<=b->b<aO.n->bY b≠none
 new:∀b e,A.n<=b->bY b=some e->w.heap.size<=e.aU\/∃d' c3 k0,φ d'=some c3/\c3.aU=e.aU/\aO.low<=d'/\A.bl.get d'=some k0/\k0.ro=false
 k6:A.n<=aO.n
 low:aO.low<=A.low
 same:∀b,b<A.n->b<aO.low->aO.bl.get b=A.bl.get b
 ro:∀b k,A.bl.get b=some k->k.ro=true->aO.bl.get b=some k
 keep:∀i,i<w.heap.size->(∀b e k,φ b=some e->e.aU=i->A.bl.get b=some k->k.ro=true)->w'.heap[i]? =w.heap[i]?
 eL:w.heap.size<=w'.heap.size
 os:w'.os=w.os
 tape:w'.tape=w.tape
 output:w'.output=w.output
 drawn:k5 w<=k5 w'
theorem bs.lt {φ:bn} {A:aD} {w:aj} (h:bs φ A w) {b:Nat} {e:fj} (U:φ b=some e):b<A.n:=by
 obtain⟨k,hk,_⟩:=h.c5 b e U;exact h.wf.lt b k hk
theorem bF.ext {φ bY:bn} {A aO:aD} {w w':aj} (h:bF φ A w bY aO w') (hr:bs φ A w):∀b e,φ b=some e->bY b=some e:=λb e U=>by
 rw[h.c5 b (hr.lt U)];exact U
theorem bF.refl {φ:bn} {A:aD} {w:aj} (h:bs φ A w):bF φ A w φ A w where
 rel:=h
 c5:=λ_ _=>rfl
 mh:=λb h1 ad=>by omega
 new:=λb e h1 ad=>absurd (h.lt ad) af
 k6:=bM _
 low:=bM _
 same:=λ_ _ _=>rfl
 ro:=λ_ _ h _=>h
 keep:=λ_ _ _=>rfl
 eL:=bM _
 os:=rfl
 tape:=rfl
 output:=rfl
 drawn:=bM _
theorem bF.trans {φ eE dF:bn} {A aY dP:aD} {w w1 cQ:aj} (hr:bs φ A w) (h1:bF φ A w eE aY w1) (ad:bF eE aY w1 dF dP cQ):bF φ A w dF dP cQ where
 rel:=ad.rel
 c5:=λb U=>by rw[ad.c5 b (Nat.lt_of_lt_of_le U h1.k6),h1.c5 b U]
 mh:=λb h gD=>by
  rcases Nat.lt_or_ge b aY.n with aM|hV
  ·rw[ad.c5 b aM];exact h1.mh b h aM
  ·exact ad.mh b hV gD
 new:=by
  have first:∀b e,A.n<=b->eE b=some e->w.heap.size<=e.aU\/∃d' c3 k0,φ d'=some c3/\c3.aU=e.aU/\dP.low<=d'/\A.bl.get d'=some k0/\k0.ro=false:=λb e U he=>by
   rcases h1.new b e U he with h|⟨d',c3,k0,q1,aJ,cg,dn,fe⟩
   ·exact .inl h
   ·exact .inr ⟨d',c3,k0,q1,aJ,Nat.le_trans ad.low cg,dn,fe⟩
  intro b e U he;rcases Nat.lt_or_ge b aY.n with aM|hV
  ·rw[ad.c5 b aM] at he
   exact first b e U he
  ·rcases ad.new b e hV he with h|⟨d',c3,k0,q1,aJ,cg,dn,fe⟩
   ·exact .inl (Nat.le_trans h1.eL h)
   ·rcases Nat.lt_or_ge d' A.n with aM|NW
    ·rw[h1.c5 d' aM] at q1
     obtain⟨k,hk,_⟩:=hr.c5 d' c3 q1;refine .inr ⟨d',c3,k,q1,aJ,cg,hk,?_⟩;cases cy:k.ro with
     |false=>rfl
     |true=>
      have:=h1.ro d' k hk cy;rw[dn] at this;cases this;rw[fe] at cy;exact cy.symm▸rfl
    ·rcases first d' c3 NW q1 with h|⟨eH,e1,bK,cH,dj,eR,uB,uC⟩
     ·exact .inl af
     ·exact .inr ⟨eH,e1,bK,cH,dj.trans aJ,eR,uB,uC⟩
 k6:=Nat.le_trans h1.k6 ad.k6
 low:=Nat.le_trans ad.low h1.low
 same:=λb U hl=>by rw[ad.same b (Nat.lt_of_lt_of_le U h1.k6) hl,h1.same b U (Nat.lt_of_lt_of_le hl ad.low)]
 ro:=λb k hk cy=>ad.ro b k (h1.ro b k hk cy) cy
 keep:=λi J h6=>by
  rw[ad.keep i (Nat.lt_of_lt_of_le J h1.eL) ?_,h1.keep i J h6];intro b e k U he hk;rcases Nat.lt_or_ge b A.n with aM|hV
  ·rw[h1.c5 b aM] at U
   obtain⟨k0,fU,_⟩:=hr.c5 b e U;have cy:=h6 b e k0 U he fU;have:=h1.ro b k0 fU cy;rw[hk] at this;cases this;exact cy
  ·rcases h1.new b e hV U with h|⟨d',c3,k0,q1,aJ,cg,dn,fe⟩
   ·omega
   ·have:=h6 d' c3 k0 q1 (aJ.trans he) dn
    rw[fe] at this;cases this
 eL:=Nat.le_trans h1.eL ad.eL
 os:=ad.os.trans h1.os
 tape:=ad.tape.trans h1.tape
 output:=ad.output.trans h1.output
 drawn:=Nat.le_trans h1.drawn ad.drawn
theorem bF.rA {φ:bn} {A:aD} {w:aj} (h:bs φ A w) (n:Nat) (aH:w.drawn<=n:=by omega):bF φ A w φ A {w with drawn:=n}:=
 {bF.refl h with rel:=⟨h.wf,h.c5,h.apart,h.along,h.eb⟩,keep:=λ_ _ _=>rfl,drawn:=aH}
def depth:Nat:=30
def aD.push (A:aD) (o:lG) (st:Nat) (ty:az):Option (Nat×aD):=
 match bB.set {obj:=o,bQ:=A.n,pos:=0,da:=st,ro:=false,ty:=ty:fq} depth A.bl A.n,bB.set [A.n] depth A.mem A.n with
 |some bl,some mem=>some (A.n,{A with bl,mem,n:=A.n+1})
 |_,_=>none
def eT (φ:bn) (b:Nat) (e:fj):bn:=λi=>if i=b then some e else φ i
omit [aX] in
theorem sL.push {A aO:aD} {o:lG} {st:Nat} {ty:az} {r:Nat} (h:sL A) (hp:A.push o st ty=some (r,aO)):
  sL aO/\r=A.n/\aO.n=A.n+1/\aO.low=A.low/\(∀b,aO.bl.get b=if b=A.n then some {obj:=o,bQ:=A.n,pos:=0,da:=st,ro:=false,ty:=ty} else A.bl.get b):=by
 unfold aD.push at hp;split at hp
 ·rename_i bl mem U hm
  simp only [bS,Prod.mk.injEq] at hp;obtain⟨rfl,rfl⟩:=hp;have iy:=λb=>bB.jY _ _ _ _ _ b U
  have uD:=λb=>bB.jY _ _ _ _ _ b hm
  refine⟨⟨?_,?_,?_,?_⟩,rfl,rfl,rfl,iy⟩
  ·intro b k hk
   simp only at hk ⊢;rw[iy] at hk;split at hk
   ·omega
   ·have:=h.lt b k hk;omega
  ·intro b k hk
   simp only at hk ⊢;rw[iy] at hk;split at hk
   ·cases hk;simp
   ·have:=h.nx b k hk;omega
  ·intro b k hk
   simp only at hk ⊢;rw[iy] at hk;split at hk
   ·rename_i U
    cases hk;exact⟨[A.n],by rw[uD,aR rfl],by simp [U]⟩
   ·obtain⟨l,hl,qf⟩:=h.mem b k hk
    exact⟨l,by rw[uD,aW (by have:=h.nx b k hk;omega)];exact hl,qf⟩
  ·intro b k b' k' hk cc aB
   simp only at hk cc;rw[iy] at hk cc;split at hk
   ·cases hk
    split at cc
    ·cases cc;rfl
    ·have:=h.nx b' k' cc;simp only at aB;omega
   ·split at cc
    ·cases cc
     have:=h.nx b k hk;simp only at aB;omega
    ·exact h.od b k b' k' hk cc aB
 ·cases hp
theorem dZ.mono {φ bY:bn} {w w':aj} {e:fj} {k:fq} (ft:∀b e,φ b=some e->bY b=some e) (hw:w'.heap[e.aU]? =w.heap[e.aU]?) (h:dZ φ w e k):dZ bY w' e k:=by
 unfold dZ at*
 cases hk:k.obj with
 |cells c=>
  simp only [hk] at h ⊢;obtain⟨c',gV,h1,ad,al,bb,b5⟩:=h;exact⟨c',gV,hw.trans h1,ad,al,λj hj=>(bb j hj).mono ft,b5⟩
 |map es cl=>
  simp only [hk] at h ⊢;obtain⟨cj,h1,ad,al⟩:=h;refine⟨cj,hw.trans h1,ad,λj a b ha U=> ?_⟩;obtain⟨q1,aJ,cg,dn⟩:=al j a b ha U;exact⟨q1,aJ,cg.mono ft,dn⟩
 |dE x=>
  simp only [hk] at h ⊢;obtain⟨h0,o',h1,ad⟩:=h;exact⟨h0,o',hw.trans h1,ad.mono ft⟩
theorem dZ.lt {φ:bn} {w:aj} {e:fj} {k:fq} (h:dZ φ w e k):e.aU<w.heap.size:=by
 unfold dZ at h;cases hk:k.obj with
 |cells c=>
  simp only [hk] at h;obtain⟨c',gV,h1,_⟩:=h;exact(Array.getElem?_eq_some_iff.1 h1).1
 |map es cl=>
  simp only [hk] at h;obtain⟨cj,h1,_⟩:=h;exact(Array.getElem?_eq_some_iff.1 h1).1
 |dE x=>
  simp only [hk] at h;obtain⟨h0,o',h1,ad⟩:=h;exact(Array.getElem?_eq_some_iff.1 h1).1
theorem uE {φ:bn} {A aO:aD} {w:aj} {o:lG} {st:Nat} {ty:az} {r:Nat} {o':Obj} {e:fj} (hr:bs φ A w) (hp:A.push o st ty=some (r,aO)) (he:e.aU=w.heap.size) (cd:e.da=st)
  (ax:dZ (eT φ r e) {w with heap:=w.heap.push o'} e {obj:=o,bQ:=A.n,pos:=0,da:=st,ro:=false,ty:=ty}):
  bF φ A w (eT φ r e) aO {w with heap:=w.heap.push o'}:=by
 obtain⟨oe,rfl,ah,po,eU⟩:=hr.wf.push hp;have hold:∀b e1,φ b=some e1->eT φ A.n e b=some e1:=λb e1 U=>by
  unfold eT;rw[aW (by have:=hr.lt U;omega)];exact U
 have kK:∀i,i<w.heap.size->(w.heap.push o')[i]? =w.heap[i]? :=λi J=>by
  rw[Array.getElem?_push,aW af]
 have iG:∀b e1,eT φ A.n e b=some e1->(b=A.n/\e1=e)\/(b≠A.n/\φ b=some e1):=λb e1 U=>by
  unfold eT at U;split at U
  ·rename_i h;cases U;exact .inl ⟨h,rfl⟩
  ·rename_i h;exact .inr ⟨h,U⟩
 refine {rel:=⟨oe,?_,?_,?_,λi o J=>by
   obtain⟨h1,ad⟩:=hr.eb i o J;have aM:i<w.heap.size:=(Array.getElem?_eq_some_iff.1 h1).1;refine⟨by rw[kK i aM];exact h1,λb e1 U=> ?_⟩;rcases iG b e1 U with ⟨rfl,rfl⟩|⟨_,U⟩
   ·omega
   ·exact ad b e1 U⟩,c5:= ?_,mh:= ?_,new:= ?_,k6:=by omega,low:=by omega,same:= ?_,ro:= ?_,keep:= ?_,eL:=by simp,os:=rfl,tape:=rfl,output:=rfl,drawn:=bM _}
 ·intro b e1 U
  rcases iG b e1 U with ⟨rfl,rfl⟩|⟨ch,U⟩
  ·exact⟨_,by rw[eU,aR rfl],cd,ax⟩
  ·obtain⟨k,hk,h1,ad⟩:=hr.c5 b e1 U
   exact⟨k,by rw[eU,aW ch];exact hk,h1,ad.mono hold (kK _ ad.lt)⟩
 ·intro b e1 k b' jZ k' U cK hk cc ch
  rw[eU] at hk cc;rcases iG b e1 U with ⟨rfl,rfl⟩|⟨h7,mM⟩
  ·rcases iG b' jZ cK with ⟨rfl,rfl⟩|⟨gj,lH⟩
   ·rw[aR rfl] at hk cc;cases hk;cases cc;exact absurd rfl ch
   ·obtain⟨bK,_,_,ad⟩:=hr.c5 b' jZ lH
    have:=ad.lt;omega
  ·rcases iG b' jZ cK with ⟨rfl,rfl⟩|⟨gj,lH⟩
   ·obtain⟨bK,_,_,ad⟩:=hr.c5 b e1 mM
    have:=ad.lt;omega
   ·rw[aW h7] at hk;rw[aW gj] at cc
    exact hr.apart b e1 k b' jZ k' mM lH hk cc ch
 ·intro b e1 k b' jZ k' U cK hk cc kl hblk
  rw[eU] at hk cc;rcases iG b e1 U with ⟨rfl,rfl⟩|⟨h7,mM⟩
  ·rcases iG b' jZ cK with ⟨rfl,rfl⟩|⟨gj,lH⟩
   ·rw[aR rfl] at hk cc;cases hk;cases cc;rfl
   ·obtain⟨bK,_,_,ad⟩:=hr.c5 b' jZ lH
    have:=ad.lt;omega
  ·rcases iG b' jZ cK with ⟨rfl,rfl⟩|⟨gj,lH⟩
   ·obtain⟨bK,_,_,ad⟩:=hr.c5 b e1 mM
    have:=ad.lt;omega
   ·rw[aW h7] at hk;rw[aW gj] at cc
    exact hr.along b e1 k b' jZ k' mM lH hk cc kl hblk
 ·intro b U
  unfold eT;rw[aW af]
 ·intro b h1 ad
  have:b=A.n:=by omega
  subst this;simp [eT]
 ·intro b e1 h1 U
  rcases iG b e1 U with ⟨rfl,rfl⟩|⟨h7,U⟩
  ·exact .inl af
  ·exact absurd (hr.lt U) af
 ·intro b U _
  rw[eU,aW af]
 ·intro b k hk _
  rw[eU,aW (by have:=hr.wf.lt b k hk;omega)];exact hk
 ·intro i J _
  exact kK i J
end AE
namespace AE
variable [aX]
def aD.load (A:aD) (b off:Nat):Option I:=
 match A.bl.get b with
 |some {obj:= .cells c,..}=>c[off]?
 |_=>none
theorem qg {φ:bn} {A:aD} {w:aj} (hr:bs φ A w) {b off:Nat} {v:I} {e:fj} (h:A.load b off=some v) (he:φ b=some e):
  ∃au,w.cell? ⟨e.aU,e.bR+off,none⟩=some au/\ar φ v au:=by
 obtain⟨k,hk,_,ax⟩:=hr.c5 b e he;unfold aD.load at h;rw[hk] at h;obtain⟨pq,bQ,pos,da,ro,ty⟩:=k;cases pq with
 |cells c=>
  simp only [dZ] at h ax;obtain⟨c',gV,h1,ad,al,bb,b5⟩:=ax;obtain⟨aM,aw⟩:=List.getElem?_eq_some_iff.1 h;refine⟨c'.getD (e.bR+off) undef,?_,?_⟩
  ·simp only [World.cell?,h1]
   simp [show e.bR+off<c'.size by omega]
  ·have:=bb off aM
   rw[de,h] at this;simpa using this
 |map es cl=>simp at h
 |dE x=>simp at h
def hW (pos:Nat) (k:fq):fq:=
 bif k.ro then k else
 match k.obj with
 | .cells c=>bif Nat.ble k.pos pos then {k with obj:= .cells (c.set (pos-k.pos) cC)} else k
 |_=>k
omit [aX] in
theorem sM (pos:Nat) (k:fq):(hW pos k).bQ=k.bQ/\(hW pos k).pos=k.pos/\(hW pos k).da=k.da/\(hW pos k).ro=k.ro/\hW pos (hW pos k)=hW pos k/\(k.ro=true->hW pos k=k)/\(hW pos k).ty=k.ty:=by
 obtain⟨pq,bQ,p,st,ro,ty⟩:=k;cases ro with
 |true=>simp [hW]
 |false=>
  cases pq with
  |cells c=>cases h:Nat.ble p pos<;>simp [hW,h]
  |map es cl=>simp [hW]
  |dE x=>simp [hW]
omit [aX] in
theorem NY (pos:Nat) (k:fq):(hW pos k).bQ=k.bQ:=(sM pos k).1
omit [aX] in
theorem NZ (pos:Nat) (k:fq):(hW pos k).pos=k.pos:=(sM pos k).2.1
omit [aX] in
theorem Cf (pos:Nat) (k:fq):(hW pos k).da=k.da:=(sM pos k).2.2.1
omit [aX] in
theorem N0 (pos:Nat) (k:fq):(hW pos k).ro=k.ro:=(sM pos k).2.2.2.1
omit [aX] in
theorem N1 (pos:Nat) (k:fq):(hW pos k).ty=k.ty:=(sM pos k).2.2.2.2.2.2
omit [aX] in
theorem N2 (pos:Nat) (k:fq):hW pos (hW pos k)=hW pos k:=(sM pos k).2.2.2.2.1
def rB (pos b:Nat):List Nat->bB fq->Option (bB fq)
 |[],t=>some t
 |m::r,t=>bif m==b then rB pos b r t else
  match t.get m with
  |some k=>match bB.set (hW pos k) depth t m with
   |some cq=>rB pos b r cq
   |none=>none
  |none=>rB pos b r t
omit [aX] in
theorem y3 (pos b:Nat):∀(l:List Nat) (t cq:bB fq),rB pos b l t=some cq->
  ∀j,cq.get j=if j∈l/\j≠b then (t.get j).map (hW pos) else t.get j
 |[],t,cq,h,j=>by simp [rB] at h;simp [h]
 |m::r,t,cq,h,j=>by
  unfold rB at h;by_cases hm:m=b
  ·rw[show (m==b)=true by simpa using hm,a7] at h
   rw[y3 pos b r t cq h j];subst hm;by_cases hj:j∈r/\j≠m
   ·rw[aR hj,aR ⟨List.mem_cons_of_mem _ hj.1,hj.2⟩]
   ·rw[aW hj,aW]
    rintro ⟨h1,ad⟩;rcases List.mem_cons.1 h1 with h1|h1
    ·exact ad h1
    ·exact hj ⟨h1,ad⟩
  ·rw[show (m==b)=false by simpa using hm,cV] at h
   cases av:t.get m with
   |none=>
    rw[av] at h;rw[y3 pos b r t cq h j];by_cases eF:j=m
    ·subst eF
     rw[av];split<;>split<;>rfl
    ·have:(j∈m::r/\j≠b)↔(j∈r/\j≠b):=by simp [eF]
     simp only [this]
   |some k=>
    rw[av] at h;simp only at h;cases hs:bB.set (hW pos k) depth t m with
    |none=>rw[hs] at h;cases h
    |some t1=>
     rw[hs] at h;have eU:=λj=>bB.jY _ _ _ _ _ j hs
     rw[y3 pos b r t1 cq h j,eU];by_cases eF:j=m
     ·subst eF
      rw[aR rfl,aR (show j∈j::r/\j≠b from ⟨List.mem_cons_self,hm⟩),av];split
      ·simp [N2]
      ·simp
     ·rw[aW eF]
      have:(j∈m::r/\j≠b)↔(j∈r/\j≠b):=by simp [eF]
      simp only [this]
def aD.store (A:aD) (b off:Nat) (v:I):Option aD:=
 match A.bl.get b with
 |some k=>
  bif k.ro then none else
  match k.obj with
  | .cells c=>bif Nat.blt off c.length then
      match A.mem.get k.bQ,bB.set {k with obj:= .cells (c.set off v)} depth A.bl b with
      |some l,some t=>match rB (k.pos+off) b l t with
       |some cq=>some {A with bl:=cq,low:=l.foldl Nat.min A.low}
       |none=>none
      |_,_=>none
    else none
  |_=>none
 |none=>none
omit [aX] in
theorem y4:∀(l:List Nat) (x:Nat),l.foldl Nat.min x<=x/\∀m∈l,l.foldl Nat.min x<=m
 |[],x=>⟨bM _,λm h=>by cases h⟩
 |a::r,x=>by
  obtain⟨h1,ad⟩:=y4 r (Nat.min x a);refine⟨Nat.le_trans h1 (Nat.min_le_left _ _),λm hm=> ?_⟩;rcases List.mem_cons.1 hm with rfl|hm
  ·exact Nat.le_trans h1 (Nat.min_le_right _ _)
  ·exact ad m hm
omit [aX] in
theorem N3 {A aO:aD} {b off:Nat} {v:I} (h:A.store b off v=some aO):
  ∃k c l,A.bl.get b=some k/\k.ro=false/\k.obj= .cells c/\off<c.length/\A.mem.get k.bQ=some l/\aO.n=A.n/\aO.mem=A.mem/\aO.low<=A.low/\(∀m∈l,aO.low<=m)/\
   aO.bl.get b=some {k with obj:= .cells (c.set off v)}/\(∀j,j≠b->aO.bl.get j=if j∈l then (A.bl.get j).map (hW (k.pos+off)) else A.bl.get j):=by
 unfold aD.store at h;cases hk:A.bl.get b with
 |none=>rw[hk] at h;cases h
 |some k=>
  rw[hk] at h;obtain⟨pq,bQ,pos,da,ro,ty⟩:=k;simp only at h;cases ro with
  |true=>cases h
  |false=>
   simp only [cV] at h;cases pq with
   |map es cl=>cases h
   |dE x=>cases h
   |cells c=>
    simp only at h;cases U:Nat.blt off c.length with
    |false=>rw[U] at h;cases h
    |true=>
     rw[U,a7] at h;cases hm:A.mem.get bQ with
     |none=>rw[hm] at h;cases h
     |some l=>
      rw[hm] at h;cases hs:bB.set {obj:= .cells (c.set off v),bQ:=bQ,pos:=pos,da:=da,ro:=false,ty:=ty:fq} depth A.bl b with
      |none=>rw[hs] at h;cases h
      |some t=>
       rw[hs] at h;simp only at h;cases hp:rB (pos+off) b l t with
       |none=>rw[hp] at h;cases h
       |some cq=>
        rw[hp] at h;simp only [bS] at h;subst h;have eU:=λj=>bB.jY _ _ _ _ _ j hs
        have h6:=y3 _ _ _ _ _ hp;obtain⟨f1,f2⟩:=y4 l A.low;refine⟨_,c,l,rfl,rfl,rfl,Nat.blt_eq.mp U,hm,rfl,rfl,f1,f2,?_,?_⟩
        ·simp only [h6,eU]
         simp
        ·intro j hj
         simp only [h6,eU,hj,ne_eq,not_false_eq_true,and_true,if_false]
theorem HE {φ:bn} {A aO:aD} {w:aj} (hr:bs φ A w) {b off:Nat} {v au:I} {e:fj} (h:A.store b off v=some aO) (he:φ b=some e) (aw:ar φ v au):
  bF φ A w φ aO (w.setCell ⟨e.aU,e.bR+off,none⟩ au)/\(∃u,w.cell? ⟨e.aU,e.bR+off,none⟩=some u)/\w.frozen? ⟨e.aU,e.bR+off,none⟩=false:=by
 obtain⟨k,c,l,hk,cy,dQ,aM,j0,ah,qh,po,y5,HF,pr⟩:=N3 h;obtain⟨k0,fU,cd,ax⟩:=hr.c5 b e he;rw[hk] at fU;cases fU;have qf:b∈l:=by
  obtain⟨l',eS,cK⟩:=hr.wf.mem b k hk;rw[j0] at eS;cases eS;exact cK
 have jv:=ax;unfold dZ at ax;simp only [dQ] at ax;obtain⟨c',gV,h1,ad,al,bb,b5⟩:=ax;have rC:=b5 cy;have hblk:e.aU<w.heap.size:=jv.lt;have hw:(w.setCell ⟨e.aU,e.bR+off,none⟩ au).heap[e.aU]? =some (.cells (c'.setIfInBounds (e.bR+off) au) k.ty gV):=by
  simp only [World.setCell,Array.getElem?_modify,aR,h1];simp
 have k7:∀i,i≠e.aU->(w.setCell ⟨e.aU,e.bR+off,none⟩ au).heap[i]? =w.heap[i]? :=λi J=>by
  simp only [World.setCell,Array.getElem?_modify];rw[aW (Ne.symm J)]
 have eM:∀j cA,aO.bl.get j=some cA->∃bu,A.bl.get j=some bu/\cA.bQ=bu.bQ/\cA.pos=bu.pos/\cA.da=bu.da/\cA.ro=bu.ro/\cA.ty=bu.ty:=by
  intro j cA hj;by_cases ny:j=b
  ·subst ny
   rw[HF] at hj;cases hj;exact⟨k,hk,rfl,rfl,rfl,rfl,rfl⟩
  ·rw[pr j ny] at hj
   split at hj
   ·obtain⟨bu,h1,rfl⟩:=Option.map_eq_some_iff.1 hj
    exact⟨bu,h1,NY _ _,NZ _ _,Cf _ _,N0 _ _,N1 _ _⟩
   ·exact⟨cA,hj,rfl,rfl,rfl,rfl,rfl⟩
 refine⟨{rel:=⟨⟨?_,?_,?_,?_⟩,?_,?_,?_,λi o J=>⟨by rw[k7 i (Ne.symm ((hr.eb i o J).2 _ _ he))];exact(hr.eb i o J).1,(hr.eb i o J).2⟩⟩,c5:=λ_ _=>rfl,mh:=λb h1 ad=>by omega,new:=λb e h1 ad=>absurd (hr.lt ad) af,k6:=by omega,low:=po,same:= ?_,ro:= ?_,keep:= ?_,eL:=by simp [World.setCell],os:=rfl,tape:=rfl,output:=rfl,drawn:=bM _},?_,?_⟩
 ·intro j bu hj
  obtain⟨bK,q1,_⟩:=eM j bu hj;rw[ah];exact hr.wf.lt j bK q1
 ·intro j bu hj
  obtain⟨bK,q1,aJ,_⟩:=eM j bu hj;rw[ah,aJ];exact hr.wf.nx j bK q1
 ·intro j bu hj
  obtain⟨bK,q1,aJ,_⟩:=eM j bu hj;rw[qh,aJ];exact hr.wf.mem j bK q1
 ·intro j bu dG cA hj ey aB
  obtain⟨bK,q1,aJ,_,_,cg,_⟩:=eM j bu hj;obtain⟨og,oh,sN,_,_,mN,_⟩:=eM dG cA ey;rw[cg,mN];exact hr.wf.od j bK dG og q1 oh (by rw[<-aJ,<-sN];exact aB)
 ·intro j dR hj
  obtain⟨bu,ff,pt,fx⟩:=hr.c5 j dR hj;by_cases ny:j=b
  ·subst ny
   rw[he] at hj;cases hj;rw[hk] at ff;cases ff;refine⟨_,HF,cd,?_⟩;simp only [dZ];refine⟨_,_,hw,by simpa using ad,by simpa using al,?_,λ_=>by simpa using rC⟩;intro i J;simp only [List.length_set] at J;by_cases kL:i=off
   ·subst kL
    rw[de,List.getElem?_set_self J];simp only [dD,Array.getElem?_setIfInBounds,aR];rw[aR af];exact aw
   ·rw[de,List.getElem?_set_ne (Ne.symm kL),<-de]
    have:=bb i J;simp only [dD,Array.getElem?_setIfInBounds] at this ⊢;rw[aW af];exact this
  ·by_cases qi:dR.aU=e.aU
   ·
    have kl:bu.bQ=k.bQ:=by
     rcases Nat.lt_or_ge bu.bQ k.bQ with h|h
     ·exact absurd qi (hr.apart j dR bu b e k hj he ff hk af)
     ·rcases Nat.eq_or_lt_of_le h with h|h
      ·exact h.symm
      ·exact absurd qi (hr.apart j dR bu b e k hj he ff hk af)
    have gE:j∈l:=by
     obtain⟨l',eS,cK⟩:=hr.wf.mem j bu ff;rw[kl,j0] at eS;cases eS;exact cK
    have uF:=hr.along j dR bu b e k hj he ff hk kl qi;refine⟨hW (k.pos+off) bu,by rw[pr j ny,aR gE,ff];rfl,by rw[Cf];exact pt,?_⟩;obtain⟨Cg,HG,pv,HH,y6,HI⟩:=bu;simp only at kl uF pt;cases Cg with
    |map es cl=>
     simp only [dZ] at fx;obtain⟨cj,g1,_⟩:=fx;rw[qi,h1] at g1;cases g1
    |dE x=>
     simp only [dZ] at fx;obtain⟨_,o',g1,g2⟩:=fx;rw[qi,h1] at g1;cases g1;exact absurd g2 λh=>mg.HD h
    |cells sO=>
     simp only [dZ] at fx;obtain⟨wL,wM,g1,g2,b6,g4,ih⟩:=fx;rw[qi,h1] at g1;simp only [bS,Obj.cells.injEq] at g1;obtain⟨rfl,hty,rfl⟩:=g1;have key:∀(cl:List I),cl.length=sO.length->(∀i,i<sO.length->(dR.bR+i=e.bR+off->cl[i]? =some cC)/\(dR.bR+i≠e.bR+off->cl[i]? =sO[i]? \/cl[i]? =some cC))->
       dZ φ (w.setCell ⟨e.aU,e.bR+off,none⟩ au) dR {obj:= .cells cl,bQ:=HG,pos:=pv,da:=HH,ro:=y6,ty:=HI}:=by
      intro cl nz ez;simp only [dZ];refine⟨_,_,by rw[qi,<-hty];exact hw,by simpa using g2,by rw[nz];simpa using b6,?_,λ_=>by simpa using rC⟩;intro i J;rw[nz] at J;obtain⟨q1,aJ⟩:=ez i J;by_cases rD:dR.bR+i=e.bR+off
      ·rw[de,q1 rD]
       exact .cC _
      ·rcases aJ rD with q|q
       ·rw[de,q,<-de]
        have:=g4 i J;simp only [dD,Array.getElem?_setIfInBounds] at this ⊢;rw[aW af];exact this
       ·rw[de,q]
        exact .cC _
     have mi:y6=false:=by
      have:=hr.wf.od j _ b k ff hk kl;simpa [cy] using this
     subst mi;unfold hW;simp only [cV];cases y7:Nat.ble pv (k.pos+off) with
     |false=>
      simp only [cV];refine key sO rfl λi J=>⟨λhp=> ?_,λ_=> .inl rfl⟩
      have:¬pv<=k.pos+off:=by
       intro hle;rw[Nat.ble_eq.mpr hle] at y7;cases y7
      omega
     |true=>
      have hle:=Nat.ble_eq.mp y7;simp only [a7];refine key _ (by simp) λi J=>⟨λhp=> ?_,λhp=> ?_⟩
      ·have:k.pos+off-pv=i:=by omega
       rw[this,List.getElem?_set_self J]
      ·have:k.pos+off-pv≠i:=by omega
       rw[List.getElem?_set_ne this];exact .inl rfl
   ·
    rw[pr j ny];by_cases gE:j∈l
    ·rw[aR gE,ff]
     refine⟨_,rfl,by rw[Cf];exact pt,?_⟩;have uG:dZ φ (w.setCell ⟨e.aU,e.bR+off,none⟩ au) dR bu:=fx.mono (λ_ _ h=>h) (k7 _ qi);unfold hW;obtain⟨Cg,HG,pv,HH,y6,HI⟩:=bu;cases y6 with
     |true=>exact uG
     |false=>
     simp only [cV];cases Cg with
     |map es cl=>exact uG
     |dE x=>exact uG
     |cells sO=>
      simp only;cases y7:Nat.ble pv (k.pos+off) with
      |false=>exact uG
      |true=>
       simp only [a7];simp only [dZ] at uG ⊢;obtain⟨wL,wM,g1,g2,b6,g4,ih⟩:=uG;refine⟨wL,wM,g1,g2,by simpa using b6,λi J=> ?_,ih⟩;simp only [List.length_set] at J;by_cases qj:k.pos+off-pv=i
       ·rw[qj,de,List.getElem?_set_self J]
        exact .cC _
       ·rw[de,List.getElem?_set_ne qj,<-de]
        exact g4 i J
    ·rw[aW gE]
     exact⟨bu,ff,pt,fx.mono (λ_ _ h=>h) (k7 _ qi)⟩
 ·intro j dR bu dG lI cA q1 aJ cg dn fe
  obtain⟨db,a2,a3,a4,a5,HJ,HK⟩:=eM j bu cg;obtain⟨eH,fK,km,mO,uH,uI,uJ⟩:=eM dG cA dn;exact hr.apart j dR db dG lI eH q1 aJ a2 fK (by rw[<-a3,<-km];exact fe)
 ·intro j dR bu dG lI cA q1 aJ cg dn fe iH
  obtain⟨db,a2,a3,a4,a5,HJ,HK⟩:=eM j bu cg;obtain⟨eH,fK,km,mO,uH,uI,uJ⟩:=eM dG cA dn;rw[a4,mO];exact hr.along j dR db dG lI eH q1 aJ a2 fK (by rw[<-a3,<-km];exact fe) iH
 ·intro j hj hl
  by_cases ny:j=b
  ·subst ny
   have:=y5 j qf;omega
  ·rw[pr j ny,aW]
   intro gE;have:=y5 j gE;omega
 ·intro j bu hj mi
  by_cases ny:j=b
  ·subst ny
   rw[hk] at hj;cases hj;rw[cy] at mi;cases mi
  ·rw[pr j ny]
   by_cases gE:j∈l
   ·rw[aR gE,hj]
    simp only [Option.map_some,bS];exact(sM _ _).2.2.2.2.2.1 mi
   ·rw[aW gE];exact hj
 ·intro i J h6
  refine k7 i λmP=> ?_
  subst mP;have:=h6 b e k he rfl hk;rw[cy] at this;cases this
 ·refine⟨c'.getD (e.bR+off) undef,?_⟩
  simp only [World.cell?,h1];simp [show e.bR+off<c'.size by omega]
 ·have:=rC (e.bR+off) af
  obtain⟨e7,J⟩:=gV;simp only [World.frozen?,h1];simpa using this
end AE
namespace AE
variable [aX]
def aP {α:Type} (P:aC):Sem α->Option α
 | .pure a=>some a
 | .program k=>aP P (k P)
 | .mark _ k=>aP P k
 |_=>none
omit [aX] in
theorem f' {α:Type} {P:aC} {s:Sem α} {a:α} (h:aP P s=some a) (w:aj):s.run P w= .ok a w:=by
 induction s with
 |pure b=>simp only [aP,bS] at h;subst h;rfl
 |program k bI=>exact bI P h
 |mark m k bI=>exact bI h
 |_=>cases h
def qk:I->Bool
 | .agg _| .tuple _| .complex .f32 _ _=>false
 |_=>true
def cellsOf:I->Option (List I)
 | .agg ⟨l⟩=>some l
 | .tuple _| .complex .f32 _ _=>none
 |v=>some [v]
theorem ar.qk {φ:bn} {v au:I} (h:ar φ v au) (h1:qk v=true):∀cs,au≠.agg cs/\au≠.tuple cs:=by
 intro cs;cases h
 case sym k=>exact aX.one k cs
 all_goals simp_all [AE.qk,AE.cC]
theorem ar.cells {φ:bn} {v au:I} {l:List I} (h:ar φ v au) (hl:cellsOf v=some l):
  l.length=au.cells.size/\∀j,j<l.length->ar φ (l.getD j undef) (au.cells.getD j undef):=by
 have one:∀{v au:I},ar φ v au->(∀cs,au≠.agg cs)->l=[v]->l.length=au.cells.size/\∀j,j<l.length->ar φ (l.getD j undef) (au.cells.getD j undef):=by
  intro v au h ah e;subst e;have:au.cells= #[au]:=by cases au<;>first|rfl|exact absurd rfl (ah _)
  rw[this];refine⟨rfl,λj hj=> ?_⟩;have:j=0:=by simpa using hj
  subst this;simpa using h
 cases h with
 |cC=>cases hl
 |sym k=>exact one (.sym k) (λcs=>(aX.one k cs).1) (by simpa [cellsOf,bP] using hl.symm)
 |agg cs cs' h1 ad=>
  obtain⟨W6⟩:=cs;simp only [cellsOf,bS] at hl;subst hl;exact⟨by simpa [Value.cells] using h1,λj hj=>by simpa [Value.cells] using ad j (by simpa using hj)⟩
 |tuple=>cases hl
 |bool b=>exact one (.bool b) (λ_=>by simp) (by simpa [cellsOf] using hl.symm)
 |int k n=>exact one (.int k n) (λ_=>by simp) (by simpa [cellsOf] using hl.symm)
 |float k b=>exact one (.float k b) (λ_=>by simp) (by simpa [cellsOf] using hl.symm)
 |string s=>exact one (.string s) (λ_=>by simp) (by simpa [cellsOf] using hl.symm)
 |ry=>exact one .ry (λ_=>by simp) (by simpa [cellsOf] using hl.symm)
 |ptr h=>exact one (.ptr h) (λ_=>by simp) (by simpa [cellsOf] using hl.symm)
 |slnil a b=>exact one (.slnil a b) (λ_=>by simp) (by simpa [cellsOf] using hl.symm)
 |gi b h=>exact one (.gi b h) (λ_=>by simp) (by simpa [cellsOf] using hl.symm)
 |fS n c h=>exact one (.fS n c h) (λ_=>by simp) (by simpa [cellsOf] using hl.symm)
 |fT n c c' h a b d=>exact one (.fT n c c' h a b d) (λ_=>by simp) (by simpa [cellsOf] using hl.symm)
 |sK=>exact one .sK (λ_=>by simp) (by simpa [cellsOf] using hl.symm)
 |map h=>exact one (.map h) (λ_=>by simp) (by simpa [cellsOf] using hl.symm)
 |chan=>exact one .chan (λ_=>by simp) (by simpa [cellsOf] using hl.symm)
 |func fs hI cs cs' a b c d e=>exact one (.func fs hI cs cs' a b c d e) (λ_=>by simp) (by simpa [cellsOf] using hl.symm)
 |nw h=>exact one (.nw h) (λ_=>by simp) (by simpa [cellsOf] using hl.symm)
 |nilFunc=>exact one .nilFunc (λ_=>by simp) (by simpa [cellsOf] using hl.symm)
 |nilIface=>exact one .nilIface (λ_=>by simp) (by simpa [cellsOf] using hl.symm)
 |iface t h=>exact one (.iface t h) (λ_=>by simp) (by simpa [cellsOf] using hl.symm)
omit [aX] in
theorem Addr.hX (b o i:Nat):(⟨b,o,none⟩:Addr).add i=⟨b,o+i,none⟩:=by
 unfold Go.Addr.add;split
 ·rename_i h;subst h;rfl
 ·rfl
def aD.mQ (A:aD) (b off n:Nat):Option (List I):=
 match A.bl.get b with
 |some {obj:= .cells c,..}=>bif Nat.ble (off+n) c.length then some ((c.drop off).take n) else none
 |_=>none
omit [aX] in
theorem uK {A:aD} {b off n:Nat} {vs:List I} (h:A.mQ b off n=some vs):vs.length=n/\∀j,j<n->A.load b (off+j)=some (vs.getD j undef):=by
 unfold aD.mQ at h;unfold aD.load;cases hk:A.bl.get b with
 |none=>rw[hk] at h;cases h
 |some k=>
  rw[hk] at h;obtain⟨pq,bQ,pos,st,ro,ty⟩:=k;cases pq with
  |map es cl=>cases h
  |dE x=>cases h
  |cells c=>
   simp only at h ⊢;cases U:Nat.ble (off+n) c.length with
   |false=>rw[U] at h;cases h
   |true=>
    rw[U,a7,bS] at h;have hle:=Nat.ble_eq.mp U;subst h;refine⟨by simp;omega,λj hj=> ?_⟩;rw[de,List.getElem?_take,aR hj,List.getElem?_drop];rw[fc af];rfl
theorem wN {φ:bn} {A:aD} {w:aj} (hr:bs φ A w) (P:aC) {b off n:Nat} {vs:List I} {e:fj} (h:A.mQ b off n=some vs) (he:φ b=some e):
  ∃dH:Array I,(loadCells ⟨e.aU,e.bR+off,none⟩ n).run P w= .ok dH w/\dH.size=vs.length/\∀j,j<vs.length->ar φ (vs.getD j undef) (dH.getD j undef):=by
 obtain⟨hl,hj⟩:=uK h;have pw:∀j,j<n->∃au,w.cell? ⟨e.aU,e.bR+off+j,none⟩=some au/\ar φ (vs.getD j undef) au:=λj uL=>by
  obtain⟨au,h1,ad⟩:=qg hr (hj j uL) he;exact⟨au,by rw[show e.bR+off+j=e.bR+(off+j) by omega];exact h1,ad⟩
 let f:Nat->I:=λj=>(w.cell? ⟨e.aU,e.bR+off+j,none⟩).getD undef
 have aB:∀j,j<n->w.cell? ((⟨e.aU,e.bR+off,none⟩:Addr).add j)=some (f j):=λj uL=>by
  obtain⟨au,h1,_⟩:=pw j uL;rw[Addr.hX,h1];simp [f,h1]
 refine⟨_,run_loadCells _ _ n f aB,by simp [hl],λj uL=> ?_⟩;obtain⟨au,h1,ad⟩:=pw j af;have:f j=au:=by simp [f,h1]
 simp only [dD];simp [show j<n by omega,this];simpa using ad
def aD.lJ:aD->Nat->Nat->List I->Option aD
 |A,_,_,[]=>some A
 |A,b,off,v::r=>bif qk v then match A.store b off v with
    |some aY=>aY.lJ b (off+1) r
    |none=>none
  else none
omit [aX] in
theorem run_store {P:aC} {w:aj} {a:Addr} {v u:I} (aw:∀cs,v≠.agg cs/\v≠.tuple cs) (h1:w.cell? a=some u) (ad:w.frozen? a=false):(Go.store a v).run P w= .ok () (w.setCell a v):=by
 unfold Go.store;cases v<;>first|(exfalso;exact(aw _).1 rfl)|(exfalso;exact(aw _).2 rfl)|(simp [Sem.run,h1,ad])
theorem uM {φ:bn} (P:aC) {b:Nat} {e:fj} (he:φ b=some e):∀(vs:List I) (A aO:aD) (w:aj) (off i:Nat) (dH:List I),bs φ A w->A.lJ b (off+i) vs=some aO->
  dH.length=vs.length->(∀j,j<vs.length->ar φ (vs.getD j undef) (dH.getD j undef))->
  ∃w',(storeCells ⟨e.aU,e.bR+off,none⟩ dH i).run P w= .ok () w'/\bF φ A w φ aO w'
 |[],A,aO,w,off,i,dH,hr,h,hl,aw=>by
  simp only [aD.lJ,bS] at h;subst h;have:dH=[]:=by simpa using hl
  subst this;exact⟨w,rfl,bF.refl hr⟩
 |v::r,A,aO,w,off,i,dH,hr,h,hl,aw=>by
  cases dH with
  |nil=>simp at hl
  |cons au cR=>
   unfold aD.lJ at h;cases h1:AE.qk v with
   |false=>rw[h1] at h;cases h
   |true=>
    rw[h1,a7] at h;cases hs:A.store b (off+i) v with
    |none=>rw[hs] at h;cases h
    |some aY=>
     rw[hs] at h;simp only at h;have Ch:ar φ v au:=by simpa using aw 0 (by simp)
     obtain⟨st,⟨u,hu⟩,rC⟩:=HE hr hs he Ch;rw[<-Nat.add_assoc] at st hu rC;obtain⟨w',nA,px⟩:=uM P he r aY aO _ off (i+1) cR (by rw[Nat.add_assoc] at st;exact st.rel) (by rw[<-Nat.add_assoc];exact h) (by simpa using hl) (λj hj=>by simpa using aw (j+1) (by simpa using hj));refine⟨w',?_,?_⟩
     ·unfold storeCells
      rw[Addr.hX];simp only [Sem.run_bind,run_store (Ch.qk h1) hu rC,Result.andThen_ok];rw[Nat.add_assoc];exact nA
     ·exact bF.trans hr (by rw[Nat.add_assoc] at st;exact st) px
theorem uN {φ:bn} {A aO:aD} {w:aj} (hr:bs φ A w) (P:aC) {c:List I} {c':Array I} {r st:Nat} (t:az) (hp:A.push (.cells c) st t=some (r,aO)) (hl:c.length<=c'.size) (ag:st=0->c.length=c'.size)
  (aw:∀j,j<c.length->ar φ (c.getD j undef) (c'.getD j undef)):
  ∃bY w',(newRow t c').run P w= .ok ⟨w.heap.size,0,none⟩ w'/\bY r=some ⟨w.heap.size,0,st,c'.size⟩/\bF φ A w bY aO w'/\w'={w with heap:=w.heap.push (.cells c' t)}:=by
 have HL:=(hr.wf.push hp).2.1;have hmono:∀b e,φ b=some e->eT φ r ⟨w.heap.size,0,st,c'.size⟩ b=some e:=λb e U=>by
  unfold eT;rw[aW (by have:=hr.lt U;omega)];exact U
 refine⟨eT φ r ⟨w.heap.size,0,st,c'.size⟩,{w with heap:=w.heap.push (.cells c' t)},?_,by simp [eT],?_,rfl⟩
 ·simp [newRow,newObj,Sem.run]
 ·refine uE hr hp ae ae ?_
  simp only [dZ];refine⟨c',(0,0),by simp,rfl,by simp;exact⟨hl,ag⟩,λj hj=> ?_,λ_ i _=>by simp⟩;simp only [Nat.zero_add];exact(aw j hj).mono hmono
end AE
namespace AE
variable [aX]
mutual
theorem ar.h8 {φ:bn}:∀(v:I) {au:I},plain v=true->ar φ v au->au=v
 | .bool b,_,_,h=>by cases h;rfl
 | .int k n,_,_,h=>by cases h;rfl
 | .float k b,_,_,h=>by cases h;rfl
 | .string s,_,_,h=>by cases h;rfl
 | .pointer none,_,_,h=>by cases h;rfl
 | .map none,_,_,h=>by cases h;rfl
 | .chan none,_,_,h=>by cases h;rfl
 | .nilFunc,_,_,h=>by cases h;rfl
 | .nilIface,_,_,h=>by cases h;rfl
 | .slice none l c,_,_,h=>by cases h;rfl
 | .func (.func f) ⟨[]⟩ ⟨[]⟩,_,_,h=>by
     cases h with
     |func fs hI cs cs' ah h1 ad aB ao=>
      have e1:hI= #[]:=Array.eq_empty_of_size_eq_zero h1.symm;have e2:cs'= #[]:=Array.eq_empty_of_size_eq_zero ad.symm;rw[e1,e2]
 | .iface t v,_,hp,h=>by
     cases h with
     |iface t h=>rw[ar.h8 v (by simpa [plain] using hp) h]
 | .agg ⟨l⟩,_,hp,h=>by
     cases h with
     |agg cs cs' h1 ad=>
      obtain⟨l'⟩:=cs';rw[ar.wO l l' (by simpa [plain] using hp) (by simpa using h1) (λi J=>by simpa using ad i (by simpa using J))]
 | .tuple ⟨l⟩,_,hp,h=>by
     cases h with
     |tuple cs cs' h1 ad=>
      obtain⟨l'⟩:=cs';rw[ar.wO l l' (by simpa [plain] using hp) (by simpa using h1) (λi J=>by simpa using ad i (by simpa using J))]
theorem ar.wO {φ:bn}:∀(l l':List I),kj l=true->l.length=l'.length->(∀i,i<l.length->ar φ (l.getD i Go.undef) (l'.getD i Go.undef))->l'=l
 |[],[],_,_,_=>rfl
 |[],_::_,_,h,_=>by simp at h
 |_::_,[],_,h,_=>by simp at h
 |v::r,au::cR,hp,hl,h=>by
   have h1:=ar.h8 v (by simp [kj] at hp;exact hp.1) (by simpa using h 0 (by simp));have ad:=ar.wO r cR (by simp [kj] at hp;exact hp.2) (by simpa using hl) (λi J=>by simpa using h (i+1) (by simpa using J));rw[h1,ad]
end
def bm {α:Type} (R:bn->α->Prop) (P:aC) (φ:bn) (A:aD) (w:aj) (s:Sem α) (aO:aD):Prop:=
 ∃bY w' a,s.run P w= .ok a w'/\R bY a/\bF φ A w bY aO w'
theorem bm.pure_run {α:Type} {R:bn->α->Prop} {P:aC} {φ:bn} {A:aD} {w:aj} (hr:bs φ A w) {s:Sem α} {a:α} (h:aP P s=some a) (hy:R φ a):bm R P φ A w s A:=
 ⟨φ,w,a,f' h w,hy,bF.refl hr⟩
theorem bm.bind {α β:Type} {R:bn->α->Prop} {S:bn->β->Prop} {P:aC} {φ:bn} {A aY dP:aD} {w:aj} (hr:bs φ A w) {s:Sem α} {k:α->Sem β} (h:bm R P φ A w s aY)
  (hk:∀eE w1 a,bs eE aY w1->(∀b e,φ b=some e->eE b=some e)->R eE a->bm S P eE aY w1 (k a) dP):bm S P φ A w (s >>= k) dP:=by
 obtain⟨eE,w1,a,h1,ad,al⟩:=h;obtain⟨dF,cQ,b,g1,g2,b6⟩:=hk eE w1 a al.rel (al.ext hr) ad;exact⟨dF,cQ,b,by rw[Sem.run_bind,h1];exact g1,g2,bF.trans hr al b6⟩
theorem bm.map {α β:Type} {R:bn->α->Prop} {S:bn->β->Prop} {P:aC} {φ:bn} {A aY:aD} {w:aj} {s:Sem α} {f:α->β} (h:bm R P φ A w s aY) (aB:∀φ a,R φ a->S φ (f a)):bm S P φ A w (s >>= λa=>pure (f a)) aY:=by
 obtain⟨eE,w1,a,h1,ad,al⟩:=h;exact⟨eE,w1,f a,by rw[Sem.run_bind,h1];rfl,aB _ _ ad,al⟩
theorem bm.pre {α β:Type} {S:bn->β->Prop} {P:aC} {φ:bn} {A dP:aD} {w:aj} {s:Sem α} {a:α} {k:α->Sem β} (h:aP P s=some a) (hk:bm S P φ A w (k a) dP):bm S P φ A w (s >>= k) dP:=by
 obtain⟨dF,cQ,b,g1,g2,b6⟩:=hk;exact⟨dF,cQ,b,by rw[Sem.run_bind,f' h w];exact g1,g2,b6⟩
theorem bm.ret {α:Type} {R:bn->α->Prop} {P:aC} {φ:bn} {A:aD} {w:aj} (hr:bs φ A w) {a:α} (hy:R φ a):bm R P φ A w (pure a) A:=⟨φ,w,a,rfl,hy,bF.refl hr⟩
abbrev e8 (v:I):bn->I->Prop:=λφ au=>ar φ v au
abbrev fk (l:List I):bn->Array I->Prop:=λφ a=>a.size=l.length/\∀j,j<l.length->ar φ (l.getD j undef) (a.getD j undef)
section
variable {P:aC} {φ:bn} {A aO:aD} {w:aj}
theorem HM (hr:bs φ A w) {b off n:Nat} {vs:List I} {e:fj} (h:A.mQ b off n=some vs) (he:φ b=some e):bm (fk vs) P φ A w (loadCells ⟨e.aU,e.bR+off,none⟩ n) A:=by
 obtain⟨dH,h1,ad,al⟩:=wN hr P h he;exact⟨φ,w,dH,h1,⟨ad,al⟩,bF.refl hr⟩
def uO (P:aC) (A:aD) (t:az):I->Option I
 | .pointer (some ⟨b,off,none⟩)=>match aP P (isAgg t) with
   |some true=>match aP P (sizeOf t) with
    |some n=>(A.mQ b off n).map λl=> .agg ⟨l⟩
    |none=>none
   |some false=>A.load b off
   |none=>none
 |_=>none
theorem N4 (hr:bs φ A w) {t:az} {p p' v:I} (hp:ar φ p p') (h:uO P A t p=some v):bm (e8 v) P φ A w (Instr.loadAt t p') A:=by
 unfold uO at h;split at h
 ·rename_i b off
  cases hp with
  |ptr he=>
   unfold Instr.loadAt;refine bm.pre (a:=(⟨_,_,none⟩:Addr)) rfl ?_;unfold loadVar;cases nB:aP P (isAgg t) with
   |none=>rw[nB] at h;cases h
   |some wP=>
    rw[nB] at h;refine bm.pre nB ?_;cases wP with
    |false=>
     simp only at h;obtain⟨au,h1,ad⟩:=qg hr h he;refine⟨φ,w,au,?_,ad,bF.refl hr⟩;simp [Go.load,Sem.run,h1]
    |true=>
     simp only at h;cases bt:aP P (sizeOf t) with
     |none=>rw[bt] at h;cases h
     |some n=>
      rw[bt] at h;simp only at h;obtain⟨l,hl,rfl⟩:=Option.map_eq_some_iff.1 h;simp only [if_true];refine bm.pre bt ?_;refine bm.map (HM hr hl he) λφ a ⟨h1,ad⟩=> ?_
      exact .agg _ _ (by simp [h1]) λi J=>by simpa using ad i (by simpa using J)
 ·cases h
def Ci (P:aC) (A:aD) (t:az) (v:I):I->Option aD
 | .pointer (some ⟨b,off,none⟩)=>match cellsOf v,aP P (sizeOf t) with
   |some l,some n=>bif Nat.beq l.length n then A.lJ b off l else none
   |_,_=>none
 |_=>none
theorem N5 (hr:bs φ A w) {t:az} {b off:Nat} {e:fj} {v au:I} (he:φ b=some e) (aw:ar φ v au) {l:List I} {n:Nat} (hl:cellsOf v=some l) (ah:aP P (sizeOf t)=some n)
  (W7:l.length=n) (h:A.lJ b off l=some aO):bm (λ_ _=>True) P φ A w (storeVar t ⟨e.aU,e.bR+off,none⟩ au) aO:=by
 obtain⟨c1,c2⟩:=aw.cells hl;unfold storeVar;refine bm.pre ah ?_;rw[aW af];obtain⟨w',h1,ad⟩:=uM P he l A aO w off 0 au.cells.toList hr h (by simpa using c1.symm) (λj hj=>by
  have:=c2 j hj;simp only [dD] at this
  simpa [de] using this)
 refine⟨φ,w',(),?_,trivial,ad⟩;simpa using h1
theorem N6 (hr:bs φ A w) {t:az} {p p' v au:I} (hp:ar φ p p') (aw:ar φ v au) (h:Ci P A t v p=some aO):bm (λ_ _=>True) P φ A w (Instr.storeAt t p' au) aO:=by
 unfold Ci at h;split at h
 ·rename_i b off
  split at h
  ·rename_i l n hl ah
   cases U:Nat.beq l.length n with
   |false=>rw[U] at h;cases h
   |true=>
    rw[U,a7] at h;cases hp with
    |ptr he=>
     unfold Instr.storeAt;refine bm.pre (a:=(⟨_,_,none⟩:Addr)) rfl ?_;exact N5 hr he aw hl ah (bJ U) h
  ·cases h
 ·cases h
def y8 (A:aD) (t:az) (v:I):Option (I×aD):=
 match cellsOf v with
 |some l=>match A.push (.cells l) 0 t with
  |some (r,aY)=>some (.pointer (some ⟨r,0,none⟩),aY)
  |none=>none
 |none=>none
theorem HN (hr:bs φ A w) {t:az} {v au p:I} (aw:ar φ v au) (h:y8 A t v=some (p,aO)):bm (e8 p) P φ A w (do pure (.pointer (some (<-newVar t au)))) aO:=by
 unfold y8 at h;cases hl:cellsOf v with
 |none=>rw[hl] at h;cases h
 |some l=>
  rw[hl] at h;simp only at h;cases hp:A.push (.cells l) 0 t with
  |none=>rw[hp] at h;cases h
  |some q=>
   obtain⟨r,aY⟩:=q;rw[hp] at h;simp only [bS,Prod.mk.injEq] at h;obtain⟨rfl,rfl⟩:=h;obtain⟨c1,c2⟩:=aw.cells hl;obtain⟨bY,w',h1,ad,al,_⟩:=uN hr P t hp (Nat.le_of_eq c1) (λ_=>c1) c2;refine⟨bY,w',_,by rw[Sem.run_bind,newVar,h1];rfl,?_,al⟩;have:=ar.ptr (φ:=bY) (b:=r) (o:=0) ad;simpa using this
def Cj (P:aC) (A:aD) (t:az):Option (I×aD):=
 match aP P (zeroValue t) with
 |some z=>bif plain z then y8 A t z else none
 |none=>none
theorem N7 (hr:bs φ A w) {t:az} {p old:I} (h:Cj P A t=some (p,aO)):bm (e8 p) P φ A w (Instr.alloc t true old) aO:=by
 unfold Cj at h;cases bk:aP P (zeroValue t) with
 |none=>rw[bk] at h;cases h
 |some z=>
  rw[bk] at h;simp only at h;cases hp:plain z with
  |false=>rw[hp] at h;cases h
  |true=>
   rw[hp,a7] at h;unfold Instr.alloc;refine bm.pre bk ?_;exact HN hr (ar.h5 φ z hp) h
def wQ (P:aC) (s:az) (f:Nat):I->Option I
 | .pointer (some ⟨b,off,none⟩)=>match aP P (underlying s) with
   |some (.struct fields)=>match fields[f]? with
    |some fD=>match aP P (sizeOf fD.type) with
     |some n=>bif n==0 then none else some (.pointer (some ⟨b,off+fD.offset,none⟩))
     |none=>none
    |none=>none
   |_=>none
 |_=>none
theorem HO {s:az} {f:Nat} {p p' v:I} (hp:ar φ p p') (h:wQ P s f p=some v):∃au,(∀w,(Instr.fieldAt s p' f).run P w= .ok au w)/\ar φ v au:=by
 unfold wQ at h;split at h
 ·rename_i b off
  split at h
  ·rename_i fields hu
   split at h
   ·rename_i fD aB
    split at h
    ·rename_i n ah
     cases h0:(n==0) with
     |true=>rw[h0] at h;cases h
     |false=>
      rw[h0,cV,bS] at h;subst h;cases hp with
      |ptr he=>
       rename_i e;refine⟨.pointer (some ⟨e.aU,e.bR+(off+fD.offset),none⟩),λw=> ?_,.ptr he⟩;unfold Instr.fieldAt;have ch:n≠0:=by simpa using h0
       rw[Sem.run_bind,f' hu w];simp only [Result.andThen_ok,aB];rw[Sem.run_bind];have e1:(Instr.sureAddr (.pointer (some ⟨e.aU,e.bR+off,none⟩))).run P w= .ok ⟨e.aU,e.bR+off,none⟩ w:=rfl;rw[e1];unfold fieldPlace;simp only [Sem.run_bind,f' ah w,Result.andThen_ok,aW ch,Addr.hX];rw[Nat.add_assoc];rfl
    ·cases h
   ·cases h
  ·cases h
 ·cases h
theorem N8 (hr:bs φ A w) {s:az} {f:Nat} {p p' v:I} (hp:ar φ p p') (h:wQ P s f p=some v):bm (e8 v) P φ A w (Instr.fieldAt s p' f) A:=by
 obtain⟨au,h1,ad⟩:=HO hp h;exact⟨φ,w,au,h1 w,ad,bF.refl hr⟩
def wR (P:aC) (t:az) (x:I) (i:I):Option I:=
 match i with
 | .int _ i=>match aP P (underlying t),x with
   |some (.array len elem),.pointer (some ⟨b,off,none⟩)=>match aP P (sizeOf elem) with
    |some n=>bif decide (0<=i)&&decide (i<(len:Int)) then some (.pointer (some ⟨b,off+i.toNat*n,none⟩)) else none
    |none=>none
   |some (.slice elem),.slice (some ⟨b,off,none⟩) len _=>match aP P (sizeOf elem) with
    |some n=>bif decide (0<=i)&&decide (i<(len:Int)) then some (.pointer (some ⟨b,off+i.toNat*n,none⟩)) else none
    |none=>none
   |_,_=>none
 |_=>none
theorem HP {t:az} {x x' i v:I} (ag:ar φ x x') (h:wR P t x i=some v):∃au,(∀w,(Instr.indexAt t x' i).run P w= .ok au w)/\ar φ v au:=by
 unfold wR at h;split at h
 ·rename_i k i
  unfold Instr.indexAt;have c3:∀w,(asIntOf (.int k i)).run P w= .ok (k,i) w:=λw=>rfl
  have e1:∀w,∀a:Addr,(pure a:Sem Addr).run P w= .ok a w:=λ_ _=>rfl
  split at h
  ·rename_i len elem b off hu
   split at h
   ·rename_i n ah
    cases U:(decide (0<=i)&&decide (i<(len:Int))) with
    |false=>rw[U] at h;cases h
    |true=>
     rw[U,a7,bS] at h;subst h;have rE:0<=i/\i<(len:Int):=by simpa using U
     cases ag with
     |ptr he=>
      rename_i e;refine⟨.pointer (some ⟨e.aU,e.bR+(off+i.toNat*n),none⟩),λw=> ?_,.ptr he⟩;simp only [Sem.run_bind,c3,f' hu w,Result.andThen_ok,Instr.sureAddr];simp [rE,f' ah w,f' hu w,Addr.hX,Nat.add_assoc,e1]
   ·cases h
  ·rename_i elem b off len cap hu
   split at h
   ·rename_i n ah
    cases U:(decide (0<=i)&&decide (i<(len:Int))) with
    |false=>rw[U] at h;cases h
    |true=>
     rw[U,a7,bS] at h;subst h;have rE:0<=i/\i<(len:Int):=by simpa using U
     cases ag with
     |fS dS c' he=>
      rename_i e;refine⟨.pointer (some ⟨e.aU,e.bR+(off+i.toNat*n),none⟩),λw=> ?_,.ptr he⟩;simp [c3,rE,f' ah w,f' hu w,Addr.hX,Nat.add_assoc]
     |fT dS c1 c2 he q1 aJ cg=>
      rename_i e;refine⟨.pointer (some ⟨e.aU,e.bR+(off+i.toNat*n),none⟩),λw=> ?_,.ptr he⟩;simp [c3,rE,f' ah w,f' hu w,Addr.hX,Nat.add_assoc]
     |gi=>omega
   ·cases h
  ·cases h
 ·cases h
theorem N9 (hr:bs φ A w) {t:az} {x x' i v:I} (ag:ar φ x x') (h:wR P t x i=some v):bm (e8 v) P φ A w (Instr.indexAt t x' i) A:=by
 obtain⟨au,h1,ad⟩:=HP ag h;exact⟨φ,w,au,h1 w,ad,bF.refl hr⟩
end
end AE
namespace AE
variable [aX]
omit [aX] in
theorem mR {α β:Type} (P:aC) (s:Sem α) (k:α->Sem β):aP P (s >>= k)=(aP P s).bind λa=>aP P (k a):=by
 show aP P (s.bind k)=_
 induction s with
 |pure a=>rfl
 |program f bI=>exact bI P
 |mark m s bI=>exact bI
 |_=>rfl
omit [aX] in
theorem wS {α:Type} (P:aC) (a:α):aP P (pure a:Sem α)=some a:=rfl
section
variable {P:aC} {φ:bn} {A aO:aD} {w:aj}
def y9 (P:aC) (t:az) (cs:List I) (off:Nat):Option I:=
 match aP P (isAgg t) with
 |some true=>match aP P (sizeOf t) with
  |some n=>some (.agg ⟨(cs.drop off).take n⟩)
  |none=>none
 |some false=>cs[off]?
 |none=>none
theorem HQ (hr:bs φ A w) {t:az} {cs:List I} {cs':Array I} {off:Nat} {v:I} (ao:fk cs φ cs') (h:y9 P t cs off=some v):bm (e8 v) P φ A w (part t cs' off) A:=by
 obtain⟨hl,aw⟩:=ao;unfold y9 at h;unfold part;cases nB:aP P (isAgg t) with
 |none=>rw[nB] at h;cases h
 |some wP=>
  rw[nB] at h;refine bm.pre nB ?_;cases wP with
  |false=>
   simp only at h;obtain⟨aM,Ch⟩:=List.getElem?_eq_some_iff.1 h;have mj:off<cs'.size:=by omega
   refine⟨φ,w,cs'[off],by simp [mj,Sem.run,pure],?_,bF.refl hr⟩;have:=aw off aM;rw[de,h] at this;simpa [mj] using this
  |true=>
   simp only at h;cases bt:aP P (sizeOf t) with
   |none=>rw[bt] at h;cases h
   |some n=>
    rw[bt] at h;simp only [bS] at h;subst h;simp only [if_true];refine bm.pre bt (bm.ret hr (.agg _ _ (by simp [hl];omega) λi J=> ?_));simp at J;have:=aw (off+i) af;simp only [dD,de,Array.getElem?_extract] at this ⊢;rw[aR af,List.getElem?_toArray,List.getElem?_take,aR af,List.getElem?_drop];exact this
def Ck (P:aC) (s:az) (x:I) (f:Nat):Option I:=
 match x,aP P (underlying s) with
 | .agg ⟨cs⟩,some (.struct fields)=>match fields[f]? with
   |some fD=>y9 P fD.type cs fD.offset
   |none=>none
 |_,_=>none
theorem N' (hr:bs φ A w) {s:az} {f:Nat} {x x' v:I} (ag:ar φ x x') (h:Ck P s x f=some v):bm (e8 v) P φ A w (Instr.field s x' f) A:=by
 unfold Ck at h;split at h
 ·rename_i cs fields hu
  split at h
  ·rename_i fD aB
   cases ag with
   |agg wT cs' h1 ad=>
    unfold Instr.field;refine bm.pre hu ?_;simp only [aB];refine bm.pre (a:=cs') rfl ?_;exact HQ hr ⟨by simpa using h1.symm,λj hj=>by simpa using ad j (by simpa using hj)⟩ h
  ·cases h
 ·cases h
def Cl (P:aC) (t:az) (x i:I):Option I:=
 match x,i,aP P (underlying t) with
 | .agg ⟨cs⟩,.int _ i,some (.array len elem)=>match aP P (sizeOf elem) with
   |some n=>bif decide (0<=i)&&decide (i<(len:Int)) then y9 P elem cs (i.toNat*n) else none
   |none=>none
 |_,_,_=>none
theorem N_ (hr:bs φ A w) {t:az} {x x' i v:I} (ag:ar φ x x') (h:Cl P t x i=some v):bm (e8 v) P φ A w (Instr.index t x' i) A:=by
 unfold Cl at h;split at h
 ·rename_i cs k i len elem hu
  split at h
  ·rename_i n ah
   cases U:(decide (0<=i)&&decide (i<(len:Int))) with
   |false=>rw[U] at h;cases h
   |true=>
    rw[U,a7] at h;have rE:0<=i/\i<(len:Int):=by simpa using U
    cases ag with
    |agg wT cs' h1 ad=>
     unfold Instr.index;refine bm.pre (a:=(k,i)) rfl ?_;simp only;refine bm.pre hu ?_;simp only [aR rE];refine bm.pre ah ?_;exact HQ hr ⟨by simpa using h1.symm,λj hj=>by simpa using ad j (by simpa using hj)⟩ h
  ·cases h
 ·cases h
def wU:I->Nat->Option I
 | .tuple ⟨cs⟩,i=>cs[i]?
 |_,_=>none
theorem Oa (hr:bs φ A w) {x x' v:I} {i:Nat} (ag:ar φ x x') (h:wU x i=some v):bm (e8 v) P φ A w (Instr.extract x' i) A:=by
 unfold wU at h;split at h
 ·rename_i cs
  cases ag with
  |tuple wT cs' h1 ad=>
   obtain⟨aM,_⟩:=List.getElem?_eq_some_iff.1 h;have HR:cs.length=cs'.size:=by simpa using h1
   have mj:i<cs'.size:=by omega
   refine⟨φ,w,cs'[i],by simp [Instr.extract,mj,Sem.run,pure],?_,bF.refl hr⟩;have:=ad i (by simpa using aM);simp only [dD,List.getElem?_toArray,h,Option.getD_some] at this;simpa [mj] using this
 ·cases h
theorem HS (off:Nat):∀(l l':List I) (k:Nat) (c c':Array I),l.length=l'.length->(∀j,j<l.length->ar φ (l.getD j undef) (l'.getD j undef))->c.size=c'.size->(∀j,j<c.size->ar φ (c.getD j undef) (c'.getD j undef))->
  ((l.zipIdx k).foldl (λcs (x:I×Nat)=>cs.setIfInBounds (off+x.2) x.1) c).size=((l'.zipIdx k).foldl (λcs (x:I×Nat)=>cs.setIfInBounds (off+x.2) x.1) c').size/\
  ∀j,j<((l.zipIdx k).foldl (λcs (x:I×Nat)=>cs.setIfInBounds (off+x.2) x.1) c).size->ar φ (((l.zipIdx k).foldl (λcs (x:I×Nat)=>cs.setIfInBounds (off+x.2) x.1) c).getD j undef) (((l'.zipIdx k).foldl (λcs (x:I×Nat)=>cs.setIfInBounds (off+x.2) x.1) c').getD j undef)
 |[],[],_,c,c',_,_,h1,ad=>⟨h1,ad⟩
 |[],_::_,_,_,_,h,_,_,_=>by simp at h
 |_::_,[],_,_,_,h,_,_,_=>by simp at h
 |v::r,au::cR,k,c,c',hl,aw,h1,ad=>by
  simp only [List.zipIdx_cons,List.foldl_cons];refine HS off r cR (k+1) _ _ (by simpa using hl) (λj hj=>by simpa using aw (j+1) (by simpa using hj)) (by simpa using h1) λj hj=> ?_
  have h0:ar φ v au:=by simpa using aw 0 (by simp)
  simp only [Array.size_setIfInBounds] at hj;have:=ad j hj;simp only [dD,Array.getElem?_setIfInBounds] at this ⊢;by_cases hk:off+k=j
  ·rw[aR hk,aR hk,aR af,aR af]
   exact h0
  ·rw[aW hk,aW hk]
   exact this
omit [aX] in
theorem HT {v:I} {l:List I} (h:cellsOf v=some l):v.cells=⟨l⟩:=by
 cases v<;>simp_all [cellsOf,Value.cells]
 case complex k re W8=>cases k<;>simp_all
 case agg cs=>obtain⟨cs⟩:=cs;simp [cellsOf] at h;rw[h]
def HU (φ:bn) (p p':Nat×I):Prop:=p.1=p'.1/\(cellsOf p.2).isSome=true/\ar φ p.2 p'.2
theorem Cm (place:Nat->Option (Nat×Nat)):∀(ps Cn:List (Nat×I)) (c c' out:Array I),ps.length=Cn.length->(∀(j:Nat) (a b:Nat×I),ps[j]? =some a->Cn[j]? =some b->HU φ a b)->c.size=c'.size->(∀j,j<c.size->ar φ (c.getD j undef) (c'.getD j undef))->
  Instr.fill place c ps=some out->∃nC,Instr.fill place c' Cn=some nC/\out.size=nC.size/\∀j,j<out.size->ar φ (out.getD j undef) (nC.getD j undef)
 |[],[],c,c',out,_,_,h1,ad,h=>by
  simp only [Instr.fill,bS] at h;subst h;exact⟨c',rfl,h1,ad⟩
 |[],_::_,_,_,_,h,_,_,_,_=>by simp at h
 |_::_,[],_,_,_,h,_,_,_,_=>by simp at h
 |(i,v)::r,(j1,au)::cR,c,c',out,hl,hp,h1,ad,h=>by
  obtain⟨e1,e2,fg⟩:=hp 0 _ _ ae ae;simp only at e1 e2 fg;subst e1;obtain⟨l,y'⟩:=Option.isSome_iff_exists.1 e2;obtain⟨c1,c2⟩:=fg.cells y';have wV:v.cells=⟨l⟩:=HT y';unfold Instr.fill at h ⊢;cases fu:place i with
  |none=>rw[fu] at h;cases h
  |some os=>
   obtain⟨off,size⟩:=os;rw[fu] at h;simp only at h ⊢;have ez:v.cells.size=au.cells.size:=by rw[wV];simpa using c1
   split at h
   ·cases h
   ·rename_i ah
    rw[aW (by rw[<-ez,<-h1];exact ah)];have key:=HS (φ:=φ) off l au.cells.toList 0 c c' (by simpa using c1) (λj hj=>by simpa [dD,de] using c2 j hj) h1 ad;refine Cm place r cR _ _ out (by simpa using hl) (λj a b ha U=>hp (j+1) a b (by simpa using ha) (by simpa using U)) ?_ ?_ h
    ·rw[wV,<-Array.foldl_toList,<-Array.foldl_toList,Array.toList_zipIdx,Array.toList_zipIdx]
     exact key.1
    ·rw[wV,<-Array.foldl_toList,<-Array.foldl_toList,Array.toList_zipIdx,Array.toList_zipIdx]
     exact key.2
def wW (ps:Array (Nat×I)):Bool:=ps.toList.all λp=>(cellsOf p.2).isSome
theorem HV {ps:Array (Nat×Operand)} {ρ ρ':Operand->I} (b9:∀p∈ps,ar φ (ρ p.2) (ρ' p.2)) (cU:wW (ps.map λ(i,x)=>(i,ρ x))=true):
  ∀(j:Nat) (a b:Nat×I),((ps.map λ(i,x)=>(i,ρ x)).toList)[j]? =some a->((ps.map λ(i,x)=>(i,ρ' x)).toList)[j]? =some b->HU φ a b:=by
 intro j a b ha U;have j0:=List.mem_of_getElem? ha;simp only [Array.toList_map,List.getElem?_map,ru] at ha U;obtain⟨p,hp,rfl⟩:=ha;obtain⟨p',oi,rfl⟩:=U;rw[hp] at oi;cases oi;refine⟨rfl,?_,b9 p (by simpa using List.mem_of_getElem? hp)⟩;exact List.all_eq_true.1 cU _ j0
def Co (P:aC) (t:az) (parts:Array (Nat×I)):Option I:=
 bif wW parts then
  match aP P (zeroValue t) with
  |some z=>bif plain z&&(cellsOf z).isSome then
    match aP P (underlying t) with
    |some (.struct fields)=>match aP P (fields.mapM λf=>do pure (f.offset,<-sizeOf f.type)) with
     |some HW=>(Instr.fill (HW[·]?) z.cells parts.toList).map .agg
     |none=>none
    |some (.array _ elem)=>match aP P (sizeOf elem) with
     |some size=>(Instr.fill (λi=>some (i*size,size)) z.cells parts.toList).map .agg
     |none=>none
    |_=>none
   else none
  |none=>none
 else none
theorem y_ {z:I} (h:plain z=true) (ao:(cellsOf z).isSome=true) (φ:bn):∀j,j<z.cells.size->ar φ (z.cells.getD j undef) (z.cells.getD j undef):=by
 obtain⟨l,hl⟩:=Option.isSome_iff_exists.1 ao;obtain⟨h1,ad⟩:=(ar.h5 φ z h).cells hl;intro j hj;have wV:z.cells=⟨l⟩:=HT hl;have:=ad j af;simp only [wV] at this ⊢;simpa [dD,de] using this
theorem Ob (hr:bs φ A w) {t:az} {ps:Array (Nat×Operand)} {ρ ρ':Operand->I} {v:I} (b9:∀p∈ps,ar φ (ρ p.2) (ρ' p.2)) (h:Co P t (ps.map λ(i,x)=>(i,ρ x))=some v):
  bm (e8 v) P φ A w (Instr.build t (ps.map λ(i,x)=>(i,ρ' x))) A:=by
 unfold Co at h;cases cU:wW (ps.map λ(i,x)=>(i,ρ x)) with
 |false=>rw[cU] at h;cases h
 |true=>
  rw[cU,a7] at h;have Cp:=HV b9 cU;cases bk:aP P (zeroValue t) with
  |none=>rw[bk] at h;cases h
  |some z=>
   rw[bk] at h;simp only at h;cases h9:(plain z&&(cellsOf z).isSome) with
   |false=>rw[h9] at h;cases h
   |true=>
    rw[h9,a7] at h;simp only [b4] at h9;have k8:=y_ h9.1 h9.2 φ;unfold Instr.build;refine bm.pre bk ?_;simp only;have fin:∀(place:Nat->Option (Nat×Nat)),(Instr.fill place z.cells (ps.map λ(i,x)=>(i,ρ x)).toList).map Value.agg=some v->
      ∃nC,Instr.fill place z.cells (ps.map λ(i,x)=>(i,ρ' x)).toList=some nC/\ar φ v (.agg nC):=by
     intro place aB;obtain⟨out,ax,rfl⟩:=Option.map_eq_some_iff.1 aB;obtain⟨nC,g1,g2,b6⟩:=Cm place _ _ _ _ out (by simp) Cp rfl k8 ax;exact⟨nC,g1,.agg _ _ g2 b6⟩
    split at h
    ·rename_i fields hu
     refine bm.pre hu ?_;simp only;split at h
     ·rename_i HW fu
      refine bm.pre fu ?_;obtain⟨nC,g1,g2⟩:=fin _ h;simp only [g1];exact bm.ret hr g2
     ·cases h
    ·rename_i n elem hu
     refine bm.pre hu ?_;simp only;split at h
     ·rename_i size bt
      refine bm.pre bt ?_;obtain⟨nC,g1,g2⟩:=fin _ h;simp only [g1];exact bm.ret hr g2
     ·cases h
    ·cases h
def Cq (P:aC) (A:aD) (t:az) (len:Nat) (parts:Array (Nat×I)):Option (I×aD):=
 bif wW parts then
  match aP P (underlying t) with
  |some (.slice elem)=>match aP P (sizeOf elem) with
   |some size=>bif Nat.blt 0 (len*size)&&Nat.ble (len*size) 16777216 then
     match aP P (zeroValue elem) with
     |some z=>bif plain z&&(cellsOf z).isSome&&Nat.blt 0 z.cells.size then
       match Instr.fill (λi=>some (i*size,size)) ((Array.range (len*size)).map (z.cells[· %z.cells.size]!)) parts.toList with
       |some out=>match A.push (.cells out.toList) 0 elem with
        |some (r,aY)=>some (.slice (some ⟨r,0,none⟩) len len,aY)
        |none=>none
       |none=>none
      else none
     |none=>none
    else none
   |none=>none
  |_=>none
 else none
theorem Oc (hr:bs φ A w) {t:az} {len:Nat} {ps:Array (Nat×Operand)} {ρ ρ':Operand->I} {v:I} (b9:∀p∈ps,ar φ (ρ p.2) (ρ' p.2)) (h:Cq P A t len (ps.map λ(i,x)=>(i,ρ x))=some (v,aO)):
  bm (e8 v) P φ A w (Instr.buildSlice t len (ps.map λ(i,x)=>(i,ρ' x))) aO:=by
 unfold Cq at h;cases cU:wW (ps.map λ(i,x)=>(i,ρ x)) with
 |false=>rw[cU] at h;cases h
 |true=>
  rw[cU,a7] at h;have Cp:=HV b9 cU;split at h
  ·rename_i elem hu
   split at h
   ·rename_i size bt
    cases U:(Nat.blt 0 (len*size)&&Nat.ble (len*size) 16777216) with
    |false=>rw[U] at h;cases h
    |true=>
     rw[U,a7] at h;simp only [b4] at U;have ml:=Nat.blt_eq.mp U.1;have lK:=Nat.ble_eq.mp U.2;split at h
     ·rename_i z bk
      cases h9:(plain z&&(cellsOf z).isSome&&Nat.blt 0 z.cells.size) with
      |false=>rw[h9] at h;cases h
      |true=>
       rw[h9,a7] at h;simp only [b4] at h9;have mm:=Nat.blt_eq.mp h9.2;have k8:=y_ h9.1.1 h9.1.2 φ;split at h
       ·rename_i out ax
        split at h
        ·rename_i r aY hp
         simp only [bS,Prod.mk.injEq] at h;obtain⟨rfl,rfl⟩:=h;unfold Instr.buildSlice;refine bm.pre hu ?_;simp only;refine bm.pre bt ?_;rw[aW af];rw[aW af];have Cr:∀j,j<((Array.range (len*size)).map (z.cells[· %z.cells.size]!)).size->ar φ (((Array.range (len*size)).map (z.cells[· %z.cells.size]!)).getD j undef) (((Array.range (len*size)).map (z.cells[· %z.cells.size]!)).getD j undef):=by
          intro j hj;simp at hj;have hm:=Nat.mod_lt j mm;have:=k8 (j%z.cells.size) hm;simp only [dD] at this ⊢;simpa [hj,hm,getElem!_pos] using this
         obtain⟨nC,g1,g2,b6⟩:=Cm (φ:=φ) (λi=>some (i*size,size)) _ _ _ _ out (by simp) Cp rfl Cr ax;refine bm.pre bk ?_;refine bm.pre (a:=z.cells) rfl ?_;simp only [g1];obtain⟨bY,w',q1,aJ,cg,_⟩:=uN hr P elem hp (c':=nC) (by simpa using Nat.le_of_eq g2) (λ_=>by simpa using g2) (λj hj=>by
          have:=b6 j (by simpa using hj);simp only [dD] at this
          simpa [de] using this)
         refine⟨bY,w',.slice (some ⟨w.heap.size,0,none⟩) len len,by rw[Sem.run_bind,q1];rfl,?_,cg⟩;have:=ar.fS (φ:=bY) (b:=r) (o:=0) len len aJ;simpa using this
        ·cases h
       ·cases h
     ·cases h
   ·cases h
  ·cases h
def Ct (P:aC) (A:aD) (t:az):Option (I×aD):=
 match aP P (underlying t) with
 |some (.slice elem)=>match aP P (sizeOf elem) with
  |some _=>match A.push (.cells []) 0 elem with
   |some (r,aY)=>some (.slice (some ⟨r,0,none⟩) 0 0,aY)
   |none=>none
  |none=>none
 |_=>none
theorem Od (hr:bs φ A w) {t:az} {v:I} (h:Ct P A t=some (v,aO)):bm (e8 v) P φ A w (Instr.buildSlice t 0 #[]) aO:=by
 unfold Ct at h;split at h
 ·rename_i elem hu
  split at h
  ·rename_i size bt
   split at h
   ·rename_i r aY hp
    simp only [bS,Prod.mk.injEq] at h;obtain⟨rfl,rfl⟩:=h;unfold Instr.buildSlice;refine bm.pre hu ?_;simp only;refine bm.pre bt ?_;rw[aW af,aR af];refine bm.pre (a:=(#[]:Array I)) rfl ?_;obtain⟨bY,w',q1,aJ,cg,_⟩:=uN hr P (c':= #[]) elem hp (by simp) (λ_=>by simp) (λj hj=>by simp at hj);have e:((Array.range (0*size)).map ((#[]:Array I)[· %(#[]:Array I).size]!))= #[]:=by simp
    rw[e];simp only [Instr.fill];refine⟨bY,w',.slice (some ⟨w.heap.size,0,none⟩) 0 0,by rw[Sem.run_bind,q1];rfl,?_,cg⟩;have:=ar.fS (φ:=bY) (b:=r) (o:=0) 0 0 aJ;simpa using this
   ·cases h
  ·cases h
 ·cases h
end
end AE
namespace AE
variable [aX]
def aD.za (A:aD) (b pos st:Nat) (ty:az) (c:List I):Option (Nat×aD):=
 match A.bl.get b with
 |some k=>match k.obj,A.mem.get k.bQ with
  | .cells _,some l=>bif k.ro||bne k.ty ty then none else
    match bB.set {obj:= .cells c,bQ:=k.bQ,pos:=pos,da:=st,ro:=false,ty:=ty:fq} depth A.bl A.n,bB.set (A.n::l) depth A.mem k.bQ with
    |some bl,some mem=>some (A.n,{bl,mem,n:=A.n+1,low:=l.foldl Nat.min A.low})
    |_,_=>none
  |_,_=>none
 |none=>none
omit [aX] in
theorem Cu {A aO:aD} {b pos st:Nat} {ty:az} {c:List I} {r:Nat} (h:A.za b pos st ty c=some (r,aO)) (oe:sL A):
  ∃k hz l,A.bl.get b=some k/\k.obj= .cells hz/\k.ro=false/\k.ty=ty/\A.mem.get k.bQ=some l/\r=A.n/\sL aO/\aO.n=A.n+1/\aO.low<=A.low/\(∀m∈l,aO.low<=m)/\
   (∀j,aO.bl.get j=if j=A.n then some {obj:= .cells c,bQ:=k.bQ,pos:=pos,da:=st,ro:=false,ty:=ty} else A.bl.get j):=by
 unfold aD.za at h;cases hk:A.bl.get b with
 |none=>rw[hk] at h;cases h
 |some k=>
  rw[hk] at h;obtain⟨pq,bQ,W9,W',ro,Oe⟩:=k;simp only at h;cases pq with
  |map es cl=>cases h
  |dE x=>cases h
  |cells hz=>
   cases hm:A.mem.get bQ with
   |none=>rw[hm] at h;cases h
   |some l=>
    rw[hm] at h;simp only at h;cases ao:(ro||bne Oe ty) with
    |true=>rw[ao] at h;cases h
    |false=>
     rw[ao,cV] at h;simp only [Bool.or_eq_false_iff,bne_eq_false_iff_eq] at ao;obtain⟨rfl,rfl⟩:=ao;split at h
     ·rename_i bl mem U qh
      simp only [bS,Prod.mk.injEq] at h;obtain⟨rfl,rfl⟩:=h;have iy:=λb=>bB.jY _ _ _ _ _ b U
      have uD:=λb=>bB.jY _ _ _ _ _ b qh
      obtain⟨f1,f2⟩:=y4 l A.low;have kl:=oe.nx b _ hk;refine⟨_,hz,l,rfl,rfl,rfl,rfl,hm,rfl,⟨?_,?_,?_,?_⟩,rfl,f1,f2,iy⟩
      ·intro j bu hj
       simp only at hj ⊢;rw[iy] at hj;split at hj
       ·omega
       ·have:=oe.lt j bu hj;omega
      ·intro j bu hj
       simp only at hj ⊢ kl;rw[iy] at hj;split at hj
       ·cases hj;simp only;omega
       ·have:=oe.nx j bu hj;omega
      ·intro j bu hj
       simp only at hj ⊢;rw[iy] at hj;split at hj
       ·rename_i uL
        cases hj;exact⟨_,by rw[uD,aR rfl],by simp [uL]⟩
       ·obtain⟨l',eS,gE⟩:=oe.mem j bu hj
        by_cases aB:bu.bQ=bQ
        ·rw[aB,hm] at eS
         cases eS;exact⟨_,by rw[uD,aR aB],List.mem_cons_of_mem _ gE⟩
        ·exact⟨l',by rw[uD,aW aB];exact eS,gE⟩
      ·intro j bu dG cA hj ey aB
       simp only at hj ey;rw[iy] at hj ey;split at hj
       ·cases hj
        split at ey
        ·cases ey;rfl
        ·have:=oe.od b _ dG cA hk ey aB
         exact this
       ·split at ey
        ·cases ey
         have:=oe.od j bu b _ hj hk aB;exact this
        ·exact oe.od j bu dG cA hj ey aB
     ·cases h
theorem HX {φ:bn} {A aO:aD} {w w':aj} (hr:bs φ A w) {b pos st:Nat} {ty:az} {c:List I} {r:Nat} {e:fj} (h:A.za b pos st ty c=some (r,aO)) (cd:e.da=st)
  (hw:(e.aU=w.heap.size/\∃o,w'={w with heap:=w.heap.push o})\/(w'=w/\∃c3 k,φ b=some c3/\A.bl.get b=some k/\e.aU=c3.aU/\e.bR+k.pos=c3.bR+pos))
  (ax:∀k,A.bl.get b=some k->dZ (eT φ r e) w' e {obj:= .cells c,bQ:=k.bQ,pos:=pos,da:=st,ro:=false,ty:=ty}):
  bF φ A w (eT φ r e) aO w':=by
 obtain⟨k,hz,l,hk,dQ,cy,hty,j0,rfl,oe,ah,po,y5,eU⟩:=Cu h hr.wf;have ax:=ax k hk;have hold:∀b e1,φ b=some e1->eT φ A.n e b=some e1:=λb e1 U=>by
  unfold eT;rw[aW (by have:=hr.lt U;omega)];exact U
 have kK:∀i,i<w.heap.size->w'.heap[i]? =w.heap[i]? :=λi J=>by
  rcases hw with ⟨_,o,rfl⟩|⟨rfl,_⟩
  ·show (w.heap.push o)[i]? =_
   rw[Array.getElem?_push,aW af]
  ·rfl
 have bt:w.heap.size<=w'.heap.size:=by
  rcases hw with ⟨_,o,rfl⟩|⟨rfl,_⟩
  ·simp
  ·exact bM _
 have lL:w'.os=w.os/\w'.tape=w.tape/\w'.output=w.output:=by
  rcases hw with ⟨_,o,rfl⟩|⟨rfl,_⟩<;>exact⟨rfl,rfl,rfl⟩
 have iG:∀j e1,eT φ A.n e j=some e1->(j=A.n/\e1=e)\/(j≠A.n/\φ j=some e1):=λj e1 U=>by
  unfold eT at U;split at U
  ·rename_i h;cases U;exact .inl ⟨h,rfl⟩
  ·rename_i h;exact .inr ⟨h,U⟩
 have qf:b∈l:=by
  obtain⟨l',eS,cK⟩:=hr.wf.mem b k hk;rw[j0] at eS;cases eS;exact cK
 have nD:∀j dR bu,φ j=some dR->A.bl.get j=some bu->(k.bQ≠bu.bQ->e.aU≠dR.aU)/\(k.bQ=bu.bQ->e.aU=dR.aU->e.bR+bu.pos=dR.bR+pos):=by
  intro j dR bu hj ff;rcases hw with ⟨he,_⟩|⟨_,c3,k',rF,cc,hblk,rD⟩
  ·obtain⟨_,_,_,ad⟩:=hr.c5 j dR hj
   have:=ad.lt;exact⟨λ_=>by omega,λ_ _=>by omega⟩
  ·rw[hk] at cc;cases cc
   refine⟨λch=> ?_,λaB U=> ?_⟩
   ·rw[hblk];exact hr.apart b c3 k j dR bu rF hj hk ff ch
   ·have:=hr.along b c3 k j dR bu rF hj hk ff aB (by rw[<-hblk];exact U)
    omega
 refine {rel:=⟨oe,?_,?_,?_,λi o J=>by
   obtain⟨h1,ad⟩:=hr.eb i o J;have aM:i<w.heap.size:=(Array.getElem?_eq_some_iff.1 h1).1;refine⟨by rw[kK i aM];exact h1,λj e1 hj=> ?_⟩;rcases iG j e1 hj with ⟨rfl,rfl⟩|⟨_,hj⟩
   ·rcases hw with ⟨he,_⟩|⟨_,c3,k',rF,cc,hblk,rD⟩
    ·omega
    ·rw[hblk];exact ad b c3 rF
   ·exact ad j e1 hj⟩,c5:= ?_,mh:= ?_,new:= ?_,k6:=by omega,low:=po,same:= ?_,ro:= ?_,keep:= ?_,eL:=bt,os:=lL.1,tape:=lL.2.1,output:=lL.2.2,drawn:=by rcases hw with ⟨_,o,rfl⟩|⟨rfl,_⟩<;>exact bM _}
 ·intro j e1 U
  rcases iG j e1 U with ⟨rfl,rfl⟩|⟨ch,U⟩
  ·exact⟨_,by rw[eU,aR rfl],cd,ax⟩
  ·obtain⟨bu,ff,h1,ad⟩:=hr.c5 j e1 U
   exact⟨bu,by rw[eU,aW ch];exact ff,h1,ad.mono hold (kK _ ad.lt)⟩
 ·intro j e1 bu dG jZ cA U cK iz j2 ch
  rw[eU] at iz j2;rcases iG j e1 U with ⟨rfl,rfl⟩|⟨h7,mM⟩
  ·rcases iG dG jZ cK with ⟨rfl,rfl⟩|⟨gj,lH⟩
   ·rw[aR rfl] at iz j2;cases iz;cases j2;exact absurd rfl ch
   ·rw[aR rfl] at iz;rw[aW gj] at j2;cases iz
    exact(nD dG jZ cA lH j2).1 ch
  ·rcases iG dG jZ cK with ⟨rfl,rfl⟩|⟨gj,lH⟩
   ·rw[aR rfl] at j2;rw[aW h7] at iz;cases j2
    exact Ne.symm ((nD j e1 bu mM iz).1 (Ne.symm ch))
   ·rw[aW h7] at iz;rw[aW gj] at j2
    exact hr.apart j e1 bu dG jZ cA mM lH iz j2 ch
 ·intro j e1 bu dG jZ cA U cK iz j2 kl hblk
  rw[eU] at iz j2;rcases iG j e1 U with ⟨rfl,rfl⟩|⟨h7,mM⟩
  ·rcases iG dG jZ cK with ⟨rfl,rfl⟩|⟨gj,lH⟩
   ·rw[aR rfl] at iz j2;cases iz;cases j2;rfl
   ·rw[aR rfl] at iz;rw[aW gj] at j2;cases iz
    exact(nD dG jZ cA lH j2).2 kl hblk
  ·rcases iG dG jZ cK with ⟨rfl,rfl⟩|⟨gj,lH⟩
   ·rw[aR rfl] at j2;rw[aW h7] at iz;cases j2
    exact((nD j e1 bu mM iz).2 kl.symm hblk.symm).symm
   ·rw[aW h7] at iz;rw[aW gj] at j2
    exact hr.along j e1 bu dG jZ cA mM lH iz j2 kl hblk
 ·intro j hj
  unfold eT;rw[aW af]
 ·intro j h1 ad
  have:j=A.n:=by omega
  subst this;simp [eT]
 ·intro j e1 h1 U
  rcases iG j e1 U with ⟨rfl,rfl⟩|⟨h7,U⟩
  ·rcases hw with ⟨he,_⟩|⟨_,c3,k',rF,cc,hblk,rD⟩
   ·exact .inl af
   ·exact .inr ⟨b,c3,k,rF,hblk.symm,y5 b qf,hk,cy⟩
  ·exact absurd (hr.lt U) af
 ·intro j hj _
  rw[eU,aW af]
 ·intro j bu ff _
  rw[eU,aW (by have:=hr.wf.lt j bu ff;omega)];exact ff
 ·intro i J _
  exact kK i J
theorem Og {φ:bn} {A aO:aD} {w:aj} (hr:bs φ A w) {b off:Nat} {v au:I} {e:fj} (h:A.store b off v=some aO) (he:φ b=some e) (aw:ar φ v au) (ao:w.cell? ⟨e.aU,e.bR+off,none⟩=some au):
  bF φ A w φ aO w:=by
 obtain⟨st,_,_⟩:=HE hr h he aw;have:w.setCell ⟨e.aU,e.bR+off,none⟩ au=w:=by
  unfold World.setCell;have:w.heap.modify e.aU (λ
   | .cells c elem frozen=> .cells (if (none:Option Nat).isSome then c else c.setIfInBounds (e.bR+off) au) elem frozen
   |o=>o)=w.heap:=by
   apply Array.ext_getElem?;intro i;rw[Array.getElem?_modify];split
   ·rename_i J
    subst J;cases aq:w.heap[e.aU]? with
    |none=>rfl
    |some o=>
     cases o<;>try rfl
     rename_i c t fr;simp only [Option.map_some,Option.isSome_none,Bool.false_eq_true,if_false,bS,Obj.cells.injEq,and_true];simp only [World.cell?,aq,Option.isSome_none,Bool.false_eq_true,if_false] at ao;apply Array.ext_getElem?;intro j;rw[Array.getElem?_setIfInBounds];split
     ·rename_i hj;subst hj
      obtain⟨aM,_⟩:=Array.getElem?_eq_some_iff.1 ao;rw[aR aM,ao]
     ·rfl
   ·rfl
  exact congrArg (λh=>{w with heap:=h}) this
 rw[this] at st;exact st
theorem HY {φ:bn} {b:Nat} {e:fj} (he:φ b=some e) {w:aj}:∀(vs:List I) (A aO:aD) (off:Nat),bs φ A w->A.lJ b off vs=some aO->
  (∀j,j<vs.length->∃au,w.cell? ⟨e.aU,e.bR+(off+j),none⟩=some au/\ar φ (vs.getD j undef) au)->bF φ A w φ aO w
 |[],A,aO,off,hr,h,_=>by
  simp only [aD.lJ,bS] at h;subst h;exact bF.refl hr
 |v::r,A,aO,off,hr,h,aw=>by
  unfold aD.lJ at h;cases h1:AE.qk v with
  |false=>rw[h1] at h;cases h
  |true=>
   rw[h1,a7] at h;cases hs:A.store b off v with
   |none=>rw[hs] at h;cases h
   |some aY=>
    rw[hs] at h;simp only at h;obtain⟨au,g1,g2⟩:=aw 0 (by simp);have st:=Og hr hs he (by simpa using g2) (by simpa using g1);exact bF.trans hr st (HY he r aY aO (off+1) st.rel h λj hj=>by
     obtain⟨Oh,q1,aJ⟩:=aw (j+1) (by simpa using hj)
     exact⟨Oh,by rw[show off+1+j=off+(j+1) by omega];exact q1,by simpa using aJ⟩)
end AE
namespace AE
variable [aX]
omit [aX] in
theorem HZ (H0:Nat):∀(r c:Nat),Builtin.growBy H0 r c<=(c+768)*2^r
 |0,c=>by simp [Builtin.growBy]
 |r+1,c=>by
  unfold Builtin.growBy;split
  ·have:1<=2^(r+1):=Nat.one_le_two_pow
   calc c<=c+768:=by omega
    _=(c+768)*1:=by omega
    _<=(c+768)*2^(r+1):=Nat.mul_le_mul_left _ this
  ·have h:=HZ H0 r (c+(c+768)/4)
   calc _<=(c+(c+768)/4+768)*2^r:=h
    _<=((c+768)*2)*2^r:=Nat.mul_le_mul_right _ af
    _=(c+768)*2^(r+1):=by rw[Nat.pow_succ,Nat.mul_assoc,Nat.mul_comm 2]
omit [aX] in
theorem Oi {need c:Nat} (h:c<need) (ah:need<=1048576):Builtin.nextslicecap need c<=33554432:=by
 unfold Builtin.nextslicecap;split
 ·omega
 ·split
  ·omega
  ·have bb:=HZ need 4 c
   have Oj:(c+768)*2^4<=33554432:=by
    rw[show (2:Nat)^4=16 from rfl];omega
   exact Nat.le_trans bb Oj
omit [aX] in
theorem H2 (z:Array I) (n:Nat):(Builtin.zeroCells z n).size=n*z.size:=by simp [Builtin.zeroCells]
section
variable {P:aC} {φ:bn} {A aO:aD} {w:aj}
omit [aX] in
theorem H3 (a:Addr) (n:Nat) {v:Array I} (h:(loadCells a n).run P w= .ok v w) (d:Nat) (ao:∀j,j<n->∃u,w.cell? (a.add j)=some u):(loadCells a n).run P {w with drawn:=d}= .ok v {w with drawn:=d}:=by
 let f:Nat->I:=λj=>(w.cell? (a.add j)).getD undef
 have aB:∀j,j<n->w.cell? (a.add j)=some (f j):=λj hj=>by
  obtain⟨u,hu⟩:=ao j hj;simp [f,hu]
 have h1:=run_loadCells (P:=P) w a n f aB;rw[h] at h1;have ad:=run_loadCells (P:=P) {w with drawn:=d} a n f aB;rw[ad];injection h1 with h1;rw[h1]
def zb (A:aD) (aG:Nat):I->Option (Nat×List I)
 | .slice (some ⟨b,off,none⟩) n _=>(A.mQ b off (n*aG)).map λl=>(n,l)
 | .slice none 0 0=>some (0,[])
 | .string s=>bif aG==1 then some (s.size,s.data.toList.map λb=> .int .u8 b.toNat) else none
 |_=>none
theorem Ol (hr:bs φ A w) {aG n:Nat} {x x':I} {l:List I} (ag:ar φ x x') (h:zb A aG x=some (n,l)):
  l.length=n*aG/\∃hA:Array I,hA.size=l.length/\(∀j,j<l.length->ar φ (l.getD j undef) (hA.getD j undef))/\
    (∀d,(Builtin.lenOf x').run P {w with drawn:=d}= .ok n {w with drawn:=d})/\∀d,(Builtin.firstCells aG n x').run P {w with drawn:=d}= .ok hA {w with drawn:=d}:=by
 unfold zb at h;split at h
 ·rename_i b off dS c
  obtain⟨l',eS,heq⟩:=Option.map_eq_some_iff.1 h;simp only [Prod.mk.injEq] at heq;obtain⟨rfl,rfl⟩:=heq;obtain⟨hlen,sP⟩:=uK eS;have main:∀(e:fj) (c':Nat),φ b=some e->∃hA:Array I,hA.size=l'.length/\(∀j,j<l'.length->ar φ (l'.getD j undef) (hA.getD j undef))/\
   (∀d,(Builtin.lenOf (.slice (some ⟨e.aU,e.bR+off,none⟩) dS c')).run P {w with drawn:=d}= .ok dS {w with drawn:=d})/\∀d,(Builtin.firstCells aG dS (.slice (some ⟨e.aU,e.bR+off,none⟩) dS c')).run P {w with drawn:=d}= .ok hA {w with drawn:=d}:=by
   intro e c' he;obtain⟨dH,h1,ad,al⟩:=wN hr P eS he;refine⟨dH,ad,al,λd=>rfl,λd=> ?_⟩;exact H3 _ _ h1 d λj hj=>by
    obtain⟨au,g1,_⟩:=qg hr (sP j hj) he;exact⟨au,by rw[Addr.hX,Nat.add_assoc];exact g1⟩
  cases ag with
  |fS _ c' he=>exact⟨hlen,main _ _ he⟩
  |fT _ _ c' he _ _ _=>exact⟨hlen,main _ _ he⟩
  |gi aL _=>
   have:l'=[]:=by simpa using hlen
   subst this;refine⟨by simp,#[],rfl,λj hj=>absurd hj (by simp),λd=>rfl,λd=> ?_⟩;simp [Builtin.firstCells,loadCells,loadCellsFrom,Sem.run,pure]
 ·simp only [bS,Prod.mk.injEq] at h
  obtain⟨rfl,rfl⟩:=h;cases ag with
  |slnil=>exact⟨by simp,#[],rfl,λj hj=>absurd hj (by simp),λd=>rfl,λd=>rfl⟩
 ·rename_i s
  cases hs:(aG==1) with
  |false=>rw[hs] at h;cases h
  |true=>
   rw[hs,a7] at h;simp only [bS,Prod.mk.injEq] at h;obtain⟨rfl,rfl⟩:=h;have ql:aG=1:=by simpa using hs
   cases ag with
   |string=>
    refine⟨by simp [ql],(s.data.toList.map λb=>Value.int .u8 b.toNat).toArray,by simp,λj hj=> ?_,λd=>rfl,λd=> ?_⟩
    ·simp only [dD,List.getElem?_toArray,de]
     have ey:j<s.data.toList.length:=by simpa using hj
     simp only [List.getElem?_map,fc ey,Option.map_some,Option.getD_some];exact .int _ _
    ·simp only [Builtin.firstCells]
     show Result.ok _ _=Result.ok _ _;congr 1;have:(s.extract 0 s.size)=s:=by simp
     rw[this];apply Array.ext';simp
 ·cases h
omit [aX] in
theorem cb {α β:Type} {s:Sem α} {k:α->Sem β} {a:α} {w:aj} {r:Result β} (h:aP P s=some a) (hk:(k a).run P w=r):(s >>= k).run P w=r:=by
 rw[Sem.run_bind,f' h w];exact hk
omit [aX] in
theorem ck {α β:Type} {s:Sem α} {k:α->Sem β} {a:α} {w w1:aj} {r:Result β} (h:s.run P w= .ok a w1) (hk:(k a).run P w1=r):(s >>= k).run P w=r:=by
 rw[Sem.run_bind,h];exact hk
def zc:TypeDesc->Bool
 | .int _=>true
 |_=>false
omit [aX] in
theorem zd {bX:Array az} {t t2 elem ty:az} {aG n kn nE:Nat} {base:Option Addr} {x':I} {hA:Array I} (h0:bX[0]? =some t) (h1:bX[1]? =some t2)
  (hu:aP P (underlying t)=some (.slice elem)) {d2:TypeDesc} (nF:aP P (underlying t2)=some d2) (aH:zc d2=false) (bt:aP P (sizeOf elem)=some aG)
  (hlen:(Builtin.lenOf x').run P w= .ok n w) (py:(Builtin.firstCells aG n x').run P w= .ok hA w) (k9:kn+n<=nE) {w':aj}
  (cd:(match base with|some a=>storeCells (a.add (kn*aG)) hA.toList|none=>pure ()).run P w= .ok () w'):
  (Builtin.append_ bX ty #[.slice base kn nE,x']).run P w= .ok (.slice base (kn+n) nE) w':=by
 unfold Builtin.append_;simp only [h0,h1,List.getElem?_toArray,List.getElem?_cons_zero,List.getElem?_cons_succ];refine cb hu ?_;simp only;refine cb bt ?_;refine cb nF ?_;refine cb (a:=false) (by cases d2<;>first|rfl|cases aH) ?_;simp only [Bool.false_eq_true,if_false];refine ck hlen ?_;rw[aR k9];simp only [Bool.not_false,if_true];refine ck py ?_;cases base with
 |none=>
  have:w'=w:=by
   have h:Result.ok () w=Result.ok () w':=cd;injection h with _ h;exact h.symm
  subst this;rfl
 |some a=>exact ck cd rfl
omit [aX] in
theorem H4 {bX:Array az} {t t2 elem ty:az} {info:TypeInfo} {z:I} {aG n kn nE:Nat} {base:Option Addr} {x':I} {gF hA:Array I} (h0:bX[0]? =some t) (h1:bX[1]? =some t2)
  (hu:aP P (underlying t)=some (.slice elem)) {d2:TypeDesc} (nF:aP P (underlying t2)=some d2) (aH:zc d2=false) (bt:aP P (sizeOf elem)=some aG)
  (J:aP P (typeInfo elem)=some info) (Om:aP P (zeroValue elem)=some z) (k_:info.bytes≠0) (U:info.bytes<=65536) (qm:kn+n<=1048576)
  (hlen:(Builtin.lenOf x').run P w= .ok n w) (py:∀d,(Builtin.firstCells aG n x').run P {w with drawn:=d}= .ok hA {w with drawn:=d})
  (hold:∀d,(Builtin.firstCells aG kn (.slice base kn nE)).run P {w with drawn:=d}= .ok gF {w with drawn:=d}) (k9:nE<kn+n):
  ∃iA,kn+n<=iA/\(Builtin.append_ bX ty #[.slice base kn nE,x']).run P w=
   .ok (.slice (some ⟨w.heap.size,0,none⟩) (kn+n) iA) {w with drawn:=w.drawn+1,heap:=w.heap.push (.cells (gF++hA++Builtin.zeroCells z.cells (iA-(kn+n))) elem)}:=by
 refine⟨(Question.appendCap (kn+n) nE elem).cut (w.tape w.drawn (.appendCap (kn+n) nE elem)),by simp [Question.cut],?_⟩;unfold Builtin.append_;simp only [h0,h1,List.getElem?_toArray,List.getElem?_cons_zero,List.getElem?_cons_succ];refine cb hu ?_;simp only;refine cb bt ?_;refine cb nF ?_;refine cb (a:=false) (by cases d2<;>first|rfl|cases aH) ?_;simp only [Bool.false_eq_true,if_false];refine ck hlen ?_;rw[aW af];refine cb J ?_;rw[aW (by simp [k_])];refine cb J ?_;have hB:=Oi k9 qm;have hle:¬(Builtin.nextslicecap (kn+n) nE*info.bytes>2^48):=by
  have h:=Nat.mul_le_mul hB U;have ad:33554432*65536<=2^48:=by decide
  omega
 rw[aW hle];refine ck (w1:={w with drawn:=w.drawn+1}) (a:=(Question.appendCap (kn+n) nE elem).cut (w.tape w.drawn (.appendCap (kn+n) nE elem))) (by simp [choose,Sem.run,Question.forced]) ?_;refine cb J ?_;refine ck (w1:={w with drawn:=w.drawn+1}) (a:=()) (by unfold askRoom;split<;>rfl) ?_;refine ck (hold _) ?_;simp only [Bool.not_false,if_true];refine ck (py _) ?_;refine cb Om ?_;refine ck (a:=(⟨w.heap.size,0,none⟩:Addr)) (by simp only [newRow,newObj];rfl) ?_;rfl
end
end AE
namespace AE
variable [aX]
section
variable {P:aC} {φ:bn} {A aO:aD} {w:aj}
def Cv (P:aC) (A:aD) (bX:Array az) (s x:I):Option (I×aD):=
 match bX[0]?,bX[1]? with
 |some t,some t2=>match aP P (underlying t),aP P (underlying t2) with
  |some (.slice elem),some d2=>
   match aP P (sizeOf elem),aP P (typeInfo elem),aP P (zeroValue elem) with
   |some aG,some info,some z=>
    bif zc d2||Nat.beq aG 0||Nat.beq info.bytes 0|| !Nat.ble info.bytes 65536|| !Nat.beq z.cells.size aG then none else
     match zb A aG x with
     |some (n,bZ)=>
      bif !Nat.ble n 524288 then none else
      match s with
      | .slice none 0 0=>bif Nat.beq n 0 then some (.slice none 0 0,A) else
          match A.push (.cells bZ) aG elem with
          |some (r,aY)=>some (.slice (some ⟨r,0,none⟩) n n,aY)
          |none=>none
      | .slice (some ⟨b,off,none⟩) sl ko=>
        bif !Nat.ble sl 524288||(Nat.beq b dead&& !Nat.beq off 0) then none else
         bif Nat.ble (sl+n) ko then
          match A.lJ b (off+sl*aG) bZ with
          |some aY=>some (.slice (some ⟨b,off,none⟩) (sl+n) ko,aY)
          |none=>none
         else match A.bl.get b with
          |none=>bif Nat.beq sl 0&&Nat.beq ko 0 then
            match A.push (.cells bZ) aG elem with
            |some (r,aY)=>some (.slice (some ⟨r,0,none⟩) n n,aY)
            |none=>none
           else none
          |some k=>match A.mQ b off (sl*aG) with
           |some old=>
            bif Nat.beq k.da 0 then
             match A.push (.cells (old++bZ)) aG elem with
             |some (r,aY)=>some (.slice (some ⟨r,0,none⟩) (sl+n) (sl+n),aY)
             |none=>none
            else bif Nat.beq k.da aG then
             match A.za b (k.pos+off) aG elem (old++List.replicate (n*aG) cC) with
             |some (r,aY)=>match aY.lJ r (sl*aG) bZ with
              |some dP=>some (.slice (some ⟨r,0,none⟩) (sl+n) (sl+n),dP)
              |none=>none
             |none=>none
            else none
           |none=>none
      |_=>none
     |none=>none
   |_,_,_=>none
  |_,_=>none
 |_,_=>none
theorem Cw (hr:bs φ A w) (d:Nat):bs φ A {w with drawn:=d}:=⟨hr.wf,hr.c5,hr.apart,hr.along,hr.eb⟩
theorem H5 {old bZ:List I} {gF hA rest:Array I} (h1:gF.size=old.length) (ad:∀j,j<old.length->ar φ (old.getD j undef) (gF.getD j undef)) (al:hA.size=bZ.length)
  (bb:∀j,j<bZ.length->ar φ (bZ.getD j undef) (hA.getD j undef)):∀j,j<(old++bZ).length->ar φ ((old++bZ).getD j undef) ((gF++hA++rest).getD j undef):=by
 intro j hj;simp only [List.length_append] at hj;simp only [de,dD,List.getElem?_append,Array.getElem?_append,Array.size_append] at ad bb ⊢;by_cases sQ:j<old.length
 ·rw[aR sQ,aR af,aR af]
  exact ad j sQ
 ·rw[aW sQ,aR af,aW af,h1]
  exact bb (j-old.length) af
theorem On (hr:bs φ A w) {elem:az} {aG sl n:Nat} {old bZ:List I} {gF hA rest:Array I} {r iA:Nat} (bt:1<=aG) (hp:A.push (.cells (old++bZ)) aG elem=some (r,aO))
  (h1:gF.size=old.length) (ad:∀j,j<old.length->ar φ (old.getD j undef) (gF.getD j undef)) (al:hA.size=bZ.length) (bb:∀j,j<bZ.length->ar φ (bZ.getD j undef) (hA.getD j undef))
  (nG:old.length=sl*aG) (f_:bZ.length=n*aG) (hB:sl+n<=iA) (lL:rest.size=(iA-(sl+n))*aG):
  ∃bY w',w'={w with drawn:=w.drawn+1,heap:=w.heap.push (.cells (gF++hA++rest) elem)}/\
   ar bY (.slice (some ⟨r,0,none⟩) (sl+n) (sl+n)) (.slice (some ⟨w.heap.size,0,none⟩) (sl+n) iA)/\bF φ A w bY aO w':=by
 have iP:=Cw hr (w.drawn+1);obtain⟨bY,w',g1,g2,b6,g4⟩:=uN iP (default:aC) (c':=gF++hA++rest) elem hp (by simp;omega) (λh=>absurd (show aG=0 from h) af) (H5 h1 ad al bb);refine⟨bY,w',g4,?_,bF.trans hr (bF.rA hr (w.drawn+1)) b6⟩;have Oo:(gF++hA++rest).size=iA*aG:=by
  simp only [Array.size_append,h1,al,nG,f_,lL];rw[<-Nat.add_mul,<-Nat.add_mul];congr 1;omega
 have:=ar.fT (φ:=bY) (b:=r) (o:=0) (sl+n) (sl+n) iA g2 bt hB (by
  simp only [Nat.zero_add]
  rw[Oo];exact bM _)
 simpa using this
theorem Oq (hr:bs φ A w) {bX:Array az} {ty:az} {s dp x x' v:I} (hs:ar φ s dp) (ag:ar φ x x') (h:Cv P A bX s x=some (v,aO)):bm (e8 v) P φ A w (Builtin.append_ bX ty #[dp,x']) aO:=by
 unfold Cv at h;split at h
 ·rename_i t t2 aE uP
  split at h
  ·rename_i elem d2 hu nF
   split at h
   ·rename_i aG info z bt J bk
    cases ao:(zc d2||Nat.beq aG 0||Nat.beq info.bytes 0|| !Nat.ble info.bytes 65536|| !Nat.beq z.cells.size aG) with
    |true=>rw[ao] at h;cases h
    |false=>
     rw[ao,cV] at h;simp only [Bool.or_eq_false_iff,Bool.not_eq_false'] at ao;obtain⟨⟨⟨⟨aH,c1⟩,c2⟩,eN⟩,ga⟩:=ao;have Cx:1<=aG:=by
      rcases Nat.eq_zero_or_pos aG with h0|h0
      ·subst h0;simp at c1
      ·exact h0
     have k_:info.bytes≠0:=by
      intro h0;rw[h0] at c2;simp at c2
     have U:info.bytes<=65536:=Nat.ble_eq.mp eN;have k8:z.cells.size=aG:=bJ ga;cases sR:zb A aG x with
     |none=>rw[sR] at h;cases h
     |some q=>
      obtain⟨n,bZ⟩:=q;rw[sR] at h;simp only at h;obtain⟨f_,hA,h7,gj,uQ,py⟩:=Ol (P:=P) hr ag sR;cases wX:Nat.ble n 524288 with
      |false=>rw[wX] at h;cases h
      |true=>
       rw[wX,Bool.not_true,cV] at h;have ah:=Nat.ble_eq.mp wX;have fresh:∀(sl:Nat) (old:List I) (gF:Array I) (base:Option Addr) (iQ r:Nat),sl<=524288->old.length=sl*aG->gF.size=old.length->(∀j,j<old.length->ar φ (old.getD j undef) (gF.getD j undef))->
         (∀d,(Builtin.firstCells aG sl (.slice base sl iQ)).run P {w with drawn:=d}= .ok gF {w with drawn:=d})->iQ<sl+n->A.push (.cells (old++bZ)) aG elem=some (r,aO)->
         bm (e8 (.slice (some ⟨r,0,none⟩) (sl+n) (sl+n))) P φ A w (Builtin.append_ bX ty #[.slice base sl iQ,x']) aO:=by
        intro sl old gF base iQ r ij nG ze sS hold k9 hp;obtain⟨iA,hB,eo⟩:=H4 (ty:=ty) aE uP hu nF aH bt J bk k_ U af (uQ w.drawn) py hold k9;obtain⟨bY,w',e1,e2,fg⟩:=On hr Cx hp ze sS h7 gj nG f_ hB (rest:=Builtin.zeroCells z.cells (iA-(sl+n))) (by rw[H2,k8]);subst e1;exact⟨bY,_,_,eo,e2,fg⟩
       split at h
       ·
        cases hs;cases fL:Nat.beq n 0 with
        |true=>
         rw[fL,a7] at h;simp only [bS,Prod.mk.injEq] at h;obtain⟨rfl,rfl⟩:=h;have H6:n=0:=bJ fL;subst H6;exact⟨φ,w,_,zd aE uP hu nF aH bt (uQ w.drawn) (py w.drawn) (bM _) rfl,.slnil _ _,bF.refl hr⟩
        |false=>
         rw[fL,cV] at h;split at h
         ·rename_i r aY hp
          simp only [bS,Prod.mk.injEq] at h;obtain⟨rfl,rfl⟩:=h;have H6:n≠0:=λe=>by subst e;simp at fL
          have:=fresh 0 [] #[] none 0 r af (by simp) rfl (λj hj=>absurd hj (by simp)) (λd=>rfl) af (by simpa using hp);simpa using this
         ·cases h
       ·rename_i b off sl ko
        cases Cy:Nat.ble sl 524288 with
        |false=>rw[Cy] at h;cases h
        |true=>
         rw[Cy,Bool.not_true,Bool.false_or] at h;cases zf:(Nat.beq b dead&& !Nat.beq off 0) with
         |true=>rw[zf] at h;cases h
         |false=>
         rw[zf,cV] at h;have zg:b=dead->off=0:=λe=>by
          subst e;rw[Nat.beq_refl,Bool.true_and,Bool.not_eq_false'] at zf;exact bJ zf
         have ij:=Nat.ble_eq.mp Cy;cases k9:Nat.ble (sl+n) ko with
         |true=>
          rw[k9,a7] at h;have wY:=Nat.ble_eq.mp k9;split at h
          ·rename_i aY cd
           simp only [bS,Prod.mk.injEq] at h;obtain⟨rfl,rfl⟩:=h;have room:∀(e:fj) (iQ:Nat),φ b=some e->sl+n<=iQ->∃w',bF φ A w φ aY w'/\(Builtin.append_ bX ty #[.slice (some ⟨e.aU,e.bR+off,none⟩) sl iQ,x']).run P w= .ok (.slice (some ⟨e.aU,e.bR+off,none⟩) (sl+n) iQ) w':=by
            intro e iQ he hle;obtain⟨w',g1,g2⟩:=uM P he bZ A aY w (off+sl*aG) 0 hA.toList hr cd (by simpa using h7) (λj hj=>by
             have:=gj j hj;simp only [dD] at this
             simpa [de] using this)
            refine⟨w',g2,zd aE uP hu nF aH bt (uQ w.drawn) (py w.drawn) hle ?_⟩;simp only [Addr.hX];rw[Nat.add_assoc];exact g1
           cases hs with
           |fS _ _ he=>
            obtain⟨w',g1,g2⟩:=room _ _ he wY;exact⟨φ,w',_,g2,.fS _ _ he,g1⟩
           |fT _ _ c' he q1 aJ cg=>
            obtain⟨w',g1,g2⟩:=room _ c' he af;exact⟨φ,w',_,g2,.fT _ _ _ he q1 aJ cg,g1⟩
           |gi aL mm=>
            have sT:=mm (zg rfl);subst sT;have fL:n=0:=by omega
            subst fL;have Ot:bZ=[]:=by simpa using f_
            subst Ot;simp only [aD.lJ,bS] at cd;subst cd;have Cz:hA= #[]:=Array.eq_empty_of_size_eq_zero h7;subst Cz;exact⟨φ,w,_,zd aE uP hu nF aH bt (uQ w.drawn) (py w.drawn) (bM _) rfl,.gi _ mm,bF.refl hr⟩
          ·cases h
         |false=>
          rw[k9,cV] at h;have wY:ko<sl+n:=by
           rcases Nat.lt_or_ge ko (sl+n) with h1|h1
           ·exact h1
           ·rw[Nat.ble_eq.mpr h1] at k9;cases k9
          cases hk:A.bl.get b with
          |none=>
           rw[hk] at h;simp only at h;cases nH:(Nat.beq sl 0&&Nat.beq ko 0) with
           |false=>rw[nH] at h;cases h
           |true=>
            rw[nH,a7] at h;simp only [b4] at nH;have e1:sl=0:=bJ nH.1;have e2:ko=0:=bJ nH.2;subst e1;subst e2;split at h
            ·rename_i r aY hp
             simp only [bS,Prod.mk.injEq] at h;obtain⟨rfl,rfl⟩:=h;have wZ:∀e,φ b≠some e:=λe he=>by
              obtain⟨k,cc,_⟩:=hr.c5 b e he;rw[hk] at cc;cases cc
             cases hs with
             |fS _ _ he=>exact absurd he (wZ _)
             |fT _ _ c' he q1 aJ cg=>exact absurd he (wZ _)
             |gi aL mm=>
              have sT:=mm (zg rfl);subst sT;have:=fresh 0 [] #[] (some aL) 0 r af (by simp) rfl (λj hj=>absurd hj (by simp)) (λd=>by simp [Builtin.firstCells,loadCells,loadCellsFrom,Sem.run,pure]) af (by simpa using hp);simpa using this
            ·cases h
          |some k=>
           rw[hk] at h;simp only at h;cases hold:A.mQ b off (sl*aG) with
           |none=>rw[hold] at h;cases h
           |some old=>
            rw[hold] at h;simp only at h;obtain⟨nG,sP⟩:=uK hold;have CA:∀(e:fj) (iQ:Nat),φ b=some e->∃gF:Array I,gF.size=old.length/\(∀j,j<old.length->ar φ (old.getD j undef) (gF.getD j undef))/\
              ∀d,(Builtin.firstCells aG sl (.slice (some ⟨e.aU,e.bR+off,none⟩) sl iQ)).run P {w with drawn:=d}= .ok gF {w with drawn:=d}:=by
             intro e iQ he;obtain⟨dH,h1,ad,al⟩:=wN hr P hold he;exact⟨dH,ad,al,λd=>H3 _ _ h1 d λj hj=>by
              obtain⟨au,g1,_⟩:=qg hr (sP j hj) he
              exact⟨au,by rw[Addr.hX,Nat.add_assoc];exact g1⟩⟩
            have H7:∀(aL:Addr),sl=0->∀d,(Builtin.firstCells aG sl (.slice (some aL) sl 0)).run P {w with drawn:=d}= .ok #[] {w with drawn:=d}:=by
             intro aL e d;subst e;simp [Builtin.firstCells,loadCells,loadCellsFrom,Sem.run,pure]
            cases qn:Nat.beq k.da 0 with
            |true=>
             rw[qn,a7] at h;have fU:k.da=0:=bJ qn;split at h
             ·rename_i r aY hp
              simp only [bS,Prod.mk.injEq] at h;obtain⟨rfl,rfl⟩:=h;cases hs with
              |fS _ _ he=>
               obtain⟨gF,cZ,du,oj⟩:=CA _ ko he;exact fresh sl old gF _ ko r ij nG cZ du oj wY hp
              |fT _ _ c' he q1 aJ cg=>
               obtain⟨k',cc,cd,_⟩:=hr.c5 b _ he;rw[hk] at cc;cases cc;omega
              |gi aL mm=>
               have sT:=mm (zg rfl);subst sT;have CB:old=[]:=by simpa using nG
               subst CB;exact fresh 0 [] #[] (some aL) 0 r af (by simp) rfl (λj hj=>absurd hj (by simp)) (H7 aL rfl) af hp
             ·cases h
            |false=>
             rw[qn,cV] at h;cases w2:Nat.beq k.da aG with
             |false=>rw[w2] at h;cases h
             |true=>
              rw[w2,a7] at h;have Ou:k.da=aG:=bJ w2;split at h
              ·rename_i r aY hp
               split at h
               ·rename_i dP H8
                simp only [bS,Prod.mk.injEq] at h;obtain⟨rfl,rfl⟩:=h;obtain⟨_,_,_,mS,_,cy,_,_,rfl,_,_,_,_,_⟩:=Cu hp hr.wf;have aM:∀b e,φ b=some e->∀em,eT φ A.n em b=some e:=λb e U em=>by
                 unfold eT;rw[aW (by have:=hr.lt U;omega)];exact U
                have CC:∀(base:Option Addr) (iQ:Nat) (gF:Array I),gF.size=old.length->(∀j,j<old.length->ar φ (old.getD j undef) (gF.getD j undef))->
                  (∀d,(Builtin.firstCells aG sl (.slice base sl iQ)).run P {w with drawn:=d}= .ok gF {w with drawn:=d})->iQ<sl+n->
                  bm (e8 (.slice (some ⟨A.n,0,none⟩) (sl+n) (sl+n))) P φ A w (Builtin.append_ bX ty #[.slice base sl iQ,x']) dP:=by
                 intro base iQ gF cZ du oj aB;obtain⟨iA,hB,eo⟩:=H4 (ty:=ty) aE uP hu nF aH bt J bk k_ U af (uQ w.drawn) py oj aB;have jE:(gF++hA++Builtin.zeroCells z.cells (iA-(sl+n))).size=iA*aG:=by
                  simp only [Array.size_append,cZ,h7,nG,f_,H2,k8];rw[<-Nat.add_mul,<-Nat.add_mul];congr 1;omega
                 have iP:=Cw hr (w.drawn+1);have iB:=H5 (rest:=Builtin.zeroCells z.cells (iA-(sl+n))) cZ du h7 gj;have hle:(sl+n)*aG<=iA*aG:=Nat.mul_le_mul_right _ hB;have Ov:sl*aG+n*aG=(sl+n)*aG:=(Nat.add_mul _ _ _).symm;have kM:=HX (e:=⟨w.heap.size,0,aG,iA*aG⟩) iP hp rfl (.inl ⟨rfl,.cells (gF++hA++Builtin.zeroCells z.cells (iA-(sl+n))) elem,rfl⟩) (λk' cc=>by
                  simp only [dZ];refine⟨_,(0,0),by simp,jE.symm,⟨by simp only [List.length_append,rv,Nat.zero_add,nG,jE];omega,λh=>absurd (show aG=0 from h) af⟩,λj hj=> ?_,λ_ i _=>by simp⟩;simp only [List.length_append,rv] at hj;simp only [Nat.zero_add];by_cases sQ:j<old.length
                  ·have:=(iB j (by simp;omega)).mono λeH e1 ml=>aM eH e1 ml ⟨w.heap.size,0,aG,iA*aG⟩
                   rw[de,List.getElem?_append_left sQ] at this ⊢;exact this
                  ·rw[de,List.getElem?_append_right af,List.getElem?_replicate,aR af]
                   exact .cC _)
                 have px:=HY (e:=⟨w.heap.size,0,aG,iA*aG⟩) (by simp [eT]) bZ aY dP (sl*aG) kM.rel H8 (λj hj=>by
                  have:=(iB (sl*aG+j) (by simp;omega)).mono λeH e1 ml=>aM eH e1 ml ⟨w.heap.size,0,aG,iA*aG⟩
                  rw[de,List.getElem?_append_right af,nG,Nat.add_sub_cancel_left,<-de] at this;refine⟨_,?_,this⟩;simp only [World.cell?,Nat.zero_add];have gk:sl*aG+j<(gF++hA++Builtin.zeroCells z.cells (iA-(sl+n))).size:=by rw[jE];omega
                  simp only [Array.getElem?_push_size,Option.isSome_none,Bool.false_eq_true,if_false,dD];rw[Array.getElem?_eq_getElem gk]
                  rfl)
                 refine⟨_,_,_,eo,?_,bF.trans hr (bF.rA hr (w.drawn+1)) (bF.trans iP kM px)⟩;have:=ar.fT (φ:=eT φ A.n ⟨w.heap.size,0,aG,iA*aG⟩) (b:=A.n) (o:=0) (e:=⟨w.heap.size,0,aG,iA*aG⟩) (sl+n) (sl+n) iA (by simp [eT]) Cx hB (by simp);simpa using this
                cases hs with
                |fS _ _ he=>
                 obtain⟨gF,cZ,du,oj⟩:=CA _ ko he;exact CC _ _ gF cZ du oj wY
                |gi aL mm=>
                 have sT:=mm (zg rfl);subst sT;have CB:old=[]:=by simpa using nG
                 subst CB;exact CC (some aL) 0 #[] rfl (λj hj=>absurd hj (by simp)) (H7 aL rfl) wY
                |fT _ _ c' he q1 aJ cg=>
                 rename_i e;obtain⟨gF,cZ,du,oj⟩:=CA _ c' he;rcases Nat.lt_or_ge c' (sl+n) with mj|hV
                 ·exact CC _ _ gF cZ du oj mj
                 ·
                  obtain⟨k',cc,CD,Ow⟩:=hr.c5 b e he;rw[hk] at cc;cases cc;have nI:e.da=aG:=CD.trans Ou;have Ov:sl*aG+n*aG=(sl+n)*aG:=(Nat.add_mul _ _ _).symm;have hle:(sl+n)*aG<=c'*aG:=Nat.mul_le_mul_right _ hV;rw[nI] at cg;have kM:=HX (e:=⟨e.aU,e.bR+off,aG,e.lim⟩) hr hp rfl (.inr ⟨rfl,e,k,he,hk,rfl,by simp only;omega⟩) (λk' cc=>by
                   rw[hk] at cc;cases cc;obtain⟨b0,c2,l2,g1,g2,b6,g4,_⟩:=Cu hp hr.wf;rw[hk] at g1;cases g1;have CE:=Ow;unfold dZ at CE;simp only [g2] at CE;obtain⟨eN,Ox,cH,dj,eR,uB,uC⟩:=CE;simp only [dZ];refine⟨eN,Ox,by rw[<-g4];exact cH,dj,⟨by simp only [List.length_append,rv,nG];omega,λh=>absurd (show aG=0 from h) af⟩,λj hj=> ?_,λ_=>uC b6⟩;simp only [List.length_append,rv] at hj;by_cases sQ:j<old.length
                   ·rw[de,List.getElem?_append_left sQ,<-de]
                    obtain⟨au,dn,fe⟩:=qg hr (sP j af) he;simp only [World.cell?,cH,Option.isSome_none,Bool.false_eq_true,if_false] at dn;rw[dD,Nat.add_assoc,dn];exact fe.mono λeH e1 ml=>aM eH e1 ml _
                   ·rw[de,List.getElem?_append_right af,List.getElem?_replicate,aR af]
                    exact .cC _)
                  obtain⟨w',g1,g2⟩:=uM P (e:=⟨e.aU,e.bR+off,aG,e.lim⟩) (by simp [eT]) bZ aY dP w (sl*aG) 0 hA.toList kM.rel H8 (by simpa using h7) (λj hj=>by
                   have:=(gj j hj).mono λeH e1 ml=>aM eH e1 ml ⟨e.aU,e.bR+off,aG,e.lim⟩
                   simp only [dD] at this
                   simpa [de] using this)
                  refine⟨_,w',_,zd aE uP hu nF aH bt (uQ w.drawn) (py w.drawn) hV (w':=w') ?_,?_,bF.trans hr kM g2⟩
                  ·simp only [Addr.hX]
                   exact g1
                  ·have:=ar.fT (φ:=eT φ A.n ⟨e.aU,e.bR+off,aG,e.lim⟩) (b:=A.n) (o:=0) (e:=⟨e.aU,e.bR+off,aG,e.lim⟩) (sl+n) (sl+n) c' (by simp [eT]) Cx hV (by simp only [Nat.add_zero];exact cg)
                   simpa using this
               ·cases h
              ·cases h
       ·cases h
   ·cases h
  ·cases h
 ·cases h
end
end AE
namespace AE
variable [aX]
section
variable {P:aC} {φ:bn} {A aO:aD} {w:aj}
omit [aX] in
theorem Oy {α:Type} (k:IntKind) (x y:Int) (c:BoundsCode):aP P (boundsPanic k x y c:Sem α)=none:=by
 unfold boundsPanic;dsimp only;split
 ·rw[mR]
  have:aP P (Functor.map (λx=>x==1) (choose (.extern "runtime.boundsError.signed" 2)))=none:=rfl;rw[this];rfl
 ·rw[mR];rfl
omit [aX] in
theorem zh {v:I} {y:Nat} {c:BoundsCode} {r:Nat} (h:aP P (Instr.sliceBound v y c)=some r):∃k i,v= .int k i/\0<=i/\i<=y/\r=i.toNat:=by
 unfold Instr.sliceBound at h;rw[mR] at h;cases v with
 |int k i=>
  simp only [asIntOf,wS,Option.bind_some] at h;split at h
  ·rename_i U
   simp only [wS,bS] at h;exact⟨k,i,rfl,U.1,U.2,h.symm⟩
  ·rw[Oy] at h;cases h
 |pointer a=>cases a<;>cases h
 |_=>cases h
omit [aX] in
theorem H9 (k:IntKind) (i:Int) (y:Nat) (c:BoundsCode) (h0:0<=i) (h1:i<=y):aP P (Instr.sliceBound (.int k i) y c)=some i.toNat:=by
 unfold Instr.sliceBound;rw[mR];simp only [asIntOf,wS,Option.bind_some];rw[aR ⟨h0,h1⟩];rfl
omit [aX] in
theorem rG {b:Bool} {len c c' l h m:Nat} {e7 J ep:Option I} (ao:c<=c') (U:aP P (Instr.sliceBounds b len c e7 J ep)=some (l,h,m)):
  aP P (Instr.sliceBounds b len c' e7 J ep)=some (l,h,if ep.isSome then m else c')/\(ep=none->m=c)/\m<=c/\l<=h/\(ep.isSome=true->h<=m):=by
 have low:∀(y m0 m1:Nat) (zi:BoundsCode) {l h m:Nat},aP P (do
   let l <-match e7 with
    |some v=>Instr.sliceBound v y zi
    |none=>pure 0
   pure (l,y,m0))=some (l,h,m)->aP P (do
   let l <-match e7 with
    |some v=>Instr.sliceBound v y zi
    |none=>pure 0
   pure (l,y,m1))=some (l,h,m1)/\h=y/\m=m0/\l<=y:=by
  intro y m0 m1 zi l h m hl;cases e7 with
  |none=>
   simp only [mR,wS,Option.bind_some,bS,Prod.mk.injEq] at hl ⊢;obtain⟨rfl,rfl,rfl⟩:=hl;simp
  |some v=>
   simp only [mR] at hl ⊢;cases hs:aP P (Instr.sliceBound v y zi) with
   |none=>rw[hs] at hl;cases hl
   |some r=>
    rw[hs] at hl;simp only [Option.bind_some,wS,bS,Prod.mk.injEq] at hl ⊢;obtain⟨k,i,_,h0,h1,ad⟩:=zh hs;obtain⟨rfl,rfl,rfl⟩:=hl;refine⟨by simp,rfl,rfl,af⟩
 cases ep with
 |none=>
  cases J with
  |none=>
   have e:∀hz,Instr.sliceBounds b len hz e7 none none=(do
     let l <-match e7 with
      |some v=>Instr.sliceBound v len (if (none:Option I).isSome then .slice3C else .sliceB)
      |none=>pure 0
     pure (l,len,hz)):=λhz=>by unfold Instr.sliceBounds;cases e7<;>rfl
   rw[e] at U ⊢;obtain⟨g1,g2,b6,g4⟩:=low len c c' _ U;subst g2;subst b6;exact⟨by simpa using g1,λ_=>rfl,bM _,g4,λh=>by cases h⟩
  |some sU=>
   have e:∀hz,Instr.sliceBounds b len hz e7 (some sU) none=(do
     let h <-Instr.sliceBound sU hz (if b then .sliceAcap else .sliceAlen)
     let l <-match e7 with
      |some v=>Instr.sliceBound v h (if (none:Option I).isSome then .slice3C else .sliceB)
      |none=>pure 0
     pure (l,h,hz)):=λhz=>by unfold Instr.sliceBounds;cases e7<;>rfl
   rw[e] at U ⊢;rw[mR] at U ⊢;cases hs:aP P (Instr.sliceBound sU c (if b=true then .sliceAcap else .sliceAlen)) with
   |none=>rw[hs] at U;cases U
   |some r=>
    rw[hs,Option.bind_some] at U;obtain⟨k,i,rfl,h0,h1,rfl⟩:=zh hs;rw[H9 k i c' _ h0 af,Option.bind_some];obtain⟨g1,g2,b6,g4⟩:=low i.toNat c c' _ U;subst g2;subst b6;exact⟨by simpa using g1,λ_=>rfl,bM _,g4,λh=>by cases h⟩
 |some pz=>
  cases J with
  |none=>
   exfalso;have e:Instr.sliceBounds b len c e7 none (some pz)=(do
     let m <-Instr.sliceBound pz c (if b then .slice3Acap else .slice3Alen)
     let h <-(stuck "Slice: max without high":Sem Nat)
     let l <-match e7 with
      |some v=>Instr.sliceBound v h (if (some pz).isSome then .slice3C else .sliceB)
      |none=>pure 0
     pure (l,h,m)):=by unfold Instr.sliceBounds;cases e7<;>rfl
   rw[e,mR] at U;cases hs:aP P (Instr.sliceBound pz c (if b=true then .slice3Acap else .slice3Alen)) with
   |none=>rw[hs] at U;cases U
   |some r=>rw[hs] at U;cases U
  |some sU=>
   have e:∀hz,Instr.sliceBounds b len hz e7 (some sU) (some pz)=(do
     let m <-Instr.sliceBound pz hz (if b then .slice3Acap else .slice3Alen)
     let h <-Instr.sliceBound sU m .slice3B
     let l <-match e7 with
      |some v=>Instr.sliceBound v h (if (some pz).isSome then .slice3C else .sliceB)
      |none=>pure 0
     pure (l,h,m)):=λhz=>by unfold Instr.sliceBounds;cases e7<;>rfl
   rw[e,mR] at U ⊢;cases hs:aP P (Instr.sliceBound pz c (if b=true then .slice3Acap else .slice3Alen)) with
   |none=>rw[hs] at U;cases U
   |some r=>
    rw[hs,Option.bind_some] at U;obtain⟨k,i,rfl,h0,h1,rfl⟩:=zh hs;rw[H9 k i c' _ h0 af,Option.bind_some];rw[mR] at U ⊢;cases ql:aP P (Instr.sliceBound sU i.toNat .slice3B) with
    |none=>rw[ql] at U;cases U
    |some cH=>
     rw[ql,Option.bind_some] at U;rw[Option.bind_some];obtain⟨sV,W_,_,iR,q1,aJ⟩:=zh ql;obtain⟨g1,g2,b6,g4⟩:=low cH i.toNat i.toNat _ U;subst g2;subst b6;refine⟨by simpa using g1,λh=>by simp at h,af,g4,λ_=>by omega⟩
def CF (P:aC) (A:aD) (t:az) (x:I) (e7 J ep:Option I):Option I:=
 match aP P (underlying t),x with
 |some (.array n elem),.pointer (some ⟨b,off,none⟩)=>
  match aP P (Instr.sliceBounds false n n e7 J ep),aP P (sizeOf elem) with
  |some (l,h,m),some aG=>some (.slice (some ⟨b,if m=l then off else off+l*aG,none⟩) (h-l) (m-l))
  |_,_=>none
 |some (.slice elem),.slice (some ⟨b,off,none⟩) len cap=>
  match aP P (Instr.sliceBounds true len cap e7 J ep),aP P (sizeOf elem),A.bl.get b with
  |some (l,h,m),some aG,some k=>
   bif Nat.beq k.da 0||Nat.beq k.da aG then
    match ep with
    |some _=>bif Nat.beq m l then some (.slice (some ⟨dead,0,none⟩) 0 0) else some (.slice (some ⟨b,off+l*aG,none⟩) (h-l) (m-l))
    |none=>bif Nat.ble h m then (bif Nat.beq m l then some (.slice (some ⟨dead,1,none⟩) 0 0) else some (.slice (some ⟨b,off+l*aG,none⟩) (h-l) (m-l))) else none
   else none
  |some (_,h,m),some _,none=>bif Nat.beq cap 0&&Nat.beq len 0&&Nat.ble h m then some (.slice (some ⟨b,off,none⟩) 0 0) else none
  |_,_,_=>none
 |_,_=>none
theorem Oz (hr:bs φ A w) {t:az} {x x' v:I} {e7 J ep:Option I} (ag:ar φ x x') (h:CF P A t x e7 J ep=some v):bm (e8 v) P φ A w (Instr.sliceAt t x' e7 J ep) A:=by
 unfold CF at h;split at h
 ·rename_i n elem b off hu
  split at h
  ·rename_i l aq m aG U bt
   simp only [bS] at h;subst h;cases ag with
   |ptr he=>
    rename_i e;unfold Instr.sliceAt;refine bm.pre hu ?_;simp only;refine bm.pre (a:=(⟨e.aU,e.bR+off,none⟩:Addr)) rfl ?_;refine bm.pre U ?_;simp only;refine bm.pre bt ?_;have:=ar.fS (φ:=φ) (b:=b) (o:=if m=l then off else off+l*aG) (aq-l) (m-l) he;refine bm.ret hr ?_;show ar φ _ _;by_cases hm:m=l
    ·simp only [hm,if_true] at this ⊢
     exact this
    ·simp only [hm,if_false,Addr.hX] at this ⊢
     rw[<-Nat.add_assoc] at this;exact this
  ·cases h
 ·rename_i elem b off len cap hu
  have run:∀(a:Addr) (pA l aq m aG:Nat),aP P (Instr.sliceBounds true len pA e7 J ep)=some (l,aq,m)->aP P (sizeOf elem)=some aG->
    (Instr.sliceAt t (.slice (some a) len pA) e7 J ep).run P w= .ok (.slice (if m=l then some a else some (a.add (l*aG))) (aq-l) (m-l)) w:=by
   intro a pA l aq m aG U bt;unfold Instr.sliceAt;refine cb hu ?_;simp only;unfold Instr.slice;refine cb hu ?_;simp only;refine cb U ?_;simp only;refine cb bt ?_;rfl
  split at h
  ·rename_i l aq m aG k U bt hk
   cases cd:(Nat.beq k.da 0||Nat.beq k.da aG) with
   |false=>rw[cd] at h;cases h
   |true=>
    rw[cd,a7] at h;have OA:k.da=0\/k.da=aG:=by
     simp only [Bool.or_eq_true] at cd;exact cd.imp bJ bJ
    split at h
    ·rename_i pz
     have both:∀(e:fj) (pA:Nat),φ b=some e->cap<=pA->bm (e8 v) P φ A w (Instr.sliceAt t (.slice (some ⟨e.aU,e.bR+off,none⟩) len pA) e7 J (some pz)) A:=by
      intro e pA he hle;obtain⟨g1,g2,b6,g4,ih⟩:=rG hle U;simp only [Option.isSome_some,if_true] at g1 ih;have iP:=run ⟨e.aU,e.bR+off,none⟩ pA l aq m aG g1 bt;refine⟨φ,w,_,iP,?_,bF.refl hr⟩;cases mT:Nat.beq m l with
      |true=>
       rw[mT,a7,bS] at h;subst h;have qo:m=l:=bJ mT;have h1:aq-l=0:=by have:=ih trivial;omega
       have ad:m-l=0:=by omega
       rw[aR qo,h1,ad];exact .gi _ (λ_=>rfl)
      |false=>
       rw[mT,cV,bS] at h;subst h;have qo:m≠l:=λe=>by subst e;simp at mT
       rw[aW qo,Addr.hX];have:=ar.fS (φ:=φ) (b:=b) (o:=off+l*aG) (aq-l) (m-l) he;rw[<-Nat.add_assoc] at this;exact this
     cases ag with
     |fS _ _ he=>exact both _ _ he (bM _)
     |fT _ _ c' he q1 aJ cg=>exact both _ _ he aJ
     |gi aL bk=>
      rename_i c';obtain⟨f1,_⟩:=rG (Nat.zero_le c') U;have iP:=run aL c' l aq m aG (by simpa using f1) bt;obtain⟨g1,g2,b6,g4,ih⟩:=rG (bM _) U;have:=ih rfl;have e1:l=0:=by omega
      have e2:aq=0:=by omega
      have fg:m=0:=by omega
      subst e1;subst e2;subst fg;refine⟨φ,w,_,iP,?_,bF.refl hr⟩;simp only [Nat.beq_refl,a7,bS] at h;subst h;simp only [if_true,Nat.sub_self];exact .gi _ (λ_=>rfl)
    ·
     cases CG:Nat.ble aq m with
     |false=>rw[CG] at h;cases h
     |true=>
     rw[CG,a7] at h;have Xa:=Nat.ble_eq.mp CG;obtain⟨g1,g2,b6,g4,ih⟩:=rG (bM _) U;have OB:=g2 rfl;subst OB;have empty:∀(aL:Addr) (c':Nat),m=l->∀x',(x'=some aL\/∃zj,x'=some zj)->ar φ (.slice (some ⟨dead,1,none⟩) 0 0) (.slice x' (aq-l) (c'-l)):=by
      intro aL c' mT x' mn;rw[show aq-l=0 by omega];rcases mn with rfl|⟨zj,rfl⟩<;>exact .gi _ (λh=>absurd h cG)
     have CH:∀(p:Prop) [Decidable p] (a b:Addr),∃zj,(if p then some a else some b)=some zj:=λp _ a b=>by
      by_cases hp:p
      ·exact⟨a,aR hp⟩
      ·exact⟨b,aW hp⟩
     cases mT:Nat.beq m l with
     |true=>
      have qo:m=l:=bJ mT;rw[mT,a7,bS] at h;subst h;cases ag with
      |fS _ _ he=>
       rename_i e;refine⟨φ,w,_,run ⟨e.aU,e.bR+off,none⟩ m l aq m aG U bt,empty ⟨e.aU,e.bR+off,none⟩ m qo _ (.inr (CH _ _ _)),bF.refl hr⟩
      |fT _ _ c' he q1 aJ cg=>
       rename_i e;obtain⟨f1,_⟩:=rG aJ U;exact⟨φ,w,_,run ⟨e.aU,e.bR+off,none⟩ c' l aq c' aG (by simpa using f1) bt,empty ⟨e.aU,e.bR+off,none⟩ c' qo _ (.inr (CH _ _ _)),bF.refl hr⟩
      |gi aL bk=>
       rename_i c';obtain⟨f1,_⟩:=rG (Nat.zero_le c') U;exact⟨φ,w,_,run aL c' l aq c' aG (by simpa using f1) bt,empty aL c' qo _ (.inr (CH _ _ _)),bF.refl hr⟩
     |false=>
      have qo:m≠l:=λe=>by subst e;simp at mT
      rw[mT,cV,bS] at h;subst h;cases ag with
      |fS _ _ he=>
       rename_i e;have iP:=run ⟨e.aU,e.bR+off,none⟩ m l aq m aG U bt;refine⟨φ,w,_,iP,?_,bF.refl hr⟩;rw[aW qo,Addr.hX];have:=ar.fS (φ:=φ) (b:=b) (o:=off+l*aG) (aq-l) (m-l) he;rw[<-Nat.add_assoc] at this;exact this
      |fT _ _ c' he q1 aJ cg=>
       rename_i e;obtain⟨f1,_⟩:=rG aJ U;have iP:=run ⟨e.aU,e.bR+off,none⟩ c' l aq c' aG (by simpa using f1) bt;refine⟨φ,w,_,iP,?_,bF.refl hr⟩;rw[aW af,Addr.hX];obtain⟨k',cc,CD,_⟩:=hr.c5 b e he;rw[hk] at cc;cases cc;have nI:e.da=aG:=by
        rcases OA with h0|h0
        ·omega
        ·exact CD.trans h0
       have Xb:l*aG+(c'-l)*aG=c'*aG:=by rw[<-Nat.add_mul];congr 1;omega
       have:=ar.fT (φ:=φ) (b:=b) (o:=off+l*aG) (aq-l) (m-l) (c'-l) he q1 af (by rw[nI] at cg ⊢;omega);rw[<-Nat.add_assoc] at this;exact this
      |gi aL bk=>omega
  ·rename_i l aq m aG U bt hk
   cases nH:(Nat.beq cap 0&&Nat.beq len 0&&Nat.ble aq m) with
   |false=>rw[nH] at h;cases h
   |true=>
    rw[nH,a7,bS] at h;subst h;simp only [b4] at nH;have e1:cap=0:=bJ nH.1.1;have e2:len=0:=bJ nH.1.2;have fg:aq<=m:=Nat.ble_eq.mp nH.2;subst e1;subst e2;have wZ:∀e,φ b≠some e:=λe he=>by
     obtain⟨k,cc,_⟩:=hr.c5 b e he;rw[hk] at cc;cases cc
    cases ag with
    |fS _ _ he=>exact absurd he (wZ _)
    |fT _ _ c' he q1 aJ cg=>exact absurd he (wZ _)
    |gi aL bk=>
     rename_i c';obtain⟨g1,g2,b6,g4,ih⟩:=rG (Nat.zero_le c') U;have iP:=run aL c' l aq _ aG g1 bt;refine⟨φ,w,_,iP,?_,bF.refl hr⟩;have hm:m=0:=by omega
     have e1:l=0:=by omega
     have e2:aq=0:=by omega
     subst hm;subst e1;subst e2;have ao:off=0->(if ep.isSome=true then 0 else c')-0=0:=λax=>by
      by_cases H':ep.isSome=true
      ·simp [H']
      ·simp [H',bk ax]
     show ar φ _ (.slice (if (if ep.isSome=true then 0 else c')=0 then some aL else some (aL.add (0*aG))) 0 ((if ep.isSome=true then 0 else c')-0));by_cases zk:(if ep.isSome=true then 0 else c')=0
     ·rw[aR zk];exact .gi _ ao
     ·rw[aW zk];exact .gi _ ao
  ·cases h
 ·cases h
end
end AE
namespace AE
variable [aX]
section
variable {P:aC} {φ:bn} {A aO:aD} {w:aj}
def CI (P:aC) (A:aD) (bX:Array az) (dst hD:I):Option (I×aD):=
 match bX[0]? with
 |some t=>match aP P (underlying t) with
  |some (.slice elem)=>match aP P (sizeOf elem) with
   |some aG=>match dst,hD with
    | .slice (some ⟨b,off,none⟩) nJ _,.slice (some ⟨fK,w3,none⟩) sl _=>
      match A.mQ fK w3 (Nat.min sl nJ*aG) with
      |some l=>match A.lJ b off l with
       |some aY=>some (.int .i64 (Nat.min sl nJ),aY)
       |none=>none
      |none=>none
    | .slice (some _) nJ _,.slice none sl _=>some (.int .i64 (Nat.min sl nJ),A)
    |_,_=>none
   |none=>none
  |_=>none
 |none=>none
theorem OC (hr:bs φ A w) {bX:Array az} {ty:az} {d iS s dp v:I} (aH:ar φ d iS) (hs:ar φ s dp) (h:CI P A bX d s=some (v,aO)):bm (e8 v) P φ A w (Builtin.copy_ bX ty #[iS,dp]) aO:=by
 unfold CI at h;split at h
 ·rename_i t aE
  split at h
  ·rename_i elem hu
   split at h
   ·rename_i aG bt
    split at h
    ·rename_i b off nJ rH fK w3 sl ko
     split at h
     ·rename_i l hl
      split at h
      ·rename_i aY cd
       simp only [bS,Prod.mk.injEq] at h;obtain⟨rfl,rfl⟩:=h;unfold Builtin.copy_;simp only [aE,List.getElem?_toArray,List.getElem?_cons_zero,List.getElem?_cons_succ];refine bm.pre hu ?_;obtain⟨sW,kp⟩:=uK hl;have main:∀(e e2:fj) (iQ:Nat),φ b=some e->φ fK=some e2->bm (e8 (.int .i64 (Nat.min sl nJ))) P φ A w (do
         let n:=Nat.min (<-Builtin.lenOf (.slice (some ⟨e2.aU,e2.bR+w3,none⟩) sl iQ)) nJ
         let cells <-Builtin.firstCells (<-sizeOf elem) n (.slice (some ⟨e2.aU,e2.bR+w3,none⟩) sl iQ)
         storeCells ⟨e.aU,e.bR+off,none⟩ cells.toList
         pure (goInt n)) aY:=by
        intro e e2 iQ he mU;refine bm.pre (a:=sl) rfl ?_;refine bm.pre bt ?_;refine bm.bind hr (HM hr hl mU) λeE w1 cells iP hmono ⟨c1,c2⟩=> ?_
        obtain⟨w',g1,g2⟩:=uM P (hmono _ _ he) l A aY w1 off 0 cells.toList iP cd (by simpa using c1) (λj hj=>by
         have:=c2 j hj;simp only [dD] at this
         simpa [de] using this)
        refine⟨eE,w',_,ck (by simpa using g1) rfl,.int _ _,g2⟩
       have zero:∀(a aL:Option Addr) (OD iQ:Nat),Nat.min sl nJ*aG=0->Nat.min sl nJ=0->aY=A:=by
        intro a aL OD iQ h0 _;rw[h0] at sW;have:l=[]:=by simpa using sW
        subst this;simpa [aD.lJ] using cd.symm
       cases aH with
       |fS _ _ he=>cases hs with
        |fS _ _ mU=>exact main _ _ _ he mU
        |fT _ _ c' mU _ _ _=>exact main _ _ _ he mU
        |gi aL _=>
         have:=zero none none 0 0 (by simp) (by simp);subst this;refine⟨φ,w,.int .i64 0,?_,by simpa using ar.int .i64 0,bF.refl hr⟩;simp [f' bt w,Builtin.firstCells,Builtin.lenOf,loadCells,loadCellsFrom,Sem.run,pure,storeCells,goInt]
       |fT _ _ c1 he _ _ _=>cases hs with
        |fS _ _ mU=>exact main _ _ _ he mU
        |fT _ _ c' mU _ _ _=>exact main _ _ _ he mU
        |gi aL _=>
         have:=zero none none 0 0 (by simp) (by simp);subst this;refine⟨φ,w,.int .i64 0,?_,by simpa using ar.int .i64 0,bF.refl hr⟩;simp [f' bt w,Builtin.firstCells,Builtin.lenOf,loadCells,loadCellsFrom,Sem.run,pure,storeCells,goInt]
       |gi aL _=>
        have:=zero none none 0 0 (by simp) (by simp);subst this;have hlen:∀dp,ar φ (.slice (some ⟨fK,w3,none⟩) sl ko) dp->∃a2 c2,dp= .slice (some a2) sl c2:=λdp h=>by
         cases h with
         |fS _ _ h=>exact⟨_,_,rfl⟩
         |fT _ _ _ h _ _ _=>exact⟨_,_,rfl⟩
         |gi aL _=>exact⟨_,_,rfl⟩
        obtain⟨a2,c2,rfl⟩:=hlen dp hs;refine⟨φ,w,.int .i64 0,?_,by simpa using ar.int .i64 0,bF.refl hr⟩;simp [f' bt w,Builtin.firstCells,Builtin.lenOf,loadCells,loadCellsFrom,Sem.run,pure,storeCells,goInt]
      ·cases h
     ·cases h
    ·rename_i a nJ rH sl ko
     simp only [bS,Prod.mk.injEq] at h;obtain⟨rfl,rfl⟩:=h;have OE:∃aL c',iS= .slice (some aL) nJ c':=by
      cases aH with
      |fS _ _ h=>exact⟨_,_,rfl⟩
      |fT _ _ _ h _ _ _=>exact⟨_,_,rfl⟩
      |gi aL _=>exact⟨_,_,rfl⟩
     obtain⟨aL,c',rfl⟩:=OE;cases hs;refine⟨φ,w,.int .i64 (Nat.min sl nJ),?_,.int _ _,bF.refl hr⟩;unfold Builtin.copy_;simp only [aE,List.getElem?_toArray,List.getElem?_cons_zero,List.getElem?_cons_succ];refine cb hu ?_;refine cb (a:=sl) rfl ?_;exact cb bt rfl
    ·cases h
   ·cases h
  ·cases h
 ·cases h
def CJ (P:aC) (A:aD) (t:az) (len cap:I):Option (I×aD):=
 match len,cap with
 | .int _ l,.int _ c=>
   bif decide (0<=l)&&decide (l<=c)&&decide (c<=1048576) then
    match aP P (underlying t) with
    |some (.slice elem)=>match aP P (typeInfo elem),aP P (sizeOf elem),aP P (zeroValue elem) with
     |some info,some aG,some z=>
      bif Nat.ble info.bytes 65536&&plain z&&(cellsOf z).isSome&&Nat.blt 0 z.cells.size then
       match A.push (.cells ((Array.range (c.toNat*aG)).map (z.cells[· %z.cells.size]!)).toList) 0 elem with
       |some (r,aY)=>some (.slice (some ⟨r,0,none⟩) l.toNat c.toNat,aY)
       |none=>none
      else none
     |_,_,_=>none
    |_=>none
   else none
 |_,_=>none
theorem OF (hr:bs φ A w) {t:az} {len cap v:I} (h:CJ P A t len cap=some (v,aO)):bm (e8 v) P φ A w (Instr.makeSlice t len cap) aO:=by
 unfold CJ at h;split at h
 ·rename_i bK l b0 c
  cases U:(decide (0<=l)&&decide (l<=c)&&decide (c<=1048576)) with
  |false=>rw[U] at h;cases h
  |true=>
   rw[U,a7] at h;simp only [b4,decide_eq_true_eq] at U;obtain⟨⟨eH,fK⟩,km⟩:=U;split at h
   ·rename_i elem hu
    split at h
    ·rename_i info aG z J bt bk
     cases h9:(Nat.ble info.bytes 65536&&plain z&&(cellsOf z).isSome&&Nat.blt 0 z.cells.size) with
     |false=>rw[h9] at h;cases h
     |true=>
      rw[h9,a7] at h;simp only [b4] at h9;obtain⟨⟨⟨q1,aJ⟩,cg⟩,dn⟩:=h9;have iT:=Nat.ble_eq.mp q1;have mm:=Nat.blt_eq.mp dn;have k8:=y_ aJ cg φ;split at h
      ·rename_i r aY hp
       simp only [bS,Prod.mk.injEq] at h;obtain⟨rfl,rfl⟩:=h;have wl:IntKind.i64.wrap l=l:=IntWalk.i64_in _ af;have OG:IntKind.i64.wrap c=c:=IntWalk.i64_in _ af;unfold Instr.makeSlice;refine bm.pre hu ?_;simp only;refine bm.pre (a:=l) rfl ?_;refine bm.pre (a:=c) rfl ?_;refine bm.pre J ?_;have H_:(info.bytes:Int)*c<=2^48:=by
        have h1:(info.bytes:Int)*c<=65536*1048576:=by
         have db:(info.bytes:Int)<=65536:=by omega
         exact Int.mul_le_mul db km af af
        have ad:(65536:Int)*1048576<=2^48:=by decide
        omega
       have sX:(decide (c<0)||decide ((info.bytes:Int)*c>2^48)||decide (l<0)||decide (l>c))=false:=by
        simp only [Bool.or_eq_false_iff,decide_eq_false_iff_not];omega
       simp only [wl,OG];rw[aW (by rw[sX];simp)];refine bm.pre (a:=()) (by unfold askRoom;split<;>rfl) ?_;refine bm.pre bt ?_;have Cr:∀j,j<((Array.range (c.toNat*aG)).map (z.cells[· %z.cells.size]!)).size->ar φ (((Array.range (c.toNat*aG)).map (z.cells[· %z.cells.size]!)).getD j undef) (((Array.range (c.toNat*aG)).map (z.cells[· %z.cells.size]!)).getD j undef):=by
        intro j hj;simp at hj;have hm:=Nat.mod_lt j mm;have:=k8 (j%z.cells.size) hm;simp only [dD] at this ⊢;simpa [hj,hm,getElem!_pos] using this
       have fin:bm (e8 (.slice (some ⟨r,0,none⟩) l.toNat c.toNat)) P φ A w (do
         let a <-newRow elem ((Array.range (c.toNat*aG)).map (z.cells[· %z.cells.size]!))
         pure (.slice (some a) l.toNat c.toNat)) aY:=by
        obtain⟨bY,w',g1,g2,b6,_⟩:=uN hr P elem hp (c':=(Array.range (c.toNat*aG)).map (z.cells[· %z.cells.size]!)) (by simp) (λ_=>by simp) (λj hj=>by
         have:=Cr j (by simpa using hj);simp only [dD] at this;simp only [de,Array.getElem?_toList,dD]
         exact this)
        refine⟨bY,w',_,ck g1 rfl,?_,b6⟩;have:=ar.fS (φ:=bY) (b:=r) (o:=0) l.toNat c.toNat g2;simpa using this
       by_cases ah:c.toNat*aG=0
       ·simp only [ah,if_true] at fin ⊢
        refine bm.pre (a:= #[]) rfl ?_;have c3:∀f:Nat->I,(Array.range 0).map f= #[]:=λf=>by simp
        rw[c3] at fin ⊢;exact fin
       ·simp only [ah,if_false]
        refine bm.pre bk ?_;refine bm.pre (a:=z.cells) rfl ?_;exact fin
      ·cases h
    ·cases h
   ·cases h
 ·cases h
def CK (P:aC) (A:aD) (bX:Array az) (x:I):Option I:=
 match bX[0]? with
 |some t=>match aP P (underlying t),x with
  |some (.slice _),.slice _ n _=>some (.int .i64 n)
  |some (.map _ _),.map none=>some (.int .i64 0)
  |some (.map _ _),.map (some b)=>match A.bl.get b with
   |some {obj:= .map es _,..}=>some (.int .i64 es.length)
   |_=>none
  |some (.array n _),_=>some (.int .i64 n)
  |_,_=>none
 |none=>none
omit [aX] in
theorem mo {o:Obj} {r:Nat} (h:w.heap[r]? =some o) (ao:∀c t f,o≠.cells c t f):(getObj r).run P w= .ok o w:=by
 unfold getObj;simp only [Sem.run,h]
theorem OH (hr:bs φ A w) {bX:Array az} {ty:az} {x x' v:I} (ag:ar φ x x') (h:CK P A bX x=some v):bm (e8 v) P φ A w (Builtin.len_ bX ty #[x']) A:=by
 unfold CK at h;split at h
 ·rename_i t aE
  unfold Builtin.len_;simp only [aE,List.getElem?_toArray,List.getElem?_cons_zero];split at h
  ·rename_i e a n c hu
   simp only [bS] at h;subst h;refine bm.pre hu ?_;have:∃a2 c2,x'= .slice a2 n c2:=by cases ag<;>exact⟨_,_,rfl⟩
   obtain⟨a2,c2,rfl⟩:=this;exact bm.ret hr (.int _ _)
  ·rename_i k e hu
   simp only [bS] at h;subst h;refine bm.pre hu ?_;cases ag;exact bm.ret hr (.int _ _)
  ·rename_i k e b hu
   split at h
   ·rename_i es cl bQ pos st ro ty' U
    simp only [bS] at h;subst h;refine bm.pre hu ?_;cases ag with
    |map he=>
     obtain⟨dV,hk,_,ax⟩:=hr.c5 b _ he;rw[U] at hk;cases hk;simp only [dZ] at ax;obtain⟨cj,h1,ad,_⟩:=ax;refine⟨φ,w,.int .i64 es.length,ck (mo h1 (by simp)) ?_,.int _ _,bF.refl hr⟩;simp only [goInt,ad];rfl
   ·cases h
  ·rename_i n e hu
   simp only [bS] at h;subst h;refine bm.pre hu ?_;exact bm.ret hr (.int _ _)
  ·cases h
 ·cases h
end
end AE
namespace AE
variable [aX]
section
variable {P:aC} {φ:bn} {A aO:aD} {w:aj}
def CL (cells:Array I):Sem I:=do
 let mut s:=ByteArray.empty
 for c in cells do
  let .int .u8 n:=c|stuck "bytesToString: byte expected"
  s:=s.push (UInt8.ofNat n.toNat)
 pure (.string s)
omit [aX] in
theorem Ia (a:Addr) (len c:Nat):Conv.bytesToString (.slice (some a) len c)=loadCells a len >>= CL:=rfl
def CM (P:aC) (A:aD):I->Option I
 | .slice none _ _=>some (.string .empty)
 | .slice (some ⟨b,off,none⟩) n _=>bif Nat.beq n 0 then some (.string .empty) else match A.mQ b off n with
   |some l=>bif kj l then match aP P (CL ⟨l⟩) with
    |some (.string s)=>some (.string s)
    |_=>none
    else none
   |none=>none
 |_=>none
theorem OI (hr:bs φ A w) {x x' v:I} (ag:ar φ x x') (h:CM P A x=some v):bm (e8 v) P φ A w (Conv.bytesToString x') A:=by
 unfold CM at h;split at h
 ·simp only [bS] at h
  subst h;cases ag;exact bm.ret hr (.string _)
 ·rename_i b off n c
  have Ib:∀(a:Addr) (c:Nat),(Conv.bytesToString (.slice (some a) 0 c)).run P w= .ok (.string .empty) w:=λa c=>by
   rw[Ia];simp [loadCells,loadCellsFrom,CL,Sem.run,pure]
  have main:∀(e:fj) (c':Nat),φ b=some e->bm (e8 v) P φ A w (Conv.bytesToString (.slice (some ⟨e.aU,e.bR+off,none⟩) n c')) A:=by
   intro e c' he;cases ah:Nat.beq n 0 with
   |true=>
    rw[ah,a7,bS] at h;subst h;have:n=0:=bJ ah;subst this;exact⟨φ,w,_,Ib _ _,.string _,bF.refl hr⟩
   |false=>
    rw[ah,cV] at h;split at h
    ·rename_i l hl
     cases hp:kj l with
     |false=>rw[hp] at h;cases h
     |true=>
      rw[hp,a7] at h;split at h
      ·rename_i s hs
       simp only [bS] at h;subst h;rw[Ia];obtain⟨dH,h1,ad,al⟩:=wN hr P hl he;have:dH=⟨l⟩:=by
        obtain⟨l'⟩:=dH;have:=ar.wO l l' hp (by simpa using ad.symm) (λi J=>by simpa using al i J);rw[this]
       subst this;exact⟨φ,w,_,ck h1 (f' hs w),.string _,bF.refl hr⟩
      ·cases h
    ·cases h
  cases ag with
  |fS _ _ he=>exact main _ _ he
  |fT _ _ c' he _ _ _=>exact main _ _ he
  |gi aL _=>
   rw[Nat.beq_refl,a7,bS] at h;subst h;exact⟨φ,w,_,Ib _ _,.string _,bF.refl hr⟩
 ·cases h
def CN (A:aD) (elem:az) (s:ByteArray):Option (I×aD):=
 match A.push (.cells (s.data.toList.map λb=> .int .u8 b.toNat)) 1 elem with
 |some (r,aY)=>some (.slice (some ⟨r,0,none⟩) s.size s.size,aY)
 |none=>none
theorem OJ (hr:bs φ A w) {elem:az} {s:ByteArray} {v:I} (h:CN A elem s=some (v,aO)):bm (e8 v) P φ A w (Conv.stringToBytes elem s) aO:=by
 unfold CN at h;split at h
 ·rename_i r aY hp
  simp only [bS,Prod.mk.injEq] at h;obtain⟨rfl,rfl⟩:=h;unfold Conv.stringToBytes
  let cap:=(Question.appendCap s.size 0 elem).cut (w.tape w.drawn (.appendCap s.size 0 elem))
  have hB:s.size<=cap:=by simp [cap,Question.cut]
  let row:Array I:=(s.data.map λb=>Value.int .u8 b.toNat)++Array.replicate (cap-s.size) (.int .u8 0)
  have jE:row.size=cap:=by
   simp only [row,Array.size_append,Array.size_map,Array.size_replicate];have:s.data.size=s.size:=rfl;omega
  have iP:=Cw hr (w.drawn+1);have OK:=(iP.wf.push hp).2.1;have st:=uE (o':= .cells row elem (cap,cap+1)) (e:=⟨w.heap.size,0,1,cap⟩) iP hp ae ae (by
   simp only [dZ];refine⟨row,(cap,cap+1),by simp,jE.symm,⟨by simp only [List.length_map,Nat.zero_add,Array.length_toList];rw[jE];exact hB,λh=>absurd h cG⟩,λj hj=> ?_,λ_ i J=>by rw[jE] at J;simp;omega⟩;simp only [List.length_map,Array.length_toList] at hj;simp only [de,dD,Nat.zero_add,row];rw[Array.getElem?_append_left (by simpa using hj)];simp only [List.getElem?_map,Array.getElem?_toList,Array.getElem?_map,Array.getElem?_eq_getElem hj,Option.map_some,Option.getD_some]
   exact .int _ _)
  refine⟨_,_,.slice (some ⟨w.heap.size,0,none⟩) s.size cap,?_,?_,bF.trans hr (bF.rA hr (w.drawn+1)) st⟩
  ·refine ck (w1:={w with drawn:=w.drawn+1}) (a:=cap) (by simp [choose,Sem.run,Question.forced,cap]) ?_
   refine ck (a:=(⟨w.heap.size,0,none⟩:Addr)) (by simp only [newRow,newObj];rfl) ?_;have CO:({w with drawn:=w.drawn+1,heap:=w.heap.push (.cells row elem)}:aj).shape? w.heap.size=some (elem,cap):=by
    simp [World.shape?,jE]
   refine ck (w1:={w with drawn:=w.drawn+1,heap:=w.heap.push (.cells row elem (cap,cap+1))}) (a:=()) ?_ rfl;unfold markStringish;refine ck (a:=some (elem,cap)) (by simp only [shape,Sem.run];exact congrArg (Result.ok · _) CO) ?_;simp only [freeze,Sem.run,World.freeze];rw[aW af];refine congrArg (Result.ok ()) ?_;simp only [World.mk.injEq,and_true,true_and];apply Array.ext_getElem?;intro i;rw[Array.getElem?_modify];split
   ·rename_i J
    subst J;simp [row]
   ·rename_i J
    rw[Array.getElem?_push,Array.getElem?_push];rw[aW (Ne.symm J),aW (Ne.symm J)]
  ·subst OK
   have:=ar.fT (φ:=eT φ A.n ⟨w.heap.size,0,1,cap⟩) (b:=A.n) (o:=0) (e:=⟨w.heap.size,0,1,cap⟩) s.size s.size cap (by simp [eT]) (bM _) hB (by simp);simpa using this
 ·cases h
def uR (P:aC) (t:az) (x y:I):Option Bool:=
 match aP P (underlying t),x,y with
 |some (.pointer _),.pointer (some _),.pointer none=>some false
 |some (.pointer _),.pointer none,.pointer (some _)=>some false
 |some (.pointer e),.pointer (some ⟨b,o,none⟩),.pointer (some ⟨b',o',none⟩)=>match aP P (sizeOf e) with
  |some n=>bif Nat.beq b b'&& !Nat.beq n 0 then some (Nat.beq o o') else none
  |none=>none
 |some (.slice _),.slice (some _) _ _,.slice none _ _=>some false
 |some (.slice _),.slice none _ _,.slice (some _) _ _=>some false
 |some (.map _ _),.map (some _),.map none=>some false
 |some (.map _ _),.map none,.map (some _)=>some false
 |some (.interface _),.iface _ _,.nilIface=>some false
 |some (.interface _),.nilIface,.iface _ _=>some false
 |some (.func _ _ _),.func _ _ _,.nilFunc=>some false
 |some (.func _ _ _),.nilFunc,.func _ _ _=>some false
 |_,_,_=>none
theorem Ic {t:az} {x x' y d_:I} {r:Bool} (ag:ar φ x x') (aT:ar φ y d_) (h:uR P t x y=some r):(Op.equal t x' d_).run P w= .ok r w/\∀op (cZ du:Operand),(eqGuard op t cZ du x' d_).run P w= .ok () w:=by
 unfold uR at h;have guard:∀(x' d_:I),(¬(x'= .nilIface/\d_= .nilIface))->(¬∃a b,x'= .agg a/\d_= .agg b)->∀op (cZ du:Operand),(eqGuard op t cZ du x' d_).run P w= .ok () w:=by
  intro x' d_ h1 ad op cZ du;unfold eqGuard;by_cases ct:op= .eql\/op= .neq
  ·cases x'<;>cases d_<;>rcases ct with rfl|rfl<;>first|rfl|exact absurd ⟨rfl,rfl⟩ h1|exact absurd ⟨_,_,rfl,rfl⟩ ad
  ·cases op<;>first|rfl|exact absurd (.inl rfl) ct|exact absurd (.inr rfl) ct
 split at h
 all_goals try (cases h;done)
 all_goals rename_i hu
 ·simp only [bS] at h
  subst h;cases ag with
  |ptr he=>cases aT;exact⟨by unfold Op.equal Op.maxDepth Op.equalIn;exact cb hu rfl,guard _ _ (by simp) (by simp)⟩
 ·simp only [bS] at h
  subst h;cases aT with
  |ptr he=>cases ag;exact⟨by unfold Op.equal Op.maxDepth Op.equalIn;exact cb hu rfl,guard _ _ (by simp) (by simp)⟩
 ·split at h
  ·rename_i b o b' o' Xc n ah
   cases U:(Nat.beq b b'&& !Nat.beq n 0) with
   |false=>rw[U] at h;cases h
   |true=>
    rw[U,a7,bS] at h;subst h;simp only [b4,Bool.not_eq_true'] at U;have lM:b=b':=bJ U.1;subst lM;have fL:n≠0:=λe=>by subst e;simp at U
    cases ag with
    |ptr he=>cases aT with
     |ptr mU=>
      rw[he] at mU;cases mU;refine⟨?_,guard _ _ (by simp) (by simp)⟩;unfold Op.equal Op.maxDepth Op.equalIn;refine cb hu ?_;simp only;refine cb ah ?_;rw[aR fL];unfold sameAddr;simp only [beq_self_eq_true,if_true];show Result.ok _ w=Result.ok _ w;congr 1;by_cases CP:o=o'
      ·subst CP;simp
      ·have h1:Nat.beq o o'=false:=by
        cases aq:Nat.beq o o' with
        |false=>rfl
        |true=>exact absurd (bJ aq) CP
       rw[h1];simp [CP]
  ·cases h
 all_goals simp only [bS] at h
 all_goals subst h
 all_goals cases ag<;>cases aT<;>exact⟨by unfold Op.equal Op.maxDepth Op.equalIn;exact cb hu rfl,guard _ _ (by simp) (by simp)⟩
def CQ (P:aC) (op:BinOp) (t:az) (x y:I):Option I:=
 match op with
 | .eql=>(uR P t x y).map .bool
 | .neq=>(uR P t x y).map λb=> .bool !b
 |_=>none
theorem OL (hr:bs φ A w) {op:BinOp} {t:az} {cZ du:Operand} {x x' y d_ v:I} (ag:ar φ x x') (aT:ar φ y d_) (h:CQ P op t x y=some v):bm (e8 v) P φ A w (do eqGuard op t cZ du x' d_;binOp op t x' d_) A:=by
 unfold CQ at h;have Ie:∀r,uR P t x y=some r->(binOp .eql t x' d_=do pure (.bool (<-Op.equal t x' d_)))/\(binOp .neq t x' d_=do pure (.bool (!(<-Op.equal t x' d_)))):=by
  intro r hs;unfold uR at hs;split at hs
  all_goals try (cases hs;done)
  all_goals cases ag<;>cases aT<;>exact⟨rfl,rfl⟩
 split at h
 ·obtain⟨r,hs,rfl⟩:=Option.map_eq_some_iff.1 h
  obtain⟨h1,ad⟩:=Ic (P:=P) (w:=w) ag aT hs;refine⟨φ,w,.bool r,ck (ad _ _ _) ?_,.bool _,bF.refl hr⟩;rw[(Ie r hs).1];exact ck h1 rfl
 ·obtain⟨r,hs,rfl⟩:=Option.map_eq_some_iff.1 h
  obtain⟨h1,ad⟩:=Ic (P:=P) (w:=w) ag aT hs;refine⟨φ,w,.bool !r,ck (ad _ _ _) ?_,.bool _,bF.refl hr⟩;rw[(Ie r hs).2];exact ck h1 rfl
 ·cases h
def zl:TypeDesc->Bool
 | .interface _=>true
 |_=>false
def CR (P:aC) (t:az) (x:I):Option I:=
 match aP P (underlying t) with
 |some d=>bif zl d then none else some (.iface t x)
 |none=>none
theorem OM (hr:bs φ A w) {t:az} {x x' v:I} (ag:ar φ x x') (h:CR P t x=some v):bm (e8 v) P φ A w (Instr.makeInterface t x') A:=by
 unfold CR at h;split at h
 ·rename_i d hu
  cases aH:zl d with
  |true=>rw[aH] at h;cases h
  |false=>
   rw[aH,cV,bS] at h;subst h;unfold Instr.makeInterface;refine bm.pre hu ?_;cases d<;>first|(cases aH;done)|exact bm.ret hr (.iface _ ag)
 ·cases h
def CS (P:aC) (x:I) (asserted:az) (ok:Bool):Option I:=
 match aP P (underlying asserted),x with
 |some (.interface want),.iface t _=>match aP P (typeInfo t) with
  |some info=>match Instr.missingMethod want info.methods with
   |none=>some (if ok then .tuple #[x,.bool true] else x)
   |some _=>none
  |none=>none
 |some d,.iface t v=>bif zl d then none else
   if t=asserted then some (if ok then .tuple #[v,.bool true] else v) else
    bif ok then match aP P (zeroValue asserted) with
     |some z=>bif plain z then some (.tuple #[z,.bool false]) else none
     |none=>none
    else none
 |_,_=>none
theorem CT {a aL:I} (h:ar φ a aL) (b:Bool):ar φ (.tuple #[a,.bool b]) (.tuple #[aL,.bool b]):= .tuple _ _ rfl λi J=>by
 have:i=0\/i=1:=by simp at J;omega
 rcases this with rfl|rfl
 ·simpa using h
 ·simpa using ar.bool b
theorem ON (hr:bs φ A w) {x x' v:I} {Ig asserted:az} {ok:Bool} (ag:ar φ x x') (h:CS P x asserted ok=some v):bm (e8 v) P φ A w (Instr.typeAssert x' Ig asserted ok) A:=by
 unfold CS at h;split at h
 ·rename_i want t u hu
  split at h
  ·rename_i info J
   split at h
   ·rename_i hm
    simp only [bS] at h;subst h;cases ag with
    |iface t aw=>
     unfold Instr.typeAssert;refine bm.pre hu ?_;simp only;refine bm.pre J ?_;simp only [hm];refine bm.ret hr ?_;cases ok
     ·exact .iface t aw
     ·exact CT (.iface t aw) true
   ·cases h
  ·cases h
 ·rename_i d t u _ hu
  cases aH:zl d with
  |true=>rw[aH] at h;cases h
  |false=>
   rw[aH,cV] at h;cases ag with
   |iface t aw=>
    unfold Instr.typeAssert;refine bm.pre hu ?_;by_cases aE:t=asserted
    ·rw[aR aE,bS] at h
     subst h;cases d<;>first
      |(cases aH;done)
      |(simp only [aR aE]
        refine bm.ret hr ?_;cases ok
        ·exact aw
        ·exact CT aw true)
    ·rw[aW aE] at h
     cases ok with
     |false=>cases h
     |true=>
      rw[a7] at h;split at h
      ·rename_i z bk
       cases hp:plain z with
       |false=>rw[hp] at h;cases h
       |true=>
        rw[hp,a7,bS] at h;subst h;cases d<;>first
          |(cases aH;done)
          |(simp only [aW aE,if_true]
            refine bm.pre bk ?_
            exact bm.ret hr (CT (ar.h5 φ z hp) false))
      ·cases h
 ·cases h
end
end AE
namespace AE
variable [aX]
class Lib (P:aC) where
 same:List FuncId
 Ih:∀f∈same,∀x:I,aP P (callFunc f #[x])=some (.value x)
 CU:List (FuncId×az)
 Ii:∀p∈CU,∃ps kN t,(∀n w,(callFunc p.1 #[.int .i64 n]).run P w=(do pure (Next.value (<-Extern.BytealgMakeNoZero.makeNoZero ps kN #[.int .i64 n])):Sem Next).run P w)/\kN[0]? =some t/\aP P (underlying t)=some (.slice p.2)
section
variable {P:aC} {φ:bn} {A aO:aD} {w:aj}
omit [aX] in
theorem zm {r:Nat} {c:Array I} {t:az} {f:Nat×Nat} (h:w.heap[r]? =some (.cells c t f)):(shape r).run P w= .ok (some (t,c.size)) w:=by
 simp only [shape,Sem.run,World.shape?,h]
omit [aX] in
theorem Ij {a:Addr} {c:Array I} {t:az} {f:Nat×Nat} (h:w.heap[a.block]? =some (.cells c t f)):(Conv.seenAt a).run P w= .ok a w:=by
 unfold Conv.seenAt viewAt;refine ck (a:=none) (ck (zm h) rfl) rfl
def CV (P:aC) (A:aD) (hD dst:az) (x:I):Option I:=
 match aP P (underlying hD),aP P (underlying dst),x with
 |some (.pointer t),some .unsafePointer,.pointer (some ⟨b,off,none⟩)=>match aP P (sizeOf t),A.bl.get b with
  |some n,some k=>match k.obj with
   | .cells c=>bif Nat.beq n 0|| !Nat.blt off c.length then none else some (.pointer (some ⟨b,off,none⟩))
   |_=>none
  |_,_=>none
 |some .unsafePointer,some (.pointer u),.pointer (some ⟨b,off,none⟩)=>match aP P (sizeOf u),A.bl.get b with
  |some _,some k=>match k.obj with
   | .cells c=>bif Nat.beq k.da 0&&liesAt P P.depth k.ty (c.length/P.cellsOf k.ty) off u 1 then some (.pointer (some ⟨b,off,none⟩)) else none
   |_=>none
  |_,_=>none
 |_,_,_=>none
theorem OO (hr:bs φ A w) {hD dst:az} {x x' v:I} (ag:ar φ x x') (h:CV P A hD dst x=some v):bm (e8 v) P φ A w (convert hD dst x') A:=by
 unfold CV at h;split at h
 ·rename_i t b off hs aH
  split at h
  ·rename_i n k ah hk
   split at h
   ·rename_i c dQ
    cases ao:(Nat.beq n 0|| !Nat.blt off c.length) with
    |true=>rw[ao] at h;cases h
    |false=>
     rw[ao,cV,bS] at h;subst h;simp only [Bool.or_eq_false_iff,Bool.not_eq_false'] at ao;have Xd:off<c.length:=Nat.blt_eq.mp ao.2;have fL:n≠0:=λe=>by subst e;simp at ao
     cases ag with
     |ptr he=>
      rename_i e;obtain⟨k',cc,_,ax⟩:=hr.c5 b e he;rw[hk] at cc;cases cc;unfold dZ at ax;simp only [dQ] at ax;obtain⟨c',gV,h1,ad,al,bb,b5⟩:=ax;refine⟨φ,w,.pointer (some ⟨e.aU,e.bR+off,none⟩),?_,.ptr he,bF.refl hr⟩;unfold convert;refine cb hs (cb aH ?_);show (Conv.unsafePointer hD dst (.pointer (some ⟨e.aU,e.bR+off,none⟩))).run P w=_;unfold Conv.unsafePointer;refine cb hs (cb aH ?_);simp only;refine ck (Ij h1) ?_;refine ck (a:=some c'.size) (by unfold cellsIn;exact ck (zm h1) rfl) ?_;refine cb ah ?_;have hV:¬(c'.size<=e.bR+off):=by omega
      simp only [fL,decide_false,ge_iff_le,hV,Bool.false_and,Bool.or_false,Bool.false_eq_true,if_false];rfl
   ·cases h
  ·cases h
 ·rename_i u b off hs aH
  split at h
  ·rename_i Xe k sY hk
   split at h
   ·rename_i c dQ
    cases ao:(Nat.beq k.da 0&&liesAt P P.depth k.ty (c.length/P.cellsOf k.ty) off u 1) with
    |false=>rw[ao] at h;cases h
    |true=>
     rw[ao,a7,bS] at h;subst h;simp only [b4] at ao;have cd:k.da=0:=bJ ao.1;cases ag with
     |ptr he=>
      rename_i e;obtain⟨k',cc,_,ax⟩:=hr.c5 b e he;rw[hk] at cc;cases cc;unfold dZ at ax;simp only [dQ] at ax;obtain⟨c',gV,h1,ad,al,bb,b5⟩:=ax;obtain⟨CO,bt⟩:=al.2 cd;have CW:liesAt P P.depth k.ty (c'.size/P.cellsOf k.ty) (e.bR+off) u 1=true:=by rw[CO,Nat.zero_add,<-bt];exact ao.2
      refine⟨φ,w,.pointer (some ⟨e.aU,e.bR+off,none⟩),?_,.ptr he,bF.refl hr⟩;unfold convert;refine cb hs (cb aH ?_);show (Conv.unsafePointer hD dst (.pointer (some ⟨e.aU,e.bR+off,none⟩))).run P w=_;unfold Conv.unsafePointer;refine cb hs (cb aH ?_);simp only;refine ck (Ij h1) ?_;have aw:(variablesAt ⟨e.aU,e.bR+off,none⟩ u 1).run P w= .ok true w:=by
       unfold variablesAt;refine cb (a:=P) rfl ?_;refine ck (zm h1) ?_;simp only [CW];rfl
      refine cb sY ?_;refine ck aw ?_;simp only [Bool.or_true,if_true];rfl
   ·cases h
  ·cases h
 ·cases h
def CX (A:aD) (elem:az) (n:Int):Option (I×aD):=
 bif decide (0<=n)&&decide (n<=524288) then
  match A.push (.cells (List.replicate n.toNat cC)) 1 elem with
  |some (r,aY)=>some (.slice (some ⟨r,0,none⟩) n.toNat n.toNat,aY)
  |none=>none
 else none
omit [aX] in
theorem Ik:∀(n t:Nat) (acc:Array I),(Extern.BytealgMakeNoZero.digits n t acc).size=acc.size+n
 |0,_,_=>rfl
 |n+1,t,acc=>by
  unfold Extern.BytealgMakeNoZero.digits;rw[Ik n];simp;omega
theorem OP (hr:bs φ A w) {ps kN:Array az} {t elem:az} {n:Int} {v:I} (aE:kN[0]? =some t) (hu:aP P (underlying t)=some (.slice elem)) (h:CX A elem n=some (v,aO)):
  bm (e8 v) P φ A w (Extern.BytealgMakeNoZero.makeNoZero ps kN #[.int .i64 n]) aO:=by
 unfold CX at h;cases ao:(decide (0<=n)&&decide (n<=524288)) with
 |false=>rw[ao] at h;cases h
 |true=>
  rw[ao,a7] at h;simp only [b4,decide_eq_true_eq] at ao;split at h
  ·rename_i r aY hp
   simp only [bS,Prod.mk.injEq] at h;obtain⟨rfl,rfl⟩:=h
   let q:Question:= .appendCap n.toNat 0 elem
   let cap:=q.cut (w.tape w.drawn q)
   have hB:n.toNat<=cap:=by simp [cap,q,Question.cut]
   let aJ:Question:= .extern "internal/bytealg.MakeNoZero.bytes" 0
   have iP:bs φ A {w with drawn:=w.drawn+1+1}:=(bF.rA hr (w.drawn+1+1)).rel
   let row:=Extern.BytealgMakeNoZero.digits cap (aJ.cut (w.tape (w.drawn+1) aJ)) #[]
   have jE:row.size=cap:=by simp [row,Ik]
   obtain⟨bY,w',g1,g2,b6,g4⟩:=uN iP P (c':=row) elem hp (by rw[jE,rv];exact hB) (λh=>absurd h cG) (λj hj=>by
    rw[de,List.getElem?_replicate,aR (by simpa using hj)]
    exact .cC _)
   refine⟨bY,w',.slice (some ⟨w.heap.size,0,none⟩) n.toNat cap,?_,?_,bF.trans hr (bF.rA hr (w.drawn+1+1)) b6⟩
   ·obtain⟨Il⟩:=kN
    obtain⟨rest,rfl⟩:∃rest,Il=t::rest:=by
     cases Il with
     |nil=>simp at aE
     |cons a r=>simp at aE;exact⟨r,by rw[aE]⟩
    refine cb (s:=underlying t) hu ?_;simp only;rw[aW (by simp;omega)];refine ck (w1:={w with drawn:=w.drawn+1}) (a:=cap) (by simp [choose,Sem.run,Question.forced,cap,q]) ?_;refine ck (w1:={w with drawn:=w.drawn+1}) (a:=()) (by unfold askRoom;split<;>rfl) ?_;refine ck (w1:={w with drawn:=w.drawn+1+1}) (a:=aJ.cut (w.tape (w.drawn+1) aJ)) (by simp only [choose,Sem.run];rfl) ?_;exact ck g1 rfl
   ·have:=ar.fT (φ:=bY) (b:=r) (o:=0) n.toNat n.toNat cap g2 (bM _) hB (by simp [jE])
    simpa using this
  ·cases h
def CY:List I->ByteArray->Option ByteArray
 |[],acc=>some acc
 | .int .u8 b::r,acc=>CY r (acc.push b.toNat.toUInt8)
 |_::_,_=>none
theorem OQ (hr:bs φ A w) {b:Nat} {e:fj} (he:φ b=some e):∀(l:List I) (off:Nat) (acc s:ByteArray),(∀j,j<l.length->A.load b (off+j)=some (l.getD j undef))->CY l acc=some s->
  (loadBytes ⟨e.aU,e.bR+off,none⟩ acc l.length).run P w= .ok s w:=by
 intro l
 induction l with
 |nil=>
  intro off acc s _ h;cases h;rfl
 |cons v r bI=>
  intro off acc s hl h;cases v with
  |int k x=>
   cases k<;>try (cases h;done)
   have h0:=hl 0 (by simp);obtain⟨au,h1,ad⟩:=qg hr h0 he;simp only [List.getD_cons_zero] at ad;cases ad;have HR:w.cell? ⟨e.aU,e.bR+off,none⟩=some (.int .u8 x):=by simpa using h1
   have lL:∀j,j<r.length->A.load b (off+1+j)=some (r.getD j undef):=λj hj=>by
    have:=hl (j+1) (by simpa using hj);rw[show off+(j+1)=off+1+j by omega] at this;simpa using this
   have:=bI (off+1) (acc.push x.toNat.toUInt8) s lL h;show (loadBytes _ acc (r.length+1)).run P w=_;unfold loadBytes;refine ck (a:= .int .u8 x) (w1:=w) (by simp [Go.load,Sem.run,HR]) ?_;simp only [Addr.hX];rw[Nat.add_assoc];exact this
  |_=>cases h
def uS (bQ:Nat):List Nat->bB fq->Option (bB fq)
 |[],t=>some t
 |m::r,t=>match t.get m with
  |some k=>bif Nat.beq k.bQ bQ then
    match bB.set {k with ro:=true} depth t m with
    |some cq=>uS bQ r cq
    |none=>none
   else uS bQ r t
  |none=>uS bQ r t
def om (bQ:Nat) (k:fq):fq:=bif Nat.beq k.bQ bQ then {k with ro:=true} else k
omit [aX] in
theorem OR (bQ:Nat) (k:fq):om bQ (om bQ k)=om bQ k:=by
 unfold om;cases h:Nat.beq k.bQ bQ<;>simp [h]
omit [aX] in
theorem zn (bQ:Nat):∀(l:List Nat) (t cq:bB fq),uS bQ l t=some cq->∀j,cq.get j=if j∈l then (t.get j).map (om bQ) else t.get j
 |[],t,cq,h,j=>by cases h;simp
 |m::r,t,cq,h,j=>by
  unfold uS at h;split at h
  ·rename_i k hk
   cases aB:Nat.beq k.bQ bQ with
   |true=>
    rw[aB,a7] at h;split at h
    ·rename_i t1 oo
     have eU:=λj=>bB.jY _ _ _ _ _ j oo
     have iz:({k with ro:=true}:fq)=om bQ k:=by simp [om,aB]
     rw[zn bQ r t1 cq h j,eU];by_cases eF:j=m
     ·subst eF
      rw[aR rfl,aR List.mem_cons_self,hk,iz];split
      ·simp [OR]
      ·rfl
     ·rw[aW eF]
      have:(j∈m::r)↔j∈r:=by simp [eF]
      simp only [this]
    ·cases h
   |false=>
    rw[aB,cV] at h;rw[zn bQ r t cq h j];by_cases eF:j=m
    ·subst eF
     rw[aR List.mem_cons_self,hk];have:om bQ k=k:=by simp [om,aB]
     split<;>simp [this]
    ·have:(j∈m::r)↔j∈r:=by simp [eF]
     simp only [this]
  ·rename_i hk
   rw[zn bQ r t cq h j];by_cases eF:j=m
   ·subst eF
    rw[aR List.mem_cons_self,hk];split<;>rfl
   ·have:(j∈m::r)↔j∈r:=by simp [eF]
    simp only [this]
def aD.freeze (A:aD) (k:fq):Option aD:=
 match A.mem.get k.bQ with
 |some l=>match uS k.bQ l A.bl with
  |some t=>some {A with bl:=t,low:=l.foldl Nat.min A.low}
  |none=>none
 |none=>none
theorem OS (hr:bs φ A w) {b n:Nat} {k:fq} {c:List I} {e:fj} (off:Nat) (hk:A.bl.get b=some k) (dQ:k.obj= .cells c) (cy:k.ro=false) (he:φ b=some e) (h:A.freeze k=some aO):
  bF φ A w φ aO (w.freeze ⟨e.aU,e.bR+off,none⟩ n):=by
 unfold aD.freeze at h;split at h
 ·rename_i l hl
  split at h
  ·rename_i t aE
   cases h;have eU:=zn _ _ _ _ aE;obtain⟨po,OT⟩:=y4 l A.low;obtain⟨k0,fU,_,ax⟩:=hr.c5 b e he;rw[hk] at fU;cases fU;unfold dZ at ax;simp only [dQ] at ax;obtain⟨c',gV,h1,ad,al,bb,b5⟩:=ax;have eM:∀j cA,t.get j=some cA->∃bu,A.bl.get j=some bu/\cA.bQ=bu.bQ/\cA.pos=bu.pos/\cA.da=bu.da/\cA.ty=bu.ty/\cA.obj=bu.obj/\cA.ro=(bu.ro||Nat.beq bu.bQ k.bQ):=by
    intro j cA hj;rw[eU] at hj;by_cases gE:j∈l
    ·rw[aR gE] at hj
     obtain⟨bu,q1,rfl⟩:=Option.map_eq_some_iff.1 hj;refine⟨bu,q1,?_⟩;unfold om;cases aB:Nat.beq bu.bQ k.bQ<;>simp
    ·rw[aW gE] at hj
     refine⟨cA,hj,rfl,rfl,rfl,rfl,rfl,?_⟩;cases aB:Nat.beq cA.bQ k.bQ with
     |false=>simp
     |true=>
      exfalso;obtain⟨l',q1,aJ⟩:=hr.wf.mem j cA hj;rw[bJ aB,hl] at q1;cases q1;exact gE aJ
   have k7:∀i,i≠e.aU->(w.freeze ⟨e.aU,e.bR+off,none⟩ n).heap[i]? =w.heap[i]? :=λi J=>by
    unfold World.freeze;split
    ·rfl
    ·simp only [Array.getElem?_modify]
     rw[aW (Ne.symm J)]
   have CZ:∃zo,(w.freeze ⟨e.aU,e.bR+off,none⟩ n).heap[e.aU]? =some (.cells c' k.ty zo):=by
    unfold World.freeze;split
    ·exact⟨gV,h1⟩
    ·simp only [Array.getElem?_modify,aR,h1,Option.map_some]
     exact⟨_,rfl⟩
   obtain⟨zo,CZ⟩:=CZ;refine {rel:=⟨⟨?_,?_,?_,?_⟩,?_,?_,?_,λi o J=>⟨by rw[k7 i (Ne.symm ((hr.eb i o J).2 _ _ he))];exact(hr.eb i o J).1,(hr.eb i o J).2⟩⟩,c5:=λ_ _=>rfl,mh:=λb h1 ad=>absurd ad (by show ¬b<A.n;omega),new:=λb e h1 ad=>absurd (hr.lt ad) af,k6:=bM _,low:=po,same:= ?_,ro:= ?_,keep:= ?_,eL:= ?_,os:= ?_,tape:= ?_,output:= ?_,drawn:= ?_}
   ·intro j cA hj
    obtain⟨bu,q1,_⟩:=eM j cA hj;exact hr.wf.lt j bu q1
   ·intro j cA hj
    obtain⟨bu,q1,aJ,_⟩:=eM j cA hj;rw[aJ];exact hr.wf.nx j bu q1
   ·intro j cA hj
    obtain⟨bu,q1,aJ,_⟩:=eM j cA hj;rw[aJ];exact hr.wf.mem j bu q1
   ·intro j kO dG kP hj ey aB
    obtain⟨bu,q1,aJ,_,_,_,_,cg⟩:=eM j kO hj;obtain⟨cA,oh,sN,_,_,_,_,mN⟩:=eM dG kP ey;rw[aJ,sN] at aB;rw[cg,mN,hr.wf.od j bu dG cA q1 oh aB,aB]
   ·intro j dR hj
    obtain⟨bu,ff,pt,fx⟩:=hr.c5 j dR hj;obtain⟨cA,Im⟩:∃cA,t.get j=some cA:=by
     rw[eU];split
     ·rw[ff];exact⟨_,rfl⟩
     ·exact⟨bu,ff⟩
    obtain⟨dV,q1,aJ,cg,dn,fe,iH,nK⟩:=eM j cA Im;rw[ff] at q1;cases q1;refine⟨cA,Im,by rw[dn];exact pt,?_⟩;by_cases hblk:dR.aU=e.aU
    ·have kl:bu.bQ=k.bQ:=by
      rcases Nat.lt_trichotomy bu.bQ k.bQ with h|h|h
      ·exact absurd hblk (hr.apart j dR bu b e k hj he ff hk af)
      ·exact h
      ·exact absurd hblk (hr.apart j dR bu b e k hj he ff hk af)
     have OU:cA.ro=true:=by rw[nK,kl];simp
     unfold dZ at fx ⊢;rw[iH];cases e4:bu.obj with
     |cells sO=>
      simp only [e4] at fx ⊢;obtain⟨wL,wM,cH,dj,eR,uB,uC⟩:=fx;rw[hblk,h1] at cH;simp only [bS,Obj.cells.injEq] at cH;obtain⟨rfl,hty,rfl⟩:=cH;refine⟨c',zo,by rw[hblk,fe,<-hty];exact CZ,dj,by rw[dn];exact eR,uB,λaq=> ?_⟩;rw[OU] at aq;cases aq
     |map es cl=>
      simp only [e4] at fx;obtain⟨cj,cH,_⟩:=fx;rw[hblk,h1] at cH;cases cH
     |dE x=>
      simp only [e4] at fx;obtain⟨_,o',cH,dj⟩:=fx;rw[hblk,h1] at cH;cases cH;exact absurd dj λh=>mg.HD h
    ·have:=fx.mono (w':=w.freeze ⟨e.aU,e.bR+off,none⟩ n) (λ_ _ h=>h) (k7 _ hblk)
     unfold dZ at this ⊢;rw[iH];cases e4:bu.obj with
     |cells sO=>
      simp only [e4] at this ⊢;obtain⟨wL,wM,cH,dj,eR,uB,uC⟩:=this;refine⟨wL,wM,by rw[fe];exact cH,dj,by rw[dn];exact eR,uB,λaq=>uC ?_⟩;rw[nK] at aq;simp only [Bool.or_eq_false_iff] at aq;exact aq.1
     |map es cl=>
      simp only [e4] at this ⊢;exact this
     |dE x=>
      simp only [e4] at this ⊢;exact this
   ·intro j dR kO dG lI kP q1 aJ hj ey ch
    obtain⟨bu,cH,dj,_⟩:=eM j kO hj;obtain⟨cA,nL,oq,_⟩:=eM dG kP ey;exact hr.apart j dR bu dG lI cA q1 aJ cH nL (by rw[<-dj,<-oq];exact ch)
   ·intro j dR kO dG lI kP q1 aJ hj ey aB U
    obtain⟨bu,cH,dj,eR,_⟩:=eM j kO hj;obtain⟨cA,nL,oq,uT,_⟩:=eM dG kP ey;rw[eR,uT];exact hr.along j dR bu dG lI cA q1 aJ cH nL (by rw[<-dj,<-oq];exact aB) U
   ·intro j hj gE
    show t.get j=_;rw[eU,aW];intro hm;have:=OT j hm;exact absurd gE (by show ¬j<l.foldl Nat.min A.low;omega)
   ·intro j bu ff mi
    show t.get j=_;rw[eU];split
    ·rw[ff]
     simp only [Option.map_some,bS];unfold om;cases aB:Nat.beq bu.bQ k.bQ with
     |false=>rfl
     |true=>
      obtain⟨cZ,f1,fl,s1,Xf,t1⟩:=bu;simp only at mi;subst mi;rfl
    ·exact ff
   ·intro i J h6
    refine k7 i λmP=> ?_
    have:=h6 b e k he mP.symm hk;rw[cy] at this;cases this
   ·unfold World.freeze;split
    ·exact bM _
    ·simp
   all_goals (unfold World.freeze;split<;>first|rfl|exact bM _)
  ·cases h
 ·cases h
def C0 (P:aC) (A:aD) (bX:Array az) (x n:I):Option (I×aD):=
 match bX[0]?,x,n with
 |some Io,.pointer (some ⟨b,off,none⟩),.int _ n=>match aP P (elemOf Io),A.bl.get b with
  |some u,some k=>match k.obj with
   | .cells _=>
     bif decide (0<n)&&decide (n<=16777216)&&Nat.beq (P.cellsOf k.ty) 1&&sameLayout P P.depth k.ty u&& !k.ro then
      match A.mQ b off n.toNat with
      |some l=>match CY l .empty,A.freeze k with
       |some s,some aY=>some (.string s,aY)
       |_,_=>none
      |none=>none
     else none
   |_=>none
  |_,_=>none
 |_,_,_=>none
theorem OV (hr:bs φ A w) {bX:Array az} {ty:az} {x x' n v:I} (ag:ar φ x x') (h:C0 P A bX x n=some (v,aO)):bm (e8 v) P φ A w (Builtin.unsafeString_ bX ty #[x',n]) aO:=by
 unfold C0 at h;split at h
 ·rename_i Io b off dV n OW
  split at h
  ·rename_i u k hu hk
   split at h
   ·rename_i c dQ
    cases ao:(decide (0<n)&&decide (n<=16777216)&&Nat.beq (P.cellsOf k.ty) 1&&sameLayout P P.depth k.ty u&& !k.ro) with
    |false=>rw[ao] at h;cases h
    |true=>
     rw[ao,a7] at h;simp only [b4,decide_eq_true_eq,Bool.not_eq_true'] at ao;obtain⟨⟨⟨⟨fL,h7⟩,sZ⟩,Ip⟩,cy⟩:=ao;have sZ:P.cellsOf k.ty=1:=bJ sZ;split at h
     ·rename_i l hl
      split at h
      ·rename_i s aY hs aB
       simp only [bS,Prod.mk.injEq] at h;obtain⟨rfl,rfl⟩:=h;cases ag with
       |ptr he=>
        rename_i e;obtain⟨hlen,sP⟩:=uK hl;obtain⟨k',cc,_,ax⟩:=hr.c5 b e he;rw[hk] at cc;cases cc;unfold dZ at ax;simp only [dQ] at ax;obtain⟨c',gV,h1,ad,al,bb,b5⟩:=ax;have k9:off+n.toNat<=c.length:=by
         have av:=sP (n.toNat-1) af;unfold aD.load at av;rw[hk] at av;obtain⟨pq,bQ,pos,st,ro,Xg⟩:=k;simp only at dQ;subst dQ;simp only at av;have:=(List.getElem?_eq_some_iff.1 av).1;omega
        have eo:=OQ (P:=P) hr he l off .empty s (λj hj=>sP j af) hs;have kQ:=OS (n:=n.toNat) hr off hk dQ cy he aB;refine⟨φ,_,.string s,?_,.string s,kQ⟩;have CW:liesAt P P.depth k.ty (c'.size/P.cellsOf k.ty) (e.bR+off) u n.toNat=true:=by
         obtain⟨d,aH⟩:∃d,P.depth=d+1:=⟨_,rfl⟩;rw[aH] at Ip ⊢;unfold liesAt rowAt;rw[aH];simp only [sZ,Nat.div_one,Nat.mod_one,beq_self_eq_true,Bool.true_and];have:decide (e.bR+off+n.toNat<=c'.size)=true:=jh af;simp [this,Ip]
        have aw:(variablesAt ⟨e.aU,e.bR+off,none⟩ u n.toNat).run P w= .ok true w:=by
         unfold variablesAt;refine cb (a:=P) rfl ?_;refine ck (zm h1) ?_;simp only [CW];rfl
        refine cb (s:=asInt (.int dV n)) (a:=n) rfl ?_;have s0:¬n>IntKind.i64.max:=by
         have:(16777216:Int)<=IntKind.i64.max:=by decide
         omega
        simp only [OW];rw[aW af,aW s0,aW af];refine cb hu ?_;refine ck aw ?_;rw[aR rfl];refine ck (by rw[<-hlen];exact eo) ?_;rfl
      ·cases h
     ·cases h
   ·cases h
  ·cases h
 ·cases h
def C1 (P:aC) (A:aD) (bX:Array az) (x:I):Option aD:=
 match bX[0]? with
 |some t=>match aP P (underlying t),x with
  |some (.slice _),.slice none _ _=>some A
  |some (.slice elem),.slice (some ⟨b,off,none⟩) n _=>bif Nat.beq n 0 then some A else
    match aP P (zeroValue elem) with
    |some z=>bif plain z&&(cellsOf z).isSome&&Nat.blt 0 z.cells.size then A.lJ b off (Builtin.zeroCells z.cells n).toList else none
    |none=>none
  |_,_=>none
 |none=>none
theorem OX (hr:bs φ A w) {bX:Array az} {ty:az} {x x':I} (ag:ar φ x x') (h:C1 P A bX x=some aO):bm (e8 undef) P φ A w (Builtin.clear_ bX ty #[x']) aO:=by
 unfold C1 at h;split at h
 ·rename_i t aE
  split at h
  ·rename_i e l c hu
   cases h;cases ag;refine⟨φ,w,undef,?_,ar.rz φ,bF.refl hr⟩;unfold Builtin.clear_;simp only [aE,List.getElem?_toArray,List.getElem?_cons_zero];exact cb hu rfl
  ·rename_i elem b off n c hu
   have OY:∃aL c',x'= .slice (some aL) n c':=by
    cases ag with
    |fS _ _ h=>exact⟨_,_,rfl⟩
    |fT _ _ _ h _ _ _=>exact⟨_,_,rfl⟩
    |gi aL _=>exact⟨_,_,rfl⟩
   cases ah:Nat.beq n 0 with
   |true=>
    rw[ah] at h;cases h;have fL:n=0:=bJ ah;subst fL;obtain⟨aL,c',rfl⟩:=OY;refine⟨φ,w,undef,?_,ar.rz φ,bF.refl hr⟩;unfold Builtin.clear_;simp only [aE,List.getElem?_toArray,List.getElem?_cons_zero];exact cb hu rfl
   |false=>
    rw[ah,cV] at h;have fL:n≠0:=λe=>by subst e;simp at ah
    split at h
    ·rename_i z bk
     cases ao:(plain z&&(cellsOf z).isSome&&Nat.blt 0 z.cells.size) with
     |false=>rw[ao] at h;cases h
     |true=>
      rw[ao,a7] at h;simp only [b4] at ao;have mm:=Nat.blt_eq.mp ao.2;have k8:=y_ ao.1.1 ao.1.2 φ;have iB:∀j,j<(Builtin.zeroCells z.cells n).toList.length->ar φ ((Builtin.zeroCells z.cells n).toList.getD j undef) ((Builtin.zeroCells z.cells n).toList.getD j undef):=by
       intro j hj;unfold Builtin.zeroCells at hj ⊢;simp at hj;have hm:=Nat.mod_lt j mm;have:=k8 (j%z.cells.size) hm;simp only [dD] at this;simpa [de,hj,hm,getElem!_pos] using this
      have main:∀(e:fj) (c':Nat),φ b=some e->x'= .slice (some ⟨e.aU,e.bR+off,none⟩) n c'->bm (e8 undef) P φ A w (Builtin.clear_ bX ty #[x']) aO:=by
       intro e c' he mn;obtain⟨w',g1,g2⟩:=uM P he _ A aO w off 0 (Builtin.zeroCells z.cells n).toList hr (by simpa using h) rfl iB;refine⟨φ,w',undef,?_,ar.rz φ,g2⟩;subst mn;unfold Builtin.clear_;simp only [aE,List.getElem?_toArray,List.getElem?_cons_zero];refine cb hu ?_;obtain⟨dS,rfl⟩:∃dS,n=dS+1:=⟨n-1,af⟩;refine cb bk ?_;exact ck (by simpa using g1) rfl
      cases ag with
      |fS _ _ he=>exact main _ _ he rfl
      |fT _ _ _ he _ _ _=>exact main _ _ he rfl
      |gi aL _=>exact absurd rfl fL
    ·cases h
  ·cases h
 ·cases h
end
end AE
namespace AE
variable [aX]
def aD.s3 (A:aD) (b:Nat):Option (List hd×Nat):=
 match A.bl.get b with
 |some k=>match k.obj with
  | .map es cl=>some (es,cl)
  |_=>none
 |none=>none
def aD.qp (A:aD) (b:Nat) (es:List hd) (cl:Nat):Option aD:=
 match A.bl.get b with
 |some k=>match k.obj,A.mem.get k.bQ with
  | .map _ _,some [m]=>bif Nat.beq m b&& !k.ro then
      match bB.set {k with obj:= .map es cl} depth A.bl b with
      |some t=>some {A with bl:=t,low:=Nat.min A.low b}
      |none=>none
    else none
  |_,_=>none
 |none=>none
def aD.C2 (A:aD) (b:Nat):Option (ByteArray×Nat):=
 match A.bl.get b with
 |some k=>match k.obj with
  | .dE (.qe s p)=>some (s,p)
  |_=>none
 |none=>none
def aD.setIter (A:aD) (b:Nat) (s:ByteArray) (p:Nat):Option aD:=
 match A.bl.get b with
 |some k=>match k.obj,A.mem.get k.bQ with
  | .dE _,some [m]=>bif Nat.beq m b&& !k.ro then
      match bB.set {k with obj:= .dE (.qe s p)} depth A.bl b with
      |some t=>some {A with bl:=t,low:=Nat.min A.low b}
      |none=>none
    else none
  |_,_=>none
 |none=>none
def h' (φ:bn) (es:List hd) (cj:Array MapEntry):Prop:=
 es.length=cj.size/\∀(j:Nat) (a:hd) (b:MapEntry),es[j]? =some a->cj[j]? =some b->plain a.key=true/\a.key=b.key/\ar φ a.val b.val/\a.born=b.born
section
variable {P:aC} {φ:bn} {A aO:aD} {w:aj}
theorem w4 (hr:bs φ A w) {b:Nat} {es:List hd} {cl:Nat} {e:fj} (h:A.s3 b=some (es,cl)) (he:φ b=some e):∃cj,w.heap[e.aU]? =some (.map cj cl)/\h' φ es cj:=by
 unfold aD.s3 at h;split at h
 ·rename_i k hk
  obtain⟨k',cc,_,ax⟩:=hr.c5 b e he;rw[hk] at cc;cases cc;split at h
  ·rename_i C3 Xh dQ
   cases h;simp only [dZ,dQ] at ax;obtain⟨cj,h1,ad,al⟩:=ax;exact⟨cj,h1,ad,al⟩
  ·cases h
 ·cases h
theorem OZ (hr:bs φ A w) {b p:Nat} {s:ByteArray} {e:fj} (h:A.C2 b=some (s,p)) (he:φ b=some e):e.bR=0/\w.heap[e.aU]? =some (.stringIter s p):=by
 unfold aD.C2 at h;split at h
 ·rename_i k hk
  obtain⟨k',cc,_,ax⟩:=hr.c5 b e he;rw[hk] at cc;cases cc;split at h
  ·rename_i rI uU dQ
   cases h;simp only [dZ,dQ] at ax;obtain⟨h0,o',h1,ad⟩:=ax;simp only [mg] at ad;exact⟨h0,by rw[h1,ad]⟩
  ·cases h
 ·cases h
theorem Iq (hr:bs φ A w) {b:Nat} {k:fq} {o:lG} {t:bB fq} {e:fj} {o':Obj} (he:φ b=some e) (hk:A.bl.get b=some k) (j0:A.mem.get k.bQ=some [b]) (cy:k.ro=false) (aE:bB.set {k with obj:=o} depth A.bl b=some t)
  (ax:∀w',w'.heap[e.aU]? =some o'->dZ φ w' e k->dZ φ w' e {k with obj:=o}\/True) (sS:∀w',w'.heap[e.aU]? =some o'->dZ φ w' e {k with obj:=o}):
  bF φ A w φ {A with bl:=t,low:=Nat.min A.low b} {w with heap:=w.heap.setIfInBounds e.aU o'}:=by
 have eU:=λj=>bB.jY _ _ _ _ _ j aE
 obtain⟨k0,fU,cd,nM⟩:=hr.c5 b e he;rw[hk] at fU;cases fU;have aM:=nM.lt;have C4:∀j bu,A.bl.get j=some bu->bu.bQ=k.bQ->j=b:=by
  intro j bu hj aB;obtain⟨l,q1,aJ⟩:=hr.wf.mem j bu hj;rw[aB,j0] at q1;cases q1;simpa using aJ
 have ch:∀j dR,j≠b->φ j=some dR->dR.aU≠e.aU:=by
  intro j dR hj ft;obtain⟨bu,ff,_,_⟩:=hr.c5 j dR ft;exact hr.apart j dR bu b e k ft he ff hk λaB=>hj (C4 j bu ff aB)
 have k7:∀i,i≠e.aU->(w.heap.setIfInBounds e.aU o')[i]? =w.heap[i]? :=λi J=>by
  rw[Array.getElem?_setIfInBounds_ne (Ne.symm J)]
 have eM:∀j cA,t.get j=some cA->∃bu,A.bl.get j=some bu/\cA.bQ=bu.bQ/\cA.pos=bu.pos/\cA.ro=bu.ro:=by
  intro j cA hj;rw[eU] at hj;by_cases eF:j=b
  ·rw[aR eF] at hj
   cases hj;subst eF;exact⟨k,hk,rfl,rfl,rfl⟩
  ·rw[aW eF] at hj
   exact⟨cA,hj,rfl,rfl,rfl⟩
 refine {rel:=⟨⟨?_,?_,?_,?_⟩,?_,?_,?_,λi o J=>⟨by rw[k7 i (Ne.symm ((hr.eb i o J).2 _ _ he))];exact(hr.eb i o J).1,(hr.eb i o J).2⟩⟩,c5:=λ_ _=>rfl,mh:=λb h1 ad=>absurd ad (by show ¬b<A.n;omega),new:=λb e h1 ad=>absurd (hr.lt ad) af,k6:=bM _,low:=Nat.min_le_left _ _,same:= ?_,ro:= ?_,keep:= ?_,eL:=by simp,os:=rfl,tape:=rfl,output:=rfl,drawn:=bM _}
 ·intro j cA hj
  obtain⟨bu,q1,_⟩:=eM j cA hj;exact hr.wf.lt j bu q1
 ·intro j cA hj
  obtain⟨bu,q1,aJ,_⟩:=eM j cA hj;rw[aJ];exact hr.wf.nx j bu q1
 ·intro j cA hj
  obtain⟨bu,q1,aJ,_⟩:=eM j cA hj;rw[aJ];exact hr.wf.mem j bu q1
 ·intro j kO dG kP hj ey aB
  obtain⟨bu,q1,aJ,_,cg⟩:=eM j kO hj;obtain⟨cA,oh,sN,_,mN⟩:=eM dG kP ey;rw[cg,mN];exact hr.wf.od j bu dG cA q1 oh (by rw[<-aJ,<-sN];exact aB)
 ·intro j dR hj
  by_cases eF:j=b
  ·subst eF
   rw[he] at hj;cases hj;exact⟨{k with obj:=o},by rw[eU,aR rfl],cd,sS _ (by show (w.heap.setIfInBounds e.aU o')[e.aU]? =_;rw[Array.getElem?_setIfInBounds_self_of_lt aM])⟩
  ·obtain⟨bu,ff,pt,fx⟩:=hr.c5 j dR hj
   exact⟨bu,by rw[eU,aW eF];exact ff,pt,fx.mono (λ_ _ h=>h) (k7 _ (ch j dR eF hj))⟩
 ·intro j dR kO dG lI kP q1 aJ hj ey ji
  obtain⟨bu,cH,dj,_⟩:=eM j kO hj;obtain⟨cA,nL,oq,_⟩:=eM dG kP ey;exact hr.apart j dR bu dG lI cA q1 aJ cH nL (by rw[<-dj,<-oq];exact ji)
 ·intro j dR kO dG lI kP q1 aJ hj ey aB U
  obtain⟨bu,cH,dj,eR,_⟩:=eM j kO hj;obtain⟨cA,nL,oq,uT,_⟩:=eM dG kP ey;rw[eR,uT];exact hr.along j dR bu dG lI cA q1 aJ cH nL (by rw[<-dj,<-oq];exact aB) U
 ·intro j hj gE
  show t.get j=_;rw[eU,aW];intro eF;subst eF;exact absurd (Nat.lt_of_lt_of_le gE (Nat.min_le_right A.low j)) (Nat.lt_irrefl j)
 ·intro j bu ff mi
  show t.get j=_;rw[eU,aW]
  ·exact ff
  ·intro eF
   subst eF;rw[hk] at ff;cases ff;rw[cy] at mi;cases mi
 ·intro i J h6
  refine k7 i λmP=> ?_
  have:=h6 b e k he mP.symm hk;rw[cy] at this;cases this
theorem s4 (hr:bs φ A w) {b:Nat} {es:List hd} {cj:Array MapEntry} {cl:Nat} {e:fj} (he:φ b=some e) (h:A.qp b es cl=some aO) (gG:h' φ es cj):bF φ A w φ aO {w with heap:=w.heap.setIfInBounds e.aU (.map cj cl)}:=by
 unfold aD.qp at h;split at h
 ·rename_i k hk
  split at h
  ·rename_i zp s5 m dQ j0
   cases ao:(Nat.beq m b&& !k.ro) with
   |false=>rw[ao] at h;cases h
   |true=>
    rw[ao,a7] at h;simp only [b4,Bool.not_eq_true'] at ao;have w5:m=b:=bJ ao.1;subst w5;split at h
    ·rename_i t aE
     cases h;exact Iq hr he hk j0 ao.2 aE (λ_ _ _=> .inr trivial) λw' nA=>by
      simp only [dZ];exact⟨cj,nA,gG.1,gG.2⟩
    ·cases h
  ·cases h
 ·cases h
theorem O0 (hr:bs φ A w) {b p:Nat} {s:ByteArray} {e:fj} (he:φ b=some e) (h0:e.bR=0) (h:A.setIter b s p=some aO):bF φ A w φ aO {w with heap:=w.heap.setIfInBounds e.aU (.stringIter s p)}:=by
 unfold aD.setIter at h;split at h
 ·rename_i k hk
  split at h
  ·rename_i zp m dQ j0
   cases ao:(Nat.beq m b&& !k.ro) with
   |false=>rw[ao] at h;cases h
   |true=>
    rw[ao,a7] at h;simp only [b4,Bool.not_eq_true'] at ao;have w5:m=b:=bJ ao.1;subst w5;split at h
    ·rename_i t aE
     cases h;exact Iq hr he hk j0 ao.2 aE (λ_ _ _=> .inr trivial) λw' nA=>by
      simp only [dZ];exact⟨h0,_,nA,rfl⟩
    ·cases h
  ·cases h
 ·cases h
def ot (es:List hd):List MapEntry:=es.map λe=>{key:=e.key,val:= .bool false,born:=0}
omit [aX] in
theorem Ir (kind:TypeDesc) (key:I):∀(es:List hd) (cj:List MapEntry) (i:Nat),es.map (·.key)=cj.map (·.key)->
  match Instr.findNow kind key (ot es) i with
  |none=>Instr.findNow kind key cj i=none
  |some none=>Instr.findNow kind key cj i=some none
  |some (some (j,_))=>∃b,i<=j/\cj[j-i]? =some b/\Instr.findNow kind key cj i=some (some (j,b.val))
 |[],[],i,_=>by simp [ot,Instr.findNow]
 |[],_::_,_,h=>by simp at h
 |_::_,[],_,h=>by simp at h
 |a::r,b::cR,i,h=>by
  simp only [List.map_cons,List.cons.injEq] at h;have bI:=Ir kind key r cR (i+1) h.2;have aH:ot (a::r)={key:=a.key,val:= .bool false,born:=0}::ot r:=rfl;rw[aH];unfold Instr.findNow;simp only;rw[h.1];cases hs:Instr.sameNow kind key b.key with
  |none=>simp
  |some t=>
   cases t with
   |true=>
    simp only;exact⟨b,bM _,by simp,rfl⟩
   |false=>
    simp only;cases aB:Instr.findNow kind key (ot r) (i+1) with
    |none=>rw[aB] at bI;exact bI
    |some o=>cases o with
     |none=>rw[aB] at bI;exact bI
     |some p=>
      obtain⟨j,u⟩:=p;rw[aB] at bI;obtain⟨b',h1,ad,al⟩:=bI;exact⟨b',af,by rw[show j-i=(j-(i+1))+1 by omega];exact ad,al⟩
omit [aX] in
theorem Is (eI:az) (key:I):∀(es:List hd) (cj:List MapEntry) (i:Nat) (r:Option (Nat×I)),es.map (·.key)=cj.map (·.key)->aP P (Instr.findAsking eI key (ot es) i)=some r->
  match r with
  |none=>∀w,(Instr.findAsking eI key cj i).run P w= .ok none w
  |some (j,_)=>∃b,i<=j/\cj[j-i]? =some b/\∀w,(Instr.findAsking eI key cj i).run P w= .ok (some (j,b.val)) w
 |[],[],i,r,_,h=>by
  simp only [ot,List.map_nil,Instr.findAsking] at h;cases h;exact λw=>rfl
 |[],_::_,_,_,h,_=>by simp at h
 |_::_,[],_,_,h,_=>by simp at h
 |a::l,b::l',i,r,hk,h=>by
  simp only [List.map_cons,List.cons.injEq] at hk;have aH:ot (a::l)={key:=a.key,val:= .bool false,born:=0}::ot l:=rfl;rw[aH] at h;unfold Instr.findAsking at h;rw[mR] at h;cases he:aP P (Op.equal eI key a.key) with
  |none=>rw[he] at h;cases h
  |some t=>
   rw[he] at h;simp only [Option.bind_some] at h;have lN:=f' (hk.1▸he);cases t with
   |true=>
    simp only [if_true] at h;cases h;refine⟨b,bM _,by simp,λw=> ?_⟩;unfold Instr.findAsking;exact ck (lN w) (by simp only [if_true];rfl)
   |false=>
    simp only [Bool.false_eq_true,if_false] at h;have bI:=Is eI key l l' (i+1) r hk.2 h;cases r with
    |none=>
     intro w;unfold Instr.findAsking;exact ck (lN w) (by simp only [Bool.false_eq_true,if_false];exact bI w)
    |some p=>
     obtain⟨j,u⟩:=p;obtain⟨b',h1,ad,al⟩:=bI;refine⟨b',af,by rw[show j-i=(j-(i+1))+1 by omega];exact ad,λw=> ?_⟩;unfold Instr.findAsking;exact ck (lN w) (by simp only [Bool.false_eq_true,if_false];exact al w)
def uV (P:aC) (eI:az) (key:I) (es:List hd):Option (Option Nat):=(aP P (Instr.findKey eI key (ot es))).map (Option.map (·.1))
omit [aX] in
theorem rJ {eI:az} {key:I} {es:List hd} {cj:List MapEntry} (hk:es.map (·.key)=cj.map (·.key)) {r:Option Nat} (h:uV P eI key es=some r):
  match (generalizing:=false) r with
  |none=>∀w,(Instr.findKey eI key cj).run P w= .ok none w
  |some j=>∃b,cj[j]? =some b/\∀w,(Instr.findKey eI key cj).run P w= .ok (some (j,b.val)) w:=by
 unfold uV at h;rw[ru] at h;obtain⟨q,h,rfl⟩:=h;unfold Instr.findKey at h;rw[mR] at h;cases hu:aP P (underlying eI) with
 |none=>rw[hu] at h;cases h
 |some d=>
  rw[hu] at h;simp only [Option.bind_some] at h;have ah:=Ir d key es cj 0 hk;have zq:=f' hu;cases aB:Instr.findNow d key (ot es) 0 with
  |none=>
   rw[aB] at h ah;simp only at h ah;have ha:=Is (P:=P) eI key es cj 0 q hk h;cases q with
   |none=>
    intro w;unfold Instr.findKey;exact ck (zq w) (by rw[ah];exact ha w)
   |some p=>
    obtain⟨j,u⟩:=p;obtain⟨b,_,ad,al⟩:=ha;refine⟨b,by simpa using ad,λw=> ?_⟩;unfold Instr.findKey;exact ck (zq w) (by rw[ah];exact al w)
  |some o=>
   rw[aB] at h ah;simp only at h;have gD:o=q:=by
    have:some o=some q:=h;cases this;rfl
   subst gD;cases o with
   |none=>
    intro w;unfold Instr.findKey;exact ck (zq w) (by rw[ah];rfl)
   |some p=>
    obtain⟨j,u⟩:=p;obtain⟨b,_,ad,al⟩:=ah;refine⟨b,by simpa using ad,λw=> ?_⟩;unfold Instr.findKey;exact ck (zq w) (by rw[al];rfl)
theorem h'.keys {es:List hd} {cj:Array MapEntry} (h:h' φ es cj):es.map (·.key)=cj.toList.map (·.key):=by
 refine List.ext_getElem? λj=> ?_
 simp only [List.getElem?_map,Array.getElem?_toList];cases h1:es[j]? with
 |none=>
  have:cj[j]? =none:=by
   rw[Array.getElem?_eq_none_iff,<-h.1];exact List.getElem?_eq_none_iff.1 h1
  rw[this];rfl
 |some a=>
  have aM:j<cj.size:=by rw[<-h.1];exact(List.getElem?_eq_some_iff.1 h1).1
  obtain⟨b,U⟩:∃b,cj[j]? =some b:=⟨_,Array.getElem?_eq_getElem aM⟩;rw[U];simp only [Option.map_some,bS];exact(h.2 j a b h1 U).2.1
theorem h'.isEmpty {es:List hd} {cj:Array MapEntry} (h:h' φ es cj):es.isEmpty=cj.isEmpty:=by
 have:=h.1;cases es with
 |nil=>simp at this;simp [Array.isEmpty,<-this]
 |cons a r=>simp at this;simp [Array.isEmpty,<-this]
theorem h'.nil:h' φ [] #[]:=⟨rfl,λj a b h=>by simp at h⟩
def C5 (P:aC) (A:aD) (t:az) (r:Option I):Option (I×aD):=
 match (match r with
  |none=>some ()
  |some h=>match aP P (underlying t),aP P (asInt h) with
   |some (.map _ _),some _=>some ()
   |_,_=>none) with
 |some _=>match A.push (.map [] 0) 0 0 with
  |some (b,aY)=>some (.map (some b),aY)
  |none=>none
 |none=>none
theorem O1 (hr:bs φ A w) {t:az} {r:Option I} {v:I} (h:C5 P A t r=some (v,aO)):bm (e8 v) P φ A w (Instr.makeMap t r) aO:=by
 unfold C5 at h;split at h
 ·rename_i ao
  split at h
  ·rename_i b aY hp
   cases h;have cd:=uE (e:=⟨w.heap.size,0,0,0⟩) (o':= .map #[] 0) hr hp ae ae (by simp only [dZ];exact⟨#[],by simp,rfl,λj a b h=>by simp at h⟩);have aw:ar (eT φ b ⟨w.heap.size,0,0,0⟩) (.map (some b)) (.map (some w.heap.size)):= .map (e:=⟨w.heap.size,0,0,0⟩) (by simp [eT]);refine⟨_,_,.map (some w.heap.size),?_,aw,cd⟩;unfold Instr.makeMap;cases r with
   |none=>rfl
   |some hint=>
    simp only at ao;split at ao
    ·rename_i a b' hu J
     refine cb hu ?_;simp only;refine cb J ?_;rfl
    ·cases ao
  ·cases h
 ·cases h
def mapOf (A:aD):I->Option (List hd)
 | .map none=>some []
 | .map (some b)=>(A.s3 b).map (·.1)
 |_=>none
def zr (P:aC) (A:aD) (t:az) (x ei:I) (ok:Bool):Option I:=
 bif plain ei then match aP P (underlying t) with
  |some (.map eI elem)=>match mapOf A x with
   |some es=>match aP P (Instr.checkKey es.isEmpty 10000 eI ei) with
    |some _=>match uV P eI ei es with
     |some (some j)=>match es[j]? with
      |some e=>some (bif ok then .tuple ⟨[e.val,.bool true]⟩ else e.val)
      |none=>none
     |some none=>match aP P (zeroValue elem) with
      |some z=>bif plain z then some (bif ok then .tuple ⟨[z,.bool false]⟩ else z) else none
      |none=>none
     |none=>none
    |none=>none
   |none=>none
  |_=>none
 else none
theorem Iu {a aL:I} (h:ar φ a aL) (b:Bool):ar φ (.tuple ⟨[a,.bool b]⟩) (.tuple #[aL,.bool b]):= .tuple _ _ rfl λi J=>by
 have:i<2:=by simpa using J
 rcases(by omega:i=0\/i=1) with rfl|rfl
 ·simpa using h
 ·simpa using ar.bool b
omit [aX] in
theorem Iv {t eI elem:az} {x' ei z:I} {ok:Bool} {cj:Array MapEntry} {u:Unit} {w6:Option (Nat×I)} (ag:(x'= .map none/\cj= #[])\/∃r cl,x'= .map (some r)/\w.heap[r]? =some (.map cj cl)) (hu:aP P (underlying t)=some (.map eI elem))
  (la:aP P (Instr.checkKey cj.isEmpty 10000 eI ei)=some u) (aB:(Instr.findKey eI ei cj.toList).run P w= .ok w6 w) (bk:w6=none->aP P (zeroValue elem)=some z):
  (Instr.lookup t x' ei ok).run P w= .ok (match (generalizing:=false) w6 with|some p=>(if ok then .tuple #[p.2,.bool true] else p.2)|none=>(if ok then .tuple #[z,.bool false] else z)) w:=by
 unfold Instr.lookup;refine cb hu ?_;rcases ag with ⟨rfl,rfl⟩|⟨r,cl,rfl,av⟩
 ·simp only
  refine ck (a:=(#[]:Array MapEntry)) (w1:=w) rfl ?_;refine cb la ?_;refine ck aB ?_;cases w6 with
  |some p=>
   obtain⟨j,v⟩:=p;simp only;refine ck (a:=(v,true)) (w1:=w) rfl ?_;cases ok<;>rfl
  |none=>
   simp only;refine cb (bk rfl) ?_;refine ck (a:=(z,false)) (w1:=w) rfl ?_;cases ok<;>rfl
 ·simp only
  refine ck (mo av (by simp)) ?_;simp only;refine ck (a:=cj) (w1:=w) rfl ?_;refine cb la ?_;refine ck aB ?_;cases w6 with
  |some p=>
   obtain⟨j,v⟩:=p;simp only;refine ck (a:=(v,true)) (w1:=w) rfl ?_;cases ok<;>rfl
  |none=>
   simp only;refine cb (bk rfl) ?_;refine ck (a:=(z,false)) (w1:=w) rfl ?_;cases ok<;>rfl
theorem O2 (hr:bs φ A w) {t:az} {x x' ei v:I} {ok:Bool} (ag:ar φ x x') (h:zr P A t x ei ok=some v):bm (e8 v) P φ A w (Instr.lookup t x' ei ok) A:=by
 unfold zr at h;cases fu:plain ei with
 |false=>rw[fu] at h;cases h
 |true=>
  rw[fu,a7] at h;split at h
  ·rename_i eI elem hu
   split at h
   ·rename_i es nI
    split at h
    ·rename_i la
     have rK:∃cj:Array MapEntry,h' φ es cj/\((x'= .map none/\cj= #[])\/∃r cl,x'= .map (some r)/\w.heap[r]? =some (.map cj cl)):=by
      unfold mapOf at nI;split at nI
      ·cases nI
       cases ag;exact⟨#[],h'.nil,.inl ⟨rfl,rfl⟩⟩
      ·rw[ru] at nI
       obtain⟨⟨C3,cl⟩,av,rfl⟩:=nI;cases ag with
       |map he=>
        obtain⟨cj,h1,ad⟩:=w4 hr av he;exact⟨cj,ad,.inr ⟨_,_,rfl,h1⟩⟩
      ·cases nI
     obtain⟨cj,gG,mn⟩:=rK;have Iw:aP P (Instr.checkKey cj.isEmpty 10000 eI ei)=some ():=by rw[<-gG.isEmpty];exact la
     split at h
     ·rename_i j hj
      split at h
      ·rename_i e qq
       simp only [bS] at h;subst h;obtain⟨b,U,aB⟩:=rJ gG.keys hj;rw[Array.getElem?_toList] at U;have aw:=(gG.2 j e b qq U).2.2.1;refine⟨φ,w,(if ok then .tuple #[b.val,.bool true] else b.val),Iv (z:=undef) mn hu Iw (aB w) (λh=>by cases h),?_,bF.refl hr⟩;cases ok with
       |true=>exact Iu aw true
       |false=>exact aw
      ·cases h
     ·rename_i hj
      split at h
      ·rename_i z bk
       cases h9:plain z with
       |false=>rw[h9] at h;cases h
       |true=>
        rw[h9,a7,bS] at h;subst h;have aB:=rJ gG.keys hj;refine⟨φ,w,(if ok then .tuple #[z,.bool false] else z),Iv mn hu Iw (aB w) (λ_=>bk),?_,bF.refl hr⟩;cases ok with
        |true=>exact Iu (ar.h5 φ z h9) false
        |false=>exact ar.h5 φ z h9
      ·cases h
     ·cases h
    ·cases h
   ·cases h
  ·cases h
def w7 (P:aC) (A:aD) (t:az) (m key val:I):Option aD:=
 bif plain key then match aP P (underlying t),m with
  |some (.map eI _),.map (some b)=>match A.s3 b with
   |some (es,cl)=>match aP P (Instr.checkKey false 10000 eI key),uV P eI key es with
    |some _,some (some j)=>match es[j]? with
     |some e=>bif Instr.sameBits 10000 e.key key then A.qp b (es.set j {e with key:=key,val:=val}) cl else none
     |none=>none
    |some _,some none=>A.qp b (es++[{key:=key,val:=val,born:=cl}]) (cl+1)
    |_,_=>none
   |none=>none
  |_,_=>none
 else none
theorem h'.push {es:List hd} {cj:Array MapEntry} (h:h' φ es cj) {key val val':I} {cl:Nat} (hk:plain key=true) (aw:ar φ val val'):h' φ (es++[{key:=key,val:=val,born:=cl}]) (cj.push {key:=key,val:=val',born:=cl}):=by
 refine⟨by simp [h.1],λj a b ha U=> ?_⟩;rw[List.getElem?_append] at ha;rw[Array.getElem?_push] at U;by_cases hj:j<es.length
 ·rw[aR hj] at ha
  rw[aW (by rw[<-h.1];omega)] at U;exact h.2 j a b ha U
 ·rw[aW hj] at ha
  by_cases ey:j=cj.size
  ·rw[aR ey] at U
   cases U;rw[show j-es.length=0 by rw[h.1];omega] at ha;simp only [List.getElem?_cons_zero,bS] at ha;subst ha;exact⟨hk,rfl,aw,rfl⟩
  ·rw[aW ey] at U
   have:=(Array.getElem?_eq_some_iff.1 U).1;have:=h.1;omega
theorem h'.modify {es:List hd} {cj:Array MapEntry} (h:h' φ es cj) {j:Nat} {e:hd} (hj:es[j]? =some e) {key val val':I} (hk:plain key=true) (aw:ar φ val val'):
  h' φ (es.set j {e with key:=key,val:=val}) (cj.modify j λe=>{e with key:=key,val:=val'}):=by
 refine⟨by simp [h.1],λi a b ha U=> ?_⟩;rw[List.getElem?_set] at ha;rw[Array.getElem?_modify] at U;by_cases hY:j=i
 ·subst hY
  rw[aR rfl,aR (List.getElem?_eq_some_iff.1 hj).1] at ha;rw[aR rfl] at U;cases ha;rw[ru] at U;obtain⟨d',k_,rfl⟩:=U;exact⟨hk,rfl,aw,(h.2 j e d' hj k_).2.2.2⟩
 ·rw[aW hY] at ha
  rw[aW hY] at U;exact h.2 i a b ha U
omit [aX] in
theorem qs {o o':Obj} {r:Nat} (h:w.heap[r]? =some o) (ao:∀c t f,o≠.cells c t f):(setObj r o').run P w= .ok () {w with heap:=w.heap.setIfInBounds r o'}:=by
 unfold setObj;simp only [Sem.run,h]
theorem Ix (hr:bs φ A w) {t:az} {m m' key val val':I} (hm:ar φ m m') (aw:ar φ val val') (h:w7 P A t m key val=some aO):bm (λ_ _=>True) P φ A w (Instr.mapUpdate t m' key val') aO:=by
 unfold w7 at h;cases fu:plain key with
 |false=>rw[fu] at h;cases h
 |true=>
  rw[fu,a7] at h;split at h
  ·rename_i eI elem b hu
   split at h
   ·rename_i es cl av
    cases hm with
    |map he=>
     rename_i em;obtain⟨cj,h1,gG⟩:=w4 hr av he;split at h
     ·rename_i j la hj
      split at h
      ·rename_i e qq
       cases s6:Instr.sameBits 10000 e.key key with
       |false=>rw[s6] at h;cases h
       |true=>
        rw[s6,a7] at h;obtain⟨d',U,aB⟩:=rJ gG.keys hj;rw[Array.getElem?_toList] at U;have C6:=(gG.2 j e d' qq U).2.1;refine⟨φ,_,(),?_,trivial,s4 hr he h (gG.modify qq fu aw)⟩;unfold Instr.mapUpdate;refine cb hu ?_;simp only;refine ck (mo h1 (by simp)) ?_;simp only;refine cb la ?_;refine ck (aB w) ?_;simp only;rw[show (((cj[j]?).map (·.key)).getD key)=e.key by rw[U];exact C6.symm];refine ck (a:=key) (w1:=w) (by unfold Instr.keyThatStays;rw[aR s6];rfl) ?_;exact qs h1 (by simp)
      ·cases h
     ·rename_i la hj
      have aB:=rJ gG.keys hj;refine⟨φ,_,(),?_,trivial,s4 hr he h (gG.push fu aw)⟩;unfold Instr.mapUpdate;refine cb hu ?_;simp only;refine ck (mo h1 (by simp)) ?_;simp only;refine cb la ?_;refine ck (aB w) ?_;simp only;exact qs h1 (by simp)
     ·cases h
    |_=>simp [bP,cC] at*
   ·cases h
  ·cases h
def zs (P:aC) (A:aD) (t:az) (m key:I):Option (I×aD):=
 bif plain key then match aP P (underlying t),m with
  |some (.map eI elem),.map (some b)=>match A.s3 b with
   |some (es,cl)=>match aP P (Instr.checkKey false 10000 eI key),uV P eI key es with
    |some _,some (some j)=>match es[j]? with
     |some e=>bif Instr.sameBits 10000 e.key key then match A.qp b (es.set j {e with key:=key,val:=e.val}) cl with
       |some aY=>some (.tuple ⟨[e.val,.int .i64 e.born]⟩,aY)
       |none=>none
      else none
     |none=>none
    |some _,some none=>match aP P (zeroValue elem) with
     |some z=>bif plain z then match A.qp b (es++[{key:=key,val:=z,born:=cl}]) (cl+1) with
       |some aY=>some (.tuple ⟨[z,.int .i64 cl]⟩,aY)
       |none=>none
      else none
     |none=>none
    |_,_=>none
   |none=>none
  |_,_=>none
 else none
theorem Iy {a aL:I} (h:ar φ a aL) (n:Int):ar φ (.tuple ⟨[a,.int .i64 n]⟩) (.tuple #[aL,.int .i64 n]):= .tuple _ _ rfl λi J=>by
 have:i<2:=by simpa using J
 rcases(by omega:i=0\/i=1) with rfl|rfl
 ·simpa using h
 ·simpa using ar.int .i64 n
theorem h'.O3 {es:List hd} {cj:Array MapEntry} (h:h' φ es cj) {j:Nat} {e:hd} (hj:es[j]? =some e) {key:I} (hk:plain key=true):
  h' φ (es.set j {e with key:=key,val:=e.val}) (cj.modify j λe=>{e with key:=key}):=by
 refine⟨by simp [h.1],λi a b ha U=> ?_⟩;rw[List.getElem?_set] at ha;rw[Array.getElem?_modify] at U;by_cases hY:j=i
 ·subst hY
  rw[aR rfl,aR (List.getElem?_eq_some_iff.1 hj).1] at ha;rw[aR rfl] at U;cases ha;rw[ru] at U;obtain⟨d',k_,rfl⟩:=U;exact⟨hk,rfl,(h.2 j e d' hj k_).2.2.1,(h.2 j e d' hj k_).2.2.2⟩
 ·rw[aW hY] at ha
  rw[aW hY] at U;exact h.2 i a b ha U
theorem O4 (hr:bs φ A w) {t:az} {m m' key v:I} (hm:ar φ m m') (h:zs P A t m key=some (v,aO)):bm (e8 v) P φ A w (Instr.mapEntry t m' key) aO:=by
 unfold zs at h;cases fu:plain key with
 |false=>rw[fu] at h;cases h
 |true=>
  rw[fu,a7] at h;split at h
  ·rename_i eI elem b hu
   split at h
   ·rename_i es cl av
    cases hm with
    |map he=>
     rename_i em;obtain⟨cj,h1,gG⟩:=w4 hr av he;split at h
     ·rename_i j la hj
      split at h
      ·rename_i e qq
       cases s6:Instr.sameBits 10000 e.key key with
       |false=>rw[s6] at h;cases h
       |true=>
        rw[s6,a7] at h;split at h
        ·rename_i aY eX
         cases h;obtain⟨d',U,aB⟩:=rJ gG.keys hj;rw[Array.getElem?_toList] at U;obtain⟨_,C6,O5,mM⟩:=gG.2 j e d' qq U;refine⟨φ,_,.tuple #[d'.val,.int .i64 e.born],?_,Iy O5 _,s4 hr he eX (gG.O3 qq fu)⟩;unfold Instr.mapEntry;refine cb hu ?_;simp only;refine ck (mo h1 (by simp)) ?_;simp only;refine cb la ?_;refine ck (aB w) ?_;simp only;rw[show (((cj[j]?).map (·.key)).getD key)=e.key by rw[U];exact C6.symm];refine ck (a:=key) (w1:=w) (by unfold Instr.keyThatStays;rw[aR s6];rfl) ?_;refine ck (qs h1 (by simp)) ?_;rw[show ((cj[j]?).map λx=>(x.born:Int)).getD 0=(e.born:Int) by rw[U,mM];rfl];rfl
        ·cases h
      ·cases h
     ·rename_i la hj
      split at h
      ·rename_i z bk
       cases h9:plain z with
       |false=>rw[h9] at h;cases h
       |true=>
        rw[h9,a7] at h;split at h
        ·rename_i aY eX
         cases h;have aB:=rJ gG.keys hj;refine⟨φ,_,.tuple #[z,.int .i64 cl],?_,Iy (ar.h5 φ z h9) _,s4 hr he eX (gG.push fu (ar.h5 φ z h9))⟩;unfold Instr.mapEntry;refine cb hu ?_;simp only;refine ck (mo h1 (by simp)) ?_;simp only;refine cb la ?_;refine ck (aB w) ?_;simp only;refine cb bk ?_;refine ck (qs h1 (by simp)) ?_;rfl
        ·cases h
      ·cases h
     ·cases h
    |_=>simp [bP,cC] at*
   ·cases h
  ·cases h
def C7 (es:List hd) (born:Int):Option Nat:=es.findIdx? λe=>(e.born:Int)==born
def zt (P:aC) (A:aD) (m uW val:I):Option aD:=
 match m with
 | .map (some b)=>match A.s3 b with
   |some (es,cl)=>bif plain uW then match aP P (asInt uW) with
    |some born=>match C7 es born with
     |some j=>match es[j]? with
      |some e=>A.qp b (es.set j {e with val:=val}) cl
      |none=>none
     |none=>none
    |none=>none
    else none
   |none=>none
 |_=>none
theorem h'.O6 {es:List hd} {cj:Array MapEntry} (h:h' φ es cj) {j:Nat} {e:hd} (hj:es[j]? =some e) {val val':I} (aw:ar φ val val'):
  h' φ (es.set j {e with val:=val}) (cj.modify j λe=>{e with val:=val'}):=by
 refine⟨by simp [h.1],λi a b ha U=> ?_⟩;rw[List.getElem?_set] at ha;rw[Array.getElem?_modify] at U;by_cases hY:j=i
 ·subst hY
  rw[aR rfl,aR (List.getElem?_eq_some_iff.1 hj).1] at ha;rw[aR rfl] at U;cases ha;rw[ru] at U;obtain⟨d',k_,rfl⟩:=U;obtain⟨q1,aJ,_,dn⟩:=h.2 j e d' hj k_;exact⟨q1,aJ,aw,dn⟩
 ·rw[aW hY] at ha
  rw[aW hY] at U;exact h.2 i a b ha U
theorem h'.born {es:List hd} {cj:Array MapEntry} (h:h' φ es cj) (born:Int):cj.findIdx? (λe=>(e.born:Int)==born)=C7 es born:=by
 unfold C7;rw[show cj.findIdx? (λe=>(e.born:Int)==born)=cj.toList.findIdx? (λe=>(e.born:Int)==born) by obtain⟨l⟩:=cj;simp];have U:es.map (·.born)=cj.toList.map (·.born):=by
  refine List.ext_getElem? λj=> ?_
  simp only [List.getElem?_map,Array.getElem?_toList];cases h1:es[j]? with
  |none=>
   have:cj[j]? =none:=by
    rw[Array.getElem?_eq_none_iff,<-h.1];exact List.getElem?_eq_none_iff.1 h1
   rw[this];rfl
  |some a=>
   have aM:j<cj.size:=by rw[<-h.1];exact(List.getElem?_eq_some_iff.1 h1).1
   obtain⟨b,U⟩:∃b,cj[j]? =some b:=⟨_,Array.getElem?_eq_getElem aM⟩;rw[U];simp only [Option.map_some,bS];exact(h.2 j a b h1 U).2.2.2
 have e1:∀l:List MapEntry,l.findIdx? (λe=>(e.born:Int)==born)=(l.map (·.born)).findIdx? λ(n:Nat)=>(n:Int)==born:=λl=>by rw[List.findIdx?_map];rfl
 have e2:∀l:List hd,l.findIdx? (λe=>(e.born:Int)==born)=(l.map (·.born)).findIdx? λ(n:Nat)=>(n:Int)==born:=λl=>by rw[List.findIdx?_map];rfl
 rw[e1,e2,U]
theorem O7 (hr:bs φ A w) {t:az} {m m' uW val val':I} (hm:ar φ m m') (aw:ar φ val val') (h:zt P A m uW val=some aO):bm (λ_ _=>True) P φ A w (Instr.entryStore t m' uW val') aO:=by
 unfold zt at h;split at h
 ·rename_i b
  split at h
  ·rename_i es cl av
   cases fu:plain uW with
   |false=>rw[fu] at h;cases h
   |true=>
    rw[fu,a7] at h;cases hm with
    |map he=>
     rename_i em;obtain⟨cj,h1,gG⟩:=w4 hr av he;split at h
     ·rename_i born hs
      split at h
      ·rename_i j hj
       split at h
       ·rename_i e qq
        refine⟨φ,_,(),?_,trivial,s4 hr he h (gG.O6 qq aw)⟩;unfold Instr.entryStore;simp only;refine ck (mo h1 (by simp)) ?_;simp only;refine cb hs ?_;rw[gG.born,hj];simp only;exact qs h1 (by simp)
       ·cases h
      ·cases h
     ·cases h
  ·cases h
 ·cases h
def zu (P:aC) (A:aD) (bX:Array az) (m key:I):Option aD:=
 match bX[0]?,m with
 |some t,.map (some b)=>bif plain key then match aP P (underlying t) with
  |some (.map eI _)=>match A.s3 b with
   |some (es,cl)=>match aP P (Instr.checkKey es.isEmpty 10000 eI key),uV P eI key es with
    |some _,some (some j)=>A.qp b (es.eraseIdx j) cl
    |some _,some none=>A.qp b es cl
    |_,_=>none
   |none=>none
  |_=>none
  else none
 |_,_=>none
theorem h'.erase {es:List hd} {cj:Array MapEntry} (h:h' φ es cj) (j:Nat):h' φ (es.eraseIdx j) (cj.eraseIdxIfInBounds j):=by
 have hl:(cj.eraseIdxIfInBounds j).toList=cj.toList.eraseIdx j:=by
  unfold Array.eraseIdxIfInBounds;split
  ·simp
  ·rename_i hV
   rw[List.eraseIdx_of_length_le];simpa using hV
 refine⟨?_,λi a b ha U=> ?_⟩
 ·have ad:(cj.eraseIdxIfInBounds j).size=(cj.toList.eraseIdx j).length:=by rw[<-hl,Array.length_toList]
  rw[ad];simp only [List.length_eraseIdx,h.1,Array.length_toList]
 ·rw[<-Array.getElem?_toList,hl] at U
  rw[List.getElem?_eraseIdx] at ha U;split at ha
  ·rename_i aM
   rw[aR aM] at U;exact h.2 i a b ha (by simpa using U)
  ·rename_i hV
   rw[aW hV] at U;exact h.2 (i+1) a b ha (by simpa using U)
theorem O8 (hr:bs φ A w) {bX:Array az} {ty:az} {m m' key:I} (hm:ar φ m m') (h:zu P A bX m key=some aO):bm (e8 (.tuple ⟨[]⟩)) P φ A w (Builtin.delete_ bX ty #[m',key]) aO:=by
 unfold zu at h;split at h
 ·rename_i t b aE
  cases fu:plain key with
  |false=>rw[fu] at h;cases h
  |true=>
   rw[fu,a7] at h;split at h
   ·rename_i eI elem hu
    split at h
    ·rename_i es cl av
     cases hm with
     |map he=>
      rename_i em;obtain⟨cj,h1,gG⟩:=w4 hr av he;split at h
      ·rename_i j la hj
       obtain⟨d',U,aB⟩:=rJ gG.keys hj;refine⟨φ,_,.tuple #[],?_,.tuple _ _ rfl (λi J=>absurd J (by simp)),s4 hr he h (gG.erase j)⟩;unfold Builtin.delete_;simp only [aE,List.getElem?_toArray,List.getElem?_cons_zero,List.getElem?_cons_succ];refine cb hu ?_;simp only;refine ck (mo h1 (by simp)) ?_;simp only;refine cb (by rw[<-gG.isEmpty];exact la) ?_;refine ck (aB w) ?_;simp only;exact ck (qs h1 (by simp)) rfl
      ·rename_i la hj
       have aB:=rJ gG.keys hj;refine⟨φ,_,.tuple #[],?_,.tuple _ _ rfl (λi J=>absurd J (by simp)),s4 hr he h gG⟩;unfold Builtin.delete_;simp only [aE,List.getElem?_toArray,List.getElem?_cons_zero,List.getElem?_cons_succ];refine cb hu ?_;simp only;refine ck (mo h1 (by simp)) ?_;simp only;refine cb (by rw[<-gG.isEmpty];exact la) ?_;refine ck (aB w) ?_;simp only;exact ck (qs h1 (by simp)) rfl
      ·cases h
    ·cases h
   ·cases h
 ·cases h
def C8 (P:aC) (A:aD) (t:az):I->Option (I×aD)
 | .string s=>match aP P (underlying t) with
   |some .string=>match A.push (.dE (.qe s 0)) 0 0 with
    |some (b,aY)=>some (.pointer (some ⟨b,0,none⟩),aY)
    |none=>none
   |_=>none
 |_=>none
theorem O9 (hr:bs φ A w) {t:az} {x x' v:I} (ag:ar φ x x') (h:C8 P A t x=some (v,aO)):bm (e8 v) P φ A w (Instr.range t x') aO:=by
 unfold C8 at h;split at h
 ·rename_i s
  cases ag;split at h
  ·rename_i hu
   split at h
   ·rename_i b aY hp
    cases h;have cd:=uE (e:=⟨w.heap.size,0,0,0⟩) (o':= .stringIter s 0) hr hp ae ae (by simp only [dZ];exact⟨trivial,_,by simp,rfl⟩);have aw:ar (eT φ b ⟨w.heap.size,0,0,0⟩) (.pointer (some ⟨b,0,none⟩)) (.pointer (some ⟨w.heap.size,0,none⟩)):= .ptr (e:=⟨w.heap.size,0,0,0⟩) (by simp [eT]);refine⟨_,_,.pointer (some ⟨w.heap.size,0,none⟩),?_,aw,cd⟩;unfold Instr.range;refine cb hu ?_;rfl
   ·cases h
  ·cases h
 ·cases h
def C9 (A:aD) (it:I) (O':Bool):Option (I×aD):=
 match it,O' with
 | .pointer (some ⟨b,0,none⟩),true=>match A.C2 b with
   |some (s,p)=>bif Nat.blt p s.size then match A.setIter b s (p+(Utf8.decode s p).2) with
     |some aY=>some (.tuple ⟨[.bool true,.int .i64 p,.int .i32 (Utf8.decode s p).1]⟩,aY)
     |none=>none
    else some (.tuple ⟨[.bool false]⟩,A)
   |none=>none
 |_,_=>none
theorem O_ (hr:bs φ A w) {it Iz v:I} {st:Bool} {ty:az} (ag:ar φ it Iz) (h:C9 A it st=some (v,aO)):bm (e8 v) P φ A w (Instr.next Iz st ty) aO:=by
 unfold C9 at h;split at h
 ·rename_i b
  split at h
  ·rename_i s p av
   cases ag with
   |ptr he=>
    rename_i e;obtain⟨h0,h1⟩:=OZ hr av he;rw[h0,Nat.zero_add];have pr:(getObj e.aU).run P w= .ok (.stringIter s p) w:=mo h1 (by simp);cases U:Nat.blt p s.size with
    |true=>
     rw[U,a7] at h;have aM:p<s.size:=Nat.blt_eq.mp U;split at h
     ·rename_i aY eX
      cases h;refine⟨φ,_,_,?_,ar.h5 φ _ (by simp [plain,kj]),O0 hr he h0 eX⟩;unfold Instr.next
      simp only;refine ck pr ?_;simp only [aM,if_true];refine ck (qs h1 (by simp)) ?_;rfl
     ·cases h
    |false=>
     rw[U,cV] at h;cases h;have hV:¬p<s.size:=λaM=>by rw[Nat.blt_eq.mpr aM] at U;cases U
     refine⟨φ,w,.tuple #[.bool false],?_,ar.h5 φ _ (by simp [plain,kj]),bF.refl hr⟩;unfold Instr.next
     simp only;refine ck pr ?_;simp only [hV,if_false];rfl
  ·cases h
 ·cases h
end
end AE
namespace AE
variable [aX]
inductive mV where
 |value (v:I)
 |skip
 |enter (f:FuncId) (args:List I)
def pB:mV->bn->Next->Prop
 | .value v,φ,n=>∃au,n= .value au/\ar φ v au
 | .skip,_,n=>n= .skip
 | .enter f args,φ,n=>∃ec:Array I,n= .enter f ec/\fk args φ ec
def nN (P:aC) (s:Sem I):Option I:=
 match aP P s with
 |some v=>bif plain v then some v else none
 |none=>none
section
variable {P:aC} {φ:bn} {A aO:aD} {w:aj}
theorem uX (hr:bs φ A w) {s:Sem I} {v:I} (h:nN P s=some v):bm (e8 v) P φ A w s A:=by
 unfold nN at h;split at h
 ·rename_i u hu
  cases hp:plain u with
  |false=>rw[hp] at h;cases h
  |true=>
   rw[hp,a7,bS] at h;subst h;exact bm.pure_run hr hu (ar.h5 φ u hp)
 ·cases h
def w8 (P:aC) (s:Array I->Sem I) (args:List I):Option I:=
 bif kj args then nN P (s ⟨args⟩) else none
def C' (x:I):Option I:=
 match x with
 | .slice none _ _=>some (.pointer none)
 | .slice (some ⟨b,off,none⟩) _ c=>bif Nat.beq c 0 then none else some (.pointer (some ⟨b,off,none⟩))
 |_=>none
def C_ (P:aC) (bX:Array az) (x:I):Option I:=
 match bX[0]? with
 |some t=>match aP P (underlying t),x with
  |some (.slice _),.slice none _ c=>some (.int .i64 c)
  |some (.slice _),.slice (some _) _ _=>some cC
  |some (.array n _),_=>some (.int .i64 n)
  |_,_=>none
 |none=>none
def Da (P:aC) (A:aD) (b:Builtin) (bX:Array az) (ty:az) (args:List I):Option (I×aD):=
 match b,args with
 | .len,[x]=>match CK P A bX x with
   |some v=>some (v,A)
   |none=>match w8 P (Builtin.len_ bX ty) [x] with
    |some v=>some (v,A)
    |none=>none
 | .append,[s,x]=>Cv P A bX s x
 | .copy,[d,s]=>CI P A bX d s
 | .cap,[x]=>(C_ P bX x).map (·,A)
 | .max,l=>(w8 P (Builtin.max_ bX ty) l).map (·,A)
 | .min,l=>(w8 P (Builtin.min_ bX ty) l).map (·,A)
 | .unsafeSliceData,[x]=>(C' x).map (·,A)
 | .clear,[x]=>match C1 P A bX x with
   |some aY=>some (undef,aY)
   |none=>none
 | .unsafeString,[x,n]=>bif plain n then C0 P A bX x n else none
 | .delete,[m,k]=>match zu P A bX m k with
   |some aY=>some (.tuple ⟨[]⟩,aY)
   |none=>none
 |_,_=>none
theorem fk.eq {l:List I} {a:Array I} (hp:kj l=true) (h:fk l φ a):a=⟨l⟩:=by
 obtain⟨Db⟩:=a;have:Db=l:=ar.wO (φ:=φ) l Db hp (by simpa using h.1.symm) (λi J=>by simpa [dD] using h.2 i J);rw[this]
theorem Dc (hr:bs φ A w) {s:Array I->Sem I} {l:List I} {a:Array I} {v:I} (hl:fk l φ a) (h:w8 P s l=some v):bm (e8 v) P φ A w (s a) A:=by
 unfold w8 at h;cases hp:kj l with
 |false=>rw[hp] at h;cases h
 |true=>
  rw[hp,a7] at h;rw[hl.eq hp];exact uX hr h
theorem fk.one {x:I} {a:Array I} (h:fk [x] φ a):∃x',a= #[x']/\ar φ x x':=by
 obtain⟨l⟩:=a;obtain⟨h1,ad⟩:=h
 match l,h1 with
 |[x'],_=>exact⟨x',rfl,by simpa using ad 0 (by simp)⟩
theorem fk.two {x y:I} {a:Array I} (h:fk [x,y] φ a):∃x' d_,a= #[x',d_]/\ar φ x x'/\ar φ y d_:=by
 obtain⟨l⟩:=a;obtain⟨h1,ad⟩:=h
 match l,h1 with
 |[x',d_],_=>exact⟨x',d_,rfl,by simpa using ad 0 (by simp),by simpa using ad 1 (by simp)⟩
theorem Pa (hr:bs φ A w) {bX:Array az} {ty:az} {x x' v:I} (ag:ar φ x x') (h:C_ P bX x=some v):bm (e8 v) P φ A w (Builtin.cap_ bX ty #[x']) A:=by
 unfold C_ at h;split at h
 ·rename_i t aE
  have hm:∀au,(do match <-underlying t,x' with
   | .array n _,_=>pure (goInt n)
   | .pointer arr,_=>
     let .array n _ <-underlying arr|stuck "cap: pointer to array expected"
     pure (goInt n)
   | .slice _,.slice _ _ n=>pure (goInt n)
   | .chan _ _,.chan none=>pure (goInt 0)
   | .chan _ _,.chan (some r)=>
     let .chan n _ _ _ _ timer <-getObj r|stuck "cap: channel expected"
     pure (goInt (if timer then 0 else n))
   |_,_=>stuck "cap: array, pointer to array, slice or channel expected":Sem I).run P w= .ok au w->(Builtin.cap_ bX ty #[x']).run P w= .ok au w:=by
   intro au aw;rw[<-aw];unfold Builtin.cap_;simp only [aE];rfl
  split at h
  ·rename_i e l c hu
   simp only [bS] at h;subst h;cases ag;exact⟨φ,w,_,hm _ (cb hu rfl),.int _ _,bF.refl hr⟩
  ·rename_i e a l c hu
   simp only [bS] at h;subst h;cases ag<;>exact⟨φ,w,_,hm _ (cb hu rfl),.cC _,bF.refl hr⟩
  ·rename_i n e hu
   simp only [bS] at h;subst h;exact⟨φ,w,_,hm _ (cb hu rfl),.int _ _,bF.refl hr⟩
  ·cases h
 ·cases h
theorem Pb (hr:bs φ A w) {bX:Array az} {ty:az} {x x' v:I} (ag:ar φ x x') (h:C' x=some v):bm (e8 v) P φ A w (Builtin.unsafeSliceData_ bX ty #[x']) A:=by
 unfold C' at h;split at h
 ·simp only [bS] at h
  subst h;cases ag;exact bm.ret hr .ry
 ·rename_i b off n c
  cases ao:Nat.beq c 0 with
  |true=>rw[ao] at h;cases h
  |false=>
   rw[ao,cV,bS] at h;subst h;have uY:c≠0:=λaq=>by rw[aq] at ao;exact absurd ao cG
   have key:∀(a:Addr) (n c:Nat),c≠0->(Builtin.unsafeSliceData_ bX ty #[.slice (some a) n c]).run P w= .ok (.pointer (some a)) w:=by
    intro a n c ao;have e:Builtin.unsafeSliceData_ bX ty #[.slice (some a) n c]=(if c≠0 then pure (.pointer (some a)) else do
     if (<-viewAt a.block).isSome then pure (.pointer (some a)) else pure (.pointer (some ⟨<-newObj (.view a (<-elemOf ty)),0,none⟩))):=rfl
    rw[e,aR ao];rfl
   cases ag with
   |gi=>exact absurd rfl uY
   |fS n c he=>exact⟨φ,w,_,key _ _ _ uY,.ptr he,bF.refl hr⟩
   |fT n c c' he h1 ad al=>exact⟨φ,w,_,key _ _ _ af,.ptr he,bF.refl hr⟩
 ·cases h
theorem Pc (hr:bs φ A w) {b:Builtin} {bX:Array az} {ty:az} {cs:Array Bool} {l:List I} {a:Array I} {v:I} (hl:fk l φ a) (h:Da P A b bX ty l=some (v,aO)):
  bm (pB (.value v)) P φ A w (builtin b bX ty cs a) aO:=by
 have fin:∀{s:Sem I},bm (e8 v) P φ A w s aO->bm (pB (.value v)) P φ A w (do pure (.value (<-s))) aO:=λhs=>bm.map hs λφ a ha=>⟨a,rfl,ha⟩
 unfold Da at h;split at h
 ·obtain⟨x',rfl,ag⟩:=hl.one
  split at h
  ·rename_i au aw
   cases h;exact fin (OH hr ag aw)
  ·split at h
   ·rename_i au aw
    cases h;exact fin (Dc hr hl aw)
   ·cases h
 ·obtain⟨x',d_,rfl,ag,aT⟩:=hl.two
  exact fin (Oq hr ag aT h)
 ·obtain⟨x',d_,rfl,ag,aT⟩:=hl.two
  exact fin (OC hr ag aT h)
 ·obtain⟨x',rfl,ag⟩:=hl.one
  obtain⟨au,aw,he⟩:=Option.map_eq_some_iff.1 h;cases he;exact fin (Pa hr ag aw)
 ·obtain⟨au,aw,he⟩:=Option.map_eq_some_iff.1 h
  cases he;exact fin (Dc hr hl aw)
 ·obtain⟨au,aw,he⟩:=Option.map_eq_some_iff.1 h
  cases he;exact fin (Dc hr hl aw)
 ·obtain⟨x',rfl,ag⟩:=hl.one
  obtain⟨au,aw,he⟩:=Option.map_eq_some_iff.1 h;cases he;exact fin (Pb hr ag aw)
 ·obtain⟨x',rfl,ag⟩:=hl.one
  split at h
  ·rename_i aY rL
   cases h;exact fin (OX hr ag rL)
  ·cases h
 ·rename_i x n
  obtain⟨x',d_,rfl,ag,aT⟩:=hl.two;cases hp:plain n with
  |false=>rw[hp] at h;cases h
  |true=>
   rw[hp,a7] at h;rw[ar.h8 _ hp aT];exact fin (OV hr ag h)
 ·rename_i m k
  obtain⟨x',d_,rfl,ag,aT⟩:=hl.two;split at h
  ·rename_i aY rL
   cases h;have hp:plain k=true:=by
    unfold zu at rL;split at rL
    ·cases hp:plain k with
     |true=>rfl
     |false=>rw[hp] at rL;cases rL
    ·cases rL
   rw[ar.h8 _ hp aT];exact fin (O8 hr ag rL)
  ·cases h
 ·cases h
def enters (P:aC) (f:FuncId):Bool:=
 match P.funcs[f]? with
 |some fn=> !(fn.name== "runtime.NumGoroutine")&&fn.body.isSome
 |none=>false
omit [aX] in
theorem zv {f:FuncId} (h:enters P f=true) (args:Array I):aP P (callFunc f args)=some (.enter f args):=by
 unfold enters at h;split at h
 ·rename_i fn aB
  simp only [b4,Bool.not_eq_true'] at h;obtain⟨h1,ad⟩:=h;have al:fn.body.isNone=false:=by cases U:fn.body<;>simp_all
  unfold callFunc;show aP P (match P.funcs[f]? with|none=>_|some fn=>_)=_;simp only [aB,h1,al,Bool.false_eq_true,if_false];rfl
 ·cases h
def IA (P:aC) (f:FuncId) (args:List I):Option mV:=
 bif kj args then match aP P (callFunc f ⟨args⟩) with
  |some (.value v)=>bif plain v then some (.value v) else none
  |_=>none
 else none
def Dd (P:aC) [Lib P] (A:aD) (f:FuncId):List I->Option (I×aD)
 |[x]=>bif (Lib.same P).contains f then some (x,A) else
  match (Lib.CU P).find? λp=>Nat.beq p.1 f,x with
  |some p,.int .i64 n=>CX A p.2 n
  |_,_=>none
 |_=>none
def zw (P:aC) [Lib P] (A:aD) (f:FuncId) (args:List I):Option (mV×aD):=
 bif enters P f then some (.enter f args,A) else
  match Dd P A f args with
  |some (v,aY)=>some (.value v,aY)
  |none=>match IA P f args with
   |some n=>some (n,A)
   |none=>none
theorem Pd [Lib P] (hr:bs φ A w) {f:FuncId} {l:List I} {a:Array I} {v:I} (hl:fk l φ a) (h:Dd P A f l=some (v,aO)):bm (pB (.value v)) P φ A w (callFunc f a) aO:=by
 unfold Dd at h;split at h
 ·rename_i x
  obtain⟨x',rfl,ag⟩:=hl.one;cases ao:(Lib.same P).contains f with
  |true=>
   rw[ao] at h;cases h;exact bm.pure_run hr (Lib.Ih f (by simpa using ao) x') ⟨x',rfl,ag⟩
  |false=>
   rw[ao,cV] at h;split at h
   ·rename_i p n aB
    cases ag;have qt:p.1=f:=by
     have:=List.find?_some aB;exact bJ this
    obtain⟨ps,kN,t,h1,ad,al⟩:=Lib.Ii p (List.mem_of_find?_eq_some aB);obtain⟨eE,w1,v1,g1,g2,b6⟩:=OP (ps:=ps) hr ad al h;refine⟨eE,w1,.value v1,?_,⟨v1,rfl,g2⟩,b6⟩;rw[<-qt,h1];exact ck g1 rfl
   ·cases h
 ·cases h
theorem IB [Lib P] (hr:bs φ A w) {f:FuncId} {l:List I} {a:Array I} {n:mV} (hl:fk l φ a) (h:zw P A f l=some (n,aO)):bm (pB n) P φ A w (callFunc f a) aO:=by
 unfold zw at h;cases he:enters P f with
 |true=>
  rw[he] at h;cases h;exact bm.pure_run hr (zv he a) ⟨a,rfl,hl⟩
 |false=>
  rw[he,cV] at h;split at h
  ·rename_i v aY hk
   cases h;exact Pd hr hl hk
  ·split at h
   ·rename_i n ah
    cases h;unfold IA at ah;cases hp:kj l with
    |false=>rw[hp] at ah;cases ah
    |true=>
     rw[hp,a7] at ah;split at ah
     ·rename_i v aw
      cases ou:plain v with
      |false=>rw[ou] at ah;cases ah
      |true=>
       rw[ou,a7,bS] at ah;subst ah;rw[hl.eq hp];exact bm.pure_run hr aw ⟨v,rfl,ar.h5 φ v ou⟩
     ·cases ah
   ·cases h
def De (P:aC) [Lib P] (A:aD) (a8:Operand->I) (c:Call) (ty:az):Option (mV×aD):=
 match c.callee with
 | .builtin b=>(Da P A b c.argTypes ty (c.args.toList.map a8)).map λr=>(.value r.1,r.2)
 | .value f=>match a8 f with
   | .func (.func g) ⟨first⟩ ⟨uZ⟩=>zw P A g (first++c.args.toList.map a8++uZ)
   |_=>none
 | .invoke recv name=>match a8 recv with
   | .iface t v=>bif plain v then match aP P (method (P.types.size+Made.depth) t v name) with
       |some (f,r)=>bif plain r then zw P A f (r::c.args.toList.map a8) else none
       |none=>none
     else none
   |_=>none
theorem fk.append {l1 l2:List I} {db a2:Array I} (h1:fk l1 φ db) (ad:fk l2 φ a2):fk (l1++l2) φ (db++a2):=by
 obtain⟨Db⟩:=db;obtain⟨Xi⟩:=a2;obtain⟨s1,v1⟩:=h1;obtain⟨s2,v2⟩:=ad;simp only [List.size_toArray] at s1 s2;refine⟨by simp [s1,s2],λj hj=> ?_⟩;simp only [List.append_toArray,dD,List.getElem?_toArray,de] at v1 v2 ⊢;rcases Nat.lt_or_ge j l1.length with h|h
 ·rw[List.getElem?_append_left h,List.getElem?_append_left af]
  exact v1 j h
 ·rw[List.getElem?_append_right h,List.getElem?_append_right af,s1]
  exact v2 _ (by simp at hj;omega)
theorem fk.map {l:Array Operand} {ρ ρ':Operand->I} (h:∀x∈l,ar φ (ρ x) (ρ' x)):fk (l.toList.map ρ) φ (l.map ρ'):=by
 obtain⟨l⟩:=l;refine⟨by simp,λj hj=> ?_⟩;simp only [List.length_map] at hj;simp only [List.map_toArray,dD,List.getElem?_toArray,de,List.getElem?_map,fc hj,Option.map_some,Option.getD_some];exact h _ (by simp)
theorem fk.of {cs cs':Array I} (h1:cs.size=cs'.size) (h:∀i,i<cs.size->ar φ (cs.getD i undef) (cs'.getD i undef)):fk cs.toList φ cs':=by
 obtain⟨l⟩:=cs;refine⟨by simpa using h1.symm,λj hj=> ?_⟩;simpa [dD] using h j (by simpa using hj)
theorem Pe [Lib P] (hr:bs φ A w) {ρ ρ':Operand->I} {c:Call} {ty:az} {n:mV} (b9:∀x,ar φ (ρ x) (ρ' x)) (h:De P A ρ c ty=some (n,aO)):
  bm (pB n) P φ A w (do let d <-resolve ρ' c ty;invoke d.target d.args) aO:=by
 unfold De at h;have eY:fk (c.args.toList.map ρ) φ (c.args.map ρ'):=fk.map λx _=>b9 x
 split at h
 ·rename_i b ao
  obtain⟨⟨v,aY⟩,U,he⟩:=Option.map_eq_some_iff.1 h;cases he;obtain⟨dF,cQ,n2,g1,g2,b6⟩:=Pc (cs:=c.args.map λ| .const _=>true|_=>false) hr eY U;refine⟨dF,cQ,n2,?_,g2,b6⟩;rw[<-g1];unfold resolve;rw[ao];rfl
 ·rename_i f ao
  split at h
  ·rename_i g first uZ aB
   have U:=h;have aw:=b9 f;rw[aB] at aw;cases jF:ρ' f with
   |func fn hI cs'=>
    rw[jF] at aw;cases aw with
    |func fs hI cs cs' ah h1 ad Df ez=>
     have:=(fk.of h1 Df).append eY |>.append (fk.of ad ez);obtain⟨dF,cQ,n2,g1,g2,b6⟩:=IB hr this U;refine⟨dF,cQ,n2,?_,g2,b6⟩;rw[<-g1];unfold resolve;rw[ao];simp only [jF];rfl
   |_=>rw[jF] at aw;cases aw
  ·cases h
 ·rename_i recv name ao
  split at h
  ·rename_i t v aw
   cases hp:plain v with
   |false=>rw[hp] at h;cases h
   |true=>
    rw[hp,a7] at h;split at h
    ·rename_i f r hm
     cases qu:plain r with
     |false=>rw[qu] at h;cases h
     |true=>
      rw[qu,a7] at h;have U:=h;have w9:=b9 recv;rw[aw] at w9;cases jF:ρ' recv with
      |iface cq au=>
       rw[jF] at w9;cases w9 with
       |iface _ qv=>
        have Pf:=ar.h8 v hp qv;subst Pf;have h1:fk [r] φ #[r]:=⟨rfl,λj hj=>by
         have:j=0:=by simpa using hj
         subst this
         exact ar.h5 φ r qu⟩
        obtain⟨dF,cQ,n2,g1,g2,b6⟩:=IB hr (h1.append eY) U;refine⟨dF,cQ,n2,?_,g2,b6⟩;rw[<-g1];unfold resolve;rw[ao];simp only [jF];refine cb (a:={target:= .fn (.method name) #[],args:= #[.iface t au]++c.args.map ρ'}) rfl ?_;unfold invoke;have c3:(#[Value.iface t au]++c.args.map ρ')[0]? =some (.iface t au):=by
         simp [Array.getElem?_append]
        have e1:(#[Value.iface t au]++c.args.map ρ').extract 1 (#[Value.iface t au]++c.args.map ρ').size=c.args.map ρ':=by
         apply Array.ext';simp [List.take_of_length_le]
        simp only [c3,e1];unfold callMethod;refine cb (a:=P) rfl ?_;exact cb hm rfl
      |_=>rw[jF] at w9;cases w9
    ·cases h
  ·cases h
end
end AE
namespace AE
variable [aX]
def qw (a8:Operand->I):Option Operand->Bool
 |none=>true
 |some x=>plain (a8 x)
def Dg (P:aC) (A:aD) (hD dst:az) (x:I):Option (I×aD):=
 match (bif plain x then nN P (convert hD dst x) else none) with
 |some v=>some (v,A)
 |none=>match CV P A hD dst x with
  |some v=>some (v,A)
  |none=>match aP P (underlying hD),aP P (underlying dst),x with
   |some _,some (.slice e),.string s=>match aP P (underlying e) with
    |some (.int .u8)=>CN A e s
    |_=>none
   |some (.slice e),some .string,.slice a n c=>match aP P (underlying e) with
    |some (.int .u8)=>(CM P A (.slice a n c)).map (·,A)
    |_=>none
   |_,_,_=>none
def IC (x:I):Option I:=
 match x with
 | .pointer (some _)=>some x
 | .func (.func _) _ _=>some x
 | .iface _ _=>some x
 |_=>none
def ID:Fn->Bool
 | .yield _=>true
 |_=>false
def val (A:aD):Option I->Option (mV×aD)
 |some v=>some (.value v,A)
 |none=>none
def nO:Option (I×aD)->Option (mV×aD)
 |some (v,A)=>some (.value v,A)
 |none=>none
def w_ (P:aC) [Lib P] (a8:Operand->I) (A:aD) (o:Oper):Option (mV×aD):=
 match o.op with
 | .move x| .assign x=>some (.value (a8 x),A)
 | .pick c a b=>match a8 c with
   | .bool t=>some (.value (bif t then a8 a else a8 b),A)
   |_=>none
 | .alloc t=>nO (Cj P A t)
 | .box t x=>nO (y8 A t (a8 x))
 | .build t parts=>val A (Co P t (parts.map λ(i,x)=>(i,a8 x)))
 | .buildSlice t len parts=>bif Nat.beq len 0&&Nat.beq parts.size 0 then nO (Ct P A t) else nO (Cq P A t len (parts.map λ(i,x)=>(i,a8 x)))
 | .load t a=>val A (uO P A t (a8 a))
 | .store t a x=>match Ci P A t (a8 x) (a8 a) with
   |some aY=>some (.skip,aY)
   |none=>none
 | .nilCheck x=>val A (IC (a8 x))
 | .binOp op t x y _=>match (bif plain (a8 x)&&plain (a8 y) then nN P (do eqGuard op t x y (a8 x) (a8 y);binOp op t (a8 x) (a8 y)) else none) with
   |some v=>some (.value v,A)
   |none=>val A (CQ P op t (a8 x) (a8 y))
 | .unOp op _ x=>bif plain (a8 x) then val A (nN P (Op.unary op (a8 x))) else none
 | .convert hD dst x=>nO (Dg P A hD dst (a8 x))
 | .makeInterface t x=>val A (CR P t (a8 x))
 | .makeFunc fn first uZ=>bif ID fn then none else some (.value (.func fn ⟨first.toList.map a8⟩ ⟨uZ.toList.map a8⟩),A)
 | .makeSlice t l c=>bif plain (a8 l)&&plain (a8 c) then nO (CJ P A t (a8 l) (a8 c)) else none
 | .slice t x e7 J ep=>bif qw a8 e7&&(qw a8 J&&qw a8 ep) then val A (match CF P A t (a8 x) (e7.map a8) (J.map a8) (ep.map a8) with
     |some v=>some v
     |none=>bif plain (a8 x) then nN P (Instr.sliceAt t (a8 x) (e7.map a8) (J.map a8) (ep.map a8)) else none) else none
 | .fieldAddr s x f=>val A (wQ P s f (a8 x))
 | .field t x f=>val A (Ck P t (a8 x) f)
 | .indexAddr t x ei=>bif plain (a8 ei) then val A (wR P t (a8 x) (a8 ei)) else none
 | .index t x ei=>bif plain (a8 ei) then val A (match Cl P t (a8 x) (a8 ei) with
     |some v=>some v
     |none=>bif plain (a8 x) then nN P (Instr.index t (a8 x) (a8 ei)) else none) else none
 | .typeAssert x _ asserted ok=>val A (CS P (a8 x) asserted ok)
 | .extract t ei=>val A (wU (a8 t) ei)
 | .call c=>De P A a8 c o.type
 | .makeMap t r=>bif qw a8 r then nO (C5 P A t (r.map a8)) else none
 | .lookup t x ei ok=>val A (zr P A t (a8 x) (a8 ei) ok)
 | .mapUpdate t m k x| .insert t m k x=>match w7 P A t (a8 m) (a8 k) (a8 x) with
   |some aY=>some (.skip,aY)
   |none=>none
 | .mapEntry t m k=>nO (zs P A t (a8 m) (a8 k))
 | .entryStore _ m st x=>match zt P A (a8 m) (a8 st) (a8 x) with
   |some aY=>some (.skip,aY)
   |none=>none
 | .range t x=>nO (C8 P A t (a8 x))
 | .next it IE=>nO (C9 A (a8 it) IE)
 |_=>none
section
variable {P:aC} {φ:bn} {A aO:aD} {w:aj}
theorem Pg (hr:bs φ A w) {hD dst:az} {x x' v:I} (ag:ar φ x x') (h:Dg P A hD dst x=some (v,aO)):bm (e8 v) P φ A w (convert hD dst x') aO:=by
 unfold Dg at h;split at h
 ·rename_i u hu
  simp only [bS,Prod.mk.injEq] at h;obtain⟨rfl,rfl⟩:=h;cases hp:plain x with
  |false=>rw[hp] at hu;cases hu
  |true=>
   rw[hp,a7] at hu;rw[ar.h8 x hp ag];exact uX hr hu
 split at h
 ·rename_i u hu
  cases h;exact OO hr ag hu
 ·split at h
  ·rename_i d e s h1 ad _ _
   split at h
   ·rename_i al
    cases ag;unfold convert;refine bm.pre h1 (bm.pre ad ?_);simp only;refine bm.pre al ?_;exact OJ hr h
   ·cases h
  ·rename_i e a n c h1 ad _ _
   split at h
   ·rename_i al
    obtain⟨au,aw,he⟩:=Option.map_eq_some_iff.1 h;cases he;have hs:=OI hr ag aw;unfold convert;refine bm.pre h1 (bm.pre ad ?_);cases ag<;>exact bm.pre al hs
   ·cases h
  ·cases h
theorem zx {ρ ρ':Operand->I} (b9:∀x,ar φ (ρ x) (ρ' x)) {o:Option Operand} (h:qw ρ o=true):o.map ρ'=o.map ρ:=by
 cases o with
 |none=>rfl
 |some x=>simp only [Option.map_some];rw[ar.h8 _ h (b9 x)]
theorem IG [Lib P] (hr:bs φ A w) {ρ ρ':Operand->I} {o:Oper} {n:mV} (b9:∀x,ar φ (ρ x) (ρ' x)) (h:w_ P ρ A o=some (n,aO)):bm (pB n) P φ A w (execOp ρ' o) aO:=by
 have fin:∀{v:I} {s:Sem I},bm (e8 v) P φ A w s aO->bm (pB (.value v)) P φ A w (do pure (.value (<-s))) aO:=λhs=>bm.map hs λφ a ha=>⟨a,rfl,ha⟩
 have hval:∀{r:Option I},val A r=some (n,aO)->∃v,r=some v/\n= .value v/\aO=A:=by
  intro r aw;cases r with
  |none=>cases aw
  |some v=>simp only [val,bS,Prod.mk.injEq] at aw;exact⟨v,rfl,aw.1.symm,aw.2.symm⟩
 have pC:∀{r:Option (I×aD)},nO r=some (n,aO)->∃v,r=some (v,aO)/\n= .value v:=by
  intro r aw;cases r with
  |none=>cases aw
  |some p=>obtain⟨v,aY⟩:=p;simp only [nO,bS,Prod.mk.injEq] at aw;exact⟨v,by rw[aw.2],aw.1.symm⟩
 obtain⟨dst,op,type,pos,after,guard⟩:=o;unfold w_ at h;unfold execOp;cases op<;>simp only at h ⊢<;>try (cases h;done)
 case move x=>cases h;exact bm.ret hr ⟨_,rfl,b9 x⟩
 case assign x=>cases h;exact bm.ret hr ⟨_,rfl,b9 x⟩
 case pick c a b=>
  split at h
  ·rename_i t ao
   cases h;have:=b9 c;rw[ao] at this;cases uY:ρ' c<;>rw[uY] at this<;>cases this
   refine bm.pre (a:=t) rfl ?_;cases t
   ·exact bm.ret hr ⟨_,rfl,b9 b⟩
   ·exact bm.ret hr ⟨_,rfl,b9 a⟩
  ·cases h
 case alloc t=>
  obtain⟨v,h1,rfl⟩:=pC h;exact fin (N7 hr h1)
 case box t x=>
  obtain⟨v,h1,rfl⟩:=pC h;exact fin (HN hr (b9 x) h1)
 case build t parts=>
  obtain⟨v,h1,rfl,rfl⟩:=hval h;exact fin (Ob hr (λp _=>b9 p.2) h1)
 case buildSlice t len parts=>
  cases U:(Nat.beq len 0&&Nat.beq parts.size 0) with
  |true=>
   rw[U,a7] at h;simp only [b4] at U;obtain⟨v,h1,rfl⟩:=pC h;have e1:len=0:=bJ U.1;have e2:parts= #[]:=Array.eq_empty_of_size_eq_zero (bJ U.2);subst e1;subst e2;exact fin (by simpa using Od hr h1)
  |false=>
   rw[U,cV] at h;obtain⟨v,h1,rfl⟩:=pC h;exact fin (Oc hr (λp _=>b9 p.2) h1)
 case load t a=>
  obtain⟨v,h1,rfl,rfl⟩:=hval h;exact fin (N4 hr (b9 a) h1)
 case store t a x=>
  split at h
  ·rename_i aY h1
   cases h;exact bm.map (N6 hr (b9 a) (b9 x) h1) λ_ _ _=>rfl
  ·cases h
 case nilCheck x=>
  obtain⟨v,h1,rfl,rfl⟩:=hval h;have ag:=b9 x;unfold IC at h1;split at h1
  ·rename_i a ha
   cases h1;rw[ha] at ag;cases mn:ρ' x<;>rw[mn] at ag
   all_goals cases ag
   rename_i h;exact bm.ret hr ⟨_,rfl,ha▸.ptr h⟩
  ·rename_i f fs cs ha
   cases h1;rw[ha] at ag;cases mn:ρ' x<;>rw[mn] at ag
   all_goals cases ag
   rename_i h1 ad al bb b5;exact bm.ret hr ⟨_,rfl,ha▸.func _ _ _ _ h1 ad bb al b5⟩
  ·rename_i t u ha
   cases h1;rw[ha] at ag;cases mn:ρ' x<;>rw[mn] at ag
   all_goals cases ag
   rename_i h;exact bm.ret hr ⟨_,rfl,ha▸.iface _ h⟩
  ·cases h1
 case binOp op t x y II=>
  split at h
  ·rename_i v aw
   cases h;cases hp:plain (ρ x) with
   |false=>simp only [hp,Bool.false_and,cV] at aw;cases aw
   |true=>
    cases aA:plain (ρ y) with
    |false=>simp only [aA,Bool.and_false,cV] at aw;cases aw
    |true=>
     simp only [hp,aA,Bool.and_true,a7] at aw;rw[ar.h8 _ hp (b9 x),ar.h8 _ aA (b9 y)];exact fin (uX hr aw)
  ·obtain⟨v,h1,rfl,rfl⟩:=hval h
   exact fin (OL hr (b9 x) (b9 y) h1)
 case unOp op t x=>
  cases hp:plain (ρ x) with
  |false=>rw[hp] at h;cases h
  |true=>
   rw[hp,a7] at h;obtain⟨v,h1,rfl,rfl⟩:=hval h;rw[ar.h8 _ hp (b9 x)];exact fin (uX hr h1)
 case convert hD dst x=>
  obtain⟨v,h1,rfl⟩:=pC h;exact fin (Pg hr (b9 x) h1)
 case makeInterface t x=>
  obtain⟨v,h1,rfl,rfl⟩:=hval h;exact fin (OM hr (b9 x) h1)
 case makeFunc fn first uZ=>
  cases aT:ID fn with
  |true=>rw[aT] at h;cases h
  |false=>
   rw[aT] at h;cases h;have cH:=fk.map (φ:=φ) (l:=first) (ρ:=ρ) (ρ':=ρ') λx _=>b9 x
   have dj:=fk.map (φ:=φ) (l:=uZ) (ρ:=ρ) (ρ':=ρ') λx _=>b9 x
   refine bm.ret hr ⟨_,rfl,.func _ _ _ _ (λl hl=>by subst hl;cases aT) (by simp) (by simp) (λi J=> ?_) (λi J=> ?_)⟩
   ·have:=cH.2 i (by simpa using J)
    simpa [dD] using this
   ·have:=dj.2 i (by simpa using J)
    simpa [dD] using this
 case makeSlice t l c=>
  cases hp:plain (ρ l) with
  |false=>simp only [hp,Bool.false_and,cV] at h;cases h
  |true=>
   cases aA:plain (ρ c) with
   |false=>simp only [aA,Bool.and_false,cV] at h;cases h
   |true=>
    simp only [hp,aA,Bool.and_true,a7] at h;obtain⟨v,h1,rfl⟩:=pC h;rw[ar.h8 _ hp (b9 l),ar.h8 _ aA (b9 c)];exact fin (OF hr h1)
 case slice t x e7 J ep=>
  cases hp:(qw ρ e7&&(qw ρ J&&qw ρ ep)) with
  |false=>rw[hp] at h;cases h
  |true=>
   rw[hp,a7] at h;simp only [b4] at hp;obtain⟨v,h1,rfl,rfl⟩:=hval h;rw[zx b9 hp.1,zx b9 hp.2.1,zx b9 hp.2.2];split at h1
   ·rename_i u hu
    cases h1;exact fin (Oz hr (b9 x) hu)
   ·cases aA:plain (ρ x) with
    |false=>rw[aA] at h1;cases h1
    |true=>
     rw[aA,a7] at h1;rw[ar.h8 _ aA (b9 x)];exact fin (uX hr h1)
 case fieldAddr s x f=>
  obtain⟨v,h1,rfl,rfl⟩:=hval h;exact fin (N8 hr (b9 x) h1)
 case field t x f=>
  obtain⟨v,h1,rfl,rfl⟩:=hval h;exact fin (N' hr (b9 x) h1)
 case indexAddr t x ei=>
  cases hp:plain (ρ ei) with
  |false=>rw[hp] at h;cases h
  |true=>
   rw[hp,a7] at h;obtain⟨v,h1,rfl,rfl⟩:=hval h;rw[ar.h8 _ hp (b9 ei)];exact fin (N9 hr (b9 x) h1)
 case index t x ei=>
  cases hp:plain (ρ ei) with
  |false=>rw[hp] at h;cases h
  |true=>
   rw[hp,a7] at h;obtain⟨v,h1,rfl,rfl⟩:=hval h;rw[ar.h8 _ hp (b9 ei)];split at h1
   ·rename_i u hu
    cases h1;exact fin (N_ hr (b9 x) hu)
   ·cases aA:plain (ρ x) with
    |false=>rw[aA] at h1;cases h1
    |true=>
     rw[aA,a7] at h1;rw[ar.h8 _ aA (b9 x)];exact fin (uX hr h1)
 case typeAssert x Ig asserted ok=>
  obtain⟨v,h1,rfl,rfl⟩:=hval h;exact fin (ON hr (b9 x) h1)
 case extract t ei=>
  obtain⟨v,h1,rfl,rfl⟩:=hval h;exact fin (Oa hr (b9 t) h1)
 case call c=>exact Pe hr b9 h
 case makeMap t r=>
  cases hp:qw ρ r with
  |false=>rw[hp] at h;cases h
  |true=>
   rw[hp,a7] at h;obtain⟨v,h1,rfl⟩:=pC h;rw[zx b9 hp];exact fin (O1 hr h1)
 case lookup t x ei ok=>
  obtain⟨v,h1,rfl,rfl⟩:=hval h;have hp:plain (ρ ei)=true:=by
   unfold zr at h1;cases hp:plain (ρ ei) with
   |true=>rfl
   |false=>rw[hp] at h1;cases h1
  rw[ar.h8 _ hp (b9 ei)];exact fin (O2 hr (b9 x) h1)
 case mapUpdate t m k x=>
  split at h
  ·rename_i aY h1
   cases h;have hp:plain (ρ k)=true:=by
    unfold w7 at h1;cases hp:plain (ρ k) with
    |true=>rfl
    |false=>rw[hp] at h1;cases h1
   rw[ar.h8 _ hp (b9 k)];exact bm.map (Ix hr (b9 m) (b9 x) h1) λ_ _ _=>rfl
  ·cases h
 case insert t m k x=>
  split at h
  ·rename_i aY h1
   cases h;have hp:plain (ρ k)=true:=by
    unfold w7 at h1;cases hp:plain (ρ k) with
    |true=>rfl
    |false=>rw[hp] at h1;cases h1
   rw[ar.h8 _ hp (b9 k)];exact bm.map (Ix hr (b9 m) (b9 x) h1) λ_ _ _=>rfl
  ·cases h
 case mapEntry t m k=>
  obtain⟨v,h1,rfl⟩:=pC h;have hp:plain (ρ k)=true:=by
   unfold zs at h1;cases hp:plain (ρ k) with
   |true=>rfl
   |false=>rw[hp] at h1;cases h1
  rw[ar.h8 _ hp (b9 k)];exact fin (O4 hr (b9 m) h1)
 case entryStore t m st x=>
  split at h
  ·rename_i aY h1
   cases h;have hp:plain (ρ st)=true:=by
    unfold zt at h1;split at h1
    ·split at h1
     ·cases hp:plain (ρ st) with
      |true=>rfl
      |false=>rw[hp] at h1;cases h1
     ·cases h1
    ·cases h1
   rw[ar.h8 _ hp (b9 st)];exact bm.map (O7 hr (b9 m) (b9 x) h1) λ_ _ _=>rfl
  ·cases h
 case range t x=>
  obtain⟨v,h1,rfl⟩:=pC h;exact fin (O9 hr (b9 x) h1)
 case next it IE=>
  obtain⟨v,h1,rfl⟩:=pC h;exact fin (O_ hr (b9 it) h1)
end
end AE
namespace AE
mutual
def dW:I->I->Bool
 | .bool a,.bool b=>a==b
 | .int k n,.int k' dS=>decide (k=k')&&decide (n=dS)
 | .complex .f64 a b,.complex .f64 aL b'=>Nat.beq a aL&&Nat.beq b b'
 | .string s,.string t=>s.data.toList==t.data.toList
 | .pointer none,.pointer none=>true
 | .slice none l c,.slice none l' c'=>Nat.beq l l'&&Nat.beq c c'
 | .map none,.map none=>true
 | .nilFunc,.nilFunc=>true
 | .nilIface,.nilIface=>true
 | .func (.func f) ⟨a⟩ ⟨b⟩,.func (.func g) ⟨aL⟩ ⟨b'⟩=>Nat.beq f g&&(jG a aL&&jG b b')
 | .iface t v,.iface cq au=>Nat.beq t cq&&dW v au
 | .agg ⟨l⟩,.agg ⟨l'⟩=>jG l l'
 | .tuple ⟨l⟩,.tuple ⟨l'⟩=>jG l l'
 |_,_=>false
def jG:List I->List I->Bool
 |[],[]=>true
 |v::r,au::cR=>dW v au&&jG r cR
 |_,_=>false
end
mutual
theorem eV:∀(a b:I),dW a b=true->a=b:=by
 intro a b h;unfold dW at h;split at h
 ·rw[eq_of_beq h]
 ·simp only [b4,decide_eq_true_eq] at h;rw[h.1,h.2]
 ·simp only [b4] at h;rw[bJ h.1,bJ h.2]
 ·rename_i s t
  have:=eq_of_beq h;obtain⟨⟨s⟩⟩:=s;obtain⟨⟨t⟩⟩:=t;simp only at this;rw[this]
 ·rfl
 ·simp only [b4] at h;rw[bJ h.1,bJ h.2]
 ·rfl
 ·rfl
 ·rfl
 ·simp only [b4] at h;rw[bJ h.1,lO _ _ h.2.1,lO _ _ h.2.2]
 ·rename_i t v cq au
  simp only [b4] at h;rw[bJ h.1,eV v au h.2]
 ·rename_i l l'
  rw[lO l l' h]
 ·rename_i l l'
  rw[lO l l' h]
 ·cases h
theorem lO:∀(a b:List I),jG a b=true->a=b
 |[],[],_=>rfl
 |v::r,au::cR,h=>by
  unfold jG at h;simp only [b4] at h;rw[eV v au h.1,lO r cR h.2]
 |[],_::_,h=>by simp [jG] at h
 |_::_,[],h=>by simp [jG] at h
end
mutual
def aF:I->Bool
 | .complex .f64 _ b=>Nat.beq b 0
 | .iface _ v=>aF v
 | .agg ⟨l⟩=>er l
 | .tuple ⟨l⟩=>er l
 | .bool _| .int .. | .float .. | .string _| .pointer none| .map none| .chan none| .nilFunc| .nilIface=>true
 | .slice none l c=>l==0&&c==0
 | .func (.func _) ⟨a⟩ ⟨b⟩=>er a&&er b
 |_=>false
def er:List I->Bool
 |[]=>true
 |v::r=>aF v&&er r
end
variable [aX]
mutual
def aK:I->I
 | .complex .f64 k b=>bif Nat.beq b 0 then aX.σ k else .complex .f64 k b
 | .iface t v=> .iface t (aK v)
 | .agg ⟨l⟩=> .agg ⟨e9 l⟩
 | .tuple ⟨l⟩=> .tuple ⟨e9 l⟩
 | .func (.func f) ⟨a⟩ ⟨b⟩=> .func (.func f) ⟨e9 a⟩ ⟨e9 b⟩
 |v=>v
def e9:List I->List I
 |[]=>[]
 |v::r=>aK v::e9 r
end
theorem IJ (k:Nat):aK (bP k)=aX.σ k:=by simp [bP,aK]
theorem qx:∀l:List I,(e9 l).length=l.length
 |[]=>rfl
 |v::r=>by simp [e9,qx r]
theorem Dh:∀l:List I,e9 l=l.map aK
 |[]=>rfl
 |v::r=>by simp [e9,Dh r]
mutual
theorem ar.rM (φ:bn):∀v:I,aF v=true->ar φ v (aK v):=by
 intro v h;unfold aF at h;split at h
 ·rename_i k b
  have:b=0:=bJ h;subst this;have:=ar.sym (φ:=φ) k;simpa [aK,bP] using this
 ·rename_i t v
  unfold aK;exact .iface t (ar.rM φ v h)
 ·rename_i l
  unfold aK;exact .agg _ _ (by simp [qx]) λi J=>by simpa using ar.s7 φ l h i (by simpa using J)
 ·rename_i l
  unfold aK;exact .tuple _ _ (by simp [qx]) λi J=>by simpa using ar.s7 φ l h i (by simpa using J)
 all_goals (first|(cases h;done)|skip)
 ·rename_i b;simpa [aK] using ar.h5 φ (.bool b) rfl
 ·rename_i k n;simpa [aK] using ar.h5 φ (.int k n) rfl
 ·rename_i k n;simpa [aK] using ar.h5 φ (.float k n) rfl
 ·rename_i s;simpa [aK] using ar.h5 φ (.string s) rfl
 ·simpa [aK] using ar.h5 φ (.pointer none) rfl
 ·simpa [aK] using ar.h5 φ (.map none) rfl
 ·simpa [aK] using ar.h5 φ (.chan none) rfl
 ·simpa [aK] using ar.h5 φ .nilFunc rfl
 ·simpa [aK] using ar.h5 φ .nilIface rfl
 ·rename_i l c;simpa [aK] using ar.h5 φ (.slice none l c) h
 ·rename_i f a b
  simp only [b4] at h;unfold aK;exact .func _ _ _ _ (λl hl=>by cases hl) (by simp [qx]) (by simp [qx]) (λi J=>by simpa using ar.s7 φ a h.1 i (by simpa using J)) (λi J=>by simpa using ar.s7 φ b h.2 i (by simpa using J))
theorem ar.s7 (φ:bn):∀l:List I,er l=true->∀i,i<l.length->ar φ (l.getD i Go.undef) ((e9 l).getD i Go.undef)
 |[],_,i,J=>absurd J (by simp)
 |v::r,h,0,_=>by
   have:=ar.rM φ v (by simp [er] at h;exact h.1);simpa [e9] using this
 |v::r,h,i+1,J=>by
   have:=ar.s7 φ r (by simp [er] at h;exact h.2) i (by simpa using J);simpa [e9] using this
end
theorem ar.Ph {φ:bn} {k:Nat} {au:I} (h:ar φ (bP k) au):au=aX.σ k:=by
 generalize hs:bP k=s at h;cases h<;>simp [bP,AE.cC] at hs
 subst hs;rfl
mutual
theorem ar.gW {φ:bn}:∀(v:I) {au:I},aF v=true->ar φ v au->au=aK v:=by
 intro v au hp h;unfold aF at hp;split at hp
 ·rename_i k b
  have:b=0:=bJ hp;subst this;rw[ar.Ph (k:=k) h];simp [aK]
 ·rename_i t v
  cases h with
  |iface t h=>unfold aK;rw[ar.gW v hp h]
 ·rename_i l
  cases h with
  |agg cs cs' h1 ad=>
   obtain⟨l'⟩:=cs';unfold aK;rw[ar.rN l l' hp (by simpa using h1) (λi J=>by simpa using ad i (by simpa using J))]
 ·rename_i l
  cases h with
  |tuple cs cs' h1 ad=>
   obtain⟨l'⟩:=cs';unfold aK;rw[ar.rN l l' hp (by simpa using h1) (λi J=>by simpa using ad i (by simpa using J))]
 all_goals (first|(cases hp;done)|skip)
 all_goals first|(unfold aK;refine ar.h8 _ ?_ h;first|exact hp|rfl;done)|skip
 rename_i f a b;simp only [b4] at hp;cases h with
 |func fs hI cs cs' ah h1 ad aB ao=>
  obtain⟨aL⟩:=hI;obtain⟨b'⟩:=cs';unfold aK;rw[ar.rN a aL hp.1 (by simpa using h1) (λi J=>by simpa using aB i (by simpa using J)),ar.rN b b' hp.2 (by simpa using ad) (λi J=>by simpa using ao i (by simpa using J))]
theorem ar.rN {φ:bn}:∀(l l':List I),er l=true->l.length=l'.length->(∀i,i<l.length->ar φ (l.getD i Go.undef) (l'.getD i Go.undef))->l'=e9 l
 |[],[],_,_,_=>rfl
 |[],_::_,_,h,_=>by simp at h
 |_::_,[],_,h,_=>by simp at h
 |v::r,au::cR,hp,hl,h=>by
   have h1:=ar.gW v (by simp [er] at hp;exact hp.1) (by simpa using h 0 (by simp));have ad:=ar.rN r cR (by simp [er] at hp;exact hp.2) (by simpa using hl) (λi J=>by simpa using h (i+1) (by simpa using J));rw[h1,ad];rfl
end
inductive eZ where
 |bin (op:BinOp) (t:az) (x y:I)
 |un (op:UnOp) (x:I)
 |conv (s d:az) (x:I)
 |h_ (t:az) (x:I) (e7 J ep:Option I)
 |ca (t:az) (x i:I)
 |ei (t:az) (x i:I)
 |ld (t:az) (a:I)
 |hJ (t:az) (a:I) (f:Nat)
 |mq (x:I)
 |len (bX:Array az) (ty:az) (x:I)
 |ep (bX:Array az) (ty:az) (x y:I)
 |lb (bX:Array az) (ty:az) (x y:I)
 |jw (x:I)
 |ov (t:az) (x i:I) (ok:Bool)
def xa:Option I->Option I->Bool
 |none,none=>true
 |some a,some b=>dW a b
 |_,_=>false
omit [aX] in
theorem Di {a b:Option I} (h:xa a b=true):a=b:=by
 unfold xa at h;split at h
 ·rfl
 ·rw[eV _ _ h]
 ·cases h
def u0:eZ->eZ->Bool
 | .bin op t x y,.bin Dj cq x' d_=>decide (op=Dj)&&(Nat.beq t cq&&(dW x x'&&dW y d_))
 | .un op x,.un Dj x'=>decide (op=Dj)&&dW x x'
 | .conv s d x,.conv dp iS x'=>Nat.beq s dp&&(Nat.beq d iS&&dW x x')
 | .h_ t x e7 J ep,.h_ cq x' Pj fZ Pk=>Nat.beq t cq&&(dW x x'&&(xa e7 Pj&&(xa J fZ&&xa ep Pk)))
 | .ca t x i,.ca cq x' j1=>Nat.beq t cq&&(dW x x'&&dW i j1)
 | .ei t x i,.ei cq x' j1=>Nat.beq t cq&&(dW x x'&&dW i j1)
 | .ld t a,.ld cq aL=>Nat.beq t cq&&dW a aL
 | .hJ t a f,.hJ cq aL gL=>Nat.beq t cq&&(dW a aL&&Nat.beq f gL)
 | .mq x,.mq x'=>dW x x'
 | .len bX ty x,.len xb ty' x'=>decide (bX=xb)&&(Nat.beq ty ty'&&dW x x')
 | .ep bX ty x y,.ep xb ty' x' d_=>decide (bX=xb)&&(Nat.beq ty ty'&&(dW x x'&&dW y d_))
 | .lb bX ty x y,.lb xb ty' x' d_=>decide (bX=xb)&&(Nat.beq ty ty'&&(dW x x'&&dW y d_))
 | .jw x,.jw x'=>dW x x'
 | .ov t x i ok,.ov cq x' j1 Pl=>Nat.beq t cq&&(dW x x'&&(dW i j1&&decide (ok=Pl)))
 |_,_=>false
omit [aX] in
theorem Dk {a b:eZ} (h:u0 a b=true):a=b:=by
 unfold u0 at h;split at h<;>try simp only [b4,decide_eq_true_eq] at h
 case h_1=>rw[h.1,bJ h.2.1,eV _ _ h.2.2.1,eV _ _ h.2.2.2]
 case h_2=>rw[h.1,eV _ _ h.2]
 case h_3=>rw[bJ h.1,bJ h.2.1,eV _ _ h.2.2]
 case h_4=>rw[bJ h.1,eV _ _ h.2.1,Di h.2.2.1,Di h.2.2.2.1,Di h.2.2.2.2]
 case h_5=>rw[bJ h.1,eV _ _ h.2.1,eV _ _ h.2.2]
 case h_6=>rw[bJ h.1,eV _ _ h.2.1,eV _ _ h.2.2]
 case h_7=>rw[bJ h.1,eV _ _ h.2]
 case h_8=>rw[bJ h.1,eV _ _ h.2.1,bJ h.2.2]
 case h_9=>rw[eV _ _ h]
 case h_10=>rw[h.1,bJ h.2.1,eV _ _ h.2.2]
 case h_11=>rw[h.1,bJ h.2.1,eV _ _ h.2.2.1,eV _ _ h.2.2.2]
 case h_12=>rw[h.1,bJ h.2.1,eV _ _ h.2.2.1,eV _ _ h.2.2.2]
 case h_13=>rw[eV _ _ h]
 case h_14=>rw[bJ h.1,eV _ _ h.2.1,eV _ _ h.2.2.1,h.2.2.2]
 case h_15=>cases h
def lP (a8:Operand->I) (o:Oper):Option eZ:=
 match o.op with
 | .binOp op t x y _=>some (.bin op t (a8 x) (a8 y))
 | .unOp op _ x=>some (.un op (a8 x))
 | .convert s d x=>some (.conv s d (a8 x))
 | .slice t x e7 J ep=>some (.h_ t (a8 x) (e7.map a8) (J.map a8) (ep.map a8))
 | .indexAddr t x i=>some (.ca t (a8 x) (a8 i))
 | .index t x i=>some (.ei t (a8 x) (a8 i))
 | .load t a=>some (.ld t (a8 a))
 | .fieldAddr t a f=>some (.hJ t (a8 a) f)
 | .nilCheck x=>some (.mq (a8 x))
 | .call c=>match c.callee with
   | .builtin .len=>match c.args with
     |⟨[x]⟩=>some (.len c.argTypes o.type (a8 x))
     |_=>none
   | .builtin .max=>match c.args with
     |⟨[x,y]⟩=>some (.ep c.argTypes o.type (a8 x) (a8 y))
     |_=>none
   | .builtin .min=>match c.args with
     |⟨[x,y]⟩=>some (.lb c.argTypes o.type (a8 x) (a8 y))
     |_=>none
   |_=>none
 | .lookup t x i ok=>some (.ov t (a8 x) (a8 i) ok)
 |_=>none
def eO (c6 c7:Operand):eZ->Sem Next
 | .bin op t x y=>do pure (.value (<-(do eqGuard op t c6 c7 x y;binOp op t x y)))
 | .un op x=>do pure (.value (<-Op.unary op x))
 | .conv s d x=>do pure (.value (<-convert s d x))
 | .h_ t x e7 J ep=>do pure (.value (<-Instr.sliceAt t x e7 J ep))
 | .ca t x i=>do pure (.value (<-Instr.indexAt t x i))
 | .ei t x i=>do pure (.value (<-Instr.index t x i))
 | .ld t a=>do pure (.value (<-Instr.loadAt t a))
 | .hJ t a f=>do pure (.value (<-Instr.fieldAt t a f))
 | .mq x=>execOp (λ_=>x) ⟨none,.nilCheck (.const undef),0,"",#[],none⟩
 | .len bX ty x=>do pure (.value (<-Builtin.len_ bX ty #[x]))
 | .ep bX ty x y=>do pure (.value (<-Builtin.max_ bX ty #[x,y]))
 | .lb bX ty x y=>do pure (.value (<-Builtin.min_ bX ty #[x,y]))
 | .jw x=>pure (.value x)
 | .ov t x i ok=>do pure (.value (<-Instr.lookup t x i ok))
def qy:eZ->eZ
 | .bin op t x y=> .bin op t (aK x) (aK y)
 | .un op x=> .un op (aK x)
 | .conv s d x=> .conv s d (aK x)
 | .h_ t x e7 J ep=> .h_ t (aK x) (e7.map aK) (J.map aK) (ep.map aK)
 | .ca t x i=> .ca t (aK x) (aK i)
 | .ei t x i=> .ei t (aK x) (aK i)
 | .ld t a=> .ld t (aK a)
 | .hJ t a f=> .hJ t (aK a) f
 | .mq x=> .mq (aK x)
 | .len bX ty x=> .len bX ty (aK x)
 | .ep bX ty x y=> .ep bX ty (aK x) (aK y)
 | .lb bX ty x y=> .lb bX ty (aK x) (aK y)
 | .jw x=> .jw (aK x)
 | .ov t x i ok=> .ov t (aK x) (aK i) ok
def plainO:Option I->Bool
 |none=>true
 |some v=>aF v
def kR:eZ->Bool
 | .bin _ _ x y| .ca _ x y| .ei _ x y| .ep _ _ x y| .lb _ _ x y| .ov _ x y _=>aF x&&aF y
 | .un _ x| .jw x| .conv _ _ x| .ld _ x| .hJ _ x _| .mq x| .len _ _ x=>aF x
 | .h_ _ x e7 J ep=>aF x&&(plainO e7&&(plainO J&&plainO ep))
def u1:eZ->Bool
 | .bin .. | .un .. | .jw .. | .ca .. | .hJ .. | .len .. | .ep .. | .lb .. | .mq _=>true
 |_=>false
def mW (w:aj):Prop:=∀i o,aX.eb i=some o->w.heap[i]? =some o
def bE (P:aC) (p:eZ×I):Prop:=
 kR p.1=true/\aF p.2=true/\
 if u1 p.1 then ∀c6 c7 w,(eO c6 c7 (qy p.1)).run P w= .ok (.value (aK p.2)) w
 else ∀c6 c7 w,mW w->(eO c6 c7 (qy p.1)).run P w= .ok (.value (aK p.2)) w
class c0 (P:aC) where
 ops:List (eZ×I)
def lQ (P:aC) [c0 P]:Prop:=∀p∈c0.ops P,bE P p
def find (f:eZ):List (eZ×I)->Option I
 |[]=>none
 |p::r=>bif u0 f p.1 then some p.2 else find f r
omit [aX] in
theorem zy {f:eZ} {v:I}:∀{l:List (eZ×I)},find f l=some v->(f,v)∈l
 |[],h=>by cases h
 |p::r,h=>by
  unfold find at h;cases he:u0 f p.1 with
  |true=>
   rw[he,a7,bS] at h;have:=Dk he;subst this;subst h;exact List.mem_cons_self
  |false=>
   rw[he,cV] at h;exact List.mem_cons_of_mem _ (zy h)
def nP (P:aC) [c0 P] (a8:Operand->I) (o:Oper):Option I:=
 match c0.ops P with
 |[]=>none
 |l=>match lP a8 o with
  |some f=>find f l
  |none=>none
def s8 (P:aC) [c0 P] (v:I):Option Bool:=
 match c0.ops P with
 |[]=>none
 |l=>match find (.jw v) l with
  |some (.bool b)=>some b
  |_=>none
def Pm:eZ->Bool
 | .jw (.bool true)=>true
 |_=>false
def Pn (P:aC) [c0 P]:Bool:=
 match c0.ops P with
 |[]=>false
 |p::_=>Pm p.1
def zz (P:aC) [c0 P] (a8:Operand->I) (o:Oper):Option I:=
 match c0.ops P with
 |[]=>none
 |_=>match o.op with
  | .pick c x y=>match s8 P (a8 c) with
    |some t=>some (bif t then a8 x else a8 y)
    |none=>none
  |_=>none
def zA (t:az):eZ->Bool
 | .jw (.int .i64 (.ofNat m))=>Nat.beq m t
 |_=>false
def Dl (P:aC) [c0 P] (o:Oper):Bool:=match c0.ops P with
 |[]=>false
 |l=>match o.op with
  | .makeMap .. =>Pn P
  | .alloc t=>l.any λp=>zA t p.1
  | .box t _=>l.any λp=>zA t p.1
  | .buildSlice t n _=>bif Nat.beq n 0 then false else l.any λp=>zA t p.1
  | .makeSlice t _ _=>l.any λp=>zA t p.1
  |_=>false
def u2 (P:aC) [Lib P] [c0 P] (a8:Operand->I) (A:aD) (o:Oper):Option (mV×aD):=
 match nP P a8 o with
 |some v=>some (.value v,A)
 |none=>match zz P a8 o with
  |some v=>some (.value v,A)
  |none=>bif Dl P o then none else w_ P a8 A o
section
variable {P:aC} {φ:bn} {A aO:aD} {w:aj}
theorem IK {ρ ρ':Operand->I} {o:Oper} {f:eZ} (b9:∀x,ar φ (ρ x) (ρ' x)) (h:lP ρ o=some f) (hp:kR f=true):lP ρ' o=some (qy f):=by
 have e:∀x,aF (ρ x)=true->ρ' x=aK (ρ x):=λx ag=>ar.gW _ ag (b9 x)
 have Dm:∀x:Option Operand,plainO (x.map ρ)=true->x.map ρ'=(x.map ρ).map aK:=λx ag=>by
  cases x with
  |none=>rfl
  |some x=>simp only [Option.map_some];rw[e x ag]
 unfold lP at h ⊢;split at h<;>try (cases h;done)
 all_goals try (simp only [bS] at h;subst h;simp only [kR,b4] at hp)
 ·rw[e _ hp.1,e _ hp.2];rfl
 ·rw[e _ hp];rfl
 ·rw[e _ hp];rfl
 ·rw[e _ hp.1,Dm _ hp.2.1,Dm _ hp.2.2.1,Dm _ hp.2.2.2];rfl
 ·rw[e _ hp.1,e _ hp.2];rfl
 ·rw[e _ hp.1,e _ hp.2];rfl
 ·rw[e _ hp];rfl
 ·rw[e _ hp];rfl
 ·rw[e _ hp];rfl
 ·split at h<;>try (cases h;done)
  all_goals (split at h<;>try (cases h;done))
  all_goals (simp only [bS] at h;subst h;simp only [kR,b4] at hp)
  ·rw[e _ hp];rfl
  ·rw[e _ hp.1,e _ hp.2];rfl
  ·rw[e _ hp.1,e _ hp.2];rfl
 ·rw[e _ hp.1,e _ hp.2];rfl
omit [aX] in
theorem IL {ρ:Operand->I} {o:Oper} {f:eZ} (h:lP ρ o=some f):∃c6 c7,∀P w,(execOp ρ o).run P w=(eO c6 c7 f).run P w:=by
 obtain⟨dst,op,type,pos,after,guard⟩:=o;unfold lP at h;simp only at h;split at h<;>try (cases h;done)
 case h_1 op t x y II=>cases h;exact⟨x,y,λ_ _=>rfl⟩
 case h_10 c=>
  split at h<;>try (cases h;done)
  all_goals (split at h<;>try (cases h;done))
  all_goals (cases h;refine⟨.const undef,.const undef,λP w=> ?_⟩;unfold execOp resolve)
  ·rename_i _ h1 _ _ ad;simp only [h1,ad,List.map_toArray,List.map_cons,List.map_nil];rfl
  ·rename_i _ h1 _ _ _ ad;simp only [h1,ad,List.map_toArray,List.map_cons,List.map_nil];rfl
  ·rename_i _ h1 _ _ _ ad;simp only [h1,ad,List.map_toArray,List.map_cons,List.map_nil];rfl
 all_goals (cases h;exact⟨.const undef,.const undef,λ_ _=>rfl⟩)
theorem Po [c0 P] (cS:lQ P) (hr:bs φ A w) {ρ ρ':Operand->I} {o:Oper} {v:I} (b9:∀x,ar φ (ρ x) (ρ' x)) (h:nP P ρ o=some v):bm (pB (.value v)) P φ A w (execOp ρ' o) A:=by
 unfold nP at h;split at h
 ·cases h
 split at h
 ·rename_i f aB
  have cU:=cS _ (zy h);obtain⟨h1,ad,al⟩:=cU;simp only at h1 ad al;obtain⟨c6,c7,he⟩:=IL (IK b9 aB h1);have eo:(eO c6 c7 (qy f)).run P w= .ok (.value (aK v)) w:=by
   split at al
   ·exact al c6 c7 w
   ·exact al c6 c7 w λi o J=>(hr.eb i o J).1
  exact⟨φ,w,_,(he P w).trans eo,⟨_,rfl,ar.rM φ v ad⟩,bF.refl hr⟩
 ·cases h
theorem zB [c0 P] (cS:lQ P) (w:aj) {v au:I} {b:Bool} (h:s8 P v=some b) (aw:ar φ v au):au= .bool b:=by
 unfold s8 at h;split at h
 ·cases h
 split at h
 ·rename_i b' U
  cases h;obtain⟨h1,ad,al⟩:=cS _ (zy U);have hp:aF v=true:=h1;have bb:=al (.const undef) (.const undef) w;rw[ar.gW v hp aw];have b5:(Result.ok (Next.value (aK v)) w:Result Next)= .ok (.value (aK (.bool b))) w:=bb;simp only [Result.ok.injEq,Next.value.injEq,and_true] at b5;exact b5
 ·cases h
theorem Pp [c0 P] (cS:lQ P) (hr:bs φ A w) {ρ ρ':Operand->I} {o:Oper} {v:I} (b9:∀x,ar φ (ρ x) (ρ' x)) (h:zz P ρ o=some v):bm (pB (.value v)) P φ A w (execOp ρ' o) A:=by
 unfold zz at h;split at h
 ·cases h
 split at h
 ·rename_i c x y ct
  split at h
  ·rename_i t aE
   cases h;have ao:=zB cS w aE (b9 c);refine⟨φ,w,.value (bif t then ρ' x else ρ' y),?_,?_,bF.refl hr⟩
   ·unfold execOp
    rw[ct];simp only [ao];cases t<;>rfl
   ·cases t
    ·exact⟨_,rfl,b9 y⟩
    ·exact⟨_,rfl,b9 x⟩
  ·cases h
 ·cases h
theorem u3 [Lib P] [c0 P] (cS:lQ P) (hr:bs φ A w) {ρ ρ':Operand->I} {o:Oper} {n:mV} (b9:∀x,ar φ (ρ x) (ρ' x)) (h:u2 P ρ A o=some (n,aO)):bm (pB n) P φ A w (execOp ρ' o) aO:=by
 unfold u2 at h;split at h
 ·rename_i v aw
  cases h;exact Po cS hr b9 aw
 split at h
 ·rename_i v aw
  cases h;exact Pp cS hr b9 aw
 ·cases U:Dl P o with
  |true=>rw[U] at h;cases h
  |false=>rw[U,cV] at h;exact IG hr b9 h
theorem u4 [c0 P] (cS:lQ P) {ρ ρ':Operand->I} {o:Oper} {v:I} (b9:∀x,ar φ (ρ x) (ρ' x)) (h:nP P ρ o=some v) (hk:∀f,lP ρ o=some f->u1 f=true):∃au,(∀w,(execOp ρ' o).run P w= .ok (.value au) w)/\ar φ v au:=by
 unfold nP at h;split at h
 ·cases h
 split at h
 ·rename_i f aB
  obtain⟨h1,ad,al⟩:=cS _ (zy h);simp only at h1 ad al;obtain⟨c6,c7,he⟩:=IL (IK b9 aB h1);rw[aR (hk f aB)] at al;exact⟨_,λw=>(he P w).trans (al c6 c7 w),ar.rM φ v ad⟩
 ·cases h
end
end AE
namespace AE
variable [aX]
abbrev bh:=bB I
abbrev Pq:=FuncId->List I->aD->Option (I×aD)
def slot (sl:bh) (t:Nat):I:=
 match sl.get t with
 |some v=>v
 |none=>cC
def dh (gl:bB Nat) (sl:bh):Operand->I
 | .tmp t=>slot sl t
 | .const v=>bif plain v then v else cC
 | .global g=>match gl.get g with
   |some b=> .pointer (some ⟨b,0,none⟩)
   |none=>bP (cP+g)
 | .func f=> .func (.func f) ⟨[]⟩ ⟨[]⟩
def iU (gl:bB Nat) (φ:bn):Prop:=∀g b,gl.get g=some b->∃e,φ b=some e/\e.aU=g/\e.bR=0
structure et (N:Nat) (ds:List Deferred) (φ:bn) (sl:bh) (a:Act):Prop where
 size:a.tmps.size=N
 defers:a.defers=ds
 get:∀t v,sl.get t=some v->ar φ v (a.tmps.getD t undef)
theorem et.mono {N:Nat} {ds:List Deferred} {φ bY:bn} {sl:bh} {a:Act} (h:et N ds φ sl a) (he:∀b e,φ b=some e->bY b=some e):et N ds bY sl a:=
 ⟨h.size,h.defers,λt v aw=>(h.get t v aw).mono he⟩
omit [aX] in
theorem iU.mono {gl:bB Nat} {φ bY:bn} (h:iU gl φ) (he:∀b e,φ b=some e->bY b=some e):iU gl bY:=λg b av=>by
 obtain⟨e,h1,ad⟩:=h g b av;exact⟨e,he _ _ h1,ad⟩
theorem zC {φ:bn} {sl:bh} {au:I} {t:Nat} (h:∀v,sl.get t=some v->ar φ v au):ar φ (slot sl t) au:=by
 unfold slot;cases av:sl.get t with
 |none=>exact .cC _
 |some v=>exact h v av
theorem fy {gl:bB Nat} {φ:bn} {sl:bh} {a:Act} (av:iU gl φ) (hs:∀t v,sl.get t=some v->ar φ v (a.tmps.getD t undef)) (x:Operand):ar φ (dh gl sl x) (a.eval x):=by
 cases x with
 |tmp t=>exact zC (hs t)
 |const v=>
  simp only [dh];cases hp:plain v with
  |true=>exact ar.h5 φ v hp
  |false=>exact .cC _
 |global g=>
  simp only [dh];cases U:gl.get g with
  |none=>
   have h:=ar.sym (φ:=φ) (cP+g);rw[aX.NU g] at h;exact h
  |some b=>
   obtain⟨e,h1,ad,al⟩:=av g b U;have:=ar.ptr (o:=0) h1;rw[ad,al] at this;exact this
 |func f=>exact .func _ _ _ _ (λl h=>by cases h) ae ae (λi h=>absurd h (by simp)) (λi h=>absurd h (by simp))
def hE (N:Nat) (sl:bh) (dst:Option Tmp) (v:I):Option bh:=
 match dst with
 |none=>some sl
 |some d=>bif Nat.blt d N then bB.set v depth sl d else none
theorem et.put {N:Nat} {ds:List Deferred} {φ:bn} {sl cW:bh} {a:Act} {dst:Option Tmp} {v au:I} (h:et N ds φ sl a) (aw:ar φ v au) (hp:hE N sl dst v=some cW):et N ds φ cW (a.put dst au):=by
 unfold hE at hp;cases dst with
 |none=>cases hp;exact h
 |some d=>
  simp only at hp;cases U:Nat.blt d N with
  |false=>rw[U] at hp;cases hp
  |true=>
   rw[U,a7] at hp;have aM:d<N:=Nat.blt_eq.mp U;refine⟨by simp [Act.put,h.size],h.defers,λt u hu=> ?_⟩;rw[bB.jY _ _ _ _ _ t hp] at hu;have bt:=h.size;by_cases aE:t=d
   ·subst aE
    rw[aR rfl] at hu;cases hu;simp only [Act.put,dD];rw[Array.getElem?_setIfInBounds_self_of_lt (Nat.lt_of_lt_of_eq aM bt.symm)];exact aw
   ·rw[aW aE] at hu
    have:=h.get t u hu;simp only [Act.put,dD] at this ⊢;rw[Array.getElem?_setIfInBounds_ne (Ne.symm aE)];exact this
def lR (ops:Array Oper) (o:Oper) (sl:bh):Option Bool:=
 match o.guard with
 |none=>some true
 |some (j,want)=>match (ops[j]?).bind (·.dst) with
  |none=>some false
  |some t=>match sl.get t with
   |some (.bool b)=>some (b==want)
   |some (.tuple ⟨[]⟩)=>some false
   |_=>none
theorem lf {φ:bn} {ops:Array Oper} {o:Oper} {sl:bh} {a:Act} {r:Bool} (hs:∀t v,sl.get t=some v->ar φ v (a.tmps.getD t undef)) (h:lR ops o sl=some r):Region.wanted o (yielded ops a.tmps)=r:=by
 unfold lR at h;unfold Region.wanted;split at h
 ·rename_i av
  cases h;rw[av]
 ·rename_i j want av
  rw[av];simp only;unfold yielded;split at h
  ·rename_i aH
   cases h;rw[aH];simp
  ·rename_i t aH
   rw[aH];simp only [Option.bind_some];split at h
   ·rename_i b U
    have aw:=hs t _ U;cases h;rw[dD] at aw;cases aE:a.tmps[t]? with
    |none=>rw[aE] at aw;simp [undef] at aw;cases aw
    |some u=>
     rw[aE] at aw;simp only [Option.getD_some] at aw;cases aw;cases b<;>cases want<;>rfl
   ·rename_i U
    have aw:=hs t _ U;cases h;rw[dD] at aw;cases aE:a.tmps[t]? with
    |none=>simp
    |some u=>
     rw[aE] at aw;simp only [Option.getD_some] at aw;cases aw;simp
   ·cases h
def Dn (P:aC) [c0 P] (ops:Array Oper) (o:Oper) (sl:bh):Option Bool:=
 match lR ops o sl with
 |some b=>some b
 |none=>match o.guard with
  |none=>none
  |some (j,want)=>match (ops[j]?).bind (·.dst) with
   |none=>none
   |some t=>match sl.get t with
    |some v=>(s8 P v).map (· ==want)
    |none=>none
theorem IM {P:aC} [c0 P] (cS:lQ P) (w:aj) {φ:bn} {ops:Array Oper} {o:Oper} {sl:bh} {a:Act} {r:Bool} (hs:∀t v,sl.get t=some v->ar φ v (a.tmps.getD t undef)) (h:Dn P ops o sl=some r):Region.wanted o (yielded ops a.tmps)=r:=by
 unfold Dn at h;split at h
 ·rename_i b U
  cases h;exact lf hs U
 ·split at h
  ·cases h
  ·rename_i j want av
   split at h
   ·cases h
   ·rename_i t aH
    split at h
    ·rename_i v aw
     rw[ru] at h;obtain⟨b,U,rfl⟩:=h;have cK:=zB cS w U (hs t v aw);unfold Region.wanted;rw[av];simp only;unfold yielded;rw[aH];simp only [Option.bind_some];rw[dD] at cK;cases aE:a.tmps[t]? with
     |none=>rw[aE] at cK;simp [undef] at cK
     |some u=>
      rw[aE] at cK;simp only [Option.getD_some] at cK;subst cK;cases b<;>cases want<;>rfl
    ·cases h
structure gm where
 call:Pq
 round:Nat->List I->aD->Option (I×aD)
def rO (φ:bn) (A:aD) (w:aj) (v:I) (aO:aD):Ending->aj->Prop
 | .returned au,w'=>∃bY,ar bY v au/\bF φ A w bY aO w'
 |_,_=>False
def Fr (r:Option Nat):Fence:={Fence.wide with round:=r}
omit [aX] in
theorem xc {r:Option Nat} {n:Nat} {P:aC} {f:FuncId} {args:Array I} {w:aj} {R:Ending->aj->Prop} (h:Calls P f args w R):CallsIn (Fr r) n P f args w R:=by
 have gD:CallsIn Fence.wide n P f args w R:=callsIn_wide.2 h;exact gD
structure iI (P:aC) [c0 P] (gl:bB Nat) (C:gm):Prop where
 facts:lQ P
 call:∀(f:FuncId) (args:List I) (A:aD) (v:I) (aO:aD) (φ:bn) (w:aj) (ec:Array I),C.call f args A=some (v,aO)->bs φ A w->iU gl φ->fk args φ ec->
  Calls P f ec w (rO φ A w v aO)
 round:∀(b:Nat) (args:List I) (A:aD) (v:I) (aO:aD) (φ:bn) (w:aj) (ec:Array I) (e:fj) (k:fq) (dL:sJ) (r:Loop),C.round b args A=some (v,aO)->bs φ A w->iU gl φ->fk args φ ec->
  φ b=some e->A.bl.get b=some k->k.obj= .dE (.loop dL)->w.heap[e.aU]? =some (.loop r)->mg φ (.loop dL) (.loop r)->ec.size=r.params.size/\
  RoundIn Fence.wide 0 P e.aU r.fn ((r.params.zip ec).foldl (λtmps (t,a)=>tmps.setIfInBounds t a) r.tmps) r.assign r.body w (rO φ A w v aO)
def yieldOf (a8:Operand->I) (o:Oper):Option (Nat×List I):=
 match o.op with
 | .call c=>match c.callee with
   | .value f=>match a8 f with
     | .func (.yield b) ⟨[]⟩ ⟨[]⟩=>some (b,c.args.toList.map a8)
     |_=>none
   |_=>none
 |_=>none
def xd (A:aD) (b:Nat):Bool:=
 match A.bl.get b with
 |some k=>match k.obj with
  | .dE (.loop _)=>true
  |_=>false
 |none=>false
def pD (P:aC) [Lib P] [c0 P] (C:gm) (gl:bB Nat) (ops:Array Oper) (o:Oper) (sl:bh) (A:aD):Option (I×aD):=
 match Dn P ops o sl with
 |none=>none
 |some false=>some (undef,A)
 |some true=>match yieldOf (dh gl sl) o with
  |some (b,args)=>bif xd A b then C.round b args A else none
  |none=>match u2 P (dh gl sl) A o with
   |some (.value v,aY)=>some (v,aY)
   |some (.skip,aY)=>some (undef,aY)
   |some (.enter f args,aY)=>C.call f args aY
   |none=>none
def pE (P:aC) [Lib P] [c0 P] (C:gm) (gl:bB Nat) (N:Nat) (ops:Array Oper) (o:Oper) (sl:bh) (A:aD):Option (bh×aD):=
 match pD P C gl ops o sl A with
 |some (v,aY)=>match hE N sl o.dst v with
  |some c8=>some (c8,aY)
  |none=>none
 |none=>none
omit [aX] in
theorem Dp {P:aC} [Lib P] [c0 P] {C:gm} {gl:bB Nat} {N:Nat} {ops:Array Oper} {o:Oper} {sl cW:bh} {A aO:aD} (h:pE P C gl N ops o sl A=some (cW,aO)):
  ∃v,pD P C gl ops o sl A=some (v,aO)/\hE N sl o.dst v=some cW:=by
 unfold pE at h;split at h
 ·rename_i v aY aw
  split at h
  ·rename_i c8 hp
   cases h;exact⟨v,aw,hp⟩
  ·cases h
 ·cases h
section
variable {P:aC} [Lib P] [c0 P] {C:gm} {gl:bB Nat} {φ:bn} {A aO:aD} {w:aj} {a:Act}
omit [aX] in
theorem zD {ρ:Operand->I} {o:Oper} {r:mV×aD} (h:u2 P ρ A o=some r) (c:Call):o.op≠.defer c:=by
 intro ao;unfold u2 at h;split at h
 ·rename_i v aw
  unfold nP at aw;split at aw
  ·cases aw
  ·unfold lP at aw
   rw[ao] at aw;cases aw
 split at h
 ·rename_i v aw
  unfold zz at aw;split at aw
  ·cases aw
  ·rw[ao] at aw
   cases aw
 ·cases U:Dl P o with
  |true=>rw[U] at h;cases h
  |false=>
   rw[U,cV] at h;unfold w_ at h;rw[ao] at h;cases h
omit [aX] in
omit [Lib P] [c0 P] in
theorem Pr {ρ:Operand->I} {o:Oper} {r:Nat×List I} (h:yieldOf ρ o=some r) (c:Call):o.op≠.defer c:=by
 intro ao;unfold yieldOf at h;rw[ao] at h;cases h
omit [Lib P] [c0 P] in
theorem IN (hr:bs φ A w) {ρ ρ':Operand->I} {o:Oper} {b:Nat} {args:List I} (b9:∀x,ar φ (ρ x) (ρ' x)) (h:yieldOf ρ o=some (b,args)) (hl:xd A b=true):
  ∃e k dL r ec,φ b=some e/\A.bl.get b=some k/\k.obj= .dE (.loop dL)/\w.heap[e.aU]? =some (.loop r)/\mg φ (.loop dL) (.loop r)/\fk args φ ec/\
   (ec.size=r.params.size->(execOp ρ' o).run P w= .ok (.round e.aU r.fn ((r.params.zip ec).foldl (λtmps (t,a)=>tmps.setIfInBounds t a) r.tmps) r.assign r.body) w):=by
 unfold yieldOf at h;split at h
 ·rename_i c ct
  split at h
  ·rename_i f ow
   split at h
   ·rename_i b' aB
    simp only [bS,Prod.mk.injEq] at h;obtain⟨rfl,rfl⟩:=h;have aw:=b9 f;rw[aB] at aw;have Ps:∃e,φ b'=some e/\ρ' f= .func (.yield e.aU) #[] #[]:=by
     generalize ρ' f=u at aw;cases aw with
     |nw h=>exact⟨_,h,rfl⟩
     |func _ _ _ _ ah=>exact absurd rfl (ah _)
    obtain⟨e,he,jF⟩:=Ps;unfold xd at hl;split at hl
    ·rename_i k hk
     split at hl
     ·rename_i dL dQ
      obtain⟨k',cc,_,ax⟩:=hr.c5 b' e he;rw[hk] at cc;cases cc;unfold dZ at ax;simp only [dQ] at ax;obtain⟨_,o',h1,ad⟩:=ax;obtain⟨r,rfl,lL⟩:=id ad;refine⟨e,k,dL,r,c.args.map ρ',he,hk,dQ,h1,ad,fk.map λx _=>b9 x,λbt=> ?_⟩;unfold execOp;rw[ct];simp only;refine cb (a:={target:= .fn (.yield e.aU) #[],args:= #[]++c.args.map ρ'}) (by unfold resolve;rw[ow];simp only [jF];rfl) ?_;simp only [Array.empty_append];show (Instr.yield e.aU (c.args.map ρ')).run P w=_;unfold Instr.yield Instr.getLoop;refine ck (a:=r) (w1:=w) (by
       refine ck (a:= .loop r) (w1:=w) (mo h1 (λ_ _ _ h=>by cases h)) rfl) ?_
      rw[aW (λch=>ch bt)];rfl
     ·cases hl
    ·cases hl
   ·cases h
  ·cases h
 ·cases h
theorem zE (b1:iI P gl C) (hr:bs φ A w) (av:iU gl φ) {ro:Option Nat} {ops:Array Oper} {o:Oper} {sl:bh} {v:I} (hs:∀t v,sl.get t=some v->ar φ v (a.tmps.getD t undef)) (h:pD P C gl ops o sl A=some (v,aO))
  {K:Act->aj->Prop} {Q:Exit->Act->aj->Prop} (c4:∀bY au w',ar bY v au->bF φ A w bY aO w'->K (a.put o.dst au) w'):
  if Region.wanted o (yielded ops a.tmps) then o.wpIn (Fr ro) 0 P a w K Q else (∀f,o.about P w a.eval=some f->(Fr ro).fn f)/\K (a.put o.dst undef) w:=by
 unfold pD at h;split at h
 ·cases h
 ·rename_i hw
  rw[IM b1.facts w hs hw];cases h;exact⟨λ_ _=>trivial,c4 φ undef w (ar.rz φ) (bF.refl hr)⟩
 ·rename_i hw
  rw[IM b1.facts w hs hw,aR rfl];refine⟨λ_ _=>trivial,?_⟩;split at h
  ·rename_i b args aT
   cases hl:xd A b with
   |false=>rw[hl] at h;cases h
   |true=>
    rw[hl,a7] at h;obtain⟨e,k,dL,r,ec,he,hk,dQ,kK,s9,eY,eo⟩:=IN (P:=P) hr (fy av hs) aT hl;obtain⟨bt,Dq⟩:=b1.round b args A v aO φ w ec e k dL r h hr av eY he hk dQ kK s9;rw[Oper.semAt_eq _ _ _ (Pr aT),eo bt,Oper.uponIn_round];refine⟨λh=>absurd h (by simp [Fr,Fence.wide]),?_⟩;have Pt:RoundIn (Fr ro) (0-1) P e.aU r.fn ((r.params.zip ec).foldl (λtmps (t,a)=>tmps.setIfInBounds t a) r.tmps) r.assign r.body w (rO φ A w v aO):=Dq;refine RoundIn.mono Pt λen cQ ox=> ?_
    cases en with
    |returned au=>
     obtain⟨dF,h1,ad⟩:=ox;exact c4 dF au cQ h1 ad
    |panicked zF=>exact ox.elim
    |outgrown=>exact ox.elim
  ·split at h
   ·rename_i v1 aY ha
    cases h;obtain⟨eE,w1,n,g1,g2,b6⟩:=u3 b1.facts hr (fy av hs) ha;rw[Oper.semAt_eq _ _ _ (zD ha),g1];obtain⟨au,rfl,aw⟩:=g2;exact c4 eE au w1 aw b6
   ·rename_i aY ha
    cases h;obtain⟨eE,w1,n,g1,g2,b6⟩:=u3 b1.facts hr (fy av hs) ha;rw[Oper.semAt_eq _ _ _ (zD ha),g1];cases g2;exact c4 eE undef w1 (ar.rz eE) b6
   ·rename_i f args aY ha
    obtain⟨eE,w1,n,g1,g2,b6⟩:=u3 b1.facts hr (fy av hs) ha;rw[Oper.semAt_eq _ _ _ (zD ha),g1];obtain⟨ec,rfl,eY⟩:=g2;rw[Oper.uponIn_enter];refine⟨λh=>absurd h (by simp [Fr,Fence.wide]),?_⟩;refine CallsIn.mono (xc (b1.call f args aY v aO eE w1 ec h b6.rel (av.mono (b6.ext hr)) eY)) λe cQ he=> ?_
    cases e with
    |returned au=>
     obtain⟨dF,h1,ad⟩:=he;exact c4 dF au cQ h1 (bF.trans hr b6 ad)
    |panicked zF=>exact he.elim
    |outgrown=>exact he.elim
   ·cases h
def pF (P:aC) [Lib P] [c0 P] (C:gm) (gl:bB Nat) (N:Nat) (ops:Array Oper):List Oper->bh->aD->Option (bh×aD)
 |[],sl,A=>some (sl,A)
 |o::r,sl,A=>match pE P C gl N ops o sl A with
  |some (c8,aY)=>pF P C gl N ops r c8 aY
  |none=>none
theorem Dr (b1:iI P gl C) {ro:Option Nat} {N:Nat} {ds:List Deferred} {ops:Array Oper} {Q:Exit->Act->aj->Prop}:∀(l:List Oper) (sl cW:bh) (A aO:aD) (φ:bn) (w:aj) (a:Act),bs φ A w->iU gl φ->et N ds φ sl a->pF P C gl N ops l sl A=some (cW,aO)->
  (∀bY aL w',et N ds bY cW aL->bF φ A w bY aO w'->Q .normal aL w')->wpListIn (Fr ro) 0 P ops Q l a w
 |[],sl,cW,A,aO,φ,w,a,hr,av,hs,h,b2=>by
  cases h;exact b2 φ a w hs (bF.refl hr)
 |o::r,sl,cW,A,aO,φ,w,a,hr,av,hs,h,b2=>by
  unfold pF at h;split at h
  ·rename_i c8 aY cd
   obtain⟨v,aw,hp⟩:=Dp cd;unfold wpListIn;refine zE b1 hr av hs.get aw λbY au w' qv kQ=> ?_
   exact Dr b1 r c8 cW aY aO bY w' (a.put o.dst au) kQ.rel (av.mono (kQ.ext hr)) ((hs.mono (kQ.ext hr)).put qv hp) h λdF a2 cQ h1 ad=>b2 dF a2 cQ h1 (bF.trans hr kQ ad)
  ·cases h
end
end AE
section
section
variable {P:aC} {ops:Array Oper}
def e5 (ops:Array Oper) (j:Nat):Option Tmp:=(ops[j]?).bind (·.dst)
def needs (ops:Array Oper) (m:Nat) (o:Oper):List Nat:=(List.range m).filter λj=>match e5 ops j with
 |some d=>(o.looksAt ops).contains d
 |none=>false
def direct (ops:Array Oper) (i j:Nat):Bool:=match ops[i]? with
 |some o=>o.after.any λe=>Region.binds .any e&&e.on==j
 |none=>false
theorem Act.size_put (a:Act) (d:Option Tmp) (v:I):(a.put d v).tmps.size=a.tmps.size:=by cases d<;>simp [Act.put]
theorem Act.zG (a:Act) (d:Option Tmp) (v:I):(a.put d v).defers=a.defers:=by cases d<;>rfl
theorem Act.oy (a:Act) (d:Option Tmp) (v:I) (t:Nat) (aE:t<a.tmps.size):(a.put d v).tmps.getD t undef=if d=some t then v else a.tmps.getD t undef:=by
 cases d with
 |none=>simp [Act.put]
 |some d=>
  simp only [Act.put,bS,dD,Array.getElem?_setIfInBounds];by_cases h:d=t
  ·subst h;simp [aE]
  ·simp [h]
structure Xj (ops:Array Oper) (m:Nat) (bL:aj->aj->Prop) (Pu:Nat->I->aj->Prop) (IP:Nat->Bool) (a0:Act) (w0:aj) (listed:Array Bool) (a:Act) (w:aj):Prop where
 size:listed.size=ops.size
 down:∀i j,listed.getD i false=true->direct ops i j=true->listed.getD j false=true
 qz:∀i,m<=i->listed.getD i false=false
 defers:a.defers=a0.defers
 lg:a.tmps.size=a0.tmps.size
 g:bL w0 w
 other:∀t,(∀i,i<m->listed.getD i false=true->e5 ops i≠some t)->a.tmps.getD t undef=a0.tmps.getD t undef
 post:∀i t,i<m->listed.getD i false=true->e5 ops i=some t->Pu i (a.tmps.getD t undef) w
 Xk:∀i j t u b o s b' o' dp,i<m->j<m->i≠j->listed.getD i false=true->listed.getD j false=true->IP i=true->IP j=true->e5 ops i=some t->e5 ops j=some u->
  a.tmps.getD t undef= .pointer (some ⟨b,o,s⟩)->a.tmps.getD u undef= .pointer (some ⟨b',o',dp⟩)->b≠b'
theorem u5 {listed:Array Bool} {i:Nat} (h:i∈Region.ready .any ops listed):∀k,direct ops i k=true->listed.getD k false=true:=by
 intro k hk;obtain⟨_,o,ax,h6⟩:=mem_ready.1 h;simp only [direct,ax] at hk;obtain⟨e,he,U⟩:=Array.any_eq_true'.1 hk;simp only [b4,beq_iff_eq] at U;exact U.2▸h6 e he U.1
def qA (listed:Array Bool):Nat:=listed.toList.count false
theorem IQ:∀(l:List Bool) (i:Nat),l[i]? =some false->(l.set i true).count false+1=l.count false
 |[],i,h=>by simp at h
 |b::r,0,h=>by simp at h;subst h;simp
 |b::r,i+1,h=>by
  have:=IQ r i (by simpa using h);simp only [List.set_cons_succ,List.count_cons];omega
theorem xe {listed:Array Bool} {i:Nat} (J:i<listed.size) (h:listed.getD i true=false):qA (listed.setIfInBounds i true)+1=qA listed:=by
 unfold qA;rw[Array.toList_setIfInBounds];refine IQ _ _ ?_;have:listed[i]? =some listed[i]:=Array.getElem?_eq_getElem J;simp only [dD,this,Option.getD_some] at h;rw[Array.getElem?_toList,this,h]
theorem pG {listed:Array Bool} {i:Nat} (h:i<listed.size):listed.getD i true=listed.getD i false:=by
 simp [dD,h]
end
end
namespace AE
variable [aX]
def iV (N:Nat) (ops:Array Oper) (kq:Nat->I):List Nat->bh->Option bh
 |[],sl=>some sl
 |j::r,sl=>match hE N sl (e5 ops j) (kq j) with
  |some s=>iV N ops kq r s
  |none=>none
omit [aX] in
theorem oz {N:Nat} {ops:Array Oper} {kq:Nat->I}:∀(dI:List Nat) (sl cW:bh),iV N ops kq dI sl=some cW->∀t v,cW.get t=some v->
  (∃j∈dI,e5 ops j=some t/\v=kq j)\/((∀j∈dI,e5 ops j≠some t)/\sl.get t=some v)
 |[],sl,cW,h,t,v,aw=>by
  cases h;exact .inr ⟨λj hj=>absurd hj (by simp),aw⟩
 |j::r,sl,cW,h,t,v,aw=>by
  unfold iV at h;split at h
  ·rename_i s hs
   rcases oz r s cW h t v aw with ⟨k,hk,aH,rP⟩|⟨ah,av⟩
   ·exact .inl ⟨k,List.mem_cons_of_mem _ hk,aH,rP⟩
   ·unfold hE at hs
    cases aH:e5 ops j with
    |none=>
     rw[aH] at hs;cases hs;refine .inr ⟨λk hk=> ?_,av⟩;rcases List.mem_cons.1 hk with rfl|hk
     ·rw[aH];simp
     ·exact ah k hk
    |some d=>
     rw[aH] at hs;simp only at hs;cases U:Nat.blt d N with
     |false=>rw[U] at hs;cases hs
     |true=>
      rw[U,a7] at hs;rw[bB.jY _ _ _ _ _ t hs] at av;by_cases Ds:t=d
      ·subst Ds
       rw[aR rfl] at av;cases av;exact .inl ⟨j,List.mem_cons_self,aH,rfl⟩
      ·rw[aW Ds] at av
       refine .inr ⟨λk hk=> ?_,av⟩;rcases List.mem_cons.1 hk with rfl|hk
       ·rw[aH];simp;exact λh=>Ds h.symm
       ·exact ah k hk
  ·cases h
def s' (o:Oper):Bool:=
 (match o.guard with|none=>true|some _=>false)&&
 match o.op with
 | .move _| .assign _| .binOp .. | .unOp .. | .fieldAddr .. | .indexAddr .. =>true
 |_=>false
def qB (P:aC) [c0 P] (a8:Operand->I) (o:Oper):Option I:=
 match o.op with
 | .move x| .assign x=>some (a8 x)
 | .binOp op t x y _=>match nP P a8 o with
   |some v=>some v
   |none=>bif plain (a8 x)&&plain (a8 y) then nN P (do eqGuard op t x y (a8 x) (a8 y);binOp op t (a8 x) (a8 y)) else none
 | .unOp op _ x=>match nP P a8 o with
   |some v=>some v
   |none=>bif plain (a8 x) then nN P (Op.unary op (a8 x)) else none
 | .fieldAddr s x f=>match nP P a8 o with
   |some v=>some v
   |none=>wQ P s f (a8 x)
 | .indexAddr t x i=>match nP P a8 o with
   |some v=>some v
   |none=>bif plain (a8 i) then wR P t (a8 x) (a8 i) else none
 |_=>none
theorem zH {P:aC} [c0 P] (cS:lQ P) {φ:bn} {ρ ρ':Operand->I} {o:Oper} {v:I} (b9:∀x,ar φ (ρ x) (ρ' x)) (h:qB P ρ o=some v):∃au,(∀w,(execOp ρ' o).run P w= .ok (.value au) w)/\ar φ v au:=by
 have fin:∀{s:Sem I},nN P s=some v->∃au,(∀w,(do pure (Next.value (<-s)):Sem Next).run P w= .ok (.value au) w)/\ar φ v au:=by
  intro s hs;unfold nN at hs;split at hs
  ·rename_i u hu
   cases hp:plain u with
   |false=>rw[hp] at hs;cases hs
   |true=>
    rw[hp,a7,bS] at hs;subst hs;exact⟨u,λw=>f' (by rw[mR,hu];rfl) w,ar.h5 φ u hp⟩
  ·cases hs
 unfold qB at h;unfold execOp;split at h
 ·rename_i x ct
  cases h;rw[ct];exact⟨_,λ_=>rfl,b9 x⟩
 ·rename_i x ct
  cases h;rw[ct];exact⟨_,λ_=>rfl,b9 x⟩
 ·rename_i op t x y II ct
  split at h
  ·rename_i u hu
   cases h;have:=u4 cS b9 hu λf aB=>by
    unfold lP at aB;rw[ct] at aB;cases aB;rfl
   unfold execOp at this;exact this
  ·cases hp:plain (ρ x) with
   |false=>rw[hp] at h;cases h
   |true=>
    cases aA:plain (ρ y) with
    |false=>rw[hp,aA] at h;cases h
    |true=>
     rw[hp,aA] at h;rw[ct];simp only;rw[ar.h8 _ hp (b9 x),ar.h8 _ aA (b9 y)];exact fin h
 ·rename_i op t x ct
  split at h
  ·rename_i u hu
   cases h;have:=u4 cS b9 hu λf aB=>by
    unfold lP at aB;rw[ct] at aB;cases aB;rfl
   unfold execOp at this;exact this
  ·cases hp:plain (ρ x) with
   |false=>rw[hp] at h;cases h
   |true=>
    rw[hp] at h;rw[ct];simp only;rw[ar.h8 _ hp (b9 x)];exact fin h
 ·rename_i s x f ct
  split at h
  ·rename_i u hu
   cases h;have:=u4 cS b9 hu λf aB=>by
    unfold lP at aB;rw[ct] at aB;cases aB;rfl
   unfold execOp at this;exact this
  ·obtain⟨au,h1,ad⟩:=HO (b9 x) h
   rw[ct];exact⟨au,λw=>by simp only [Sem.run_bind,h1 w,Result.andThen_ok];rfl,ad⟩
 ·rename_i t x i ct
  split at h
  ·rename_i u hu
   cases h;have:=u4 cS b9 hu λf aB=>by
    unfold lP at aB;rw[ct] at aB;cases aB;rfl
   unfold execOp at this;exact this
  ·cases hp:plain (ρ i) with
   |false=>rw[hp] at h;cases h
   |true=>
    rw[hp] at h;obtain⟨au,h1,ad⟩:=HP (b9 x) h;rw[ct];simp only;rw[ar.h8 _ hp (b9 i)];exact⟨au,λw=>by simp only [Sem.run_bind,h1 w,Result.andThen_ok];rfl,ad⟩
 ·cases h
def Dt (ops:Array Oper):List Oper->Nat->Array Bool->List Nat
 |[],_,_=>[]
 |o::r,i,listed=>bif s' o&&((Region.ready .any ops listed).contains i&&Region.free .any ops listed i) then i::Dt ops r (i+1) (listed.setIfInBounds i true) else Dt ops r (i+1) listed
def oA (ops:Array Oper):List Nat:=Dt ops ops.toList 0 (Array.replicate ops.size false)
def pH (ops:Array Oper):List Nat->Array Bool->Bool
 |[],_=>true
 |i::r,listed=>((Region.ready .any ops listed).contains i&&Region.free .any ops listed i)&&((match ops[i]? with|some o=>s' o|none=>false)&&pH ops r (listed.setIfInBounds i true))
def s_ (o:Oper) (masks:List Nat) (m0:Nat):Nat:=o.after.toList.foldl (λacc e=>bif Region.binds .any e then Nat.lor acc (Nat.lor (Nat.shiftLeft 1 e.on) (masks.getD e.on 0)) else acc) m0
def pI:List Oper->List Nat->List Nat
 |[],ms=>ms
 |o::r,ms=>pI r (ms++[s_ o ms 0])
def u6 (ops:Array Oper):List Nat:=pI ops.toList []
def zI (ms:List Nat) (i j:Nat):Bool:=(ms.getD i 0).testBit j
def Du (ops:Array Oper) (i j:Nat):Prop:=∀listed:Array Bool,(∀i j,listed.getD i false=true->direct ops i j=true->listed.getD j false=true)->(∀k,direct ops i k=true->listed.getD k false=true)->listed.getD j false=true
omit [aX] in
theorem IS {masks:List Nat} {j:Nat}:∀(l:List Edge) (m0:Nat),(l.foldl (λacc e=>bif Region.binds .any e then Nat.lor acc (Nat.lor (Nat.shiftLeft 1 e.on) (masks.getD e.on 0)) else acc) m0).testBit j=true->m0.testBit j=true\/∃e∈l,Region.binds .any e=true/\(e.on=j\/(masks.getD e.on 0).testBit j=true)
 |[],m0,h=> .inl h
 |e::r,m0,h=>by
  simp only [List.foldl_cons] at h;rcases IS r _ h with h|⟨e',lN,gD⟩
  ·cases U:Region.binds .any e with
   |false=>rw[U] at h;exact .inl h
   |true=>
    rw[U,a7] at h;have ad:(m0 ||| ((1 <<< e.on) ||| masks.getD e.on 0)).testBit j=true:=h;rw[Nat.testBit_or,Nat.testBit_or,Nat.one_shiftLeft,Nat.testBit_two_pow] at ad;simp only [Bool.or_eq_true,decide_eq_true_eq] at ad;rcases ad with ad|ad
    ·exact .inl ad
    ·exact .inr ⟨e,List.mem_cons_self,U,ad⟩
  ·exact .inr ⟨e',List.mem_cons_of_mem _ lN,gD⟩
omit [aX] in
theorem IT:∀(l:List Oper) (ms:List Nat),(pI l ms).take ms.length=ms/\∀i o,l[i]? =some o->(pI l ms).getD (ms.length+i) 0=s_ o ((pI l ms).take (ms.length+i)) 0
 |[],ms=>⟨by simp [pI],λi o h=>by simp at h⟩
 |o::r,ms=>by
  obtain⟨h1,ad⟩:=IT r (ms++[s_ o ms 0]);have hm:pI (o::r) ms=pI r (ms++[s_ o ms 0]):=rfl;rw[hm];have al:(pI r (ms++[s_ o ms 0])).take ms.length=ms:=by
   have:=congrArg (List.take ms.length) h1;rw[List.take_take] at this;simpa using this
  refine⟨al,λi o' J=> ?_⟩;cases i with
  |zero=>
   simp only [List.getElem?_cons_zero,bS] at J;subst J;rw[Nat.add_zero,al];have:=congrArg (λl=>l[ms.length]?) h1;simp only [List.getElem?_take,List.length_append,List.length_cons,List.length_nil] at this;rw[aR af] at this;rw[de,this];simp
  |succ i=>
   simp only [List.getElem?_cons_succ] at J;have:=ad i o' J;simp only [List.length_append,List.length_cons,List.length_nil] at this;rw[show ms.length+(i+1)=ms.length+(0+1)+i by omega];exact this
omit [aX] in
theorem Pv {ops:Array Oper}:∀(i:Nat),i<ops.size->∀j,zI (u6 ops) i j=true->Du ops i j:=by
 intro i
 induction i using Nat.strongRecOn with
 |_ i bI=>
  intro J j h listed down IU;have ax:ops.toList[i]? =some ops[i]:=by rw[Array.getElem?_toList];exact Array.getElem?_eq_getElem J
  have hs:=(IT ops.toList []).2 i _ ax;simp only [List.length_nil,Nat.zero_add] at hs;unfold zI u6 at h;rw[hs] at h;unfold s_ at h;rcases IS _ _ h with h|⟨e,he,U,h⟩
  ·simp at h
  ·have aH:direct ops i e.on=true:=by
    unfold direct;rw[Array.getElem?_eq_getElem J];simp only;exact Array.any_eq_true'.2 ⟨e,by simpa using he,by simp [U]⟩
   rcases h with rfl|h
   ·exact IU _ aH
   ·rcases Nat.lt_or_ge e.on i with aM|hV
    ·have av:((pI ops.toList []).take i).getD e.on 0=(u6 ops).getD e.on 0:=by
      unfold u6;rw[de,List.getElem?_take,aR aM,de]
     rw[av] at h;exact bI e.on aM af j h listed down λk hk=>down e.on k (IU _ aH) hk
    ·rw[de,List.getElem?_take,aW af] at h
     simp at h
def qC (ops:Array Oper) (L:List Nat) (m N:Nat):Bool:=
 decide (m<=ops.size)&&Region.noSelect ops&&
 ((List.range m).all λi=>(List.range m).all λj=>i==j||e5 ops i==none||e5 ops i !=e5 ops j)&&
 ((List.range m).all λi=>match e5 ops i with|some d=>decide (d<N)|none=>true)&&
 ((List.range m).all λi=>match ops[i]? with|some o=>(needs ops m o).all (direct ops i ·)|none=>false)&&
 ((List.range ops.size).all λi=>match ops[i]? with|some o=>o.after.all (λe=> !Region.binds .any e||decide (e.on<i))|none=>false)&&
 ((List.range ops.size).all λi=>decide (i<m)||(List.range i).all λj=>(L.contains j&&decide (j<m))||zI (u6 ops) i j)
omit [aX] in
theorem zJ {ops:Array Oper} {L:List Nat} {m N:Nat} (h:qC ops L m N=true):m<=ops.size/\Region.noSelect ops=true/\
  (∀i j,i<m->j<m->i≠j->∀t,e5 ops i=some t->e5 ops j≠some t)/\(∀i t,i<m->e5 ops i=some t->t<N)/\
  (∀i o,i<m->ops[i]? =some o->∀j∈needs ops m o,direct ops i j=true)/\(∀i j,i<ops.size->direct ops i j=true->j<i)/\
  (∀i j,i<ops.size->m<=i->j<i->(j∈L/\j<m)\/Du ops i j):=by
 simp only [qC,b4,decide_eq_true_eq,List.all_eq_true,List.mem_range] at h;obtain⟨⟨⟨⟨⟨⟨h1,ad⟩,al⟩,bb⟩,b5⟩,cE⟩,fC⟩:=h;refine⟨h1,ad,?_,?_,?_,?_,?_⟩
 ·intro i j J hj ch t aE Pw
  have:=al i J j hj;simp [ch,aE,Pw] at this
 ·intro i t J aE
  have:=bb i J;simpa [aE] using this
 ·intro i o J ax j hj
  have:=b5 i J;simp only [ax,List.all_eq_true] at this;exact this j hj
 ·intro i j J aH
  have:=cE i J;unfold direct at aH;have ax:ops[i]? =some ops[i]:=Array.getElem?_eq_getElem J;simp only [ax] at this aH;obtain⟨e,he,U⟩:=Array.any_eq_true'.1 aH;simp only [b4,beq_iff_eq] at U;have gD:=Array.all_eq_true_iff_forall_mem.1 this e he;simp only [U.1,Bool.not_true,Bool.false_or,decide_eq_true_eq] at gD;exact U.2▸gD
 ·intro i j J hm hj
  have:=fC i J;simp only [Bool.or_eq_true,decide_eq_true_eq,List.all_eq_true,List.mem_range,b4] at this;have:=this.resolve_left af j hj;rcases this with h|h
  ·exact .inl (by simpa using h)
  ·exact .inr (Pv i J j h)
def Dv (m0:Nat):List Oper->Nat->List Nat->Nat->Nat
 |[],_,_,m=>m
 |o::r,i,masks,m=>let p:=s_ o masks (Nat.land m0 (Nat.shiftLeft 1 i-1));Dv m0 r (i+1) (masks++[p]) (bif Nat.beq p (Nat.shiftLeft 1 i-1) then m else i+1)
def IV (L:List Nat):Nat:=L.foldl (λa i=>Nat.lor a (Nat.shiftLeft 1 i)) 0
def Dw (ops:Array Oper) (N:Nat) (eJ:Bool):Option (List Nat×Nat):=
 let gn:=bif eJ then [] else oA ops
 let m:=Dv (IV gn) ops.toList 0 [] 0
 let L:=gn.filter λi=>Nat.blt i m
 bif qC ops L m N&&pH ops L (Array.replicate ops.size false) then some (L,m) else none
def u7 (P:aC) [Lib P] [c0 P] (C:gm) (gl:bB Nat) (N:Nat) (ops:Array Oper) (L:List Nat) (m:Nat) (dv:bh):List Oper->Nat->List I->aD->Option (List I×aD)
 |[],_,vs,A=>some (vs,A)
 |o::r,i,vs,A=>match iV N ops (λj=>vs.getD j cC) (needs ops m o) dv with
  |some sl=>bif L.contains i then
    match qB P (dh gl sl) o with
    |some v=>u7 P C gl N ops L m dv r (i+1) (vs++[v]) A
    |none=>none
   else match pD P C gl ops o sl {A with low:=A.n} with
    |some (v,aY)=>bif Nat.ble A.n aY.low then u7 P C gl N ops L m dv r (i+1) (vs++[v]) {aY with low:=A.low} else none
    |none=>none
  |none=>none
def zK (P:aC) [Lib P] [c0 P] (C:gm) (gl:bB Nat) (N:Nat) (eJ:Bool) (ops:Array Oper) (sl:bh) (A:aD):Option (bh×aD×List Oper):=
 match Dw ops N eJ with
 |some (L,m)=>match iV N ops (λ_=>cC) (List.range m) sl with
  |some dv=>match u7 P C gl N ops L m dv (ops.toList.take m) 0 [] A with
   |some (vs,aY)=>bif Nat.ble aY.n dead then
     match iV N ops (λj=>vs.getD j cC) (List.range m) dv with
     |some c8=>some (c8,aY,ops.toList.drop m)
     |none=>none
    else none
   |none=>none
  |none=>none
 |none=>none
def Dx (P:aC) [Lib P] [c0 P] (C:gm) (gl:bB Nat) (N:Nat) (eJ:Bool) (ops:Array Oper) (sl:bh) (A:aD):Option (bh×aD):=
 match zK P C gl N eJ ops sl A with
 |some (c8,aY,r)=>pF P C gl N ops r c8 aY
 |none=>none
def u9 (P:aC) [Lib P] [c0 P] (C:gm) (gl:bB Nat) (N:Nat) (ops:Array Oper) (L:List Nat) (m:Nat) (dv:bh) (i:Nat) (o:Oper) (Px:List I) (v:I) (A aO:aD):Prop:=
 ∃sl,iV N ops (λj=>Px.getD j cC) (needs ops m o) dv=some sl/\
  ((i∈L/\qB P (dh gl sl) o=some v/\aO=A)\/(i∉L/\∃aY,pD P C gl ops o sl {A with low:=A.n}=some (v,aY)/\A.n<=aY.low/\aO={aY with low:=A.low}))
section
variable {P:aC} [Lib P] [c0 P] {C:gm} {gl:bB Nat} {N:Nat} {ops:Array Oper} {L:List Nat} {m:Nat} {dv:bh}
omit [aX] in
theorem IW:∀(l:List Oper) (i0:Nat) (vs dH:List I) (A aO:aD),vs.length=i0->u7 P C gl N ops L m dv l i0 vs A=some (dH,aO)->
  ∃(B:Nat->aD),B 0=A/\B l.length=aO/\dH.length=vs.length+l.length/\dH.take vs.length=vs/\
   ∀i o,l[i]? =some o->u9 P C gl N ops L m dv (i0+i) o (dH.take (vs.length+i)) (dH.getD (vs.length+i) cC) (B i) (B (i+1))
 |[],i0,vs,dH,A,aO,_,h=>by
  cases h;exact⟨λ_=>A,rfl,rfl,by simp,by simp,λi o J=>by simp at J⟩
 |o::r,i0,vs,dH,A,aO,zL,h=>by
  unfold u7 at h;split at h
  ·rename_i sl ij
   have go:∀(v:I) (dP:aD),((i0∈L/\qB P (dh gl sl) o=some v/\dP=A)\/(i0∉L/\∃aY,pD P C gl ops o sl {A with low:=A.n}=some (v,aY)/\A.n<=aY.low/\dP={aY with low:=A.low}))->
     u7 P C gl N ops L m dv r (i0+1) (vs++[v]) dP=some (dH,aO)->
     ∃(B:Nat->aD),B 0=A/\B (o::r).length=aO/\dH.length=vs.length+(o::r).length/\dH.take vs.length=vs/\
      ∀i o',(o::r)[i]? =some o'->u9 P C gl N ops L m dv (i0+i) o' (dH.take (vs.length+i)) (dH.getD (vs.length+i) cC) (B i) (B (i+1)):=by
    intro v dP Py h;obtain⟨B,h0,h1,ad,al,bb⟩:=IW r (i0+1) (vs++[v]) dH _ aO (by simp [zL]) h;have hlen:(vs++[v]).length=vs.length+1:=by simp
    rw[hlen] at ad al;have ta:dH.take vs.length=vs:=by
     have:=congrArg (List.take vs.length) al;rw[List.take_take,Nat.min_eq_left af] at this;simpa using this
    refine⟨λi=>match i with|0=>A|i+1=>B i,rfl,?_,by simp;omega,ta,?_⟩
    ·simpa using h1
    ·intro i o' J
     match i with
     |0=>
      simp only [List.getElem?_cons_zero,bS] at J;subst J;simp only [Nat.add_zero];rw[ta];have eU:dH.getD vs.length cC=v:=by
       have:=congrArg (λl=>l[vs.length]?) al;simp at this;rw[de,this];rfl
      rw[eU];refine⟨sl,ij,?_⟩;show (_/\_/\B 0=A)\/_;rw[h0];exact Py
     |i+1=>
      have:=bb i o' (by simpa using J);rw[hlen] at this;rw[show vs.length+(i+1)=vs.length+1+i by omega,show i0+(i+1)=i0+1+i by omega];exact this
   cases ao:L.contains i0 with
   |true=>
    rw[ao,a7] at h;split at h
    ·rename_i v aw
     exact go v A (.inl ⟨by simpa using ao,aw,rfl⟩) h
    ·cases h
   |false=>
    rw[ao,cV] at h;split at h
    ·rename_i v aY aw
     cases U:Nat.ble A.n aY.low with
     |false=>rw[U] at h;cases h
     |true=>
      rw[U,a7] at h;exact go v _ (.inr ⟨by simpa using ao,aY,aw,Nat.ble_eq.mp U,rfl⟩) h
    ·cases h
  ·cases h
theorem bs.lower {φ:bn} {A:aD} {w:aj} (h:bs φ A w) (x:Nat):bs φ {A with low:=x} w:=⟨⟨h.wf.lt,h.wf.nx,h.wf.mem,h.wf.od⟩,h.c5,h.apart,h.along,h.eb⟩
theorem Pz {φ:bn} {A aO:aD} {w:aj} (b1:iI P gl C) (hr:bs φ A w) (av:iU gl φ) {o:Oper} {sl:bh} {v:I} (hs:∀t v,sl.get t=some v->∃au,ar φ v au) (h:pD P C gl ops o sl A=some (v,aO)):
  ∃bY au w',ar bY v au/\bF φ A w bY aO w':=by
 have mX:∀x:Operand,∃au,ar φ (dh gl sl x) au:=by
  intro x;cases x with
  |tmp t=>
   show ∃au,ar φ (slot sl t) au;unfold slot;cases zM:sl.get t with
   |none=>exact⟨undef,.cC _⟩
   |some v=>exact hs t v zM
  |const v=>exact⟨_,fy (sl:= .nil) (a:=⟨#[],[]⟩) av (λt v h=>by cases h) (.const v)⟩
  |global g=>exact⟨_,fy (sl:= .nil) (a:=⟨#[],[]⟩) av (λt v h=>by cases h) (.global g)⟩
  |func f=>exact⟨_,fy (sl:= .nil) (a:=⟨#[],[]⟩) av (λt v h=>by cases h) (.func f)⟩
 obtain⟨ρ',b9⟩:=Classical.axiomOfChoice mX;unfold pD at h;split at h
 ·cases h
 ·cases h
  exact⟨φ,undef,w,ar.rz φ,bF.refl hr⟩
 ·split at h
  ·rename_i b args aT
   cases hl:xd A b with
   |false=>rw[hl] at h;cases h
   |true=>
    rw[hl,a7] at h;obtain⟨e,k,dL,r,ec,he,hk,dQ,kK,s9,eY,eo⟩:=IN (P:=P) hr b9 aT hl;obtain⟨bt,Dq⟩:=b1.round b args A v aO φ w ec e k dL r h hr av eY he hk dQ kK s9;obtain⟨en,cQ,ox,_⟩:=Dq.2 default [] (room_wide _);cases en with
    |returned au=>
     obtain⟨dF,h1,ad⟩:=ox;exact⟨dF,au,cQ,h1,ad⟩
    |panicked zF=>exact ox.elim
    |outgrown=>exact ox.elim
  ·split at h
   ·rename_i v1 aY ha
    cases h;obtain⟨eE,w1,n,g1,g2,b6⟩:=u3 b1.facts hr b9 ha;obtain⟨au,_,aw⟩:=g2;exact⟨eE,au,w1,aw,b6⟩
   ·rename_i aY ha
    cases h;obtain⟨eE,w1,n,g1,g2,b6⟩:=u3 b1.facts hr b9 ha;exact⟨eE,undef,w1,ar.rz eE,b6⟩
   ·rename_i f args aY ha
    obtain⟨eE,w1,n,g1,g2,b6⟩:=u3 b1.facts hr b9 ha;obtain⟨ec,_,eY⟩:=g2;obtain⟨e,cQ,fr,he,_⟩:=b1.call f args aY v aO eE w1 ec h b6.rel (av.mono (b6.ext hr)) eY [];cases e with
    |returned au=>
     obtain⟨dF,h1,ad⟩:=he;exact⟨dF,au,cQ,h1,bF.trans hr b6 ad⟩
    |panicked zF=>exact he.elim
    |outgrown=>exact he.elim
   ·cases h
structure kr (dC:bn) (B:Nat->aD) (vs:List I) (m:Nat):Prop where
 zN:∀i,i<m->(B i).n<=(B (i+1)).n
 same:∀i b,i<m->b<(B i).n->(B (i+1)).bl.get b=(B i).bl.get b
 PA:∀i,i<m->(B (i+1)).low=(B i).low
 ex:∀i,i<=m->∃φ w,bs φ (B i) w/\(∀b,b<(B 0).n->φ b=dC b)/\(∀b,(B 0).n<=b->b<(B i).n->φ b≠none)/\∀j,j<i->∃au,ar φ (vs.getD j cC) au
theorem PB {dC:bn} {A:aD} {w0:aj} {B:Nat->aD} {vs:List I} {jH:bh} (b1:iI P gl C) (hr:bs dC A w0) (av:iU gl dC) (dw:B 0=A) (IX:m<=ops.size)
  (hs:∀t v,jH.get t=some v->∃au,ar dC v au) (fm:iV N ops (λ_=>cC) (List.range m) jH=some dv)
  (qm:∀i o,i<m->ops[i]? =some o->∀j∈needs ops m o,j<i)
  (hl:∀i o,i<m->ops[i]? =some o->u9 P C gl N ops L m dv i o (vs.take i) (vs.getD i cC) (B i) (B (i+1))):kr dC B vs m:=by
 have step:∀i,i<m->(∃φ w,bs φ (B i) w/\(∀b,b<(B 0).n->φ b=dC b)/\(∀b,(B 0).n<=b->b<(B i).n->φ b≠none)/\(B 0).n<=(B i).n/\∀j,j<i->∃au,ar φ (vs.getD j cC) au)->
   ((B i).n<=(B (i+1)).n/\(∀b,b<(B i).n->(B (i+1)).bl.get b=(B i).bl.get b)/\(B (i+1)).low=(B i).low)/\
   (∃φ w,bs φ (B (i+1)) w/\(∀b,b<(B 0).n->φ b=dC b)/\(∀b,(B 0).n<=b->b<(B (i+1)).n->φ b≠none)/\(B 0).n<=(B (i+1)).n/\∀j,j<i+1->∃au,ar φ (vs.getD j cC) au):=by
  rintro i J ⟨φ,w,h1,ad,al,bb,b5⟩;have ax:ops[i]? =some (ops[i]'(by omega)):=Array.getElem?_eq_getElem _;obtain⟨sl,ij,pJ⟩:=hl i _ J ax;have mY:∀b e,dC b=some e->φ b=some e:=λb e U=>by
   rw[ad b (by rw[dw];exact hr.lt U)];exact U
  have u_:∀t v,sl.get t=some v->∃au,ar φ v au:=by
   intro t v oB;rcases oz _ _ _ ij t v oB with ⟨j,hj,aH,rfl⟩|⟨_,xf⟩
   ·have gv:=qm i _ J ax j hj
    obtain⟨au,j3⟩:=b5 j gv;refine⟨au,?_⟩;have:(vs.take i).getD j cC=vs.getD j cC:=by
     simp only [de,List.getElem?_take,aR gv]
    rw[this];exact j3
   ·rcases oz _ _ _ fm t v xf with ⟨j,hj,aH,rfl⟩|⟨_,tc⟩
    ·exact⟨undef,.cC _⟩
    ·obtain⟨au,j3⟩:=hs t v tc
     exact⟨au,j3.mono mY⟩
  rcases pJ with ⟨_,ou,PC⟩|⟨_,aY,aw,po,oC⟩
  ·rw[PC]
   refine⟨⟨bM _,λ_ _=>rfl,rfl⟩,φ,w,h1,ad,al,bb,λj hj=> ?_⟩;rcases Nat.lt_or_ge j i with aM|hV
   ·exact b5 j aM
   ·have:j=i:=by omega
    subst this;have mX:∀x:Operand,∃au,ar φ (dh gl sl x) au:=by
     intro x;cases x with
     |tmp t=>
      show ∃au,ar φ (slot sl t) au;unfold slot;cases zM:sl.get t with
      |none=>exact⟨undef,.cC _⟩
      |some v=>exact u_ t v zM
     |const v=>exact⟨_,fy (sl:= .nil) (a:=⟨#[],[]⟩) (av.mono mY) (λt v h=>by cases h) (.const v)⟩
     |global g=>exact⟨_,fy (sl:= .nil) (a:=⟨#[],[]⟩) (av.mono mY) (λt v h=>by cases h) (.global g)⟩
     |func f=>exact⟨_,fy (sl:= .nil) (a:=⟨#[],[]⟩) (av.mono mY) (λt v h=>by cases h) (.func f)⟩
    obtain⟨ρ',b9⟩:=Classical.axiomOfChoice mX;obtain⟨au,_,j3⟩:=zH b1.facts b9 ou;exact⟨au,j3⟩
  obtain⟨bY,au,w',g1,g2⟩:=Pz b1 (h1.lower (B i).n) (av.mono mY) u_ aw;have ah:(B i).n<=aY.n:=g2.k6;rw[oC];refine⟨⟨ah,λb U=>g2.same b U (by show b<aY.low;omega),rfl⟩,bY,w',g2.rel.lower _,λb U=> ?_,λb U cK=> ?_,by simp only;omega,λj hj=> ?_⟩
  ·rw[g2.c5 b (by show b<(B i).n;omega),ad b U]
  ·rcases Nat.lt_or_ge b (B i).n with aM|hV
   ·rw[g2.c5 b aM];exact al b U aM
   ·exact g2.mh b hV cK
  ·rcases Nat.lt_or_ge j i with aM|hV
   ·obtain⟨u,hu⟩:=b5 j aM
    exact⟨u,hu.mono (g2.ext (h1.lower _))⟩
   ·have:j=i:=by omega
    subst this;exact⟨au,g1⟩
 have all:∀i,i<=m->(∃φ w,bs φ (B i) w/\(∀b,b<(B 0).n->φ b=dC b)/\(∀b,(B 0).n<=b->b<(B i).n->φ b≠none)/\(B 0).n<=(B i).n/\∀j,j<i->∃au,ar φ (vs.getD j cC) au):=by
  intro i
  induction i with
  |zero=>exact λ_=>⟨dC,w0,by rw[dw];exact hr,λ_ _=>rfl,λb h1 ad=>by omega,bM _,λj hj=>by omega⟩
  |succ i bI=>exact λJ=>(step i af (bI af)).2
 refine⟨λi J=>(step i J (all i af)).1.1,λi b J U=>(step i J (all i af)).1.2.1 b U,λi J=>(step i J (all i af)).1.2.2,λi J=> ?_⟩;obtain⟨φ,w,h1,ad,al,_,b5⟩:=all i J;exact⟨φ,w,h1,ad,al,b5⟩
theorem kr.mZ {dC:bn} {B:Nat->aD} {vs:List I} (h:kr dC B vs m):∀{i j:Nat},i<=j->j<=m->(B i).n<=(B j).n:=by
 intro i j hY
 induction hY with
 |refl=>exact λ_=>bM _
 |step hk bI=>exact λhm=>Nat.le_trans (bI af) (h.zN _ af)
theorem kr.pK {dC:bn} {B:Nat->aD} {vs:List I} (h:kr dC B vs m):∀{i j:Nat},i<=j->j<=m->∀b,b<(B i).n->(B j).bl.get b=(B i).bl.get b:=by
 intro i j hY
 induction hY with
 |refl=>exact λ_ _ _=>rfl
 |step hk bI=>exact λhm b U=>by rw[h.same _ b af (Nat.lt_of_lt_of_le U (h.mZ hk af)),bI af b U]
theorem kr.PD {dC:bn} {B:Nat->aD} {vs:List I} (h:kr dC B vs m):∀{j:Nat},j<=m->(B j).low=(B 0).low:=by
 intro j
 induction j with
 |zero=>exact λ_=>rfl
 |succ j bI=>exact λhm=>by rw[h.PA j af,bI af]
def own (B:Nat->aD) (j b:Nat):Prop:=(B j).n<=b/\b<(B (j+1)).n
theorem kr.IY {dC:bn} {B:Nat->aD} {vs:List I} (h:kr dC B vs m) {i j b:Nat} (J:i<m) (hj:j<m) (h1:own B i b) (ad:own B j b):i=j:=by
 unfold own at h1 ad;rcases Nat.lt_trichotomy i j with aM|heq|zM
 ·have:=h.mZ (i:=i+1) (j:=j) af af;omega
 ·exact heq
 ·have:=h.mZ (i:=j+1) (j:=i) af af;omega
theorem kr.IZ {dC:bn} {B:Nat->aD} {vs:List I} (PE:kr dC B vs m) {b:Nat}:∀{k:Nat},k<=m->(B 0).n<=b->b<(B k).n->∃j,j<k/\own B j b
 |0,_,h1,ad=>by omega
 |k+1,hk,h1,ad=>by
  rcases Nat.lt_or_ge b (B k).n with aM|hV
  ·obtain⟨j,hj,ax⟩:=kr.IZ PE (k:=k) af h1 aM
   exact⟨j,af,ax⟩
  ·exact⟨k,af,hV,ad⟩
def restrict (φ:bn) (n:Nat):bn:=λb=>if b<n then φ b else none
theorem ar.restrict {φ ψ:bn} {n:Nat} {v au:I} (aH:∀b e,φ b=some e->b≠dead) (mr:∀b e,ψ b=some e->b<n) (h:ar φ v au):∀u,ar ψ v u->ar (AE.restrict φ n) v au:=by
 have iJ:∀{b e},φ b=some e->b<n->AE.restrict φ n b=some e:=λh1 ad=>by unfold AE.restrict;rw[aR ad];exact h1
 induction h with
 |cC au=>exact λ_ _=> .cC au
 |sym k=>exact λ_ _=> .sym k
 |bool b=>exact λ_ _=> .bool b
 |int k i=>exact λ_ _=> .int k i
 |float k b=>exact λ_ _=> .float k b
 |string s=>exact λ_ _=> .string s
 |ry=>exact λ_ _=> .ry
 |ptr h=>
   intro u hu;cases hu with
   |ptr ad=>exact .ptr (iJ h (mr _ _ ad))
 |slnil l c=>exact λ_ _=> .slnil l c
 |gi aL h=>exact λ_ _=> .gi aL h
 |fS dS c h=>
   intro u hu;cases hu with
   |fS _ _ ad=>exact .fS dS c (iJ h (mr _ _ ad))
   |fT _ _ c' ad _ _ _=>exact .fS dS c (iJ h (mr _ _ ad))
   |gi aL ad=>exact absurd rfl (aH _ _ h)
 |fT dS c c' h hs ao hl=>
   intro u hu;cases hu with
   |fS _ _ ad=>exact .fT dS c c' (iJ h (mr _ _ ad)) hs ao hl
   |fT _ _ c' ad _ _ _=>exact .fT dS c _ (iJ h (mr _ _ ad)) hs ao hl
   |gi aL ad=>exact absurd rfl (aH _ _ h)
 |sK=>exact λ_ _=> .sK
 |map h=>
   intro u hu;cases hu with
   |map ad=>exact .map (iJ h (mr _ _ ad))
 |chan=>exact λ_ _=> .chan
 |func fs hI cs cs' ah h1 ad aB ao mK mL=>
   intro u hu;cases hu with
   |func _ _ _ _ _ _ _ g1 g2=>exact .func fs hI cs cs' ah h1 ad (λi J=>mK i J _ (g1 i J)) (λi J=>mL i J _ (g2 i J))
   |nw ad=>exact absurd rfl (ah _)
 |nw h=>
   intro u hu;cases hu with
   |nw ad=>exact .nw (iJ h (mr _ _ ad))
   |func _ _ _ _ ah=>exact absurd rfl (ah _)
 |nilFunc=>exact λ_ _=> .nilFunc
 |nilIface=>exact λ_ _=> .nilIface
 |iface t h bI=>
   intro u hu;cases hu with
   |iface _ g=>exact .iface t (bI _ g)
 |agg cs cs' h1 h bI=>
   intro u hu;cases hu with
   |agg _ _ _ g=>exact .agg cs cs' h1 λi J=>bI i J _ (g i J)
 |tuple cs cs' h1 h bI=>
   intro u hu;cases hu with
   |tuple _ _ _ g=>exact .tuple cs cs' h1 λi J=>bI i J _ (g i J)
theorem dZ.restrict {φ ψ:bn} {n:Nat} {w w':aj} {e e':fj} {k:fq} (aH:∀b e,φ b=some e->b≠dead) (mr:∀b e,ψ b=some e->b<n) (h:dZ φ w e k) (gD:dZ ψ w' e' k):dZ (AE.restrict φ n) w e k:=by
 unfold dZ at*
 cases hk:k.obj with
 |cells c=>
  simp only [hk] at h gD ⊢;obtain⟨c',gV,h1,ad,al,bb,b5⟩:=h;obtain⟨iS,zo,g1,g2,b6,g4,ih⟩:=gD;exact⟨c',gV,h1,ad,al,λj hj=>(bb j hj).restrict aH mr _ (g4 j hj),b5⟩
 |map es cl=>
  simp only [hk] at h gD ⊢;obtain⟨cj,h1,ad,al⟩:=h;obtain⟨hI,g1,g2,b6⟩:=gD;refine⟨cj,h1,ad,λj a b ha U=> ?_⟩;obtain⟨q1,aJ,cg,dn⟩:=al j a b ha U;have hj:j<es.length:=(List.getElem?_eq_some_iff.1 ha).1;obtain⟨_,_,eR,_⟩:=b6 j a (hI[j]'(by omega)) ha (Array.getElem?_eq_getElem _);exact⟨q1,aJ,cg.restrict aH mr _ eR,dn⟩
 |dE x=>
  simp only [hk] at h gD ⊢;obtain⟨h0,cZ,h1,ad⟩:=h;obtain⟨_,du,g1,g2⟩:=gD;refine⟨h0,cZ,h1,?_⟩;cases x with
  |qe s p=>exact ad
  |deferred=>exact ad
  |gone=>exact ad
  |loop l=>
   obtain⟨r,iR,q1,aJ,cg,dn,fe,iH,⟨zO,nK,eP⟩,td⟩:=ad;obtain⟨cR,uU,fl,gb,pL,rQ,va,zP,⟨qD,xg,PF⟩,PG⟩:=g2;refine⟨r,iR,q1,aJ,cg,dn,fe,iH,⟨zO,?_,eP⟩,λt v aw=>(td t v aw).restrict aH mr _ (PG t v aw)⟩;unfold AE.restrict;rw[aR (mr _ _ xg)];exact nK
end
end AE
end Go.Proofs.YtmfckpdcljjdjaaDoor
