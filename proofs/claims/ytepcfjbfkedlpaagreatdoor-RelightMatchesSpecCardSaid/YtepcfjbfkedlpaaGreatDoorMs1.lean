/- Parts of the proof. -/
import Derived.WalkKit
import Derived.Orders
import Derived.IntWalk
import Derived.CallsIn
import Derived.OrdersIn
import Derived.RangeFuncIn
import Derived.RangeFuncCalls
import Derived.RangeFuncLeaves
import Derived.TacticsIn
set_option maxRecDepth 100000
set_option maxHeartbeats 4000000
namespace Go.Proofs.YtepcfjbfkedlpaaGreatDoor
open Go
section
theorem aj {p:Prop} (h:p:=by omega):p:=h
theorem ct {p:Prop} (h:p:=by assumption):p:=h
theorem ck {p:Prop} (h:p:=by decide):p:=h
theorem az {p:Prop} (h:p:=by kernel_rfl):p:=h
theorem U.{u} {α:Sort u} {a:α}:a=a:=rfl
abbrev aI:= @if_pos
abbrev aG:= @if_neg
abbrev kF:= @decide_eq_true
abbrev fD:= @decide_eq_false
abbrev c_:= @List.getD_eq_getElem?_getD
abbrev cq:= @Nat.eq_of_beq_eq_true
abbrev fy:= @List.getElem?_eq_getElem
abbrev hQ:= @Nat.le_of_ble_eq_true
abbrev cz:= @Option.some.injEq
abbrev al1:= @List.getElem?_eq_some_iff
abbrev eO:= @Array.getD_eq_getD_getElem?
abbrev bs:= @cond_true
abbrev bL:= @Nat.le_refl
abbrev cV:= @Bool.and_eq_true
abbrev dZ:= @cond_false
abbrev xD:= @Option.map_eq_some_iff
abbrev kX:= @List.length_replicate
abbrev J:=Go.Value
abbrev ao:=Go.World
abbrev aQ:=Go.Program
abbrev aK:=Go.TypeId
namespace AE
inductive bW (α:Type) where
 |nil
 |node (v:Option α) (l r:bW α)
def bW.get {α:Type}:bW α->Nat->Option α
 | .nil,_=>none
 | .node v l r,i=>bif i==0 then v else bif i%2==1 then l.get (i/2) else r.get (i/2-1)
def bW.set {α:Type} (x:α):Nat->bW α->Nat->Option (bW α)
 |0,_,_=>none
 |f+1,.nil,i=>bif i==0 then some (.node (some x) .nil .nil) else bif i%2==1 then (bW.set x f .nil (i/2)).map (.node none · .nil) else (bW.set x f .nil (i/2-1)).map (.node none .nil ·)
 |f+1,.node v l r,i=>bif i==0 then some (.node (some x) l r) else bif i%2==1 then (bW.set x f l (i/2)).map (.node v · r) else (bW.set x f r (i/2-1)).map (.node v l ·)
theorem bW.nB {α:Type} (x:α):∀(f:Nat) (t c7:bW α) (i j:Nat),bW.set x f t i=some c7->c7.get j=if j=i then some x else t.get j
 |0,_,_,_,_,h=>by simp [bW.set] at h
 |f+1,.nil,c7,i,j,h=>by
  unfold bW.set at h;by_cases af:i=0
  ·subst af
   simp only [beq_self_eq_true,bs,cz] at h;subst h;by_cases hj:j=0
   ·simp [hj,bW.get]
   ·have gh:(j==0)=false:=by simpa using hj
    by_cases hm:j%2=1<;>simp [hj,gh,bW.get,hm]
  ·have kl:(i==0)=false:=by simpa using af
   rw[kl,dZ] at h;by_cases hm:i%2=1
   ·rw[show (i%2==1)=true by simpa using hm,bs] at h
    obtain⟨u,hu,rfl⟩:=Option.map_eq_some_iff.1 h;have b9:=bW.nB x f .nil u (i/2) (j/2) hu;by_cases hj:j=0
    ·subst hj;simp [bW.get,Ne.symm af]
    ·simp only [bW.get,show (j==0)=false by simpa using hj,dZ]
     by_cases qt:j%2=1
     ·rw[show (j%2==1)=true by simpa using qt,bs,b9]
      by_cases he:j=i
      ·simp [he]
      ·rw[aG he,aG aj];rfl
     ·rw[show (j%2==1)=false by simpa using qt,dZ,aG aj]
   ·rw[show (i%2==1)=false by simpa using hm,dZ] at h
    obtain⟨u,hu,rfl⟩:=Option.map_eq_some_iff.1 h;have b9:=bW.nB x f .nil u (i/2-1) (j/2-1) hu;by_cases hj:j=0
    ·subst hj;simp [bW.get,Ne.symm af]
    ·simp only [bW.get,show (j==0)=false by simpa using hj,dZ]
     by_cases qt:j%2=1
     ·rw[show (j%2==1)=true by simpa using qt,bs,aG aj]
     ·rw[show (j%2==1)=false by simpa using qt,dZ,b9]
      by_cases he:j=i
      ·simp [he]
      ·rw[aG he,aG aj];rfl
 |f+1,.node v l r,c7,i,j,h=>by
  unfold bW.set at h;by_cases af:i=0
  ·subst af
   simp only [beq_self_eq_true,bs,cz] at h;subst h;by_cases hj:j=0
   ·simp [hj,bW.get]
   ·have gh:(j==0)=false:=by simpa using hj
    simp [hj,gh,bW.get]
  ·have kl:(i==0)=false:=by simpa using af
   rw[kl,dZ] at h;by_cases hm:i%2=1
   ·rw[show (i%2==1)=true by simpa using hm,bs] at h
    obtain⟨u,hu,rfl⟩:=Option.map_eq_some_iff.1 h;have b9:=bW.nB x f l u (i/2) (j/2) hu;by_cases hj:j=0
    ·subst hj;simp [bW.get,Ne.symm af]
    ·simp only [bW.get,show (j==0)=false by simpa using hj,dZ]
     by_cases qt:j%2=1
     ·rw[show (j%2==1)=true by simpa using qt,bs,bs,b9]
      by_cases he:j=i
      ·simp [he]
      ·rw[aG he,aG aj]
     ·rw[show (j%2==1)=false by simpa using qt,dZ,dZ,aG aj]
   ·rw[show (i%2==1)=false by simpa using hm,dZ] at h
    obtain⟨u,hu,rfl⟩:=Option.map_eq_some_iff.1 h;have b9:=bW.nB x f r u (i/2-1) (j/2-1) hu;by_cases hj:j=0
    ·subst hj;simp [bW.get,Ne.symm af]
    ·simp only [bW.get,show (j==0)=false by simpa using hj,dZ]
     by_cases qt:j%2=1
     ·rw[show (j%2==1)=true by simpa using qt,bs,bs,aG aj]
     ·rw[show (j%2==1)=false by simpa using qt,dZ,dZ,b9]
      by_cases he:j=i
      ·simp [he]
      ·rw[aG he,aG aj]
def dead:Nat:=1099511627776
def cL:J:= .complex .f32 77 77
structure jn where
 key:J
 val:J
 born:Nat
def d_:Nat:=1000000
class a6 where
 σ:Nat->J
 one:∀k,(∀cs,σ k≠.agg cs/\σ k≠.tuple cs)
 dL:Nat->Option Obj
 aa1:∀g,σ (d_+g)= .pointer (some ⟨g,0,none⟩)
def aq (k:Nat):J:= .complex .f64 k 0
structure y7 where
 state:LoopState
 pending:Option Code
 sl:bW J
 N:Nat
 params:List Tmp
 assign:Code
 body:Code
 Dd:Nat
inductive Bc where
 |vR (s:ByteArray) (pos:Nat)
 |deferred
 |gone
 |loop (l:y7)
inductive pJ where
 |cells (c:List J)
 |map (es:List jn) (al2:Nat)
 |fz (x:Bc)
structure hf where
 obj:pJ
 cD:Nat
 pos:Nat
 ei:Nat
 ro:Bool
 ty:aK
structure aW where
 bl:bW hf
 n:Nat
 mem:bW (List Nat)
 low:Nat
structure gP where
 bd:Nat
 sh:Nat
 ei:Nat
 y8:Nat
abbrev bM:=Nat->Option gP
mutual
def plain:J->Bool
 | .bool _| .int .. | .float .. | .string _| .pointer none| .map none| .chan none| .nilFunc| .nilIface=>true
 | .slice none l c=>l==0&&c==0
 | .func (.func _) ⟨[]⟩ ⟨[]⟩=>true
 | .iface _ v=>plain v
 | .agg ⟨l⟩=>n9 l
 | .tuple ⟨l⟩=>n9 l
 |_=>false
def n9:List J->Bool
 |[]=>true
 |v::r=>plain v&&n9 r
end
variable [a6]
inductive aD (φ:bM):J->J->Prop where
 |cL (aC:J):aD φ cL aC
 |sym (k:Nat):aD φ (aq k) (a6.σ k)
 |bool (b:Bool):aD φ (.bool b) (.bool b)
 |int (k:IntKind) (n:Int):aD φ (.int k n) (.int k n)
 |float (k:FloatKind) (b:Nat):aD φ (.float k b) (.float k b)
 |string (s:ByteArray):aD φ (.string s) (.string s)
 |xE:aD φ (.pointer none) (.pointer none)
 |ptr {b o:Nat} {e:gP} (h:φ b=some e):aD φ (.pointer (some ⟨b,o,none⟩)) (.pointer (some ⟨e.bd,e.sh+o,none⟩))
 |slnil (l c:Nat):aD φ (.slice none l c) (.slice none l c)
 |h7 {o c':Nat} (aR:Addr) (h:o=0->c'=0):aD φ (.slice (some ⟨dead,o,none⟩) 0 0) (.slice (some aR) 0 c')
 |hR {b o:Nat} {e:gP} (n c:Nat) (h:φ b=some e):aD φ (.slice (some ⟨b,o,none⟩) n c) (.slice (some ⟨e.bd,e.sh+o,none⟩) n c)
 |hS {b o:Nat} {e:gP} (n c c':Nat) (h:φ b=some e) (hs:1<=e.ei) (ai:c<=c') (hl:e.sh+o+c'*e.ei<=e.y8):aD φ (.slice (some ⟨b,o,none⟩) n c) (.slice (some ⟨e.bd,e.sh+o,none⟩) n c')
 |y9:aD φ (.map none) (.map none)
 |map {b:Nat} {e:gP} (h:φ b=some e):aD φ (.map (some b)) (.map (some e.bd))
 |chan:aD φ (.chan none) (.chan none)
 |func {fn:Fn} (fs jI cs cs':Array J) (ak:∀l,fn≠.yield l) (h1:fs.size=jI.size) (ae:cs.size=cs'.size) (aO:∀i,i<fs.size->aD φ (fs.getD i undef) (jI.getD i undef)) (ai:∀i,i<cs.size->aD φ (cs.getD i undef) (cs'.getD i undef)):aD φ (.func fn fs cs) (.func fn jI cs')
 |sb {b:Nat} {e:gP} (h:φ b=some e):aD φ (.func (.yield b) #[] #[]) (.func (.yield e.bd) #[] #[])
 |nilFunc:aD φ .nilFunc .nilFunc
 |nilIface:aD φ .nilIface .nilIface
 |iface (t:aK) {v aC:J} (h:aD φ v aC):aD φ (.iface t v) (.iface t aC)
 |agg (cs cs':Array J) (h1:cs.size=cs'.size) (h:∀i,i<cs.size->aD φ (cs.getD i undef) (cs'.getD i undef)):aD φ (.agg cs) (.agg cs')
 |tuple (cs cs':Array J) (h1:cs.size=cs'.size) (h:∀i,i<cs.size->aD φ (cs.getD i undef) (cs'.getD i undef)):aD φ (.tuple cs) (.tuple cs')
theorem aD.xF (φ:bM):aD φ undef undef:= .tuple _ _ rfl λi h=>absurd h (by simp)
theorem aD.mono {φ cP:bM} (hg:∀b e,φ b=some e->cP b=some e) {v aC:J} (h:aD φ v aC):aD cP v aC:=by
 induction h with
 |cL aC=>exact .cL aC
 |sym k=>exact .sym k
 |bool b=>exact .bool b
 |int k n=>exact .int k n
 |float k b=>exact .float k b
 |string s=>exact .string s
 |xE=>exact .xE
 |ptr h=>exact .ptr (hg _ _ h)
 |slnil l c=>exact .slnil l c
 |h7 aR h=>exact .h7 aR h
 |hR n c h=>exact .hR n c (hg _ _ h)
 |hS n c c' h hs ai hl=>exact .hS n c c' (hg _ _ h) hs ai hl
 |y9=>exact .y9
 |map h=>exact .map (hg _ _ h)
 |chan=>exact .chan
 |func fs jI cs cs' ak h1 ae _ _ rf rh=>exact .func fs jI cs cs' ak h1 ae rf rh
 |sb h=>exact .sb (hg _ _ h)
 |nilFunc=>exact .nilFunc
 |nilIface=>exact .nilIface
 |iface t _ b9=>exact .iface t b9
 |agg cs cs' h1 _ b9=>exact .agg cs cs' h1 b9
 |tuple cs cs' h1 _ b9=>exact .tuple cs cs' h1 b9
mutual
theorem aD.j8 (φ:bM):∀v:J,plain v=true->aD φ v v
 | .bool b,_=> .bool b
 | .int k n,_=> .int k n
 | .float k b,_=> .float k b
 | .string s,_=> .string s
 | .pointer none,_=> .xE
 | .map none,_=> .y9
 | .chan none,_=> .chan
 | .nilFunc,_=> .nilFunc
 | .nilIface,_=> .nilIface
 | .slice none l c,_=> .slnil l c
 | .func (.func f) ⟨[]⟩ ⟨[]⟩,_=> .func _ _ _ _ (λl h=>by cases h) U U (λi h=>absurd h (by simp)) (λi h=>absurd h (by simp))
 | .iface t v,h=> .iface t (aD.j8 φ v (by simpa [plain] using h))
 | .agg ⟨l⟩,h=> .agg _ _ rfl λi af=>by
     have:=aD.Kk φ l (by simpa [plain] using h) i af;simpa using this
 | .tuple ⟨l⟩,h=> .tuple _ _ rfl λi af=>by
     have:=aD.Kk φ l (by simpa [plain] using h) i af;simpa using this
theorem aD.Kk (φ:bM):∀l:List J,n9 l=true->∀i,i<l.length->aD φ (l.getD i Go.undef) (l.getD i Go.undef)
 |[],_,i,af=>absurd af (by simp)
 |v::r,h,0,_=>by
   have:=aD.j8 φ v (by simp [n9] at h;exact h.1);simpa using this
 |v::r,h,i+1,af=>by
   have:=aD.Kk φ r (by simp [n9] at h;exact h.2) i (by simpa using af);simpa using this
end
end AE
end
namespace AE
variable [a6]
structure y' (A:aW):Prop where
 lt:∀b k,A.bl.get b=some k->b<A.n
 sc:∀b k,A.bl.get b=some k->k.cD<A.n
 mem:∀b k,A.bl.get b=some k->∃l,A.mem.get k.cD=some l/\b∈l
 ti:∀b k b' k',A.bl.get b=some k->A.bl.get b'=some k'->k.cD=k'.cD->k.ro=k'.ro
def qu (φ:bM):Bc->Obj->Prop
 | .vR s p,o=>o= .stringIter s p
 | .deferred,o=>o= .deferred (some [])
 | .gone,o=>o= .deferred none
 | .loop l,o=>∃r:Loop,o= .loop r/\r.state=l.state/\r.pending=l.pending/\r.tmps.size=l.N/\r.params=⟨l.params⟩/\r.assign=l.assign/\r.body=l.body/\(∃e,φ l.Dd=some e/\r.defers=e.bd)/\
     (∀t v,l.sl.get t=some v->aD φ v (r.tmps.getD t undef))
theorem qu.Ro {φ:bM} {x:Bc} {c:Array J} {t:aK} {f:Nat×Nat} (h:qu φ x (.cells c t f)):False:=by
 cases x with
 |vR s p=>cases h
 |deferred=>cases h
 |gone=>cases h
 |loop l=>obtain⟨r,h,_⟩:=h;cases h
theorem qu.mono {φ cP:bM} {x:Bc} {o:Obj} (hg:∀b e,φ b=some e->cP b=some e) (h:qu φ x o):qu cP x o:=by
 cases x with
 |vR s p=>exact h
 |deferred=>exact h
 |gone=>exact h
 |loop l=>
  obtain⟨r,aJ,h1,ae,ar,bm,cg,cu,⟨e,e_,oG⟩,xG⟩:=h;exact⟨r,aJ,h1,ae,ar,bm,cg,cu,⟨e,hg _ _ e_,oG⟩,λt v ax=>(xG t v ax).mono hg⟩
def fh (φ:bM) (w:ao) (e:gP) (k:hf):Prop:=
 match k.obj with
 | .cells c=>∃c' jb,w.heap[e.bd]? =some (.cells c' k.ty jb)/\e.y8=c'.size/\(e.sh+c.length<=c'.size/\(k.ei=0->e.sh=0/\c.length=c'.size))/\
     (∀j,j<c.length->aD φ (c.getD j undef) (c'.getD (e.sh+j) undef))/\(k.ro=false->∀i,i<c'.size->¬(jb.1<=i/\i<jb.2))
 | .map es eo=>∃c8,w.heap[e.bd]? =some (.map c8 eo)/\es.length=c8.size/\
     ∀(j:Nat) (a:jn) (b:MapEntry),es[j]? =some a->c8[j]? =some b->plain a.key=true/\a.key=b.key/\aD φ a.val b.val/\a.born=b.born
 | .fz x=>e.sh=0/\∃o',w.heap[e.bd]? =some o'/\qu φ x o'
structure bN (φ:bM) (A:aW) (w:ao):Prop where
 wf:y' A
 ea:∀b e,φ b=some e->∃k,A.bl.get b=some k/\e.ei=k.ei/\fh φ w e k
 apart:∀b e k b' e' k',φ b=some e->φ b'=some e'->A.bl.get b=some k->A.bl.get b'=some k'->k.cD≠k'.cD->e.bd≠e'.bd
 along:∀b e k b' e' k',φ b=some e->φ b'=some e'->A.bl.get b=some k->A.bl.get b'=some k'->k.cD=k'.cD->e.bd=e'.bd->e.sh+k'.pos=e'.sh+k.pos
 dL:∀i o,a6.dL i=some o->w.heap[i]? =some o/\∀b e,φ b=some e->e.bd≠i
abbrev j9 (_:ao):Nat:=0
structure cb (φ:bM) (A:aW) (w:ao) (cP:bM) (aS:aW) (w':ao):Prop where
 rel:bN cP aS w'
 ea:∀b,b<A.n->cP b=φ b
 qv:∀b,A.n<=b->b<aS.n->cP b≠none
 new:∀b e,A.n<=b->cP b=some e->w.heap.size<=e.bd\/∃cT bA dS,φ cT=some bA/\bA.bd=e.bd/\aS.low<=cT/\A.bl.get cT=some dS/\dS.ro=false
 o9:A.n<=aS.n
 low:aS.low<=A.low
 same:∀b,b<A.n->b<aS.low->aS.bl.get b=A.bl.get b
 ro:∀b k,A.bl.get b=some k->k.ro=true->aS.bl.get b=some k
 keep:∀i,i<w.heap.size->(∀b e k,φ b=some e->e.bd=i->A.bl.get b=some k->k.ro=true)->w'.heap[i]? =w.heap[i]?
 fN:w.heap.size<=w'.heap.size
 os:w'.os=w.os
 tape:w'.tape=w.tape
 output:w'.output=w.output
 drawn:j9 w<=j9 w'
theorem bN.lt {φ:bM} {A:aW} {w:ao} (h:bN φ A w) {b:Nat} {e:gP} (ad:φ b=some e):b<A.n:=by
 obtain⟨k,ag,_⟩:=h.ea b e ad;exact h.wf.lt b k ag
theorem cb.ext {φ cP:bM} {A aS:aW} {w w':ao} (h:cb φ A w cP aS w') (hr:bN φ A w):∀b e,φ b=some e->cP b=some e:=λb e ad=>by
 rw[h.ea b (hr.lt ad)];exact ad
theorem cb.refl {φ:bM} {A:aW} {w:ao} (h:bN φ A w):cb φ A w φ A w where
 rel:=h
 ea:=λ_ _=>rfl
 qv:=λb h1 ae=>by omega
 new:=λb e h1 ae=>absurd (h.lt ae) aj
 o9:=bL _
 low:=bL _
 same:=λ_ _ _=>rfl
 ro:=λ_ _ h _=>h
 keep:=λ_ _ _=>rfl
 fN:=bL _
 os:=rfl
 tape:=rfl
 output:=rfl
 drawn:=bL _
theorem cb.trans {φ fO eS:bM} {A br eD:aW} {w w1 w2:ao} (hr:bN φ A w) (h1:cb φ A w fO br w1) (ae:cb fO br w1 eS eD w2):cb φ A w eS eD w2 where
 rel:=ae.rel
 ea:=λb ad=>by rw[ae.ea b (Nat.lt_of_lt_of_le ad h1.o9),h1.ea b ad]
 qv:=λb h gu=>by
  rcases Nat.lt_or_ge b br.n with bt|j'
  ·rw[ae.ea b bt];exact h1.qv b h bt
  ·exact ae.qv b j' gu
 new:=by
  have first:∀b e,A.n<=b->fO b=some e->w.heap.size<=e.bd\/∃cT bA dS,φ cT=some bA/\bA.bd=e.bd/\eD.low<=cT/\A.bl.get cT=some dS/\dS.ro=false:=λb e ad he=>by
   rcases h1.new b e ad he with h|⟨cT,bA,dS,q1,aB,b_,eB,hh⟩
   ·exact .inl h
   ·exact .inr ⟨cT,bA,dS,q1,aB,Nat.le_trans ae.low b_,eB,hh⟩
  intro b e ad he;rcases Nat.lt_or_ge b br.n with bt|j'
  ·rw[ae.ea b bt] at he
   exact first b e ad he
  ·rcases ae.new b e j' he with h|⟨cT,bA,dS,q1,aB,b_,eB,hh⟩
   ·exact .inl (Nat.le_trans h1.fN h)
   ·rcases Nat.lt_or_ge cT A.n with bt|aa2
    ·rw[h1.ea cT bt] at q1
     obtain⟨k,ag,_⟩:=hr.ea cT bA q1;refine .inr ⟨cT,bA,k,q1,aB,b_,ag,?_⟩;cases da:k.ro with
     |false=>rfl
     |true=>
      have:=h1.ro cT k ag da;rw[eB] at this;cases this;rw[hh] at da;exact da.symm▸rfl
    ·rcases first cT bA aa2 q1 with h|⟨jc,e1,cB,cQ,dr,fP,tj,Bd⟩
     ·exact .inl aj
     ·exact .inr ⟨jc,e1,cB,cQ,dr.trans aB,fP,tj,Bd⟩
 o9:=Nat.le_trans h1.o9 ae.o9
 low:=Nat.le_trans ae.low h1.low
 same:=λb ad hl=>by rw[ae.same b (Nat.lt_of_lt_of_le ad h1.o9) hl,h1.same b ad (Nat.lt_of_lt_of_le hl ae.low)]
 ro:=λb k ag da=>ae.ro b k (h1.ro b k ag da) da
 keep:=λi af km=>by
  rw[ae.keep i (Nat.lt_of_lt_of_le af h1.fN) ?_,h1.keep i af km];intro b e k ad he ag;rcases Nat.lt_or_ge b A.n with bt|j'
  ·rw[h1.ea b bt] at ad
   obtain⟨dS,gV,_⟩:=hr.ea b e ad;have da:=km b e dS ad he gV;have:=h1.ro b dS gV da;rw[ag] at this;cases this;exact da
  ·rcases h1.new b e j' ad with h|⟨cT,bA,dS,q1,aB,b_,eB,hh⟩
   ·omega
   ·have:=km cT bA dS q1 (aB.trans he) eB
    rw[hh] at this;cases this
 fN:=Nat.le_trans h1.fN ae.fN
 os:=ae.os.trans h1.os
 tape:=ae.tape.trans h1.tape
 output:=ae.output.trans h1.output
 drawn:=Nat.le_trans h1.drawn ae.drawn
theorem cb.xH {φ:bM} {A:aW} {w:ao} (h:bN φ A w) (n:Nat) (a8:w.drawn<=n:=by omega):cb φ A w φ A {w with drawn:=n}:=
 {cb.refl h with rel:=⟨h.wf,h.ea,h.apart,h.along,h.dL⟩,keep:=λ_ _ _=>rfl,drawn:=bL _}
def depth:Nat:=30
def aW.push (A:aW) (o:pJ) (st:Nat) (ty:aK):Option (Nat×aW):=
 match bW.set {obj:=o,cD:=A.n,pos:=0,ei:=st,ro:=false,ty:=ty:hf} depth A.bl A.n,bW.set [A.n] depth A.mem A.n with
 |some bl,some mem=>some (A.n,{A with bl,mem,n:=A.n+1})
 |_,_=>none
def gB (φ:bM) (b:Nat) (e:gP):bM:=λi=>if i=b then some e else φ i
omit [a6] in
theorem y'.push {A aS:aW} {o:pJ} {st:Nat} {ty:aK} {r:Nat} (h:y' A) (hp:A.push o st ty=some (r,aS)):
  y' aS/\r=A.n/\aS.n=A.n+1/\aS.low=A.low/\(∀b,aS.bl.get b=if b=A.n then some {obj:=o,cD:=A.n,pos:=0,ei:=st,ro:=false,ty:=ty} else A.bl.get b):=by
 unfold aW.push at hp;split at hp
 ·rename_i bl mem ad hm
  simp only [cz,Prod.mk.injEq] at hp;obtain⟨rfl,rfl⟩:=hp;have sd:=λb=>bW.nB _ _ _ _ _ b ad
  have Be:=λb=>bW.nB _ _ _ _ _ b hm
  refine⟨⟨?_,?_,?_,?_⟩,rfl,rfl,rfl,sd⟩
  ·intro b k ag
   simp only at ag ⊢;rw[sd] at ag;split at ag
   ·omega
   ·have:=h.lt b k ag;omega
  ·intro b k ag
   simp only at ag ⊢;rw[sd] at ag;split at ag
   ·cases ag;simp
   ·have:=h.sc b k ag;omega
  ·intro b k ag
   simp only at ag ⊢;rw[sd] at ag;split at ag
   ·rename_i ad
    cases ag;exact⟨[A.n],by rw[Be,aI rfl],by simp [ad]⟩
   ·obtain⟨l,hl,vS⟩:=h.mem b k ag
    exact⟨l,by rw[Be,aG (by have:=h.sc b k ag;omega)];exact hl,vS⟩
  ·intro b k b' k' ag dj aO
   simp only at ag dj;rw[sd] at ag dj;split at ag
   ·cases ag
    split at dj
    ·cases dj;rfl
    ·have:=h.sc b' k' dj;simp only at aO;omega
   ·split at dj
    ·cases dj
     have:=h.sc b k ag;simp only at aO;omega
    ·exact h.ti b k b' k' ag dj aO
 ·cases hp
theorem fh.mono {φ cP:bM} {w w':ao} {e:gP} {k:hf} (hg:∀b e,φ b=some e->cP b=some e) (hw:w'.heap[e.bd]? =w.heap[e.bd]?) (h:fh φ w e k):fh cP w' e k:=by
 unfold fh at*
 cases ag:k.obj with
 |cells c=>
  simp only [ag] at h ⊢;obtain⟨c',jb,h1,ae,ar,bm,cg⟩:=h;exact⟨c',jb,hw.trans h1,ae,ar,λj hj=>(bm j hj).mono hg,cg⟩
 |map es eo=>
  simp only [ag] at h ⊢;obtain⟨c8,h1,ae,ar⟩:=h;refine⟨c8,hw.trans h1,ae,λj a b ha ad=> ?_⟩;obtain⟨q1,aB,b_,eB⟩:=ar j a b ha ad;exact⟨q1,aB,b_.mono hg,eB⟩
 |fz x=>
  simp only [ag] at h ⊢;obtain⟨aJ,o',h1,ae⟩:=h;exact⟨aJ,o',hw.trans h1,ae.mono hg⟩
theorem fh.lt {φ:bM} {w:ao} {e:gP} {k:hf} (h:fh φ w e k):e.bd<w.heap.size:=by
 unfold fh at h;cases ag:k.obj with
 |cells c=>
  simp only [ag] at h;obtain⟨c',jb,h1,_⟩:=h;exact(Array.getElem?_eq_some_iff.1 h1).1
 |map es eo=>
  simp only [ag] at h;obtain⟨c8,h1,_⟩:=h;exact(Array.getElem?_eq_some_iff.1 h1).1
 |fz x=>
  simp only [ag] at h;obtain⟨aJ,o',h1,ae⟩:=h;exact(Array.getElem?_eq_some_iff.1 h1).1
theorem Bf {φ:bM} {A aS:aW} {w:ao} {o:pJ} {st:Nat} {ty:aK} {r:Nat} {o':Obj} {e:gP} (hr:bN φ A w) (hp:A.push o st ty=some (r,aS)) (he:e.bd=w.heap.size) (cF:e.ei=st)
  (ho:fh (gB φ r e) {w with heap:=w.heap.push o'} e {obj:=o,cD:=A.n,pos:=0,ei:=st,ro:=false,ty:=ty}):
  cb φ A w (gB φ r e) aS {w with heap:=w.heap.push o'}:=by
 obtain⟨tk,rfl,ak,ri,gi⟩:=hr.wf.push hp;have hold:∀b e1,φ b=some e1->gB φ A.n e b=some e1:=λb e1 ad=>by
  unfold gB;rw[aG (by have:=hr.lt ad;omega)];exact ad
 have qw:∀i,i<w.heap.size->(w.heap.push o')[i]? =w.heap[i]? :=λi af=>by
  rw[Array.getElem?_push,aG aj]
 have ll:∀b e1,gB φ A.n e b=some e1->(b=A.n/\e1=e)\/(b≠A.n/\φ b=some e1):=λb e1 ad=>by
  unfold gB at ad;split at ad
  ·rename_i h;cases ad;exact .inl ⟨h,rfl⟩
  ·rename_i h;exact .inr ⟨h,ad⟩
 refine {rel:=⟨tk,?_,?_,?_,λi o af=>by
   obtain⟨h1,ae⟩:=hr.dL i o af;have bt:i<w.heap.size:=(Array.getElem?_eq_some_iff.1 h1).1;refine⟨by rw[qw i bt];exact h1,λb e1 ad=> ?_⟩;rcases ll b e1 ad with ⟨rfl,rfl⟩|⟨_,ad⟩
   ·omega
   ·exact ae b e1 ad⟩,ea:= ?_,qv:= ?_,new:= ?_,o9:=by omega,low:=by omega,same:= ?_,ro:= ?_,keep:= ?_,fN:=by simp,os:=rfl,tape:=rfl,output:=rfl,drawn:=bL _}
 ·intro b e1 ad
  rcases ll b e1 ad with ⟨rfl,rfl⟩|⟨cv,ad⟩
  ·exact⟨_,by rw[gi,aI rfl],cF,ho⟩
  ·obtain⟨k,ag,h1,ae⟩:=hr.ea b e1 ad
   exact⟨k,by rw[gi,aG cv];exact ag,h1,ae.mono hold (qw _ ae.lt)⟩
 ·intro b e1 k b' nC k' ad dw ag dj cv
  rw[gi] at ag dj;rcases ll b e1 ad with ⟨rfl,rfl⟩|⟨jy,rj⟩
  ·rcases ll b' nC dw with ⟨rfl,rfl⟩|⟨iW,pK⟩
   ·rw[aI rfl] at ag dj;cases ag;cases dj;exact absurd rfl cv
   ·obtain⟨cB,_,_,ae⟩:=hr.ea b' nC pK
    have:=ae.lt;omega
  ·rcases ll b' nC dw with ⟨rfl,rfl⟩|⟨iW,pK⟩
   ·obtain⟨cB,_,_,ae⟩:=hr.ea b e1 rj
    have:=ae.lt;omega
   ·rw[aG jy] at ag;rw[aG iW] at dj
    exact hr.apart b e1 k b' nC k' rj pK ag dj cv
 ·intro b e1 k b' nC k' ad dw ag dj n' iR
  rw[gi] at ag dj;rcases ll b e1 ad with ⟨rfl,rfl⟩|⟨jy,rj⟩
  ·rcases ll b' nC dw with ⟨rfl,rfl⟩|⟨iW,pK⟩
   ·rw[aI rfl] at ag dj;cases ag;cases dj;rfl
   ·obtain⟨cB,_,_,ae⟩:=hr.ea b' nC pK
    have:=ae.lt;omega
  ·rcases ll b' nC dw with ⟨rfl,rfl⟩|⟨iW,pK⟩
   ·obtain⟨cB,_,_,ae⟩:=hr.ea b e1 rj
    have:=ae.lt;omega
   ·rw[aG jy] at ag;rw[aG iW] at dj
    exact hr.along b e1 k b' nC k' rj pK ag dj n' iR
 ·intro b ad
  unfold gB;rw[aG aj]
 ·intro b h1 ae
  have:b=A.n:=by omega
  subst this;simp [gB]
 ·intro b e1 h1 ad
  rcases ll b e1 ad with ⟨rfl,rfl⟩|⟨jy,ad⟩
  ·exact .inl aj
  ·exact absurd (hr.lt ad) aj
 ·intro b ad _
  rw[gi,aG aj]
 ·intro b k ag _
  rw[gi,aG (by have:=hr.wf.lt b k ag;omega)];exact ag
 ·intro i af _
  exact qw i af
end AE
namespace AE
variable [a6]
def aW.load (A:aW) (b off:Nat):Option J:=
 match A.bl.get b with
 |some {obj:= .cells c,..}=>c[off]?
 |_=>none
theorem tl {φ:bM} {A:aW} {w:ao} (hr:bN φ A w) {b off:Nat} {v:J} {e:gP} (h:A.load b off=some v) (he:φ b=some e):
  ∃aC,w.cell? ⟨e.bd,e.sh+off,none⟩=some aC/\aD φ v aC:=by
 obtain⟨k,ag,_,ho⟩:=hr.ea b e he;unfold aW.load at h;rw[ag] at h;obtain⟨uM,cD,pos,ei,ro,ty⟩:=k;cases uM with
 |cells c=>
  simp only [fh] at h ho;obtain⟨c',jb,h1,ae,ar,bm,cg⟩:=ho;obtain⟨bt,ax⟩:=List.getElem?_eq_some_iff.1 h;refine⟨c'.getD (e.sh+off) undef,?_,?_⟩
  ·simp only [World.cell?,h1]
   simp [show e.sh+off<c'.size by omega]
  ·have:=bm off bt
   rw[c_,h] at this;simpa using this
 |map es eo=>simp at h
 |fz x=>simp at h
def j_ (pos:Nat) (k:hf):hf:=
 bif k.ro then k else
 match k.obj with
 | .cells c=>bif Nat.ble k.pos pos then {k with obj:= .cells (c.set (pos-k.pos) cL)} else k
 |_=>k
omit [a6] in
theorem y_ (pos:Nat) (k:hf):(j_ pos k).cD=k.cD/\(j_ pos k).pos=k.pos/\(j_ pos k).ei=k.ei/\(j_ pos k).ro=k.ro/\j_ pos (j_ pos k)=j_ pos k/\(k.ro=true->j_ pos k=k)/\(j_ pos k).ty=k.ty:=by
 obtain⟨uM,cD,p,st,ro,ty⟩:=k;cases ro with
 |true=>simp [j_]
 |false=>
  cases uM with
  |cells c=>cases h:Nat.ble p pos<;>simp [j_,h]
  |map es eo=>simp [j_]
  |fz x=>simp [j_]
omit [a6] in
theorem aa3 (pos:Nat) (k:hf):(j_ pos k).cD=k.cD:=(y_ pos k).1
omit [a6] in
theorem aa4 (pos:Nat) (k:hf):(j_ pos k).pos=k.pos:=(y_ pos k).2.1
omit [a6] in
theorem Kl (pos:Nat) (k:hf):(j_ pos k).ei=k.ei:=(y_ pos k).2.2.1
omit [a6] in
theorem aa5 (pos:Nat) (k:hf):(j_ pos k).ro=k.ro:=(y_ pos k).2.2.2.1
omit [a6] in
theorem aa6 (pos:Nat) (k:hf):(j_ pos k).ty=k.ty:=(y_ pos k).2.2.2.2.2.2
omit [a6] in
theorem aa7 (pos:Nat) (k:hf):j_ pos (j_ pos k)=j_ pos k:=(y_ pos k).2.2.2.2.1
def xI (pos b:Nat):List Nat->bW hf->Option (bW hf)
 |[],t=>some t
 |m::r,t=>bif m==b then xI pos b r t else
  match t.get m with
  |some k=>match bW.set (j_ pos k) depth t m with
   |some c7=>xI pos b r c7
   |none=>none
  |none=>xI pos b r t
omit [a6] in
theorem Gv (pos b:Nat):∀(l:List Nat) (t c7:bW hf),xI pos b l t=some c7->
  ∀j,c7.get j=if j∈l/\j≠b then (t.get j).map (j_ pos) else t.get j
 |[],t,c7,h,j=>by simp [xI] at h;simp [h]
 |m::r,t,c7,h,j=>by
  unfold xI at h;by_cases hm:m=b
  ·rw[show (m==b)=true by simpa using hm,bs] at h
   rw[Gv pos b r t c7 h j];subst hm;by_cases hj:j∈r/\j≠m
   ·rw[aI hj,aI ⟨List.mem_cons_of_mem _ hj.1,hj.2⟩]
   ·rw[aG hj,aG]
    rintro ⟨h1,ae⟩;rcases List.mem_cons.1 h1 with h1|h1
    ·exact ae h1
    ·exact hj ⟨h1,ae⟩
  ·rw[show (m==b)=false by simpa using hm,dZ] at h
   cases aA:t.get m with
   |none=>
    rw[aA] at h;rw[Gv pos b r t c7 h j];by_cases eM:j=m
    ·subst eM
     rw[aA];split<;>split<;>rfl
    ·have:(j∈m::r/\j≠b)↔(j∈r/\j≠b):=by simp [eM]
     simp only [this]
   |some k=>
    rw[aA] at h;simp only at h;cases hs:bW.set (j_ pos k) depth t m with
    |none=>rw[hs] at h;cases h
    |some t1=>
     rw[hs] at h;have gi:=λj=>bW.nB _ _ _ _ _ j hs
     rw[Gv pos b r t1 c7 h j,gi];by_cases eM:j=m
     ·subst eM
      rw[aI rfl,aI (show j∈j::r/\j≠b from ⟨List.mem_cons_self,hm⟩),aA];split
      ·simp [aa7]
      ·simp
     ·rw[aG eM]
      have:(j∈m::r/\j≠b)↔(j∈r/\j≠b):=by simp [eM]
      simp only [this]
def aW.store (A:aW) (b off:Nat) (v:J):Option aW:=
 match A.bl.get b with
 |some k=>
  bif k.ro then none else
  match k.obj with
  | .cells c=>bif Nat.blt off c.length then
      match A.mem.get k.cD,bW.set {k with obj:= .cells (c.set off v)} depth A.bl b with
      |some l,some t=>match xI (k.pos+off) b l t with
       |some c7=>some {A with bl:=c7,low:=l.foldl Nat.min A.low}
       |none=>none
      |_,_=>none
    else none
  |_=>none
 |none=>none
omit [a6] in
theorem Gw:∀(l:List Nat) (x:Nat),l.foldl Nat.min x<=x/\∀m∈l,l.foldl Nat.min x<=m
 |[],x=>⟨bL _,λm h=>by cases h⟩
 |a::r,x=>by
  obtain⟨h1,ae⟩:=Gw r (Nat.min x a);refine⟨Nat.le_trans h1 (Nat.min_le_left _ _),λm hm=> ?_⟩;rcases List.mem_cons.1 hm with rfl|hm
  ·exact Nat.le_trans h1 (Nat.min_le_right _ _)
  ·exact ae m hm
omit [a6] in
theorem aa8 {A aS:aW} {b off:Nat} {v:J} (h:A.store b off v=some aS):
  ∃k c l,A.bl.get b=some k/\k.ro=false/\k.obj= .cells c/\off<c.length/\A.mem.get k.cD=some l/\aS.n=A.n/\aS.mem=A.mem/\aS.low<=A.low/\(∀m∈l,aS.low<=m)/\
   aS.bl.get b=some {k with obj:= .cells (c.set off v)}/\(∀j,j≠b->aS.bl.get j=if j∈l then (A.bl.get j).map (j_ (k.pos+off)) else A.bl.get j):=by
 unfold aW.store at h;cases ag:A.bl.get b with
 |none=>rw[ag] at h;cases h
 |some k=>
  rw[ag] at h;obtain⟨uM,cD,pos,ei,ro,ty⟩:=k;simp only at h;cases ro with
  |true=>cases h
  |false=>
   simp only [dZ] at h;cases uM with
   |map es eo=>cases h
   |fz x=>cases h
   |cells c=>
    simp only at h;cases ad:Nat.blt off c.length with
    |false=>rw[ad] at h;cases h
    |true=>
     rw[ad,bs] at h;cases hm:A.mem.get cD with
     |none=>rw[hm] at h;cases h
     |some l=>
      rw[hm] at h;cases hs:bW.set {obj:= .cells (c.set off v),cD:=cD,pos:=pos,ei:=ei,ro:=false,ty:=ty:hf} depth A.bl b with
      |none=>rw[hs] at h;cases h
      |some t=>
       rw[hs] at h;simp only at h;cases hp:xI (pos+off) b l t with
       |none=>rw[hp] at h;cases h
       |some c7=>
        rw[hp] at h;simp only [cz] at h;subst h;have gi:=λj=>bW.nB _ _ _ _ _ j hs
        have km:=Gv _ _ _ _ _ hp;obtain⟨f1,f2⟩:=Gw l A.low;refine⟨_,c,l,rfl,rfl,rfl,Nat.blt_eq.mp ad,hm,rfl,rfl,f1,f2,?_,?_⟩
        ·simp only [km,gi]
         simp
        ·intro j hj
         simp only [km,gi,hj,ne_eq,not_false_eq_true,and_true,if_false]
theorem Rp {φ:bM} {A aS:aW} {w:ao} (hr:bN φ A w) {b off:Nat} {v aC:J} {e:gP} (h:A.store b off v=some aS) (he:φ b=some e) (ax:aD φ v aC):
  cb φ A w φ aS (w.setCell ⟨e.bd,e.sh+off,none⟩ aC)/\(∃u,w.cell? ⟨e.bd,e.sh+off,none⟩=some u)/\w.frozen? ⟨e.bd,e.sh+off,none⟩=false:=by
 obtain⟨k,c,l,ag,da,fa,bt,mv,ak,rk,ri,Gx,Rq,n_⟩:=aa8 h;obtain⟨dS,gV,cF,ho⟩:=hr.ea b e he;rw[ag] at gV;cases gV;have vS:b∈l:=by
  obtain⟨l',eT,dw⟩:=hr.wf.mem b k ag;rw[mv] at eT;cases eT;exact dw
 have kY:=ho;unfold fh at ho;simp only [fa] at ho;obtain⟨c',jb,h1,ae,ar,bm,cg⟩:=ho;have xJ:=cg da;have iR:e.bd<w.heap.size:=kY.lt;have hw:(w.setCell ⟨e.bd,e.sh+off,none⟩ aC).heap[e.bd]? =some (.cells (c'.setIfInBounds (e.sh+off) aC) k.ty jb):=by
  simp only [World.setCell,Array.getElem?_modify,aI,h1];simp
 have o_:∀i,i≠e.bd->(w.setCell ⟨e.bd,e.sh+off,none⟩ aC).heap[i]? =w.heap[i]? :=λi af=>by
  simp only [World.setCell,Array.getElem?_modify];rw[aG (Ne.symm af)]
 have fE:∀j dB,aS.bl.get j=some dB->∃bX,A.bl.get j=some bX/\dB.cD=bX.cD/\dB.pos=bX.pos/\dB.ei=bX.ei/\dB.ro=bX.ro/\dB.ty=bX.ty:=by
  intro j dB hj;by_cases se:j=b
  ·subst se
   rw[Rq] at hj;cases hj;exact⟨k,ag,rfl,rfl,rfl,rfl,rfl⟩
  ·rw[n_ j se] at hj
   split at hj
   ·obtain⟨bX,h1,rfl⟩:=Option.map_eq_some_iff.1 hj
    exact⟨bX,h1,aa3 _ _,aa4 _ _,Kl _ _,aa5 _ _,aa6 _ _⟩
   ·exact⟨dB,hj,rfl,rfl,rfl,rfl,rfl⟩
 refine⟨{rel:=⟨⟨?_,?_,?_,?_⟩,?_,?_,?_,λi o af=>⟨by rw[o_ i (Ne.symm ((hr.dL i o af).2 _ _ he))];exact(hr.dL i o af).1,(hr.dL i o af).2⟩⟩,ea:=λ_ _=>rfl,qv:=λb h1 ae=>by omega,new:=λb e h1 ae=>absurd (hr.lt ae) aj,o9:=by omega,low:=ri,same:= ?_,ro:= ?_,keep:= ?_,fN:=by simp [World.setCell],os:=rfl,tape:=rfl,output:=rfl,drawn:=bL _},?_,?_⟩
 ·intro j bX hj
  obtain⟨cB,q1,_⟩:=fE j bX hj;rw[ak];exact hr.wf.lt j cB q1
 ·intro j bX hj
  obtain⟨cB,q1,aB,_⟩:=fE j bX hj;rw[ak,aB];exact hr.wf.sc j cB q1
 ·intro j bX hj
  obtain⟨cB,q1,aB,_⟩:=fE j bX hj;rw[rk,aB];exact hr.wf.mem j cB q1
 ·intro j bX eU dB hj gh aO
  obtain⟨cB,q1,aB,_,_,b_,_⟩:=fE j bX hj;obtain⟨tm,tn,za,_,_,rl,_⟩:=fE eU dB gh;rw[b_,rl];exact hr.wf.ti j cB eU tm q1 tn (by rw[<-aB,<-za];exact aO)
 ·intro j fp hj
  obtain⟨bX,gW,uN,hn⟩:=hr.ea j fp hj;by_cases se:j=b
  ·subst se
   rw[he] at hj;cases hj;rw[ag] at gW;cases gW;refine⟨_,Rq,cF,?_⟩;simp only [fh];refine⟨_,_,hw,by simpa using ae,by simpa using ar,?_,λ_=>by simpa using xJ⟩;intro i af;simp only [List.length_set] at af;by_cases mT:i=off
   ·subst mT
    rw[c_,List.getElem?_set_self af];simp only [eO,Array.getElem?_setIfInBounds,aI];rw[aI aj];exact ax
   ·rw[c_,List.getElem?_set_ne (Ne.symm mT),<-c_]
    have:=bm i af;simp only [eO,Array.getElem?_setIfInBounds] at this ⊢;rw[aG aj];exact this
  ·by_cases vT:fp.bd=e.bd
   ·
    have n':bX.cD=k.cD:=by
     rcases Nat.lt_or_ge bX.cD k.cD with h|h
     ·exact absurd vT (hr.apart j fp bX b e k hj he gW ag aj)
     ·rcases Nat.eq_or_lt_of_le h with h|h
      ·exact h.symm
      ·exact absurd vT (hr.apart j fp bX b e k hj he gW ag aj)
    have kn:j∈l:=by
     obtain⟨l',eT,dw⟩:=hr.wf.mem j bX gW;rw[n',mv] at eT;cases eT;exact dw
    have aa9:=hr.along j fp bX b e k hj he gW ag n' vT;refine⟨j_ (k.pos+off) bX,by rw[n_ j se,aI kn,gW];rfl,by rw[Kl];exact uN,?_⟩;obtain⟨Km,Rr,uO,Rs,Gy,Rt⟩:=bX;simp only at n' aa9 uN;cases Km with
    |map es eo=>
     simp only [fh] at hn;obtain⟨c8,g1,_⟩:=hn;rw[vT,h1] at g1;cases g1
    |fz x=>
     simp only [fh] at hn;obtain⟨_,o',g1,g2⟩:=hn;rw[vT,h1] at g1;cases g1;exact absurd g2 λh=>qu.Ro h
    |cells zb=>
     simp only [fh] at hn;obtain⟨De,Df,g1,g2,g3,g4,jJ⟩:=hn;rw[vT,h1] at g1;simp only [cz,Obj.cells.injEq] at g1;obtain⟨rfl,hty,rfl⟩:=g1;have key:∀(eo:List J),eo.length=zb.length->(∀i,i<zb.length->(fp.sh+i=e.sh+off->eo[i]? =some cL)/\(fp.sh+i≠e.sh+off->eo[i]? =zb[i]? \/eo[i]? =some cL))->
       fh φ (w.setCell ⟨e.bd,e.sh+off,none⟩ aC) fp {obj:= .cells eo,cD:=Rr,pos:=uO,ei:=Rs,ro:=Gy,ty:=Rt}:=by
      intro eo ko gv;simp only [fh];refine⟨_,_,by rw[vT,<-hty];exact hw,by simpa using g2,by rw[ko];simpa using g3,?_,λ_=>by simpa using xJ⟩;intro i af;rw[ko] at af;obtain⟨q1,aB⟩:=gv i af;by_cases qx:fp.sh+i=e.sh+off
      ·rw[c_,q1 qx]
       exact .cL _
      ·rcases aB qx with q|q
       ·rw[c_,q,<-c_]
        have:=g4 i af;simp only [eO,Array.getElem?_setIfInBounds] at this ⊢;rw[aG aj];exact this
       ·rw[c_,q]
        exact .cL _
     have qy:Gy=false:=by
      have:=hr.wf.ti j _ b k gW ag n';simpa [da] using this
     subst qy;unfold j_;simp only [dZ];cases Gz:Nat.ble uO (k.pos+off) with
     |false=>
      simp only [dZ];refine key zb rfl λi af=>⟨λhp=> ?_,λ_=> .inl rfl⟩
      have:¬uO<=k.pos+off:=by
       intro hle;rw[Nat.ble_eq.mpr hle] at Gz;cases Gz
      omega
     |true=>
      have hle:=Nat.ble_eq.mp Gz;simp only [bs];refine key _ (by simp) λi af=>⟨λhp=> ?_,λhp=> ?_⟩
      ·have:k.pos+off-uO=i:=by omega
       rw[this,List.getElem?_set_self af]
      ·have:k.pos+off-uO≠i:=by omega
       rw[List.getElem?_set_ne this];exact .inl rfl
   ·
    rw[n_ j se];by_cases kn:j∈l
    ·rw[aI kn,gW]
     refine⟨_,rfl,by rw[Kl];exact uN,?_⟩;have Bg:fh φ (w.setCell ⟨e.bd,e.sh+off,none⟩ aC) fp bX:=hn.mono (λ_ _ h=>h) (o_ _ vT);unfold j_;obtain⟨Km,Rr,uO,Rs,Gy,Rt⟩:=bX;cases Gy with
     |true=>exact Bg
     |false=>
     simp only [dZ];cases Km with
     |map es eo=>exact Bg
     |fz x=>exact Bg
     |cells zb=>
      simp only;cases Gz:Nat.ble uO (k.pos+off) with
      |false=>exact Bg
      |true=>
       simp only [bs];simp only [fh] at Bg ⊢;obtain⟨De,Df,g1,g2,g3,g4,jJ⟩:=Bg;refine⟨De,Df,g1,g2,by simpa using g3,λi af=> ?_,jJ⟩;simp only [List.length_set] at af;by_cases Dg:k.pos+off-uO=i
       ·rw[Dg,c_,List.getElem?_set_self af]
        exact .cL _
       ·rw[c_,List.getElem?_set_ne Dg,<-c_]
        exact g4 i af
    ·rw[aG kn]
     exact⟨bX,gW,uN,hn.mono (λ_ _ h=>h) (o_ _ vT)⟩
 ·intro j fp bX eU pL dB q1 aB b_ eB hh
  obtain⟨b2,cr,a3,a4,Kn,Ru,Rv⟩:=fE j bX b_;obtain⟨jc,jz,rm,tp,GC,Ko,Kp⟩:=fE eU dB eB;exact hr.apart j fp b2 eU pL jc q1 aB cr jz (by rw[<-a3,<-rm];exact hh)
 ·intro j fp bX eU pL dB q1 aB b_ eB hh ln
  obtain⟨b2,cr,a3,a4,Kn,Ru,Rv⟩:=fE j bX b_;obtain⟨jc,jz,rm,tp,GC,Ko,Kp⟩:=fE eU dB eB;rw[a4,tp];exact hr.along j fp b2 eU pL jc q1 aB cr jz (by rw[<-a3,<-rm];exact hh) ln
 ·intro j hj hl
  by_cases se:j=b
  ·subst se
   have:=Gx j vS;omega
  ·rw[n_ j se,aG]
   intro kn;have:=Gx j kn;omega
 ·intro j bX hj qy
  by_cases se:j=b
  ·subst se
   rw[ag] at hj;cases hj;rw[da] at qy;cases qy
  ·rw[n_ j se]
   by_cases kn:j∈l
   ·rw[aI kn,hj]
    simp only [Option.map_some,cz];exact(y_ _ _).2.2.2.2.2.1 qy
   ·rw[aG kn];exact hj
 ·intro i af km
  refine o_ i λrn=> ?_
  subst rn;have:=km b e k he rfl ag;rw[da] at this;cases this
 ·refine⟨c'.getD (e.sh+off) undef,?_⟩
  simp only [World.cell?,h1];simp [show e.sh+off<c'.size by omega]
 ·have:=xJ (e.sh+off) aj
  obtain⟨gj,af⟩:=jb;simp only [World.frozen?,h1];simpa using this
end AE
namespace AE
variable [a6]
def a' {α:Type} (P:aQ):Sem α->Option α
 | .pure a=>some a
 | .program k=>a' P (k P)
 | .mark _ k=>a' P k
 |_=>none
omit [a6] in
theorem iF {α:Type} {P:aQ} {s:Sem α} {a:α} (h:a' P s=some a) (w:ao):s.run P w= .ok a w:=by
 induction s with
 |pure b=>simp only [a',cz] at h;subst h;rfl
 |program k b9=>exact b9 P h
 |mark m k b9=>exact b9 h
 |_=>cases h
def vU:J->Bool
 | .agg _| .tuple _| .complex .f32 _ _=>false
 |_=>true
def cellsOf:J->Option (List J)
 | .agg ⟨l⟩=>some l
 | .tuple _| .complex .f32 _ _=>none
 |v=>some [v]
theorem aD.vU {φ:bM} {v aC:J} (h:aD φ v aC) (h1:vU v=true):∀cs,aC≠.agg cs/\aC≠.tuple cs:=by
 intro cs;cases h
 case sym k=>exact a6.one k cs
 all_goals simp_all [AE.vU,AE.cL]
theorem aD.cells {φ:bM} {v aC:J} {l:List J} (h:aD φ v aC) (hl:cellsOf v=some l):
  l.length=aC.cells.size/\∀j,j<l.length->aD φ (l.getD j undef) (aC.cells.getD j undef):=by
 have one:∀{v aC:J},aD φ v aC->(∀cs,aC≠.agg cs)->l=[v]->l.length=aC.cells.size/\∀j,j<l.length->aD φ (l.getD j undef) (aC.cells.getD j undef):=by
  intro v aC h ak e;subst e;have:aC.cells= #[aC]:=by cases aC<;>first|rfl|exact absurd rfl (ak _)
  rw[this];refine⟨rfl,λj hj=> ?_⟩;have:j=0:=by simpa using hj
  subst this;simpa using h
 cases h with
 |cL=>cases hl
 |sym k=>exact one (.sym k) (λcs=>(a6.one k cs).1) (by simpa [cellsOf,aq] using hl.symm)
 |agg cs cs' h1 ae=>
  obtain⟨Rw⟩:=cs;simp only [cellsOf,cz] at hl;subst hl;exact⟨by simpa [Value.cells] using h1,λj hj=>by simpa [Value.cells] using ae j (by simpa using hj)⟩
 |tuple=>cases hl
 |bool b=>exact one (.bool b) (λ_=>by simp) (by simpa [cellsOf] using hl.symm)
 |int k n=>exact one (.int k n) (λ_=>by simp) (by simpa [cellsOf] using hl.symm)
 |float k b=>exact one (.float k b) (λ_=>by simp) (by simpa [cellsOf] using hl.symm)
 |string s=>exact one (.string s) (λ_=>by simp) (by simpa [cellsOf] using hl.symm)
 |xE=>exact one .xE (λ_=>by simp) (by simpa [cellsOf] using hl.symm)
 |ptr h=>exact one (.ptr h) (λ_=>by simp) (by simpa [cellsOf] using hl.symm)
 |slnil a b=>exact one (.slnil a b) (λ_=>by simp) (by simpa [cellsOf] using hl.symm)
 |h7 b h=>exact one (.h7 b h) (λ_=>by simp) (by simpa [cellsOf] using hl.symm)
 |hR n c h=>exact one (.hR n c h) (λ_=>by simp) (by simpa [cellsOf] using hl.symm)
 |hS n c c' h a b d=>exact one (.hS n c c' h a b d) (λ_=>by simp) (by simpa [cellsOf] using hl.symm)
 |y9=>exact one .y9 (λ_=>by simp) (by simpa [cellsOf] using hl.symm)
 |map h=>exact one (.map h) (λ_=>by simp) (by simpa [cellsOf] using hl.symm)
 |chan=>exact one .chan (λ_=>by simp) (by simpa [cellsOf] using hl.symm)
 |func fs jI cs cs' a b c d e=>exact one (.func fs jI cs cs' a b c d e) (λ_=>by simp) (by simpa [cellsOf] using hl.symm)
 |sb h=>exact one (.sb h) (λ_=>by simp) (by simpa [cellsOf] using hl.symm)
 |nilFunc=>exact one .nilFunc (λ_=>by simp) (by simpa [cellsOf] using hl.symm)
 |nilIface=>exact one .nilIface (λ_=>by simp) (by simpa [cellsOf] using hl.symm)
 |iface t h=>exact one (.iface t h) (λ_=>by simp) (by simpa [cellsOf] using hl.symm)
omit [a6] in
theorem Addr.jA (b o i:Nat):(⟨b,o,none⟩:Addr).add i=⟨b,o+i,none⟩:=by
 unfold Go.Addr.add;split
 ·rename_i h;subst h;rfl
 ·rfl
def aW.qz (A:aW) (b off n:Nat):Option (List J):=
 match A.bl.get b with
 |some {obj:= .cells c,..}=>bif Nat.ble (off+n) c.length then some ((c.drop off).take n) else none
 |_=>none
omit [a6] in
theorem zc {A:aW} {b off n:Nat} {vs:List J} (h:A.qz b off n=some vs):vs.length=n/\∀j,j<n->A.load b (off+j)=some (vs.getD j undef):=by
 unfold aW.qz at h;unfold aW.load;cases ag:A.bl.get b with
 |none=>rw[ag] at h;cases h
 |some k=>
  rw[ag] at h;obtain⟨uM,cD,pos,st,ro,ty⟩:=k;cases uM with
  |map es eo=>cases h
  |fz x=>cases h
  |cells c=>
   simp only at h ⊢;cases ad:Nat.ble (off+n) c.length with
   |false=>rw[ad] at h;cases h
   |true=>
    rw[ad,bs,cz] at h;have hle:=Nat.ble_eq.mp ad;subst h;refine⟨by simp;omega,λj hj=> ?_⟩;rw[c_,List.getElem?_take,aI hj,List.getElem?_drop];rw[fy aj];rfl
theorem Dh {φ:bM} {A:aW} {w:ao} (hr:bN φ A w) (P:aQ) {b off n:Nat} {vs:List J} {e:gP} (h:A.qz b off n=some vs) (he:φ b=some e):
  ∃df:Array J,(loadCells ⟨e.bd,e.sh+off,none⟩ n).run P w= .ok df w/\df.size=vs.length/\∀j,j<vs.length->aD φ (vs.getD j undef) (df.getD j undef):=by
 obtain⟨hl,hj⟩:=zc h;have zd:∀j,j<n->∃aC,w.cell? ⟨e.bd,e.sh+off+j,none⟩=some aC/\aD φ (vs.getD j undef) aC:=λj tq=>by
  obtain⟨aC,h1,ae⟩:=tl hr (hj j tq) he;exact⟨aC,by rw[show e.sh+off+j=e.sh+(off+j) by omega];exact h1,ae⟩
 let f:Nat->J:=λj=>(w.cell? ⟨e.bd,e.sh+off+j,none⟩).getD undef
 have aO:∀j,j<n->w.cell? ((⟨e.bd,e.sh+off,none⟩:Addr).add j)=some (f j):=λj tq=>by
  obtain⟨aC,h1,_⟩:=zd j tq;rw[Addr.jA,h1];simp [f,h1]
 refine⟨_,run_loadCells _ _ n f aO,by simp [hl],λj tq=> ?_⟩;obtain⟨aC,h1,ae⟩:=zd j aj;have:f j=aC:=by simp [f,h1]
 simp only [eO];simp [show j<n by omega,this];simpa using ae
def aW.pM:aW->Nat->Nat->List J->Option aW
 |A,_,_,[]=>some A
 |A,b,off,v::r=>bif vU v then match A.store b off v with
    |some br=>br.pM b (off+1) r
    |none=>none
  else none
omit [a6] in
theorem run_store {P:aQ} {w:ao} {a:Addr} {v u:J} (ax:∀cs,v≠.agg cs/\v≠.tuple cs) (h1:w.cell? a=some u) (ae:w.frozen? a=false):(Go.store a v).run P w= .ok () (w.setCell a v):=by
 unfold Go.store;cases v<;>first|(exfalso;exact(ax _).1 rfl)|(exfalso;exact(ax _).2 rfl)|(simp [Sem.run,h1,ae])
theorem Bh {φ:bM} (P:aQ) {b:Nat} {e:gP} (he:φ b=some e):∀(vs:List J) (A aS:aW) (w:ao) (off i:Nat) (df:List J),bN φ A w->A.pM b (off+i) vs=some aS->
  df.length=vs.length->(∀j,j<vs.length->aD φ (vs.getD j undef) (df.getD j undef))->
  ∃w',(storeCells ⟨e.bd,e.sh+off,none⟩ df i).run P w= .ok () w'/\cb φ A w φ aS w'
 |[],A,aS,w,off,i,df,hr,h,hl,ax=>by
  simp only [aW.pM,cz] at h;subst h;have:df=[]:=by simpa using hl
  subst this;exact⟨w,rfl,cb.refl hr⟩
 |v::r,A,aS,w,off,i,df,hr,h,hl,ax=>by
  cases df with
  |nil=>simp at hl
  |cons aC dN=>
   unfold aW.pM at h;cases h1:AE.vU v with
   |false=>rw[h1] at h;cases h
   |true=>
    rw[h1,bs] at h;cases hs:A.store b (off+i) v with
    |none=>rw[hs] at h;cases h
    |some br=>
     rw[hs] at h;simp only at h;have Kq:aD φ v aC:=by simpa using ax 0 (by simp)
     obtain⟨st,⟨u,hu⟩,xJ⟩:=Rp hr hs he Kq;rw[<-Nat.add_assoc] at st hu xJ;obtain⟨w',Di,uP⟩:=Bh P he r br aS _ off (i+1) dN (by rw[Nat.add_assoc] at st;exact st.rel) (by rw[<-Nat.add_assoc];exact h) (by simpa using hl) (λj hj=>by simpa using ax (j+1) (by simpa using hj));refine⟨w',?_,?_⟩
     ·unfold storeCells
      rw[Addr.jA];simp only [Sem.run_bind,run_store (Kq.vU h1) hu xJ,Result.andThen_ok];rw[Nat.add_assoc];exact Di
     ·exact cb.trans hr (by rw[Nat.add_assoc] at st;exact st) uP
theorem Bi {φ:bM} {A aS:aW} {w:ao} (hr:bN φ A w) (P:aQ) {c:List J} {c':Array J} {r st:Nat} (t:aK) (hp:A.push (.cells c) st t=some (r,aS)) (hl:c.length<=c'.size) (ah:st=0->c.length=c'.size)
  (ax:∀j,j<c.length->aD φ (c.getD j undef) (c'.getD j undef)):
  ∃cP w',(newRow t c').run P w= .ok ⟨w.heap.size,0,none⟩ w'/\cP r=some ⟨w.heap.size,0,st,c'.size⟩/\cb φ A w cP aS w'/\w'={w with heap:=w.heap.push (.cells c' t)}:=by
 have Rx:=(hr.wf.push hp).2.1;have hmono:∀b e,φ b=some e->gB φ r ⟨w.heap.size,0,st,c'.size⟩ b=some e:=λb e ad=>by
  unfold gB;rw[aG (by have:=hr.lt ad;omega)];exact ad
 refine⟨gB φ r ⟨w.heap.size,0,st,c'.size⟩,{w with heap:=w.heap.push (.cells c' t)},?_,by simp [gB],?_,rfl⟩
 ·simp [newRow,newObj,Sem.run]
 ·refine Bf hr hp U U ?_
  simp only [fh];refine⟨c',(0,0),by simp,rfl,by simp;exact⟨hl,ah⟩,λj hj=> ?_,λ_ i _=>by simp⟩;simp only [Nat.zero_add];exact(ax j hj).mono hmono
end AE
namespace AE
variable [a6]
mutual
theorem aD.kp {φ:bM}:∀(v:J) {aC:J},plain v=true->aD φ v aC->aC=v
 | .bool b,_,_,h=>by cases h;rfl
 | .int k n,_,_,h=>by cases h;rfl
 | .float k b,_,_,h=>by cases h;rfl
 | .string s,_,_,h=>by cases h;rfl
 | .pointer none,_,_,h=>by cases h;rfl
 | .map none,_,_,h=>by cases h;rfl
 | .chan none,_,_,h=>by cases h;rfl
 | .nilFunc,_,_,h=>by cases h;rfl
 | .nilIface,_,_,h=>by cases h;rfl
 | .slice none l c,_,_,h=>by cases h;rfl
 | .func (.func f) ⟨[]⟩ ⟨[]⟩,_,_,h=>by
     cases h with
     |func fs jI cs cs' ak h1 ae aO ai=>
      have e1:jI= #[]:=Array.eq_empty_of_size_eq_zero h1.symm;have e2:cs'= #[]:=Array.eq_empty_of_size_eq_zero ae.symm;rw[e1,e2]
 | .iface t v,_,hp,h=>by
     cases h with
     |iface t h=>rw[aD.kp v (by simpa [plain] using hp) h]
 | .agg ⟨l⟩,_,hp,h=>by
     cases h with
     |agg cs cs' h1 ae=>
      obtain⟨l'⟩:=cs';rw[aD.Dj l l' (by simpa [plain] using hp) (by simpa using h1) (λi af=>by simpa using ae i (by simpa using af))]
 | .tuple ⟨l⟩,_,hp,h=>by
     cases h with
     |tuple cs cs' h1 ae=>
      obtain⟨l'⟩:=cs';rw[aD.Dj l l' (by simpa [plain] using hp) (by simpa using h1) (λi af=>by simpa using ae i (by simpa using af))]
theorem aD.Dj {φ:bM}:∀(l l':List J),n9 l=true->l.length=l'.length->(∀i,i<l.length->aD φ (l.getD i Go.undef) (l'.getD i Go.undef))->l'=l
 |[],[],_,_,_=>rfl
 |[],_::_,_,h,_=>by simp at h
 |_::_,[],_,h,_=>by simp at h
 |v::r,aC::dN,hp,hl,h=>by
   have h1:=aD.kp v (by simp [n9] at hp;exact hp.1) (by simpa using h 0 (by simp));have ae:=aD.Dj r dN (by simp [n9] at hp;exact hp.2) (by simpa using hl) (λi af=>by simpa using h (i+1) (by simpa using af));rw[h1,ae]
end
def bP {α:Type} (R:bM->α->Prop) (P:aQ) (φ:bM) (A:aW) (w:ao) (s:Sem α) (aS:aW):Prop:=
 ∃cP w' a,s.run P w= .ok a w'/\R cP a/\cb φ A w cP aS w'
theorem bP.pure_run {α:Type} {R:bM->α->Prop} {P:aQ} {φ:bM} {A:aW} {w:ao} (hr:bN φ A w) {s:Sem α} {a:α} (h:a' P s=some a) (hb:R φ a):bP R P φ A w s A:=
 ⟨φ,w,a,iF h w,hb,cb.refl hr⟩
theorem bP.bind {α eC:Type} {R:bM->α->Prop} {S:bM->eC->Prop} {P:aQ} {φ:bM} {A br eD:aW} {w:ao} (hr:bN φ A w) {s:Sem α} {k:α->Sem eC} (h:bP R P φ A w s br)
  (ag:∀fO w1 a,bN fO br w1->(∀b e,φ b=some e->fO b=some e)->R fO a->bP S P fO br w1 (k a) eD):bP S P φ A w (s >>= k) eD:=by
 obtain⟨fO,w1,a,h1,ae,ar⟩:=h;obtain⟨eS,w2,b,g1,g2,g3⟩:=ag fO w1 a ar.rel (ar.ext hr) ae;exact⟨eS,w2,b,by rw[Sem.run_bind,h1];exact g1,g2,cb.trans hr ar g3⟩
theorem bP.map {α eC:Type} {R:bM->α->Prop} {S:bM->eC->Prop} {P:aQ} {φ:bM} {A br:aW} {w:ao} {s:Sem α} {f:α->eC} (h:bP R P φ A w s br) (aO:∀φ a,R φ a->S φ (f a)):bP S P φ A w (s >>= λa=>pure (f a)) br:=by
 obtain⟨fO,w1,a,h1,ae,ar⟩:=h;exact⟨fO,w1,f a,by rw[Sem.run_bind,h1];rfl,aO _ _ ae,ar⟩
theorem bP.pre {α eC:Type} {S:bM->eC->Prop} {P:aQ} {φ:bM} {A eD:aW} {w:ao} {s:Sem α} {a:α} {k:α->Sem eC} (h:a' P s=some a) (ag:bP S P φ A w (k a) eD):bP S P φ A w (s >>= k) eD:=by
 obtain⟨eS,w2,b,g1,g2,g3⟩:=ag;exact⟨eS,w2,b,by rw[Sem.run_bind,iF h w];exact g1,g2,g3⟩
theorem bP.ret {α:Type} {R:bM->α->Prop} {P:aQ} {φ:bM} {A:aW} {w:ao} (hr:bN φ A w) {a:α} (hb:R φ a):bP R P φ A w (pure a) A:=⟨φ,w,a,rfl,hb,cb.refl hr⟩
abbrev gQ (v:J):bM->J->Prop:=λφ aC=>aD φ v aC
abbrev hc (l:List J):bM->Array J->Prop:=λφ a=>a.size=l.length/\∀j,j<l.length->aD φ (l.getD j undef) (a.getD j undef)
section
variable {P:aQ} {φ:bM} {A aS:aW} {w:ao}
theorem Ry (hr:bN φ A w) {b off n:Nat} {vs:List J} {e:gP} (h:A.qz b off n=some vs) (he:φ b=some e):bP (hc vs) P φ A w (loadCells ⟨e.bd,e.sh+off,none⟩ n) A:=by
 obtain⟨df,h1,ae,ar⟩:=Dh hr P h he;exact⟨φ,w,df,h1,⟨ae,ar⟩,cb.refl hr⟩
def Bj (P:aQ) (A:aW) (t:aK):J->Option J
 | .pointer (some ⟨b,off,none⟩)=>match a' P (isAgg t) with
   |some true=>match a' P (sizeOf t) with
    |some n=>(A.qz b off n).map λl=> .agg ⟨l⟩
    |none=>none
   |some false=>A.load b off
   |none=>none
 |_=>none
theorem aa' (hr:bN φ A w) {t:aK} {p p' v:J} (hp:aD φ p p') (h:Bj P A t p=some v):bP (gQ v) P φ A w (Instr.loadAt t p') A:=by
 unfold Bj at h;split at h
 ·rename_i b off
  cases hp with
  |ptr he=>
   unfold Instr.loadAt;refine bP.pre (a:=(⟨_,_,none⟩:Addr)) rfl ?_;unfold loadVar;cases pa:a' P (isAgg t) with
   |none=>rw[pa] at h;cases h
   |some Dk=>
    rw[pa] at h;refine bP.pre pa ?_;cases Dk with
    |false=>
     simp only at h;obtain⟨aC,h1,ae⟩:=tl hr h he;refine⟨φ,w,aC,?_,ae,cb.refl hr⟩;simp [Go.load,Sem.run,h1]
    |true=>
     simp only at h;cases b5:a' P (sizeOf t) with
     |none=>rw[b5] at h;cases h
     |some n=>
      rw[b5] at h;simp only at h;obtain⟨l,hl,rfl⟩:=Option.map_eq_some_iff.1 h;simp only [if_true];refine bP.pre b5 ?_;refine bP.map (Ry hr hl he) λφ a ⟨h1,ae⟩=> ?_
      exact .agg _ _ (by simp [h1]) λi af=>by simpa using ae i (by simpa using af)
 ·cases h
def Kr (P:aQ) (A:aW) (t:aK) (v:J):J->Option aW
 | .pointer (some ⟨b,off,none⟩)=>match cellsOf v,a' P (sizeOf t) with
   |some l,some n=>bif Nat.beq l.length n then A.pM b off l else none
   |_,_=>none
 |_=>none
theorem aa_ (hr:bN φ A w) {t:aK} {b off:Nat} {e:gP} {v aC:J} (he:φ b=some e) (ax:aD φ v aC) {l:List J} {n:Nat} (hl:cellsOf v=some l) (ak:a' P (sizeOf t)=some n)
  (al3:l.length=n) (h:A.pM b off l=some aS):bP (λ_ _=>True) P φ A w (storeVar t ⟨e.bd,e.sh+off,none⟩ aC) aS:=by
 obtain⟨cp,c2⟩:=ax.cells hl;unfold storeVar;refine bP.pre ak ?_;rw[aG aj];obtain⟨w',h1,ae⟩:=Bh P he l A aS w off 0 aC.cells.toList hr h (by simpa using cp.symm) (λj hj=>by
  have:=c2 j hj;simp only [eO] at this
  simpa [c_] using this)
 refine⟨φ,w',(),?_,trivial,ae⟩;simpa using h1
theorem abb (hr:bN φ A w) {t:aK} {p p' v aC:J} (hp:aD φ p p') (ax:aD φ v aC) (h:Kr P A t v p=some aS):bP (λ_ _=>True) P φ A w (Instr.storeAt t p' aC) aS:=by
 unfold Kr at h;split at h
 ·rename_i b off
  split at h
  ·rename_i l n hl ak
   cases ad:Nat.beq l.length n with
   |false=>rw[ad] at h;cases h
   |true=>
    rw[ad,bs] at h;cases hp with
    |ptr he=>
     unfold Instr.storeAt;refine bP.pre (a:=(⟨_,_,none⟩:Addr)) rfl ?_;exact aa_ hr he ax hl ak (cq ad) h
  ·cases h
 ·cases h
def GD (A:aW) (t:aK) (v:J):Option (J×aW):=
 match cellsOf v with
 |some l=>match A.push (.cells l) 0 t with
  |some (r,br)=>some (.pointer (some ⟨r,0,none⟩),br)
  |none=>none
 |none=>none
theorem Rz (hr:bN φ A w) {t:aK} {v aC p:J} (ax:aD φ v aC) (h:GD A t v=some (p,aS)):bP (gQ p) P φ A w (do pure (.pointer (some (<-newVar t aC)))) aS:=by
 unfold GD at h;cases hl:cellsOf v with
 |none=>rw[hl] at h;cases h
 |some l=>
  rw[hl] at h;simp only at h;cases hp:A.push (.cells l) 0 t with
  |none=>rw[hp] at h;cases h
  |some q=>
   obtain⟨r,br⟩:=q;rw[hp] at h;simp only [cz,Prod.mk.injEq] at h;obtain⟨rfl,rfl⟩:=h;obtain⟨cp,c2⟩:=ax.cells hl;obtain⟨cP,w',h1,ae,ar,_⟩:=Bi hr P t hp (Nat.le_of_eq cp) (λ_=>cp) c2;refine⟨cP,w',_,by rw[Sem.run_bind,newVar,h1];rfl,?_,ar⟩;have:=aD.ptr (φ:=cP) (b:=r) (o:=0) ae;simpa using this
def Ks (P:aQ) (A:aW) (t:aK):Option (J×aW):=
 match a' P (zeroValue t) with
 |some z=>bif plain z then GD A t z else none
 |none=>none
theorem abd (hr:bN φ A w) {t:aK} {p old:J} (h:Ks P A t=some (p,aS)):bP (gQ p) P φ A w (Instr.alloc t true old) aS:=by
 unfold Ks at h;cases bu:a' P (zeroValue t) with
 |none=>rw[bu] at h;cases h
 |some z=>
  rw[bu] at h;simp only at h;cases hp:plain z with
  |false=>rw[hp] at h;cases h
  |true=>
   rw[hp,bs] at h;unfold Instr.alloc;refine bP.pre bu ?_;exact Rz hr (aD.j8 φ z hp) h
def Dl (P:aQ) (s:aK) (f:Nat):J->Option J
 | .pointer (some ⟨b,off,none⟩)=>match a' P (underlying s) with
   |some (.struct fields)=>match fields[f]? with
    |some gX=>match a' P (sizeOf gX.type) with
     |some n=>bif n==0 then none else some (.pointer (some ⟨b,off+gX.offset,none⟩))
     |none=>none
    |none=>none
   |_=>none
 |_=>none
theorem RA {s:aK} {f:Nat} {p p' v:J} (hp:aD φ p p') (h:Dl P s f p=some v):∃aC,(∀w,(Instr.fieldAt s p' f).run P w= .ok aC w)/\aD φ v aC:=by
 unfold Dl at h;split at h
 ·rename_i b off
  split at h
  ·rename_i fields hu
   split at h
   ·rename_i gX aO
    split at h
    ·rename_i n ak
     cases aJ:(n==0) with
     |true=>rw[aJ] at h;cases h
     |false=>
      rw[aJ,dZ,cz] at h;subst h;cases hp with
      |ptr he=>
       rename_i e;refine⟨.pointer (some ⟨e.bd,e.sh+(off+gX.offset),none⟩),λw=> ?_,.ptr he⟩;unfold Instr.fieldAt;have cv:n≠0:=by simpa using aJ
       rw[Sem.run_bind,iF hu w];simp only [Result.andThen_ok,aO];rw[Sem.run_bind];have e1:(Instr.sureAddr (.pointer (some ⟨e.bd,e.sh+off,none⟩))).run P w= .ok ⟨e.bd,e.sh+off,none⟩ w:=rfl;rw[e1];unfold fieldPlace;simp only [Sem.run_bind,iF ak w,Result.andThen_ok,aG cv,Addr.jA];rw[Nat.add_assoc];rfl
    ·cases h
   ·cases h
  ·cases h
 ·cases h
theorem abe (hr:bN φ A w) {s:aK} {f:Nat} {p p' v:J} (hp:aD φ p p') (h:Dl P s f p=some v):bP (gQ v) P φ A w (Instr.fieldAt s p' f) A:=by
 obtain⟨aC,h1,ae⟩:=RA hp h;exact⟨φ,w,aC,h1 w,ae,cb.refl hr⟩
def Dm (P:aQ) (t:aK) (x:J) (i:J):Option J:=
 match i with
 | .int _ i=>match a' P (underlying t),x with
   |some (.array len elem),.pointer (some ⟨b,off,none⟩)=>match a' P (sizeOf elem) with
    |some n=>bif decide (0<=i)&&decide (i<(len:Int)) then some (.pointer (some ⟨b,off+i.toNat*n,none⟩)) else none
    |none=>none
   |some (.slice elem),.slice (some ⟨b,off,none⟩) len _=>match a' P (sizeOf elem) with
    |some n=>bif decide (0<=i)&&decide (i<(len:Int)) then some (.pointer (some ⟨b,off+i.toNat*n,none⟩)) else none
    |none=>none
   |_,_=>none
 |_=>none
theorem RB {t:aK} {x x' i v:J} (ah:aD φ x x') (h:Dm P t x i=some v):∃aC,(∀w,(Instr.indexAt t x' i).run P w= .ok aC w)/\aD φ v aC:=by
 unfold Dm at h;split at h
 ·rename_i k i
  unfold Instr.indexAt;have bA:∀w,(asIntOf (.int k i)).run P w= .ok (k,i) w:=λw=>rfl
  have e1:∀w,∀a:Addr,(pure a:Sem Addr).run P w= .ok a w:=λ_ _=>rfl
  split at h
  ·rename_i len elem b off hu
   split at h
   ·rename_i n ak
    cases ad:(decide (0<=i)&&decide (i<(len:Int))) with
    |false=>rw[ad] at h;cases h
    |true=>
     rw[ad,bs,cz] at h;subst h;have xK:0<=i/\i<(len:Int):=by simpa using ad
     cases ah with
     |ptr he=>
      rename_i e;refine⟨.pointer (some ⟨e.bd,e.sh+(off+i.toNat*n),none⟩),λw=> ?_,.ptr he⟩;simp only [Sem.run_bind,bA,iF hu w,Result.andThen_ok,Instr.sureAddr];simp [xK,iF ak w,iF hu w,Addr.jA,Nat.add_assoc,e1]
   ·cases h
  ·rename_i elem b off len cap hu
   split at h
   ·rename_i n ak
    cases ad:(decide (0<=i)&&decide (i<(len:Int))) with
    |false=>rw[ad] at h;cases h
    |true=>
     rw[ad,bs,cz] at h;subst h;have xK:0<=i/\i<(len:Int):=by simpa using ad
     cases ah with
     |hR fi c' he=>
      rename_i e;refine⟨.pointer (some ⟨e.bd,e.sh+(off+i.toNat*n),none⟩),λw=> ?_,.ptr he⟩;simp [bA,xK,iF ak w,iF hu w,Addr.jA,Nat.add_assoc]
     |hS fi cp c2 he q1 aB b_=>
      rename_i e;refine⟨.pointer (some ⟨e.bd,e.sh+(off+i.toNat*n),none⟩),λw=> ?_,.ptr he⟩;simp [bA,xK,iF ak w,iF hu w,Addr.jA,Nat.add_assoc]
     |h7=>omega
   ·cases h
  ·cases h
 ·cases h
theorem abf (hr:bN φ A w) {t:aK} {x x' i v:J} (ah:aD φ x x') (h:Dm P t x i=some v):bP (gQ v) P φ A w (Instr.indexAt t x' i) A:=by
 obtain⟨aC,h1,ae⟩:=RB ah h;exact⟨φ,w,aC,h1 w,ae,cb.refl hr⟩
end
end AE
namespace AE
variable [a6]
omit [a6] in
theorem rp {α eC:Type} (P:aQ) (s:Sem α) (k:α->Sem eC):a' P (s >>= k)=(a' P s).bind λa=>a' P (k a):=by
 show a' P (s.bind k)=_
 induction s with
 |pure a=>rfl
 |program f b9=>exact b9 P
 |mark m s b9=>exact b9
 |_=>rfl
omit [a6] in
theorem Dn {α:Type} (P:aQ) (a:α):a' P (pure a:Sem α)=some a:=rfl
section
variable {P:aQ} {φ:bM} {A aS:aW} {w:ao}
def GF (P:aQ) (t:aK) (cs:List J) (off:Nat):Option J:=
 match a' P (isAgg t) with
 |some true=>match a' P (sizeOf t) with
  |some n=>some (.agg ⟨(cs.drop off).take n⟩)
  |none=>none
 |some false=>cs[off]?
 |none=>none
theorem RC (hr:bN φ A w) {t:aK} {cs:List J} {cs':Array J} {off:Nat} {v:J} (ai:hc cs φ cs') (h:GF P t cs off=some v):bP (gQ v) P φ A w (part t cs' off) A:=by
 obtain⟨hl,ax⟩:=ai;unfold GF at h;unfold part;cases pa:a' P (isAgg t) with
 |none=>rw[pa] at h;cases h
 |some Dk=>
  rw[pa] at h;refine bP.pre pa ?_;cases Dk with
  |false=>
   simp only at h;obtain⟨bt,Kq⟩:=List.getElem?_eq_some_iff.1 h;have qA:off<cs'.size:=by omega
   refine⟨φ,w,cs'[off],by simp [qA,Sem.run,pure],?_,cb.refl hr⟩;have:=ax off bt;rw[c_,h] at this;simpa [qA] using this
  |true=>
   simp only at h;cases b5:a' P (sizeOf t) with
   |none=>rw[b5] at h;cases h
   |some n=>
    rw[b5] at h;simp only [cz] at h;subst h;simp only [if_true];refine bP.pre b5 (bP.ret hr (.agg _ _ (by simp [hl];omega) λi af=> ?_));simp at af;have:=ax (off+i) aj;simp only [eO,c_,Array.getElem?_extract] at this ⊢;rw[aI aj,List.getElem?_toArray,List.getElem?_take,aI aj,List.getElem?_drop];exact this
def Kt (P:aQ) (s:aK) (x:J) (f:Nat):Option J:=
 match x,a' P (underlying s) with
 | .agg ⟨cs⟩,some (.struct fields)=>match fields[f]? with
   |some gX=>GF P gX.type cs gX.offset
   |none=>none
 |_,_=>none
theorem abg (hr:bN φ A w) {s:aK} {f:Nat} {x x' v:J} (ah:aD φ x x') (h:Kt P s x f=some v):bP (gQ v) P φ A w (Instr.field s x' f) A:=by
 unfold Kt at h;split at h
 ·rename_i cs fields hu
  split at h
  ·rename_i gX aO
   cases ah with
   |agg Dp cs' h1 ae=>
    unfold Instr.field;refine bP.pre hu ?_;simp only [aO];refine bP.pre (a:=cs') rfl ?_;exact RC hr ⟨by simpa using h1.symm,λj hj=>by simpa using ae j (by simpa using hj)⟩ h
  ·cases h
 ·cases h
def Ku (P:aQ) (t:aK) (x i:J):Option J:=
 match x,i,a' P (underlying t) with
 | .agg ⟨cs⟩,.int _ i,some (.array len elem)=>match a' P (sizeOf elem) with
   |some n=>bif decide (0<=i)&&decide (i<(len:Int)) then GF P elem cs (i.toNat*n) else none
   |none=>none
 |_,_,_=>none
theorem abh (hr:bN φ A w) {t:aK} {x x' i v:J} (ah:aD φ x x') (h:Ku P t x i=some v):bP (gQ v) P φ A w (Instr.index t x' i) A:=by
 unfold Ku at h;split at h
 ·rename_i cs k i len elem hu
  split at h
  ·rename_i n ak
   cases ad:(decide (0<=i)&&decide (i<(len:Int))) with
   |false=>rw[ad] at h;cases h
   |true=>
    rw[ad,bs] at h;have xK:0<=i/\i<(len:Int):=by simpa using ad
    cases ah with
    |agg Dp cs' h1 ae=>
     unfold Instr.index;refine bP.pre (a:=(k,i)) rfl ?_;simp only;refine bP.pre hu ?_;simp only [aI xK];refine bP.pre ak ?_;exact RC hr ⟨by simpa using h1.symm,λj hj=>by simpa using ae j (by simpa using hj)⟩ h
  ·cases h
 ·cases h
def Dq:J->Nat->Option J
 | .tuple ⟨cs⟩,i=>cs[i]?
 |_,_=>none
theorem abi (hr:bN φ A w) {x x' v:J} {i:Nat} (ah:aD φ x x') (h:Dq x i=some v):bP (gQ v) P φ A w (Instr.extract x' i) A:=by
 unfold Dq at h;split at h
 ·rename_i cs
  cases ah with
  |tuple Dp cs' h1 ae=>
   obtain⟨bt,_⟩:=List.getElem?_eq_some_iff.1 h;have RD:cs.length=cs'.size:=by simpa using h1
   have qA:i<cs'.size:=by omega
   refine⟨φ,w,cs'[i],by simp [Instr.extract,qA,Sem.run,pure],?_,cb.refl hr⟩;have:=ae i (by simpa using bt);simp only [eO,List.getElem?_toArray,h,Option.getD_some] at this;simpa [qA] using this
 ·cases h
theorem RE (off:Nat):∀(l l':List J) (k:Nat) (c c':Array J),l.length=l'.length->(∀j,j<l.length->aD φ (l.getD j undef) (l'.getD j undef))->c.size=c'.size->(∀j,j<c.size->aD φ (c.getD j undef) (c'.getD j undef))->
  ((l.zipIdx k).foldl (λcs (x:J×Nat)=>cs.setIfInBounds (off+x.2) x.1) c).size=((l'.zipIdx k).foldl (λcs (x:J×Nat)=>cs.setIfInBounds (off+x.2) x.1) c').size/\
  ∀j,j<((l.zipIdx k).foldl (λcs (x:J×Nat)=>cs.setIfInBounds (off+x.2) x.1) c).size->aD φ (((l.zipIdx k).foldl (λcs (x:J×Nat)=>cs.setIfInBounds (off+x.2) x.1) c).getD j undef) (((l'.zipIdx k).foldl (λcs (x:J×Nat)=>cs.setIfInBounds (off+x.2) x.1) c').getD j undef)
 |[],[],_,c,c',_,_,h1,ae=>⟨h1,ae⟩
 |[],_::_,_,_,_,h,_,_,_=>by simp at h
 |_::_,[],_,_,_,h,_,_,_=>by simp at h
 |v::r,aC::dN,k,c,c',hl,ax,h1,ae=>by
  simp only [List.zipIdx_cons,List.foldl_cons];refine RE off r dN (k+1) _ _ (by simpa using hl) (λj hj=>by simpa using ax (j+1) (by simpa using hj)) (by simpa using h1) λj hj=> ?_
  have aJ:aD φ v aC:=by simpa using ax 0 (by simp)
  simp only [Array.size_setIfInBounds] at hj;have:=ae j hj;simp only [eO,Array.getElem?_setIfInBounds] at this ⊢;by_cases ag:off+k=j
  ·rw[aI ag,aI ag,aI aj,aI aj]
   exact aJ
  ·rw[aG ag,aG ag]
   exact this
omit [a6] in
theorem RF {v:J} {l:List J} (h:cellsOf v=some l):v.cells=⟨l⟩:=by
 cases v<;>simp_all [cellsOf,Value.cells]
 case complex k re al4=>cases k<;>simp_all
 case agg cs=>obtain⟨cs⟩:=cs;simp [cellsOf] at h;rw[h]
def RG (φ:bM) (p p':Nat×J):Prop:=p.1=p'.1/\(cellsOf p.2).isSome=true/\aD φ p.2 p'.2
theorem Kv (place:Nat->Option (Nat×Nat)):∀(ps Kw:List (Nat×J)) (c c' out:Array J),ps.length=Kw.length->(∀(j:Nat) (a b:Nat×J),ps[j]? =some a->Kw[j]? =some b->RG φ a b)->c.size=c'.size->(∀j,j<c.size->aD φ (c.getD j undef) (c'.getD j undef))->
  Instr.fill place c ps=some out->∃sf,Instr.fill place c' Kw=some sf/\out.size=sf.size/\∀j,j<out.size->aD φ (out.getD j undef) (sf.getD j undef)
 |[],[],c,c',out,_,_,h1,ae,h=>by
  simp only [Instr.fill,cz] at h;subst h;exact⟨c',rfl,h1,ae⟩
 |[],_::_,_,_,_,h,_,_,_,_=>by simp at h
 |_::_,[],_,_,_,h,_,_,_,_=>by simp at h
 |(i,v)::r,(qB,aC)::dN,c,c',out,hl,hp,h1,ae,h=>by
  obtain⟨e1,e2,fI⟩:=hp 0 _ _ U U;simp only at e1 e2 fI;subst e1;obtain⟨l,mw⟩:=Option.isSome_iff_exists.1 e2;obtain⟨cp,c2⟩:=fI.cells mw;have Dr:v.cells=⟨l⟩:=RF mw;unfold Instr.fill at h ⊢;cases fq:place i with
  |none=>rw[fq] at h;cases h
  |some os=>
   obtain⟨off,size⟩:=os;rw[fq] at h;simp only at h ⊢;have gv:v.cells.size=aC.cells.size:=by rw[Dr];simpa using cp
   split at h
   ·cases h
   ·rename_i ak
    rw[aG (by rw[<-gv,<-h1];exact ak)];have key:=RE (φ:=φ) off l aC.cells.toList 0 c c' (by simpa using cp) (λj hj=>by simpa [eO,c_] using c2 j hj) h1 ae;refine Kv place r dN _ _ out (by simpa using hl) (λj a b ha ad=>hp (j+1) a b (by simpa using ha) (by simpa using ad)) ?_ ?_ h
    ·rw[Dr,<-Array.foldl_toList,<-Array.foldl_toList,Array.toList_zipIdx,Array.toList_zipIdx]
     exact key.1
    ·rw[Dr,<-Array.foldl_toList,<-Array.foldl_toList,Array.toList_zipIdx,Array.toList_zipIdx]
     exact key.2
def Ds (ps:Array (Nat×J)):Bool:=ps.toList.all λp=>(cellsOf p.2).isSome
theorem RH {ps:Array (Nat×Operand)} {ρ ρ':Operand->J} (cI:∀p∈ps,aD φ (ρ p.2) (ρ' p.2)) (hq:Ds (ps.map λ(i,x)=>(i,ρ x))=true):
  ∀(j:Nat) (a b:Nat×J),((ps.map λ(i,x)=>(i,ρ x)).toList)[j]? =some a->((ps.map λ(i,x)=>(i,ρ' x)).toList)[j]? =some b->RG φ a b:=by
 intro j a b ha ad;have mv:=List.mem_of_getElem? ha;simp only [Array.toList_map,List.getElem?_map,xD] at ha ad;obtain⟨p,hp,rfl⟩:=ha;obtain⟨p',Bk,rfl⟩:=ad;rw[hp] at Bk;cases Bk;refine⟨rfl,?_,cI p (by simpa using List.mem_of_getElem? hp)⟩;exact List.all_eq_true.1 hq _ mv
def Kx (P:aQ) (t:aK) (parts:Array (Nat×J)):Option J:=
 bif Ds parts then
  match a' P (zeroValue t) with
  |some z=>bif plain z&&(cellsOf z).isSome then
    match a' P (underlying t) with
    |some (.struct fields)=>match a' P (fields.mapM λf=>do pure (f.offset,<-sizeOf f.type)) with
     |some RI=>(Instr.fill (RI[·]?) z.cells parts.toList).map .agg
     |none=>none
    |some (.array _ elem)=>match a' P (sizeOf elem) with
     |some size=>(Instr.fill (λi=>some (i*size,size)) z.cells parts.toList).map .agg
     |none=>none
    |_=>none
   else none
  |none=>none
 else none
theorem GG {z:J} (h:plain z=true) (ai:(cellsOf z).isSome=true) (φ:bM):∀j,j<z.cells.size->aD φ (z.cells.getD j undef) (z.cells.getD j undef):=by
 obtain⟨l,hl⟩:=Option.isSome_iff_exists.1 ai;obtain⟨h1,ae⟩:=(aD.j8 φ z h).cells hl;intro j hj;have Dr:z.cells=⟨l⟩:=RF hl;have:=ae j aj;simp only [Dr] at this ⊢;simpa [eO,c_] using this
theorem abj (hr:bN φ A w) {t:aK} {ps:Array (Nat×Operand)} {ρ ρ':Operand->J} {v:J} (cI:∀p∈ps,aD φ (ρ p.2) (ρ' p.2)) (h:Kx P t (ps.map λ(i,x)=>(i,ρ x))=some v):
  bP (gQ v) P φ A w (Instr.build t (ps.map λ(i,x)=>(i,ρ' x))) A:=by
 unfold Kx at h;cases hq:Ds (ps.map λ(i,x)=>(i,ρ x)) with
 |false=>rw[hq] at h;cases h
 |true=>
  rw[hq,bs] at h;have Ky:=RH cI hq;cases bu:a' P (zeroValue t) with
  |none=>rw[bu] at h;cases h
  |some z=>
   rw[bu] at h;simp only at h;cases kq:(plain z&&(cellsOf z).isSome) with
   |false=>rw[kq] at h;cases h
   |true=>
    rw[kq,bs] at h;simp only [cV] at kq;have pb:=GG kq.1 kq.2 φ;unfold Instr.build;refine bP.pre bu ?_;simp only;have ft:∀(place:Nat->Option (Nat×Nat)),(Instr.fill place z.cells (ps.map λ(i,x)=>(i,ρ x)).toList).map Value.agg=some v->
      ∃sf,Instr.fill place z.cells (ps.map λ(i,x)=>(i,ρ' x)).toList=some sf/\aD φ v (.agg sf):=by
     intro place aO;obtain⟨out,ho,rfl⟩:=Option.map_eq_some_iff.1 aO;obtain⟨sf,g1,g2,g3⟩:=Kv place _ _ _ _ out (by simp) Ky rfl pb ho;exact⟨sf,g1,.agg _ _ g2 g3⟩
    split at h
    ·rename_i fields hu
     refine bP.pre hu ?_;simp only;split at h
     ·rename_i RI fq
      refine bP.pre fq ?_;obtain⟨sf,g1,g2⟩:=ft _ h;simp only [g1];exact bP.ret hr g2
     ·cases h
    ·rename_i n elem hu
     refine bP.pre hu ?_;simp only;split at h
     ·rename_i size b5
      refine bP.pre b5 ?_;obtain⟨sf,g1,g2⟩:=ft _ h;simp only [g1];exact bP.ret hr g2
     ·cases h
    ·cases h
def Kz (P:aQ) (A:aW) (t:aK) (len:Nat) (parts:Array (Nat×J)):Option (J×aW):=
 bif Ds parts then
  match a' P (underlying t) with
  |some (.slice elem)=>match a' P (sizeOf elem) with
   |some size=>bif Nat.blt 0 (len*size)&&Nat.ble (len*size) 16777216 then
     match a' P (zeroValue elem) with
     |some z=>bif plain z&&(cellsOf z).isSome&&Nat.blt 0 z.cells.size then
       match Instr.fill (λi=>some (i*size,size)) ((Array.range (len*size)).map (z.cells[· %z.cells.size]!)) parts.toList with
       |some out=>match A.push (.cells out.toList) 0 elem with
        |some (r,br)=>some (.slice (some ⟨r,0,none⟩) len len,br)
        |none=>none
       |none=>none
      else none
     |none=>none
    else none
   |none=>none
  |_=>none
 else none
theorem abk (hr:bN φ A w) {t:aK} {len:Nat} {ps:Array (Nat×Operand)} {ρ ρ':Operand->J} {v:J} (cI:∀p∈ps,aD φ (ρ p.2) (ρ' p.2)) (h:Kz P A t len (ps.map λ(i,x)=>(i,ρ x))=some (v,aS)):
  bP (gQ v) P φ A w (Instr.buildSlice t len (ps.map λ(i,x)=>(i,ρ' x))) aS:=by
 unfold Kz at h;cases hq:Ds (ps.map λ(i,x)=>(i,ρ x)) with
 |false=>rw[hq] at h;cases h
 |true=>
  rw[hq,bs] at h;have Ky:=RH cI hq;split at h
  ·rename_i elem hu
   split at h
   ·rename_i size b5
    cases ad:(Nat.blt 0 (len*size)&&Nat.ble (len*size) 16777216) with
    |false=>rw[ad] at h;cases h
    |true=>
     rw[ad,bs] at h;simp only [cV] at ad;have kZ:=Nat.blt_eq.mp ad.1;have ka:=Nat.ble_eq.mp ad.2;split at h
     ·rename_i z bu
      cases kq:(plain z&&(cellsOf z).isSome&&Nat.blt 0 z.cells.size) with
      |false=>rw[kq] at h;cases h
      |true=>
       rw[kq,bs] at h;simp only [cV] at kq;have qC:=Nat.blt_eq.mp kq.2;have pb:=GG kq.1.1 kq.1.2 φ;split at h
       ·rename_i out ho
        split at h
        ·rename_i r br hp
         simp only [cz,Prod.mk.injEq] at h;obtain⟨rfl,rfl⟩:=h;unfold Instr.buildSlice;refine bP.pre hu ?_;simp only;refine bP.pre b5 ?_;rw[aG aj];rw[aG aj];have vV:∀j,j<((Array.range (len*size)).map (z.cells[· %z.cells.size]!)).size->aD φ (((Array.range (len*size)).map (z.cells[· %z.cells.size]!)).getD j undef) (((Array.range (len*size)).map (z.cells[· %z.cells.size]!)).getD j undef):=by
          intro j hj;simp at hj;have hm:=Nat.mod_lt j qC;have:=pb (j%z.cells.size) hm;simp only [eO] at this ⊢;simpa [hj,hm,getElem!_pos] using this
         obtain⟨sf,g1,g2,g3⟩:=Kv (φ:=φ) (λi=>some (i*size,size)) _ _ _ _ out (by simp) Ky rfl vV ho;refine bP.pre bu ?_;refine bP.pre (a:=z.cells) rfl ?_;simp only [g1];obtain⟨cP,w',q1,aB,b_,_⟩:=Bi hr P elem hp (c':=sf) (by simpa using Nat.le_of_eq g2) (λ_=>by simpa using g2) (λj hj=>by
          have:=g3 j (by simpa using hj);simp only [eO] at this
          simpa [c_] using this)
         refine⟨cP,w',.slice (some ⟨w.heap.size,0,none⟩) len len,by rw[Sem.run_bind,q1];rfl,?_,b_⟩;have:=aD.hR (φ:=cP) (b:=r) (o:=0) len len aB;simpa using this
        ·cases h
       ·cases h
     ·cases h
   ·cases h
  ·cases h
def KA (P:aQ) (A:aW) (t:aK):Option (J×aW):=
 match a' P (underlying t) with
 |some (.slice elem)=>match a' P (sizeOf elem) with
  |some _=>match A.push (.cells []) 0 elem with
   |some (r,br)=>some (.slice (some ⟨r,0,none⟩) 0 0,br)
   |none=>none
  |none=>none
 |_=>none
theorem abl (hr:bN φ A w) {t:aK} {v:J} (h:KA P A t=some (v,aS)):bP (gQ v) P φ A w (Instr.buildSlice t 0 #[]) aS:=by
 unfold KA at h;split at h
 ·rename_i elem hu
  split at h
  ·rename_i size b5
   split at h
   ·rename_i r br hp
    simp only [cz,Prod.mk.injEq] at h;obtain⟨rfl,rfl⟩:=h;unfold Instr.buildSlice;refine bP.pre hu ?_;simp only;refine bP.pre b5 ?_;rw[aG aj,aI aj];refine bP.pre (a:=(#[]:Array J)) rfl ?_;obtain⟨cP,w',q1,aB,b_,_⟩:=Bi hr P (c':= #[]) elem hp (by simp) (λ_=>by simp) (λj hj=>by simp at hj);have e:((Array.range (0*size)).map ((#[]:Array J)[· %(#[]:Array J).size]!))= #[]:=by simp
    rw[e];simp only [Instr.fill];refine⟨cP,w',.slice (some ⟨w.heap.size,0,none⟩) 0 0,by rw[Sem.run_bind,q1];rfl,?_,b_⟩;have:=aD.hR (φ:=cP) (b:=r) (o:=0) 0 0 aB;simpa using this
   ·cases h
  ·cases h
 ·cases h
end
end AE
namespace AE
variable [a6]
def aW.GH (A:aW) (b pos st:Nat) (ty:aK) (c:List J):Option (Nat×aW):=
 match A.bl.get b with
 |some k=>match k.obj,A.mem.get k.cD with
  | .cells _,some l=>bif k.ro||bne k.ty ty then none else
    match bW.set {obj:= .cells c,cD:=k.cD,pos:=pos,ei:=st,ro:=false,ty:=ty:hf} depth A.bl A.n,bW.set (A.n::l) depth A.mem k.cD with
    |some bl,some mem=>some (A.n,{bl,mem,n:=A.n+1,low:=l.foldl Nat.min A.low})
    |_,_=>none
  |_,_=>none
 |none=>none
omit [a6] in
theorem KB {A aS:aW} {b pos st:Nat} {ty:aK} {c:List J} {r:Nat} (h:A.GH b pos st ty c=some (r,aS)) (tk:y' A):
  ∃k bZ l,A.bl.get b=some k/\k.obj= .cells bZ/\k.ro=false/\k.ty=ty/\A.mem.get k.cD=some l/\r=A.n/\y' aS/\aS.n=A.n+1/\aS.low<=A.low/\(∀m∈l,aS.low<=m)/\
   (∀j,aS.bl.get j=if j=A.n then some {obj:= .cells c,cD:=k.cD,pos:=pos,ei:=st,ro:=false,ty:=ty} else A.bl.get j):=by
 unfold aW.GH at h;cases ag:A.bl.get b with
 |none=>rw[ag] at h;cases h
 |some k=>
  rw[ag] at h;obtain⟨uM,cD,al5,al6,ro,abm⟩:=k;simp only at h;cases uM with
  |map es eo=>cases h
  |fz x=>cases h
  |cells bZ=>
   cases hm:A.mem.get cD with
   |none=>rw[hm] at h;cases h
   |some l=>
    rw[hm] at h;simp only at h;cases ai:(ro||bne abm ty) with
    |true=>rw[ai] at h;cases h
    |false=>
     rw[ai,dZ] at h;simp only [Bool.or_eq_false_iff,bne_eq_false_iff_eq] at ai;obtain⟨rfl,rfl⟩:=ai;split at h
     ·rename_i bl mem ad rk
      simp only [cz,Prod.mk.injEq] at h;obtain⟨rfl,rfl⟩:=h;have sd:=λb=>bW.nB _ _ _ _ _ b ad
      have Be:=λb=>bW.nB _ _ _ _ _ b rk
      obtain⟨f1,f2⟩:=Gw l A.low;have n':=tk.sc b _ ag;refine⟨_,bZ,l,rfl,rfl,rfl,rfl,hm,rfl,⟨?_,?_,?_,?_⟩,rfl,f1,f2,sd⟩
      ·intro j bX hj
       simp only at hj ⊢;rw[sd] at hj;split at hj
       ·omega
       ·have:=tk.lt j bX hj;omega
      ·intro j bX hj
       simp only at hj ⊢ n';rw[sd] at hj;split at hj
       ·cases hj;simp only;omega
       ·have:=tk.sc j bX hj;omega
      ·intro j bX hj
       simp only at hj ⊢;rw[sd] at hj;split at hj
       ·rename_i tq
        cases hj;exact⟨_,by rw[Be,aI rfl],by simp [tq]⟩
       ·obtain⟨l',eT,kn⟩:=tk.mem j bX hj
        by_cases aO:bX.cD=cD
        ·rw[aO,hm] at eT
         cases eT;exact⟨_,by rw[Be,aI aO],List.mem_cons_of_mem _ kn⟩
        ·exact⟨l',by rw[Be,aG aO];exact eT,kn⟩
      ·intro j bX eU dB hj gh aO
       simp only at hj gh;rw[sd] at hj gh;split at hj
       ·cases hj
        split at gh
        ·cases gh;rfl
        ·have:=tk.ti b _ eU dB ag gh aO
         exact this
       ·split at gh
        ·cases gh
         have:=tk.ti j bX b _ hj ag aO;exact this
        ·exact tk.ti j bX eU dB hj gh aO
     ·cases h
theorem RJ {φ:bM} {A aS:aW} {w w':ao} (hr:bN φ A w) {b pos st:Nat} {ty:aK} {c:List J} {r:Nat} {e:gP} (h:A.GH b pos st ty c=some (r,aS)) (cF:e.ei=st)
  (hw:(e.bd=w.heap.size/\∃o,w'={w with heap:=w.heap.push o})\/(w'=w/\∃bA k,φ b=some bA/\A.bl.get b=some k/\e.bd=bA.bd/\e.sh+k.pos=bA.sh+pos))
  (ho:∀k,A.bl.get b=some k->fh (gB φ r e) w' e {obj:= .cells c,cD:=k.cD,pos:=pos,ei:=st,ro:=false,ty:=ty}):
  cb φ A w (gB φ r e) aS w':=by
 obtain⟨k,bZ,l,ag,fa,da,hty,mv,rfl,tk,ak,ri,Gx,gi⟩:=KB h hr.wf;have ho:=ho k ag;have hold:∀b e1,φ b=some e1->gB φ A.n e b=some e1:=λb e1 ad=>by
  unfold gB;rw[aG (by have:=hr.lt ad;omega)];exact ad
 have qw:∀i,i<w.heap.size->w'.heap[i]? =w.heap[i]? :=λi af=>by
  rcases hw with ⟨_,o,rfl⟩|⟨rfl,_⟩
  ·show (w.heap.push o)[i]? =_
   rw[Array.getElem?_push,aG aj]
  ·rfl
 have b5:w.heap.size<=w'.heap.size:=by
  rcases hw with ⟨_,o,rfl⟩|⟨rfl,_⟩
  ·simp
  ·exact bL _
 have uQ:w'.os=w.os/\w'.tape=w.tape/\w'.output=w.output:=by
  rcases hw with ⟨_,o,rfl⟩|⟨rfl,_⟩<;>exact⟨rfl,rfl,rfl⟩
 have ll:∀j e1,gB φ A.n e j=some e1->(j=A.n/\e1=e)\/(j≠A.n/\φ j=some e1):=λj e1 ad=>by
  unfold gB at ad;split at ad
  ·rename_i h;cases ad;exact .inl ⟨h,rfl⟩
  ·rename_i h;exact .inr ⟨h,ad⟩
 have vS:b∈l:=by
  obtain⟨l',eT,dw⟩:=hr.wf.mem b k ag;rw[mv] at eT;cases eT;exact dw
 have sg:∀j fp bX,φ j=some fp->A.bl.get j=some bX->(k.cD≠bX.cD->e.bd≠fp.bd)/\(k.cD=bX.cD->e.bd=fp.bd->e.sh+bX.pos=fp.sh+pos):=by
  intro j fp bX hj gW;rcases hw with ⟨he,_⟩|⟨_,bA,k',xL,dj,iR,qx⟩
  ·obtain⟨_,_,_,ae⟩:=hr.ea j fp hj
   have:=ae.lt;exact⟨λ_=>by omega,λ_ _=>by omega⟩
  ·rw[ag] at dj;cases dj
   refine⟨λcv=> ?_,λaO ad=> ?_⟩
   ·rw[iR];exact hr.apart b bA k j fp bX xL hj ag gW cv
   ·have:=hr.along b bA k j fp bX xL hj ag gW aO (by rw[<-iR];exact ad)
    omega
 refine {rel:=⟨tk,?_,?_,?_,λi o af=>by
   obtain⟨h1,ae⟩:=hr.dL i o af;have bt:i<w.heap.size:=(Array.getElem?_eq_some_iff.1 h1).1;refine⟨by rw[qw i bt];exact h1,λj e1 hj=> ?_⟩;rcases ll j e1 hj with ⟨rfl,rfl⟩|⟨_,hj⟩
   ·rcases hw with ⟨he,_⟩|⟨_,bA,k',xL,dj,iR,qx⟩
    ·omega
    ·rw[iR];exact ae b bA xL
   ·exact ae j e1 hj⟩,ea:= ?_,qv:= ?_,new:= ?_,o9:=by omega,low:=ri,same:= ?_,ro:= ?_,keep:= ?_,fN:=b5,os:=uQ.1,tape:=uQ.2.1,output:=uQ.2.2,drawn:=bL _}
 ·intro j e1 ad
  rcases ll j e1 ad with ⟨rfl,rfl⟩|⟨cv,ad⟩
  ·exact⟨_,by rw[gi,aI rfl],cF,ho⟩
  ·obtain⟨bX,gW,h1,ae⟩:=hr.ea j e1 ad
   exact⟨bX,by rw[gi,aG cv];exact gW,h1,ae.mono hold (qw _ ae.lt)⟩
 ·intro j e1 bX eU nC dB ad dw l5 nD cv
  rw[gi] at l5 nD;rcases ll j e1 ad with ⟨rfl,rfl⟩|⟨jy,rj⟩
  ·rcases ll eU nC dw with ⟨rfl,rfl⟩|⟨iW,pK⟩
   ·rw[aI rfl] at l5 nD;cases l5;cases nD;exact absurd rfl cv
   ·rw[aI rfl] at l5;rw[aG iW] at nD;cases l5
    exact(sg eU nC dB pK nD).1 cv
  ·rcases ll eU nC dw with ⟨rfl,rfl⟩|⟨iW,pK⟩
   ·rw[aI rfl] at nD;rw[aG jy] at l5;cases nD
    exact Ne.symm ((sg j e1 bX rj l5).1 (Ne.symm cv))
   ·rw[aG jy] at l5;rw[aG iW] at nD
    exact hr.apart j e1 bX eU nC dB rj pK l5 nD cv
 ·intro j e1 bX eU nC dB ad dw l5 nD n' iR
  rw[gi] at l5 nD;rcases ll j e1 ad with ⟨rfl,rfl⟩|⟨jy,rj⟩
  ·rcases ll eU nC dw with ⟨rfl,rfl⟩|⟨iW,pK⟩
   ·rw[aI rfl] at l5 nD;cases l5;cases nD;rfl
   ·rw[aI rfl] at l5;rw[aG iW] at nD;cases l5
    exact(sg eU nC dB pK nD).2 n' iR
  ·rcases ll eU nC dw with ⟨rfl,rfl⟩|⟨iW,pK⟩
   ·rw[aI rfl] at nD;rw[aG jy] at l5;cases nD
    exact((sg j e1 bX rj l5).2 n'.symm iR.symm).symm
   ·rw[aG jy] at l5;rw[aG iW] at nD
    exact hr.along j e1 bX eU nC dB rj pK l5 nD n' iR
 ·intro j hj
  unfold gB;rw[aG aj]
 ·intro j h1 ae
  have:j=A.n:=by omega
  subst this;simp [gB]
 ·intro j e1 h1 ad
  rcases ll j e1 ad with ⟨rfl,rfl⟩|⟨jy,ad⟩
  ·rcases hw with ⟨he,_⟩|⟨_,bA,k',xL,dj,iR,qx⟩
   ·exact .inl aj
   ·exact .inr ⟨b,bA,k,xL,iR.symm,Gx b vS,ag,da⟩
  ·exact absurd (hr.lt ad) aj
 ·intro j hj _
  rw[gi,aG aj]
 ·intro j bX gW _
  rw[gi,aG (by have:=hr.wf.lt j bX gW;omega)];exact gW
 ·intro i af _
  exact qw i af
theorem abn {φ:bM} {A aS:aW} {w:ao} (hr:bN φ A w) {b off:Nat} {v aC:J} {e:gP} (h:A.store b off v=some aS) (he:φ b=some e) (ax:aD φ v aC) (ai:w.cell? ⟨e.bd,e.sh+off,none⟩=some aC):
  cb φ A w φ aS w:=by
 obtain⟨st,_,_⟩:=Rp hr h he ax;have:w.setCell ⟨e.bd,e.sh+off,none⟩ aC=w:=by
  unfold World.setCell;have:w.heap.modify e.bd (λ
   | .cells c elem frozen=> .cells (if (none:Option Nat).isSome then c else c.setIfInBounds (e.sh+off) aC) elem frozen
   |o=>o)=w.heap:=by
   apply Array.ext_getElem?;intro i;rw[Array.getElem?_modify];split
   ·rename_i af
    subst af;cases al:w.heap[e.bd]? with
    |none=>rfl
    |some o=>
     cases o<;>try rfl
     rename_i c t fr;simp only [Option.map_some,Option.isSome_none,Bool.false_eq_true,if_false,cz,Obj.cells.injEq,and_true];simp only [World.cell?,al,Option.isSome_none,Bool.false_eq_true,if_false] at ai;apply Array.ext_getElem?;intro j;rw[Array.getElem?_setIfInBounds];split
     ·rename_i hj;subst hj
      obtain⟨bt,_⟩:=Array.getElem?_eq_some_iff.1 ai;rw[aI bt,ai]
     ·rfl
   ·rfl
  exact congrArg (λh=>{w with heap:=h}) this
 rw[this] at st;exact st
theorem RK {φ:bM} {b:Nat} {e:gP} (he:φ b=some e) {w:ao}:∀(vs:List J) (A aS:aW) (off:Nat),bN φ A w->A.pM b off vs=some aS->
  (∀j,j<vs.length->∃aC,w.cell? ⟨e.bd,e.sh+(off+j),none⟩=some aC/\aD φ (vs.getD j undef) aC)->cb φ A w φ aS w
 |[],A,aS,off,hr,h,_=>by
  simp only [aW.pM,cz] at h;subst h;exact cb.refl hr
 |v::r,A,aS,off,hr,h,ax=>by
  unfold aW.pM at h;cases h1:AE.vU v with
  |false=>rw[h1] at h;cases h
  |true=>
   rw[h1,bs] at h;cases hs:A.store b off v with
   |none=>rw[hs] at h;cases h
   |some br=>
    rw[hs] at h;simp only at h;obtain⟨aC,g1,g2⟩:=ax 0 (by simp);have st:=abn hr hs he (by simpa using g2) (by simpa using g1);exact cb.trans hr st (RK he r br aS (off+1) st.rel h λj hj=>by
     obtain⟨abo,q1,aB⟩:=ax (j+1) (by simpa using hj)
     exact⟨abo,by rw[show off+1+j=off+(j+1) by omega];exact q1,by simpa using aB⟩)
end AE
namespace AE
variable [a6]
omit [a6] in
theorem RL (RM:Nat):∀(r c:Nat),Builtin.growBy RM r c<=(c+768)*2^r
 |0,c=>by simp [Builtin.growBy]
 |r+1,c=>by
  unfold Builtin.growBy;split
  ·have:1<=2^(r+1):=Nat.one_le_two_pow
   calc c<=c+768:=by omega
    _=(c+768)*1:=by omega
    _<=(c+768)*2^(r+1):=Nat.mul_le_mul_left _ this
  ·have h:=RL RM r (c+(c+768)/4)
   calc _<=(c+(c+768)/4+768)*2^r:=h
    _<=((c+768)*2)*2^r:=Nat.mul_le_mul_right _ aj
    _=(c+768)*2^(r+1):=by rw[Nat.pow_succ,Nat.mul_assoc,Nat.mul_comm 2]
omit [a6] in
theorem abp {need c:Nat} (h:c<need) (ak:need<=1048576):Builtin.nextslicecap need c<=33554432:=by
 unfold Builtin.nextslicecap;split
 ·omega
 ·split
  ·omega
  ·have bm:=RL need 4 c
   have xM:(c+768)*2^4<=33554432:=by
    rw[show (2:Nat)^4=16 from rfl];omega
   exact Nat.le_trans bm xM
omit [a6] in
theorem RN (z:Array J) (n:Nat):(Builtin.zeroCells z n).size=n*z.size:=by simp [Builtin.zeroCells]
section
variable {P:aQ} {φ:bM} {A aS:aW} {w:ao}
omit [a6] in
theorem RO (a:Addr) (n:Nat) {v:Array J} (h:(loadCells a n).run P w= .ok v w) (d:Nat) (ai:∀j,j<n->∃u,w.cell? (a.add j)=some u):(loadCells a n).run P {w with drawn:=d}= .ok v {w with drawn:=d}:=by
 let f:Nat->J:=λj=>(w.cell? (a.add j)).getD undef
 have aO:∀j,j<n->w.cell? (a.add j)=some (f j):=λj hj=>by
  obtain⟨u,hu⟩:=ai j hj;simp [f,hu]
 have h1:=run_loadCells (P:=P) w a n f aO;rw[h] at h1;have ae:=run_loadCells (P:=P) {w with drawn:=d} a n f aO;rw[ae];injection h1 with h1;rw[h1]
def GI (A:aW) (aX:Nat):J->Option (Nat×List J)
 | .slice (some ⟨b,off,none⟩) n _=>(A.qz b off (n*aX)).map λl=>(n,l)
 | .slice none 0 0=>some (0,[])
 | .string s=>bif aX==1 then some (s.size,s.data.toList.map λb=> .int .u8 b.toNat) else none
 |_=>none
theorem abq (hr:bN φ A w) {aX n:Nat} {x x':J} {l:List J} (ah:aD φ x x') (h:GI A aX x=some (n,l)):
  l.length=n*aX/\∃jB:Array J,jB.size=l.length/\(∀j,j<l.length->aD φ (l.getD j undef) (jB.getD j undef))/\
    (∀d,(Builtin.lenOf x').run P {w with drawn:=d}= .ok n {w with drawn:=d})/\∀d,(Builtin.firstCells aX n x').run P {w with drawn:=d}= .ok jB {w with drawn:=d}:=by
 unfold GI at h;split at h
 ·rename_i b off fi c
  obtain⟨l',eT,heq⟩:=Option.map_eq_some_iff.1 h;simp only [Prod.mk.injEq] at heq;obtain⟨rfl,rfl⟩:=heq;obtain⟨hlen,vW⟩:=zc eT;have main:∀(e:gP) (c':Nat),φ b=some e->∃jB:Array J,jB.size=l'.length/\(∀j,j<l'.length->aD φ (l'.getD j undef) (jB.getD j undef))/\
   (∀d,(Builtin.lenOf (.slice (some ⟨e.bd,e.sh+off,none⟩) fi c')).run P {w with drawn:=d}= .ok fi {w with drawn:=d})/\∀d,(Builtin.firstCells aX fi (.slice (some ⟨e.bd,e.sh+off,none⟩) fi c')).run P {w with drawn:=d}= .ok jB {w with drawn:=d}:=by
   intro e c' he;obtain⟨df,h1,ae,ar⟩:=Dh hr P eT he;refine⟨df,ae,ar,λd=>rfl,λd=> ?_⟩;exact RO _ _ h1 d λj hj=>by
    obtain⟨aC,g1,_⟩:=tl hr (vW j hj) he;exact⟨aC,by rw[Addr.jA,Nat.add_assoc];exact g1⟩
  cases ah with
  |hR _ c' he=>exact⟨hlen,main _ _ he⟩
  |hS _ _ c' he _ _ _=>exact⟨hlen,main _ _ he⟩
  |h7 aR _=>
   have:l'=[]:=by simpa using hlen
   subst this;refine⟨by simp,#[],rfl,λj hj=>absurd hj (by simp),λd=>rfl,λd=> ?_⟩;simp [Builtin.firstCells,loadCells,loadCellsFrom,Sem.run,pure]
 ·simp only [cz,Prod.mk.injEq] at h
  obtain⟨rfl,rfl⟩:=h;cases ah with
  |slnil=>exact⟨by simp,#[],rfl,λj hj=>absurd hj (by simp),λd=>rfl,λd=>rfl⟩
 ·rename_i s
  cases hs:(aX==1) with
  |false=>rw[hs] at h;cases h
  |true=>
   rw[hs,bs] at h;simp only [cz,Prod.mk.injEq] at h;obtain⟨rfl,rfl⟩:=h;have vX:aX=1:=by simpa using hs
   cases ah with
   |string=>
    refine⟨by simp [vX],(s.data.toList.map λb=>Value.int .u8 b.toNat).toArray,by simp,λj hj=> ?_,λd=>rfl,λd=> ?_⟩
    ·simp only [eO,List.getElem?_toArray,c_]
     have gh:j<s.data.toList.length:=by simpa using hj
     simp only [List.getElem?_map,fy gh,Option.map_some,Option.getD_some];exact .int _ _
    ·simp only [Builtin.firstCells]
     show Result.ok _ _=Result.ok _ _;congr 1;have:(s.extract 0 s.size)=s:=by simp
     rw[this];apply Array.ext';simp
 ·cases h
omit [a6] in
theorem cJ {α eC:Type} {s:Sem α} {k:α->Sem eC} {a:α} {w:ao} {r:Result eC} (h:a' P s=some a) (ag:(k a).run P w=r):(s >>= k).run P w=r:=by
 rw[Sem.run_bind,iF h w];exact ag
omit [a6] in
theorem c6 {α eC:Type} {s:Sem α} {k:α->Sem eC} {a:α} {w w1:ao} {r:Result eC} (h:s.run P w= .ok a w1) (ag:(k a).run P w1=r):(s >>= k).run P w=r:=by
 rw[Sem.run_bind,h];exact ag
def GJ:TypeDesc->Bool
 | .int _=>true
 |_=>false
omit [a6] in
theorem GK {cM:Array aK} {t t2 elem ty:aK} {aX n mU qD:Nat} {base:Option Addr} {x':J} {jB:Array J} (aJ:cM[0]? =some t) (h1:cM[1]? =some t2)
  (hu:a' P (underlying t)=some (.slice elem)) {jK:TypeDesc} (si:a' P (underlying t2)=some jK) (a8:GJ jK=false) (b5:a' P (sizeOf elem)=some aX)
  (hlen:(Builtin.lenOf x').run P w= .ok n w) (uR:(Builtin.firstCells aX n x').run P w= .ok jB w) (pc:mU+n<=qD) {w':ao}
  (cF:(match base with|some a=>storeCells (a.add (mU*aX)) jB.toList|none=>pure ()).run P w= .ok () w'):
  (Builtin.append_ cM ty #[.slice base mU qD,x']).run P w= .ok (.slice base (mU+n) qD) w':=by
 unfold Builtin.append_;simp only [aJ,h1,List.getElem?_toArray,List.getElem?_cons_zero,List.getElem?_cons_succ];refine cJ hu ?_;simp only;refine cJ b5 ?_;refine cJ si ?_;refine cJ (a:=false) (by cases jK<;>first|rfl|cases a8) ?_;simp only [Bool.false_eq_true,if_false];refine c6 hlen ?_;rw[aI pc];simp only [Bool.not_false,if_true];refine c6 uR ?_;cases base with
 |none=>
  have:w'=w:=by
   have h:Result.ok () w=Result.ok () w':=cF;injection h with _ h;exact h.symm
  subst this;rfl
 |some a=>exact c6 cF rfl
omit [a6] in
theorem RP {cM:Array aK} {t t2 elem ty:aK} {info:TypeInfo} {z:J} {aX n mU qD:Nat} {base:Option Addr} {x':J} {iG jB:Array J} (aJ:cM[0]? =some t) (h1:cM[1]? =some t2)
  (hu:a' P (underlying t)=some (.slice elem)) {jK:TypeDesc} (si:a' P (underlying t2)=some jK) (a8:GJ jK=false) (b5:a' P (sizeOf elem)=some aX)
  (af:a' P (typeInfo elem)=some info) (abr:a' P (zeroValue elem)=some z) (gL:info.bytes≠0) (ad:info.bytes<=65536) (tr:mU+n<=1048576)
  (hlen:(Builtin.lenOf x').run P w= .ok n w) (uR:∀d,(Builtin.firstCells aX n x').run P {w with drawn:=d}= .ok jB {w with drawn:=d})
  (hold:∀d,(Builtin.firstCells aX mU (.slice base mU qD)).run P {w with drawn:=d}= .ok iG {w with drawn:=d}) (pc:qD<mU+n):
  ∃k0,mU+n<=k0/\(Builtin.append_ cM ty #[.slice base mU qD,x']).run P w=
   .ok (.slice (some ⟨w.heap.size,0,none⟩) (mU+n) k0) {w with drawn:=w.drawn+1,heap:=w.heap.push (.cells (iG++jB++Builtin.zeroCells z.cells (k0-(mU+n))) elem)}:=by
 refine⟨(Question.appendCap (mU+n) qD elem).cut (w.tape w.drawn (.appendCap (mU+n) qD elem)),by simp [Question.cut],?_⟩;unfold Builtin.append_;simp only [aJ,h1,List.getElem?_toArray,List.getElem?_cons_zero,List.getElem?_cons_succ];refine cJ hu ?_;simp only;refine cJ b5 ?_;refine cJ si ?_;refine cJ (a:=false) (by cases jK<;>first|rfl|cases a8) ?_;simp only [Bool.false_eq_true,if_false];refine c6 hlen ?_;rw[aG aj];refine cJ af ?_;rw[aG (by simp [gL])];refine cJ af ?_;have jC:=abp pc tr;have hle:¬(Builtin.nextslicecap (mU+n) qD*info.bytes>2^48):=by
  have h:=Nat.mul_le_mul jC ad;have ae:33554432*65536<=2^48:=by decide
  omega
 rw[aG hle];refine c6 (w1:={w with drawn:=w.drawn+1}) (a:=(Question.appendCap (mU+n) qD elem).cut (w.tape w.drawn (.appendCap (mU+n) qD elem))) (by simp [choose,Sem.run,Question.forced]) ?_;refine cJ af ?_;refine c6 (w1:={w with drawn:=w.drawn+1}) (a:=()) (by unfold askRoom;split<;>rfl) ?_;refine c6 (hold _) ?_;simp only [Bool.not_false,if_true];refine c6 (uR _) ?_;refine cJ abr ?_;refine c6 (a:=(⟨w.heap.size,0,none⟩:Addr)) (by simp only [newRow,newObj];rfl) ?_;rfl
end
end AE
namespace AE
variable [a6]
section
variable {P:aQ} {φ:bM} {A aS:aW} {w:ao}
def KC (P:aQ) (A:aW) (cM:Array aK) (s x:J):Option (J×aW):=
 match cM[0]?,cM[1]? with
 |some t,some t2=>match a' P (underlying t),a' P (underlying t2) with
  |some (.slice elem),some jK=>
   match a' P (sizeOf elem),a' P (typeInfo elem),a' P (zeroValue elem) with
   |some aX,some info,some z=>
    bif GJ jK||Nat.beq aX 0||Nat.beq info.bytes 0|| !Nat.ble info.bytes 65536|| !Nat.beq z.cells.size aX then none else
     match GI A aX x with
     |some (n,cR)=>
      bif !Nat.ble n 524288 then none else
      match s with
      | .slice none 0 0=>bif Nat.beq n 0 then some (.slice none 0 0,A) else
          match A.push (.cells cR) aX elem with
          |some (r,br)=>some (.slice (some ⟨r,0,none⟩) n n,br)
          |none=>none
      | .slice (some ⟨b,off,none⟩) sl pN=>
        bif !Nat.ble sl 524288||(Nat.beq b dead&& !Nat.beq off 0) then none else
         bif Nat.ble (sl+n) pN then
          match A.pM b (off+sl*aX) cR with
          |some br=>some (.slice (some ⟨b,off,none⟩) (sl+n) pN,br)
          |none=>none
         else match A.bl.get b with
          |none=>bif Nat.beq sl 0&&Nat.beq pN 0 then
            match A.push (.cells cR) aX elem with
            |some (r,br)=>some (.slice (some ⟨r,0,none⟩) n n,br)
            |none=>none
           else none
          |some k=>match A.qz b off (sl*aX) with
           |some old=>
            bif Nat.beq k.ei 0 then
             match A.push (.cells (old++cR)) aX elem with
             |some (r,br)=>some (.slice (some ⟨r,0,none⟩) (sl+n) (sl+n),br)
             |none=>none
            else bif Nat.beq k.ei aX then
             match A.GH b (k.pos+off) aX elem (old++List.replicate (n*aX) cL) with
             |some (r,br)=>match br.pM r (sl*aX) cR with
              |some eD=>some (.slice (some ⟨r,0,none⟩) (sl+n) (sl+n),eD)
              |none=>none
             |none=>none
            else none
           |none=>none
      |_=>none
     |none=>none
   |_,_,_=>none
  |_,_=>none
 |_,_=>none
theorem KD (hr:bN φ A w) (d:Nat):bN φ A {w with drawn:=d}:=⟨hr.wf,hr.ea,hr.apart,hr.along,hr.dL⟩
theorem RQ {old cR:List J} {iG jB rest:Array J} (h1:iG.size=old.length) (ae:∀j,j<old.length->aD φ (old.getD j undef) (iG.getD j undef)) (ar:jB.size=cR.length)
  (bm:∀j,j<cR.length->aD φ (cR.getD j undef) (jB.getD j undef)):∀j,j<(old++cR).length->aD φ ((old++cR).getD j undef) ((iG++jB++rest).getD j undef):=by
 intro j hj;simp only [List.length_append] at hj;simp only [c_,eO,List.getElem?_append,Array.getElem?_append,Array.size_append] at ae bm ⊢;by_cases ze:j<old.length
 ·rw[aI ze,aI aj,aI aj]
  exact ae j ze
 ·rw[aG ze,aI aj,aG aj,h1]
  exact bm (j-old.length) aj
theorem abt (hr:bN φ A w) {elem:aK} {aX sl n:Nat} {old cR:List J} {iG jB rest:Array J} {r k0:Nat} (b5:1<=aX) (hp:A.push (.cells (old++cR)) aX elem=some (r,aS))
  (h1:iG.size=old.length) (ae:∀j,j<old.length->aD φ (old.getD j undef) (iG.getD j undef)) (ar:jB.size=cR.length) (bm:∀j,j<cR.length->aD φ (cR.getD j undef) (jB.getD j undef))
  (ts:old.length=sl*aX) (hB:cR.length=n*aX) (jC:sl+n<=k0) (uQ:rest.size=(k0-(sl+n))*aX):
  ∃cP w',w'={w with drawn:=w.drawn+1,heap:=w.heap.push (.cells (iG++jB++rest) elem)}/\
   aD cP (.slice (some ⟨r,0,none⟩) (sl+n) (sl+n)) (.slice (some ⟨w.heap.size,0,none⟩) (sl+n) k0)/\cb φ A w cP aS w':=by
 have kG:=KD hr (w.drawn+1);obtain⟨cP,w',g1,g2,g3,g4⟩:=Bi kG (default:aQ) (c':=iG++jB++rest) elem hp (by simp;omega) (λh=>absurd (show aX=0 from h) aj) (RQ h1 ae ar bm);refine⟨cP,w',g4,?_,cb.trans hr (cb.xH hr (w.drawn+1)) g3⟩;have abu:(iG++jB++rest).size=k0*aX:=by
  simp only [Array.size_append,h1,ar,ts,hB,uQ];rw[<-Nat.add_mul,<-Nat.add_mul];congr 1;omega
 have:=aD.hS (φ:=cP) (b:=r) (o:=0) (sl+n) (sl+n) k0 g2 b5 jC (by
  simp only [Nat.zero_add]
  rw[abu];exact bL _)
 simpa using this
theorem abv (hr:bN φ A w) {cM:Array aK} {ty:aK} {s eZ x x' v:J} (hs:aD φ s eZ) (ah:aD φ x x') (h:KC P A cM s x=some (v,aS)):bP (gQ v) P φ A w (Builtin.append_ cM ty #[eZ,x']) aS:=by
 unfold KC at h;split at h
 ·rename_i t t2 aF vY
  split at h
  ·rename_i elem jK hu si
   split at h
   ·rename_i aX info z b5 af bu
    cases ai:(GJ jK||Nat.beq aX 0||Nat.beq info.bytes 0|| !Nat.ble info.bytes 65536|| !Nat.beq z.cells.size aX) with
    |true=>rw[ai] at h;cases h
    |false=>
     rw[ai,dZ] at h;simp only [Bool.or_eq_false_iff,Bool.not_eq_false'] at ai;obtain⟨⟨⟨⟨a8,cp⟩,c2⟩,c3⟩,mx⟩:=ai;have KE:1<=aX:=by
      rcases Nat.eq_zero_or_pos aX with aJ|aJ
      ·subst aJ;simp at cp
      ·exact aJ
     have gL:info.bytes≠0:=by
      intro aJ;rw[aJ] at c2;simp at c2
     have ad:info.bytes<=65536:=Nat.ble_eq.mp c3;have pb:z.cells.size=aX:=cq mx;cases zf:GI A aX x with
     |none=>rw[zf] at h;cases h
     |some q=>
      obtain⟨n,cR⟩:=q;rw[zf] at h;simp only at h;obtain⟨hB,jB,jy,iW,Bl,uR⟩:=abq (P:=P) hr ah zf;cases zg:Nat.ble n 524288 with
      |false=>rw[zg] at h;cases h
      |true=>
       rw[zg,Bool.not_true,dZ] at h;have ak:=Nat.ble_eq.mp zg;have fresh:∀(sl:Nat) (old:List J) (iG:Array J) (base:Option Addr) (lG r:Nat),sl<=524288->old.length=sl*aX->iG.size=old.length->(∀j,j<old.length->aD φ (old.getD j undef) (iG.getD j undef))->
         (∀d,(Builtin.firstCells aX sl (.slice base sl lG)).run P {w with drawn:=d}= .ok iG {w with drawn:=d})->lG<sl+n->A.push (.cells (old++cR)) aX elem=some (r,aS)->
         bP (gQ (.slice (some ⟨r,0,none⟩) (sl+n) (sl+n))) P φ A w (Builtin.append_ cM ty #[.slice base sl lG,x']) aS:=by
        intro sl old iG base lG r gC ts GL zh hold pc hp;obtain⟨k0,jC,eH⟩:=RP (ty:=ty) aF vY hu si a8 b5 af bu gL ad aj (Bl w.drawn) uR hold pc;obtain⟨cP,w',e1,e2,fI⟩:=abt hr KE hp GL zh jy iW ts hB jC (rest:=Builtin.zeroCells z.cells (k0-(sl+n))) (by rw[RN,pb]);subst e1;exact⟨cP,_,_,eH,e2,fI⟩
       split at h
       ·
        cases hs;cases fX:Nat.beq n 0 with
        |true=>
         rw[fX,bs] at h;simp only [cz,Prod.mk.injEq] at h;obtain⟨rfl,rfl⟩:=h;have RR:n=0:=cq fX;subst RR;exact⟨φ,w,_,GK aF vY hu si a8 b5 (Bl w.drawn) (uR w.drawn) (bL _) rfl,.slnil _ _,cb.refl hr⟩
        |false=>
         rw[fX,dZ] at h;split at h
         ·rename_i r br hp
          simp only [cz,Prod.mk.injEq] at h;obtain⟨rfl,rfl⟩:=h;have RR:n≠0:=λe=>by subst e;simp at fX
          have:=fresh 0 [] #[] none 0 r aj (by simp) rfl (λj hj=>absurd hj (by simp)) (λd=>rfl) aj (by simpa using hp);simpa using this
         ·cases h
       ·rename_i b off sl pN
        cases KF:Nat.ble sl 524288 with
        |false=>rw[KF] at h;cases h
        |true=>
         rw[KF,Bool.not_true,Bool.false_or] at h;cases GM:(Nat.beq b dead&& !Nat.beq off 0) with
         |true=>rw[GM] at h;cases h
         |false=>
         rw[GM,dZ] at h;have GN:b=dead->off=0:=λe=>by
          subst e;rw[Nat.beq_refl,Bool.true_and,Bool.not_eq_false'] at GM;exact cq GM
         have gC:=Nat.ble_eq.mp KF;cases pc:Nat.ble (sl+n) pN with
         |true=>
          rw[pc,bs] at h;have Dt:=Nat.ble_eq.mp pc;split at h
          ·rename_i br cF
           simp only [cz,Prod.mk.injEq] at h;obtain⟨rfl,rfl⟩:=h;have room:∀(e:gP) (lG:Nat),φ b=some e->sl+n<=lG->∃w',cb φ A w φ br w'/\(Builtin.append_ cM ty #[.slice (some ⟨e.bd,e.sh+off,none⟩) sl lG,x']).run P w= .ok (.slice (some ⟨e.bd,e.sh+off,none⟩) (sl+n) lG) w':=by
            intro e lG he hle;obtain⟨w',g1,g2⟩:=Bh P he cR A br w (off+sl*aX) 0 jB.toList hr cF (by simpa using jy) (λj hj=>by
             have:=iW j hj;simp only [eO] at this
             simpa [c_] using this)
            refine⟨w',g2,GK aF vY hu si a8 b5 (Bl w.drawn) (uR w.drawn) hle ?_⟩;simp only [Addr.jA];rw[Nat.add_assoc];exact g1
           cases hs with
           |hR _ _ he=>
            obtain⟨w',g1,g2⟩:=room _ _ he Dt;exact⟨φ,w',_,g2,.hR _ _ he,g1⟩
           |hS _ _ c' he q1 aB b_=>
            obtain⟨w',g1,g2⟩:=room _ c' he aj;exact⟨φ,w',_,g2,.hS _ _ _ he q1 aB b_,g1⟩
           |h7 aR qC=>
            have zi:=qC (GN rfl);subst zi;have fX:n=0:=by omega
            subst fX;have abw:cR=[]:=by simpa using hB
            subst abw;simp only [aW.pM,cz] at cF;subst cF;have KG:jB= #[]:=Array.eq_empty_of_size_eq_zero jy;subst KG;exact⟨φ,w,_,GK aF vY hu si a8 b5 (Bl w.drawn) (uR w.drawn) (bL _) rfl,.h7 _ qC,cb.refl hr⟩
          ·cases h
         |false=>
          rw[pc,dZ] at h;have Dt:pN<sl+n:=by
           rcases Nat.lt_or_ge pN (sl+n) with h1|h1
           ·exact h1
           ·rw[Nat.ble_eq.mpr h1] at pc;cases pc
          cases ag:A.bl.get b with
          |none=>
           rw[ag] at h;simp only at h;cases sj:(Nat.beq sl 0&&Nat.beq pN 0) with
           |false=>rw[sj] at h;cases h
           |true=>
            rw[sj,bs] at h;simp only [cV] at sj;have e1:sl=0:=cq sj.1;have e2:pN=0:=cq sj.2;subst e1;subst e2;split at h
            ·rename_i r br hp
             simp only [cz,Prod.mk.injEq] at h;obtain⟨rfl,rfl⟩:=h;have Du:∀e,φ b≠some e:=λe he=>by
              obtain⟨k,dj,_⟩:=hr.ea b e he;rw[ag] at dj;cases dj
             cases hs with
             |hR _ _ he=>exact absurd he (Du _)
             |hS _ _ c' he q1 aB b_=>exact absurd he (Du _)
             |h7 aR qC=>
              have zi:=qC (GN rfl);subst zi;have:=fresh 0 [] #[] (some aR) 0 r aj (by simp) rfl (λj hj=>absurd hj (by simp)) (λd=>by simp [Builtin.firstCells,loadCells,loadCellsFrom,Sem.run,pure]) aj (by simpa using hp);simpa using this
            ·cases h
          |some k=>
           rw[ag] at h;simp only at h;cases hold:A.qz b off (sl*aX) with
           |none=>rw[hold] at h;cases h
           |some old=>
            rw[hold] at h;simp only at h;obtain⟨ts,vW⟩:=zc hold;have KH:∀(e:gP) (lG:Nat),φ b=some e->∃iG:Array J,iG.size=old.length/\(∀j,j<old.length->aD φ (old.getD j undef) (iG.getD j undef))/\
              ∀d,(Builtin.firstCells aX sl (.slice (some ⟨e.bd,e.sh+off,none⟩) sl lG)).run P {w with drawn:=d}= .ok iG {w with drawn:=d}:=by
             intro e lG he;obtain⟨df,h1,ae,ar⟩:=Dh hr P hold he;exact⟨df,ae,ar,λd=>RO _ _ h1 d λj hj=>by
              obtain⟨aC,g1,_⟩:=tl hr (vW j hj) he
              exact⟨aC,by rw[Addr.jA,Nat.add_assoc];exact g1⟩⟩
            have RS:∀(aR:Addr),sl=0->∀d,(Builtin.firstCells aX sl (.slice (some aR) sl 0)).run P {w with drawn:=d}= .ok #[] {w with drawn:=d}:=by
             intro aR e d;subst e;simp [Builtin.firstCells,loadCells,loadCellsFrom,Sem.run,pure]
            cases vZ:Nat.beq k.ei 0 with
            |true=>
             rw[vZ,bs] at h;have gV:k.ei=0:=cq vZ;split at h
             ·rename_i r br hp
              simp only [cz,Prod.mk.injEq] at h;obtain⟨rfl,rfl⟩:=h;cases hs with
              |hR _ _ he=>
               obtain⟨iG,iX,k1,xN⟩:=KH _ pN he;exact fresh sl old iG _ pN r gC ts iX k1 xN Dt hp
              |hS _ _ c' he q1 aB b_=>
               obtain⟨k',dj,cF,_⟩:=hr.ea b _ he;rw[ag] at dj;cases dj;omega
              |h7 aR qC=>
               have zi:=qC (GN rfl);subst zi;have KI:old=[]:=by simpa using ts
               subst KI;exact fresh 0 [] #[] (some aR) 0 r aj (by simp) rfl (λj hj=>absurd hj (by simp)) (RS aR rfl) aj hp
             ·cases h
            |false=>
             rw[vZ,dZ] at h;cases Dv:Nat.beq k.ei aX with
             |false=>rw[Dv] at h;cases h
             |true=>
              rw[Dv,bs] at h;have Dw:k.ei=aX:=cq Dv;split at h
              ·rename_i r br hp
               split at h
               ·rename_i eD RT
                simp only [cz,Prod.mk.injEq] at h;obtain⟨rfl,rfl⟩:=h;obtain⟨_,_,_,kH,_,da,_,_,rfl,_,_,_,_,_⟩:=KB hp hr.wf;have bt:∀b e,φ b=some e->∀em,gB φ A.n em b=some e:=λb e ad em=>by
                 unfold gB;rw[aG (by have:=hr.lt ad;omega)];exact ad
                have KJ:∀(base:Option Addr) (lG:Nat) (iG:Array J),iG.size=old.length->(∀j,j<old.length->aD φ (old.getD j undef) (iG.getD j undef))->
                  (∀d,(Builtin.firstCells aX sl (.slice base sl lG)).run P {w with drawn:=d}= .ok iG {w with drawn:=d})->lG<sl+n->
                  bP (gQ (.slice (some ⟨A.n,0,none⟩) (sl+n) (sl+n))) P φ A w (Builtin.append_ cM ty #[.slice base sl lG,x']) eD:=by
                 intro base lG iG iX k1 xN aO;obtain⟨k0,jC,eH⟩:=RP (ty:=ty) aF vY hu si a8 b5 af bu gL ad aj (Bl w.drawn) uR xN aO;have mV:(iG++jB++Builtin.zeroCells z.cells (k0-(sl+n))).size=k0*aX:=by
                  simp only [Array.size_append,iX,jy,ts,hB,RN,pb];rw[<-Nat.add_mul,<-Nat.add_mul];congr 1;omega
                 have kG:=KD hr (w.drawn+1);have jL:=RQ (rest:=Builtin.zeroCells z.cells (k0-(sl+n))) iX k1 jy iW;have hle:(sl+n)*aX<=k0*aX:=Nat.mul_le_mul_right _ jC;have abx:sl*aX+n*aX=(sl+n)*aX:=(Nat.add_mul _ _ _).symm;have oH:=RJ (e:=⟨w.heap.size,0,aX,k0*aX⟩) kG hp rfl (.inl ⟨rfl,.cells (iG++jB++Builtin.zeroCells z.cells (k0-(sl+n))) elem,rfl⟩) (λk' dj=>by
                  simp only [fh];refine⟨_,(0,0),by simp,mV.symm,⟨by simp only [List.length_append,kX,Nat.zero_add,ts,mV];omega,λh=>absurd (show aX=0 from h) aj⟩,λj hj=> ?_,λ_ i _=>by simp⟩;simp only [List.length_append,kX] at hj;simp only [Nat.zero_add];by_cases ze:j<old.length
                  ·have:=(jL j (by simp;omega)).mono λjc e1 kZ=>bt jc e1 kZ ⟨w.heap.size,0,aX,k0*aX⟩
                   rw[c_,List.getElem?_append_left ze] at this ⊢;exact this
                  ·rw[c_,List.getElem?_append_right aj,List.getElem?_replicate,aI aj]
                   exact .cL _)
                 have uP:=RK (e:=⟨w.heap.size,0,aX,k0*aX⟩) (by simp [gB]) cR br eD (sl*aX) oH.rel RT (λj hj=>by
                  have:=(jL (sl*aX+j) (by simp;omega)).mono λjc e1 kZ=>bt jc e1 kZ ⟨w.heap.size,0,aX,k0*aX⟩
                  rw[c_,List.getElem?_append_right aj,ts,Nat.add_sub_cancel_left,<-c_] at this;refine⟨_,?_,this⟩;simp only [World.cell?,Nat.zero_add];have hX:sl*aX+j<(iG++jB++Builtin.zeroCells z.cells (k0-(sl+n))).size:=by rw[mV];omega
                  simp only [Array.getElem?_push_size,Option.isSome_none,Bool.false_eq_true,if_false,eO];rw[Array.getElem?_eq_getElem hX]
                  rfl)
                 refine⟨_,_,_,eH,?_,cb.trans hr (cb.xH hr (w.drawn+1)) (cb.trans kG oH uP)⟩;have:=aD.hS (φ:=gB φ A.n ⟨w.heap.size,0,aX,k0*aX⟩) (b:=A.n) (o:=0) (e:=⟨w.heap.size,0,aX,k0*aX⟩) (sl+n) (sl+n) k0 (by simp [gB]) KE jC (by simp);simpa using this
                cases hs with
                |hR _ _ he=>
                 obtain⟨iG,iX,k1,xN⟩:=KH _ pN he;exact KJ _ _ iG iX k1 xN Dt
                |h7 aR qC=>
                 have zi:=qC (GN rfl);subst zi;have KI:old=[]:=by simpa using ts
                 subst KI;exact KJ (some aR) 0 #[] rfl (λj hj=>absurd hj (by simp)) (RS aR rfl) Dt
                |hS _ _ c' he q1 aB b_=>
                 rename_i e;obtain⟨iG,iX,k1,xN⟩:=KH _ c' he;rcases Nat.lt_or_ge c' (sl+n) with qA|j'
                 ·exact KJ _ _ iG iX k1 xN qA
                 ·
                  obtain⟨k',dj,KK,aby⟩:=hr.ea b e he;rw[ag] at dj;cases dj;have sk:e.ei=aX:=KK.trans Dw;have abx:sl*aX+n*aX=(sl+n)*aX:=(Nat.add_mul _ _ _).symm;have hle:(sl+n)*aX<=c'*aX:=Nat.mul_le_mul_right _ j';rw[sk] at b_;have oH:=RJ (e:=⟨e.bd,e.sh+off,aX,e.y8⟩) hr hp rfl (.inr ⟨rfl,e,k,he,ag,rfl,by simp only;omega⟩) (λk' dj=>by
                   rw[ag] at dj;cases dj;obtain⟨cW,c2,k2,g1,g2,g3,g4,_⟩:=KB hp hr.wf;rw[ag] at g1;cases g1;have KL:=aby;unfold fh at KL;simp only [g2] at KL;obtain⟨c3,abz,cQ,dr,fP,tj,Bd⟩:=KL;simp only [fh];refine⟨c3,abz,by rw[<-g4];exact cQ,dr,⟨by simp only [List.length_append,kX,ts];omega,λh=>absurd (show aX=0 from h) aj⟩,λj hj=> ?_,λ_=>Bd g3⟩;simp only [List.length_append,kX] at hj;by_cases ze:j<old.length
                   ·rw[c_,List.getElem?_append_left ze,<-c_]
                    obtain⟨aC,eB,hh⟩:=tl hr (vW j aj) he;simp only [World.cell?,cQ,Option.isSome_none,Bool.false_eq_true,if_false] at eB;rw[eO,Nat.add_assoc,eB];exact hh.mono λjc e1 kZ=>bt jc e1 kZ _
                   ·rw[c_,List.getElem?_append_right aj,List.getElem?_replicate,aI aj]
                    exact .cL _)
                  obtain⟨w',g1,g2⟩:=Bh P (e:=⟨e.bd,e.sh+off,aX,e.y8⟩) (by simp [gB]) cR br eD w (sl*aX) 0 jB.toList oH.rel RT (by simpa using jy) (λj hj=>by
                   have:=(iW j hj).mono λjc e1 kZ=>bt jc e1 kZ ⟨e.bd,e.sh+off,aX,e.y8⟩
                   simp only [eO] at this
                   simpa [c_] using this)
                  refine⟨_,w',_,GK aF vY hu si a8 b5 (Bl w.drawn) (uR w.drawn) j' (w':=w') ?_,?_,cb.trans hr oH g2⟩
                  ·simp only [Addr.jA]
                   exact g1
                  ·have:=aD.hS (φ:=gB φ A.n ⟨e.bd,e.sh+off,aX,e.y8⟩) (b:=A.n) (o:=0) (e:=⟨e.bd,e.sh+off,aX,e.y8⟩) (sl+n) (sl+n) c' (by simp [gB]) KE j' (by simp only [Nat.add_zero];exact b_)
                   simpa using this
               ·cases h
              ·cases h
       ·cases h
   ·cases h
  ·cases h
 ·cases h
end
end AE
namespace AE
variable [a6]
section
variable {P:aQ} {φ:bM} {A aS:aW} {w:ao}
omit [a6] in
theorem abA {α:Type} (k:IntKind) (x y:Int) (c:BoundsCode):a' P (boundsPanic k x y c:Sem α)=none:=by
 unfold boundsPanic;dsimp only;split
 ·rw[rp]
  have:a' P (Functor.map (λx=>x==1) (choose (.extern "runtime.boundsError.signed" 2)))=none:=rfl;rw[this];rfl
 ·rw[rp];rfl
omit [a6] in
theorem GO {v:J} {y:Nat} {c:BoundsCode} {r:Nat} (h:a' P (Instr.sliceBound v y c)=some r):∃k i,v= .int k i/\0<=i/\i<=y/\r=i.toNat:=by
 unfold Instr.sliceBound at h;rw[rp] at h;cases v with
 |int k i=>
  simp only [asIntOf,Dn,Option.bind_some] at h;split at h
  ·rename_i ad
   simp only [Dn,cz] at h;exact⟨k,i,rfl,ad.1,ad.2,h.symm⟩
  ·rw[abA] at h;cases h
 |pointer a=>cases a<;>cases h
 |_=>cases h
omit [a6] in
theorem RU (k:IntKind) (i:Int) (y:Nat) (c:BoundsCode) (aJ:0<=i) (h1:i<=y):a' P (Instr.sliceBound (.int k i) y c)=some i.toNat:=by
 unfold Instr.sliceBound;rw[rp];simp only [asIntOf,Dn,Option.bind_some];rw[aI ⟨aJ,h1⟩];rfl
omit [a6] in
theorem xO {b:Bool} {len c c' l h m:Nat} {gj af dT:Option J} (ai:c<=c') (ad:a' P (Instr.sliceBounds b len c gj af dT)=some (l,h,m)):
  a' P (Instr.sliceBounds b len c' gj af dT)=some (l,h,if dT.isSome then m else c')/\(dT=none->m=c)/\m<=c/\l<=h/\(dT.isSome=true->h<=m):=by
 have low:∀(y pO mW:Nat) (GQ:BoundsCode) {l h m:Nat},a' P (do
   let l <-match gj with
    |some v=>Instr.sliceBound v y GQ
    |none=>pure 0
   pure (l,y,pO))=some (l,h,m)->a' P (do
   let l <-match gj with
    |some v=>Instr.sliceBound v y GQ
    |none=>pure 0
   pure (l,y,mW))=some (l,h,mW)/\h=y/\m=pO/\l<=y:=by
  intro y pO mW GQ l h m hl;cases gj with
  |none=>
   simp only [rp,Dn,Option.bind_some,cz,Prod.mk.injEq] at hl ⊢;obtain⟨rfl,rfl,rfl⟩:=hl;simp
  |some v=>
   simp only [rp] at hl ⊢;cases hs:a' P (Instr.sliceBound v y GQ) with
   |none=>rw[hs] at hl;cases hl
   |some r=>
    rw[hs] at hl;simp only [Option.bind_some,Dn,cz,Prod.mk.injEq] at hl ⊢;obtain⟨k,i,_,aJ,h1,ae⟩:=GO hs;obtain⟨rfl,rfl,rfl⟩:=hl;refine⟨by simp,rfl,rfl,aj⟩
 cases dT with
 |none=>
  cases af with
  |none=>
   have e:∀bZ,Instr.sliceBounds b len bZ gj none none=(do
     let l <-match gj with
      |some v=>Instr.sliceBound v len (if (none:Option J).isSome then .slice3C else .sliceB)
      |none=>pure 0
     pure (l,len,bZ)):=λbZ=>by unfold Instr.sliceBounds;cases gj<;>rfl
   rw[e] at ad ⊢;obtain⟨g1,g2,g3,g4⟩:=low len c c' _ ad;subst g2;subst g3;exact⟨by simpa using g1,λ_=>rfl,bL _,g4,λh=>by cases h⟩
  |some zj=>
   have e:∀bZ,Instr.sliceBounds b len bZ gj (some zj) none=(do
     let h <-Instr.sliceBound zj bZ (if b then .sliceAcap else .sliceAlen)
     let l <-match gj with
      |some v=>Instr.sliceBound v h (if (none:Option J).isSome then .slice3C else .sliceB)
      |none=>pure 0
     pure (l,h,bZ)):=λbZ=>by unfold Instr.sliceBounds;cases gj<;>rfl
   rw[e] at ad ⊢;rw[rp] at ad ⊢;cases hs:a' P (Instr.sliceBound zj c (if b=true then .sliceAcap else .sliceAlen)) with
   |none=>rw[hs] at ad;cases ad
   |some r=>
    rw[hs,Option.bind_some] at ad;obtain⟨k,i,rfl,aJ,h1,rfl⟩:=GO hs;rw[RU k i c' _ aJ aj,Option.bind_some];obtain⟨g1,g2,g3,g4⟩:=low i.toNat c c' _ ad;subst g2;subst g3;exact⟨by simpa using g1,λ_=>rfl,bL _,g4,λh=>by cases h⟩
 |some uS=>
  cases af with
  |none=>
   exfalso;have e:Instr.sliceBounds b len c gj none (some uS)=(do
     let m <-Instr.sliceBound uS c (if b then .slice3Acap else .slice3Alen)
     let h <-(stuck "Slice: max without high":Sem Nat)
     let l <-match gj with
      |some v=>Instr.sliceBound v h (if (some uS).isSome then .slice3C else .sliceB)
      |none=>pure 0
     pure (l,h,m)):=by unfold Instr.sliceBounds;cases gj<;>rfl
   rw[e,rp] at ad;cases hs:a' P (Instr.sliceBound uS c (if b=true then .slice3Acap else .slice3Alen)) with
   |none=>rw[hs] at ad;cases ad
   |some r=>rw[hs] at ad;cases ad
  |some zj=>
   have e:∀bZ,Instr.sliceBounds b len bZ gj (some zj) (some uS)=(do
     let m <-Instr.sliceBound uS bZ (if b then .slice3Acap else .slice3Alen)
     let h <-Instr.sliceBound zj m .slice3B
     let l <-match gj with
      |some v=>Instr.sliceBound v h (if (some uS).isSome then .slice3C else .sliceB)
      |none=>pure 0
     pure (l,h,m)):=λbZ=>by unfold Instr.sliceBounds;cases gj<;>rfl
   rw[e,rp] at ad ⊢;cases hs:a' P (Instr.sliceBound uS c (if b=true then .slice3Acap else .slice3Alen)) with
   |none=>rw[hs] at ad;cases ad
   |some r=>
    rw[hs,Option.bind_some] at ad;obtain⟨k,i,rfl,aJ,h1,rfl⟩:=GO hs;rw[RU k i c' _ aJ aj,Option.bind_some];rw[rp] at ad ⊢;cases vX:a' P (Instr.sliceBound zj i.toNat .slice3B) with
    |none=>rw[vX] at ad;cases ad
    |some cQ=>
     rw[vX,Option.bind_some] at ad;rw[Option.bind_some];obtain⟨al7,i4,_,lo,q1,aB⟩:=GO vX;obtain⟨g1,g2,g3,g4⟩:=low cQ i.toNat i.toNat _ ad;subst g2;subst g3;refine⟨by simpa using g1,λh=>by simp at h,aj,g4,λ_=>by omega⟩
def KM (P:aQ) (A:aW) (t:aK) (x:J) (gj af dT:Option J):Option J:=
 match a' P (underlying t),x with
 |some (.array n elem),.pointer (some ⟨b,off,none⟩)=>
  match a' P (Instr.sliceBounds false n n gj af dT),a' P (sizeOf elem) with
  |some (l,h,m),some aX=>some (.slice (some ⟨b,if m=l then off else off+l*aX,none⟩) (h-l) (m-l))
  |_,_=>none
 |some (.slice elem),.slice (some ⟨b,off,none⟩) len cap=>
  match a' P (Instr.sliceBounds true len cap gj af dT),a' P (sizeOf elem),A.bl.get b with
  |some (l,h,m),some aX,some k=>
   bif Nat.beq k.ei 0||Nat.beq k.ei aX then
    match dT with
    |some _=>bif Nat.beq m l then some (.slice (some ⟨dead,0,none⟩) 0 0) else some (.slice (some ⟨b,off+l*aX,none⟩) (h-l) (m-l))
    |none=>bif Nat.ble h m then (bif Nat.beq m l then some (.slice (some ⟨dead,1,none⟩) 0 0) else some (.slice (some ⟨b,off+l*aX,none⟩) (h-l) (m-l))) else none
   else none
  |some (_,h,m),some _,none=>bif Nat.beq cap 0&&Nat.beq len 0&&Nat.ble h m then some (.slice (some ⟨b,off,none⟩) 0 0) else none
  |_,_,_=>none
 |_,_=>none
theorem abB (hr:bN φ A w) {t:aK} {x x' v:J} {gj af dT:Option J} (ah:aD φ x x') (h:KM P A t x gj af dT=some v):bP (gQ v) P φ A w (Instr.sliceAt t x' gj af dT) A:=by
 unfold KM at h;split at h
 ·rename_i n elem b off hu
  split at h
  ·rename_i l al m aX ad b5
   simp only [cz] at h;subst h;cases ah with
   |ptr he=>
    rename_i e;unfold Instr.sliceAt;refine bP.pre hu ?_;simp only;refine bP.pre (a:=(⟨e.bd,e.sh+off,none⟩:Addr)) rfl ?_;refine bP.pre ad ?_;simp only;refine bP.pre b5 ?_;have:=aD.hR (φ:=φ) (b:=b) (o:=if m=l then off else off+l*aX) (al-l) (m-l) he;refine bP.ret hr ?_;show aD φ _ _;by_cases hm:m=l
    ·simp only [hm,if_true] at this ⊢
     exact this
    ·simp only [hm,if_false,Addr.jA] at this ⊢
     rw[<-Nat.add_assoc] at this;exact this
  ·cases h
 ·rename_i elem b off len cap hu
  have run:∀(a:Addr) (uT l al m aX:Nat),a' P (Instr.sliceBounds true len uT gj af dT)=some (l,al,m)->a' P (sizeOf elem)=some aX->
    (Instr.sliceAt t (.slice (some a) len uT) gj af dT).run P w= .ok (.slice (if m=l then some a else some (a.add (l*aX))) (al-l) (m-l)) w:=by
   intro a uT l al m aX ad b5;unfold Instr.sliceAt;refine cJ hu ?_;simp only;unfold Instr.slice;refine cJ hu ?_;simp only;refine cJ ad ?_;simp only;refine cJ b5 ?_;rfl
  split at h
  ·rename_i l al m aX k ad b5 ag
   cases cF:(Nat.beq k.ei 0||Nat.beq k.ei aX) with
   |false=>rw[cF] at h;cases h
   |true=>
    rw[cF,bs] at h;have abC:k.ei=0\/k.ei=aX:=by
     simp only [Bool.or_eq_true] at cF;exact cF.imp cq cq
    split at h
    ·rename_i uS
     have both:∀(e:gP) (uT:Nat),φ b=some e->cap<=uT->bP (gQ v) P φ A w (Instr.sliceAt t (.slice (some ⟨e.bd,e.sh+off,none⟩) len uT) gj af (some uS)) A:=by
      intro e uT he hle;obtain⟨g1,g2,g3,g4,jJ⟩:=xO hle ad;simp only [Option.isSome_some,if_true] at g1 jJ;have kG:=run ⟨e.bd,e.sh+off,none⟩ uT l al m aX g1 b5;refine⟨φ,w,_,kG,?_,cb.refl hr⟩;cases pP:Nat.beq m l with
      |true=>
       rw[pP,bs,cz] at h;subst h;have v7:m=l:=cq pP;have h1:al-l=0:=by have:=jJ trivial;omega
       have ae:m-l=0:=by omega
       rw[aI v7,h1,ae];exact .h7 _ (λ_=>rfl)
      |false=>
       rw[pP,dZ,cz] at h;subst h;have v7:m≠l:=λe=>by subst e;simp at pP
       rw[aG v7,Addr.jA];have:=aD.hR (φ:=φ) (b:=b) (o:=off+l*aX) (al-l) (m-l) he;rw[<-Nat.add_assoc] at this;exact this
     cases ah with
     |hR _ _ he=>exact both _ _ he (bL _)
     |hS _ _ c' he q1 aB b_=>exact both _ _ he aB
     |h7 aR bu=>
      rename_i c';obtain⟨f1,_⟩:=xO (Nat.zero_le c') ad;have kG:=run aR c' l al m aX (by simpa using f1) b5;obtain⟨g1,g2,g3,g4,jJ⟩:=xO (bL _) ad;have:=jJ rfl;have e1:l=0:=by omega
      have e2:al=0:=by omega
      have fI:m=0:=by omega
      subst e1;subst e2;subst fI;refine⟨φ,w,_,kG,?_,cb.refl hr⟩;simp only [Nat.beq_refl,bs,cz] at h;subst h;simp only [if_true,Nat.sub_self];exact .h7 _ (λ_=>rfl)
    ·
     cases KN:Nat.ble al m with
     |false=>rw[KN] at h;cases h
     |true=>
     rw[KN,bs] at h;have al8:=Nat.ble_eq.mp KN;obtain⟨g1,g2,g3,g4,jJ⟩:=xO (bL _) ad;have KO:=g2 rfl;subst KO;have empty:∀(aR:Addr) (c':Nat),m=l->∀x',(x'=some aR\/∃GR,x'=some GR)->aD φ (.slice (some ⟨dead,1,none⟩) 0 0) (.slice x' (al-l) (c'-l)):=by
      intro aR c' pP x' qE;rw[show al-l=0 by omega];rcases qE with rfl|⟨GR,rfl⟩<;>exact .h7 _ (λh=>absurd h ck)
     have KP:∀(p:Prop) [Decidable p] (a b:Addr),∃GR,(if p then some a else some b)=some GR:=λp _ a b=>by
      by_cases hp:p
      ·exact⟨a,aI hp⟩
      ·exact⟨b,aG hp⟩
     cases pP:Nat.beq m l with
     |true=>
      have v7:m=l:=cq pP;rw[pP,bs,cz] at h;subst h;cases ah with
      |hR _ _ he=>
       rename_i e;refine⟨φ,w,_,run ⟨e.bd,e.sh+off,none⟩ m l al m aX ad b5,empty ⟨e.bd,e.sh+off,none⟩ m v7 _ (.inr (KP _ _ _)),cb.refl hr⟩
      |hS _ _ c' he q1 aB b_=>
       rename_i e;obtain⟨f1,_⟩:=xO aB ad;exact⟨φ,w,_,run ⟨e.bd,e.sh+off,none⟩ c' l al c' aX (by simpa using f1) b5,empty ⟨e.bd,e.sh+off,none⟩ c' v7 _ (.inr (KP _ _ _)),cb.refl hr⟩
      |h7 aR bu=>
       rename_i c';obtain⟨f1,_⟩:=xO (Nat.zero_le c') ad;exact⟨φ,w,_,run aR c' l al c' aX (by simpa using f1) b5,empty aR c' v7 _ (.inr (KP _ _ _)),cb.refl hr⟩
     |false=>
      have v7:m≠l:=λe=>by subst e;simp at pP
      rw[pP,dZ,cz] at h;subst h;cases ah with
      |hR _ _ he=>
       rename_i e;have kG:=run ⟨e.bd,e.sh+off,none⟩ m l al m aX ad b5;refine⟨φ,w,_,kG,?_,cb.refl hr⟩;rw[aG v7,Addr.jA];have:=aD.hR (φ:=φ) (b:=b) (o:=off+l*aX) (al-l) (m-l) he;rw[<-Nat.add_assoc] at this;exact this
      |hS _ _ c' he q1 aB b_=>
       rename_i e;obtain⟨f1,_⟩:=xO aB ad;have kG:=run ⟨e.bd,e.sh+off,none⟩ c' l al c' aX (by simpa using f1) b5;refine⟨φ,w,_,kG,?_,cb.refl hr⟩;rw[aG aj,Addr.jA];obtain⟨k',dj,KK,_⟩:=hr.ea b e he;rw[ag] at dj;cases dj;have sk:e.ei=aX:=by
        rcases abC with aJ|aJ
        ·omega
        ·exact KK.trans aJ
       have KQ:l*aX+(c'-l)*aX=c'*aX:=by rw[<-Nat.add_mul];congr 1;omega
       have:=aD.hS (φ:=φ) (b:=b) (o:=off+l*aX) (al-l) (m-l) (c'-l) he q1 aj (by rw[sk] at b_ ⊢;omega);rw[<-Nat.add_assoc] at this;exact this
      |h7 aR bu=>omega
  ·rename_i l al m aX ad b5 ag
   cases sj:(Nat.beq cap 0&&Nat.beq len 0&&Nat.ble al m) with
   |false=>rw[sj] at h;cases h
   |true=>
    rw[sj,bs,cz] at h;subst h;simp only [cV] at sj;have e1:cap=0:=cq sj.1.1;have e2:len=0:=cq sj.1.2;have fI:al<=m:=Nat.ble_eq.mp sj.2;subst e1;subst e2;have Du:∀e,φ b≠some e:=λe he=>by
     obtain⟨k,dj,_⟩:=hr.ea b e he;rw[ag] at dj;cases dj
    cases ah with
    |hR _ _ he=>exact absurd he (Du _)
    |hS _ _ c' he q1 aB b_=>exact absurd he (Du _)
    |h7 aR bu=>
     rename_i c';obtain⟨g1,g2,g3,g4,jJ⟩:=xO (Nat.zero_le c') ad;have kG:=run aR c' l al _ aX g1 b5;refine⟨φ,w,_,kG,?_,cb.refl hr⟩;have hm:m=0:=by omega
     have e1:l=0:=by omega
     have e2:al=0:=by omega
     subst hm;subst e1;subst e2;have ai:off=0->(if dT.isSome=true then 0 else c')-0=0:=λho=>by
      by_cases Dx:dT.isSome=true
      ·simp [Dx]
      ·simp [Dx,bu ho]
     show aD φ _ (.slice (if (if dT.isSome=true then 0 else c')=0 then some aR else some (aR.add (0*aX))) 0 ((if dT.isSome=true then 0 else c')-0));by_cases Bm:(if dT.isSome=true then 0 else c')=0
     ·rw[aI Bm];exact .h7 _ ai
     ·rw[aG Bm];exact .h7 _ ai
  ·cases h
 ·cases h
end
end AE
namespace AE
variable [a6]
section
variable {P:aQ} {φ:bM} {A aS:aW} {w:ao}
def KR (P:aQ) (A:aW) (cM:Array aK) (dst src:J):Option (J×aW):=
 match cM[0]? with
 |some t=>match a' P (underlying t) with
  |some (.slice elem)=>match a' P (sizeOf elem) with
   |some aX=>match dst,src with
    | .slice (some ⟨b,off,none⟩) sm _,.slice (some ⟨jz,Dy,none⟩) sl _=>
      match A.qz jz Dy (Nat.min sl sm*aX) with
      |some l=>match A.pM b off l with
       |some br=>some (.int .i64 (Nat.min sl sm),br)
       |none=>none
      |none=>none
    | .slice (some _) sm _,.slice none sl _=>some (.int .i64 (Nat.min sl sm),A)
    |_,_=>none
   |none=>none
  |_=>none
 |none=>none
theorem abD (hr:bN φ A w) {cM:Array aK} {ty:aK} {d mX s eZ v:J} (a8:aD φ d mX) (hs:aD φ s eZ) (h:KR P A cM d s=some (v,aS)):bP (gQ v) P φ A w (Builtin.copy_ cM ty #[mX,eZ]) aS:=by
 unfold KR at h;split at h
 ·rename_i t aF
  split at h
  ·rename_i elem hu
   split at h
   ·rename_i aX b5
    split at h
    ·rename_i b off sm uU jz Dy sl pN
     split at h
     ·rename_i l hl
      split at h
      ·rename_i br cF
       simp only [cz,Prod.mk.injEq] at h;obtain⟨rfl,rfl⟩:=h;unfold Builtin.copy_;simp only [aF,List.getElem?_toArray,List.getElem?_cons_zero,List.getElem?_cons_succ];refine bP.pre hu ?_;obtain⟨iH,oa⟩:=zc hl;have main:∀(e e2:gP) (lG:Nat),φ b=some e->φ jz=some e2->bP (gQ (.int .i64 (Nat.min sl sm))) P φ A w (do
         let n:=Nat.min (<-Builtin.lenOf (.slice (some ⟨e2.bd,e2.sh+Dy,none⟩) sl lG)) sm
         let cells <-Builtin.firstCells (<-sizeOf elem) n (.slice (some ⟨e2.bd,e2.sh+Dy,none⟩) sl lG)
         storeCells ⟨e.bd,e.sh+off,none⟩ cells.toList
         pure (goInt n)) br:=by
        intro e e2 lG he sn;refine bP.pre (a:=sl) rfl ?_;refine bP.pre b5 ?_;refine bP.bind hr (Ry hr hl sn) λfO w1 cells kG hmono ⟨cp,c2⟩=> ?_
        obtain⟨w',g1,g2⟩:=Bh P (hmono _ _ he) l A br w1 off 0 cells.toList kG cF (by simpa using cp) (λj hj=>by
         have:=c2 j hj;simp only [eO] at this
         simpa [c_] using this)
        refine⟨fO,w',_,c6 (by simpa using g1) rfl,.int _ _,g2⟩
       have zero:∀(a aR:Option Addr) (abE lG:Nat),Nat.min sl sm*aX=0->Nat.min sl sm=0->br=A:=by
        intro a aR abE lG aJ _;rw[aJ] at iH;have:l=[]:=by simpa using iH
        subst this;simpa [aW.pM] using cF.symm
       cases a8 with
       |hR _ _ he=>cases hs with
        |hR _ _ sn=>exact main _ _ _ he sn
        |hS _ _ c' sn _ _ _=>exact main _ _ _ he sn
        |h7 aR _=>
         have:=zero none none 0 0 (by simp) (by simp);subst this;refine⟨φ,w,.int .i64 0,?_,by simpa using aD.int .i64 0,cb.refl hr⟩;simp [iF b5 w,Builtin.firstCells,Builtin.lenOf,loadCells,loadCellsFrom,Sem.run,pure,storeCells,goInt]
       |hS _ _ cp he _ _ _=>cases hs with
        |hR _ _ sn=>exact main _ _ _ he sn
        |hS _ _ c' sn _ _ _=>exact main _ _ _ he sn
        |h7 aR _=>
         have:=zero none none 0 0 (by simp) (by simp);subst this;refine⟨φ,w,.int .i64 0,?_,by simpa using aD.int .i64 0,cb.refl hr⟩;simp [iF b5 w,Builtin.firstCells,Builtin.lenOf,loadCells,loadCellsFrom,Sem.run,pure,storeCells,goInt]
       |h7 aR _=>
        have:=zero none none 0 0 (by simp) (by simp);subst this;have hlen:∀eZ,aD φ (.slice (some ⟨jz,Dy,none⟩) sl pN) eZ->∃cr c2,eZ= .slice (some cr) sl c2:=λeZ h=>by
         cases h with
         |hR _ _ h=>exact⟨_,_,rfl⟩
         |hS _ _ _ h _ _ _=>exact⟨_,_,rfl⟩
         |h7 aR _=>exact⟨_,_,rfl⟩
        obtain⟨cr,c2,rfl⟩:=hlen eZ hs;refine⟨φ,w,.int .i64 0,?_,by simpa using aD.int .i64 0,cb.refl hr⟩;simp [iF b5 w,Builtin.firstCells,Builtin.lenOf,loadCells,loadCellsFrom,Sem.run,pure,storeCells,goInt]
      ·cases h
     ·cases h
    ·rename_i a sm uU sl pN
     simp only [cz,Prod.mk.injEq] at h;obtain⟨rfl,rfl⟩:=h;have KS:∃aR c',mX= .slice (some aR) sm c':=by
      cases a8 with
      |hR _ _ h=>exact⟨_,_,rfl⟩
      |hS _ _ _ h _ _ _=>exact⟨_,_,rfl⟩
      |h7 aR _=>exact⟨_,_,rfl⟩
     obtain⟨aR,c',rfl⟩:=KS;cases hs;refine⟨φ,w,.int .i64 (Nat.min sl sm),?_,.int _ _,cb.refl hr⟩;unfold Builtin.copy_;simp only [aF,List.getElem?_toArray,List.getElem?_cons_zero,List.getElem?_cons_succ];refine cJ hu ?_;refine cJ (a:=sl) rfl ?_;exact cJ b5 rfl
    ·cases h
   ·cases h
  ·cases h
 ·cases h
def KT (P:aQ) (A:aW) (t:aK) (len cap:J):Option (J×aW):=
 match len,cap with
 | .int _ l,.int _ c=>
   bif decide (0<=l)&&decide (l<=c)&&decide (c<=1048576) then
    match a' P (underlying t) with
    |some (.slice elem)=>match a' P (typeInfo elem),a' P (sizeOf elem),a' P (zeroValue elem) with
     |some info,some aX,some z=>
      bif Nat.ble info.bytes 65536&&plain z&&(cellsOf z).isSome&&Nat.blt 0 z.cells.size then
       match A.push (.cells ((Array.range (c.toNat*aX)).map (z.cells[· %z.cells.size]!)).toList) 0 elem with
       |some (r,br)=>some (.slice (some ⟨r,0,none⟩) l.toNat c.toNat,br)
       |none=>none
      else none
     |_,_,_=>none
    |_=>none
   else none
 |_,_=>none
theorem abF (hr:bN φ A w) {t:aK} {len cap v:J} (h:KT P A t len cap=some (v,aS)):bP (gQ v) P φ A w (Instr.makeSlice t len cap) aS:=by
 unfold KT at h;split at h
 ·rename_i cB l cW c
  cases ad:(decide (0<=l)&&decide (l<=c)&&decide (c<=1048576)) with
  |false=>rw[ad] at h;cases h
  |true=>
   rw[ad,bs] at h;simp only [cV,decide_eq_true_eq] at ad;obtain⟨⟨jc,jz⟩,rm⟩:=ad;split at h
   ·rename_i elem hu
    split at h
    ·rename_i info aX z af b5 bu
     cases kq:(Nat.ble info.bytes 65536&&plain z&&(cellsOf z).isSome&&Nat.blt 0 z.cells.size) with
     |false=>rw[kq] at h;cases h
     |true=>
      rw[kq,bs] at h;simp only [cV] at kq;obtain⟨⟨⟨q1,aB⟩,b_⟩,eB⟩:=kq;have kI:=Nat.ble_eq.mp q1;have qC:=Nat.blt_eq.mp eB;have pb:=GG aB b_ φ;split at h
      ·rename_i r br hp
       simp only [cz,Prod.mk.injEq] at h;obtain⟨rfl,rfl⟩:=h;have wl:IntKind.i64.wrap l=l:=IntWalk.i64_in _ aj;have abG:IntKind.i64.wrap c=c:=IntWalk.i64_in _ aj;unfold Instr.makeSlice;refine bP.pre hu ?_;simp only;refine bP.pre (a:=l) rfl ?_;refine bP.pre (a:=c) rfl ?_;refine bP.pre af ?_;have RV:(info.bytes:Int)*c<=2^48:=by
        have h1:(info.bytes:Int)*c<=65536*1048576:=by
         have b2:(info.bytes:Int)<=65536:=by omega
         exact Int.mul_le_mul b2 rm aj aj
        have ae:(65536:Int)*1048576<=2^48:=by decide
        omega
       have GU:(decide (c<0)||decide ((info.bytes:Int)*c>2^48)||decide (l<0)||decide (l>c))=false:=by
        simp only [Bool.or_eq_false_iff,decide_eq_false_iff_not];omega
       simp only [wl,abG];rw[aG (by rw[GU];simp)];refine bP.pre (a:=()) (by unfold askRoom;split<;>rfl) ?_;refine bP.pre b5 ?_;have vV:∀j,j<((Array.range (c.toNat*aX)).map (z.cells[· %z.cells.size]!)).size->aD φ (((Array.range (c.toNat*aX)).map (z.cells[· %z.cells.size]!)).getD j undef) (((Array.range (c.toNat*aX)).map (z.cells[· %z.cells.size]!)).getD j undef):=by
        intro j hj;simp at hj;have hm:=Nat.mod_lt j qC;have:=pb (j%z.cells.size) hm;simp only [eO] at this ⊢;simpa [hj,hm,getElem!_pos] using this
       have ft:bP (gQ (.slice (some ⟨r,0,none⟩) l.toNat c.toNat)) P φ A w (do
         let a <-newRow elem ((Array.range (c.toNat*aX)).map (z.cells[· %z.cells.size]!))
         pure (.slice (some a) l.toNat c.toNat)) br:=by
        obtain⟨cP,w',g1,g2,g3,_⟩:=Bi hr P elem hp (c':=(Array.range (c.toNat*aX)).map (z.cells[· %z.cells.size]!)) (by simp) (λ_=>by simp) (λj hj=>by
         have:=vV j (by simpa using hj);simp only [eO] at this;simp only [c_,Array.getElem?_toList,eO]
         exact this)
        refine⟨cP,w',_,c6 g1 rfl,?_,g3⟩;have:=aD.hR (φ:=cP) (b:=r) (o:=0) l.toNat c.toNat g2;simpa using this
       by_cases ak:c.toNat*aX=0
       ·simp only [ak,if_true] at ft ⊢
        refine bP.pre (a:= #[]) rfl ?_;have bA:∀f:Nat->J,(Array.range 0).map f= #[]:=λf=>by simp
        rw[bA] at ft ⊢;exact ft
       ·simp only [ak,if_false]
        refine bP.pre bu ?_;refine bP.pre (a:=z.cells) rfl ?_;exact ft
      ·cases h
    ·cases h
   ·cases h
 ·cases h
def KU (P:aQ) (A:aW) (cM:Array aK) (x:J):Option J:=
 match cM[0]? with
 |some t=>match a' P (underlying t),x with
  |some (.slice _),.slice _ n _=>some (.int .i64 n)
  |some (.map _ _),.map none=>some (.int .i64 0)
  |some (.map _ _),.map (some b)=>match A.bl.get b with
   |some {obj:= .map es _,..}=>some (.int .i64 es.length)
   |_=>none
  |some (.array n _),_=>some (.int .i64 n)
  |_,_=>none
 |none=>none
omit [a6] in
theorem pQ {o:Obj} {r:Nat} (h:w.heap[r]? =some o) (ai:∀c t f,o≠.cells c t f):(getObj r).run P w= .ok o w:=by
 unfold getObj;simp only [Sem.run,h]
theorem abH (hr:bN φ A w) {cM:Array aK} {ty:aK} {x x' v:J} (ah:aD φ x x') (h:KU P A cM x=some v):bP (gQ v) P φ A w (Builtin.len_ cM ty #[x']) A:=by
 unfold KU at h;split at h
 ·rename_i t aF
  unfold Builtin.len_;simp only [aF,List.getElem?_toArray,List.getElem?_cons_zero];split at h
  ·rename_i e a n c hu
   simp only [cz] at h;subst h;refine bP.pre hu ?_;have:∃cr c2,x'= .slice cr n c2:=by cases ah<;>exact⟨_,_,rfl⟩
   obtain⟨cr,c2,rfl⟩:=this;exact bP.ret hr (.int _ _)
  ·rename_i k e hu
   simp only [cz] at h;subst h;refine bP.pre hu ?_;cases ah;exact bP.ret hr (.int _ _)
  ·rename_i k e b hu
   split at h
   ·rename_i es eo cD pos st ro ty' ad
    simp only [cz] at h;subst h;refine bP.pre hu ?_;cases ah with
    |map he=>
     obtain⟨fb,ag,_,ho⟩:=hr.ea b _ he;rw[ad] at ag;cases ag;simp only [fh] at ho;obtain⟨c8,h1,ae,_⟩:=ho;refine⟨φ,w,.int .i64 es.length,c6 (pQ h1 (by simp)) ?_,.int _ _,cb.refl hr⟩;simp only [goInt,ae];rfl
   ·cases h
  ·rename_i n e hu
   simp only [cz] at h;subst h;refine bP.pre hu ?_;exact bP.ret hr (.int _ _)
  ·cases h
 ·cases h
end
end AE
namespace AE
variable [a6]
section
variable {P:aQ} {φ:bM} {A aS:aW} {w:ao}
def KV (cells:Array J):Sem J:=do
 let mut s:=ByteArray.empty
 for c in cells do
  let .int .u8 n:=c|stuck "bytesToString: byte expected"
  s:=s.push (UInt8.ofNat n.toNat)
 pure (.string s)
omit [a6] in
theorem RW (a:Addr) (len c:Nat):Conv.bytesToString (.slice (some a) len c)=loadCells a len >>= KV:=rfl
def KW (P:aQ) (A:aW):J->Option J
 | .slice none _ _=>some (.string .empty)
 | .slice (some ⟨b,off,none⟩) n _=>bif Nat.beq n 0 then some (.string .empty) else match A.qz b off n with
   |some l=>bif n9 l then match a' P (KV ⟨l⟩) with
    |some (.string s)=>some (.string s)
    |_=>none
    else none
   |none=>none
 |_=>none
theorem abI (hr:bN φ A w) {x x' v:J} (ah:aD φ x x') (h:KW P A x=some v):bP (gQ v) P φ A w (Conv.bytesToString x') A:=by
 unfold KW at h;split at h
 ·simp only [cz] at h
  subst h;cases ah;exact bP.ret hr (.string _)
 ·rename_i b off n c
  have RX:∀(a:Addr) (c:Nat),(Conv.bytesToString (.slice (some a) 0 c)).run P w= .ok (.string .empty) w:=λa c=>by
   rw[RW];simp [loadCells,loadCellsFrom,KV,Sem.run,pure]
  have main:∀(e:gP) (c':Nat),φ b=some e->bP (gQ v) P φ A w (Conv.bytesToString (.slice (some ⟨e.bd,e.sh+off,none⟩) n c')) A:=by
   intro e c' he;cases ak:Nat.beq n 0 with
   |true=>
    rw[ak,bs,cz] at h;subst h;have:n=0:=cq ak;subst this;exact⟨φ,w,_,RX _ _,.string _,cb.refl hr⟩
   |false=>
    rw[ak,dZ] at h;split at h
    ·rename_i l hl
     cases hp:n9 l with
     |false=>rw[hp] at h;cases h
     |true=>
      rw[hp,bs] at h;split at h
      ·rename_i s hs
       simp only [cz] at h;subst h;rw[RW];obtain⟨df,h1,ae,ar⟩:=Dh hr P hl he;have:df=⟨l⟩:=by
        obtain⟨l'⟩:=df;have:=aD.Dj l l' hp (by simpa using ae.symm) (λi af=>by simpa using ar i af);rw[this]
       subst this;exact⟨φ,w,_,c6 h1 (iF hs w),.string _,cb.refl hr⟩
      ·cases h
    ·cases h
  cases ah with
  |hR _ _ he=>exact main _ _ he
  |hS _ _ c' he _ _ _=>exact main _ _ he
  |h7 aR _=>
   rw[Nat.beq_refl,bs,cz] at h;subst h;exact⟨φ,w,_,RX _ _,.string _,cb.refl hr⟩
 ·cases h
def KX (A:aW) (elem:aK) (s:ByteArray):Option (J×aW):=
 match A.push (.cells (s.data.toList.map λb=> .int .u8 b.toNat)) 1 elem with
 |some (r,br)=>some (.slice (some ⟨r,0,none⟩) s.size s.size,br)
 |none=>none
theorem abJ (hr:bN φ A w) {elem:aK} {s:ByteArray} {v:J} (h:KX A elem s=some (v,aS)):bP (gQ v) P φ A w (Conv.stringToBytes elem s) aS:=by
 unfold KX at h;split at h
 ·rename_i r br hp
  simp only [cz,Prod.mk.injEq] at h;obtain⟨rfl,rfl⟩:=h;unfold Conv.stringToBytes
  let cap:=(Question.appendCap s.size 0 elem).cut (w.tape w.drawn (.appendCap s.size 0 elem))
  have jC:s.size<=cap:=by simp [cap,Question.cut]
  let row:Array J:=(s.data.map λb=>Value.int .u8 b.toNat)++Array.replicate (cap-s.size) (.int .u8 0)
  have mV:row.size=cap:=by
   simp only [row,Array.size_append,Array.size_map,Array.size_replicate];have:s.data.size=s.size:=rfl;omega
  have kG:=KD hr (w.drawn+1);have abK:=(kG.wf.push hp).2.1;have st:=Bf (o':= .cells row elem (cap,cap+1)) (e:=⟨w.heap.size,0,1,cap⟩) kG hp U U (by
   simp only [fh];refine⟨row,(cap,cap+1),by simp,mV.symm,⟨by simp only [List.length_map,Nat.zero_add,Array.length_toList];rw[mV];exact jC,λh=>absurd h ck⟩,λj hj=> ?_,λ_ i af=>by rw[mV] at af;simp;omega⟩;simp only [List.length_map,Array.length_toList] at hj;simp only [c_,eO,Nat.zero_add,row];rw[Array.getElem?_append_left (by simpa using hj)];simp only [List.getElem?_map,Array.getElem?_toList,Array.getElem?_map,Array.getElem?_eq_getElem hj,Option.map_some,Option.getD_some]
   exact .int _ _)
  refine⟨_,_,.slice (some ⟨w.heap.size,0,none⟩) s.size cap,?_,?_,cb.trans hr (cb.xH hr (w.drawn+1)) st⟩
  ·refine c6 (w1:={w with drawn:=w.drawn+1}) (a:=cap) (by simp [choose,Sem.run,Question.forced,cap]) ?_
   refine c6 (a:=(⟨w.heap.size,0,none⟩:Addr)) (by simp only [newRow,newObj];rfl) ?_;have zk:({w with drawn:=w.drawn+1,heap:=w.heap.push (.cells row elem)}:ao).shape? w.heap.size=some (elem,cap):=by
    simp [World.shape?,mV]
   refine c6 (w1:={w with drawn:=w.drawn+1,heap:=w.heap.push (.cells row elem (cap,cap+1))}) (a:=()) ?_ rfl;unfold markStringish;refine c6 (a:=some (elem,cap)) (by simp only [shape,Sem.run];exact congrArg (Result.ok · _) zk) ?_;simp only [freeze,Sem.run,World.freeze];rw[aG aj];refine congrArg (Result.ok ()) ?_;simp only [World.mk.injEq,and_true,true_and];apply Array.ext_getElem?;intro i;rw[Array.getElem?_modify];split
   ·rename_i af
    subst af;simp [row]
   ·rename_i af
    rw[Array.getElem?_push,Array.getElem?_push];rw[aG (Ne.symm af),aG (Ne.symm af)]
  ·subst abK
   have:=aD.hS (φ:=gB φ A.n ⟨w.heap.size,0,1,cap⟩) (b:=A.n) (o:=0) (e:=⟨w.heap.size,0,1,cap⟩) s.size s.size cap (by simp [gB]) (bL _) jC (by simp);simpa using this
 ·cases h
def Bn (P:aQ) (t:aK) (x y:J):Option Bool:=
 match a' P (underlying t),x,y with
 |some (.pointer _),.pointer (some _),.pointer none=>some false
 |some (.pointer _),.pointer none,.pointer (some _)=>some false
 |some (.pointer e),.pointer (some ⟨b,o,none⟩),.pointer (some ⟨b',o',none⟩)=>match a' P (sizeOf e) with
  |some n=>bif Nat.beq b b'&& !Nat.beq n 0 then some (Nat.beq o o') else none
  |none=>none
 |some (.slice _),.slice (some _) _ _,.slice none _ _=>some false
 |some (.slice _),.slice none _ _,.slice (some _) _ _=>some false
 |some (.map _ _),.map (some _),.map none=>some false
 |some (.map _ _),.map none,.map (some _)=>some false
 |some (.interface _),.iface _ _,.nilIface=>some false
 |some (.interface _),.nilIface,.iface _ _=>some false
 |some (.func _ _ _),.func _ _ _,.nilFunc=>some false
 |some (.func _ _ _),.nilFunc,.func _ _ _=>some false
 |_,_,_=>none
theorem RY {t:aK} {x x' y gM:J} {r:Bool} (ah:aD φ x x') (a_:aD φ y gM) (h:Bn P t x y=some r):(Op.equal t x' gM).run P w= .ok r w/\∀op (iX k1:Operand),(eqGuard op t iX k1 x' gM).run P w= .ok () w:=by
 unfold Bn at h;have guard:∀(x' gM:J),(¬(x'= .nilIface/\gM= .nilIface))->(¬∃a b,x'= .agg a/\gM= .agg b)->∀op (iX k1:Operand),(eqGuard op t iX k1 x' gM).run P w= .ok () w:=by
  intro x' gM h1 ae op iX k1;unfold eqGuard;by_cases ca:op= .eql\/op= .neq
  ·cases x'<;>cases gM<;>rcases ca with rfl|rfl<;>first|rfl|exact absurd ⟨rfl,rfl⟩ h1|exact absurd ⟨_,_,rfl,rfl⟩ ae
  ·cases op<;>first|rfl|exact absurd (.inl rfl) ca|exact absurd (.inr rfl) ca
 split at h
 all_goals try (cases h;done)
 all_goals rename_i hu
 ·simp only [cz] at h
  subst h;cases ah with
  |ptr he=>cases a_;exact⟨by unfold Op.equal Op.maxDepth Op.equalIn;exact cJ hu rfl,guard _ _ (by simp) (by simp)⟩
 ·simp only [cz] at h
  subst h;cases a_ with
  |ptr he=>cases ah;exact⟨by unfold Op.equal Op.maxDepth Op.equalIn;exact cJ hu rfl,guard _ _ (by simp) (by simp)⟩
 ·split at h
  ·rename_i b o b' o' al9 n ak
   cases ad:(Nat.beq b b'&& !Nat.beq n 0) with
   |false=>rw[ad] at h;cases h
   |true=>
    rw[ad,bs,cz] at h;subst h;simp only [cV,Bool.not_eq_true'] at ad;have tt:b=b':=cq ad.1;subst tt;have fX:n≠0:=λe=>by subst e;simp at ad
    cases ah with
    |ptr he=>cases a_ with
     |ptr sn=>
      rw[he] at sn;cases sn;refine⟨?_,guard _ _ (by simp) (by simp)⟩;unfold Op.equal Op.maxDepth Op.equalIn;refine cJ hu ?_;simp only;refine cJ ak ?_;rw[aI fX];unfold sameAddr;simp only [beq_self_eq_true,if_true];show Result.ok _ w=Result.ok _ w;congr 1;by_cases KY:o=o'
      ·subst KY;simp
      ·have h1:Nat.beq o o'=false:=by
        cases al:Nat.beq o o' with
        |false=>rfl
        |true=>exact absurd (cq al) KY
       rw[h1];simp [KY]
  ·cases h
 all_goals simp only [cz] at h
 all_goals subst h
 all_goals cases ah<;>cases a_<;>exact⟨by unfold Op.equal Op.maxDepth Op.equalIn;exact cJ hu rfl,guard _ _ (by simp) (by simp)⟩
def KZ (P:aQ) (op:BinOp) (t:aK) (x y:J):Option J:=
 match op with
 | .eql=>(Bn P t x y).map .bool
 | .neq=>(Bn P t x y).map λb=> .bool !b
 |_=>none
theorem abL (hr:bN φ A w) {op:BinOp} {t:aK} {iX k1:Operand} {x x' y gM v:J} (ah:aD φ x x') (a_:aD φ y gM) (h:KZ P op t x y=some v):bP (gQ v) P φ A w (do eqGuard op t iX k1 x' gM;binOp op t x' gM) A:=by
 unfold KZ at h;have RZ:∀r,Bn P t x y=some r->(binOp .eql t x' gM=do pure (.bool (<-Op.equal t x' gM)))/\(binOp .neq t x' gM=do pure (.bool (!(<-Op.equal t x' gM)))):=by
  intro r hs;unfold Bn at hs;split at hs
  all_goals try (cases hs;done)
  all_goals cases ah<;>cases a_<;>exact⟨rfl,rfl⟩
 split at h
 ·obtain⟨r,hs,rfl⟩:=Option.map_eq_some_iff.1 h
  obtain⟨h1,ae⟩:=RY (P:=P) (w:=w) ah a_ hs;refine⟨φ,w,.bool r,c6 (ae _ _ _) ?_,.bool _,cb.refl hr⟩;rw[(RZ r hs).1];exact c6 h1 rfl
 ·obtain⟨r,hs,rfl⟩:=Option.map_eq_some_iff.1 h
  obtain⟨h1,ae⟩:=RY (P:=P) (w:=w) ah a_ hs;refine⟨φ,w,.bool !r,c6 (ae _ _ _) ?_,.bool _,cb.refl hr⟩;rw[(RZ r hs).2];exact c6 h1 rfl
 ·cases h
def GV:TypeDesc->Bool
 | .interface _=>true
 |_=>false
def K0 (P:aQ) (t:aK) (x:J):Option J:=
 match a' P (underlying t) with
 |some d=>bif GV d then none else some (.iface t x)
 |none=>none
theorem abM (hr:bN φ A w) {t:aK} {x x' v:J} (ah:aD φ x x') (h:K0 P t x=some v):bP (gQ v) P φ A w (Instr.makeInterface t x') A:=by
 unfold K0 at h;split at h
 ·rename_i d hu
  cases a8:GV d with
  |true=>rw[a8] at h;cases h
  |false=>
   rw[a8,dZ,cz] at h;subst h;unfold Instr.makeInterface;refine bP.pre hu ?_;cases d<;>first|(cases a8;done)|exact bP.ret hr (.iface _ ah)
 ·cases h
def K1 (P:aQ) (x:J) (asserted:aK) (ok:Bool):Option J:=
 match a' P (underlying asserted),x with
 |some (.interface want),.iface t _=>match a' P (typeInfo t) with
  |some info=>match Instr.missingMethod want info.methods with
   |none=>some (if ok then .tuple #[x,.bool true] else x)
   |some _=>none
  |none=>none
 |some d,.iface t v=>bif GV d then none else
   if t=asserted then some (if ok then .tuple #[v,.bool true] else v) else
    bif ok then match a' P (zeroValue asserted) with
     |some z=>bif plain z then some (.tuple #[z,.bool false]) else none
     |none=>none
    else none
 |_,_=>none
theorem K2 {a aR:J} (h:aD φ a aR) (b:Bool):aD φ (.tuple #[a,.bool b]) (.tuple #[aR,.bool b]):= .tuple _ _ rfl λi af=>by
 have:i=0\/i=1:=by simp at af;omega
 rcases this with rfl|rfl
 ·simpa using h
 ·simpa using aD.bool b
theorem abN (hr:bN φ A w) {x x' v:J} {R0 asserted:aK} {ok:Bool} (ah:aD φ x x') (h:K1 P x asserted ok=some v):bP (gQ v) P φ A w (Instr.typeAssert x' R0 asserted ok) A:=by
 unfold K1 at h;split at h
 ·rename_i want t u hu
  split at h
  ·rename_i info af
   split at h
   ·rename_i hm
    simp only [cz] at h;subst h;cases ah with
    |iface t ax=>
     unfold Instr.typeAssert;refine bP.pre hu ?_;simp only;refine bP.pre af ?_;simp only [hm];refine bP.ret hr ?_;cases ok
     ·exact .iface t ax
     ·exact K2 (.iface t ax) true
   ·cases h
  ·cases h
 ·rename_i d t u _ hu
  cases a8:GV d with
  |true=>rw[a8] at h;cases h
  |false=>
   rw[a8,dZ] at h;cases ah with
   |iface t ax=>
    unfold Instr.typeAssert;refine bP.pre hu ?_;by_cases aF:t=asserted
    ·rw[aI aF,cz] at h
     subst h;cases d<;>first
      |(cases a8;done)
      |(simp only [aI aF]
        refine bP.ret hr ?_;cases ok
        ·exact ax
        ·exact K2 ax true)
    ·rw[aG aF] at h
     cases ok with
     |false=>cases h
     |true=>
      rw[bs] at h;split at h
      ·rename_i z bu
       cases hp:plain z with
       |false=>rw[hp] at h;cases h
       |true=>
        rw[hp,bs,cz] at h;subst h;cases d<;>first
          |(cases a8;done)
          |(simp only [aG aF,if_true]
            refine bP.pre bu ?_
            exact bP.ret hr (K2 (aD.j8 φ z hp) false))
      ·cases h
 ·cases h
end
end AE
namespace AE
variable [a6]
class Lib (P:aQ) where
 same:List FuncId
 R1:∀f∈same,∀x:J,a' P (callFunc f #[x])=some (.value x)
 K3:List (FuncId×aK)
 R2:∀p∈K3,∃ps qF t,(∀n w,(callFunc p.1 #[.int .i64 n]).run P w=(do pure (Next.value (<-Extern.BytealgMakeNoZero.makeNoZero ps qF #[.int .i64 n])):Sem Next).run P w)/\qF[0]? =some t/\a' P (underlying t)=some (.slice p.2)
section
variable {P:aQ} {φ:bM} {A aS:aW} {w:ao}
omit [a6] in
theorem GX {r:Nat} {c:Array J} {t:aK} {f:Nat×Nat} (h:w.heap[r]? =some (.cells c t f)):(shape r).run P w= .ok (some (t,c.size)) w:=by
 simp only [shape,Sem.run,World.shape?,h]
omit [a6] in
theorem R3 {a:Addr} {c:Array J} {t:aK} {f:Nat×Nat} (h:w.heap[a.block]? =some (.cells c t f)):(Conv.seenAt a).run P w= .ok a w:=by
 unfold Conv.seenAt viewAt;refine c6 (a:=none) (c6 (GX h) rfl) rfl
def K4 (P:aQ) (A:aW) (src dst:aK) (x:J):Option J:=
 match a' P (underlying src),a' P (underlying dst),x with
 |some (.pointer t),some .unsafePointer,.pointer (some ⟨b,off,none⟩)=>match a' P (sizeOf t),A.bl.get b with
  |some n,some k=>match k.obj with
   | .cells c=>bif Nat.beq n 0|| !Nat.blt off c.length then none else some (.pointer (some ⟨b,off,none⟩))
   |_=>none
  |_,_=>none
 |some .unsafePointer,some (.pointer u),.pointer (some ⟨b,off,none⟩)=>match a' P (sizeOf u),A.bl.get b with
  |some _,some k=>match k.obj with
   | .cells c=>bif Nat.beq k.ei 0&&liesAt P P.depth k.ty (c.length/P.cellsOf k.ty) off u 1 then some (.pointer (some ⟨b,off,none⟩)) else none
   |_=>none
  |_,_=>none
 |_,_,_=>none
theorem abO (hr:bN φ A w) {src dst:aK} {x x' v:J} (ah:aD φ x x') (h:K4 P A src dst x=some v):bP (gQ v) P φ A w (convert src dst x') A:=by
 unfold K4 at h;split at h
 ·rename_i t b off hs a8
  split at h
  ·rename_i n k ak ag
   split at h
   ·rename_i c fa
    cases ai:(Nat.beq n 0|| !Nat.blt off c.length) with
    |true=>rw[ai] at h;cases h
    |false=>
     rw[ai,dZ,cz] at h;subst h;simp only [Bool.or_eq_false_iff,Bool.not_eq_false'] at ai;have al':off<c.length:=Nat.blt_eq.mp ai.2;have fX:n≠0:=λe=>by subst e;simp at ai
     cases ah with
     |ptr he=>
      rename_i e;obtain⟨k',dj,_,ho⟩:=hr.ea b e he;rw[ag] at dj;cases dj;unfold fh at ho;simp only [fa] at ho;obtain⟨c',jb,h1,ae,ar,bm,cg⟩:=ho;refine⟨φ,w,.pointer (some ⟨e.bd,e.sh+off,none⟩),?_,.ptr he,cb.refl hr⟩;unfold convert;refine cJ hs (cJ a8 ?_);show (Conv.unsafePointer src dst (.pointer (some ⟨e.bd,e.sh+off,none⟩))).run P w=_;unfold Conv.unsafePointer;refine cJ hs (cJ a8 ?_);simp only;refine c6 (R3 h1) ?_;refine c6 (a:=some c'.size) (by unfold cellsIn;exact c6 (GX h1) rfl) ?_;refine cJ ak ?_;have j':¬(c'.size<=e.sh+off):=by omega
      simp only [fX,decide_false,ge_iff_le,j',Bool.false_and,Bool.or_false,Bool.false_eq_true,if_false];rfl
   ·cases h
  ·cases h
 ·rename_i u b off hs a8
  split at h
  ·rename_i al_ k abP ag
   split at h
   ·rename_i c fa
    cases ai:(Nat.beq k.ei 0&&liesAt P P.depth k.ty (c.length/P.cellsOf k.ty) off u 1) with
    |false=>rw[ai] at h;cases h
    |true=>
     rw[ai,bs,cz] at h;subst h;simp only [cV] at ai;have cF:k.ei=0:=cq ai.1;cases ah with
     |ptr he=>
      rename_i e;obtain⟨k',dj,_,ho⟩:=hr.ea b e he;rw[ag] at dj;cases dj;unfold fh at ho;simp only [fa] at ho;obtain⟨c',jb,h1,ae,ar,bm,cg⟩:=ho;obtain⟨zk,b5⟩:=ar.2 cF;have K5:liesAt P P.depth k.ty (c'.size/P.cellsOf k.ty) (e.sh+off) u 1=true:=by rw[zk,Nat.zero_add,<-b5];exact ai.2
      refine⟨φ,w,.pointer (some ⟨e.bd,e.sh+off,none⟩),?_,.ptr he,cb.refl hr⟩;unfold convert;refine cJ hs (cJ a8 ?_);show (Conv.unsafePointer src dst (.pointer (some ⟨e.bd,e.sh+off,none⟩))).run P w=_;unfold Conv.unsafePointer;refine cJ hs (cJ a8 ?_);simp only;refine c6 (R3 h1) ?_;have ax:(variablesAt ⟨e.bd,e.sh+off,none⟩ u 1).run P w= .ok true w:=by
       unfold variablesAt;refine cJ (a:=P) rfl ?_;refine c6 (GX h1) ?_;simp only [K5];rfl
      refine cJ abP ?_;refine c6 ax ?_;simp only [Bool.or_true,if_true];rfl
   ·cases h
  ·cases h
 ·cases h
def K6 (A:aW) (elem:aK) (n:Int):Option (J×aW):=
 bif decide (0<=n)&&decide (n<=524288) then
  match A.push (.cells (List.replicate n.toNat cL)) 1 elem with
  |some (r,br)=>some (.slice (some ⟨r,0,none⟩) n.toNat n.toNat,br)
  |none=>none
 else none
omit [a6] in
theorem R4:∀(n t:Nat) (acc:Array J),(Extern.BytealgMakeNoZero.digits n t acc).size=acc.size+n
 |0,_,_=>rfl
 |n+1,t,acc=>by
  unfold Extern.BytealgMakeNoZero.digits;rw[R4 n];simp;omega
theorem abQ (hr:bN φ A w) {ps qF:Array aK} {t elem:aK} {n:Int} {v:J} (aF:qF[0]? =some t) (hu:a' P (underlying t)=some (.slice elem)) (h:K6 A elem n=some (v,aS)):
  bP (gQ v) P φ A w (Extern.BytealgMakeNoZero.makeNoZero ps qF #[.int .i64 n]) aS:=by
 unfold K6 at h;cases ai:(decide (0<=n)&&decide (n<=524288)) with
 |false=>rw[ai] at h;cases h
 |true=>
  rw[ai,bs] at h;simp only [cV,decide_eq_true_eq] at ai;split at h
  ·rename_i r br hp
   simp only [cz,Prod.mk.injEq] at h;obtain⟨rfl,rfl⟩:=h
   let q:Question:= .appendCap n.toNat 0 elem
   let cap:=q.cut (w.tape w.drawn q)
   have jC:n.toNat<=cap:=by simp [cap,q,Question.cut]
   let aB:Question:= .extern "internal/bytealg.MakeNoZero.bytes" 0
   have kG:bN φ A {w with drawn:=w.drawn+1+1}:=(cb.xH hr (w.drawn+1+1)).rel
   let row:=Extern.BytealgMakeNoZero.digits cap (aB.cut (w.tape (w.drawn+1) aB)) #[]
   have mV:row.size=cap:=by simp [row,R4]
   obtain⟨cP,w',g1,g2,g3,g4⟩:=Bi kG P (c':=row) elem hp (by rw[mV,kX];exact jC) (λh=>absurd h ck) (λj hj=>by
    rw[c_,List.getElem?_replicate,aI (by simpa using hj)]
    exact .cL _)
   refine⟨cP,w',.slice (some ⟨w.heap.size,0,none⟩) n.toNat cap,?_,?_,cb.trans hr (cb.xH hr (w.drawn+1+1)) g3⟩
   ·obtain⟨R5⟩:=qF
    obtain⟨rest,rfl⟩:∃rest,R5=t::rest:=by
     cases R5 with
     |nil=>simp at aF
     |cons a r=>simp at aF;exact⟨r,by rw[aF]⟩
    refine cJ (s:=underlying t) hu ?_;simp only;rw[aG (by simp;omega)];refine c6 (w1:={w with drawn:=w.drawn+1}) (a:=cap) (by simp [choose,Sem.run,Question.forced,cap,q]) ?_;refine c6 (w1:={w with drawn:=w.drawn+1}) (a:=()) (by unfold askRoom;split<;>rfl) ?_;refine c6 (w1:={w with drawn:=w.drawn+1+1}) (a:=aB.cut (w.tape (w.drawn+1) aB)) (by simp only [choose,Sem.run];rfl) ?_;exact c6 g1 rfl
   ·have:=aD.hS (φ:=cP) (b:=r) (o:=0) n.toNat n.toNat cap g2 (bL _) jC (by simp [mV])
    simpa using this
  ·cases h
def K7:List J->ByteArray->Option ByteArray
 |[],acc=>some acc
 | .int .u8 b::r,acc=>K7 r (acc.push b.toNat.toUInt8)
 |_::_,_=>none
theorem abR (hr:bN φ A w) {b:Nat} {e:gP} (he:φ b=some e):∀(l:List J) (off:Nat) (acc s:ByteArray),(∀j,j<l.length->A.load b (off+j)=some (l.getD j undef))->K7 l acc=some s->
  (loadBytes ⟨e.bd,e.sh+off,none⟩ acc l.length).run P w= .ok s w:=by
 intro l
 induction l with
 |nil=>
  intro off acc s _ h;cases h;rfl
 |cons v r b9=>
  intro off acc s hl h;cases v with
  |int k x=>
   cases k<;>try (cases h;done)
   have aJ:=hl 0 (by simp);obtain⟨aC,h1,ae⟩:=tl hr aJ he;simp only [List.getD_cons_zero] at ae;cases ae;have RD:w.cell? ⟨e.bd,e.sh+off,none⟩=some (.int .u8 x):=by simpa using h1
   have uQ:∀j,j<r.length->A.load b (off+1+j)=some (r.getD j undef):=λj hj=>by
    have:=hl (j+1) (by simpa using hj);rw[show off+(j+1)=off+1+j by omega] at this;simpa using this
   have:=b9 (off+1) (acc.push x.toNat.toUInt8) s uQ h;show (loadBytes _ acc (r.length+1)).run P w=_;unfold loadBytes;refine c6 (a:= .int .u8 x) (w1:=w) (by simp [Go.load,Sem.run,RD]) ?_;simp only [Addr.jA];rw[Nat.add_assoc];exact this
  |_=>cases h
def Bo (cD:Nat):List Nat->bW hf->Option (bW hf)
 |[],t=>some t
 |m::r,t=>match t.get m with
  |some k=>bif Nat.beq k.cD cD then
    match bW.set {k with ro:=true} depth t m with
    |some c7=>Bo cD r c7
    |none=>none
   else Bo cD r t
  |none=>Bo cD r t
def tu (cD:Nat) (k:hf):hf:=bif Nat.beq k.cD cD then {k with ro:=true} else k
omit [a6] in
theorem abS (cD:Nat) (k:hf):tu cD (tu cD k)=tu cD k:=by
 unfold tu;cases h:Nat.beq k.cD cD<;>simp [h]
omit [a6] in
theorem GY (cD:Nat):∀(l:List Nat) (t c7:bW hf),Bo cD l t=some c7->∀j,c7.get j=if j∈l then (t.get j).map (tu cD) else t.get j
 |[],t,c7,h,j=>by cases h;simp
 |m::r,t,c7,h,j=>by
  unfold Bo at h;split at h
  ·rename_i k ag
   cases aO:Nat.beq k.cD cD with
   |true=>
    rw[aO,bs] at h;split at h
    ·rename_i t1 abT
     have gi:=λj=>bW.nB _ _ _ _ _ j abT
     have l5:({k with ro:=true}:hf)=tu cD k:=by simp [tu,aO]
     rw[GY cD r t1 c7 h j,gi];by_cases eM:j=m
     ·subst eM
      rw[aI rfl,aI List.mem_cons_self,ag,l5];split
      ·simp [abS]
      ·rfl
     ·rw[aG eM]
      have:(j∈m::r)↔j∈r:=by simp [eM]
      simp only [this]
    ·cases h
   |false=>
    rw[aO,dZ] at h;rw[GY cD r t c7 h j];by_cases eM:j=m
    ·subst eM
     rw[aI List.mem_cons_self,ag];have:tu cD k=k:=by simp [tu,aO]
     split<;>simp [this]
    ·have:(j∈m::r)↔j∈r:=by simp [eM]
     simp only [this]
  ·rename_i ag
   rw[GY cD r t c7 h j];by_cases eM:j=m
   ·subst eM
    rw[aI List.mem_cons_self,ag];split<;>rfl
   ·have:(j∈m::r)↔j∈r:=by simp [eM]
    simp only [this]
def aW.freeze (A:aW) (k:hf):Option aW:=
 match A.mem.get k.cD with
 |some l=>match Bo k.cD l A.bl with
  |some t=>some {A with bl:=t,low:=l.foldl Nat.min A.low}
  |none=>none
 |none=>none
theorem abU (hr:bN φ A w) {b n:Nat} {k:hf} {c:List J} {e:gP} (off:Nat) (ag:A.bl.get b=some k) (fa:k.obj= .cells c) (da:k.ro=false) (he:φ b=some e) (h:A.freeze k=some aS):
  cb φ A w φ aS (w.freeze ⟨e.bd,e.sh+off,none⟩ n):=by
 unfold aW.freeze at h;split at h
 ·rename_i l hl
  split at h
  ·rename_i t aF
   cases h;have gi:=GY _ _ _ _ aF;obtain⟨ri,abV⟩:=Gw l A.low;obtain⟨dS,gV,_,ho⟩:=hr.ea b e he;rw[ag] at gV;cases gV;unfold fh at ho;simp only [fa] at ho;obtain⟨c',jb,h1,ae,ar,bm,cg⟩:=ho;have fE:∀j dB,t.get j=some dB->∃bX,A.bl.get j=some bX/\dB.cD=bX.cD/\dB.pos=bX.pos/\dB.ei=bX.ei/\dB.ty=bX.ty/\dB.obj=bX.obj/\dB.ro=(bX.ro||Nat.beq bX.cD k.cD):=by
    intro j dB hj;rw[gi] at hj;by_cases kn:j∈l
    ·rw[aI kn] at hj
     obtain⟨bX,q1,rfl⟩:=Option.map_eq_some_iff.1 hj;refine⟨bX,q1,?_⟩;unfold tu;cases aO:Nat.beq bX.cD k.cD<;>simp
    ·rw[aG kn] at hj
     refine⟨dB,hj,rfl,rfl,rfl,rfl,rfl,?_⟩;cases aO:Nat.beq dB.cD k.cD with
     |false=>simp
     |true=>
      exfalso;obtain⟨l',q1,aB⟩:=hr.wf.mem j dB hj;rw[cq aO,hl] at q1;cases q1;exact kn aB
   have o_:∀i,i≠e.bd->(w.freeze ⟨e.bd,e.sh+off,none⟩ n).heap[i]? =w.heap[i]? :=λi af=>by
    unfold World.freeze;split
    ·rfl
    ·simp only [Array.getElem?_modify]
     rw[aG (Ne.symm af)]
   have K8:∃GZ,(w.freeze ⟨e.bd,e.sh+off,none⟩ n).heap[e.bd]? =some (.cells c' k.ty GZ):=by
    unfold World.freeze;split
    ·exact⟨jb,h1⟩
    ·simp only [Array.getElem?_modify,aI,h1,Option.map_some]
     exact⟨_,rfl⟩
   obtain⟨GZ,K8⟩:=K8;refine {rel:=⟨⟨?_,?_,?_,?_⟩,?_,?_,?_,λi o af=>⟨by rw[o_ i (Ne.symm ((hr.dL i o af).2 _ _ he))];exact(hr.dL i o af).1,(hr.dL i o af).2⟩⟩,ea:=λ_ _=>rfl,qv:=λb h1 ae=>absurd ae (by show ¬b<A.n;omega),new:=λb e h1 ae=>absurd (hr.lt ae) aj,o9:=bL _,low:=ri,same:= ?_,ro:= ?_,keep:= ?_,fN:= ?_,os:= ?_,tape:= ?_,output:= ?_,drawn:= ?_}
   ·intro j dB hj
    obtain⟨bX,q1,_⟩:=fE j dB hj;exact hr.wf.lt j bX q1
   ·intro j dB hj
    obtain⟨bX,q1,aB,_⟩:=fE j dB hj;rw[aB];exact hr.wf.sc j bX q1
   ·intro j dB hj
    obtain⟨bX,q1,aB,_⟩:=fE j dB hj;rw[aB];exact hr.wf.mem j bX q1
   ·intro j oI eU oJ hj gh aO
    obtain⟨bX,q1,aB,_,_,_,_,b_⟩:=fE j oI hj;obtain⟨dB,tn,za,_,_,_,_,rl⟩:=fE eU oJ gh;rw[aB,za] at aO;rw[b_,rl,hr.wf.ti j bX eU dB q1 tn aO,aO]
   ·intro j fp hj
    obtain⟨bX,gW,uN,hn⟩:=hr.ea j fp hj;obtain⟨dB,R6⟩:∃dB,t.get j=some dB:=by
     rw[gi];split
     ·rw[gW];exact⟨_,rfl⟩
     ·exact⟨bX,gW⟩
    obtain⟨fb,q1,aB,b_,eB,hh,ln,pR⟩:=fE j dB R6;rw[gW] at q1;cases q1;refine⟨dB,R6,by rw[eB];exact uN,?_⟩;by_cases iR:fp.bd=e.bd
    ·have n':bX.cD=k.cD:=by
      rcases Nat.lt_trichotomy bX.cD k.cD with h|h|h
      ·exact absurd iR (hr.apart j fp bX b e k hj he gW ag aj)
      ·exact h
      ·exact absurd iR (hr.apart j fp bX b e k hj he gW ag aj)
     have abW:dB.ro=true:=by rw[pR,n'];simp
     unfold fh at hn ⊢;rw[ln];cases gN:bX.obj with
     |cells zb=>
      simp only [gN] at hn ⊢;obtain⟨De,Df,cQ,dr,fP,tj,Bd⟩:=hn;rw[iR,h1] at cQ;simp only [cz,Obj.cells.injEq] at cQ;obtain⟨rfl,hty,rfl⟩:=cQ;refine⟨c',GZ,by rw[iR,hh,<-hty];exact K8,dr,by rw[eB];exact fP,tj,λal=> ?_⟩;rw[abW] at al;cases al
     |map es eo=>
      simp only [gN] at hn;obtain⟨c8,cQ,_⟩:=hn;rw[iR,h1] at cQ;cases cQ
     |fz x=>
      simp only [gN] at hn;obtain⟨_,o',cQ,dr⟩:=hn;rw[iR,h1] at cQ;cases cQ;exact absurd dr λh=>qu.Ro h
    ·have:=hn.mono (w':=w.freeze ⟨e.bd,e.sh+off,none⟩ n) (λ_ _ h=>h) (o_ _ iR)
     unfold fh at this ⊢;rw[ln];cases gN:bX.obj with
     |cells zb=>
      simp only [gN] at this ⊢;obtain⟨De,Df,cQ,dr,fP,tj,Bd⟩:=this;refine⟨De,Df,by rw[hh];exact cQ,dr,by rw[eB];exact fP,tj,λal=>Bd ?_⟩;rw[pR] at al;simp only [Bool.or_eq_false_iff] at al;exact al.1
     |map es eo=>
      simp only [gN] at this ⊢;exact this
     |fz x=>
      simp only [gN] at this ⊢;exact this
   ·intro j fp oI eU pL oJ q1 aB hj gh cv
    obtain⟨bX,cQ,dr,_⟩:=fE j oI hj;obtain⟨dB,sq,tv,_⟩:=fE eU oJ gh;exact hr.apart j fp bX eU pL dB q1 aB cQ sq (by rw[<-dr,<-tv];exact cv)
   ·intro j fp oI eU pL oJ q1 aB hj gh aO ad
    obtain⟨bX,cQ,dr,fP,_⟩:=fE j oI hj;obtain⟨dB,sq,tv,Bp,_⟩:=fE eU oJ gh;rw[fP,Bp];exact hr.along j fp bX eU pL dB q1 aB cQ sq (by rw[<-dr,<-tv];exact aO) ad
   ·intro j hj kn
    show t.get j=_;rw[gi,aG];intro hm;have:=abV j hm;exact absurd kn (by show ¬j<l.foldl Nat.min A.low;omega)
   ·intro j bX gW qy
    show t.get j=_;rw[gi];split
    ·rw[gW]
     simp only [Option.map_some,cz];unfold tu;cases aO:Nat.beq bX.cD k.cD with
     |false=>rfl
     |true=>
      obtain⟨iX,f1,hi,s1,ama,t1⟩:=bX;simp only at qy;subst qy;rfl
    ·exact gW
   ·intro i af km
    refine o_ i λrn=> ?_
    have:=km b e k he rn.symm ag;rw[da] at this;cases this
   ·unfold World.freeze;split
    ·exact bL _
    ·simp
   all_goals (unfold World.freeze;split<;>first|rfl|exact bL _)
  ·cases h
 ·cases h
def K9 (P:aQ) (A:aW) (cM:Array aK) (x n:J):Option (J×aW):=
 match cM[0]?,x,n with
 |some R7,.pointer (some ⟨b,off,none⟩),.int _ n=>match a' P (elemOf R7),A.bl.get b with
  |some u,some k=>match k.obj with
   | .cells _=>
     bif decide (0<n)&&decide (n<=16777216)&&Nat.beq (P.cellsOf k.ty) 1&&sameLayout P P.depth k.ty u&& !k.ro then
      match A.qz b off n.toNat with
      |some l=>match K7 l .empty,A.freeze k with
       |some s,some br=>some (.string s,br)
       |_,_=>none
      |none=>none
     else none
   |_=>none
  |_,_=>none
 |_,_,_=>none
theorem abX (hr:bN φ A w) {cM:Array aK} {ty:aK} {x x' n v:J} (ah:aD φ x x') (h:K9 P A cM x n=some (v,aS)):bP (gQ v) P φ A w (Builtin.unsafeString_ cM ty #[x',n]) aS:=by
 unfold K9 at h;split at h
 ·rename_i R7 b off fb n abY
  split at h
  ·rename_i u k hu ag
   split at h
   ·rename_i c fa
    cases ai:(decide (0<n)&&decide (n<=16777216)&&Nat.beq (P.cellsOf k.ty) 1&&sameLayout P P.depth k.ty u&& !k.ro) with
    |false=>rw[ai] at h;cases h
    |true=>
     rw[ai,bs] at h;simp only [cV,decide_eq_true_eq,Bool.not_eq_true'] at ai;obtain⟨⟨⟨⟨fX,jy⟩,tw⟩,R8⟩,da⟩:=ai;have tw:P.cellsOf k.ty=1:=cq tw;split at h
     ·rename_i l hl
      split at h
      ·rename_i s br hs aO
       simp only [cz,Prod.mk.injEq] at h;obtain⟨rfl,rfl⟩:=h;cases ah with
       |ptr he=>
        rename_i e;obtain⟨hlen,vW⟩:=zc hl;obtain⟨k',dj,_,ho⟩:=hr.ea b e he;rw[ag] at dj;cases dj;unfold fh at ho;simp only [fa] at ho;obtain⟨c',jb,h1,ae,ar,bm,cg⟩:=ho;have pc:off+n.toNat<=c.length:=by
         have aA:=vW (n.toNat-1) aj;unfold aW.load at aA;rw[ag] at aA;obtain⟨uM,cD,pos,st,ro,amb⟩:=k;simp only at fa;subst fa;simp only at aA;have:=(List.getElem?_eq_some_iff.1 aA).1;omega
        have eH:=abR (P:=P) hr he l off .empty s (λj hj=>vW j aj) hs;have oK:=abU (n:=n.toNat) hr off ag fa da he aO;refine⟨φ,_,.string s,?_,.string s,oK⟩;have K5:liesAt P P.depth k.ty (c'.size/P.cellsOf k.ty) (e.sh+off) u n.toNat=true:=by
         obtain⟨d,a8⟩:∃d,P.depth=d+1:=⟨_,rfl⟩;rw[a8] at R8 ⊢;unfold liesAt rowAt;rw[a8];simp only [tw,Nat.div_one,Nat.mod_one,beq_self_eq_true,Bool.true_and];have:decide (e.sh+off+n.toNat<=c'.size)=true:=kF aj;simp [this,R8]
        have ax:(variablesAt ⟨e.bd,e.sh+off,none⟩ u n.toNat).run P w= .ok true w:=by
         unfold variablesAt;refine cJ (a:=P) rfl ?_;refine c6 (GX h1) ?_;simp only [K5];rfl
        refine cJ (s:=asInt (.int fb n)) (a:=n) rfl ?_;have v8:¬n>IntKind.i64.max:=by
         have:(16777216:Int)<=IntKind.i64.max:=by decide
         omega
        simp only [abY];rw[aG aj,aG v8,aG aj];refine cJ hu ?_;refine c6 ax ?_;rw[aI rfl];refine c6 (by rw[<-hlen];exact eH) ?_;rfl
      ·cases h
     ·cases h
   ·cases h
  ·cases h
 ·cases h
def K' (P:aQ) (A:aW) (cM:Array aK) (x:J):Option aW:=
 match cM[0]? with
 |some t=>match a' P (underlying t),x with
  |some (.slice _),.slice none _ _=>some A
  |some (.slice elem),.slice (some ⟨b,off,none⟩) n _=>bif Nat.beq n 0 then some A else
    match a' P (zeroValue elem) with
    |some z=>bif plain z&&(cellsOf z).isSome&&Nat.blt 0 z.cells.size then A.pM b off (Builtin.zeroCells z.cells n).toList else none
    |none=>none
  |_,_=>none
 |none=>none
theorem abZ (hr:bN φ A w) {cM:Array aK} {ty:aK} {x x':J} (ah:aD φ x x') (h:K' P A cM x=some aS):bP (gQ undef) P φ A w (Builtin.clear_ cM ty #[x']) aS:=by
 unfold K' at h;split at h
 ·rename_i t aF
  split at h
  ·rename_i e l c hu
   cases h;cases ah;refine⟨φ,w,undef,?_,aD.xF φ,cb.refl hr⟩;unfold Builtin.clear_;simp only [aF,List.getElem?_toArray,List.getElem?_cons_zero];exact cJ hu rfl
  ·rename_i elem b off n c hu
   have ab0:∃aR c',x'= .slice (some aR) n c':=by
    cases ah with
    |hR _ _ h=>exact⟨_,_,rfl⟩
    |hS _ _ _ h _ _ _=>exact⟨_,_,rfl⟩
    |h7 aR _=>exact⟨_,_,rfl⟩
   cases ak:Nat.beq n 0 with
   |true=>
    rw[ak] at h;cases h;have fX:n=0:=cq ak;subst fX;obtain⟨aR,c',rfl⟩:=ab0;refine⟨φ,w,undef,?_,aD.xF φ,cb.refl hr⟩;unfold Builtin.clear_;simp only [aF,List.getElem?_toArray,List.getElem?_cons_zero];exact cJ hu rfl
   |false=>
    rw[ak,dZ] at h;have fX:n≠0:=λe=>by subst e;simp at ak
    split at h
    ·rename_i z bu
     cases ai:(plain z&&(cellsOf z).isSome&&Nat.blt 0 z.cells.size) with
     |false=>rw[ai] at h;cases h
     |true=>
      rw[ai,bs] at h;simp only [cV] at ai;have qC:=Nat.blt_eq.mp ai.2;have pb:=GG ai.1.1 ai.1.2 φ;have jL:∀j,j<(Builtin.zeroCells z.cells n).toList.length->aD φ ((Builtin.zeroCells z.cells n).toList.getD j undef) ((Builtin.zeroCells z.cells n).toList.getD j undef):=by
       intro j hj;unfold Builtin.zeroCells at hj ⊢;simp at hj;have hm:=Nat.mod_lt j qC;have:=pb (j%z.cells.size) hm;simp only [eO] at this;simpa [c_,hj,hm,getElem!_pos] using this
      have main:∀(e:gP) (c':Nat),φ b=some e->x'= .slice (some ⟨e.bd,e.sh+off,none⟩) n c'->bP (gQ undef) P φ A w (Builtin.clear_ cM ty #[x']) aS:=by
       intro e c' he qE;obtain⟨w',g1,g2⟩:=Bh P he _ A aS w off 0 (Builtin.zeroCells z.cells n).toList hr (by simpa using h) rfl jL;refine⟨φ,w',undef,?_,aD.xF φ,g2⟩;subst qE;unfold Builtin.clear_;simp only [aF,List.getElem?_toArray,List.getElem?_cons_zero];refine cJ hu ?_;obtain⟨fi,rfl⟩:∃fi,n=fi+1:=⟨n-1,aj⟩;refine cJ bu ?_;exact c6 (by simpa using g1) rfl
      cases ah with
      |hR _ _ he=>exact main _ _ he rfl
      |hS _ _ _ he _ _ _=>exact main _ _ he rfl
      |h7 aR _=>exact absurd rfl fX
    ·cases h
  ·cases h
 ·cases h
end
end AE
namespace AE
variable [a6]
def aW.zl (A:aW) (b:Nat):Option (List jn×Nat):=
 match A.bl.get b with
 |some k=>match k.obj with
  | .map es eo=>some (es,eo)
  |_=>none
 |none=>none
def aW.v' (A:aW) (b:Nat) (es:List jn) (eo:Nat):Option aW:=
 match A.bl.get b with
 |some k=>match k.obj,A.mem.get k.cD with
  | .map _ _,some [m]=>bif Nat.beq m b&& !k.ro then
      match bW.set {k with obj:= .map es eo} depth A.bl b with
      |some t=>some {A with bl:=t,low:=Nat.min A.low b}
      |none=>none
    else none
  |_,_=>none
 |none=>none
def aW.K_ (A:aW) (b:Nat):Option (ByteArray×Nat):=
 match A.bl.get b with
 |some k=>match k.obj with
  | .fz (.vR s p)=>some (s,p)
  |_=>none
 |none=>none
def aW.setIter (A:aW) (b:Nat) (s:ByteArray) (p:Nat):Option aW:=
 match A.bl.get b with
 |some k=>match k.obj,A.mem.get k.cD with
  | .fz _,some [m]=>bif Nat.beq m b&& !k.ro then
      match bW.set {k with obj:= .fz (.vR s p)} depth A.bl b with
      |some t=>some {A with bl:=t,low:=Nat.min A.low b}
      |none=>none
    else none
  |_,_=>none
 |none=>none
def kr (φ:bM) (es:List jn) (c8:Array MapEntry):Prop:=
 es.length=c8.size/\∀(j:Nat) (a:jn) (b:MapEntry),es[j]? =some a->c8[j]? =some b->plain a.key=true/\a.key=b.key/\aD φ a.val b.val/\a.born=b.born
section
variable {P:aQ} {φ:bM} {A aS:aW} {w:ao}
theorem Dz (hr:bN φ A w) {b:Nat} {es:List jn} {eo:Nat} {e:gP} (h:A.zl b=some (es,eo)) (he:φ b=some e):∃c8,w.heap[e.bd]? =some (.map c8 eo)/\kr φ es c8:=by
 unfold aW.zl at h;split at h
 ·rename_i k ag
  obtain⟨k',dj,_,ho⟩:=hr.ea b e he;rw[ag] at dj;cases dj;split at h
  ·rename_i zm amc fa
   cases h;simp only [fh,fa] at ho;obtain⟨c8,h1,ae,ar⟩:=ho;exact⟨c8,h1,ae,ar⟩
  ·cases h
 ·cases h
theorem ab1 (hr:bN φ A w) {b p:Nat} {s:ByteArray} {e:gP} (h:A.K_ b=some (s,p)) (he:φ b=some e):e.sh=0/\w.heap[e.bd]? =some (.stringIter s p):=by
 unfold aW.K_ at h;split at h
 ·rename_i k ag
  obtain⟨k',dj,_,ho⟩:=hr.ea b e he;rw[ag] at dj;cases dj;split at h
  ·rename_i b3 DA fa
   cases h;simp only [fh,fa] at ho;obtain⟨aJ,o',h1,ae⟩:=ho;simp only [qu] at ae;exact⟨aJ,by rw[h1,ae]⟩
  ·cases h
 ·cases h
theorem R9 (hr:bN φ A w) {b:Nat} {k:hf} {o:pJ} {t:bW hf} {e:gP} {o':Obj} (he:φ b=some e) (ag:A.bl.get b=some k) (mv:A.mem.get k.cD=some [b]) (da:k.ro=false) (aF:bW.set {k with obj:=o} depth A.bl b=some t)
  (ho:∀w',w'.heap[e.bd]? =some o'->fh φ w' e k->fh φ w' e {k with obj:=o}\/True) (zh:∀w',w'.heap[e.bd]? =some o'->fh φ w' e {k with obj:=o}):
  cb φ A w φ {A with bl:=t,low:=Nat.min A.low b} {w with heap:=w.heap.setIfInBounds e.bd o'}:=by
 have gi:=λj=>bW.nB _ _ _ _ _ j aF
 obtain⟨dS,gV,cF,Bq⟩:=hr.ea b e he;rw[ag] at gV;cases gV;have bt:=Bq.lt;have La:∀j bX,A.bl.get j=some bX->bX.cD=k.cD->j=b:=by
  intro j bX hj aO;obtain⟨l,q1,aB⟩:=hr.wf.mem j bX hj;rw[aO,mv] at q1;cases q1;simpa using aB
 have cv:∀j fp,j≠b->φ j=some fp->fp.bd≠e.bd:=by
  intro j fp hj hg;obtain⟨bX,gW,_,_⟩:=hr.ea j fp hg;exact hr.apart j fp bX b e k hg he gW ag λaO=>hj (La j bX gW aO)
 have o_:∀i,i≠e.bd->(w.heap.setIfInBounds e.bd o')[i]? =w.heap[i]? :=λi af=>by
  rw[Array.getElem?_setIfInBounds_ne (Ne.symm af)]
 have fE:∀j dB,t.get j=some dB->∃bX,A.bl.get j=some bX/\dB.cD=bX.cD/\dB.pos=bX.pos/\dB.ro=bX.ro:=by
  intro j dB hj;rw[gi] at hj;by_cases eM:j=b
  ·rw[aI eM] at hj
   cases hj;subst eM;exact⟨k,ag,rfl,rfl,rfl⟩
  ·rw[aG eM] at hj
   exact⟨dB,hj,rfl,rfl,rfl⟩
 refine {rel:=⟨⟨?_,?_,?_,?_⟩,?_,?_,?_,λi o af=>⟨by rw[o_ i (Ne.symm ((hr.dL i o af).2 _ _ he))];exact(hr.dL i o af).1,(hr.dL i o af).2⟩⟩,ea:=λ_ _=>rfl,qv:=λb h1 ae=>absurd ae (by show ¬b<A.n;omega),new:=λb e h1 ae=>absurd (hr.lt ae) aj,o9:=bL _,low:=Nat.min_le_left _ _,same:= ?_,ro:= ?_,keep:= ?_,fN:=by simp,os:=rfl,tape:=rfl,output:=rfl,drawn:=bL _}
 ·intro j dB hj
  obtain⟨bX,q1,_⟩:=fE j dB hj;exact hr.wf.lt j bX q1
 ·intro j dB hj
  obtain⟨bX,q1,aB,_⟩:=fE j dB hj;rw[aB];exact hr.wf.sc j bX q1
 ·intro j dB hj
  obtain⟨bX,q1,aB,_⟩:=fE j dB hj;rw[aB];exact hr.wf.mem j bX q1
 ·intro j oI eU oJ hj gh aO
  obtain⟨bX,q1,aB,_,b_⟩:=fE j oI hj;obtain⟨dB,tn,za,_,rl⟩:=fE eU oJ gh;rw[b_,rl];exact hr.wf.ti j bX eU dB q1 tn (by rw[<-aB,<-za];exact aO)
 ·intro j fp hj
  by_cases eM:j=b
  ·subst eM
   rw[he] at hj;cases hj;exact⟨{k with obj:=o},by rw[gi,aI rfl],cF,zh _ (by show (w.heap.setIfInBounds e.bd o')[e.bd]? =_;rw[Array.getElem?_setIfInBounds_self_of_lt bt])⟩
  ·obtain⟨bX,gW,uN,hn⟩:=hr.ea j fp hj
   exact⟨bX,by rw[gi,aG eM];exact gW,uN,hn.mono (λ_ _ h=>h) (o_ _ (cv j fp eM hj))⟩
 ·intro j fp oI eU pL oJ q1 aB hj gh l6
  obtain⟨bX,cQ,dr,_⟩:=fE j oI hj;obtain⟨dB,sq,tv,_⟩:=fE eU oJ gh;exact hr.apart j fp bX eU pL dB q1 aB cQ sq (by rw[<-dr,<-tv];exact l6)
 ·intro j fp oI eU pL oJ q1 aB hj gh aO ad
  obtain⟨bX,cQ,dr,fP,_⟩:=fE j oI hj;obtain⟨dB,sq,tv,Bp,_⟩:=fE eU oJ gh;rw[fP,Bp];exact hr.along j fp bX eU pL dB q1 aB cQ sq (by rw[<-dr,<-tv];exact aO) ad
 ·intro j hj kn
  show t.get j=_;rw[gi,aG];intro eM;subst eM;exact absurd (Nat.lt_of_lt_of_le kn (Nat.min_le_right A.low j)) (Nat.lt_irrefl j)
 ·intro j bX gW qy
  show t.get j=_;rw[gi,aG]
  ·exact gW
  ·intro eM
   subst eM;rw[ag] at gW;cases gW;rw[da] at qy;cases qy
 ·intro i af km
  refine o_ i λrn=> ?_
  have:=km b e k he rn.symm ag;rw[da] at this;cases this
theorem zn (hr:bN φ A w) {b:Nat} {es:List jn} {c8:Array MapEntry} {eo:Nat} {e:gP} (he:φ b=some e) (h:A.v' b es eo=some aS) (dd:kr φ es c8):cb φ A w φ aS {w with heap:=w.heap.setIfInBounds e.bd (.map c8 eo)}:=by
 unfold aW.v' at h;split at h
 ·rename_i k ag
  split at h
  ·rename_i iI DB m fa mv
   cases ai:(Nat.beq m b&& !k.ro) with
   |false=>rw[ai] at h;cases h
   |true=>
    rw[ai,bs] at h;simp only [cV,Bool.not_eq_true'] at ai;have DC:m=b:=cq ai.1;subst DC;split at h
    ·rename_i t aF
     cases h;exact R9 hr he ag mv ai.2 aF (λ_ _ _=> .inr trivial) λw' Di=>by
      simp only [fh];exact⟨c8,Di,dd.1,dd.2⟩
    ·cases h
  ·cases h
 ·cases h
theorem ab2 (hr:bN φ A w) {b p:Nat} {s:ByteArray} {e:gP} (he:φ b=some e) (aJ:e.sh=0) (h:A.setIter b s p=some aS):cb φ A w φ aS {w with heap:=w.heap.setIfInBounds e.bd (.stringIter s p)}:=by
 unfold aW.setIter at h;split at h
 ·rename_i k ag
  split at h
  ·rename_i iI m fa mv
   cases ai:(Nat.beq m b&& !k.ro) with
   |false=>rw[ai] at h;cases h
   |true=>
    rw[ai,bs] at h;simp only [cV,Bool.not_eq_true'] at ai;have DC:m=b:=cq ai.1;subst DC;split at h
    ·rename_i t aF
     cases h;exact R9 hr he ag mv ai.2 aF (λ_ _ _=> .inr trivial) λw' Di=>by
      simp only [fh];exact⟨aJ,_,Di,rfl⟩
    ·cases h
  ·cases h
 ·cases h
def tz (es:List jn):List MapEntry:=es.map λe=>{key:=e.key,val:= .bool false,born:=0}
omit [a6] in
theorem R' (kind:TypeDesc) (key:J):∀(es:List jn) (c8:List MapEntry) (i:Nat),es.map (·.key)=c8.map (·.key)->
  match Instr.findNow kind key (tz es) i with
  |none=>Instr.findNow kind key c8 i=none
  |some none=>Instr.findNow kind key c8 i=some none
  |some (some (j,_))=>∃b,i<=j/\c8[j-i]? =some b/\Instr.findNow kind key c8 i=some (some (j,b.val))
 |[],[],i,_=>by simp [tz,Instr.findNow]
 |[],_::_,_,h=>by simp at h
 |_::_,[],_,h=>by simp at h
 |a::r,b::dN,i,h=>by
  simp only [List.map_cons,List.cons.injEq] at h;have b9:=R' kind key r dN (i+1) h.2;have a8:tz (a::r)={key:=a.key,val:= .bool false,born:=0}::tz r:=rfl;rw[a8];unfold Instr.findNow;simp only;rw[h.1];cases hs:Instr.sameNow kind key b.key with
  |none=>simp
  |some t=>
   cases t with
   |true=>
    simp only;exact⟨b,bL _,by simp,rfl⟩
   |false=>
    simp only;cases aO:Instr.findNow kind key (tz r) (i+1) with
    |none=>rw[aO] at b9;exact b9
    |some o=>cases o with
     |none=>rw[aO] at b9;exact b9
     |some p=>
      obtain⟨j,u⟩:=p;rw[aO] at b9;obtain⟨b',h1,ae,ar⟩:=b9;exact⟨b',aj,by rw[show j-i=(j-(i+1))+1 by omega];exact ae,ar⟩
omit [a6] in
theorem R_ (eI:aK) (key:J):∀(es:List jn) (c8:List MapEntry) (i:Nat) (r:Option (Nat×J)),es.map (·.key)=c8.map (·.key)->a' P (Instr.findAsking eI key (tz es) i)=some r->
  match r with
  |none=>∀w,(Instr.findAsking eI key c8 i).run P w= .ok none w
  |some (j,_)=>∃b,i<=j/\c8[j-i]? =some b/\∀w,(Instr.findAsking eI key c8 i).run P w= .ok (some (j,b.val)) w
 |[],[],i,r,_,h=>by
  simp only [tz,List.map_nil,Instr.findAsking] at h;cases h;exact λw=>rfl
 |[],_::_,_,_,h,_=>by simp at h
 |_::_,[],_,_,h,_=>by simp at h
 |a::l,b::l',i,r,ag,h=>by
  simp only [List.map_cons,List.cons.injEq] at ag;have a8:tz (a::l)={key:=a.key,val:= .bool false,born:=0}::tz l:=rfl;rw[a8] at h;unfold Instr.findAsking at h;rw[rp] at h;cases he:a' P (Op.equal eI key a.key) with
  |none=>rw[he] at h;cases h
  |some t=>
   rw[he] at h;simp only [Option.bind_some] at h;have pS:=iF (ag.1▸he);cases t with
   |true=>
    simp only [if_true] at h;cases h;refine⟨b,bL _,by simp,λw=> ?_⟩;unfold Instr.findAsking;exact c6 (pS w) (by simp only [if_true];rfl)
   |false=>
    simp only [Bool.false_eq_true,if_false] at h;have b9:=R_ eI key l l' (i+1) r ag.2 h;cases r with
    |none=>
     intro w;unfold Instr.findAsking;exact c6 (pS w) (by simp only [Bool.false_eq_true,if_false];exact b9 w)
    |some p=>
     obtain⟨j,u⟩:=p;obtain⟨b',h1,ae,ar⟩:=b9;refine⟨b',aj,by rw[show j-i=(j-(i+1))+1 by omega];exact ae,λw=> ?_⟩;unfold Instr.findAsking;exact c6 (pS w) (by simp only [Bool.false_eq_true,if_false];exact ar w)
def Br (P:aQ) (eI:aK) (key:J) (es:List jn):Option (Option Nat):=(a' P (Instr.findKey eI key (tz es))).map (Option.map (·.1))
omit [a6] in
theorem xP {eI:aK} {key:J} {es:List jn} {c8:List MapEntry} (ag:es.map (·.key)=c8.map (·.key)) {r:Option Nat} (h:Br P eI key es=some r):
  match (generalizing:=false) r with
  |none=>∀w,(Instr.findKey eI key c8).run P w= .ok none w
  |some j=>∃b,c8[j]? =some b/\∀w,(Instr.findKey eI key c8).run P w= .ok (some (j,b.val)) w:=by
 unfold Br at h;rw[xD] at h;obtain⟨q,h,rfl⟩:=h;unfold Instr.findKey at h;rw[rp] at h;cases hu:a' P (underlying eI) with
 |none=>rw[hu] at h;cases h
 |some d=>
  rw[hu] at h;simp only [Option.bind_some] at h;have ak:=R' d key es c8 0 ag;have G0:=iF hu;cases aO:Instr.findNow d key (tz es) 0 with
  |none=>
   rw[aO] at h ak;simp only at h ak;have ha:=R_ (P:=P) eI key es c8 0 q ag h;cases q with
   |none=>
    intro w;unfold Instr.findKey;exact c6 (G0 w) (by rw[ak];exact ha w)
   |some p=>
    obtain⟨j,u⟩:=p;obtain⟨b,_,ae,ar⟩:=ha;refine⟨b,by simpa using ae,λw=> ?_⟩;unfold Instr.findKey;exact c6 (G0 w) (by rw[ak];exact ar w)
  |some o=>
   rw[aO] at h ak;simp only at h;have gu:o=q:=by
    have:some o=some q:=h;cases this;rfl
   subst gu;cases o with
   |none=>
    intro w;unfold Instr.findKey;exact c6 (G0 w) (by rw[ak];rfl)
   |some p=>
    obtain⟨j,u⟩:=p;obtain⟨b,_,ae,ar⟩:=ak;refine⟨b,by simpa using ae,λw=> ?_⟩;unfold Instr.findKey;exact c6 (G0 w) (by rw[ar];rfl)
theorem kr.keys {es:List jn} {c8:Array MapEntry} (h:kr φ es c8):es.map (·.key)=c8.toList.map (·.key):=by
 refine List.ext_getElem? λj=> ?_
 simp only [List.getElem?_map,Array.getElem?_toList];cases h1:es[j]? with
 |none=>
  have:c8[j]? =none:=by
   rw[Array.getElem?_eq_none_iff,<-h.1];exact List.getElem?_eq_none_iff.1 h1
  rw[this];rfl
 |some a=>
  have bt:j<c8.size:=by rw[<-h.1];exact(List.getElem?_eq_some_iff.1 h1).1
  obtain⟨b,ad⟩:∃b,c8[j]? =some b:=⟨_,Array.getElem?_eq_getElem bt⟩;rw[ad];simp only [Option.map_some,cz];exact(h.2 j a b h1 ad).2.1
theorem kr.isEmpty {es:List jn} {c8:Array MapEntry} (h:kr φ es c8):es.isEmpty=c8.isEmpty:=by
 have:=h.1;cases es with
 |nil=>simp at this;simp [Array.isEmpty,<-this]
 |cons a r=>simp at this;simp [Array.isEmpty,<-this]
theorem kr.nil:kr φ [] #[]:=⟨rfl,λj a b h=>by simp at h⟩
def Lb (P:aQ) (A:aW) (t:aK) (r:Option J):Option (J×aW):=
 match (match r with
  |none=>some ()
  |some h=>match a' P (underlying t),a' P (asInt h) with
   |some (.map _ _),some _=>some ()
   |_,_=>none) with
 |some _=>match A.push (.map [] 0) 0 0 with
  |some (b,br)=>some (.map (some b),br)
  |none=>none
 |none=>none
theorem ab3 (hr:bN φ A w) {t:aK} {r:Option J} {v:J} (h:Lb P A t r=some (v,aS)):bP (gQ v) P φ A w (Instr.makeMap t r) aS:=by
 unfold Lb at h;split at h
 ·rename_i ai
  split at h
  ·rename_i b br hp
   cases h;have cF:=Bf (e:=⟨w.heap.size,0,0,0⟩) (o':= .map #[] 0) hr hp U U (by simp only [fh];exact⟨#[],by simp,rfl,λj a b h=>by simp at h⟩);have ax:aD (gB φ b ⟨w.heap.size,0,0,0⟩) (.map (some b)) (.map (some w.heap.size)):= .map (e:=⟨w.heap.size,0,0,0⟩) (by simp [gB]);refine⟨_,_,.map (some w.heap.size),?_,ax,cF⟩;unfold Instr.makeMap;cases r with
   |none=>rfl
   |some hint=>
    simp only at ai;split at ai
    ·rename_i a b' hu af
     refine cJ hu ?_;simp only;refine cJ af ?_;rfl
    ·cases ai
  ·cases h
 ·cases h
def mapOf (A:aW):J->Option (List jn)
 | .map none=>some []
 | .map (some b)=>(A.zl b).map (·.1)
 |_=>none
def G1 (P:aQ) (A:aW) (t:aK) (x dP:J) (ok:Bool):Option J:=
 bif plain dP then match a' P (underlying t) with
  |some (.map eI elem)=>match mapOf A x with
   |some es=>match a' P (Instr.checkKey es.isEmpty 10000 eI dP) with
    |some _=>match Br P eI dP es with
     |some (some j)=>match es[j]? with
      |some e=>some (bif ok then .tuple ⟨[e.val,.bool true]⟩ else e.val)
      |none=>none
     |some none=>match a' P (zeroValue elem) with
      |some z=>bif plain z then some (bif ok then .tuple ⟨[z,.bool false]⟩ else z) else none
      |none=>none
     |none=>none
    |none=>none
   |none=>none
  |_=>none
 else none
theorem Sa {a aR:J} (h:aD φ a aR) (b:Bool):aD φ (.tuple ⟨[a,.bool b]⟩) (.tuple #[aR,.bool b]):= .tuple _ _ rfl λi af=>by
 have:i<2:=by simpa using af
 rcases(by omega:i=0\/i=1) with rfl|rfl
 ·simpa using h
 ·simpa using aD.bool b
omit [a6] in
theorem G2 {t eI elem:aK} {x' dP z:J} {ok:Bool} {c8:Array MapEntry} {u:Unit} {DE:Option (Nat×J)} (ah:(x'= .map none/\c8= #[])\/∃r eo,x'= .map (some r)/\w.heap[r]? =some (.map c8 eo)) (hu:a' P (underlying t)=some (.map eI elem))
  (jd:a' P (Instr.checkKey c8.isEmpty 10000 eI dP)=some u) (aO:(Instr.findKey eI dP c8.toList).run P w= .ok DE w) (bu:DE=none->a' P (zeroValue elem)=some z):
  (Instr.lookup t x' dP ok).run P w= .ok (match (generalizing:=false) DE with|some p=>(if ok then .tuple #[p.2,.bool true] else p.2)|none=>(if ok then .tuple #[z,.bool false] else z)) w:=by
 unfold Instr.lookup;refine cJ hu ?_;rcases ah with ⟨rfl,rfl⟩|⟨r,eo,rfl,aA⟩
 ·simp only
  refine c6 (a:=(#[]:Array MapEntry)) (w1:=w) rfl ?_;refine cJ jd ?_;refine c6 aO ?_;cases DE with
  |some p=>
   obtain⟨j,v⟩:=p;simp only;refine c6 (a:=(v,true)) (w1:=w) rfl ?_;cases ok<;>rfl
  |none=>
   simp only;refine cJ (bu rfl) ?_;refine c6 (a:=(z,false)) (w1:=w) rfl ?_;cases ok<;>rfl
 ·simp only
  refine c6 (pQ aA (by simp)) ?_;simp only;refine c6 (a:=c8) (w1:=w) rfl ?_;refine cJ jd ?_;refine c6 aO ?_;cases DE with
  |some p=>
   obtain⟨j,v⟩:=p;simp only;refine c6 (a:=(v,true)) (w1:=w) rfl ?_;cases ok<;>rfl
  |none=>
   simp only;refine cJ (bu rfl) ?_;refine c6 (a:=(z,false)) (w1:=w) rfl ?_;cases ok<;>rfl
theorem ab4 (hr:bN φ A w) {t:aK} {x x' dP v:J} {ok:Bool} (ah:aD φ x x') (h:G1 P A t x dP ok=some v):bP (gQ v) P φ A w (Instr.lookup t x' dP ok) A:=by
 unfold G1 at h;cases fq:plain dP with
 |false=>rw[fq] at h;cases h
 |true=>
  rw[fq,bs] at h;split at h
  ·rename_i eI elem hu
   split at h
   ·rename_i es sk
    split at h
    ·rename_i jd
     have xQ:∃c8:Array MapEntry,kr φ es c8/\((x'= .map none/\c8= #[])\/∃r eo,x'= .map (some r)/\w.heap[r]? =some (.map c8 eo)):=by
      unfold mapOf at sk;split at sk
      ·cases sk
       cases ah;exact⟨#[],kr.nil,.inl ⟨rfl,rfl⟩⟩
      ·rw[xD] at sk
       obtain⟨⟨zm,eo⟩,aA,rfl⟩:=sk;cases ah with
       |map he=>
        obtain⟨c8,h1,ae⟩:=Dz hr aA he;exact⟨c8,ae,.inr ⟨_,_,rfl,h1⟩⟩
      ·cases sk
     obtain⟨c8,dd,qE⟩:=xQ;have Sb:a' P (Instr.checkKey c8.isEmpty 10000 eI dP)=some ():=by rw[<-dd.isEmpty];exact jd
     split at h
     ·rename_i j hj
      split at h
      ·rename_i e v_
       simp only [cz] at h;subst h;obtain⟨b,ad,aO⟩:=xP dd.keys hj;rw[Array.getElem?_toList] at ad;have ax:=(dd.2 j e b v_ ad).2.2.1;refine⟨φ,w,(if ok then .tuple #[b.val,.bool true] else b.val),G2 (z:=undef) qE hu Sb (aO w) (λh=>by cases h),?_,cb.refl hr⟩;cases ok with
       |true=>exact Sa ax true
       |false=>exact ax
      ·cases h
     ·rename_i hj
      split at h
      ·rename_i z bu
       cases kq:plain z with
       |false=>rw[kq] at h;cases h
       |true=>
        rw[kq,bs,cz] at h;subst h;have aO:=xP dd.keys hj;refine⟨φ,w,(if ok then .tuple #[z,.bool false] else z),G2 qE hu Sb (aO w) (λ_=>bu),?_,cb.refl hr⟩;cases ok with
        |true=>exact Sa (aD.j8 φ z kq) false
        |false=>exact aD.j8 φ z kq
      ·cases h
     ·cases h
    ·cases h
   ·cases h
  ·cases h
def DF (P:aQ) (A:aW) (t:aK) (m key val:J):Option aW:=
 bif plain key then match a' P (underlying t),m with
  |some (.map eI _),.map (some b)=>match A.zl b with
   |some (es,eo)=>match a' P (Instr.checkKey false 10000 eI key),Br P eI key es with
    |some _,some (some j)=>match es[j]? with
     |some e=>bif Instr.sameBits 10000 e.key key then A.v' b (es.set j {e with key:=key,val:=val}) eo else none
     |none=>none
    |some _,some none=>A.v' b (es++[{key:=key,val:=val,born:=eo}]) (eo+1)
    |_,_=>none
   |none=>none
  |_,_=>none
 else none
theorem kr.push {es:List jn} {c8:Array MapEntry} (h:kr φ es c8) {key val val':J} {eo:Nat} (ag:plain key=true) (ax:aD φ val val'):kr φ (es++[{key:=key,val:=val,born:=eo}]) (c8.push {key:=key,val:=val',born:=eo}):=by
 refine⟨by simp [h.1],λj a b ha ad=> ?_⟩;rw[List.getElem?_append] at ha;rw[Array.getElem?_push] at ad;by_cases hj:j<es.length
 ·rw[aI hj] at ha
  rw[aG (by rw[<-h.1];omega)] at ad;exact h.2 j a b ha ad
 ·rw[aG hj] at ha
  by_cases gh:j=c8.size
  ·rw[aI gh] at ad
   cases ad;rw[show j-es.length=0 by rw[h.1];omega] at ha;simp only [List.getElem?_cons_zero,cz] at ha;subst ha;exact⟨ag,rfl,ax,rfl⟩
  ·rw[aG gh] at ad
   have:=(Array.getElem?_eq_some_iff.1 ad).1;have:=h.1;omega
theorem kr.modify {es:List jn} {c8:Array MapEntry} (h:kr φ es c8) {j:Nat} {e:jn} (hj:es[j]? =some e) {key val val':J} (ag:plain key=true) (ax:aD φ val val'):
  kr φ (es.set j {e with key:=key,val:=val}) (c8.modify j λe=>{e with key:=key,val:=val'}):=by
 refine⟨by simp [h.1],λi a b ha ad=> ?_⟩;rw[List.getElem?_set] at ha;rw[Array.getElem?_modify] at ad;by_cases pd:j=i
 ·subst pd
  rw[aI rfl,aI (List.getElem?_eq_some_iff.1 hj).1] at ha;rw[aI rfl] at ad;cases ha;rw[xD] at ad;obtain⟨cT,gL,rfl⟩:=ad;exact⟨ag,rfl,ax,(h.2 j e cT hj gL).2.2.2⟩
 ·rw[aG pd] at ha
  rw[aG pd] at ad;exact h.2 i a b ha ad
omit [a6] in
theorem uV {o o':Obj} {r:Nat} (h:w.heap[r]? =some o) (ai:∀c t f,o≠.cells c t f):(setObj r o').run P w= .ok () {w with heap:=w.heap.setIfInBounds r o'}:=by
 unfold setObj;simp only [Sem.run,h]
theorem Sc (hr:bN φ A w) {t:aK} {m m' key val val':J} (hm:aD φ m m') (ax:aD φ val val') (h:DF P A t m key val=some aS):bP (λ_ _=>True) P φ A w (Instr.mapUpdate t m' key val') aS:=by
 unfold DF at h;cases fq:plain key with
 |false=>rw[fq] at h;cases h
 |true=>
  rw[fq,bs] at h;split at h
  ·rename_i eI elem b hu
   split at h
   ·rename_i es eo aA
    cases hm with
    |map he=>
     rename_i em;obtain⟨c8,h1,dd⟩:=Dz hr aA he;split at h
     ·rename_i j jd hj
      split at h
      ·rename_i e v_
       cases zo:Instr.sameBits 10000 e.key key with
       |false=>rw[zo] at h;cases h
       |true=>
        rw[zo,bs] at h;obtain⟨cT,ad,aO⟩:=xP dd.keys hj;rw[Array.getElem?_toList] at ad;have Lc:=(dd.2 j e cT v_ ad).2.1;refine⟨φ,_,(),?_,trivial,zn hr he h (dd.modify v_ fq ax)⟩;unfold Instr.mapUpdate;refine cJ hu ?_;simp only;refine c6 (pQ h1 (by simp)) ?_;simp only;refine cJ jd ?_;refine c6 (aO w) ?_;simp only;rw[show (((c8[j]?).map (·.key)).getD key)=e.key by rw[ad];exact Lc.symm];refine c6 (a:=key) (w1:=w) (by unfold Instr.keyThatStays;rw[aI zo];rfl) ?_;exact uV h1 (by simp)
      ·cases h
     ·rename_i jd hj
      have aO:=xP dd.keys hj;refine⟨φ,_,(),?_,trivial,zn hr he h (dd.push fq ax)⟩;unfold Instr.mapUpdate;refine cJ hu ?_;simp only;refine c6 (pQ h1 (by simp)) ?_;simp only;refine cJ jd ?_;refine c6 (aO w) ?_;simp only;exact uV h1 (by simp)
     ·cases h
    |_=>simp [aq,cL] at*
   ·cases h
  ·cases h
def G3 (P:aQ) (A:aW) (t:aK) (m key:J):Option (J×aW):=
 bif plain key then match a' P (underlying t),m with
  |some (.map eI elem),.map (some b)=>match A.zl b with
   |some (es,eo)=>match a' P (Instr.checkKey false 10000 eI key),Br P eI key es with
    |some _,some (some j)=>match es[j]? with
     |some e=>bif Instr.sameBits 10000 e.key key then match A.v' b (es.set j {e with key:=key,val:=e.val}) eo with
       |some br=>some (.tuple ⟨[e.val,.int .i64 e.born]⟩,br)
       |none=>none
      else none
     |none=>none
    |some _,some none=>match a' P (zeroValue elem) with
     |some z=>bif plain z then match A.v' b (es++[{key:=key,val:=z,born:=eo}]) (eo+1) with
       |some br=>some (.tuple ⟨[z,.int .i64 eo]⟩,br)
       |none=>none
      else none
     |none=>none
    |_,_=>none
   |none=>none
  |_,_=>none
 else none
theorem Sd {a aR:J} (h:aD φ a aR) (n:Int):aD φ (.tuple ⟨[a,.int .i64 n]⟩) (.tuple #[aR,.int .i64 n]):= .tuple _ _ rfl λi af=>by
 have:i<2:=by simpa using af
 rcases(by omega:i=0\/i=1) with rfl|rfl
 ·simpa using h
 ·simpa using aD.int .i64 n
theorem kr.ab5 {es:List jn} {c8:Array MapEntry} (h:kr φ es c8) {j:Nat} {e:jn} (hj:es[j]? =some e) {key:J} (ag:plain key=true):
  kr φ (es.set j {e with key:=key,val:=e.val}) (c8.modify j λe=>{e with key:=key}):=by
 refine⟨by simp [h.1],λi a b ha ad=> ?_⟩;rw[List.getElem?_set] at ha;rw[Array.getElem?_modify] at ad;by_cases pd:j=i
 ·subst pd
  rw[aI rfl,aI (List.getElem?_eq_some_iff.1 hj).1] at ha;rw[aI rfl] at ad;cases ha;rw[xD] at ad;obtain⟨cT,gL,rfl⟩:=ad;exact⟨ag,rfl,(h.2 j e cT hj gL).2.2.1,(h.2 j e cT hj gL).2.2.2⟩
 ·rw[aG pd] at ha
  rw[aG pd] at ad;exact h.2 i a b ha ad
theorem ab6 (hr:bN φ A w) {t:aK} {m m' key v:J} (hm:aD φ m m') (h:G3 P A t m key=some (v,aS)):bP (gQ v) P φ A w (Instr.mapEntry t m' key) aS:=by
 unfold G3 at h;cases fq:plain key with
 |false=>rw[fq] at h;cases h
 |true=>
  rw[fq,bs] at h;split at h
  ·rename_i eI elem b hu
   split at h
   ·rename_i es eo aA
    cases hm with
    |map he=>
     rename_i em;obtain⟨c8,h1,dd⟩:=Dz hr aA he;split at h
     ·rename_i j jd hj
      split at h
      ·rename_i e v_
       cases zo:Instr.sameBits 10000 e.key key with
       |false=>rw[zo] at h;cases h
       |true=>
        rw[zo,bs] at h;split at h
        ·rename_i br eN
         cases h;obtain⟨cT,ad,aO⟩:=xP dd.keys hj;rw[Array.getElem?_toList] at ad;obtain⟨_,Lc,ab7,rj⟩:=dd.2 j e cT v_ ad;refine⟨φ,_,.tuple #[cT.val,.int .i64 e.born],?_,Sd ab7 _,zn hr he eN (dd.ab5 v_ fq)⟩;unfold Instr.mapEntry;refine cJ hu ?_;simp only;refine c6 (pQ h1 (by simp)) ?_;simp only;refine cJ jd ?_;refine c6 (aO w) ?_;simp only;rw[show (((c8[j]?).map (·.key)).getD key)=e.key by rw[ad];exact Lc.symm];refine c6 (a:=key) (w1:=w) (by unfold Instr.keyThatStays;rw[aI zo];rfl) ?_;refine c6 (uV h1 (by simp)) ?_;rw[show ((c8[j]?).map λx=>(x.born:Int)).getD 0=(e.born:Int) by rw[ad,rj];rfl];rfl
        ·cases h
      ·cases h
     ·rename_i jd hj
      split at h
      ·rename_i z bu
       cases kq:plain z with
       |false=>rw[kq] at h;cases h
       |true=>
        rw[kq,bs] at h;split at h
        ·rename_i br eN
         cases h;have aO:=xP dd.keys hj;refine⟨φ,_,.tuple #[z,.int .i64 eo],?_,Sd (aD.j8 φ z kq) _,zn hr he eN (dd.push fq (aD.j8 φ z kq))⟩;unfold Instr.mapEntry;refine cJ hu ?_;simp only;refine c6 (pQ h1 (by simp)) ?_;simp only;refine cJ jd ?_;refine c6 (aO w) ?_;simp only;refine cJ bu ?_;refine c6 (uV h1 (by simp)) ?_;rfl
        ·cases h
      ·cases h
     ·cases h
    |_=>simp [aq,cL] at*
   ·cases h
  ·cases h
def Ld (es:List jn) (born:Int):Option Nat:=es.findIdx? λe=>(e.born:Int)==born
def G4 (P:aQ) (A:aW) (m Bs val:J):Option aW:=
 match m with
 | .map (some b)=>match A.zl b with
   |some (es,eo)=>bif plain Bs then match a' P (asInt Bs) with
    |some born=>match Ld es born with
     |some j=>match es[j]? with
      |some e=>A.v' b (es.set j {e with val:=val}) eo
      |none=>none
     |none=>none
    |none=>none
    else none
   |none=>none
 |_=>none
theorem kr.ab8 {es:List jn} {c8:Array MapEntry} (h:kr φ es c8) {j:Nat} {e:jn} (hj:es[j]? =some e) {val val':J} (ax:aD φ val val'):
  kr φ (es.set j {e with val:=val}) (c8.modify j λe=>{e with val:=val'}):=by
 refine⟨by simp [h.1],λi a b ha ad=> ?_⟩;rw[List.getElem?_set] at ha;rw[Array.getElem?_modify] at ad;by_cases pd:j=i
 ·subst pd
  rw[aI rfl,aI (List.getElem?_eq_some_iff.1 hj).1] at ha;rw[aI rfl] at ad;cases ha;rw[xD] at ad;obtain⟨cT,gL,rfl⟩:=ad;obtain⟨q1,aB,_,eB⟩:=h.2 j e cT hj gL;exact⟨q1,aB,ax,eB⟩
 ·rw[aG pd] at ha
  rw[aG pd] at ad;exact h.2 i a b ha ad
theorem kr.born {es:List jn} {c8:Array MapEntry} (h:kr φ es c8) (born:Int):c8.findIdx? (λe=>(e.born:Int)==born)=Ld es born:=by
 unfold Ld;rw[show c8.findIdx? (λe=>(e.born:Int)==born)=c8.toList.findIdx? (λe=>(e.born:Int)==born) by obtain⟨l⟩:=c8;simp];have ad:es.map (·.born)=c8.toList.map (·.born):=by
  refine List.ext_getElem? λj=> ?_
  simp only [List.getElem?_map,Array.getElem?_toList];cases h1:es[j]? with
  |none=>
   have:c8[j]? =none:=by
    rw[Array.getElem?_eq_none_iff,<-h.1];exact List.getElem?_eq_none_iff.1 h1
   rw[this];rfl
  |some a=>
   have bt:j<c8.size:=by rw[<-h.1];exact(List.getElem?_eq_some_iff.1 h1).1
   obtain⟨b,ad⟩:∃b,c8[j]? =some b:=⟨_,Array.getElem?_eq_getElem bt⟩;rw[ad];simp only [Option.map_some,cz];exact(h.2 j a b h1 ad).2.2.2
 have e1:∀l:List MapEntry,l.findIdx? (λe=>(e.born:Int)==born)=(l.map (·.born)).findIdx? λ(n:Nat)=>(n:Int)==born:=λl=>by rw[List.findIdx?_map];rfl
 have e2:∀l:List jn,l.findIdx? (λe=>(e.born:Int)==born)=(l.map (·.born)).findIdx? λ(n:Nat)=>(n:Int)==born:=λl=>by rw[List.findIdx?_map];rfl
 rw[e1,e2,ad]
theorem ab9 (hr:bN φ A w) {t:aK} {m m' Bs val val':J} (hm:aD φ m m') (ax:aD φ val val') (h:G4 P A m Bs val=some aS):bP (λ_ _=>True) P φ A w (Instr.entryStore t m' Bs val') aS:=by
 unfold G4 at h;split at h
 ·rename_i b
  split at h
  ·rename_i es eo aA
   cases fq:plain Bs with
   |false=>rw[fq] at h;cases h
   |true=>
    rw[fq,bs] at h;cases hm with
    |map he=>
     rename_i em;obtain⟨c8,h1,dd⟩:=Dz hr aA he;split at h
     ·rename_i born hs
      split at h
      ·rename_i j hj
       split at h
       ·rename_i e v_
        refine⟨φ,_,(),?_,trivial,zn hr he h (dd.ab8 v_ ax)⟩;unfold Instr.entryStore;simp only;refine c6 (pQ h1 (by simp)) ?_;simp only;refine cJ hs ?_;rw[dd.born,hj];simp only;exact uV h1 (by simp)
       ·cases h
      ·cases h
     ·cases h
  ·cases h
 ·cases h
def G5 (P:aQ) (A:aW) (cM:Array aK) (m key:J):Option aW:=
 match cM[0]?,m with
 |some t,.map (some b)=>bif plain key then match a' P (underlying t) with
  |some (.map eI _)=>match A.zl b with
   |some (es,eo)=>match a' P (Instr.checkKey es.isEmpty 10000 eI key),Br P eI key es with
    |some _,some (some j)=>A.v' b (es.eraseIdx j) eo
    |some _,some none=>A.v' b es eo
    |_,_=>none
   |none=>none
  |_=>none
  else none
 |_,_=>none
theorem kr.erase {es:List jn} {c8:Array MapEntry} (h:kr φ es c8) (j:Nat):kr φ (es.eraseIdx j) (c8.eraseIdxIfInBounds j):=by
 have hl:(c8.eraseIdxIfInBounds j).toList=c8.toList.eraseIdx j:=by
  unfold Array.eraseIdxIfInBounds;split
  ·simp
  ·rename_i j'
   rw[List.eraseIdx_of_length_le];simpa using j'
 refine⟨?_,λi a b ha ad=> ?_⟩
 ·have ae:(c8.eraseIdxIfInBounds j).size=(c8.toList.eraseIdx j).length:=by rw[<-hl,Array.length_toList]
  rw[ae];simp only [List.length_eraseIdx,h.1,Array.length_toList]
 ·rw[<-Array.getElem?_toList,hl] at ad
  rw[List.getElem?_eraseIdx] at ha ad;split at ha
  ·rename_i bt
   rw[aI bt] at ad;exact h.2 i a b ha (by simpa using ad)
  ·rename_i j'
   rw[aG j'] at ad;exact h.2 (i+1) a b ha (by simpa using ad)
theorem ab' (hr:bN φ A w) {cM:Array aK} {ty:aK} {m m' key:J} (hm:aD φ m m') (h:G5 P A cM m key=some aS):bP (gQ (.tuple ⟨[]⟩)) P φ A w (Builtin.delete_ cM ty #[m',key]) aS:=by
 unfold G5 at h;split at h
 ·rename_i t b aF
  cases fq:plain key with
  |false=>rw[fq] at h;cases h
  |true=>
   rw[fq,bs] at h;split at h
   ·rename_i eI elem hu
    split at h
    ·rename_i es eo aA
     cases hm with
     |map he=>
      rename_i em;obtain⟨c8,h1,dd⟩:=Dz hr aA he;split at h
      ·rename_i j jd hj
       obtain⟨cT,ad,aO⟩:=xP dd.keys hj;refine⟨φ,_,.tuple #[],?_,.tuple _ _ rfl (λi af=>absurd af (by simp)),zn hr he h (dd.erase j)⟩;unfold Builtin.delete_;simp only [aF,List.getElem?_toArray,List.getElem?_cons_zero,List.getElem?_cons_succ];refine cJ hu ?_;simp only;refine c6 (pQ h1 (by simp)) ?_;simp only;refine cJ (by rw[<-dd.isEmpty];exact jd) ?_;refine c6 (aO w) ?_;simp only;exact c6 (uV h1 (by simp)) rfl
      ·rename_i jd hj
       have aO:=xP dd.keys hj;refine⟨φ,_,.tuple #[],?_,.tuple _ _ rfl (λi af=>absurd af (by simp)),zn hr he h dd⟩;unfold Builtin.delete_;simp only [aF,List.getElem?_toArray,List.getElem?_cons_zero,List.getElem?_cons_succ];refine cJ hu ?_;simp only;refine c6 (pQ h1 (by simp)) ?_;simp only;refine cJ (by rw[<-dd.isEmpty];exact jd) ?_;refine c6 (aO w) ?_;simp only;exact c6 (uV h1 (by simp)) rfl
      ·cases h
    ·cases h
   ·cases h
 ·cases h
def Le (P:aQ) (A:aW) (t:aK):J->Option (J×aW)
 | .string s=>match a' P (underlying t) with
   |some .string=>match A.push (.fz (.vR s 0)) 0 0 with
    |some (b,br)=>some (.pointer (some ⟨b,0,none⟩),br)
    |none=>none
   |_=>none
 |_=>none
theorem ab_ (hr:bN φ A w) {t:aK} {x x' v:J} (ah:aD φ x x') (h:Le P A t x=some (v,aS)):bP (gQ v) P φ A w (Instr.range t x') aS:=by
 unfold Le at h;split at h
 ·rename_i s
  cases ah;split at h
  ·rename_i hu
   split at h
   ·rename_i b br hp
    cases h;have cF:=Bf (e:=⟨w.heap.size,0,0,0⟩) (o':= .stringIter s 0) hr hp U U (by simp only [fh];exact⟨trivial,_,by simp,rfl⟩);have ax:aD (gB φ b ⟨w.heap.size,0,0,0⟩) (.pointer (some ⟨b,0,none⟩)) (.pointer (some ⟨w.heap.size,0,none⟩)):= .ptr (e:=⟨w.heap.size,0,0,0⟩) (by simp [gB]);refine⟨_,_,.pointer (some ⟨w.heap.size,0,none⟩),?_,ax,cF⟩;unfold Instr.range;refine cJ hu ?_;rfl
   ·cases h
  ·cases h
 ·cases h
def Lf (A:aW) (it:J) (aca:Bool):Option (J×aW):=
 match it,aca with
 | .pointer (some ⟨b,0,none⟩),true=>match A.K_ b with
   |some (s,p)=>bif Nat.blt p s.size then match A.setIter b s (p+(Utf8.decode s p).2) with
     |some br=>some (.tuple ⟨[.bool true,.int .i64 p,.int .i32 (Utf8.decode s p).1]⟩,br)
     |none=>none
    else some (.tuple ⟨[.bool false]⟩,A)
   |none=>none
 |_,_=>none
theorem acb (hr:bN φ A w) {it Se v:J} {st:Bool} {ty:aK} (ah:aD φ it Se) (h:Lf A it st=some (v,aS)):bP (gQ v) P φ A w (Instr.next Se st ty) aS:=by
 unfold Lf at h;split at h
 ·rename_i b
  split at h
  ·rename_i s p aA
   cases ah with
   |ptr he=>
    rename_i e;obtain⟨aJ,h1⟩:=ab1 hr aA he;rw[aJ,Nat.zero_add];have n_:(getObj e.bd).run P w= .ok (.stringIter s p) w:=pQ h1 (by simp);cases ad:Nat.blt p s.size with
    |true=>
     rw[ad,bs] at h;have bt:p<s.size:=Nat.blt_eq.mp ad;split at h
     ·rename_i br eN
      cases h;refine⟨φ,_,_,?_,aD.j8 φ _ (by simp [plain,n9]),ab2 hr he aJ eN⟩;unfold Instr.next
      simp only;refine c6 n_ ?_;simp only [bt,if_true];refine c6 (uV h1 (by simp)) ?_;rfl
     ·cases h
    |false=>
     rw[ad,dZ] at h;cases h;have j':¬p<s.size:=λbt=>by rw[Nat.blt_eq.mpr bt] at ad;cases ad
     refine⟨φ,w,.tuple #[.bool false],?_,aD.j8 φ _ (by simp [plain,n9]),cb.refl hr⟩;unfold Instr.next
     simp only;refine c6 n_ ?_;simp only [j',if_false];rfl
  ·cases h
 ·cases h
end
end AE
namespace AE
variable [a6]
inductive rq where
 |value (v:J)
 |skip
 |enter (f:FuncId) (args:List J)
def uW:rq->bM->Next->Prop
 | .value v,φ,n=>∃aC,n= .value aC/\aD φ v aC
 | .skip,_,n=>n= .skip
 | .enter f args,φ,n=>∃fA:Array J,n= .enter f fA/\hc args φ fA
def sr (P:aQ) (s:Sem J):Option J:=
 match a' P s with
 |some v=>bif plain v then some v else none
 |none=>none
section
variable {P:aQ} {φ:bM} {A aS:aW} {w:ao}
theorem Bt (hr:bN φ A w) {s:Sem J} {v:J} (h:sr P s=some v):bP (gQ v) P φ A w s A:=by
 unfold sr at h;split at h
 ·rename_i u hu
  cases hp:plain u with
  |false=>rw[hp] at h;cases h
  |true=>
   rw[hp,bs,cz] at h;subst h;exact bP.pure_run hr hu (aD.j8 φ u hp)
 ·cases h
def DG (P:aQ) (s:Array J->Sem J) (args:List J):Option J:=
 bif n9 args then sr P (s ⟨args⟩) else none
def Lg (x:J):Option J:=
 match x with
 | .slice none _ _=>some (.pointer none)
 | .slice (some ⟨b,off,none⟩) _ c=>bif Nat.beq c 0 then none else some (.pointer (some ⟨b,off,none⟩))
 |_=>none
def Lh (P:aQ) (cM:Array aK) (x:J):Option J:=
 match cM[0]? with
 |some t=>match a' P (underlying t),x with
  |some (.slice _),.slice none _ c=>some (.int .i64 c)
  |some (.slice _),.slice (some _) _ _=>some cL
  |some (.array n _),_=>some (.int .i64 n)
  |_,_=>none
 |none=>none
def Li (P:aQ) (A:aW) (b:Builtin) (cM:Array aK) (ty:aK) (args:List J):Option (J×aW):=
 match b,args with
 | .len,[x]=>match KU P A cM x with
   |some v=>some (v,A)
   |none=>match DG P (Builtin.len_ cM ty) [x] with
    |some v=>some (v,A)
    |none=>none
 | .append,[s,x]=>KC P A cM s x
 | .copy,[d,s]=>KR P A cM d s
 | .cap,[x]=>(Lh P cM x).map (·,A)
 | .max,l=>(DG P (Builtin.max_ cM ty) l).map (·,A)
 | .min,l=>(DG P (Builtin.min_ cM ty) l).map (·,A)
 | .unsafeSliceData,[x]=>(Lg x).map (·,A)
 | .clear,[x]=>match K' P A cM x with
   |some br=>some (undef,br)
   |none=>none
 | .unsafeString,[x,n]=>bif plain n then K9 P A cM x n else none
 | .delete,[m,k]=>match G5 P A cM m k with
   |some br=>some (.tuple ⟨[]⟩,br)
   |none=>none
 |_,_=>none
theorem hc.eq {l:List J} {a:Array J} (hp:n9 l=true) (h:hc l φ a):a=⟨l⟩:=by
 obtain⟨Lj⟩:=a;have:Lj=l:=aD.Dj (φ:=φ) l Lj hp (by simpa using h.1.symm) (λi af=>by simpa [eO] using h.2 i af);rw[this]
theorem Lk (hr:bN φ A w) {s:Array J->Sem J} {l:List J} {a:Array J} {v:J} (hl:hc l φ a) (h:DG P s l=some v):bP (gQ v) P φ A w (s a) A:=by
 unfold DG at h;cases hp:n9 l with
 |false=>rw[hp] at h;cases h
 |true=>
  rw[hp,bs] at h;rw[hl.eq hp];exact Bt hr h
theorem hc.one {x:J} {a:Array J} (h:hc [x] φ a):∃x',a= #[x']/\aD φ x x':=by
 obtain⟨l⟩:=a;obtain⟨h1,ae⟩:=h
 match l,h1 with
 |[x'],_=>exact⟨x',rfl,by simpa using ae 0 (by simp)⟩
theorem hc.two {x y:J} {a:Array J} (h:hc [x,y] φ a):∃x' gM,a= #[x',gM]/\aD φ x x'/\aD φ y gM:=by
 obtain⟨l⟩:=a;obtain⟨h1,ae⟩:=h
 match l,h1 with
 |[x',gM],_=>exact⟨x',gM,rfl,by simpa using ae 0 (by simp),by simpa using ae 1 (by simp)⟩
theorem acd (hr:bN φ A w) {cM:Array aK} {ty:aK} {x x' v:J} (ah:aD φ x x') (h:Lh P cM x=some v):bP (gQ v) P φ A w (Builtin.cap_ cM ty #[x']) A:=by
 unfold Lh at h;split at h
 ·rename_i t aF
  have hm:∀aC,(do match <-underlying t,x' with
   | .array n _,_=>pure (goInt n)
   | .pointer arr,_=>
     let .array n _ <-underlying arr|stuck "cap: pointer to array expected"
     pure (goInt n)
   | .slice _,.slice _ _ n=>pure (goInt n)
   | .chan _ _,.chan none=>pure (goInt 0)
   | .chan _ _,.chan (some r)=>
     let .chan n _ _ _ _ timer <-getObj r|stuck "cap: channel expected"
     pure (goInt (if timer then 0 else n))
   |_,_=>stuck "cap: array, pointer to array, slice or channel expected":Sem J).run P w= .ok aC w->(Builtin.cap_ cM ty #[x']).run P w= .ok aC w:=by
   intro aC ax;rw[<-ax];unfold Builtin.cap_;simp only [aF];rfl
  split at h
  ·rename_i e l c hu
   simp only [cz] at h;subst h;cases ah;exact⟨φ,w,_,hm _ (cJ hu rfl),.int _ _,cb.refl hr⟩
  ·rename_i e a l c hu
   simp only [cz] at h;subst h;cases ah<;>exact⟨φ,w,_,hm _ (cJ hu rfl),.cL _,cb.refl hr⟩
  ·rename_i n e hu
   simp only [cz] at h;subst h;exact⟨φ,w,_,hm _ (cJ hu rfl),.int _ _,cb.refl hr⟩
  ·cases h
 ·cases h
theorem ace (hr:bN φ A w) {cM:Array aK} {ty:aK} {x x' v:J} (ah:aD φ x x') (h:Lg x=some v):bP (gQ v) P φ A w (Builtin.unsafeSliceData_ cM ty #[x']) A:=by
 unfold Lg at h;split at h
 ·simp only [cz] at h
  subst h;cases ah;exact bP.ret hr .xE
 ·rename_i b off n c
  cases ai:Nat.beq c 0 with
  |true=>rw[ai] at h;cases h
  |false=>
   rw[ai,dZ,cz] at h;subst h;have zp:c≠0:=λal=>by rw[al] at ai;exact absurd ai ck
   have key:∀(a:Addr) (n c:Nat),c≠0->(Builtin.unsafeSliceData_ cM ty #[.slice (some a) n c]).run P w= .ok (.pointer (some a)) w:=by
    intro a n c ai;have e:Builtin.unsafeSliceData_ cM ty #[.slice (some a) n c]=(if c≠0 then pure (.pointer (some a)) else do
     if (<-viewAt a.block).isSome then pure (.pointer (some a)) else pure (.pointer (some ⟨<-newObj (.view a (<-elemOf ty)),0,none⟩))):=rfl
    rw[e,aI ai];rfl
   cases ah with
   |h7=>exact absurd rfl zp
   |hR n c he=>exact⟨φ,w,_,key _ _ _ zp,.ptr he,cb.refl hr⟩
   |hS n c c' he h1 ae ar=>exact⟨φ,w,_,key _ _ _ aj,.ptr he,cb.refl hr⟩
 ·cases h
theorem acf (hr:bN φ A w) {b:Builtin} {cM:Array aK} {ty:aK} {cs:Array Bool} {l:List J} {a:Array J} {v:J} (hl:hc l φ a) (h:Li P A b cM ty l=some (v,aS)):
  bP (uW (.value v)) P φ A w (builtin b cM ty cs a) aS:=by
 have ft:∀{s:Sem J},bP (gQ v) P φ A w s aS->bP (uW (.value v)) P φ A w (do pure (.value (<-s))) aS:=λhs=>bP.map hs λφ a ha=>⟨a,rfl,ha⟩
 unfold Li at h;split at h
 ·obtain⟨x',rfl,ah⟩:=hl.one
  split at h
  ·rename_i aC ax
   cases h;exact ft (abH hr ah ax)
  ·split at h
   ·rename_i aC ax
    cases h;exact ft (Lk hr hl ax)
   ·cases h
 ·obtain⟨x',gM,rfl,ah,a_⟩:=hl.two
  exact ft (abv hr ah a_ h)
 ·obtain⟨x',gM,rfl,ah,a_⟩:=hl.two
  exact ft (abD hr ah a_ h)
 ·obtain⟨x',rfl,ah⟩:=hl.one
  obtain⟨aC,ax,he⟩:=Option.map_eq_some_iff.1 h;cases he;exact ft (acd hr ah ax)
 ·obtain⟨aC,ax,he⟩:=Option.map_eq_some_iff.1 h
  cases he;exact ft (Lk hr hl ax)
 ·obtain⟨aC,ax,he⟩:=Option.map_eq_some_iff.1 h
  cases he;exact ft (Lk hr hl ax)
 ·obtain⟨x',rfl,ah⟩:=hl.one
  obtain⟨aC,ax,he⟩:=Option.map_eq_some_iff.1 h;cases he;exact ft (ace hr ah ax)
 ·obtain⟨x',rfl,ah⟩:=hl.one
  split at h
  ·rename_i br uX
   cases h;exact ft (abZ hr ah uX)
  ·cases h
 ·rename_i x n
  obtain⟨x',gM,rfl,ah,a_⟩:=hl.two;cases hp:plain n with
  |false=>rw[hp] at h;cases h
  |true=>
   rw[hp,bs] at h;rw[aD.kp _ hp a_];exact ft (abX hr ah h)
 ·rename_i m k
  obtain⟨x',gM,rfl,ah,a_⟩:=hl.two;split at h
  ·rename_i br uX
   cases h;have hp:plain k=true:=by
    unfold G5 at uX;split at uX
    ·cases hp:plain k with
     |true=>rfl
     |false=>rw[hp] at uX;cases uX
    ·cases uX
   rw[aD.kp _ hp a_];exact ft (ab' hr ah uX)
  ·cases h
 ·cases h
def enters (P:aQ) (f:FuncId):Bool:=
 match P.funcs[f]? with
 |some fn=> !(fn.name== "runtime.NumGoroutine")&&fn.body.isSome
 |none=>false
omit [a6] in
theorem G6 {f:FuncId} (h:enters P f=true) (args:Array J):a' P (callFunc f args)=some (.enter f args):=by
 unfold enters at h;split at h
 ·rename_i fn aO
  simp only [cV,Bool.not_eq_true'] at h;obtain⟨h1,ae⟩:=h;have ar:fn.body.isNone=false:=by cases ad:fn.body<;>simp_all
  unfold callFunc;show a' P (match P.funcs[f]? with|none=>_|some fn=>_)=_;simp only [aO,h1,ar,Bool.false_eq_true,if_false];rfl
 ·cases h
def Sf (P:aQ) (f:FuncId) (args:List J):Option rq:=
 bif n9 args then match a' P (callFunc f ⟨args⟩) with
  |some (.value v)=>bif plain v then some (.value v) else none
  |_=>none
 else none
def Ll (P:aQ) [Lib P] (A:aW) (f:FuncId):List J->Option (J×aW)
 |[x]=>bif (Lib.same P).contains f then some (x,A) else
  match (Lib.K3 P).find? λp=>Nat.beq p.1 f,x with
  |some p,.int .i64 n=>K6 A p.2 n
  |_,_=>none
 |_=>none
def G7 (P:aQ) [Lib P] (A:aW) (f:FuncId) (args:List J):Option (rq×aW):=
 bif enters P f then some (.enter f args,A) else
  match Ll P A f args with
  |some (v,br)=>some (.value v,br)
  |none=>match Sf P f args with
   |some n=>some (n,A)
   |none=>none
theorem acg [Lib P] (hr:bN φ A w) {f:FuncId} {l:List J} {a:Array J} {v:J} (hl:hc l φ a) (h:Ll P A f l=some (v,aS)):bP (uW (.value v)) P φ A w (callFunc f a) aS:=by
 unfold Ll at h;split at h
 ·rename_i x
  obtain⟨x',rfl,ah⟩:=hl.one;cases ai:(Lib.same P).contains f with
  |true=>
   rw[ai] at h;cases h;exact bP.pure_run hr (Lib.R1 f (by simpa using ai) x') ⟨x',rfl,ah⟩
  |false=>
   rw[ai,dZ] at h;split at h
   ·rename_i p n aO
    cases ah;have iY:p.1=f:=by
     have:=List.find?_some aO;exact cq this
    obtain⟨ps,qF,t,h1,ae,ar⟩:=Lib.R2 p (List.mem_of_find?_eq_some aO);obtain⟨fO,w1,v1,g1,g2,g3⟩:=abQ (ps:=ps) hr ae ar h;refine⟨fO,w1,.value v1,?_,⟨v1,rfl,g2⟩,g3⟩;rw[<-iY,h1];exact c6 g1 rfl
   ·cases h
 ·cases h
theorem Sg [Lib P] (hr:bN φ A w) {f:FuncId} {l:List J} {a:Array J} {n:rq} (hl:hc l φ a) (h:G7 P A f l=some (n,aS)):bP (uW n) P φ A w (callFunc f a) aS:=by
 unfold G7 at h;cases he:enters P f with
 |true=>
  rw[he] at h;cases h;exact bP.pure_run hr (G6 he a) ⟨a,rfl,hl⟩
 |false=>
  rw[he,dZ] at h;split at h
  ·rename_i v br ag
   cases h;exact acg hr hl ag
  ·split at h
   ·rename_i n ak
    cases h;unfold Sf at ak;cases hp:n9 l with
    |false=>rw[hp] at ak;cases ak
    |true=>
     rw[hp,bs] at ak;split at ak
     ·rename_i v ax
      cases tA:plain v with
      |false=>rw[tA] at ak;cases ak
      |true=>
       rw[tA,bs,cz] at ak;subst ak;rw[hl.eq hp];exact bP.pure_run hr ax ⟨v,rfl,aD.j8 φ v tA⟩
     ·cases ak
   ·cases h
def Lm (P:aQ) [Lib P] (A:aW) (bj:Operand->J) (c:Call) (ty:aK):Option (rq×aW):=
 match c.callee with
 | .builtin b=>(Li P A b c.argTypes ty (c.args.toList.map bj)).map λr=>(.value r.1,r.2)
 | .value f=>match bj f with
   | .func (.func g) ⟨first⟩ ⟨Bu⟩=>G7 P A g (first++c.args.toList.map bj++Bu)
   |_=>none
 | .invoke recv name=>match bj recv with
   | .iface t v=>bif plain v then match a' P (method (P.types.size+Made.depth) t v name) with
       |some (f,r)=>bif plain r then G7 P A f (r::c.args.toList.map bj) else none
       |none=>none
     else none
   |_=>none
theorem hc.append {l1 k2:List J} {b2 cr:Array J} (h1:hc l1 φ b2) (ae:hc k2 φ cr):hc (l1++k2) φ (b2++cr):=by
 obtain⟨Lj⟩:=b2;obtain⟨G8⟩:=cr;obtain⟨s1,v1⟩:=h1;obtain⟨s2,e0⟩:=ae;simp only [List.size_toArray] at s1 s2;refine⟨by simp [s1,s2],λj hj=> ?_⟩;simp only [List.append_toArray,eO,List.getElem?_toArray,c_] at v1 e0 ⊢;rcases Nat.lt_or_ge j l1.length with h|h
 ·rw[List.getElem?_append_left h,List.getElem?_append_left aj]
  exact v1 j h
 ·rw[List.getElem?_append_right h,List.getElem?_append_right aj,s1]
  exact e0 _ (by simp at hj;omega)
theorem hc.map {l:Array Operand} {ρ ρ':Operand->J} (h:∀x∈l,aD φ (ρ x) (ρ' x)):hc (l.toList.map ρ) φ (l.map ρ'):=by
 obtain⟨l⟩:=l;refine⟨by simp,λj hj=> ?_⟩;simp only [List.length_map] at hj;simp only [List.map_toArray,eO,List.getElem?_toArray,c_,List.getElem?_map,fy hj,Option.map_some,Option.getD_some];exact h _ (by simp)
theorem hc.of {cs cs':Array J} (h1:cs.size=cs'.size) (h:∀i,i<cs.size->aD φ (cs.getD i undef) (cs'.getD i undef)):hc cs.toList φ cs':=by
 obtain⟨l⟩:=cs;refine⟨by simpa using h1.symm,λj hj=> ?_⟩;simpa [eO] using h j (by simpa using hj)
theorem ach [Lib P] (hr:bN φ A w) {ρ ρ':Operand->J} {c:Call} {ty:aK} {n:rq} (cI:∀x,aD φ (ρ x) (ρ' x)) (h:Lm P A ρ c ty=some (n,aS)):
  bP (uW n) P φ A w (do let d <-resolve ρ' c ty;invoke d.target d.args) aS:=by
 unfold Lm at h;have fY:hc (c.args.toList.map ρ) φ (c.args.map ρ'):=hc.map λx _=>cI x
 split at h
 ·rename_i b ai
  obtain⟨⟨v,br⟩,ad,he⟩:=Option.map_eq_some_iff.1 h;cases he;obtain⟨eS,w2,n2,g1,g2,g3⟩:=acf (cs:=c.args.map λ| .const _=>true|_=>false) hr fY ad;refine⟨eS,w2,n2,?_,g2,g3⟩;rw[<-g1];unfold resolve;rw[ai];rfl
 ·rename_i f ai
  split at h
  ·rename_i g first Bu aO
   have ad:=h;have ax:=cI f;rw[aO] at ax;cases mY:ρ' f with
   |func fn jI cs'=>
    rw[mY] at ax;cases ax with
    |func fs jI cs cs' ak h1 ae Ln gv=>
     have:=(hc.of h1 Ln).append fY |>.append (hc.of ae gv);obtain⟨eS,w2,n2,g1,g2,g3⟩:=Sg hr this ad;refine⟨eS,w2,n2,?_,g2,g3⟩;rw[<-g1];unfold resolve;rw[ai];simp only [mY];rfl
   |_=>rw[mY] at ax;cases ax
  ·cases h
 ·rename_i recv name ai
  split at h
  ·rename_i t v ax
   cases hp:plain v with
   |false=>rw[hp] at h;cases h
   |true=>
    rw[hp,bs] at h;split at h
    ·rename_i f r hm
     cases zq:plain r with
     |false=>rw[zq] at h;cases h
     |true=>
      rw[zq,bs] at h;have ad:=h;have DH:=cI recv;rw[ax] at DH;cases mY:ρ' recv with
      |iface c7 aC=>
       rw[mY] at DH;cases DH with
       |iface _ wa=>
        have aci:=aD.kp v hp wa;subst aci;have h1:hc [r] φ #[r]:=⟨rfl,λj hj=>by
         have:j=0:=by simpa using hj
         subst this
         exact aD.j8 φ r zq⟩
        obtain⟨eS,w2,n2,g1,g2,g3⟩:=Sg hr (h1.append fY) ad;refine⟨eS,w2,n2,?_,g2,g3⟩;rw[<-g1];unfold resolve;rw[ai];simp only [mY];refine cJ (a:={target:= .fn (.method name) #[],args:= #[.iface t aC]++c.args.map ρ'}) rfl ?_;unfold invoke;have bA:(#[Value.iface t aC]++c.args.map ρ')[0]? =some (.iface t aC):=by
         simp [Array.getElem?_append]
        have e1:(#[Value.iface t aC]++c.args.map ρ').extract 1 (#[Value.iface t aC]++c.args.map ρ').size=c.args.map ρ':=by
         apply Array.ext';simp [List.take_of_length_le]
        simp only [bA,e1];unfold callMethod;refine cJ (a:=P) rfl ?_;exact cJ hm rfl
      |_=>rw[mY] at DH;cases DH
    ·cases h
  ·cases h
end
end AE
namespace AE
variable [a6]
def wb (bj:Operand->J):Option Operand->Bool
 |none=>true
 |some x=>plain (bj x)
def Lo (P:aQ) (A:aW) (src dst:aK) (x:J):Option (J×aW):=
 match (bif plain x then sr P (convert src dst x) else none) with
 |some v=>some (v,A)
 |none=>match K4 P A src dst x with
  |some v=>some (v,A)
  |none=>match a' P (underlying src),a' P (underlying dst),x with
   |some _,some (.slice e),.string s=>match a' P (underlying e) with
    |some (.int .u8)=>KX A e s
    |_=>none
   |some (.slice e),some .string,.slice a n c=>match a' P (underlying e) with
    |some (.int .u8)=>(KW P A (.slice a n c)).map (·,A)
    |_=>none
   |_,_,_=>none
def Sh (x:J):Option J:=
 match x with
 | .pointer (some _)=>some x
 | .func (.func _) _ _=>some x
 | .iface _ _=>some x
 |_=>none
def Si:Fn->Bool
 | .yield _=>true
 |_=>false
def val (A:aW):Option J->Option (rq×aW)
 |some v=>some (.value v,A)
 |none=>none
def ss:Option (J×aW)->Option (rq×aW)
 |some (v,A)=>some (.value v,A)
 |none=>none
def DI (P:aQ) [Lib P] (bj:Operand->J) (A:aW) (o:Oper):Option (rq×aW):=
 match o.op with
 | .move x| .assign x=>some (.value (bj x),A)
 | .pick c a b=>match bj c with
   | .bool t=>some (.value (bif t then bj a else bj b),A)
   |_=>none
 | .alloc t=>ss (Ks P A t)
 | .box t x=>ss (GD A t (bj x))
 | .build t parts=>val A (Kx P t (parts.map λ(i,x)=>(i,bj x)))
 | .buildSlice t len parts=>bif Nat.beq len 0&&Nat.beq parts.size 0 then ss (KA P A t) else ss (Kz P A t len (parts.map λ(i,x)=>(i,bj x)))
 | .load t a=>val A (Bj P A t (bj a))
 | .store t a x=>match Kr P A t (bj x) (bj a) with
   |some br=>some (.skip,br)
   |none=>none
 | .nilCheck x=>val A (Sh (bj x))
 | .binOp op t x y _=>match (bif plain (bj x)&&plain (bj y) then sr P (do eqGuard op t x y (bj x) (bj y);binOp op t (bj x) (bj y)) else none) with
   |some v=>some (.value v,A)
   |none=>val A (KZ P op t (bj x) (bj y))
 | .unOp op _ x=>bif plain (bj x) then val A (sr P (Op.unary op (bj x))) else none
 | .convert src dst x=>ss (Lo P A src dst (bj x))
 | .makeInterface t x=>val A (K0 P t (bj x))
 | .makeFunc fn first Bu=>bif Si fn then none else some (.value (.func fn ⟨first.toList.map bj⟩ ⟨Bu.toList.map bj⟩),A)
 | .makeSlice t l c=>bif plain (bj l)&&plain (bj c) then ss (KT P A t (bj l) (bj c)) else none
 | .slice t x gj af dT=>bif wb bj gj&&(wb bj af&&wb bj dT) then val A (match KM P A t (bj x) (gj.map bj) (af.map bj) (dT.map bj) with
     |some v=>some v
     |none=>bif plain (bj x) then sr P (Instr.sliceAt t (bj x) (gj.map bj) (af.map bj) (dT.map bj)) else none) else none
 | .fieldAddr s x f=>val A (Dl P s f (bj x))
 | .field t x f=>val A (Kt P t (bj x) f)
 | .indexAddr t x dP=>bif plain (bj dP) then val A (Dm P t (bj x) (bj dP)) else none
 | .index t x dP=>bif plain (bj dP) then val A (match Ku P t (bj x) (bj dP) with
     |some v=>some v
     |none=>bif plain (bj x) then sr P (Instr.index t (bj x) (bj dP)) else none) else none
 | .typeAssert x _ asserted ok=>val A (K1 P (bj x) asserted ok)
 | .extract t dP=>val A (Dq (bj t) dP)
 | .call c=>Lm P A bj c o.type
 | .makeMap t r=>bif wb bj r then ss (Lb P A t (r.map bj)) else none
 | .lookup t x dP ok=>val A (G1 P A t (bj x) (bj dP) ok)
 | .mapUpdate t m k x| .insert t m k x=>match DF P A t (bj m) (bj k) (bj x) with
   |some br=>some (.skip,br)
   |none=>none
 | .mapEntry t m k=>ss (G3 P A t (bj m) (bj k))
 | .entryStore _ m st x=>match G4 P A (bj m) (bj st) (bj x) with
   |some br=>some (.skip,br)
   |none=>none
 | .range t x=>ss (Le P A t (bj x))
 | .next it Sj=>ss (Lf A (bj it) Sj)
 |_=>none
section
variable {P:aQ} {φ:bM} {A aS:aW} {w:ao}
theorem acj (hr:bN φ A w) {src dst:aK} {x x' v:J} (ah:aD φ x x') (h:Lo P A src dst x=some (v,aS)):bP (gQ v) P φ A w (convert src dst x') aS:=by
 unfold Lo at h;split at h
 ·rename_i u hu
  simp only [cz,Prod.mk.injEq] at h;obtain⟨rfl,rfl⟩:=h;cases hp:plain x with
  |false=>rw[hp] at hu;cases hu
  |true=>
   rw[hp,bs] at hu;rw[aD.kp x hp ah];exact Bt hr hu
 split at h
 ·rename_i u hu
  cases h;exact abO hr ah hu
 ·split at h
  ·rename_i d e s h1 ae _ _
   split at h
   ·rename_i ar
    cases ah;unfold convert;refine bP.pre h1 (bP.pre ae ?_);simp only;refine bP.pre ar ?_;exact abJ hr h
   ·cases h
  ·rename_i e a n c h1 ae _ _
   split at h
   ·rename_i ar
    obtain⟨aC,ax,he⟩:=Option.map_eq_some_iff.1 h;cases he;have hs:=abI hr ah ax;unfold convert;refine bP.pre h1 (bP.pre ae ?_);cases ah<;>exact bP.pre ar hs
   ·cases h
  ·cases h
theorem G9 {ρ ρ':Operand->J} (cI:∀x,aD φ (ρ x) (ρ' x)) {o:Option Operand} (h:wb ρ o=true):o.map ρ'=o.map ρ:=by
 cases o with
 |none=>rfl
 |some x=>simp only [Option.map_some];rw[aD.kp _ h (cI x)]
theorem Sk [Lib P] (hr:bN φ A w) {ρ ρ':Operand->J} {o:Oper} {n:rq} (cI:∀x,aD φ (ρ x) (ρ' x)) (h:DI P ρ A o=some (n,aS)):bP (uW n) P φ A w (execOp ρ' o) aS:=by
 have ft:∀{v:J} {s:Sem J},bP (gQ v) P φ A w s aS->bP (uW (.value v)) P φ A w (do pure (.value (<-s))) aS:=λhs=>bP.map hs λφ a ha=>⟨a,rfl,ha⟩
 have hval:∀{r:Option J},val A r=some (n,aS)->∃v,r=some v/\n= .value v/\aS=A:=by
  intro r ax;cases r with
  |none=>cases ax
  |some v=>simp only [val,cz,Prod.mk.injEq] at ax;exact⟨v,rfl,ax.1.symm,ax.2.symm⟩
 have uY:∀{r:Option (J×aW)},ss r=some (n,aS)->∃v,r=some (v,aS)/\n= .value v:=by
  intro r ax;cases r with
  |none=>cases ax
  |some p=>obtain⟨v,br⟩:=p;simp only [ss,cz,Prod.mk.injEq] at ax;exact⟨v,by rw[ax.2],ax.1.symm⟩
 obtain⟨dst,op,type,pos,after,guard⟩:=o;unfold DI at h;unfold execOp;cases op<;>simp only at h ⊢<;>try (cases h;done)
 case move x=>cases h;exact bP.ret hr ⟨_,rfl,cI x⟩
 case assign x=>cases h;exact bP.ret hr ⟨_,rfl,cI x⟩
 case pick c a b=>
  split at h
  ·rename_i t ai
   cases h;have:=cI c;rw[ai] at this;cases zp:ρ' c<;>rw[zp] at this<;>cases this
   refine bP.pre (a:=t) rfl ?_;cases t
   ·exact bP.ret hr ⟨_,rfl,cI b⟩
   ·exact bP.ret hr ⟨_,rfl,cI a⟩
  ·cases h
 case alloc t=>
  obtain⟨v,h1,rfl⟩:=uY h;exact ft (abd hr h1)
 case box t x=>
  obtain⟨v,h1,rfl⟩:=uY h;exact ft (Rz hr (cI x) h1)
 case build t parts=>
  obtain⟨v,h1,rfl,rfl⟩:=hval h;exact ft (abj hr (λp _=>cI p.2) h1)
 case buildSlice t len parts=>
  cases ad:(Nat.beq len 0&&Nat.beq parts.size 0) with
  |true=>
   rw[ad,bs] at h;simp only [cV] at ad;obtain⟨v,h1,rfl⟩:=uY h;have e1:len=0:=cq ad.1;have e2:parts= #[]:=Array.eq_empty_of_size_eq_zero (cq ad.2);subst e1;subst e2;exact ft (by simpa using abl hr h1)
  |false=>
   rw[ad,dZ] at h;obtain⟨v,h1,rfl⟩:=uY h;exact ft (abk hr (λp _=>cI p.2) h1)
 case load t a=>
  obtain⟨v,h1,rfl,rfl⟩:=hval h;exact ft (aa' hr (cI a) h1)
 case store t a x=>
  split at h
  ·rename_i br h1
   cases h;exact bP.map (abb hr (cI a) (cI x) h1) λ_ _ _=>rfl
  ·cases h
 case nilCheck x=>
  obtain⟨v,h1,rfl,rfl⟩:=hval h;have ah:=cI x;unfold Sh at h1;split at h1
  ·rename_i a ha
   cases h1;rw[ha] at ah;cases qE:ρ' x<;>rw[qE] at ah
   all_goals cases ah
   rename_i h;exact bP.ret hr ⟨_,rfl,ha▸.ptr h⟩
  ·rename_i f fs cs ha
   cases h1;rw[ha] at ah;cases qE:ρ' x<;>rw[qE] at ah
   all_goals cases ah
   rename_i h1 ae ar bm cg;exact bP.ret hr ⟨_,rfl,ha▸.func _ _ _ _ h1 ae bm ar cg⟩
  ·rename_i t u ha
   cases h1;rw[ha] at ah;cases qE:ρ' x<;>rw[qE] at ah
   all_goals cases ah
   rename_i h;exact bP.ret hr ⟨_,rfl,ha▸.iface _ h⟩
  ·cases h1
 case binOp op t x y Sl=>
  split at h
  ·rename_i v ax
   cases h;cases hp:plain (ρ x) with
   |false=>simp only [hp,Bool.false_and,dZ] at ax;cases ax
   |true=>
    cases aU:plain (ρ y) with
    |false=>simp only [aU,Bool.and_false,dZ] at ax;cases ax
    |true=>
     simp only [hp,aU,Bool.and_true,bs] at ax;rw[aD.kp _ hp (cI x),aD.kp _ aU (cI y)];exact ft (Bt hr ax)
  ·obtain⟨v,h1,rfl,rfl⟩:=hval h
   exact ft (abL hr (cI x) (cI y) h1)
 case unOp op t x=>
  cases hp:plain (ρ x) with
  |false=>rw[hp] at h;cases h
  |true=>
   rw[hp,bs] at h;obtain⟨v,h1,rfl,rfl⟩:=hval h;rw[aD.kp _ hp (cI x)];exact ft (Bt hr h1)
 case convert src dst x=>
  obtain⟨v,h1,rfl⟩:=uY h;exact ft (acj hr (cI x) h1)
 case makeInterface t x=>
  obtain⟨v,h1,rfl,rfl⟩:=hval h;exact ft (abM hr (cI x) h1)
 case makeFunc fn first Bu=>
  cases a_:Si fn with
  |true=>rw[a_] at h;cases h
  |false=>
   rw[a_] at h;cases h;have cQ:=hc.map (φ:=φ) (l:=first) (ρ:=ρ) (ρ':=ρ') λx _=>cI x
   have dr:=hc.map (φ:=φ) (l:=Bu) (ρ:=ρ) (ρ':=ρ') λx _=>cI x
   refine bP.ret hr ⟨_,rfl,.func _ _ _ _ (λl hl=>by subst hl;cases a_) (by simp) (by simp) (λi af=> ?_) (λi af=> ?_)⟩
   ·have:=cQ.2 i (by simpa using af)
    simpa [eO] using this
   ·have:=dr.2 i (by simpa using af)
    simpa [eO] using this
 case makeSlice t l c=>
  cases hp:plain (ρ l) with
  |false=>simp only [hp,Bool.false_and,dZ] at h;cases h
  |true=>
   cases aU:plain (ρ c) with
   |false=>simp only [aU,Bool.and_false,dZ] at h;cases h
   |true=>
    simp only [hp,aU,Bool.and_true,bs] at h;obtain⟨v,h1,rfl⟩:=uY h;rw[aD.kp _ hp (cI l),aD.kp _ aU (cI c)];exact ft (abF hr h1)
 case slice t x gj af dT=>
  cases hp:(wb ρ gj&&(wb ρ af&&wb ρ dT)) with
  |false=>rw[hp] at h;cases h
  |true=>
   rw[hp,bs] at h;simp only [cV] at hp;obtain⟨v,h1,rfl,rfl⟩:=hval h;rw[G9 cI hp.1,G9 cI hp.2.1,G9 cI hp.2.2];split at h1
   ·rename_i u hu
    cases h1;exact ft (abB hr (cI x) hu)
   ·cases aU:plain (ρ x) with
    |false=>rw[aU] at h1;cases h1
    |true=>
     rw[aU,bs] at h1;rw[aD.kp _ aU (cI x)];exact ft (Bt hr h1)
 case fieldAddr s x f=>
  obtain⟨v,h1,rfl,rfl⟩:=hval h;exact ft (abe hr (cI x) h1)
 case field t x f=>
  obtain⟨v,h1,rfl,rfl⟩:=hval h;exact ft (abg hr (cI x) h1)
 case indexAddr t x dP=>
  cases hp:plain (ρ dP) with
  |false=>rw[hp] at h;cases h
  |true=>
   rw[hp,bs] at h;obtain⟨v,h1,rfl,rfl⟩:=hval h;rw[aD.kp _ hp (cI dP)];exact ft (abf hr (cI x) h1)
 case index t x dP=>
  cases hp:plain (ρ dP) with
  |false=>rw[hp] at h;cases h
  |true=>
   rw[hp,bs] at h;obtain⟨v,h1,rfl,rfl⟩:=hval h;rw[aD.kp _ hp (cI dP)];split at h1
   ·rename_i u hu
    cases h1;exact ft (abh hr (cI x) hu)
   ·cases aU:plain (ρ x) with
    |false=>rw[aU] at h1;cases h1
    |true=>
     rw[aU,bs] at h1;rw[aD.kp _ aU (cI x)];exact ft (Bt hr h1)
 case typeAssert x R0 asserted ok=>
  obtain⟨v,h1,rfl,rfl⟩:=hval h;exact ft (abN hr (cI x) h1)
 case extract t dP=>
  obtain⟨v,h1,rfl,rfl⟩:=hval h;exact ft (abi hr (cI t) h1)
 case call c=>exact ach hr cI h
 case makeMap t r=>
  cases hp:wb ρ r with
  |false=>rw[hp] at h;cases h
  |true=>
   rw[hp,bs] at h;obtain⟨v,h1,rfl⟩:=uY h;rw[G9 cI hp];exact ft (ab3 hr h1)
 case lookup t x dP ok=>
  obtain⟨v,h1,rfl,rfl⟩:=hval h;have hp:plain (ρ dP)=true:=by
   unfold G1 at h1;cases hp:plain (ρ dP) with
   |true=>rfl
   |false=>rw[hp] at h1;cases h1
  rw[aD.kp _ hp (cI dP)];exact ft (ab4 hr (cI x) h1)
 case mapUpdate t m k x=>
  split at h
  ·rename_i br h1
   cases h;have hp:plain (ρ k)=true:=by
    unfold DF at h1;cases hp:plain (ρ k) with
    |true=>rfl
    |false=>rw[hp] at h1;cases h1
   rw[aD.kp _ hp (cI k)];exact bP.map (Sc hr (cI m) (cI x) h1) λ_ _ _=>rfl
  ·cases h
 case insert t m k x=>
  split at h
  ·rename_i br h1
   cases h;have hp:plain (ρ k)=true:=by
    unfold DF at h1;cases hp:plain (ρ k) with
    |true=>rfl
    |false=>rw[hp] at h1;cases h1
   rw[aD.kp _ hp (cI k)];exact bP.map (Sc hr (cI m) (cI x) h1) λ_ _ _=>rfl
  ·cases h
 case mapEntry t m k=>
  obtain⟨v,h1,rfl⟩:=uY h;have hp:plain (ρ k)=true:=by
   unfold G3 at h1;cases hp:plain (ρ k) with
   |true=>rfl
   |false=>rw[hp] at h1;cases h1
  rw[aD.kp _ hp (cI k)];exact ft (ab6 hr (cI m) h1)
 case entryStore t m st x=>
  split at h
  ·rename_i br h1
   cases h;have hp:plain (ρ st)=true:=by
    unfold G4 at h1;split at h1
    ·split at h1
     ·cases hp:plain (ρ st) with
      |true=>rfl
      |false=>rw[hp] at h1;cases h1
     ·cases h1
    ·cases h1
   rw[aD.kp _ hp (cI st)];exact bP.map (ab9 hr (cI m) (cI x) h1) λ_ _ _=>rfl
  ·cases h
 case range t x=>
  obtain⟨v,h1,rfl⟩:=uY h;exact ft (ab_ hr (cI x) h1)
 case next it Sj=>
  obtain⟨v,h1,rfl⟩:=uY h;exact ft (acb hr (cI it) h1)
end
end AE
namespace AE
mutual
def e3:J->J->Bool
 | .bool a,.bool b=>a==b
 | .int k n,.int k' fi=>decide (k=k')&&decide (n=fi)
 | .complex .f64 a b,.complex .f64 aR b'=>Nat.beq a aR&&Nat.beq b b'
 | .string s,.string t=>s.data.toList==t.data.toList
 | .pointer none,.pointer none=>true
 | .slice none l c,.slice none l' c'=>Nat.beq l l'&&Nat.beq c c'
 | .map none,.map none=>true
 | .nilFunc,.nilFunc=>true
 | .nilIface,.nilIface=>true
 | .func (.func f) ⟨a⟩ ⟨b⟩,.func (.func g) ⟨aR⟩ ⟨b'⟩=>Nat.beq f g&&(mZ a aR&&mZ b b')
 | .iface t v,.iface c7 aC=>Nat.beq t c7&&e3 v aC
 | .agg ⟨l⟩,.agg ⟨l'⟩=>mZ l l'
 | .tuple ⟨l⟩,.tuple ⟨l'⟩=>mZ l l'
 |_,_=>false
def mZ:List J->List J->Bool
 |[],[]=>true
 |v::r,aC::dN=>e3 v aC&&mZ r dN
 |_,_=>false
end
mutual
theorem gw:∀(a b:J),e3 a b=true->a=b:=by
 intro a b h;unfold e3 at h;split at h
 ·rw[eq_of_beq h]
 ·simp only [cV,decide_eq_true_eq] at h;rw[h.1,h.2]
 ·simp only [cV] at h;rw[cq h.1,cq h.2]
 ·rename_i s t
  have:=eq_of_beq h;obtain⟨⟨s⟩⟩:=s;obtain⟨⟨t⟩⟩:=t;simp only at this;rw[this]
 ·rfl
 ·simp only [cV] at h;rw[cq h.1,cq h.2]
 ·rfl
 ·rfl
 ·rfl
 ·simp only [cV] at h;rw[cq h.1,pT _ _ h.2.1,pT _ _ h.2.2]
 ·rename_i t v c7 aC
  simp only [cV] at h;rw[cq h.1,gw v aC h.2]
 ·rename_i l l'
  rw[pT l l' h]
 ·rename_i l l'
  rw[pT l l' h]
 ·cases h
theorem pT:∀(a b:List J),mZ a b=true->a=b
 |[],[],_=>rfl
 |v::r,aC::dN,h=>by
  unfold mZ at h;simp only [cV] at h;rw[gw v aC h.1,pT r dN h.2]
 |[],_::_,h=>by simp [mZ] at h
 |_::_,[],h=>by simp [mZ] at h
end
mutual
def aP:J->Bool
 | .complex .f64 _ b=>Nat.beq b 0
 | .iface _ v=>aP v
 | .agg ⟨l⟩=>ev l
 | .tuple ⟨l⟩=>ev l
 | .bool _| .int .. | .float .. | .string _| .pointer none| .map none| .chan none| .nilFunc| .nilIface=>true
 | .slice none l c=>l==0&&c==0
 | .func (.func _) ⟨a⟩ ⟨b⟩=>ev a&&ev b
 |_=>false
def ev:List J->Bool
 |[]=>true
 |v::r=>aP v&&ev r
end
variable [a6]
mutual
def aM:J->J
 | .complex .f64 k b=>bif Nat.beq b 0 then a6.σ k else .complex .f64 k b
 | .iface t v=> .iface t (aM v)
 | .agg ⟨l⟩=> .agg ⟨e4 l⟩
 | .tuple ⟨l⟩=> .tuple ⟨e4 l⟩
 | .func (.func f) ⟨a⟩ ⟨b⟩=> .func (.func f) ⟨e4 a⟩ ⟨e4 b⟩
 |v=>v
def e4:List J->List J
 |[]=>[]
 |v::r=>aM v::e4 r
end
theorem G' (k:Nat):aM (aq k)=a6.σ k:=by simp [aq,aM]
theorem wc:∀l:List J,(e4 l).length=l.length
 |[]=>rfl
 |v::r=>by simp [e4,wc r]
theorem Lp:∀l:List J,e4 l=l.map aM
 |[]=>rfl
 |v::r=>by simp [e4,Lp r]
mutual
theorem aD.uZ (φ:bM):∀v:J,aP v=true->aD φ v (aM v):=by
 intro v h;unfold aP at h;split at h
 ·rename_i k b
  have:b=0:=cq h;subst this;have:=aD.sym (φ:=φ) k;simpa [aM,aq] using this
 ·rename_i t v
  unfold aM;exact .iface t (aD.uZ φ v h)
 ·rename_i l
  unfold aM;exact .agg _ _ (by simp [wc]) λi af=>by simpa using aD.zs φ l h i (by simpa using af)
 ·rename_i l
  unfold aM;exact .tuple _ _ (by simp [wc]) λi af=>by simpa using aD.zs φ l h i (by simpa using af)
 all_goals (first|(cases h;done)|skip)
 ·rename_i b;simpa [aM] using aD.j8 φ (.bool b) rfl
 ·rename_i k n;simpa [aM] using aD.j8 φ (.int k n) rfl
 ·rename_i k n;simpa [aM] using aD.j8 φ (.float k n) rfl
 ·rename_i s;simpa [aM] using aD.j8 φ (.string s) rfl
 ·simpa [aM] using aD.j8 φ (.pointer none) rfl
 ·simpa [aM] using aD.j8 φ (.map none) rfl
 ·simpa [aM] using aD.j8 φ (.chan none) rfl
 ·simpa [aM] using aD.j8 φ .nilFunc rfl
 ·simpa [aM] using aD.j8 φ .nilIface rfl
 ·rename_i l c;simpa [aM] using aD.j8 φ (.slice none l c) h
 ·rename_i f a b
  simp only [cV] at h;unfold aM;exact .func _ _ _ _ (λl hl=>by cases hl) (by simp [wc]) (by simp [wc]) (λi af=>by simpa using aD.zs φ a h.1 i (by simpa using af)) (λi af=>by simpa using aD.zs φ b h.2 i (by simpa using af))
theorem aD.zs (φ:bM):∀l:List J,ev l=true->∀i,i<l.length->aD φ (l.getD i Go.undef) ((e4 l).getD i Go.undef)
 |[],_,i,af=>absurd af (by simp)
 |v::r,h,0,_=>by
   have:=aD.uZ φ v (by simp [ev] at h;exact h.1);simpa [e4] using this
 |v::r,h,i+1,af=>by
   have:=aD.zs φ r (by simp [ev] at h;exact h.2) i (by simpa using af);simpa [e4] using this
end
theorem aD.ack {φ:bM} {k:Nat} {aC:J} (h:aD φ (aq k) aC):aC=a6.σ k:=by
 generalize hs:aq k=s at h;cases h<;>simp [aq,AE.cL] at hs
 subst hs;rfl
mutual
theorem aD.hY {φ:bM}:∀(v:J) {aC:J},aP v=true->aD φ v aC->aC=aM v:=by
 intro v aC hp h;unfold aP at hp;split at hp
 ·rename_i k b
  have:b=0:=cq hp;subst this;rw[aD.ack (k:=k) h];simp [aM]
 ·rename_i t v
  cases h with
  |iface t h=>unfold aM;rw[aD.hY v hp h]
 ·rename_i l
  cases h with
  |agg cs cs' h1 ae=>
   obtain⟨l'⟩:=cs';unfold aM;rw[aD.xR l l' hp (by simpa using h1) (λi af=>by simpa using ae i (by simpa using af))]
 ·rename_i l
  cases h with
  |tuple cs cs' h1 ae=>
   obtain⟨l'⟩:=cs';unfold aM;rw[aD.xR l l' hp (by simpa using h1) (λi af=>by simpa using ae i (by simpa using af))]
 all_goals (first|(cases hp;done)|skip)
 all_goals first|(unfold aM;refine aD.kp _ ?_ h;first|exact hp|rfl;done)|skip
 rename_i f a b;simp only [cV] at hp;cases h with
 |func fs jI cs cs' ak h1 ae aO ai=>
  obtain⟨aR⟩:=jI;obtain⟨b'⟩:=cs';unfold aM;rw[aD.xR a aR hp.1 (by simpa using h1) (λi af=>by simpa using aO i (by simpa using af)),aD.xR b b' hp.2 (by simpa using ae) (λi af=>by simpa using ai i (by simpa using af))]
theorem aD.xR {φ:bM}:∀(l l':List J),ev l=true->l.length=l'.length->(∀i,i<l.length->aD φ (l.getD i Go.undef) (l'.getD i Go.undef))->l'=e4 l
 |[],[],_,_,_=>rfl
 |[],_::_,_,h,_=>by simp at h
 |_::_,[],_,h,_=>by simp at h
 |v::r,aC::dN,hp,hl,h=>by
   have h1:=aD.hY v (by simp [ev] at hp;exact hp.1) (by simpa using h 0 (by simp));have ae:=aD.xR r dN (by simp [ev] at hp;exact hp.2) (by simpa using hl) (λi af=>by simpa using h (i+1) (by simpa using af));rw[h1,ae];rfl
end
inductive fF where
 |bin (op:BinOp) (t:aK) (x y:J)
 |un (op:UnOp) (x:J)
 |conv (s d:aK) (x:J)
 |k3 (t:aK) (x:J) (gj af dT:Option J)
 |cm (t:aK) (x i:J)
 |dP (t:aK) (x i:J)
 |bf (t:aK) (a:J)
 |b7 (t:aK) (a:J) (f:Nat)
 |dp (x:J)
 |len (cM:Array aK) (ty:aK) (x:J)
 |dT (cM:Array aK) (ty:aK) (x y:J)
 |kJ (cM:Array aK) (ty:aK) (x y:J)
 |e5 (x:J)
 |l7 (t:aK) (x i:J) (ok:Bool)
def DJ:Option J->Option J->Bool
 |none,none=>true
 |some a,some b=>e3 a b
 |_,_=>false
omit [a6] in
theorem Lq {a b:Option J} (h:DJ a b=true):a=b:=by
 unfold DJ at h;split at h
 ·rfl
 ·rw[gw _ _ h]
 ·cases h
def Bv:fF->fF->Bool
 | .bin op t x y,.bin Lr c7 x' gM=>decide (op=Lr)&&(Nat.beq t c7&&(e3 x x'&&e3 y gM))
 | .un op x,.un Lr x'=>decide (op=Lr)&&e3 x x'
 | .conv s d x,.conv eZ mX x'=>Nat.beq s eZ&&(Nat.beq d mX&&e3 x x')
 | .k3 t x gj af dT,.k3 c7 x' acm kl acn=>Nat.beq t c7&&(e3 x x'&&(DJ gj acm&&(DJ af kl&&DJ dT acn)))
 | .cm t x i,.cm c7 x' qB=>Nat.beq t c7&&(e3 x x'&&e3 i qB)
 | .dP t x i,.dP c7 x' qB=>Nat.beq t c7&&(e3 x x'&&e3 i qB)
 | .bf t a,.bf c7 aR=>Nat.beq t c7&&e3 a aR
 | .b7 t a f,.b7 c7 aR iJ=>Nat.beq t c7&&(e3 a aR&&Nat.beq f iJ)
 | .dp x,.dp x'=>e3 x x'
 | .len cM ty x,.len DK ty' x'=>decide (cM=DK)&&(Nat.beq ty ty'&&e3 x x')
 | .dT cM ty x y,.dT DK ty' x' gM=>decide (cM=DK)&&(Nat.beq ty ty'&&(e3 x x'&&e3 y gM))
 | .kJ cM ty x y,.kJ DK ty' x' gM=>decide (cM=DK)&&(Nat.beq ty ty'&&(e3 x x'&&e3 y gM))
 | .e5 x,.e5 x'=>e3 x x'
 | .l7 t x i ok,.l7 c7 x' qB aco=>Nat.beq t c7&&(e3 x x'&&(e3 i qB&&decide (ok=aco)))
 |_,_=>false
omit [a6] in
theorem Ls {a b:fF} (h:Bv a b=true):a=b:=by
 unfold Bv at h;split at h<;>try simp only [cV,decide_eq_true_eq] at h
 case h_1=>rw[h.1,cq h.2.1,gw _ _ h.2.2.1,gw _ _ h.2.2.2]
 case h_2=>rw[h.1,gw _ _ h.2]
 case h_3=>rw[cq h.1,cq h.2.1,gw _ _ h.2.2]
 case h_4=>rw[cq h.1,gw _ _ h.2.1,Lq h.2.2.1,Lq h.2.2.2.1,Lq h.2.2.2.2]
 case h_5=>rw[cq h.1,gw _ _ h.2.1,gw _ _ h.2.2]
 case h_6=>rw[cq h.1,gw _ _ h.2.1,gw _ _ h.2.2]
 case h_7=>rw[cq h.1,gw _ _ h.2]
 case h_8=>rw[cq h.1,gw _ _ h.2.1,cq h.2.2]
 case h_9=>rw[gw _ _ h]
 case h_10=>rw[h.1,cq h.2.1,gw _ _ h.2.2]
 case h_11=>rw[h.1,cq h.2.1,gw _ _ h.2.2.1,gw _ _ h.2.2.2]
 case h_12=>rw[h.1,cq h.2.1,gw _ _ h.2.2.1,gw _ _ h.2.2.2]
 case h_13=>rw[gw _ _ h]
 case h_14=>rw[cq h.1,gw _ _ h.2.1,gw _ _ h.2.2.1,h.2.2.2]
 case h_15=>cases h
def pU (bj:Operand->J) (o:Oper):Option fF:=
 match o.op with
 | .binOp op t x y _=>some (.bin op t (bj x) (bj y))
 | .unOp op _ x=>some (.un op (bj x))
 | .convert s d x=>some (.conv s d (bj x))
 | .slice t x gj af dT=>some (.k3 t (bj x) (gj.map bj) (af.map bj) (dT.map bj))
 | .indexAddr t x i=>some (.cm t (bj x) (bj i))
 | .index t x i=>some (.dP t (bj x) (bj i))
 | .load t a=>some (.bf t (bj a))
 | .fieldAddr t a f=>some (.b7 t (bj a) f)
 | .nilCheck x=>some (.dp (bj x))
 | .call c=>match c.callee with
   | .builtin .len=>match c.args with
     |⟨[x]⟩=>some (.len c.argTypes o.type (bj x))
     |_=>none
   | .builtin .max=>match c.args with
     |⟨[x,y]⟩=>some (.dT c.argTypes o.type (bj x) (bj y))
     |_=>none
   | .builtin .min=>match c.args with
     |⟨[x,y]⟩=>some (.kJ c.argTypes o.type (bj x) (bj y))
     |_=>none
   |_=>none
 | .lookup t x i ok=>some (.l7 t (bj x) (bj i) ok)
 |_=>none
def fc (dx dy:Operand):fF->Sem Next
 | .bin op t x y=>do pure (.value (<-(do eqGuard op t dx dy x y;binOp op t x y)))
 | .un op x=>do pure (.value (<-Op.unary op x))
 | .conv s d x=>do pure (.value (<-convert s d x))
 | .k3 t x gj af dT=>do pure (.value (<-Instr.sliceAt t x gj af dT))
 | .cm t x i=>do pure (.value (<-Instr.indexAt t x i))
 | .dP t x i=>do pure (.value (<-Instr.index t x i))
 | .bf t a=>do pure (.value (<-Instr.loadAt t a))
 | .b7 t a f=>do pure (.value (<-Instr.fieldAt t a f))
 | .dp x=>execOp (λ_=>x) ⟨none,.nilCheck (.const undef),0,"",#[],none⟩
 | .len cM ty x=>do pure (.value (<-Builtin.len_ cM ty #[x]))
 | .dT cM ty x y=>do pure (.value (<-Builtin.max_ cM ty #[x,y]))
 | .kJ cM ty x y=>do pure (.value (<-Builtin.min_ cM ty #[x,y]))
 | .e5 x=>pure (.value x)
 | .l7 t x i ok=>do pure (.value (<-Instr.lookup t x i ok))
def wg:fF->fF
 | .bin op t x y=> .bin op t (aM x) (aM y)
 | .un op x=> .un op (aM x)
 | .conv s d x=> .conv s d (aM x)
 | .k3 t x gj af dT=> .k3 t (aM x) (gj.map aM) (af.map aM) (dT.map aM)
 | .cm t x i=> .cm t (aM x) (aM i)
 | .dP t x i=> .dP t (aM x) (aM i)
 | .bf t a=> .bf t (aM a)
 | .b7 t a f=> .b7 t (aM a) f
 | .dp x=> .dp (aM x)
 | .len cM ty x=> .len cM ty (aM x)
 | .dT cM ty x y=> .dT cM ty (aM x) (aM y)
 | .kJ cM ty x y=> .kJ cM ty (aM x) (aM y)
 | .e5 x=> .e5 (aM x)
 | .l7 t x i ok=> .l7 t (aM x) (aM i) ok
def plainO:Option J->Bool
 |none=>true
 |some v=>aP v
def na:fF->Bool
 | .bin _ _ x y| .cm _ x y| .dP _ x y| .dT _ _ x y| .kJ _ _ x y| .l7 _ x y _=>aP x&&aP y
 | .un _ x| .e5 x| .conv _ _ x| .bf _ x| .b7 _ x _| .dp x| .len _ _ x=>aP x
 | .k3 _ x gj af dT=>aP x&&(plainO gj&&(plainO af&&plainO dT))
def Bw:fF->Bool
 | .bin .. | .un .. | .e5 .. | .cm .. | .b7 .. | .len .. | .dT .. | .kJ .. | .dp _=>true
 |_=>false
def nb (w:ao):Prop:=∀i o,a6.dL i=some o->w.heap[i]? =some o
def aZ (P:aQ) (p:fF×J):Prop:=
 na p.1=true/\aP p.2=true/\
 if Bw p.1 then ∀dx dy w,(fc dx dy (wg p.1)).run P w= .ok (.value (aM p.2)) w
 else ∀dx dy w,nb w->(fc dx dy (wg p.1)).run P w= .ok (.value (aM p.2)) w
class dO (P:aQ) where
 ops:List (fF×J)
def pV (P:aQ) [dO P]:Prop:=∀p∈dO.ops P,aZ P p
def find (f:fF):List (fF×J)->Option J
 |[]=>none
 |p::r=>bif Bv f p.1 then some p.2 else find f r
omit [a6] in
theorem G_ {f:fF} {v:J}:∀{l:List (fF×J)},find f l=some v->(f,v)∈l
 |[],h=>by cases h
 |p::r,h=>by
  unfold find at h;cases he:Bv f p.1 with
  |true=>
   rw[he,bs,cz] at h;have:=Ls he;subst this;subst h;exact List.mem_cons_self
  |false=>
   rw[he,dZ] at h;exact List.mem_cons_of_mem _ (G_ h)
def su (P:aQ) [dO P] (bj:Operand->J) (o:Oper):Option J:=
 match dO.ops P with
 |[]=>none
 |l=>match pU bj o with
  |some f=>find f l
  |none=>none
def zt (P:aQ) [dO P] (v:J):Option Bool:=
 match dO.ops P with
 |[]=>none
 |l=>match find (.e5 v) l with
  |some (.bool b)=>some b
  |_=>none
def acp:fF->Bool
 | .e5 (.bool true)=>true
 |_=>false
def acq (P:aQ) [dO P]:Bool:=
 match dO.ops P with
 |[]=>false
 |p::_=>acp p.1
def Ha (P:aQ) [dO P] (bj:Operand->J) (o:Oper):Option J:=
 match dO.ops P with
 |[]=>none
 |_=>match o.op with
  | .pick c x y=>match zt P (bj c) with
    |some t=>some (bif t then bj x else bj y)
    |none=>none
  |_=>none
def Lt (t:aK):fF->Bool
 | .e5 (.int .i64 (.ofNat m))=>Nat.beq m t
 |_=>false
def Lu (P:aQ) [dO P] (o:Oper):Bool:=match dO.ops P with
 |[]=>false
 |l=>match o.op with
  | .makeMap .. =>acq P
  | .alloc t=>l.any λp=>Lt t p.1
  | .box t _=>l.any λp=>Lt t p.1
  | .buildSlice t n _=>bif Nat.beq n 0 then false else l.any λp=>Lt t p.1
  |_=>false
def Bx (P:aQ) [Lib P] [dO P] (bj:Operand->J) (A:aW) (o:Oper):Option (rq×aW):=
 match su P bj o with
 |some v=>some (.value v,A)
 |none=>match Ha P bj o with
  |some v=>some (.value v,A)
  |none=>bif Lu P o then none else DI P bj A o
section
variable {P:aQ} {φ:bM} {A aS:aW} {w:ao}
theorem Sm {ρ ρ':Operand->J} {o:Oper} {f:fF} (cI:∀x,aD φ (ρ x) (ρ' x)) (h:pU ρ o=some f) (hp:na f=true):pU ρ' o=some (wg f):=by
 have e:∀x,aP (ρ x)=true->ρ' x=aM (ρ x):=λx ah=>aD.hY _ ah (cI x)
 have Lv:∀x:Option Operand,plainO (x.map ρ)=true->x.map ρ'=(x.map ρ).map aM:=λx ah=>by
  cases x with
  |none=>rfl
  |some x=>simp only [Option.map_some];rw[e x ah]
 unfold pU at h ⊢;split at h<;>try (cases h;done)
 all_goals try (simp only [cz] at h;subst h;simp only [na,cV] at hp)
 ·rw[e _ hp.1,e _ hp.2];rfl
 ·rw[e _ hp];rfl
 ·rw[e _ hp];rfl
 ·rw[e _ hp.1,Lv _ hp.2.1,Lv _ hp.2.2.1,Lv _ hp.2.2.2];rfl
 ·rw[e _ hp.1,e _ hp.2];rfl
 ·rw[e _ hp.1,e _ hp.2];rfl
 ·rw[e _ hp];rfl
 ·rw[e _ hp];rfl
 ·rw[e _ hp];rfl
 ·split at h<;>try (cases h;done)
  all_goals (split at h<;>try (cases h;done))
  all_goals (simp only [cz] at h;subst h;simp only [na,cV] at hp)
  ·rw[e _ hp];rfl
  ·rw[e _ hp.1,e _ hp.2];rfl
  ·rw[e _ hp.1,e _ hp.2];rfl
 ·rw[e _ hp.1,e _ hp.2];rfl
omit [a6] in
theorem Sn {ρ:Operand->J} {o:Oper} {f:fF} (h:pU ρ o=some f):∃dx dy,∀P w,(execOp ρ o).run P w=(fc dx dy f).run P w:=by
 obtain⟨dst,op,type,pos,after,guard⟩:=o;unfold pU at h;simp only at h;split at h<;>try (cases h;done)
 case h_1 op t x y Sl=>cases h;exact⟨x,y,λ_ _=>rfl⟩
 case h_10 c=>
  split at h<;>try (cases h;done)
  all_goals (split at h<;>try (cases h;done))
  all_goals (cases h;refine⟨.const undef,.const undef,λP w=> ?_⟩;unfold execOp resolve)
  ·rename_i _ h1 _ _ ae;simp only [h1,ae,List.map_toArray,List.map_cons,List.map_nil];rfl
  ·rename_i _ h1 _ _ _ ae;simp only [h1,ae,List.map_toArray,List.map_cons,List.map_nil];rfl
  ·rename_i _ h1 _ _ _ ae;simp only [h1,ae,List.map_toArray,List.map_cons,List.map_nil];rfl
 all_goals (cases h;exact⟨.const undef,.const undef,λ_ _=>rfl⟩)
theorem acr [dO P] (cl:pV P) (hr:bN φ A w) {ρ ρ':Operand->J} {o:Oper} {v:J} (cI:∀x,aD φ (ρ x) (ρ' x)) (h:su P ρ o=some v):bP (uW (.value v)) P φ A w (execOp ρ' o) A:=by
 unfold su at h;split at h
 ·cases h
 split at h
 ·rename_i f aO
  have hq:=cl _ (G_ h);obtain⟨h1,ae,ar⟩:=hq;simp only at h1 ae ar;obtain⟨dx,dy,he⟩:=Sn (Sm cI aO h1);have eH:(fc dx dy (wg f)).run P w= .ok (.value (aM v)) w:=by
   split at ar
   ·exact ar dx dy w
   ·exact ar dx dy w λi o af=>(hr.dL i o af).1
  exact⟨φ,w,_,(he P w).trans eH,⟨_,rfl,aD.uZ φ v ae⟩,cb.refl hr⟩
 ·cases h
theorem Hb [dO P] (cl:pV P) (w:ao) {v aC:J} {b:Bool} (h:zt P v=some b) (ax:aD φ v aC):aC= .bool b:=by
 unfold zt at h;split at h
 ·cases h
 split at h
 ·rename_i b' ad
  cases h;obtain⟨h1,ae,ar⟩:=cl _ (G_ ad);have hp:aP v=true:=h1;have bm:=ar (.const undef) (.const undef) w;rw[aD.hY v hp ax];have cg:(Result.ok (Next.value (aM v)) w:Result Next)= .ok (.value (aM (.bool b))) w:=bm;simp only [Result.ok.injEq,Next.value.injEq,and_true] at cg;exact cg
 ·cases h
theorem acs [dO P] (cl:pV P) (hr:bN φ A w) {ρ ρ':Operand->J} {o:Oper} {v:J} (cI:∀x,aD φ (ρ x) (ρ' x)) (h:Ha P ρ o=some v):bP (uW (.value v)) P φ A w (execOp ρ' o) A:=by
 unfold Ha at h;split at h
 ·cases h
 split at h
 ·rename_i c x y ca
  split at h
  ·rename_i t aF
   cases h;have ai:=Hb cl w aF (cI c);refine⟨φ,w,.value (bif t then ρ' x else ρ' y),?_,?_,cb.refl hr⟩
   ·unfold execOp
    rw[ca];simp only [ai];cases t<;>rfl
   ·cases t
    ·exact⟨_,rfl,cI y⟩
    ·exact⟨_,rfl,cI x⟩
  ·cases h
 ·cases h
theorem By [Lib P] [dO P] (cl:pV P) (hr:bN φ A w) {ρ ρ':Operand->J} {o:Oper} {n:rq} (cI:∀x,aD φ (ρ x) (ρ' x)) (h:Bx P ρ A o=some (n,aS)):bP (uW n) P φ A w (execOp ρ' o) aS:=by
 unfold Bx at h;split at h
 ·rename_i v ax
  cases h;exact acr cl hr cI ax
 split at h
 ·rename_i v ax
  cases h;exact acs cl hr cI ax
 ·cases ad:Lu P o with
  |true=>rw[ad] at h;cases h
  |false=>rw[ad,dZ] at h;exact Sk hr cI h
theorem Bz [dO P] (cl:pV P) {ρ ρ':Operand->J} {o:Oper} {v:J} (cI:∀x,aD φ (ρ x) (ρ' x)) (h:su P ρ o=some v) (ag:∀f,pU ρ o=some f->Bw f=true):∃aC,(∀w,(execOp ρ' o).run P w= .ok (.value aC) w)/\aD φ v aC:=by
 unfold su at h;split at h
 ·cases h
 split at h
 ·rename_i f aO
  obtain⟨h1,ae,ar⟩:=cl _ (G_ h);simp only at h1 ae ar;obtain⟨dx,dy,he⟩:=Sn (Sm cI aO h1);rw[aI (ag f aO)] at ar;exact⟨_,λw=>(he P w).trans (ar dx dy w),aD.uZ φ v ae⟩
 ·cases h
end
end AE
namespace AE
variable [a6]
abbrev a1:=bW J
abbrev acu:=FuncId->List J->aW->Option (J×aW)
def slot (sl:a1) (t:Nat):J:=
 match sl.get t with
 |some v=>v
 |none=>cL
def dU (gl:bW Nat) (sl:a1):Operand->J
 | .tmp t=>slot sl t
 | .const v=>bif plain v then v else cL
 | .global g=>match gl.get g with
   |some b=> .pointer (some ⟨b,0,none⟩)
   |none=>aq (d_+g)
 | .func f=> .func (.func f) ⟨[]⟩ ⟨[]⟩
def lH (gl:bW Nat) (φ:bM):Prop:=∀g b,gl.get g=some b->∃e,φ b=some e/\e.bd=g/\e.sh=0
structure fe (N:Nat) (ds:List Deferred) (φ:bM) (sl:a1) (a:Act):Prop where
 size:a.tmps.size=N
 defers:a.defers=ds
 get:∀t v,sl.get t=some v->aD φ v (a.tmps.getD t undef)
theorem fe.mono {N:Nat} {ds:List Deferred} {φ cP:bM} {sl:a1} {a:Act} (h:fe N ds φ sl a) (he:∀b e,φ b=some e->cP b=some e):fe N ds cP sl a:=
 ⟨h.size,h.defers,λt v ax=>(h.get t v ax).mono he⟩
omit [a6] in
theorem lH.mono {gl:bW Nat} {φ cP:bM} (h:lH gl φ) (he:∀b e,φ b=some e->cP b=some e):lH gl cP:=λg b aA=>by
 obtain⟨e,h1,ae⟩:=h g b aA;exact⟨e,he _ _ h1,ae⟩
theorem Hc {φ:bM} {sl:a1} {aC:J} {t:Nat} (h:∀v,sl.get t=some v->aD φ v aC):aD φ (slot sl t) aC:=by
 unfold slot;cases aA:sl.get t with
 |none=>exact .cL _
 |some v=>exact h v aA
theorem fZ {gl:bW Nat} {φ:bM} {sl:a1} {a:Act} (aA:lH gl φ) (hs:∀t v,sl.get t=some v->aD φ v (a.tmps.getD t undef)) (x:Operand):aD φ (dU gl sl x) (a.eval x):=by
 cases x with
 |tmp t=>exact Hc (hs t)
 |const v=>
  simp only [dU];cases hp:plain v with
  |true=>exact aD.j8 φ v hp
  |false=>exact .cL _
 |global g=>
  simp only [dU];cases ad:gl.get g with
  |none=>
   have h:=aD.sym (φ:=φ) (d_+g);rw[a6.aa1 g] at h;exact h
  |some b=>
   obtain⟨e,h1,ae,ar⟩:=aA g b ad;have:=aD.ptr (o:=0) h1;rw[ae,ar] at this;exact this
 |func f=>exact .func _ _ _ _ (λl h=>by cases h) U U (λi h=>absurd h (by simp)) (λi h=>absurd h (by simp))
def gG (N:Nat) (sl:a1) (dst:Option Tmp) (v:J):Option a1:=
 match dst with
 |none=>some sl
 |some d=>bif Nat.blt d N then bW.set v depth sl d else none
theorem fe.put {N:Nat} {ds:List Deferred} {φ:bM} {sl dJ:a1} {a:Act} {dst:Option Tmp} {v aC:J} (h:fe N ds φ sl a) (ax:aD φ v aC) (hp:gG N sl dst v=some dJ):fe N ds φ dJ (a.put dst aC):=by
 unfold gG at hp;cases dst with
 |none=>cases hp;exact h
 |some d=>
  simp only at hp;cases ad:Nat.blt d N with
  |false=>rw[ad] at hp;cases hp
  |true=>
   rw[ad,bs] at hp;have bt:d<N:=Nat.blt_eq.mp ad;refine⟨by simp [Act.put,h.size],h.defers,λt u hu=> ?_⟩;rw[bW.nB _ _ _ _ _ t hp] at hu;have b5:=h.size;by_cases aF:t=d
   ·subst aF
    rw[aI rfl] at hu;cases hu;simp only [Act.put,eO];rw[Array.getElem?_setIfInBounds_self_of_lt (Nat.lt_of_lt_of_eq bt b5.symm)];exact ax
   ·rw[aG aF] at hu
    have:=h.get t u hu;simp only [Act.put,eO] at this ⊢;rw[Array.getElem?_setIfInBounds_ne (Ne.symm aF)];exact this
def pW (ops:Array Oper) (o:Oper) (sl:a1):Option Bool:=
 match o.guard with
 |none=>some true
 |some (j,want)=>match (ops[j]?).bind (·.dst) with
  |none=>some false
  |some t=>match sl.get t with
   |some (.bool b)=>some (b==want)
   |some (.tuple ⟨[]⟩)=>some false
   |_=>none
theorem nc {φ:bM} {ops:Array Oper} {o:Oper} {sl:a1} {a:Act} {r:Bool} (hs:∀t v,sl.get t=some v->aD φ v (a.tmps.getD t undef)) (h:pW ops o sl=some r):Region.wanted o (yielded ops a.tmps)=r:=by
 unfold pW at h;unfold Region.wanted;split at h
 ·rename_i aA
  cases h;rw[aA]
 ·rename_i j want aA
  rw[aA];simp only;unfold yielded;split at h
  ·rename_i a8
   cases h;rw[a8];simp
  ·rename_i t a8
   rw[a8];simp only [Option.bind_some];split at h
   ·rename_i b ad
    have ax:=hs t _ ad;cases h;rw[eO] at ax;cases aF:a.tmps[t]? with
    |none=>rw[aF] at ax;simp [undef] at ax;cases ax
    |some u=>
     rw[aF] at ax;simp only [Option.getD_some] at ax;cases ax;cases b<;>cases want<;>rfl
   ·rename_i ad
    have ax:=hs t _ ad;cases h;rw[eO] at ax;cases aF:a.tmps[t]? with
    |none=>simp
    |some u=>
     rw[aF] at ax;simp only [Option.getD_some] at ax;cases ax;simp
   ·cases h
def Lw (P:aQ) [dO P] (ops:Array Oper) (o:Oper) (sl:a1):Option Bool:=
 match pW ops o sl with
 |some b=>some b
 |none=>match o.guard with
  |none=>none
  |some (j,want)=>match (ops[j]?).bind (·.dst) with
   |none=>none
   |some t=>match sl.get t with
    |some v=>(zt P v).map (· ==want)
    |none=>none
theorem Sp {P:aQ} [dO P] (cl:pV P) (w:ao) {φ:bM} {ops:Array Oper} {o:Oper} {sl:a1} {a:Act} {r:Bool} (hs:∀t v,sl.get t=some v->aD φ v (a.tmps.getD t undef)) (h:Lw P ops o sl=some r):Region.wanted o (yielded ops a.tmps)=r:=by
 unfold Lw at h;split at h
 ·rename_i b ad
  cases h;exact nc hs ad
 ·split at h
  ·cases h
  ·rename_i j want aA
   split at h
   ·cases h
   ·rename_i t a8
    split at h
    ·rename_i v ax
     rw[xD] at h;obtain⟨b,ad,rfl⟩:=h;have dw:=Hb cl w ad (hs t v ax);unfold Region.wanted;rw[aA];simp only;unfold yielded;rw[a8];simp only [Option.bind_some];rw[eO] at dw;cases aF:a.tmps[t]? with
     |none=>rw[aF] at dw;simp [undef] at dw
     |some u=>
      rw[aF] at dw;simp only [Option.getD_some] at dw;subst dw;cases b<;>cases want<;>rfl
    ·cases h
structure ht where
 call:acu
 round:Nat->List J->aW->Option (J×aW)
def xS (φ:bM) (A:aW) (w:ao) (v:J) (aS:aW):Ending->ao->Prop
 | .returned aC,w'=>∃cP,aD cP v aC/\cb φ A w cP aS w'
 |_,_=>False
def Fr (r:Option Nat):Fence:={Fence.wide with round:=r}
omit [a6] in
theorem DL {r:Option Nat} {n:Nat} {P:aQ} {f:FuncId} {args:Array J} {w:ao} {R:Ending->ao->Prop} (h:Calls P f args w R):CallsIn (Fr r) n P f args w R:=by
 have gu:CallsIn Fence.wide n P f args w R:=callsIn_wide.2 h;exact gu
structure kK (P:aQ) [dO P] (gl:bW Nat) (C:ht):Prop where
 facts:pV P
 call:∀(f:FuncId) (args:List J) (A:aW) (v:J) (aS:aW) (φ:bM) (w:ao) (fA:Array J),C.call f args A=some (v,aS)->bN φ A w->lH gl φ->hc args φ fA->
  Calls P f fA w (xS φ A w v aS)
 round:∀(b:Nat) (args:List J) (A:aW) (v:J) (aS:aW) (φ:bM) (w:ao) (fA:Array J) (e:gP) (k:hf) (e6:y7) (r:Loop),C.round b args A=some (v,aS)->bN φ A w->lH gl φ->hc args φ fA->
  φ b=some e->A.bl.get b=some k->k.obj= .fz (.loop e6)->w.heap[e.bd]? =some (.loop r)->qu φ (.loop e6) (.loop r)->fA.size=r.params.size/\
  RoundIn Fence.wide 0 P e.bd r.fn ((r.params.zip fA).foldl (λtmps (t,a)=>tmps.setIfInBounds t a) r.tmps) r.assign r.body w (xS φ A w v aS)
def yieldOf (bj:Operand->J) (o:Oper):Option (Nat×List J):=
 match o.op with
 | .call c=>match c.callee with
   | .value f=>match bj f with
     | .func (.yield b) ⟨[]⟩ ⟨[]⟩=>some (b,c.args.toList.map bj)
     |_=>none
   |_=>none
 |_=>none
def DM (A:aW) (b:Nat):Bool:=
 match A.bl.get b with
 |some k=>match k.obj with
  | .fz (.loop _)=>true
  |_=>false
 |none=>false
def tB (P:aQ) [Lib P] [dO P] (C:ht) (gl:bW Nat) (ops:Array Oper) (o:Oper) (sl:a1) (A:aW):Option (J×aW):=
 match Lw P ops o sl with
 |none=>none
 |some false=>some (undef,A)
 |some true=>match yieldOf (dU gl sl) o with
  |some (b,args)=>bif DM A b then C.round b args A else none
  |none=>match Bx P (dU gl sl) A o with
   |some (.value v,br)=>some (v,br)
   |some (.skip,br)=>some (undef,br)
   |some (.enter f args,br)=>C.call f args br
   |none=>none
def u0 (P:aQ) [Lib P] [dO P] (C:ht) (gl:bW Nat) (N:Nat) (ops:Array Oper) (o:Oper) (sl:a1) (A:aW):Option (a1×aW):=
 match tB P C gl ops o sl A with
 |some (v,br)=>match gG N sl o.dst v with
  |some eb=>some (eb,br)
  |none=>none
 |none=>none
omit [a6] in
theorem Lx {P:aQ} [Lib P] [dO P] {C:ht} {gl:bW Nat} {N:Nat} {ops:Array Oper} {o:Oper} {sl dJ:a1} {A aS:aW} (h:u0 P C gl N ops o sl A=some (dJ,aS)):
  ∃v,tB P C gl ops o sl A=some (v,aS)/\gG N sl o.dst v=some dJ:=by
 unfold u0 at h;split at h
 ·rename_i v br ax
  split at h
  ·rename_i eb hp
   cases h;exact⟨v,ax,hp⟩
  ·cases h
 ·cases h
section
variable {P:aQ} [Lib P] [dO P] {C:ht} {gl:bW Nat} {φ:bM} {A aS:aW} {w:ao} {a:Act}
omit [a6] in
theorem Hd {ρ:Operand->J} {o:Oper} {r:rq×aW} (h:Bx P ρ A o=some r) (c:Call):o.op≠.defer c:=by
 intro ai;unfold Bx at h;split at h
 ·rename_i v ax
  unfold su at ax;split at ax
  ·cases ax
  ·unfold pU at ax
   rw[ai] at ax;cases ax
 split at h
 ·rename_i v ax
  unfold Ha at ax;split at ax
  ·cases ax
  ·rw[ai] at ax
   cases ax
 ·cases ad:Lu P o with
  |true=>rw[ad] at h;cases h
  |false=>
   rw[ad,dZ] at h;unfold DI at h;rw[ai] at h;cases h
omit [a6] in
omit [Lib P] [dO P] in
theorem acv {ρ:Operand->J} {o:Oper} {r:Nat×List J} (h:yieldOf ρ o=some r) (c:Call):o.op≠.defer c:=by
 intro ai;unfold yieldOf at h;rw[ai] at h;cases h
omit [Lib P] [dO P] in
theorem Sq (hr:bN φ A w) {ρ ρ':Operand->J} {o:Oper} {b:Nat} {args:List J} (cI:∀x,aD φ (ρ x) (ρ' x)) (h:yieldOf ρ o=some (b,args)) (hl:DM A b=true):
  ∃e k e6 r fA,φ b=some e/\A.bl.get b=some k/\k.obj= .fz (.loop e6)/\w.heap[e.bd]? =some (.loop r)/\qu φ (.loop e6) (.loop r)/\hc args φ fA/\
   (fA.size=r.params.size->(execOp ρ' o).run P w= .ok (.round e.bd r.fn ((r.params.zip fA).foldl (λtmps (t,a)=>tmps.setIfInBounds t a) r.tmps) r.assign r.body) w):=by
 unfold yieldOf at h;split at h
 ·rename_i c ca
  split at h
  ·rename_i f pX
   split at h
   ·rename_i b' aO
    simp only [cz,Prod.mk.injEq] at h;obtain⟨rfl,rfl⟩:=h;have ax:=cI f;rw[aO] at ax;have acw:∃e,φ b'=some e/\ρ' f= .func (.yield e.bd) #[] #[]:=by
     generalize ρ' f=u at ax;cases ax with
     |sb h=>exact⟨_,h,rfl⟩
     |func _ _ _ _ ak=>exact absurd rfl (ak _)
    obtain⟨e,he,mY⟩:=acw;unfold DM at hl;split at hl
    ·rename_i k ag
     split at hl
     ·rename_i e6 fa
      obtain⟨k',dj,_,ho⟩:=hr.ea b' e he;rw[ag] at dj;cases dj;unfold fh at ho;simp only [fa] at ho;obtain⟨_,o',h1,ae⟩:=ho;obtain⟨r,rfl,uQ⟩:=id ae;refine⟨e,k,e6,r,c.args.map ρ',he,ag,fa,h1,ae,hc.map λx _=>cI x,λb5=> ?_⟩;unfold execOp;rw[ca];simp only;refine cJ (a:={target:= .fn (.yield e.bd) #[],args:= #[]++c.args.map ρ'}) (by unfold resolve;rw[pX];simp only [mY];rfl) ?_;simp only [Array.empty_append];show (Instr.yield e.bd (c.args.map ρ')).run P w=_;unfold Instr.yield Instr.getLoop;refine c6 (a:=r) (w1:=w) (by
       refine c6 (a:= .loop r) (w1:=w) (pQ h1 (λ_ _ _ h=>by cases h)) rfl) ?_
      rw[aG (λcv=>cv b5)];rfl
     ·cases hl
    ·cases hl
   ·cases h
  ·cases h
 ·cases h
theorem He (cG:kK P gl C) (hr:bN φ A w) (aA:lH gl φ) {ro:Option Nat} {ops:Array Oper} {o:Oper} {sl:a1} {v:J} (hs:∀t v,sl.get t=some v->aD φ v (a.tmps.getD t undef)) (h:tB P C gl ops o sl A=some (v,aS))
  {K:Act->ao->Prop} {Q:Exit->Act->ao->Prop} (bU:∀cP aC w',aD cP v aC->cb φ A w cP aS w'->K (a.put o.dst aC) w'):
  if Region.wanted o (yielded ops a.tmps) then o.wpIn (Fr ro) 0 P a w K Q else (∀f,o.about P w a.eval=some f->(Fr ro).fn f)/\K (a.put o.dst undef) w:=by
 unfold tB at h;split at h
 ·cases h
 ·rename_i hw
  rw[Sp cG.facts w hs hw];cases h;exact⟨λ_ _=>trivial,bU φ undef w (aD.xF φ) (cb.refl hr)⟩
 ·rename_i hw
  rw[Sp cG.facts w hs hw,aI rfl];refine⟨λ_ _=>trivial,?_⟩;split at h
  ·rename_i b args a_
   cases hl:DM A b with
   |false=>rw[hl] at h;cases h
   |true=>
    rw[hl,bs] at h;obtain⟨e,k,e6,r,fA,he,ag,fa,qw,zu,fY,eH⟩:=Sq (P:=P) hr (fZ aA hs) a_ hl;obtain⟨b5,Ly⟩:=cG.round b args A v aS φ w fA e k e6 r h hr aA fY he ag fa qw zu;rw[Oper.semAt_eq _ _ _ (acv a_),eH b5,Oper.uponIn_round];refine⟨λh=>absurd h (by simp [Fr,Fence.wide]),?_⟩;have acx:RoundIn (Fr ro) (0-1) P e.bd r.fn ((r.params.zip fA).foldl (λtmps (t,a)=>tmps.setIfInBounds t a) r.tmps) r.assign r.body w (xS φ A w v aS):=Ly;refine RoundIn.mono acx λen w2 tC=> ?_
    cases en with
    |returned aC=>
     obtain⟨eS,h1,ae⟩:=tC;exact bU eS aC w2 h1 ae
    |panicked bF=>exact tC.elim
    |outgrown=>exact tC.elim
  ·split at h
   ·rename_i v1 br ha
    cases h;obtain⟨fO,w1,n,g1,g2,g3⟩:=By cG.facts hr (fZ aA hs) ha;rw[Oper.semAt_eq _ _ _ (Hd ha),g1];obtain⟨aC,rfl,ax⟩:=g2;exact bU fO aC w1 ax g3
   ·rename_i br ha
    cases h;obtain⟨fO,w1,n,g1,g2,g3⟩:=By cG.facts hr (fZ aA hs) ha;rw[Oper.semAt_eq _ _ _ (Hd ha),g1];cases g2;exact bU fO undef w1 (aD.xF fO) g3
   ·rename_i f args br ha
    obtain⟨fO,w1,n,g1,g2,g3⟩:=By cG.facts hr (fZ aA hs) ha;rw[Oper.semAt_eq _ _ _ (Hd ha),g1];obtain⟨fA,rfl,fY⟩:=g2;rw[Oper.uponIn_enter];refine⟨λh=>absurd h (by simp [Fr,Fence.wide]),?_⟩;refine CallsIn.mono (DL (cG.call f args br v aS fO w1 fA h g3.rel (aA.mono (g3.ext hr)) fY)) λe w2 he=> ?_
    cases e with
    |returned aC=>
     obtain⟨eS,h1,ae⟩:=he;exact bU eS aC w2 h1 (cb.trans hr g3 ae)
    |panicked bF=>exact he.elim
    |outgrown=>exact he.elim
   ·cases h
def u1 (P:aQ) [Lib P] [dO P] (C:ht) (gl:bW Nat) (N:Nat) (ops:Array Oper):List Oper->a1->aW->Option (a1×aW)
 |[],sl,A=>some (sl,A)
 |o::r,sl,A=>match u0 P C gl N ops o sl A with
  |some (eb,br)=>u1 P C gl N ops r eb br
  |none=>none
theorem Lz (cG:kK P gl C) {ro:Option Nat} {N:Nat} {ds:List Deferred} {ops:Array Oper} {Q:Exit->Act->ao->Prop}:∀(l:List Oper) (sl dJ:a1) (A aS:aW) (φ:bM) (w:ao) (a:Act),bN φ A w->lH gl φ->fe N ds φ sl a->u1 P C gl N ops l sl A=some (dJ,aS)->
  (∀cP aR w',fe N ds cP dJ aR->cb φ A w cP aS w'->Q .normal aR w')->wpListIn (Fr ro) 0 P ops Q l a w
 |[],sl,dJ,A,aS,φ,w,a,hr,aA,hs,h,cS=>by
  cases h;exact cS φ a w hs (cb.refl hr)
 |o::r,sl,dJ,A,aS,φ,w,a,hr,aA,hs,h,cS=>by
  unfold u1 at h;split at h
  ·rename_i eb br cF
   obtain⟨v,ax,hp⟩:=Lx cF;unfold wpListIn;refine He cG hr aA hs.get ax λcP aC w' wa oK=> ?_
   exact Lz cG r eb dJ br aS cP w' (a.put o.dst aC) oK.rel (aA.mono (oK.ext hr)) ((hs.mono (oK.ext hr)).put wa hp) h λeS cr w2 h1 ae=>cS eS cr w2 h1 (cb.trans hr oK ae)
  ·cases h
end
end AE
section
section
variable {P:aQ} {ops:Array Oper}
def e7 (ops:Array Oper) (j:Nat):Option Tmp:=(ops[j]?).bind (·.dst)
def needs (ops:Array Oper) (m:Nat) (o:Oper):List Nat:=(List.range m).filter λj=>match e7 ops j with
 |some d=>(o.looksAt ops).contains d
 |none=>false
def direct (ops:Array Oper) (i j:Nat):Bool:=match ops[i]? with
 |some o=>o.after.any λe=>Region.binds .any e&&e.on==j
 |none=>false
theorem Act.size_put (a:Act) (d:Option Tmp) (v:J):(a.put d v).tmps.size=a.tmps.size:=by cases d<;>simp [Act.put]
theorem Act.BA (a:Act) (d:Option Tmp) (v:J):(a.put d v).defers=a.defers:=by cases d<;>rfl
theorem Act.rr (a:Act) (d:Option Tmp) (v:J) (t:Nat) (aF:t<a.tmps.size):(a.put d v).tmps.getD t undef=if d=some t then v else a.tmps.getD t undef:=by
 cases d with
 |none=>simp [Act.put]
 |some d=>
  simp only [Act.put,cz,eO,Array.getElem?_setIfInBounds];by_cases h:d=t
  ·subst h;simp [aF]
  ·simp [h]
structure amd (ops:Array Oper) (m:Nat) (G:ao->ao->Prop) (acy:Nat->J->ao->Prop) (Sr:Nat->Bool) (a0:Act) (w0:ao) (listed:Array Bool) (a:Act) (w:ao):Prop where
 size:listed.size=ops.size
 down:∀i j,listed.getD i false=true->direct ops i j=true->listed.getD j false=true
 sv:∀i,m<=i->listed.getD i false=false
 defers:a.defers=a0.defers
 lI:a.tmps.size=a0.tmps.size
 g:G w0 w
 other:∀t,(∀i,i<m->listed.getD i false=true->e7 ops i≠some t)->a.tmps.getD t undef=a0.tmps.getD t undef
 post:∀i t,i<m->listed.getD i false=true->e7 ops i=some t->acy i (a.tmps.getD t undef) w
 ame:∀i j t u b o s b' o' eZ,i<m->j<m->i≠j->listed.getD i false=true->listed.getD j false=true->Sr i=true->Sr j=true->e7 ops i=some t->e7 ops j=some u->
  a.tmps.getD t undef= .pointer (some ⟨b,o,s⟩)->a.tmps.getD u undef= .pointer (some ⟨b',o',eZ⟩)->b≠b'
theorem u2 {listed:Array Bool} {i:Nat} (h:i∈Region.ready .any ops listed):∀k,direct ops i k=true->listed.getD k false=true:=by
 intro k ag;obtain⟨_,o,ho,km⟩:=mem_ready.1 h;simp only [direct,ho] at ag;obtain⟨e,he,ad⟩:=Array.any_eq_true'.1 ag;simp only [cV,beq_iff_eq] at ad;exact ad.2▸km e he ad.1
def sw (listed:Array Bool):Nat:=listed.toList.count false
theorem Ss:∀(l:List Bool) (i:Nat),l[i]? =some false->(l.set i true).count false+1=l.count false
 |[],i,h=>by simp at h
 |b::r,0,h=>by simp at h;subst h;simp
 |b::r,i+1,h=>by
  have:=Ss r i (by simpa using h);simp only [List.set_cons_succ,List.count_cons];omega
theorem zv {listed:Array Bool} {i:Nat} (af:i<listed.size) (h:listed.getD i true=false):sw (listed.setIfInBounds i true)+1=sw listed:=by
 unfold sw;rw[Array.toList_setIfInBounds];refine Ss _ _ ?_;have:listed[i]? =some listed[i]:=Array.getElem?_eq_getElem af;simp only [eO,this,Option.getD_some] at h;rw[Array.getElem?_toList,this,h]
theorem ru {listed:Array Bool} {i:Nat} (h:i<listed.size):listed.getD i true=listed.getD i false:=by
 simp [eO,h]
end
end
namespace AE
variable [a6]
def hD (N:Nat) (ops:Array Oper) (jM:Nat->J):List Nat->a1->Option a1
 |[],sl=>some sl
 |j::r,sl=>match gG N sl (e7 ops j) (jM j) with
  |some s=>hD N ops jM r s
  |none=>none
omit [a6] in
theorem ob {N:Nat} {ops:Array Oper} {jM:Nat->J}:∀(dq:List Nat) (sl dJ:a1),hD N ops jM dq sl=some dJ->∀t v,dJ.get t=some v->
  (∃j∈dq,e7 ops j=some t/\v=jM j)\/((∀j∈dq,e7 ops j≠some t)/\sl.get t=some v)
 |[],sl,dJ,h,t,v,ax=>by
  cases h;exact .inr ⟨λj hj=>absurd hj (by simp),ax⟩
 |j::r,sl,dJ,h,t,v,ax=>by
  unfold hD at h;split at h
  ·rename_i s hs
   rcases ob r s dJ h t v ax with ⟨k,ag,a8,zw⟩|⟨ak,aA⟩
   ·exact .inl ⟨k,List.mem_cons_of_mem _ ag,a8,zw⟩
   ·unfold gG at hs
    cases a8:e7 ops j with
    |none=>
     rw[a8] at hs;cases hs;refine .inr ⟨λk ag=> ?_,aA⟩;rcases List.mem_cons.1 ag with rfl|ag
     ·rw[a8];simp
     ·exact ak k ag
    |some d=>
     rw[a8] at hs;simp only at hs;cases ad:Nat.blt d N with
     |false=>rw[ad] at hs;cases hs
     |true=>
      rw[ad,bs] at hs;rw[bW.nB _ _ _ _ _ t hs] at aA;by_cases LA:t=d
      ·subst LA
       rw[aI rfl] at aA;cases aA;exact .inl ⟨j,List.mem_cons_self,a8,rfl⟩
      ·rw[aG LA] at aA
       refine .inr ⟨λk ag=> ?_,aA⟩;rcases List.mem_cons.1 ag with rfl|ag
       ·rw[a8];simp;exact λh=>LA h.symm
       ·exact ak k ag
  ·cases h
def wh (o:Oper):Bool:=
 (match o.guard with|none=>true|some _=>false)&&
 match o.op with
 | .move _| .assign _| .binOp .. | .unOp .. | .fieldAddr .. | .indexAddr .. =>true
 |_=>false
def wi (P:aQ) [dO P] (bj:Operand->J) (o:Oper):Option J:=
 match o.op with
 | .move x| .assign x=>some (bj x)
 | .binOp op t x y _=>match su P bj o with
   |some v=>some v
   |none=>bif plain (bj x)&&plain (bj y) then sr P (do eqGuard op t x y (bj x) (bj y);binOp op t (bj x) (bj y)) else none
 | .unOp op _ x=>match su P bj o with
   |some v=>some v
   |none=>bif plain (bj x) then sr P (Op.unary op (bj x)) else none
 | .fieldAddr s x f=>match su P bj o with
   |some v=>some v
   |none=>Dl P s f (bj x)
 | .indexAddr t x i=>match su P bj o with
   |some v=>some v
   |none=>bif plain (bj i) then Dm P t (bj x) (bj i) else none
 |_=>none
theorem DN {P:aQ} [dO P] (cl:pV P) {φ:bM} {ρ ρ':Operand->J} {o:Oper} {v:J} (cI:∀x,aD φ (ρ x) (ρ' x)) (h:wi P ρ o=some v):∃aC,(∀w,(execOp ρ' o).run P w= .ok (.value aC) w)/\aD φ v aC:=by
 have ft:∀{s:Sem J},sr P s=some v->∃aC,(∀w,(do pure (Next.value (<-s)):Sem Next).run P w= .ok (.value aC) w)/\aD φ v aC:=by
  intro s hs;unfold sr at hs;split at hs
  ·rename_i u hu
   cases hp:plain u with
   |false=>rw[hp] at hs;cases hs
   |true=>
    rw[hp,bs,cz] at hs;subst hs;exact⟨u,λw=>iF (by rw[rp,hu];rfl) w,aD.j8 φ u hp⟩
  ·cases hs
 unfold wi at h;unfold execOp;split at h
 ·rename_i x ca
  cases h;rw[ca];exact⟨_,λ_=>rfl,cI x⟩
 ·rename_i x ca
  cases h;rw[ca];exact⟨_,λ_=>rfl,cI x⟩
 ·rename_i op t x y Sl ca
  split at h
  ·rename_i u hu
   cases h;have:=Bz cl cI hu λf aO=>by
    unfold pU at aO;rw[ca] at aO;cases aO;rfl
   unfold execOp at this;exact this
  ·cases hp:plain (ρ x) with
   |false=>rw[hp] at h;cases h
   |true=>
    cases aU:plain (ρ y) with
    |false=>rw[hp,aU] at h;cases h
    |true=>
     rw[hp,aU] at h;rw[ca];simp only;rw[aD.kp _ hp (cI x),aD.kp _ aU (cI y)];exact ft h
 ·rename_i op t x ca
  split at h
  ·rename_i u hu
   cases h;have:=Bz cl cI hu λf aO=>by
    unfold pU at aO;rw[ca] at aO;cases aO;rfl
   unfold execOp at this;exact this
  ·cases hp:plain (ρ x) with
   |false=>rw[hp] at h;cases h
   |true=>
    rw[hp] at h;rw[ca];simp only;rw[aD.kp _ hp (cI x)];exact ft h
 ·rename_i s x f ca
  split at h
  ·rename_i u hu
   cases h;have:=Bz cl cI hu λf aO=>by
    unfold pU at aO;rw[ca] at aO;cases aO;rfl
   unfold execOp at this;exact this
  ·obtain⟨aC,h1,ae⟩:=RA (cI x) h
   rw[ca];exact⟨aC,λw=>by simp only [Sem.run_bind,h1 w,Result.andThen_ok];rfl,ae⟩
 ·rename_i t x i ca
  split at h
  ·rename_i u hu
   cases h;have:=Bz cl cI hu λf aO=>by
    unfold pU at aO;rw[ca] at aO;cases aO;rfl
   unfold execOp at this;exact this
  ·cases hp:plain (ρ i) with
   |false=>rw[hp] at h;cases h
   |true=>
    rw[hp] at h;obtain⟨aC,h1,ae⟩:=RB (cI x) h;rw[ca];simp only;rw[aD.kp _ hp (cI i)];exact⟨aC,λw=>by simp only [Sem.run_bind,h1 w,Result.andThen_ok];rfl,ae⟩
 ·cases h
def LB (ops:Array Oper):List Oper->Nat->Array Bool->List Nat
 |[],_,_=>[]
 |o::r,i,listed=>bif wh o&&((Region.ready .any ops listed).contains i&&Region.free .any ops listed i) then i::LB ops r (i+1) (listed.setIfInBounds i true) else LB ops r (i+1) listed
def tD (ops:Array Oper):List Nat:=LB ops ops.toList 0 (Array.replicate ops.size false)
def u3 (ops:Array Oper):List Nat->Array Bool->Bool
 |[],_=>true
 |i::r,listed=>((Region.ready .any ops listed).contains i&&Region.free .any ops listed i)&&((match ops[i]? with|some o=>wh o|none=>false)&&u3 ops r (listed.setIfInBounds i true))
def zx (o:Oper) (masks:List Nat) (pO:Nat):Nat:=o.after.toList.foldl (λacc e=>bif Region.binds .any e then Nat.lor acc (Nat.lor (Nat.shiftLeft 1 e.on) (masks.getD e.on 0)) else acc) pO
def u4:List Oper->List Nat->List Nat
 |[],ms=>ms
 |o::r,ms=>u4 r (ms++[zx o ms 0])
def zy (ops:Array Oper):List Nat:=u4 ops.toList []
def DO (ms:List Nat) (i j:Nat):Bool:=(ms.getD i 0).testBit j
def LC (ops:Array Oper) (i j:Nat):Prop:=∀listed:Array Bool,(∀i j,listed.getD i false=true->direct ops i j=true->listed.getD j false=true)->(∀k,direct ops i k=true->listed.getD k false=true)->listed.getD j false=true
omit [a6] in
theorem St {masks:List Nat} {j:Nat}:∀(l:List Edge) (pO:Nat),(l.foldl (λacc e=>bif Region.binds .any e then Nat.lor acc (Nat.lor (Nat.shiftLeft 1 e.on) (masks.getD e.on 0)) else acc) pO).testBit j=true->pO.testBit j=true\/∃e∈l,Region.binds .any e=true/\(e.on=j\/(masks.getD e.on 0).testBit j=true)
 |[],pO,h=> .inl h
 |e::r,pO,h=>by
  simp only [List.foldl_cons] at h;rcases St r _ h with h|⟨e',pS,gu⟩
  ·cases ad:Region.binds .any e with
   |false=>rw[ad] at h;exact .inl h
   |true=>
    rw[ad,bs] at h;have ae:(pO ||| ((1 <<< e.on) ||| masks.getD e.on 0)).testBit j=true:=h;rw[Nat.testBit_or,Nat.testBit_or,Nat.one_shiftLeft,Nat.testBit_two_pow] at ae;simp only [Bool.or_eq_true,decide_eq_true_eq] at ae;rcases ae with ae|ae
    ·exact .inl ae
    ·exact .inr ⟨e,List.mem_cons_self,ad,ae⟩
  ·exact .inr ⟨e',List.mem_cons_of_mem _ pS,gu⟩
omit [a6] in
theorem Su:∀(l:List Oper) (ms:List Nat),(u4 l ms).take ms.length=ms/\∀i o,l[i]? =some o->(u4 l ms).getD (ms.length+i) 0=zx o ((u4 l ms).take (ms.length+i)) 0
 |[],ms=>⟨by simp [u4],λi o h=>by simp at h⟩
 |o::r,ms=>by
  obtain⟨h1,ae⟩:=Su r (ms++[zx o ms 0]);have hm:u4 (o::r) ms=u4 r (ms++[zx o ms 0]):=rfl;rw[hm];have ar:(u4 r (ms++[zx o ms 0])).take ms.length=ms:=by
   have:=congrArg (List.take ms.length) h1;rw[List.take_take] at this;simpa using this
  refine⟨ar,λi o' af=> ?_⟩;cases i with
  |zero=>
   simp only [List.getElem?_cons_zero,cz] at af;subst af;rw[Nat.add_zero,ar];have:=congrArg (λl=>l[ms.length]?) h1;simp only [List.getElem?_take,List.length_append,List.length_cons,List.length_nil] at this;rw[aI aj] at this;rw[c_,this];simp
  |succ i=>
   simp only [List.getElem?_cons_succ] at af;have:=ae i o' af;simp only [List.length_append,List.length_cons,List.length_nil] at this;rw[show ms.length+(i+1)=ms.length+(0+1)+i by omega];exact this
omit [a6] in
theorem acz {ops:Array Oper}:∀(i:Nat),i<ops.size->∀j,DO (zy ops) i j=true->LC ops i j:=by
 intro i
 induction i using Nat.strongRecOn with
 |_ i b9=>
  intro af j h listed down Sv;have ho:ops.toList[i]? =some ops[i]:=by rw[Array.getElem?_toList];exact Array.getElem?_eq_getElem af
  have hs:=(Su ops.toList []).2 i _ ho;simp only [List.length_nil,Nat.zero_add] at hs;unfold DO zy at h;rw[hs] at h;unfold zx at h;rcases St _ _ h with h|⟨e,he,ad,h⟩
  ·simp at h
  ·have a8:direct ops i e.on=true:=by
    unfold direct;rw[Array.getElem?_eq_getElem af];simp only;exact Array.any_eq_true'.2 ⟨e,by simpa using he,by simp [ad]⟩
   rcases h with rfl|h
   ·exact Sv _ a8
   ·rcases Nat.lt_or_ge e.on i with bt|j'
    ·have aA:((u4 ops.toList []).take i).getD e.on 0=(zy ops).getD e.on 0:=by
      unfold zy;rw[c_,List.getElem?_take,aI bt,c_]
     rw[aA] at h;exact b9 e.on bt aj j h listed down λk ag=>down e.on k (Sv _ a8) ag
    ·rw[c_,List.getElem?_take,aG aj] at h
     simp at h
def tE (ops:Array Oper) (L:List Nat) (m N:Nat):Bool:=
 decide (m<=ops.size)&&Region.noSelect ops&&
 ((List.range m).all λi=>(List.range m).all λj=>i==j||e7 ops i==none||e7 ops i !=e7 ops j)&&
 ((List.range m).all λi=>match e7 ops i with|some d=>decide (d<N)|none=>true)&&
 ((List.range m).all λi=>match ops[i]? with|some o=>(needs ops m o).all (direct ops i ·)|none=>false)&&
 ((List.range ops.size).all λi=>match ops[i]? with|some o=>o.after.all (λe=> !Region.binds .any e||decide (e.on<i))|none=>false)&&
 ((List.range ops.size).all λi=>decide (i<m)||(List.range i).all λj=>(L.contains j&&decide (j<m))||DO (zy ops) i j)
omit [a6] in
theorem DP {ops:Array Oper} {L:List Nat} {m N:Nat} (h:tE ops L m N=true):m<=ops.size/\Region.noSelect ops=true/\
  (∀i j,i<m->j<m->i≠j->∀t,e7 ops i=some t->e7 ops j≠some t)/\(∀i t,i<m->e7 ops i=some t->t<N)/\
  (∀i o,i<m->ops[i]? =some o->∀j∈needs ops m o,direct ops i j=true)/\(∀i j,i<ops.size->direct ops i j=true->j<i)/\
  (∀i j,i<ops.size->m<=i->j<i->(j∈L/\j<m)\/LC ops i j):=by
 simp only [tE,cV,decide_eq_true_eq,List.all_eq_true,List.mem_range] at h;obtain⟨⟨⟨⟨⟨⟨h1,ae⟩,ar⟩,bm⟩,cg⟩,cu⟩,e_⟩:=h;refine⟨h1,ae,?_,?_,?_,?_,?_⟩
 ·intro i j af hj cv t aF acA
  have:=ar i af j hj;simp [cv,aF,acA] at this
 ·intro i t af aF
  have:=bm i af;simpa [aF] using this
 ·intro i o af ho j hj
  have:=cg i af;simp only [ho,List.all_eq_true] at this;exact this j hj
 ·intro i j af a8
  have:=cu i af;unfold direct at a8;have ho:ops[i]? =some ops[i]:=Array.getElem?_eq_getElem af;simp only [ho] at this a8;obtain⟨e,he,ad⟩:=Array.any_eq_true'.1 a8;simp only [cV,beq_iff_eq] at ad;have gu:=Array.all_eq_true_iff_forall_mem.1 this e he;simp only [ad.1,Bool.not_true,Bool.false_or,decide_eq_true_eq] at gu;exact ad.2▸gu
 ·intro i j af hm hj
  have:=e_ i af;simp only [Bool.or_eq_true,decide_eq_true_eq,List.all_eq_true,List.mem_range,cV] at this;have:=this.resolve_left aj j hj;rcases this with h|h
  ·exact .inl (by simpa using h)
  ·exact .inr (acz i af j h)
def LD (pO:Nat):List Oper->Nat->List Nat->Nat->Nat
 |[],_,_,m=>m
 |o::r,i,masks,m=>let p:=zx o masks (Nat.land pO (Nat.shiftLeft 1 i-1));LD pO r (i+1) (masks++[p]) (bif Nat.beq p (Nat.shiftLeft 1 i-1) then m else i+1)
def Sw (L:List Nat):Nat:=L.foldl (λa i=>Nat.lor a (Nat.shiftLeft 1 i)) 0
def LF (ops:Array Oper) (N:Nat) (f':Bool):Option (List Nat×Nat):=
 let cN:=bif f' then [] else tD ops
 let m:=LD (Sw cN) ops.toList 0 [] 0
 let L:=cN.filter λi=>Nat.blt i m
 bif tE ops L m N&&u3 ops L (Array.replicate ops.size false) then some (L,m) else none
def BB (P:aQ) [Lib P] [dO P] (C:ht) (gl:bW Nat) (N:Nat) (ops:Array Oper) (L:List Nat) (m:Nat) (dz:a1):List Oper->Nat->List J->aW->Option (List J×aW)
 |[],_,vs,A=>some (vs,A)
 |o::r,i,vs,A=>match hD N ops (λj=>vs.getD j cL) (needs ops m o) dz with
  |some sl=>bif L.contains i then
    match wi P (dU gl sl) o with
    |some v=>BB P C gl N ops L m dz r (i+1) (vs++[v]) A
    |none=>none
   else match tB P C gl ops o sl {A with low:=A.n} with
    |some (v,br)=>bif Nat.ble A.n br.low then BB P C gl N ops L m dz r (i+1) (vs++[v]) {br with low:=A.low} else none
    |none=>none
  |none=>none
def Hf (P:aQ) [Lib P] [dO P] (C:ht) (gl:bW Nat) (N:Nat) (f':Bool) (ops:Array Oper) (sl:a1) (A:aW):Option (a1×aW×List Oper):=
 match LF ops N f' with
 |some (L,m)=>match hD N ops (λ_=>cL) (List.range m) sl with
  |some dz=>match BB P C gl N ops L m dz (ops.toList.take m) 0 [] A with
   |some (vs,br)=>bif Nat.ble br.n dead then
     match hD N ops (λj=>vs.getD j cL) (List.range m) dz with
     |some eb=>some (eb,br,ops.toList.drop m)
     |none=>none
    else none
   |none=>none
  |none=>none
 |none=>none
def LG (P:aQ) [Lib P] [dO P] (C:ht) (gl:bW Nat) (N:Nat) (f':Bool) (ops:Array Oper) (sl:a1) (A:aW):Option (a1×aW):=
 match Hf P C gl N f' ops sl A with
 |some (eb,br,r)=>u1 P C gl N ops r eb br
 |none=>none
def BC (P:aQ) [Lib P] [dO P] (C:ht) (gl:bW Nat) (N:Nat) (ops:Array Oper) (L:List Nat) (m:Nat) (dz:a1) (i:Nat) (o:Oper) (acB:List J) (v:J) (A aS:aW):Prop:=
 ∃sl,hD N ops (λj=>acB.getD j cL) (needs ops m o) dz=some sl/\
  ((i∈L/\wi P (dU gl sl) o=some v/\aS=A)\/(i∉L/\∃br,tB P C gl ops o sl {A with low:=A.n}=some (v,br)/\A.n<=br.low/\aS={br with low:=A.low}))
section
variable {P:aQ} [Lib P] [dO P] {C:ht} {gl:bW Nat} {N:Nat} {ops:Array Oper} {L:List Nat} {m:Nat} {dz:a1}
omit [a6] in
theorem Sx:∀(l:List Oper) (i0:Nat) (vs df:List J) (A aS:aW),vs.length=i0->BB P C gl N ops L m dz l i0 vs A=some (df,aS)->
  ∃(B:Nat->aW),B 0=A/\B l.length=aS/\df.length=vs.length+l.length/\df.take vs.length=vs/\
   ∀i o,l[i]? =some o->BC P C gl N ops L m dz (i0+i) o (df.take (vs.length+i)) (df.getD (vs.length+i) cL) (B i) (B (i+1))
 |[],i0,vs,df,A,aS,_,h=>by
  cases h;exact⟨λ_=>A,rfl,rfl,by simp,by simp,λi o af=>by simp at af⟩
 |o::r,i0,vs,df,A,aS,zz,h=>by
  unfold BB at h;split at h
  ·rename_i sl gC
   have go:∀(v:J) (eD:aW),((i0∈L/\wi P (dU gl sl) o=some v/\eD=A)\/(i0∉L/\∃br,tB P C gl ops o sl {A with low:=A.n}=some (v,br)/\A.n<=br.low/\eD={br with low:=A.low}))->
     BB P C gl N ops L m dz r (i0+1) (vs++[v]) eD=some (df,aS)->
     ∃(B:Nat->aW),B 0=A/\B (o::r).length=aS/\df.length=vs.length+(o::r).length/\df.take vs.length=vs/\
      ∀i o',(o::r)[i]? =some o'->BC P C gl N ops L m dz (i0+i) o' (df.take (vs.length+i)) (df.getD (vs.length+i) cL) (B i) (B (i+1)):=by
    intro v eD acC h;obtain⟨B,aJ,h1,ae,ar,bm⟩:=Sx r (i0+1) (vs++[v]) df _ aS (by simp [zz]) h;have hlen:(vs++[v]).length=vs.length+1:=by simp
    rw[hlen] at ae ar;have xT:df.take vs.length=vs:=by
     have:=congrArg (List.take vs.length) ar;rw[List.take_take,Nat.min_eq_left aj] at this;simpa using this
    refine⟨λi=>match i with|0=>A|i+1=>B i,rfl,?_,by simp;omega,xT,?_⟩
    ·simpa using h1
    ·intro i o' af
     match i with
     |0=>
      simp only [List.getElem?_cons_zero,cz] at af;subst af;simp only [Nat.add_zero];rw[xT];have gi:df.getD vs.length cL=v:=by
       have:=congrArg (λl=>l[vs.length]?) ar;simp at this;rw[c_,this];rfl
      rw[gi];refine⟨sl,gC,?_⟩;show (_/\_/\B 0=A)\/_;rw[aJ];exact acC
     |i+1=>
      have:=bm i o' (by simpa using af);rw[hlen] at this;rw[show vs.length+(i+1)=vs.length+1+i by omega,show i0+(i+1)=i0+1+i by omega];exact this
   cases ai:L.contains i0 with
   |true=>
    rw[ai,bs] at h;split at h
    ·rename_i v ax
     exact go v A (.inl ⟨by simpa using ai,ax,rfl⟩) h
    ·cases h
   |false=>
    rw[ai,dZ] at h;split at h
    ·rename_i v br ax
     cases ad:Nat.ble A.n br.low with
     |false=>rw[ad] at h;cases h
     |true=>
      rw[ad,bs] at h;exact go v _ (.inr ⟨by simpa using ai,br,ax,Nat.ble_eq.mp ad,rfl⟩) h
    ·cases h
  ·cases h
theorem bN.lower {φ:bM} {A:aW} {w:ao} (h:bN φ A w) (x:Nat):bN φ {A with low:=x} w:=⟨⟨h.wf.lt,h.wf.sc,h.wf.mem,h.wf.ti⟩,h.ea,h.apart,h.along,h.dL⟩
theorem acD {φ:bM} {A aS:aW} {w:ao} (cG:kK P gl C) (hr:bN φ A w) (aA:lH gl φ) {o:Oper} {sl:a1} {v:J} (hs:∀t v,sl.get t=some v->∃aC,aD φ v aC) (h:tB P C gl ops o sl A=some (v,aS)):
  ∃cP aC w',aD cP v aC/\cb φ A w cP aS w':=by
 have my:∀x:Operand,∃aC,aD φ (dU gl sl x) aC:=by
  intro x;cases x with
  |tmp t=>
   show ∃aC,aD φ (slot sl t) aC;unfold slot;cases Hg:sl.get t with
   |none=>exact⟨undef,.cL _⟩
   |some v=>exact hs t v Hg
  |const v=>exact⟨_,fZ (sl:= .nil) (a:=⟨#[],[]⟩) aA (λt v h=>by cases h) (.const v)⟩
  |global g=>exact⟨_,fZ (sl:= .nil) (a:=⟨#[],[]⟩) aA (λt v h=>by cases h) (.global g)⟩
  |func f=>exact⟨_,fZ (sl:= .nil) (a:=⟨#[],[]⟩) aA (λt v h=>by cases h) (.func f)⟩
 obtain⟨ρ',cI⟩:=Classical.axiomOfChoice my;unfold tB at h;split at h
 ·cases h
 ·cases h
  exact⟨φ,undef,w,aD.xF φ,cb.refl hr⟩
 ·split at h
  ·rename_i b args a_
   cases hl:DM A b with
   |false=>rw[hl] at h;cases h
   |true=>
    rw[hl,bs] at h;obtain⟨e,k,e6,r,fA,he,ag,fa,qw,zu,fY,eH⟩:=Sq (P:=P) hr cI a_ hl;obtain⟨b5,Ly⟩:=cG.round b args A v aS φ w fA e k e6 r h hr aA fY he ag fa qw zu;obtain⟨en,w2,tC,_⟩:=Ly.2 default [] (room_wide _);cases en with
    |returned aC=>
     obtain⟨eS,h1,ae⟩:=tC;exact⟨eS,aC,w2,h1,ae⟩
    |panicked bF=>exact tC.elim
    |outgrown=>exact tC.elim
  ·split at h
   ·rename_i v1 br ha
    cases h;obtain⟨fO,w1,n,g1,g2,g3⟩:=By cG.facts hr cI ha;obtain⟨aC,_,ax⟩:=g2;exact⟨fO,aC,w1,ax,g3⟩
   ·rename_i br ha
    cases h;obtain⟨fO,w1,n,g1,g2,g3⟩:=By cG.facts hr cI ha;exact⟨fO,undef,w1,aD.xF fO,g3⟩
   ·rename_i f args br ha
    obtain⟨fO,w1,n,g1,g2,g3⟩:=By cG.facts hr cI ha;obtain⟨fA,_,fY⟩:=g2;obtain⟨e,w2,fr,he,_⟩:=cG.call f args br v aS fO w1 fA h g3.rel (aA.mono (g3.ext hr)) fY [];cases e with
    |returned aC=>
     obtain⟨eS,h1,ae⟩:=he;exact⟨eS,aC,w2,h1,cb.trans hr g3 ae⟩
    |panicked bF=>exact he.elim
    |outgrown=>exact he.elim
   ·cases h
structure oc (eP:bM) (B:Nat->aW) (vs:List J) (m:Nat):Prop where
 Hh:∀i,i<m->(B i).n<=(B (i+1)).n
 same:∀i b,i<m->b<(B i).n->(B (i+1)).bl.get b=(B i).bl.get b
 acE:∀i,i<m->(B (i+1)).low=(B i).low
 ex:∀i,i<=m->∃φ w,bN φ (B i) w/\(∀b,b<(B 0).n->φ b=eP b)/\(∀b,(B 0).n<=b->b<(B i).n->φ b≠none)/\∀j,j<i->∃aC,aD φ (vs.getD j cL) aC
theorem acF {eP:bM} {A:aW} {w0:ao} {B:Nat->aW} {vs:List J} {lp:a1} (cG:kK P gl C) (hr:bN eP A w0) (aA:lH gl eP) (dQ:B 0=A) (DQ:m<=ops.size)
  (hs:∀t v,lp.get t=some v->∃aC,aD eP v aC) (hP:hD N ops (λ_=>cL) (List.range m) lp=some dz)
  (tr:∀i o,i<m->ops[i]? =some o->∀j∈needs ops m o,j<i)
  (hl:∀i o,i<m->ops[i]? =some o->BC P C gl N ops L m dz i o (vs.take i) (vs.getD i cL) (B i) (B (i+1))):oc eP B vs m:=by
 have step:∀i,i<m->(∃φ w,bN φ (B i) w/\(∀b,b<(B 0).n->φ b=eP b)/\(∀b,(B 0).n<=b->b<(B i).n->φ b≠none)/\(B 0).n<=(B i).n/\∀j,j<i->∃aC,aD φ (vs.getD j cL) aC)->
   ((B i).n<=(B (i+1)).n/\(∀b,b<(B i).n->(B (i+1)).bl.get b=(B i).bl.get b)/\(B (i+1)).low=(B i).low)/\
   (∃φ w,bN φ (B (i+1)) w/\(∀b,b<(B 0).n->φ b=eP b)/\(∀b,(B 0).n<=b->b<(B (i+1)).n->φ b≠none)/\(B 0).n<=(B (i+1)).n/\∀j,j<i+1->∃aC,aD φ (vs.getD j cL) aC):=by
  rintro i af ⟨φ,w,h1,ae,ar,bm,cg⟩;have ho:ops[i]? =some (ops[i]'(by omega)):=Array.getElem?_eq_getElem _;obtain⟨sl,gC,u5⟩:=hl i _ af ho;have ry:∀b e,eP b=some e->φ b=some e:=λb e ad=>by
   rw[ae b (by rw[dQ];exact hr.lt ad)];exact ad
  have BD:∀t v,sl.get t=some v->∃aC,aD φ v aC:=by
   intro t v oL;rcases ob _ _ _ gC t v oL with ⟨j,hj,a8,rfl⟩|⟨_,DR⟩
   ·have et:=tr i _ af ho j hj
    obtain⟨aC,l8⟩:=cg j et;refine⟨aC,?_⟩;have:(vs.take i).getD j cL=vs.getD j cL:=by
     simp only [c_,List.getElem?_take,aI et]
    rw[this];exact l8
   ·rcases ob _ _ _ hP t v DR with ⟨j,hj,a8,rfl⟩|⟨_,zA⟩
    ·exact⟨undef,.cL _⟩
    ·obtain⟨aC,l8⟩:=hs t v zA
     exact⟨aC,l8.mono ry⟩
  rcases u5 with ⟨_,tA,acG⟩|⟨_,br,ax,ri,sx⟩
  ·rw[acG]
   refine⟨⟨bL _,λ_ _=>rfl,rfl⟩,φ,w,h1,ae,ar,bm,λj hj=> ?_⟩;rcases Nat.lt_or_ge j i with bt|j'
   ·exact cg j bt
   ·have:j=i:=by omega
    subst this;have my:∀x:Operand,∃aC,aD φ (dU gl sl x) aC:=by
     intro x;cases x with
     |tmp t=>
      show ∃aC,aD φ (slot sl t) aC;unfold slot;cases Hg:sl.get t with
      |none=>exact⟨undef,.cL _⟩
      |some v=>exact BD t v Hg
     |const v=>exact⟨_,fZ (sl:= .nil) (a:=⟨#[],[]⟩) (aA.mono ry) (λt v h=>by cases h) (.const v)⟩
     |global g=>exact⟨_,fZ (sl:= .nil) (a:=⟨#[],[]⟩) (aA.mono ry) (λt v h=>by cases h) (.global g)⟩
     |func f=>exact⟨_,fZ (sl:= .nil) (a:=⟨#[],[]⟩) (aA.mono ry) (λt v h=>by cases h) (.func f)⟩
    obtain⟨ρ',cI⟩:=Classical.axiomOfChoice my;obtain⟨aC,_,l8⟩:=DN cG.facts cI tA;exact⟨aC,l8⟩
  obtain⟨cP,aC,w',g1,g2⟩:=acD cG (h1.lower (B i).n) (aA.mono ry) BD ax;have ak:(B i).n<=br.n:=g2.o9;rw[sx];refine⟨⟨ak,λb ad=>g2.same b ad (by show b<br.low;omega),rfl⟩,cP,w',g2.rel.lower _,λb ad=> ?_,λb ad dw=> ?_,by simp only;omega,λj hj=> ?_⟩
  ·rw[g2.ea b (by show b<(B i).n;omega),ae b ad]
  ·rcases Nat.lt_or_ge b (B i).n with bt|j'
   ·rw[g2.ea b bt];exact ar b ad bt
   ·exact g2.qv b j' dw
  ·rcases Nat.lt_or_ge j i with bt|j'
   ·obtain⟨u,hu⟩:=cg j bt
    exact⟨u,hu.mono (g2.ext (h1.lower _))⟩
   ·have:j=i:=by omega
    subst this;exact⟨aC,g1⟩
 have all:∀i,i<=m->(∃φ w,bN φ (B i) w/\(∀b,b<(B 0).n->φ b=eP b)/\(∀b,(B 0).n<=b->b<(B i).n->φ b≠none)/\(B 0).n<=(B i).n/\∀j,j<i->∃aC,aD φ (vs.getD j cL) aC):=by
  intro i
  induction i with
  |zero=>exact λ_=>⟨eP,w0,by rw[dQ];exact hr,λ_ _=>rfl,λb h1 ae=>by omega,bL _,λj hj=>by omega⟩
  |succ i b9=>exact λaf=>(step i aj (b9 aj)).2
 refine⟨λi af=>(step i af (all i aj)).1.1,λi b af ad=>(step i af (all i aj)).1.2.1 b ad,λi af=>(step i af (all i aj)).1.2.2,λi af=> ?_⟩;obtain⟨φ,w,h1,ae,ar,_,cg⟩:=all i af;exact⟨φ,w,h1,ae,ar,cg⟩
theorem oc.rz {eP:bM} {B:Nat->aW} {vs:List J} (h:oc eP B vs m):∀{i j:Nat},i<=j->j<=m->(B i).n<=(B j).n:=by
 intro i j pd
 induction pd with
 |refl=>exact λ_=>bL _
 |step ag b9=>exact λhm=>Nat.le_trans (b9 aj) (h.Hh _ aj)
theorem oc.u6 {eP:bM} {B:Nat->aW} {vs:List J} (h:oc eP B vs m):∀{i j:Nat},i<=j->j<=m->∀b,b<(B i).n->(B j).bl.get b=(B i).bl.get b:=by
 intro i j pd
 induction pd with
 |refl=>exact λ_ _ _=>rfl
 |step ag b9=>exact λhm b ad=>by rw[h.same _ b aj (Nat.lt_of_lt_of_le ad (h.rz ag aj)),b9 aj b ad]
theorem oc.acH {eP:bM} {B:Nat->aW} {vs:List J} (h:oc eP B vs m):∀{j:Nat},j<=m->(B j).low=(B 0).low:=by
 intro j
 induction j with
 |zero=>exact λ_=>rfl
 |succ j b9=>exact λhm=>by rw[h.acE j aj,b9 aj]
def own (B:Nat->aW) (j b:Nat):Prop:=(B j).n<=b/\b<(B (j+1)).n
theorem oc.Sy {eP:bM} {B:Nat->aW} {vs:List J} (h:oc eP B vs m) {i j b:Nat} (af:i<m) (hj:j<m) (h1:own B i b) (ae:own B j b):i=j:=by
 unfold own at h1 ae;rcases Nat.lt_trichotomy i j with bt|heq|Hg
 ·have:=h.rz (i:=i+1) (j:=j) aj aj;omega
 ·exact heq
 ·have:=h.rz (i:=j+1) (j:=i) aj aj;omega
theorem oc.Sz {eP:bM} {B:Nat->aW} {vs:List J} (acI:oc eP B vs m) {b:Nat}:∀{k:Nat},k<=m->(B 0).n<=b->b<(B k).n->∃j,j<k/\own B j b
 |0,_,h1,ae=>by omega
 |k+1,ag,h1,ae=>by
  rcases Nat.lt_or_ge b (B k).n with bt|j'
  ·obtain⟨j,hj,ho⟩:=oc.Sz acI (k:=k) aj h1 bt
   exact⟨j,aj,ho⟩
  ·exact⟨k,aj,j',ae⟩
def restrict (φ:bM) (n:Nat):bM:=λb=>if b<n then φ b else none
theorem aD.restrict {φ ψ:bM} {n:Nat} {v aC:J} (a8:∀b e,φ b=some e->b≠dead) (qG:∀b e,ψ b=some e->b<n) (h:aD φ v aC):∀u,aD ψ v u->aD (AE.restrict φ n) v aC:=by
 have lq:∀{b e},φ b=some e->b<n->AE.restrict φ n b=some e:=λh1 ae=>by unfold AE.restrict;rw[aI ae];exact h1
 induction h with
 |cL aC=>exact λ_ _=> .cL aC
 |sym k=>exact λ_ _=> .sym k
 |bool b=>exact λ_ _=> .bool b
 |int k i=>exact λ_ _=> .int k i
 |float k b=>exact λ_ _=> .float k b
 |string s=>exact λ_ _=> .string s
 |xE=>exact λ_ _=> .xE
 |ptr h=>
   intro u hu;cases hu with
   |ptr ae=>exact .ptr (lq h (qG _ _ ae))
 |slnil l c=>exact λ_ _=> .slnil l c
 |h7 aR h=>exact λ_ _=> .h7 aR h
 |hR fi c h=>
   intro u hu;cases hu with
   |hR _ _ ae=>exact .hR fi c (lq h (qG _ _ ae))
   |hS _ _ c' ae _ _ _=>exact .hR fi c (lq h (qG _ _ ae))
   |h7 aR ae=>exact absurd rfl (a8 _ _ h)
 |hS fi c c' h hs ai hl=>
   intro u hu;cases hu with
   |hR _ _ ae=>exact .hS fi c c' (lq h (qG _ _ ae)) hs ai hl
   |hS _ _ c' ae _ _ _=>exact .hS fi c _ (lq h (qG _ _ ae)) hs ai hl
   |h7 aR ae=>exact absurd rfl (a8 _ _ h)
 |y9=>exact λ_ _=> .y9
 |map h=>
   intro u hu;cases hu with
   |map ae=>exact .map (lq h (qG _ _ ae))
 |chan=>exact λ_ _=> .chan
 |func fs jI cs cs' ak h1 ae aO ai rf rh=>
   intro u hu;cases hu with
   |func _ _ _ _ _ _ _ g1 g2=>exact .func fs jI cs cs' ak h1 ae (λi af=>rf i af _ (g1 i af)) (λi af=>rh i af _ (g2 i af))
   |sb ae=>exact absurd rfl (ak _)
 |sb h=>
   intro u hu;cases hu with
   |sb ae=>exact .sb (lq h (qG _ _ ae))
   |func _ _ _ _ ak=>exact absurd rfl (ak _)
 |nilFunc=>exact λ_ _=> .nilFunc
 |nilIface=>exact λ_ _=> .nilIface
 |iface t h b9=>
   intro u hu;cases hu with
   |iface _ g=>exact .iface t (b9 _ g)
 |agg cs cs' h1 h b9=>
   intro u hu;cases hu with
   |agg _ _ _ g=>exact .agg cs cs' h1 λi af=>b9 i af _ (g i af)
 |tuple cs cs' h1 h b9=>
   intro u hu;cases hu with
   |tuple _ _ _ g=>exact .tuple cs cs' h1 λi af=>b9 i af _ (g i af)
theorem fh.restrict {φ ψ:bM} {n:Nat} {w w':ao} {e e':gP} {k:hf} (a8:∀b e,φ b=some e->b≠dead) (qG:∀b e,ψ b=some e->b<n) (h:fh φ w e k) (gu:fh ψ w' e' k):fh (AE.restrict φ n) w e k:=by
 unfold fh at*
 cases ag:k.obj with
 |cells c=>
  simp only [ag] at h gu ⊢;obtain⟨c',jb,h1,ae,ar,bm,cg⟩:=h;obtain⟨mX,GZ,g1,g2,g3,g4,jJ⟩:=gu;exact⟨c',jb,h1,ae,ar,λj hj=>(bm j hj).restrict a8 qG _ (g4 j hj),cg⟩
 |map es eo=>
  simp only [ag] at h gu ⊢;obtain⟨c8,h1,ae,ar⟩:=h;obtain⟨jI,g1,g2,g3⟩:=gu;refine⟨c8,h1,ae,λj a b ha ad=> ?_⟩;obtain⟨q1,aB,b_,eB⟩:=ar j a b ha ad;have hj:j<es.length:=(List.getElem?_eq_some_iff.1 ha).1;obtain⟨_,_,fP,_⟩:=g3 j a (jI[j]'(by omega)) ha (Array.getElem?_eq_getElem _);exact⟨q1,aB,b_.restrict a8 qG _ fP,eB⟩
 |fz x=>
  simp only [ag] at h gu ⊢;obtain⟨aJ,iX,h1,ae⟩:=h;obtain⟨_,k1,g1,g2⟩:=gu;refine⟨aJ,iX,h1,?_⟩;cases x with
  |vR s p=>exact ae
  |deferred=>exact ae
  |gone=>exact ae
  |loop l=>
   obtain⟨r,lo,q1,aB,b_,eB,hh,ln,⟨nE,pR,gk⟩,zB⟩:=ae;obtain⟨dN,DA,hi,fQ,pe,nF,xU,Hi,⟨sy,DS,amf⟩,acJ⟩:=g2;refine⟨r,lo,q1,aB,b_,eB,hh,ln,⟨nE,?_,gk⟩,λt v ax=>(zB t v ax).restrict a8 qG _ (acJ t v ax)⟩;unfold AE.restrict;rw[aI (qG _ _ DS)];exact pR
end
end AE
end Go.Proofs.YtepcfjbfkedlpaaGreatDoor
