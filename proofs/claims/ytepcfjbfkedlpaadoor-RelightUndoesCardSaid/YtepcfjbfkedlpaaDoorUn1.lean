/- Parts of the proof. -/
import Derived.WalkKit
import Derived.Orders
import Derived.IntWalk
import Derived.CallsIn
import Derived.OrdersIn
import Derived.RangeFuncIn
import Derived.RangeFuncCalls
import Derived.RangeFuncLeaves
import Derived.TacticsIn
set_option maxRecDepth 100000
set_option maxHeartbeats 4000000
namespace Go.Proofs.YtepcfjbfkedlpaaDoor
open Go
section
theorem aj {p:Prop} (h:p:=by omega):p:=h
theorem bK {p:Prop} (h:p:=by assumption):p:=h
theorem cB {p:Prop} (h:p:=by decide):p:=h
theorem au {p:Prop} (h:p:=by kernel_rfl):p:=h
theorem U.{u} {α:Sort u} {a:α}:a=a:=rfl
abbrev aY:= @if_pos
abbrev a':= @if_neg
abbrev eH:= @decide_eq_true
abbrev cx:= @decide_eq_false
abbrev dp:= @List.getD_eq_getElem?_getD
abbrev cH:= @Nat.eq_of_beq_eq_true
abbrev f_:= @List.getElem?_eq_getElem
abbrev gG:= @Nat.le_of_ble_eq_true
abbrev cN:= @Option.some.injEq
abbrev aod:= @List.getElem?_eq_some_iff
abbrev fh:= @Array.getD_eq_getD_getElem?
abbrev bD:= @cond_true
abbrev cj:= @Nat.le_refl
abbrev c7:= @Bool.and_eq_true
abbrev eB:= @cond_false
abbrev xD:= @Option.map_eq_some_iff
abbrev mw:= @List.length_replicate
abbrev J:=Go.Value
abbrev ax:=Go.World
abbrev aR:=Go.Program
abbrev aK:=Go.TypeId
namespace AE
inductive bV (α:Type) where
 |nil
 |node (v:Option α) (l r:bV α)
def bV.get {α:Type}:bV α->Nat->Option α
 | .nil,_=>none
 | .node v l r,i=>bif i==0 then v else bif i%2==1 then l.get (i/2) else r.get (i/2-1)
def bV.set {α:Type} (x:α):Nat->bV α->Nat->Option (bV α)
 |0,_,_=>none
 |f+1,.nil,i=>bif i==0 then some (.node (some x) .nil .nil) else bif i%2==1 then (bV.set x f .nil (i/2)).map (.node none · .nil) else (bV.set x f .nil (i/2-1)).map (.node none .nil ·)
 |f+1,.node v l r,i=>bif i==0 then some (.node (some x) l r) else bif i%2==1 then (bV.set x f l (i/2)).map (.node v · r) else (bV.set x f r (i/2-1)).map (.node v l ·)
theorem bV.ob {α:Type} (x:α):∀(f:Nat) (t dt:bV α) (i j:Nat),bV.set x f t i=some dt->dt.get j=if j=i then some x else t.get j
 |0,_,_,_,_,h=>by simp [bV.set] at h
 |f+1,.nil,dt,i,j,h=>by
  unfold bV.set at h;by_cases ai:i=0
  ·subst ai
   simp only [beq_self_eq_true,bD,cN] at h;subst h;by_cases hj:j=0
   ·simp [hj,bV.get]
   ·have gY:(j==0)=false:=by simpa using hj
    by_cases hm:j%2=1<;>simp [hj,gY,bV.get,hm]
  ·have lL:(i==0)=false:=by simpa using ai
   rw[lL,eB] at h;by_cases hm:i%2=1
   ·rw[show (i%2==1)=true by simpa using hm,bD] at h
    obtain⟨u,hu,rfl⟩:=Option.map_eq_some_iff.1 h;have cz:=bV.ob x f .nil u (i/2) (j/2) hu;by_cases hj:j=0
    ·subst hj;simp [bV.get,Ne.symm ai]
    ·simp only [bV.get,show (j==0)=false by simpa using hj,eB]
     by_cases rL:j%2=1
     ·rw[show (j%2==1)=true by simpa using rL,bD,cz]
      by_cases he:j=i
      ·simp [he]
      ·rw[a' he,a' aj];rfl
     ·rw[show (j%2==1)=false by simpa using rL,eB,a' aj]
   ·rw[show (i%2==1)=false by simpa using hm,eB] at h
    obtain⟨u,hu,rfl⟩:=Option.map_eq_some_iff.1 h;have cz:=bV.ob x f .nil u (i/2-1) (j/2-1) hu;by_cases hj:j=0
    ·subst hj;simp [bV.get,Ne.symm ai]
    ·simp only [bV.get,show (j==0)=false by simpa using hj,eB]
     by_cases rL:j%2=1
     ·rw[show (j%2==1)=true by simpa using rL,bD,a' aj]
     ·rw[show (j%2==1)=false by simpa using rL,eB,cz]
      by_cases he:j=i
      ·simp [he]
      ·rw[a' he,a' aj];rfl
 |f+1,.node v l r,dt,i,j,h=>by
  unfold bV.set at h;by_cases ai:i=0
  ·subst ai
   simp only [beq_self_eq_true,bD,cN] at h;subst h;by_cases hj:j=0
   ·simp [hj,bV.get]
   ·have gY:(j==0)=false:=by simpa using hj
    simp [hj,gY,bV.get]
  ·have lL:(i==0)=false:=by simpa using ai
   rw[lL,eB] at h;by_cases hm:i%2=1
   ·rw[show (i%2==1)=true by simpa using hm,bD] at h
    obtain⟨u,hu,rfl⟩:=Option.map_eq_some_iff.1 h;have cz:=bV.ob x f l u (i/2) (j/2) hu;by_cases hj:j=0
    ·subst hj;simp [bV.get,Ne.symm ai]
    ·simp only [bV.get,show (j==0)=false by simpa using hj,eB]
     by_cases rL:j%2=1
     ·rw[show (j%2==1)=true by simpa using rL,bD,bD,cz]
      by_cases he:j=i
      ·simp [he]
      ·rw[a' he,a' aj]
     ·rw[show (j%2==1)=false by simpa using rL,eB,eB,a' aj]
   ·rw[show (i%2==1)=false by simpa using hm,eB] at h
    obtain⟨u,hu,rfl⟩:=Option.map_eq_some_iff.1 h;have cz:=bV.ob x f r u (i/2-1) (j/2-1) hu;by_cases hj:j=0
    ·subst hj;simp [bV.get,Ne.symm ai]
    ·simp only [bV.get,show (j==0)=false by simpa using hj,eB]
     by_cases rL:j%2=1
     ·rw[show (j%2==1)=true by simpa using rL,bD,bD,a' aj]
     ·rw[show (j%2==1)=false by simpa using rL,eB,eB,cz]
      by_cases he:j=i
      ·simp [he]
      ·rw[a' he,a' aj]
def dead:Nat:=1099511627776
def cu:J:= .complex .f32 77 77
structure kg where
 key:J
 val:J
 born:Nat
def eZ:Nat:=1000000
class a1 where
 σ:Nat->J
 one:∀k,(∀cs,σ k≠.agg cs/\σ k≠.tuple cs)
 dq:Nat->Option Obj
 aco:∀g,σ (eZ+g)= .pointer (some ⟨g,0,none⟩)
def ak (k:Nat):J:= .complex .f64 k 0
structure Ar where
 state:LoopState
 pending:Option Code
 sl:bV J
 N:Nat
 params:List Tmp
 assign:Code
 body:Code
 Ez:Nat
inductive Cz where
 |xE (s:ByteArray) (pos:Nat)
 |deferred
 |gone
 |loop (l:Ar)
inductive qZ where
 |cells (c:List J)
 |map (es:List kg) (aoe:Nat)
 |gu (x:Cz)
structure h4 where
 obj:qZ
 cP:Nat
 pos:Nat
 eN:Nat
 ro:Bool
 ty:aK
structure a6 where
 bl:bV h4
 n:Nat
 mem:bV (List Nat)
 low:Nat
structure hP where
 bk:Nat
 sh:Nat
 eN:Nat
 As:Nat
abbrev b2:=Nat->Option hP
mutual
def plain:J->Bool
 | .bool _| .int .. | .float .. | .string _| .pointer none| .map none| .chan none| .nilFunc| .nilIface=>true
 | .slice none l c=>l==0&&c==0
 | .func (.func _) ⟨[]⟩ ⟨[]⟩=>true
 | .iface _ v=>plain v
 | .agg ⟨l⟩=>pn l
 | .tuple ⟨l⟩=>pn l
 |_=>false
def pn:List J->Bool
 |[]=>true
 |v::r=>plain v&&pn r
end
variable [a1]
inductive aD (φ:b2):J->J->Prop where
 |cu (aB:J):aD φ cu aB
 |sym (k:Nat):aD φ (ak k) (a1.σ k)
 |bool (b:Bool):aD φ (.bool b) (.bool b)
 |int (k:IntKind) (n:Int):aD φ (.int k n) (.int k n)
 |float (k:FloatKind) (b:Nat):aD φ (.float k b) (.float k b)
 |string (s:ByteArray):aD φ (.string s) (.string s)
 |y9:aD φ (.pointer none) (.pointer none)
 |ptr {b o:Nat} {e:hP} (h:φ b=some e):aD φ (.pointer (some ⟨b,o,none⟩)) (.pointer (some ⟨e.bk,e.sh+o,none⟩))
 |slnil (l c:Nat):aD φ (.slice none l c) (.slice none l c)
 |iZ {o c':Nat} (a7:Addr) (h:o=0->c'=0):aD φ (.slice (some ⟨dead,o,none⟩) 0 0) (.slice (some a7) 0 c')
 |iD {b o:Nat} {e:hP} (n c:Nat) (h:φ b=some e):aD φ (.slice (some ⟨b,o,none⟩) n c) (.slice (some ⟨e.bk,e.sh+o,none⟩) n c)
 |iE {b o:Nat} {e:hP} (n c c':Nat) (h:φ b=some e) (aw:1<=e.eN) (ar:c<=c') (hl:e.sh+o+c'*e.eN<=e.As):aD φ (.slice (some ⟨b,o,none⟩) n c) (.slice (some ⟨e.bk,e.sh+o,none⟩) n c')
 |At:aD φ (.map none) (.map none)
 |map {b:Nat} {e:hP} (h:φ b=some e):aD φ (.map (some b)) (.map (some e.bk))
 |chan:aD φ (.chan none) (.chan none)
 |func {fn:Fn} (fs kC cs cs':Array J) (av:∀l,fn≠.yield l) (ad:fs.size=kC.size) (ag:cs.size=cs'.size) (aQ:∀i,i<fs.size->aD φ (fs.getD i undef) (kC.getD i undef)) (ar:∀i,i<cs.size->aD φ (cs.getD i undef) (cs'.getD i undef)):aD φ (.func fn fs cs) (.func fn kC cs')
 |tP {b:Nat} {e:hP} (h:φ b=some e):aD φ (.func (.yield b) #[] #[]) (.func (.yield e.bk) #[] #[])
 |nilFunc:aD φ .nilFunc .nilFunc
 |nilIface:aD φ .nilIface .nilIface
 |iface (t:aK) {v aB:J} (h:aD φ v aB):aD φ (.iface t v) (.iface t aB)
 |agg (cs cs':Array J) (ad:cs.size=cs'.size) (h:∀i,i<cs.size->aD φ (cs.getD i undef) (cs'.getD i undef)):aD φ (.agg cs) (.agg cs')
 |tuple (cs cs':Array J) (ad:cs.size=cs'.size) (h:∀i,i<cs.size->aD φ (cs.getD i undef) (cs'.getD i undef)):aD φ (.tuple cs) (.tuple cs')
theorem aD.y' (φ:b2):aD φ undef undef:= .tuple _ _ rfl λi h=>absurd h (by simp)
theorem aD.mono {φ c8:b2} (ie:∀b e,φ b=some e->c8 b=some e) {v aB:J} (h:aD φ v aB):aD c8 v aB:=by
 induction h with
 |cu aB=>exact .cu aB
 |sym k=>exact .sym k
 |bool b=>exact .bool b
 |int k n=>exact .int k n
 |float k b=>exact .float k b
 |string s=>exact .string s
 |y9=>exact .y9
 |ptr h=>exact .ptr (ie _ _ h)
 |slnil l c=>exact .slnil l c
 |iZ a7 h=>exact .iZ a7 h
 |iD n c h=>exact .iD n c (ie _ _ h)
 |iE n c c' h aw ar hl=>exact .iE n c c' (ie _ _ h) aw ar hl
 |At=>exact .At
 |map h=>exact .map (ie _ _ h)
 |chan=>exact .chan
 |func fs kC cs cs' av ad ag _ _ sK sL=>exact .func fs kC cs cs' av ad ag sK sL
 |tP h=>exact .tP (ie _ _ h)
 |nilFunc=>exact .nilFunc
 |nilIface=>exact .nilIface
 |iface t _ cz=>exact .iface t cz
 |agg cs cs' ad _ cz=>exact .agg cs cs' ad cz
 |tuple cs cs' ad _ cz=>exact .tuple cs cs' ad cz
mutual
theorem aD.kq (φ:b2):∀v:J,plain v=true->aD φ v v
 | .bool b,_=> .bool b
 | .int k n,_=> .int k n
 | .float k b,_=> .float k b
 | .string s,_=> .string s
 | .pointer none,_=> .y9
 | .map none,_=> .At
 | .chan none,_=> .chan
 | .nilFunc,_=> .nilFunc
 | .nilIface,_=> .nilIface
 | .slice none l c,_=> .slnil l c
 | .func (.func f) ⟨[]⟩ ⟨[]⟩,_=> .func _ _ _ _ (λl h=>by cases h) U U (λi h=>absurd h (by simp)) (λi h=>absurd h (by simp))
 | .iface t v,h=> .iface t (aD.kq φ v (by simpa [plain] using h))
 | .agg ⟨l⟩,h=> .agg _ _ rfl λi ai=>by
     have:=aD.LP φ l (by simpa [plain] using h) i ai;simpa using this
 | .tuple ⟨l⟩,h=> .tuple _ _ rfl λi ai=>by
     have:=aD.LP φ l (by simpa [plain] using h) i ai;simpa using this
theorem aD.LP (φ:b2):∀l:List J,pn l=true->∀i,i<l.length->aD φ (l.getD i Go.undef) (l.getD i Go.undef)
 |[],_,i,ai=>absurd ai (by simp)
 |v::r,h,0,_=>by
   have:=aD.kq φ v (by simp [pn] at h;exact h.1);simpa using this
 |v::r,h,i+1,ai=>by
   have:=aD.LP φ r (by simp [pn] at h;exact h.2) i (by simpa using ai);simpa using this
end
end AE
end
namespace AE
variable [a1]
structure Au (A:a6):Prop where
 lt:∀b k,A.bl.get b=some k->b<A.n
 tQ:∀b k,A.bl.get b=some k->k.cP<A.n
 mem:∀b k,A.bl.get b=some k->∃l,A.mem.get k.cP=some l/\b∈l
 u2:∀b k b' k',A.bl.get b=some k->A.bl.get b'=some k'->k.cP=k'.cP->k.ro=k'.ro
def rM (φ:b2):Cz->Obj->Prop
 | .xE s p,o=>o= .stringIter s p
 | .deferred,o=>o= .deferred (some [])
 | .gone,o=>o= .deferred none
 | .loop l,o=>∃r:Loop,o= .loop r/\r.state=l.state/\r.pending=l.pending/\r.tmps.size=l.N/\r.params=⟨l.params⟩/\r.assign=l.assign/\r.body=l.body/\(∃e,φ l.Ez=some e/\r.defers=e.bk)/\
     (∀t v,l.sl.get t=some v->aD φ v (r.tmps.getD t undef))
theorem rM.TH {φ:b2} {x:Cz} {c:Array J} {t:aK} {f:Nat×Nat} (h:rM φ x (.cells c t f)):False:=by
 cases x with
 |xE s p=>cases h
 |deferred=>cases h
 |gone=>cases h
 |loop l=>obtain⟨r,h,_⟩:=h;cases h
theorem rM.mono {φ c8:b2} {x:Cz} {o:Obj} (ie:∀b e,φ b=some e->c8 b=some e) (h:rM φ x o):rM c8 x o:=by
 cases x with
 |xE s p=>exact h
 |deferred=>exact h
 |gone=>exact h
 |loop l=>
  obtain⟨r,h0,ad,ag,ay,bG,cE,cR,⟨e,fS,po⟩,xF⟩:=h;exact⟨r,h0,ad,ag,ay,bG,cE,cR,⟨e,ie _ _ fS,po⟩,λt v aC=>(xF t v aC).mono ie⟩
def fT (φ:b2) (w:ax) (e:hP) (k:h4):Prop:=
 match k.obj with
 | .cells c=>∃c' jk,w.heap[e.bk]? =some (.cells c' k.ty jk)/\e.As=c'.size/\(e.sh+c.length<=c'.size/\(k.eN=0->e.sh=0/\c.length=c'.size))/\
     (∀j,j<c.length->aD φ (c.getD j undef) (c'.getD (e.sh+j) undef))/\(k.ro=false->∀i,i<c'.size->¬(jk.1<=i/\i<jk.2))
 | .map es e4=>∃du,w.heap[e.bk]? =some (.map du e4)/\es.length=du.size/\
     ∀(j:Nat) (a:kg) (b:MapEntry),es[j]? =some a->du[j]? =some b->plain a.key=true/\a.key=b.key/\aD φ a.val b.val/\a.born=b.born
 | .gu x=>e.sh=0/\∃o',w.heap[e.bk]? =some o'/\rM φ x o'
structure b0 (φ:b2) (A:a6) (w:ax):Prop where
 wf:Au A
 eC:∀b e,φ b=some e->∃k,A.bl.get b=some k/\e.eN=k.eN/\fT φ w e k
 apart:∀b e k b' e' k',φ b=some e->φ b'=some e'->A.bl.get b=some k->A.bl.get b'=some k'->k.cP≠k'.cP->e.bk≠e'.bk
 along:∀b e k b' e' k',φ b=some e->φ b'=some e'->A.bl.get b=some k->A.bl.get b'=some k'->k.cP=k'.cP->e.bk=e'.bk->e.sh+k'.pos=e'.sh+k.pos
 dq:∀i o,a1.dq i=some o->w.heap[i]? =some o/\∀b e,φ b=some e->e.bk≠i
abbrev iF (_:ax):Nat:=0
structure cA (φ:b2) (A:a6) (w:ax) (c8:b2) (bh:a6) (w':ax):Prop where
 rel:b0 c8 bh w'
 eC:∀b,b<A.n->c8 b=φ b
 rN:∀b,A.n<=b->b<bh.n->c8 b≠none
 new:∀b e,A.n<=b->c8 b=some e->w.heap.size<=e.bk\/∃ct e0 ey,φ ct=some e0/\e0.bk=e.bk/\bh.low<=ct/\A.bl.get ct=some ey/\ey.ro=false
 qp:A.n<=bh.n
 low:bh.low<=A.low
 same:∀b,b<A.n->b<bh.low->bh.bl.get b=A.bl.get b
 ro:∀b k,A.bl.get b=some k->k.ro=true->bh.bl.get b=some k
 keep:∀i,i<w.heap.size->(∀b e k,φ b=some e->e.bk=i->A.bl.get b=some k->k.ro=true)->w'.heap[i]? =w.heap[i]?
 gL:w.heap.size<=w'.heap.size
 os:w'.os=w.os
 tape:w'.tape=w.tape
 output:w'.output=w.output
 drawn:iF w<=iF w'
theorem b0.lt {φ:b2} {A:a6} {w:ax} (h:b0 φ A w) {b:Nat} {e:hP} (af:φ b=some e):b<A.n:=by
 obtain⟨k,al,_⟩:=h.eC b e af;exact h.wf.lt b k al
theorem cA.ext {φ c8:b2} {A bh:a6} {w w':ax} (h:cA φ A w c8 bh w') (ao:b0 φ A w):∀b e,φ b=some e->c8 b=some e:=λb e af=>by
 rw[h.eC b (ao.lt af)];exact af
theorem cA.refl {φ:b2} {A:a6} {w:ax} (h:b0 φ A w):cA φ A w φ A w where
 rel:=h
 eC:=λ_ _=>rfl
 rN:=λb ad ag=>by omega
 new:=λb e ad ag=>absurd (h.lt ag) aj
 qp:=cj _
 low:=cj _
 same:=λ_ _ _=>rfl
 ro:=λ_ _ h _=>h
 keep:=λ_ _ _=>rfl
 gL:=cj _
 os:=rfl
 tape:=rfl
 output:=rfl
 drawn:=cj _
theorem cA.trans {φ gM fm:b2} {A bC fU:a6} {w w1 w2:ax} (ao:b0 φ A w) (ad:cA φ A w gM bC w1) (ag:cA gM bC w1 fm fU w2):cA φ A w fm fU w2 where
 rel:=ag.rel
 eC:=λb af=>by rw[ag.eC b (Nat.lt_of_lt_of_le af ad.qp),ad.eC b af]
 rN:=λb h fu=>by
  rcases Nat.lt_or_ge b bC.n with ck|kD
  ·rw[ag.eC b ck];exact ad.rN b h ck
  ·exact ag.rN b kD fu
 new:=by
  have first:∀b e,A.n<=b->gM b=some e->w.heap.size<=e.bk\/∃ct e0 ey,φ ct=some e0/\e0.bk=e.bk/\fU.low<=ct/\A.bl.get ct=some ey/\ey.ro=false:=λb e af he=>by
   rcases ad.new b e af he with h|⟨ct,e0,ey,q1,aH,bW,et,gN⟩
   ·exact .inl h
   ·exact .inr ⟨ct,e0,ey,q1,aH,Nat.le_trans ag.low bW,et,gN⟩
  intro b e af he;rcases Nat.lt_or_ge b bC.n with ck|kD
  ·rw[ag.eC b ck] at he
   exact first b e af he
  ·rcases ag.new b e kD he with h|⟨ct,e0,ey,q1,aH,bW,et,gN⟩
   ·exact .inl (Nat.le_trans ad.gL h)
   ·rcases Nat.lt_or_ge ct A.n with ck|acp
    ·rw[ad.eC ct ck] at q1
     obtain⟨k,al,_⟩:=ao.eC ct e0 q1;refine .inr ⟨ct,e0,k,q1,aH,bW,al,?_⟩;cases dK:k.ro with
     |false=>rfl
     |true=>
      have:=ad.ro ct k al dK;rw[et] at this;cases this;rw[gN] at dK;exact dK.symm▸rfl
    ·rcases first ct e0 acp q1 with h|⟨kh,e1,dg,cO,dx,gh,u3,y_⟩
     ·exact .inl aj
     ·exact .inr ⟨kh,e1,dg,cO,dx.trans aH,gh,u3,y_⟩
 qp:=Nat.le_trans ad.qp ag.qp
 low:=Nat.le_trans ag.low ad.low
 same:=λb af hl=>by rw[ag.same b (Nat.lt_of_lt_of_le af ad.qp) hl,ad.same b af (Nat.lt_of_lt_of_le hl ag.low)]
 ro:=λb k al dK=>ag.ro b k (ad.ro b k al dK) dK
 keep:=λi ai lr=>by
  rw[ag.keep i (Nat.lt_of_lt_of_le ai ad.gL) ?_,ad.keep i ai lr];intro b e k af he al;rcases Nat.lt_or_ge b A.n with ck|kD
  ·rw[ad.eC b ck] at af
   obtain⟨ey,hY,_⟩:=ao.eC b e af;have dK:=lr b e ey af he hY;have:=ad.ro b ey hY dK;rw[al] at this;cases this;exact dK
  ·rcases ad.new b e kD af with h|⟨ct,e0,ey,q1,aH,bW,et,gN⟩
   ·omega
   ·have:=lr ct e0 ey q1 (aH.trans he) et
    rw[gN] at this;cases this
 gL:=Nat.le_trans ad.gL ag.gL
 os:=ag.os.trans ad.os
 tape:=ag.tape.trans ad.tape
 output:=ag.output.trans ad.output
 drawn:=Nat.le_trans ad.drawn ag.drawn
theorem cA.za {φ:b2} {A:a6} {w:ax} (h:b0 φ A w) (n:Nat) (_:w.drawn<=n:=by omega):cA φ A w φ A {w with drawn:=n}:=
 {cA.refl h with rel:=⟨h.wf,h.eC,h.apart,h.along,h.dq⟩,keep:=λ_ _ _=>rfl,drawn:=cj _}
def depth:Nat:=30
def a6.push (A:a6) (o:qZ) (st:Nat) (ty:aK):Option (Nat×a6):=
 match bV.set {obj:=o,cP:=A.n,pos:=0,eN:=st,ro:=false,ty:=ty:h4} depth A.bl A.n,bV.set [A.n] depth A.mem A.n with
 |some bl,some mem=>some (A.n,{A with bl,mem,n:=A.n+1})
 |_,_=>none
def hn (φ:b2) (b:Nat) (e:hP):b2:=λi=>if i=b then some e else φ i
omit [a1] in
theorem Au.push {A bh:a6} {o:qZ} {st:Nat} {ty:aK} {r:Nat} (h:Au A) (hp:A.push o st ty=some (r,bh)):
  Au bh/\r=A.n/\bh.n=A.n+1/\bh.low=A.low/\(∀b,bh.bl.get b=if b=A.n then some {obj:=o,cP:=A.n,pos:=0,eN:=st,ro:=false,ty:=ty} else A.bl.get b):=by
 unfold a6.push at hp;split at hp
 ·rename_i bl mem af hm
  simp only [cN,Prod.mk.injEq] at hp;obtain⟨rfl,rfl⟩:=hp;have u4:=λb=>bV.ob _ _ _ _ _ b af
  have CA:=λb=>bV.ob _ _ _ _ _ b hm
  refine⟨⟨?_,?_,?_,?_⟩,rfl,rfl,rfl,u4⟩
  ·intro b k al
   simp only at al ⊢;rw[u4] at al;split at al
   ·omega
   ·have:=h.lt b k al;omega
  ·intro b k al
   simp only at al ⊢;rw[u4] at al;split at al
   ·cases al;simp
   ·have:=h.tQ b k al;omega
  ·intro b k al
   simp only at al ⊢;rw[u4] at al;split at al
   ·rename_i af
    cases al;exact⟨[A.n],by rw[CA,aY rfl],by simp [af]⟩
   ·obtain⟨l,hl,tR⟩:=h.mem b k al
    exact⟨l,by rw[CA,a' (by have:=h.tQ b k al;omega)];exact hl,tR⟩
  ·intro b k b' k' al dB aQ
   simp only at al dB;rw[u4] at al dB;split at al
   ·cases al
    split at dB
    ·cases dB;rfl
    ·have:=h.tQ b' k' dB;simp only at aQ;omega
   ·split at dB
    ·cases dB
     have:=h.tQ b k al;simp only at aQ;omega
    ·exact h.u2 b k b' k' al dB aQ
 ·cases hp
theorem fT.mono {φ c8:b2} {w w':ax} {e:hP} {k:h4} (ie:∀b e,φ b=some e->c8 b=some e) (hw:w'.heap[e.bk]? =w.heap[e.bk]?) (h:fT φ w e k):fT c8 w' e k:=by
 unfold fT at*
 cases al:k.obj with
 |cells c=>
  simp only [al] at h ⊢;obtain⟨c',jk,ad,ag,ay,bG,cE⟩:=h;exact⟨c',jk,hw.trans ad,ag,ay,λj hj=>(bG j hj).mono ie,cE⟩
 |map es e4=>
  simp only [al] at h ⊢;obtain⟨du,ad,ag,ay⟩:=h;refine⟨du,hw.trans ad,ag,λj a b ha af=> ?_⟩;obtain⟨q1,aH,bW,et⟩:=ay j a b ha af;exact⟨q1,aH,bW.mono ie,et⟩
 |gu x=>
  simp only [al] at h ⊢;obtain⟨h0,o',ad,ag⟩:=h;exact⟨h0,o',hw.trans ad,ag.mono ie⟩
theorem fT.lt {φ:b2} {w:ax} {e:hP} {k:h4} (h:fT φ w e k):e.bk<w.heap.size:=by
 unfold fT at h;cases al:k.obj with
 |cells c=>
  simp only [al] at h;obtain⟨c',jk,ad,_⟩:=h;exact(Array.getElem?_eq_some_iff.1 ad).1
 |map es e4=>
  simp only [al] at h;obtain⟨du,ad,_⟩:=h;exact(Array.getElem?_eq_some_iff.1 ad).1
 |gu x=>
  simp only [al] at h;obtain⟨h0,o',ad,ag⟩:=h;exact(Array.getElem?_eq_some_iff.1 ad).1
theorem CB {φ:b2} {A bh:a6} {w:ax} {o:qZ} {st:Nat} {ty:aK} {r:Nat} {o':Obj} {e:hP} (ao:b0 φ A w) (hp:A.push o st ty=some (r,bh)) (he:e.bk=w.heap.size) (c1:e.eN=st)
  (ho:fT (hn φ r e) {w with heap:=w.heap.push o'} e {obj:=o,cP:=A.n,pos:=0,eN:=st,ro:=false,ty:=ty}):
  cA φ A w (hn φ r e) bh {w with heap:=w.heap.push o'}:=by
 obtain⟨u5,rfl,av,mP,gO⟩:=ao.wf.push hp;have hold:∀b e1,φ b=some e1->hn φ A.n e b=some e1:=λb e1 af=>by
  unfold hn;rw[a' (by have:=ao.lt af;omega)];exact af
 have rO:∀i,i<w.heap.size->(w.heap.push o')[i]? =w.heap[i]? :=λi ai=>by
  rw[Array.getElem?_push,a' aj]
 have mx:∀b e1,hn φ A.n e b=some e1->(b=A.n/\e1=e)\/(b≠A.n/\φ b=some e1):=λb e1 af=>by
  unfold hn at af;split at af
  ·rename_i h;cases af;exact .inl ⟨h,rfl⟩
  ·rename_i h;exact .inr ⟨h,af⟩
 refine {rel:=⟨u5,?_,?_,?_,λi o ai=>by
   obtain⟨ad,ag⟩:=ao.dq i o ai;have ck:i<w.heap.size:=(Array.getElem?_eq_some_iff.1 ad).1;refine⟨by rw[rO i ck];exact ad,λb e1 af=> ?_⟩;rcases mx b e1 af with ⟨rfl,rfl⟩|⟨_,af⟩
   ·omega
   ·exact ag b e1 af⟩,eC:= ?_,rN:= ?_,new:= ?_,qp:=by omega,low:=by omega,same:= ?_,ro:= ?_,keep:= ?_,gL:=by simp,os:=rfl,tape:=rfl,output:=rfl,drawn:=cj _}
 ·intro b e1 af
  rcases mx b e1 af with ⟨rfl,rfl⟩|⟨cW,af⟩
  ·exact⟨_,by rw[gO,aY rfl],c1,ho⟩
  ·obtain⟨k,al,ad,ag⟩:=ao.eC b e1 af
   exact⟨k,by rw[gO,a' cW];exact al,ad,ag.mono hold (rO _ ag.lt)⟩
 ·intro b e1 k b' oS k' af ef al dB cW
  rw[gO] at al dB;rcases mx b e1 af with ⟨rfl,rfl⟩|⟨h5,sM⟩
  ·rcases mx b' oS ef with ⟨rfl,rfl⟩|⟨l8,q0⟩
   ·rw[aY rfl] at al dB;cases al;cases dB;exact absurd rfl cW
   ·obtain⟨dg,_,_,ag⟩:=ao.eC b' oS q0
    have:=ag.lt;omega
  ·rcases mx b' oS ef with ⟨rfl,rfl⟩|⟨l8,q0⟩
   ·obtain⟨dg,_,_,ag⟩:=ao.eC b e1 sM
    have:=ag.lt;omega
   ·rw[a' h5] at al;rw[a' l8] at dB
    exact ao.apart b e1 k b' oS k' sM q0 al dB cW
 ·intro b e1 k b' oS k' af ef al dB oc jR
  rw[gO] at al dB;rcases mx b e1 af with ⟨rfl,rfl⟩|⟨h5,sM⟩
  ·rcases mx b' oS ef with ⟨rfl,rfl⟩|⟨l8,q0⟩
   ·rw[aY rfl] at al dB;cases al;cases dB;rfl
   ·obtain⟨dg,_,_,ag⟩:=ao.eC b' oS q0
    have:=ag.lt;omega
  ·rcases mx b' oS ef with ⟨rfl,rfl⟩|⟨l8,q0⟩
   ·obtain⟨dg,_,_,ag⟩:=ao.eC b e1 sM
    have:=ag.lt;omega
   ·rw[a' h5] at al;rw[a' l8] at dB
    exact ao.along b e1 k b' oS k' sM q0 al dB oc jR
 ·intro b af
  unfold hn;rw[a' aj]
 ·intro b ad ag
  have:b=A.n:=by omega
  subst this;simp [hn]
 ·intro b e1 ad af
  rcases mx b e1 af with ⟨rfl,rfl⟩|⟨h5,af⟩
  ·exact .inl aj
  ·exact absurd (ao.lt af) aj
 ·intro b af _
  rw[gO,a' aj]
 ·intro b k al _
  rw[gO,a' (by have:=ao.wf.lt b k al;omega)];exact al
 ·intro i ai _
  exact rO i ai
end AE
namespace AE
variable [a1]
def a6.load (A:a6) (b off:Nat):Option J:=
 match A.bl.get b with
 |some {obj:= .cells c,..}=>c[off]?
 |_=>none
theorem u6 {φ:b2} {A:a6} {w:ax} (ao:b0 φ A w) {b off:Nat} {v:J} {e:hP} (h:A.load b off=some v) (he:φ b=some e):
  ∃aB,w.cell? ⟨e.bk,e.sh+off,none⟩=some aB/\aD φ v aB:=by
 obtain⟨k,al,_,ho⟩:=ao.eC b e he;unfold a6.load at h;rw[al] at h;obtain⟨tS,cP,pos,eN,ro,ty⟩:=k;cases tS with
 |cells c=>
  simp only [fT] at h ho;obtain⟨c',jk,ad,ag,ay,bG,cE⟩:=ho;obtain⟨ck,aC⟩:=List.getElem?_eq_some_iff.1 h;refine⟨c'.getD (e.sh+off) undef,?_,?_⟩
  ·simp only [World.cell?,ad]
   simp [show e.sh+off<c'.size by omega]
  ·have:=bG off ck
   rw[dp,h] at this;simpa using this
 |map es e4=>simp at h
 |gu x=>simp at h
def k3 (pos:Nat) (k:h4):h4:=
 bif k.ro then k else
 match k.obj with
 | .cells c=>bif Nat.ble k.pos pos then {k with obj:= .cells (c.set (pos-k.pos) cu)} else k
 |_=>k
omit [a1] in
theorem Av (pos:Nat) (k:h4):(k3 pos k).cP=k.cP/\(k3 pos k).pos=k.pos/\(k3 pos k).eN=k.eN/\(k3 pos k).ro=k.ro/\k3 pos (k3 pos k)=k3 pos k/\(k.ro=true->k3 pos k=k)/\(k3 pos k).ty=k.ty:=by
 obtain⟨tS,cP,p,st,ro,ty⟩:=k;cases ro with
 |true=>simp [k3]
 |false=>
  cases tS with
  |cells c=>cases h:Nat.ble p pos<;>simp [k3,h]
  |map es e4=>simp [k3]
  |gu x=>simp [k3]
omit [a1] in
theorem acq (pos:Nat) (k:h4):(k3 pos k).cP=k.cP:=(Av pos k).1
omit [a1] in
theorem acr (pos:Nat) (k:h4):(k3 pos k).pos=k.pos:=(Av pos k).2.1
omit [a1] in
theorem LQ (pos:Nat) (k:h4):(k3 pos k).eN=k.eN:=(Av pos k).2.2.1
omit [a1] in
theorem acs (pos:Nat) (k:h4):(k3 pos k).ro=k.ro:=(Av pos k).2.2.2.1
omit [a1] in
theorem acu (pos:Nat) (k:h4):(k3 pos k).ty=k.ty:=(Av pos k).2.2.2.2.2.2
omit [a1] in
theorem acv (pos:Nat) (k:h4):k3 pos (k3 pos k)=k3 pos k:=(Av pos k).2.2.2.2.1
def zb (pos b:Nat):List Nat->bV h4->Option (bV h4)
 |[],t=>some t
 |m::r,t=>bif m==b then zb pos b r t else
  match t.get m with
  |some k=>match bV.set (k3 pos k) depth t m with
   |some dt=>zb pos b r dt
   |none=>none
  |none=>zb pos b r t
omit [a1] in
theorem Ic (pos b:Nat):∀(l:List Nat) (t dt:bV h4),zb pos b l t=some dt->
  ∀j,dt.get j=if j∈l/\j≠b then (t.get j).map (k3 pos) else t.get j
 |[],t,dt,h,j=>by simp [zb] at h;simp [h]
 |m::r,t,dt,h,j=>by
  unfold zb at h;by_cases hm:m=b
  ·rw[show (m==b)=true by simpa using hm,bD] at h
   rw[Ic pos b r t dt h j];subst hm;by_cases hj:j∈r/\j≠m
   ·rw[aY hj,aY ⟨List.mem_cons_of_mem _ hj.1,hj.2⟩]
   ·rw[a' hj,a']
    rintro ⟨ad,ag⟩;rcases List.mem_cons.1 ad with ad|ad
    ·exact ag ad
    ·exact hj ⟨ad,ag⟩
  ·rw[show (m==b)=false by simpa using hm,eB] at h
   cases aA:t.get m with
   |none=>
    rw[aA] at h;rw[Ic pos b r t dt h j];by_cases ff:j=m
    ·subst ff
     rw[aA];split<;>split<;>rfl
    ·have:(j∈m::r/\j≠b)↔(j∈r/\j≠b):=by simp [ff]
     simp only [this]
   |some k=>
    rw[aA] at h;simp only at h;cases aw:bV.set (k3 pos k) depth t m with
    |none=>rw[aw] at h;cases h
    |some t1=>
     rw[aw] at h;have gO:=λj=>bV.ob _ _ _ _ _ j aw
     rw[Ic pos b r t1 dt h j,gO];by_cases ff:j=m
     ·subst ff
      rw[aY rfl,aY (show j∈j::r/\j≠b from ⟨List.mem_cons_self,hm⟩),aA];split
      ·simp [acv]
      ·simp
     ·rw[a' ff]
      have:(j∈m::r/\j≠b)↔(j∈r/\j≠b):=by simp [ff]
      simp only [this]
def a6.store (A:a6) (b off:Nat) (v:J):Option a6:=
 match A.bl.get b with
 |some k=>
  bif k.ro then none else
  match k.obj with
  | .cells c=>bif Nat.blt off c.length then
      match A.mem.get k.cP,bV.set {k with obj:= .cells (c.set off v)} depth A.bl b with
      |some l,some t=>match zb (k.pos+off) b l t with
       |some dt=>some {A with bl:=dt,low:=l.foldl Nat.min A.low}
       |none=>none
      |_,_=>none
    else none
  |_=>none
 |none=>none
omit [a1] in
theorem Ie:∀(l:List Nat) (x:Nat),l.foldl Nat.min x<=x/\∀m∈l,l.foldl Nat.min x<=m
 |[],x=>⟨cj _,λm h=>by cases h⟩
 |a::r,x=>by
  obtain⟨ad,ag⟩:=Ie r (Nat.min x a);refine⟨Nat.le_trans ad (Nat.min_le_left _ _),λm hm=> ?_⟩;rcases List.mem_cons.1 hm with rfl|hm
  ·exact Nat.le_trans ad (Nat.min_le_right _ _)
  ·exact ag m hm
omit [a1] in
theorem acw {A bh:a6} {b off:Nat} {v:J} (h:A.store b off v=some bh):
  ∃k c l,A.bl.get b=some k/\k.ro=false/\k.obj= .cells c/\off<c.length/\A.mem.get k.cP=some l/\bh.n=A.n/\bh.mem=A.mem/\bh.low<=A.low/\(∀m∈l,bh.low<=m)/\
   bh.bl.get b=some {k with obj:= .cells (c.set off v)}/\(∀j,j≠b->bh.bl.get j=if j∈l then (A.bl.get j).map (k3 (k.pos+off)) else A.bl.get j):=by
 unfold a6.store at h;cases al:A.bl.get b with
 |none=>rw[al] at h;cases h
 |some k=>
  rw[al] at h;obtain⟨tS,cP,pos,eN,ro,ty⟩:=k;simp only at h;cases ro with
  |true=>cases h
  |false=>
   simp only [eB] at h;cases tS with
   |map es e4=>cases h
   |gu x=>cases h
   |cells c=>
    simp only at h;cases af:Nat.blt off c.length with
    |false=>rw[af] at h;cases h
    |true=>
     rw[af,bD] at h;cases hm:A.mem.get cP with
     |none=>rw[hm] at h;cases h
     |some l=>
      rw[hm] at h;cases aw:bV.set {obj:= .cells (c.set off v),cP:=cP,pos:=pos,eN:=eN,ro:=false,ty:=ty:h4} depth A.bl b with
      |none=>rw[aw] at h;cases h
      |some t=>
       rw[aw] at h;simp only at h;cases hp:zb (pos+off) b l t with
       |none=>rw[hp] at h;cases h
       |some dt=>
        rw[hp] at h;simp only [cN] at h;subst h;have gO:=λj=>bV.ob _ _ _ _ _ j aw
        have lr:=Ic _ _ _ _ _ hp;obtain⟨f1,f2⟩:=Ie l A.low;refine⟨_,c,l,rfl,rfl,rfl,Nat.blt_eq.mp af,hm,rfl,rfl,f1,f2,?_,?_⟩
        ·simp only [lr,gO]
         simp
        ·intro j hj
         simp only [lr,gO,hj,ne_eq,not_false_eq_true,and_true,if_false]
theorem TI {φ:b2} {A bh:a6} {w:ax} (ao:b0 φ A w) {b off:Nat} {v aB:J} {e:hP} (h:A.store b off v=some bh) (he:φ b=some e) (aC:aD φ v aB):
  cA φ A w φ bh (w.setCell ⟨e.bk,e.sh+off,none⟩ aB)/\(∃u,w.cell? ⟨e.bk,e.sh+off,none⟩=some u)/\w.frozen? ⟨e.bk,e.sh+off,none⟩=false:=by
 obtain⟨k,c,l,al,dK,fK,ck,mQ,av,sN,mP,Ig,TJ,od⟩:=acw h;obtain⟨ey,hY,c1,ho⟩:=ao.eC b e he;rw[al] at hY;cases hY;have tR:b∈l:=by
  obtain⟨l',fL,ef⟩:=ao.wf.mem b k al;rw[mQ] at fL;cases fL;exact ef
 have l9:=ho;unfold fT at ho;simp only [fK] at ho;obtain⟨c',jk,ad,ag,ay,bG,cE⟩:=ho;have zc:=cE dK;have jR:e.bk<w.heap.size:=l9.lt;have hw:(w.setCell ⟨e.bk,e.sh+off,none⟩ aB).heap[e.bk]? =some (.cells (c'.setIfInBounds (e.sh+off) aB) k.ty jk):=by
  simp only [World.setCell,Array.getElem?_modify,aY,ad];simp
 have qq:∀i,i≠e.bk->(w.setCell ⟨e.bk,e.sh+off,none⟩ aB).heap[i]? =w.heap[i]? :=λi ai=>by
  simp only [World.setCell,Array.getElem?_modify];rw[a' (Ne.symm ai)]
 have gH:∀j dS,bh.bl.get j=some dS->∃cm,A.bl.get j=some cm/\dS.cP=cm.cP/\dS.pos=cm.pos/\dS.eN=cm.eN/\dS.ro=cm.ro/\dS.ty=cm.ty:=by
  intro j dS hj;by_cases tT:j=b
  ·subst tT
   rw[TJ] at hj;cases hj;exact⟨k,al,rfl,rfl,rfl,rfl,rfl⟩
  ·rw[od j tT] at hj
   split at hj
   ·obtain⟨cm,ad,rfl⟩:=Option.map_eq_some_iff.1 hj
    exact⟨cm,ad,acq _ _,acr _ _,LQ _ _,acs _ _,acu _ _⟩
   ·exact⟨dS,hj,rfl,rfl,rfl,rfl,rfl⟩
 refine⟨{rel:=⟨⟨?_,?_,?_,?_⟩,?_,?_,?_,λi o ai=>⟨by rw[qq i (Ne.symm ((ao.dq i o ai).2 _ _ he))];exact(ao.dq i o ai).1,(ao.dq i o ai).2⟩⟩,eC:=λ_ _=>rfl,rN:=λb ad ag=>by omega,new:=λb e ad ag=>absurd (ao.lt ag) aj,qp:=by omega,low:=mP,same:= ?_,ro:= ?_,keep:= ?_,gL:=by simp [World.setCell],os:=rfl,tape:=rfl,output:=rfl,drawn:=cj _},?_,?_⟩
 ·intro j cm hj
  obtain⟨dg,q1,_⟩:=gH j cm hj;rw[av];exact ao.wf.lt j dg q1
 ·intro j cm hj
  obtain⟨dg,q1,aH,_⟩:=gH j cm hj;rw[av,aH];exact ao.wf.tQ j dg q1
 ·intro j cm hj
  obtain⟨dg,q1,aH,_⟩:=gH j cm hj;rw[sN,aH];exact ao.wf.mem j dg q1
 ·intro j cm fM dS hj gY aQ
  obtain⟨dg,q1,aH,_,_,bW,_⟩:=gH j cm hj;obtain⟨u7,u9,Aw,_,_,sO,_⟩:=gH fM dS gY;rw[bW,sO];exact ao.wf.u2 j dg fM u7 q1 u9 (by rw[<-aH,<-Aw];exact aQ)
 ·intro j gi hj
  obtain⟨cm,hZ,wD,iu⟩:=ao.eC j gi hj;by_cases tT:j=b
  ·subst tT
   rw[he] at hj;cases hj;rw[al] at hZ;cases hZ;refine⟨_,TJ,c1,?_⟩;simp only [fT];refine⟨_,_,hw,by simpa using ag,by simpa using ay,?_,λ_=>by simpa using zc⟩;intro i ai;simp only [List.length_set] at ai;by_cases k4:i=off
   ·subst k4
    rw[dp,List.getElem?_set_self ai];simp only [fh,Array.getElem?_setIfInBounds,aY];rw[aY aj];exact aC
   ·rw[dp,List.getElem?_set_ne (Ne.symm k4),<-dp]
    have:=bG i ai;simp only [fh,Array.getElem?_setIfInBounds] at this ⊢;rw[a' aj];exact this
  ·by_cases xG:gi.bk=e.bk
   ·
    have oc:cm.cP=k.cP:=by
     rcases Nat.lt_or_ge cm.cP k.cP with h|h
     ·exact absurd xG (ao.apart j gi cm b e k hj he hZ al aj)
     ·rcases Nat.eq_or_lt_of_le h with h|h
      ·exact h.symm
      ·exact absurd xG (ao.apart j gi cm b e k hj he hZ al aj)
    have kE:j∈l:=by
     obtain⟨l',fL,ef⟩:=ao.wf.mem j cm hZ;rw[oc,mQ] at fL;cases fL;exact ef
    have acx:=ao.along j gi cm b e k hj he hZ al oc xG;refine⟨k3 (k.pos+off) cm,by rw[od j tT,aY kE,hZ];rfl,by rw[LQ];exact wD,?_⟩;obtain⟨LR,TK,wE,TL,Ih,TM⟩:=cm;simp only at oc acx wD;cases LR with
    |map es e4=>
     simp only [fT] at iu;obtain⟨du,g1,_⟩:=iu;rw[xG,ad] at g1;cases g1
    |gu x=>
     simp only [fT] at iu;obtain⟨_,o',g1,g2⟩:=iu;rw[xG,ad] at g1;cases g1;exact absurd g2 λh=>rM.TH h
    |cells Ax=>
     simp only [fT] at iu;obtain⟨EA,EB,g1,g2,g3,g4,k5⟩:=iu;rw[xG,ad] at g1;simp only [cN,Obj.cells.injEq] at g1;obtain⟨rfl,hty,rfl⟩:=g1;have key:∀(e4:List J),e4.length=Ax.length->(∀i,i<Ax.length->(gi.sh+i=e.sh+off->e4[i]? =some cu)/\(gi.sh+i≠e.sh+off->e4[i]? =Ax[i]? \/e4[i]? =some cu))->
       fT φ (w.setCell ⟨e.bk,e.sh+off,none⟩ aB) gi {obj:= .cells e4,cP:=TK,pos:=wE,eN:=TL,ro:=Ih,ty:=TM}:=by
      intro e4 rP fV;simp only [fT];refine⟨_,_,by rw[xG,<-hty];exact hw,by simpa using g2,by rw[rP];simpa using g3,?_,λ_=>by simpa using zc⟩;intro i ai;rw[rP] at ai;obtain⟨q1,aH⟩:=fV i ai;by_cases tU:gi.sh+i=e.sh+off
      ·rw[dp,q1 tU]
       exact .cu _
      ·rcases aH tU with q|q
       ·rw[dp,q,<-dp]
        have:=g4 i ai;simp only [fh,Array.getElem?_setIfInBounds] at this ⊢;rw[a' aj];exact this
       ·rw[dp,q]
        exact .cu _
     have rQ:Ih=false:=by
      have:=ao.wf.u2 j _ b k hZ al oc;simpa [dK] using this
     subst rQ;unfold k3;simp only [eB];cases Ii:Nat.ble wE (k.pos+off) with
     |false=>
      simp only [eB];refine key Ax rfl λi ai=>⟨λhp=> ?_,λ_=> .inl rfl⟩
      have:¬wE<=k.pos+off:=by
       intro hle;rw[Nat.ble_eq.mpr hle] at Ii;cases Ii
      omega
     |true=>
      have hle:=Nat.ble_eq.mp Ii;simp only [bD];refine key _ (by simp) λi ai=>⟨λhp=> ?_,λhp=> ?_⟩
      ·have:k.pos+off-wE=i:=by omega
       rw[this,List.getElem?_set_self ai]
      ·have:k.pos+off-wE≠i:=by omega
       rw[List.getElem?_set_ne this];exact .inl rfl
   ·
    rw[od j tT];by_cases kE:j∈l
    ·rw[aY kE,hZ]
     refine⟨_,rfl,by rw[LQ];exact wD,?_⟩;have CC:fT φ (w.setCell ⟨e.bk,e.sh+off,none⟩ aB) gi cm:=iu.mono (λ_ _ h=>h) (qq _ xG);unfold k3;obtain⟨LR,TK,wE,TL,Ih,TM⟩:=cm;cases Ih with
     |true=>exact CC
     |false=>
     simp only [eB];cases LR with
     |map es e4=>exact CC
     |gu x=>exact CC
     |cells Ax=>
      simp only;cases Ii:Nat.ble wE (k.pos+off) with
      |false=>exact CC
      |true=>
       simp only [bD];simp only [fT] at CC ⊢;obtain⟨EA,EB,g1,g2,g3,g4,k5⟩:=CC;refine⟨EA,EB,g1,g2,by simpa using g3,λi ai=> ?_,k5⟩;simp only [List.length_set] at ai;by_cases TN:k.pos+off-wE=i
       ·rw[TN,dp,List.getElem?_set_self ai]
        exact .cu _
       ·rw[dp,List.getElem?_set_ne TN,<-dp]
        exact g4 i ai
    ·rw[a' kE]
     exact⟨cm,hZ,wD,iu.mono (λ_ _ h=>h) (qq _ xG)⟩
 ·intro j gi cm fM q2 dS q1 aH bW et gN
  obtain⟨dZ,a2,a3,a4,TO,TP,TQ⟩:=gH j cm bW;obtain⟨kh,lM,tV,wF,LS,LU,LV⟩:=gH fM dS et;exact ao.apart j gi dZ fM q2 kh q1 aH a2 lM (by rw[<-a3,<-tV];exact gN)
 ·intro j gi cm fM q2 dS q1 aH bW et gN j_
  obtain⟨dZ,a2,a3,a4,TO,TP,TQ⟩:=gH j cm bW;obtain⟨kh,lM,tV,wF,LS,LU,LV⟩:=gH fM dS et;rw[a4,wF];exact ao.along j gi dZ fM q2 kh q1 aH a2 lM (by rw[<-a3,<-tV];exact gN) j_
 ·intro j hj hl
  by_cases tT:j=b
  ·subst tT
   have:=Ig j tR;omega
  ·rw[od j tT,a']
   intro kE;have:=Ig j kE;omega
 ·intro j cm hj rQ
  by_cases tT:j=b
  ·subst tT
   rw[al] at hj;cases hj;rw[dK] at rQ;cases rQ
  ·rw[od j tT]
   by_cases kE:j∈l
   ·rw[aY kE,hj]
    simp only [Option.map_some,cN];exact(Av _ _).2.2.2.2.2.1 rQ
   ·rw[a' kE];exact hj
 ·intro i ai lr
  refine qq i λqs=> ?_
  subst qs;have:=lr b e k he rfl al;rw[dK] at this;cases this
 ·refine⟨c'.getD (e.sh+off) undef,?_⟩
  simp only [World.cell?,ad];simp [show e.sh+off<c'.size by omega]
 ·have:=zc (e.sh+off) aj
  obtain⟨e5,ai⟩:=jk;simp only [World.frozen?,ad];simpa using this
end AE
namespace AE
variable [a1]
def bg {α:Type} (P:aR):Sem α->Option α
 | .pure a=>some a
 | .program k=>bg P (k P)
 | .mark _ k=>bg P k
 |_=>none
omit [a1] in
theorem jz {α:Type} {P:aR} {s:Sem α} {a:α} (h:bg P s=some a) (w:ax):s.run P w= .ok a w:=by
 induction s with
 |pure b=>simp only [bg,cN] at h;subst h;rfl
 |program k cz=>exact cz P h
 |mark m k cz=>exact cz h
 |_=>cases h
def xH:J->Bool
 | .agg _| .tuple _| .complex .f32 _ _=>false
 |_=>true
def cellsOf:J->Option (List J)
 | .agg ⟨l⟩=>some l
 | .tuple _| .complex .f32 _ _=>none
 |v=>some [v]
theorem aD.xH {φ:b2} {v aB:J} (h:aD φ v aB) (ad:xH v=true):∀cs,aB≠.agg cs/\aB≠.tuple cs:=by
 intro cs;cases h
 case sym k=>exact a1.one k cs
 all_goals simp_all [AE.xH,AE.cu]
theorem aD.cells {φ:b2} {v aB:J} {l:List J} (h:aD φ v aB) (hl:cellsOf v=some l):
  l.length=aB.cells.size/\∀j,j<l.length->aD φ (l.getD j undef) (aB.cells.getD j undef):=by
 have one:∀{v aB:J},aD φ v aB->(∀cs,aB≠.agg cs)->l=[v]->l.length=aB.cells.size/\∀j,j<l.length->aD φ (l.getD j undef) (aB.cells.getD j undef):=by
  intro v aB h av e;subst e;have:aB.cells= #[aB]:=by cases aB<;>first|rfl|exact absurd rfl (av _)
  rw[this];refine⟨rfl,λj hj=> ?_⟩;have:j=0:=by simpa using hj
  subst this;simpa using h
 cases h with
 |cu=>cases hl
 |sym k=>exact one (.sym k) (λcs=>(a1.one k cs).1) (by simpa [cellsOf,ak] using hl.symm)
 |agg cs cs' ad ag=>
  obtain⟨Ij⟩:=cs;simp only [cellsOf,cN] at hl;subst hl;exact⟨by simpa [Value.cells] using ad,λj hj=>by simpa [Value.cells] using ag j (by simpa using hj)⟩
 |tuple=>cases hl
 |bool b=>exact one (.bool b) (λ_=>by simp) (by simpa [cellsOf] using hl.symm)
 |int k n=>exact one (.int k n) (λ_=>by simp) (by simpa [cellsOf] using hl.symm)
 |float k b=>exact one (.float k b) (λ_=>by simp) (by simpa [cellsOf] using hl.symm)
 |string s=>exact one (.string s) (λ_=>by simp) (by simpa [cellsOf] using hl.symm)
 |y9=>exact one .y9 (λ_=>by simp) (by simpa [cellsOf] using hl.symm)
 |ptr h=>exact one (.ptr h) (λ_=>by simp) (by simpa [cellsOf] using hl.symm)
 |slnil a b=>exact one (.slnil a b) (λ_=>by simp) (by simpa [cellsOf] using hl.symm)
 |iZ b h=>exact one (.iZ b h) (λ_=>by simp) (by simpa [cellsOf] using hl.symm)
 |iD n c h=>exact one (.iD n c h) (λ_=>by simp) (by simpa [cellsOf] using hl.symm)
 |iE n c c' h a b d=>exact one (.iE n c c' h a b d) (λ_=>by simp) (by simpa [cellsOf] using hl.symm)
 |At=>exact one .At (λ_=>by simp) (by simpa [cellsOf] using hl.symm)
 |map h=>exact one (.map h) (λ_=>by simp) (by simpa [cellsOf] using hl.symm)
 |chan=>exact one .chan (λ_=>by simp) (by simpa [cellsOf] using hl.symm)
 |func fs kC cs cs' a b c d e=>exact one (.func fs kC cs cs' a b c d e) (λ_=>by simp) (by simpa [cellsOf] using hl.symm)
 |tP h=>exact one (.tP h) (λ_=>by simp) (by simpa [cellsOf] using hl.symm)
 |nilFunc=>exact one .nilFunc (λ_=>by simp) (by simpa [cellsOf] using hl.symm)
 |nilIface=>exact one .nilIface (λ_=>by simp) (by simpa [cellsOf] using hl.symm)
 |iface t h=>exact one (.iface t h) (λ_=>by simp) (by simpa [cellsOf] using hl.symm)
omit [a1] in
theorem Addr.kr (b o i:Nat):(⟨b,o,none⟩:Addr).add i=⟨b,o+i,none⟩:=by
 unfold Go.Addr.add;split
 ·rename_i h;subst h;rfl
 ·rfl
def a6.rR (A:a6) (b off n:Nat):Option (List J):=
 match A.bl.get b with
 |some {obj:= .cells c,..}=>bif Nat.ble (off+n) c.length then some ((c.drop off).take n) else none
 |_=>none
omit [a1] in
theorem Ay {A:a6} {b off n:Nat} {vs:List J} (h:A.rR b off n=some vs):vs.length=n/\∀j,j<n->A.load b (off+j)=some (vs.getD j undef):=by
 unfold a6.rR at h;unfold a6.load;cases al:A.bl.get b with
 |none=>rw[al] at h;cases h
 |some k=>
  rw[al] at h;obtain⟨tS,cP,pos,st,ro,ty⟩:=k;cases tS with
  |map es e4=>cases h
  |gu x=>cases h
  |cells c=>
   simp only at h ⊢;cases af:Nat.ble (off+n) c.length with
   |false=>rw[af] at h;cases h
   |true=>
    rw[af,bD,cN] at h;have hle:=Nat.ble_eq.mp af;subst h;refine⟨by simp;omega,λj hj=> ?_⟩;rw[dp,List.getElem?_take,aY hj,List.getElem?_drop];rw[f_ aj];rfl
theorem EC {φ:b2} {A:a6} {w:ax} (ao:b0 φ A w) (P:aR) {b off n:Nat} {vs:List J} {e:hP} (h:A.rR b off n=some vs) (he:φ b=some e):
  ∃cL:Array J,(loadCells ⟨e.bk,e.sh+off,none⟩ n).run P w= .ok cL w/\cL.size=vs.length/\∀j,j<vs.length->aD φ (vs.getD j undef) (cL.getD j undef):=by
 obtain⟨hl,hj⟩:=Ay h;have Az:∀j,j<n->∃aB,w.cell? ⟨e.bk,e.sh+off+j,none⟩=some aB/\aD φ (vs.getD j undef) aB:=λj u_=>by
  obtain⟨aB,ad,ag⟩:=u6 ao (hj j u_) he;exact⟨aB,by rw[show e.sh+off+j=e.sh+(off+j) by omega];exact ad,ag⟩
 let f:Nat->J:=λj=>(w.cell? ⟨e.bk,e.sh+off+j,none⟩).getD undef
 have aQ:∀j,j<n->w.cell? ((⟨e.bk,e.sh+off,none⟩:Addr).add j)=some (f j):=λj u_=>by
  obtain⟨aB,ad,_⟩:=Az j u_;rw[Addr.kr,ad];simp [f,ad]
 refine⟨_,run_loadCells _ _ n f aQ,by simp [hl],λj u_=> ?_⟩;obtain⟨aB,ad,ag⟩:=Az j aj;have:f j=aB:=by simp [f,ad]
 simp only [fh];simp [show j<n by omega,this];simpa using ag
def a6.q3:a6->Nat->Nat->List J->Option a6
 |A,_,_,[]=>some A
 |A,b,off,v::r=>bif xH v then match A.store b off v with
    |some bC=>bC.q3 b (off+1) r
    |none=>none
  else none
omit [a1] in
theorem run_store {P:aR} {w:ax} {a:Addr} {v u:J} (aC:∀cs,v≠.agg cs/\v≠.tuple cs) (ad:w.cell? a=some u) (ag:w.frozen? a=false):(Go.store a v).run P w= .ok () (w.setCell a v):=by
 unfold Go.store;cases v<;>first|(exfalso;exact(aC _).1 rfl)|(exfalso;exact(aC _).2 rfl)|(simp [Sem.run,ad,ag])
theorem CD {φ:b2} (P:aR) {b:Nat} {e:hP} (he:φ b=some e):∀(vs:List J) (A bh:a6) (w:ax) (off i:Nat) (cL:List J),b0 φ A w->A.q3 b (off+i) vs=some bh->
  cL.length=vs.length->(∀j,j<vs.length->aD φ (vs.getD j undef) (cL.getD j undef))->
  ∃w',(storeCells ⟨e.bk,e.sh+off,none⟩ cL i).run P w= .ok () w'/\cA φ A w φ bh w'
 |[],A,bh,w,off,i,cL,ao,h,hl,aC=>by
  simp only [a6.q3,cN] at h;subst h;have:cL=[]:=by simpa using hl
  subst this;exact⟨w,rfl,cA.refl ao⟩
 |v::r,A,bh,w,off,i,cL,ao,h,hl,aC=>by
  cases cL with
  |nil=>simp at hl
  |cons aB ek=>
   unfold a6.q3 at h;cases ad:AE.xH v with
   |false=>rw[ad] at h;cases h
   |true=>
    rw[ad,bD] at h;cases aw:A.store b (off+i) v with
    |none=>rw[aw] at h;cases h
    |some bC=>
     rw[aw] at h;simp only at h;have CE:aD φ v aB:=by simpa using aC 0 (by simp)
     obtain⟨st,⟨u,hu⟩,zc⟩:=TI ao aw he CE;rw[<-Nat.add_assoc] at st hu zc;obtain⟨w',ED,wG⟩:=CD P he r bC bh _ off (i+1) ek (by rw[Nat.add_assoc] at st;exact st.rel) (by rw[<-Nat.add_assoc];exact h) (by simpa using hl) (λj hj=>by simpa using aC (j+1) (by simpa using hj));refine⟨w',?_,?_⟩
     ·unfold storeCells
      rw[Addr.kr];simp only [Sem.run_bind,run_store (CE.xH ad) hu zc,Result.andThen_ok];rw[Nat.add_assoc];exact ED
     ·exact cA.trans ao (by rw[Nat.add_assoc] at st;exact st) wG
theorem CF {φ:b2} {A bh:a6} {w:ax} (ao:b0 φ A w) (P:aR) {c:List J} {c':Array J} {r st:Nat} (t:aK) (hp:A.push (.cells c) st t=some (r,bh)) (hl:c.length<=c'.size) (aq:st=0->c.length=c'.size)
  (aC:∀j,j<c.length->aD φ (c.getD j undef) (c'.getD j undef)):
  ∃c8 w',(newRow t c').run P w= .ok ⟨w.heap.size,0,none⟩ w'/\c8 r=some ⟨w.heap.size,0,st,c'.size⟩/\cA φ A w c8 bh w'/\w'={w with heap:=w.heap.push (.cells c' t)}:=by
 have TR:=(ao.wf.push hp).2.1;have hmono:∀b e,φ b=some e->hn φ r ⟨w.heap.size,0,st,c'.size⟩ b=some e:=λb e af=>by
  unfold hn;rw[a' (by have:=ao.lt af;omega)];exact af
 refine⟨hn φ r ⟨w.heap.size,0,st,c'.size⟩,{w with heap:=w.heap.push (.cells c' t)},?_,by simp [hn],?_,rfl⟩
 ·simp [newRow,newObj,Sem.run]
 ·refine CB ao hp U U ?_
  simp only [fT];refine⟨c',(0,0),by simp,rfl,by simp;exact⟨hl,aq⟩,λj hj=> ?_,λ_ i _=>by simp⟩;simp only [Nat.zero_add];exact(aC j hj).mono hmono
end AE
namespace AE
variable [a1]
mutual
theorem aD.k6 {φ:b2}:∀(v:J) {aB:J},plain v=true->aD φ v aB->aB=v
 | .bool b,_,_,h=>by cases h;rfl
 | .int k n,_,_,h=>by cases h;rfl
 | .float k b,_,_,h=>by cases h;rfl
 | .string s,_,_,h=>by cases h;rfl
 | .pointer none,_,_,h=>by cases h;rfl
 | .map none,_,_,h=>by cases h;rfl
 | .chan none,_,_,h=>by cases h;rfl
 | .nilFunc,_,_,h=>by cases h;rfl
 | .nilIface,_,_,h=>by cases h;rfl
 | .slice none l c,_,_,h=>by cases h;rfl
 | .func (.func f) ⟨[]⟩ ⟨[]⟩,_,_,h=>by
     cases h with
     |func fs kC cs cs' av ad ag aQ ar=>
      have e1:kC= #[]:=Array.eq_empty_of_size_eq_zero ad.symm;have e2:cs'= #[]:=Array.eq_empty_of_size_eq_zero ag.symm;rw[e1,e2]
 | .iface t v,_,hp,h=>by
     cases h with
     |iface t h=>rw[aD.k6 v (by simpa [plain] using hp) h]
 | .agg ⟨l⟩,_,hp,h=>by
     cases h with
     |agg cs cs' ad ag=>
      obtain⟨l'⟩:=cs';rw[aD.EE l l' (by simpa [plain] using hp) (by simpa using ad) (λi ai=>by simpa using ag i (by simpa using ai))]
 | .tuple ⟨l⟩,_,hp,h=>by
     cases h with
     |tuple cs cs' ad ag=>
      obtain⟨l'⟩:=cs';rw[aD.EE l l' (by simpa [plain] using hp) (by simpa using ad) (λi ai=>by simpa using ag i (by simpa using ai))]
theorem aD.EE {φ:b2}:∀(l l':List J),pn l=true->l.length=l'.length->(∀i,i<l.length->aD φ (l.getD i Go.undef) (l'.getD i Go.undef))->l'=l
 |[],[],_,_,_=>rfl
 |[],_::_,_,h,_=>by simp at h
 |_::_,[],_,h,_=>by simp at h
 |v::r,aB::ek,hp,hl,h=>by
   have ad:=aD.k6 v (by simp [pn] at hp;exact hp.1) (by simpa using h 0 (by simp));have ag:=aD.EE r ek (by simp [pn] at hp;exact hp.2) (by simpa using hl) (λi ai=>by simpa using h (i+1) (by simpa using ai));rw[ad,ag]
end
def b5 {α:Type} (R:b2->α->Prop) (P:aR) (φ:b2) (A:a6) (w:ax) (s:Sem α) (bh:a6):Prop:=
 ∃c8 w' a,s.run P w= .ok a w'/\R c8 a/\cA φ A w c8 bh w'
theorem b5.pure_run {α:Type} {R:b2->α->Prop} {P:aR} {φ:b2} {A:a6} {w:ax} (ao:b0 φ A w) {s:Sem α} {a:α} (h:bg P s=some a) (jA:R φ a):b5 R P φ A w s A:=
 ⟨φ,w,a,jz h w,jA,cA.refl ao⟩
theorem b5.bind {α fc:Type} {R:b2->α->Prop} {S:b2->fc->Prop} {P:aR} {φ:b2} {A bC fU:a6} {w:ax} (ao:b0 φ A w) {s:Sem α} {k:α->Sem fc} (h:b5 R P φ A w s bC)
  (al:∀gM w1 a,b0 gM bC w1->(∀b e,φ b=some e->gM b=some e)->R gM a->b5 S P gM bC w1 (k a) fU):b5 S P φ A w (s >>= k) fU:=by
 obtain⟨gM,w1,a,ad,ag,ay⟩:=h;obtain⟨fm,w2,b,g1,g2,g3⟩:=al gM w1 a ay.rel (ay.ext ao) ag;exact⟨fm,w2,b,by rw[Sem.run_bind,ad];exact g1,g2,cA.trans ao ay g3⟩
theorem b5.map {α fc:Type} {R:b2->α->Prop} {S:b2->fc->Prop} {P:aR} {φ:b2} {A bC:a6} {w:ax} {s:Sem α} {f:α->fc} (h:b5 R P φ A w s bC) (aQ:∀φ a,R φ a->S φ (f a)):b5 S P φ A w (s >>= λa=>pure (f a)) bC:=by
 obtain⟨gM,w1,a,ad,ag,ay⟩:=h;exact⟨gM,w1,f a,by rw[Sem.run_bind,ad];rfl,aQ _ _ ag,ay⟩
theorem b5.pre {α fc:Type} {S:b2->fc->Prop} {P:aR} {φ:b2} {A fU:a6} {w:ax} {s:Sem α} {a:α} {k:α->Sem fc} (h:bg P s=some a) (al:b5 S P φ A w (k a) fU):b5 S P φ A w (s >>= k) fU:=by
 obtain⟨fm,w2,b,g1,g2,g3⟩:=al;exact⟨fm,w2,b,by rw[Sem.run_bind,jz h w];exact g1,g2,g3⟩
theorem b5.ret {α:Type} {R:b2->α->Prop} {P:aR} {φ:b2} {A:a6} {w:ax} (ao:b0 φ A w) {a:α} (jA:R φ a):b5 R P φ A w (pure a) A:=⟨φ,w,a,rfl,jA,cA.refl ao⟩
abbrev hQ (v:J):b2->J->Prop:=λφ aB=>aD φ v aB
abbrev h6 (l:List J):b2->Array J->Prop:=λφ a=>a.size=l.length/\∀j,j<l.length->aD φ (l.getD j undef) (a.getD j undef)
section
variable {P:aR} {φ:b2} {A bh:a6} {w:ax}
theorem TS (ao:b0 φ A w) {b off n:Nat} {vs:List J} {e:hP} (h:A.rR b off n=some vs) (he:φ b=some e):b5 (h6 vs) P φ A w (loadCells ⟨e.bk,e.sh+off,none⟩ n) A:=by
 obtain⟨cL,ad,ag,ay⟩:=EC ao P h he;exact⟨φ,w,cL,ad,⟨ag,ay⟩,cA.refl ao⟩
def CG (P:aR) (A:a6) (t:aK):J->Option J
 | .pointer (some ⟨b,off,none⟩)=>match bg P (isAgg t) with
   |some true=>match bg P (sizeOf t) with
    |some n=>(A.rR b off n).map λl=> .agg ⟨l⟩
    |none=>none
   |some false=>A.load b off
   |none=>none
 |_=>none
theorem acy (ao:b0 φ A w) {t:aK} {p p' v:J} (hp:aD φ p p') (h:CG P A t p=some v):b5 (hQ v) P φ A w (Instr.loadAt t p') A:=by
 unfold CG at h;split at h
 ·rename_i b off
  cases hp with
  |ptr he=>
   unfold Instr.loadAt;refine b5.pre (a:=(⟨_,_,none⟩:Addr)) rfl ?_;unfold loadVar;cases qt:bg P (isAgg t) with
   |none=>rw[qt] at h;cases h
   |some EF=>
    rw[qt] at h;refine b5.pre qt ?_;cases EF with
    |false=>
     simp only at h;obtain⟨aB,ad,ag⟩:=u6 ao h he;refine⟨φ,w,aB,?_,ag,cA.refl ao⟩;simp [Go.load,Sem.run,ad]
    |true=>
     simp only at h;cases cr:bg P (sizeOf t) with
     |none=>rw[cr] at h;cases h
     |some n=>
      rw[cr] at h;simp only at h;obtain⟨l,hl,rfl⟩:=Option.map_eq_some_iff.1 h;simp only [if_true];refine b5.pre cr ?_;refine b5.map (TS ao hl he) λφ a ⟨ad,ag⟩=> ?_
      exact .agg _ _ (by simp [ad]) λi ai=>by simpa using ag i (by simpa using ai)
 ·cases h
def LW (P:aR) (A:a6) (t:aK) (v:J):J->Option a6
 | .pointer (some ⟨b,off,none⟩)=>match cellsOf v,bg P (sizeOf t) with
   |some l,some n=>bif Nat.beq l.length n then A.q3 b off l else none
   |_,_=>none
 |_=>none
theorem acz (ao:b0 φ A w) {t:aK} {b off:Nat} {e:hP} {v aB:J} (he:φ b=some e) (aC:aD φ v aB) {l:List J} {n:Nat} (hl:cellsOf v=some l) (av:bg P (sizeOf t)=some n)
  (aof:l.length=n) (h:A.q3 b off l=some bh):b5 (λ_ _=>True) P φ A w (storeVar t ⟨e.bk,e.sh+off,none⟩ aB) bh:=by
 obtain⟨hq,c2⟩:=aC.cells hl;unfold storeVar;refine b5.pre av ?_;rw[a' aj];obtain⟨w',ad,ag⟩:=CD P he l A bh w off 0 aB.cells.toList ao h (by simpa using hq.symm) (λj hj=>by
  have:=c2 j hj;simp only [fh] at this
  simpa [dp] using this)
 refine⟨φ,w',(),?_,trivial,ag⟩;simpa using ad
theorem acA (ao:b0 φ A w) {t:aK} {p p' v aB:J} (hp:aD φ p p') (aC:aD φ v aB) (h:LW P A t v p=some bh):b5 (λ_ _=>True) P φ A w (Instr.storeAt t p' aB) bh:=by
 unfold LW at h;split at h
 ·rename_i b off
  split at h
  ·rename_i l n hl av
   cases af:Nat.beq l.length n with
   |false=>rw[af] at h;cases h
   |true=>
    rw[af,bD] at h;cases hp with
    |ptr he=>
     unfold Instr.storeAt;refine b5.pre (a:=(⟨_,_,none⟩:Addr)) rfl ?_;exact acz ao he aC hl av (cH af) h
  ·cases h
 ·cases h
def Ik (A:a6) (t:aK) (v:J):Option (J×a6):=
 match cellsOf v with
 |some l=>match A.push (.cells l) 0 t with
  |some (r,bC)=>some (.pointer (some ⟨r,0,none⟩),bC)
  |none=>none
 |none=>none
theorem TT (ao:b0 φ A w) {t:aK} {v aB p:J} (aC:aD φ v aB) (h:Ik A t v=some (p,bh)):b5 (hQ p) P φ A w (do pure (.pointer (some (<-newVar t aB)))) bh:=by
 unfold Ik at h;cases hl:cellsOf v with
 |none=>rw[hl] at h;cases h
 |some l=>
  rw[hl] at h;simp only at h;cases hp:A.push (.cells l) 0 t with
  |none=>rw[hp] at h;cases h
  |some q=>
   obtain⟨r,bC⟩:=q;rw[hp] at h;simp only [cN,Prod.mk.injEq] at h;obtain⟨rfl,rfl⟩:=h;obtain⟨hq,c2⟩:=aC.cells hl;obtain⟨c8,w',ad,ag,ay,_⟩:=CF ao P t hp (Nat.le_of_eq hq) (λ_=>hq) c2;refine⟨c8,w',_,by rw[Sem.run_bind,newVar,ad];rfl,?_,ay⟩;have:=aD.ptr (φ:=c8) (b:=r) (o:=0) ag;simpa using this
def LX (P:aR) (A:a6) (t:aK):Option (J×a6):=
 match bg P (zeroValue t) with
 |some z=>bif plain z then Ik A t z else none
 |none=>none
theorem acB (ao:b0 φ A w) {t:aK} {p old:J} (h:LX P A t=some (p,bh)):b5 (hQ p) P φ A w (Instr.alloc t true old) bh:=by
 unfold LX at h;cases bU:bg P (zeroValue t) with
 |none=>rw[bU] at h;cases h
 |some z=>
  rw[bU] at h;simp only at h;cases hp:plain z with
  |false=>rw[hp] at h;cases h
  |true=>
   rw[hp,bD] at h;unfold Instr.alloc;refine b5.pre bU ?_;exact TT ao (aD.kq φ z hp) h
def EG (P:aR) (s:aK) (f:Nat):J->Option J
 | .pointer (some ⟨b,off,none⟩)=>match bg P (underlying s) with
   |some (.struct fields)=>match fields[f]? with
    |some iv=>match bg P (sizeOf iv.type) with
     |some n=>bif n==0 then none else some (.pointer (some ⟨b,off+iv.offset,none⟩))
     |none=>none
    |none=>none
   |_=>none
 |_=>none
theorem TU {s:aK} {f:Nat} {p p' v:J} (hp:aD φ p p') (h:EG P s f p=some v):∃aB,(∀w,(Instr.fieldAt s p' f).run P w= .ok aB w)/\aD φ v aB:=by
 unfold EG at h;split at h
 ·rename_i b off
  split at h
  ·rename_i fields hu
   split at h
   ·rename_i iv aQ
    split at h
    ·rename_i n av
     cases h0:(n==0) with
     |true=>rw[h0] at h;cases h
     |false=>
      rw[h0,eB,cN] at h;subst h;cases hp with
      |ptr he=>
       rename_i e;refine⟨.pointer (some ⟨e.bk,e.sh+(off+iv.offset),none⟩),λw=> ?_,.ptr he⟩;unfold Instr.fieldAt;have cW:n≠0:=by simpa using h0
       rw[Sem.run_bind,jz hu w];simp only [Result.andThen_ok,aQ];rw[Sem.run_bind];have e1:(Instr.sureAddr (.pointer (some ⟨e.bk,e.sh+off,none⟩))).run P w= .ok ⟨e.bk,e.sh+off,none⟩ w:=rfl;rw[e1];unfold fieldPlace;simp only [Sem.run_bind,jz av w,Result.andThen_ok,a' cW,Addr.kr];rw[Nat.add_assoc];rfl
    ·cases h
   ·cases h
  ·cases h
 ·cases h
theorem acC (ao:b0 φ A w) {s:aK} {f:Nat} {p p' v:J} (hp:aD φ p p') (h:EG P s f p=some v):b5 (hQ v) P φ A w (Instr.fieldAt s p' f) A:=by
 obtain⟨aB,ad,ag⟩:=TU hp h;exact⟨φ,w,aB,ad w,ag,cA.refl ao⟩
def EH (P:aR) (t:aK) (x:J) (i:J):Option J:=
 match i with
 | .int _ i=>match bg P (underlying t),x with
   |some (.array len elem),.pointer (some ⟨b,off,none⟩)=>match bg P (sizeOf elem) with
    |some n=>bif decide (0<=i)&&decide (i<(len:Int)) then some (.pointer (some ⟨b,off+i.toNat*n,none⟩)) else none
    |none=>none
   |some (.slice elem),.slice (some ⟨b,off,none⟩) len _=>match bg P (sizeOf elem) with
    |some n=>bif decide (0<=i)&&decide (i<(len:Int)) then some (.pointer (some ⟨b,off+i.toNat*n,none⟩)) else none
    |none=>none
   |_,_=>none
 |_=>none
theorem TV {t:aK} {x x' i v:J} (aq:aD φ x x') (h:EH P t x i=some v):∃aB,(∀w,(Instr.indexAt t x' i).run P w= .ok aB w)/\aD φ v aB:=by
 unfold EH at h;split at h
 ·rename_i k i
  unfold Instr.indexAt;have e0:∀w,(asIntOf (.int k i)).run P w= .ok (k,i) w:=λw=>rfl
  have e1:∀w,∀a:Addr,(pure a:Sem Addr).run P w= .ok a w:=λ_ _=>rfl
  split at h
  ·rename_i len elem b off hu
   split at h
   ·rename_i n av
    cases af:(decide (0<=i)&&decide (i<(len:Int))) with
    |false=>rw[af] at h;cases h
    |true=>
     rw[af,bD,cN] at h;subst h;have zd:0<=i/\i<(len:Int):=by simpa using af
     cases aq with
     |ptr he=>
      rename_i e;refine⟨.pointer (some ⟨e.bk,e.sh+(off+i.toNat*n),none⟩),λw=> ?_,.ptr he⟩;simp only [Sem.run_bind,e0,jz hu w,Result.andThen_ok,Instr.sureAddr];simp [zd,jz av w,jz hu w,Addr.kr,Nat.add_assoc,e1]
   ·cases h
  ·rename_i elem b off len cap hu
   split at h
   ·rename_i n av
    cases af:(decide (0<=i)&&decide (i<(len:Int))) with
    |false=>rw[af] at h;cases h
    |true=>
     rw[af,bD,cN] at h;subst h;have zd:0<=i/\i<(len:Int):=by simpa using af
     cases aq with
     |iD ga c' he=>
      rename_i e;refine⟨.pointer (some ⟨e.bk,e.sh+(off+i.toNat*n),none⟩),λw=> ?_,.ptr he⟩;simp [e0,zd,jz av w,jz hu w,Addr.kr,Nat.add_assoc]
     |iE ga hq c2 he q1 aH bW=>
      rename_i e;refine⟨.pointer (some ⟨e.bk,e.sh+(off+i.toNat*n),none⟩),λw=> ?_,.ptr he⟩;simp [e0,zd,jz av w,jz hu w,Addr.kr,Nat.add_assoc]
     |iZ=>omega
   ·cases h
  ·cases h
 ·cases h
theorem acD (ao:b0 φ A w) {t:aK} {x x' i v:J} (aq:aD φ x x') (h:EH P t x i=some v):b5 (hQ v) P φ A w (Instr.indexAt t x' i) A:=by
 obtain⟨aB,ad,ag⟩:=TV aq h;exact⟨φ,w,aB,ad w,ag,cA.refl ao⟩
end
end AE
namespace AE
variable [a1]
omit [a1] in
theorem sP {α fc:Type} (P:aR) (s:Sem α) (k:α->Sem fc):bg P (s >>= k)=(bg P s).bind λa=>bg P (k a):=by
 show bg P (s.bind k)=_
 induction s with
 |pure a=>rfl
 |program f cz=>exact cz P
 |mark m s cz=>exact cz
 |_=>rfl
omit [a1] in
theorem EI {α:Type} (P:aR) (a:α):bg P (pure a:Sem α)=some a:=rfl
section
variable {P:aR} {φ:b2} {A bh:a6} {w:ax}
def Il (P:aR) (t:aK) (cs:List J) (off:Nat):Option J:=
 match bg P (isAgg t) with
 |some true=>match bg P (sizeOf t) with
  |some n=>some (.agg ⟨(cs.drop off).take n⟩)
  |none=>none
 |some false=>cs[off]?
 |none=>none
theorem TW (ao:b0 φ A w) {t:aK} {cs:List J} {cs':Array J} {off:Nat} {v:J} (ar:h6 cs φ cs') (h:Il P t cs off=some v):b5 (hQ v) P φ A w (part t cs' off) A:=by
 obtain⟨hl,aC⟩:=ar;unfold Il at h;unfold part;cases qt:bg P (isAgg t) with
 |none=>rw[qt] at h;cases h
 |some EF=>
  rw[qt] at h;refine b5.pre qt ?_;cases EF with
  |false=>
   simp only at h;obtain⟨ck,CE⟩:=List.getElem?_eq_some_iff.1 h;have rS:off<cs'.size:=by omega
   refine⟨φ,w,cs'[off],by simp [rS,pure],?_,cA.refl ao⟩;have:=aC off ck;rw[dp,h] at this;simpa [rS] using this
  |true=>
   simp only at h;cases cr:bg P (sizeOf t) with
   |none=>rw[cr] at h;cases h
   |some n=>
    rw[cr] at h;simp only [cN] at h;subst h;simp only [if_true];refine b5.pre cr (b5.ret ao (.agg _ _ (by simp [hl];omega) λi ai=> ?_));simp at ai;have:=aC (off+i) aj;simp only [fh,dp,Array.getElem?_extract] at this ⊢;rw[aY aj,List.getElem?_toArray,List.getElem?_take,aY aj,List.getElem?_drop];exact this
def LY (P:aR) (s:aK) (x:J) (f:Nat):Option J:=
 match x,bg P (underlying s) with
 | .agg ⟨cs⟩,some (.struct fields)=>match fields[f]? with
   |some iv=>Il P iv.type cs iv.offset
   |none=>none
 |_,_=>none
theorem acE (ao:b0 φ A w) {s:aK} {f:Nat} {x x' v:J} (aq:aD φ x x') (h:LY P s x f=some v):b5 (hQ v) P φ A w (Instr.field s x' f) A:=by
 unfold LY at h;split at h
 ·rename_i cs fields hu
  split at h
  ·rename_i iv aQ
   cases aq with
   |agg EJ cs' ad ag=>
    unfold Instr.field;refine b5.pre hu ?_;simp only [aQ];refine b5.pre (a:=cs') rfl ?_;exact TW ao ⟨by simpa using ad.symm,λj hj=>by simpa using ag j (by simpa using hj)⟩ h
  ·cases h
 ·cases h
def LZ (P:aR) (t:aK) (x i:J):Option J:=
 match x,i,bg P (underlying t) with
 | .agg ⟨cs⟩,.int _ i,some (.array len elem)=>match bg P (sizeOf elem) with
   |some n=>bif decide (0<=i)&&decide (i<(len:Int)) then Il P elem cs (i.toNat*n) else none
   |none=>none
 |_,_,_=>none
theorem acF (ao:b0 φ A w) {t:aK} {x x' i v:J} (aq:aD φ x x') (h:LZ P t x i=some v):b5 (hQ v) P φ A w (Instr.index t x' i) A:=by
 unfold LZ at h;split at h
 ·rename_i cs k i len elem hu
  split at h
  ·rename_i n av
   cases af:(decide (0<=i)&&decide (i<(len:Int))) with
   |false=>rw[af] at h;cases h
   |true=>
    rw[af,bD] at h;have zd:0<=i/\i<(len:Int):=by simpa using af
    cases aq with
    |agg EJ cs' ad ag=>
     unfold Instr.index;refine b5.pre (a:=(k,i)) rfl ?_;simp only;refine b5.pre hu ?_;simp only [aY zd];refine b5.pre av ?_;exact TW ao ⟨by simpa using ad.symm,λj hj=>by simpa using ag j (by simpa using hj)⟩ h
  ·cases h
 ·cases h
def EK:J->Nat->Option J
 | .tuple ⟨cs⟩,i=>cs[i]?
 |_,_=>none
theorem acG (ao:b0 φ A w) {x x' v:J} {i:Nat} (aq:aD φ x x') (h:EK x i=some v):b5 (hQ v) P φ A w (Instr.extract x' i) A:=by
 unfold EK at h;split at h
 ·rename_i cs
  cases aq with
  |tuple EJ cs' ad ag=>
   obtain⟨ck,_⟩:=List.getElem?_eq_some_iff.1 h;have TX:cs.length=cs'.size:=by simpa using ad
   have rS:i<cs'.size:=by omega
   refine⟨φ,w,cs'[i],by simp [Instr.extract,rS,pure],?_,cA.refl ao⟩;have:=ag i (by simpa using ck);simp only [fh,List.getElem?_toArray,h,Option.getD_some] at this;simpa [rS] using this
 ·cases h
theorem TY (off:Nat):∀(l l':List J) (k:Nat) (c c':Array J),l.length=l'.length->(∀j,j<l.length->aD φ (l.getD j undef) (l'.getD j undef))->c.size=c'.size->(∀j,j<c.size->aD φ (c.getD j undef) (c'.getD j undef))->
  ((l.zipIdx k).foldl (λcs (x:J×Nat)=>cs.setIfInBounds (off+x.2) x.1) c).size=((l'.zipIdx k).foldl (λcs (x:J×Nat)=>cs.setIfInBounds (off+x.2) x.1) c').size/\
  ∀j,j<((l.zipIdx k).foldl (λcs (x:J×Nat)=>cs.setIfInBounds (off+x.2) x.1) c).size->aD φ (((l.zipIdx k).foldl (λcs (x:J×Nat)=>cs.setIfInBounds (off+x.2) x.1) c).getD j undef) (((l'.zipIdx k).foldl (λcs (x:J×Nat)=>cs.setIfInBounds (off+x.2) x.1) c').getD j undef)
 |[],[],_,c,c',_,_,ad,ag=>⟨ad,ag⟩
 |[],_::_,_,_,_,h,_,_,_=>by simp at h
 |_::_,[],_,_,_,h,_,_,_=>by simp at h
 |v::r,aB::ek,k,c,c',hl,aC,ad,ag=>by
  simp only [List.zipIdx_cons,List.foldl_cons];refine TY off r ek (k+1) _ _ (by simpa using hl) (λj hj=>by simpa using aC (j+1) (by simpa using hj)) (by simpa using ad) λj hj=> ?_
  have h0:aD φ v aB:=by simpa using aC 0 (by simp)
  simp only [Array.size_setIfInBounds] at hj;have:=ag j hj;simp only [fh,Array.getElem?_setIfInBounds] at this ⊢;by_cases al:off+k=j
  ·rw[aY al,aY al,aY aj,aY aj]
   exact h0
  ·rw[a' al,a' al]
   exact this
omit [a1] in
theorem TZ {v:J} {l:List J} (h:cellsOf v=some l):v.cells=⟨l⟩:=by
 cases v<;>simp_all [cellsOf,Value.cells]
 case complex k re aog=>cases k<;>simp_all
 case agg cs=>obtain⟨cs⟩:=cs;simp at h;rw[h]
def T0 (φ:b2) (p p':Nat×J):Prop:=p.1=p'.1/\(cellsOf p.2).isSome=true/\aD φ p.2 p'.2
theorem L0 (place:Nat->Option (Nat×Nat)):∀(ps L1:List (Nat×J)) (c c' out:Array J),ps.length=L1.length->(∀(j:Nat) (a b:Nat×J),ps[j]? =some a->L1[j]? =some b->T0 φ a b)->c.size=c'.size->(∀j,j<c.size->aD φ (c.getD j undef) (c'.getD j undef))->
  Instr.fill place c ps=some out->∃tW,Instr.fill place c' L1=some tW/\out.size=tW.size/\∀j,j<out.size->aD φ (out.getD j undef) (tW.getD j undef)
 |[],[],c,c',out,_,_,ad,ag,h=>by
  simp only [Instr.fill,cN] at h;subst h;exact⟨c',rfl,ad,ag⟩
 |[],_::_,_,_,_,h,_,_,_,_=>by simp at h
 |_::_,[],_,_,_,h,_,_,_,_=>by simp at h
 |(i,v)::r,(tX,aB)::ek,c,c',out,hl,hp,ad,ag,h=>by
  obtain⟨e1,e2,e3⟩:=hp 0 _ _ U U;simp only at e1 e2 e3;subst e1;obtain⟨l,nT⟩:=Option.isSome_iff_exists.1 e2;obtain⟨hq,c2⟩:=e3.cells nT;have EL:v.cells=⟨l⟩:=TZ nT;unfold Instr.fill at h ⊢;cases fB:place i with
  |none=>rw[fB] at h;cases h
  |some os=>
   obtain⟨off,size⟩:=os;rw[fB] at h;simp only at h ⊢;have fV:v.cells.size=aB.cells.size:=by rw[EL];simpa using hq
   split at h
   ·cases h
   ·rename_i av
    rw[a' (by rw[<-fV,<-ad];exact av)];have key:=TY (φ:=φ) off l aB.cells.toList 0 c c' (by simpa using hq) (λj hj=>by simpa [fh,dp] using c2 j hj) ad ag;refine L0 place r ek _ _ out (by simpa using hl) (λj a b ha af=>hp (j+1) a b (by simpa using ha) (by simpa using af)) ?_ ?_ h
    ·rw[EL,<-Array.foldl_toList,<-Array.foldl_toList,Array.toList_zipIdx,Array.toList_zipIdx]
     exact key.1
    ·rw[EL,<-Array.foldl_toList,<-Array.foldl_toList,Array.toList_zipIdx,Array.toList_zipIdx]
     exact key.2
def EM (ps:Array (Nat×J)):Bool:=ps.toList.all λp=>(cellsOf p.2).isSome
theorem T1 {ps:Array (Nat×Operand)} {ρ ρ':Operand->J} (cZ:∀p∈ps,aD φ (ρ p.2) (ρ' p.2)) (hI:EM (ps.map λ(i,x)=>(i,ρ x))=true):
  ∀(j:Nat) (a b:Nat×J),((ps.map λ(i,x)=>(i,ρ x)).toList)[j]? =some a->((ps.map λ(i,x)=>(i,ρ' x)).toList)[j]? =some b->T0 φ a b:=by
 intro j a b ha af;have mQ:=List.mem_of_getElem? ha;simp only [Array.toList_map,List.getElem?_map,xD] at ha af;obtain⟨p,hp,rfl⟩:=ha;obtain⟨p',CH,rfl⟩:=af;rw[hp] at CH;cases CH;refine⟨rfl,?_,cZ p (by simpa using List.mem_of_getElem? hp)⟩;exact List.all_eq_true.1 hI _ mQ
def L2 (P:aR) (t:aK) (parts:Array (Nat×J)):Option J:=
 bif EM parts then
  match bg P (zeroValue t) with
  |some z=>bif plain z&&(cellsOf z).isSome then
    match bg P (underlying t) with
    |some (.struct fields)=>match bg P (fields.mapM λf=>do pure (f.offset,<-sizeOf f.type)) with
     |some T2=>(Instr.fill (T2[·]?) z.cells parts.toList).map .agg
     |none=>none
    |some (.array _ elem)=>match bg P (sizeOf elem) with
     |some size=>(Instr.fill (λi=>some (i*size,size)) z.cells parts.toList).map .agg
     |none=>none
    |_=>none
   else none
  |none=>none
 else none
theorem Im {z:J} (h:plain z=true) (ar:(cellsOf z).isSome=true) (φ:b2):∀j,j<z.cells.size->aD φ (z.cells.getD j undef) (z.cells.getD j undef):=by
 obtain⟨l,hl⟩:=Option.isSome_iff_exists.1 ar;obtain⟨ad,ag⟩:=(aD.kq φ z h).cells hl;intro j hj;have EL:z.cells=⟨l⟩:=TZ hl;have:=ag j aj;simp only [EL] at this ⊢;simpa [fh,dp] using this
theorem acH (ao:b0 φ A w) {t:aK} {ps:Array (Nat×Operand)} {ρ ρ':Operand->J} {v:J} (cZ:∀p∈ps,aD φ (ρ p.2) (ρ' p.2)) (h:L2 P t (ps.map λ(i,x)=>(i,ρ x))=some v):
  b5 (hQ v) P φ A w (Instr.build t (ps.map λ(i,x)=>(i,ρ' x))) A:=by
 unfold L2 at h;cases hI:EM (ps.map λ(i,x)=>(i,ρ x)) with
 |false=>rw[hI] at h;cases h
 |true=>
  rw[hI,bD] at h;have L3:=T1 cZ hI;cases bU:bg P (zeroValue t) with
  |none=>rw[bU] at h;cases h
  |some z=>
   rw[bU] at h;simp only at h;cases lu:(plain z&&(cellsOf z).isSome) with
   |false=>rw[lu] at h;cases h
   |true=>
    rw[lu,bD] at h;simp only [c7] at lu;have qu:=Im lu.1 lu.2 φ;unfold Instr.build;refine b5.pre bU ?_;simp only;have fW:∀(place:Nat->Option (Nat×Nat)),(Instr.fill place z.cells (ps.map λ(i,x)=>(i,ρ x)).toList).map Value.agg=some v->
      ∃tW,Instr.fill place z.cells (ps.map λ(i,x)=>(i,ρ' x)).toList=some tW/\aD φ v (.agg tW):=by
     intro place aQ;obtain⟨out,ho,rfl⟩:=Option.map_eq_some_iff.1 aQ;obtain⟨tW,g1,g2,g3⟩:=L0 place _ _ _ _ out (by simp) L3 rfl qu ho;exact⟨tW,g1,.agg _ _ g2 g3⟩
    split at h
    ·rename_i fields hu
     refine b5.pre hu ?_;simp only;split at h
     ·rename_i T2 fB
      refine b5.pre fB ?_;obtain⟨tW,g1,g2⟩:=fW _ h;simp only [g1];exact b5.ret ao g2
     ·cases h
    ·rename_i n elem hu
     refine b5.pre hu ?_;simp only;split at h
     ·rename_i size cr
      refine b5.pre cr ?_;obtain⟨tW,g1,g2⟩:=fW _ h;simp only [g1];exact b5.ret ao g2
     ·cases h
    ·cases h
def L4 (P:aR) (A:a6) (t:aK) (len:Nat) (parts:Array (Nat×J)):Option (J×a6):=
 bif EM parts then
  match bg P (underlying t) with
  |some (.slice elem)=>match bg P (sizeOf elem) with
   |some size=>bif Nat.blt 0 (len*size)&&Nat.ble (len*size) 16777216 then
     match bg P (zeroValue elem) with
     |some z=>bif plain z&&(cellsOf z).isSome&&Nat.blt 0 z.cells.size then
       match Instr.fill (λi=>some (i*size,size)) ((Array.range (len*size)).map (z.cells[· %z.cells.size]!)) parts.toList with
       |some out=>match A.push (.cells out.toList) 0 elem with
        |some (r,bC)=>some (.slice (some ⟨r,0,none⟩) len len,bC)
        |none=>none
       |none=>none
      else none
     |none=>none
    else none
   |none=>none
  |_=>none
 else none
theorem acI (ao:b0 φ A w) {t:aK} {len:Nat} {ps:Array (Nat×Operand)} {ρ ρ':Operand->J} {v:J} (cZ:∀p∈ps,aD φ (ρ p.2) (ρ' p.2)) (h:L4 P A t len (ps.map λ(i,x)=>(i,ρ x))=some (v,bh)):
  b5 (hQ v) P φ A w (Instr.buildSlice t len (ps.map λ(i,x)=>(i,ρ' x))) bh:=by
 unfold L4 at h;cases hI:EM (ps.map λ(i,x)=>(i,ρ x)) with
 |false=>rw[hI] at h;cases h
 |true=>
  rw[hI,bD] at h;have L3:=T1 cZ hI;split at h
  ·rename_i elem hu
   split at h
   ·rename_i size cr
    cases af:(Nat.blt 0 (len*size)&&Nat.ble (len*size) 16777216) with
    |false=>rw[af] at h;cases h
    |true=>
     rw[af,bD] at h;simp only [c7] at af;have l_:=Nat.blt_eq.mp af.1;have jH:=Nat.ble_eq.mp af.2;split at h
     ·rename_i z bU
      cases lu:(plain z&&(cellsOf z).isSome&&Nat.blt 0 z.cells.size) with
      |false=>rw[lu] at h;cases h
      |true=>
       rw[lu,bD] at h;simp only [c7] at lu;have rT:=Nat.blt_eq.mp lu.2;have qu:=Im lu.1.1 lu.1.2 φ;split at h
       ·rename_i out ho
        split at h
        ·rename_i r bC hp
         simp only [cN,Prod.mk.injEq] at h;obtain⟨rfl,rfl⟩:=h;unfold Instr.buildSlice;refine b5.pre hu ?_;simp only;refine b5.pre cr ?_;rw[a' aj];rw[a' aj];have xI:∀j,j<((Array.range (len*size)).map (z.cells[· %z.cells.size]!)).size->aD φ (((Array.range (len*size)).map (z.cells[· %z.cells.size]!)).getD j undef) (((Array.range (len*size)).map (z.cells[· %z.cells.size]!)).getD j undef):=by
          intro j hj;simp at hj;have hm:=Nat.mod_lt j rT;have:=qu (j%z.cells.size) hm;simp only [fh] at this ⊢;simpa [hj,hm,getElem!_pos] using this
         obtain⟨tW,g1,g2,g3⟩:=L0 (φ:=φ) (λi=>some (i*size,size)) _ _ _ _ out (by simp) L3 rfl xI ho;refine b5.pre bU ?_;refine b5.pre (a:=z.cells) rfl ?_;simp only [g1];obtain⟨c8,w',q1,aH,bW,_⟩:=CF ao P elem hp (c':=tW) (by simpa using Nat.le_of_eq g2) (λ_=>by simpa using g2) (λj hj=>by
          have:=g3 j (by simpa using hj);simp only [fh] at this
          simpa [dp] using this)
         refine⟨c8,w',.slice (some ⟨w.heap.size,0,none⟩) len len,by rw[Sem.run_bind,q1];rfl,?_,bW⟩;have:=aD.iD (φ:=c8) (b:=r) (o:=0) len len aH;simpa using this
        ·cases h
       ·cases h
     ·cases h
   ·cases h
  ·cases h
def L5 (P:aR) (A:a6) (t:aK):Option (J×a6):=
 match bg P (underlying t) with
 |some (.slice elem)=>match bg P (sizeOf elem) with
  |some _=>match A.push (.cells []) 0 elem with
   |some (r,bC)=>some (.slice (some ⟨r,0,none⟩) 0 0,bC)
   |none=>none
  |none=>none
 |_=>none
theorem acJ (ao:b0 φ A w) {t:aK} {v:J} (h:L5 P A t=some (v,bh)):b5 (hQ v) P φ A w (Instr.buildSlice t 0 #[]) bh:=by
 unfold L5 at h;split at h
 ·rename_i elem hu
  split at h
  ·rename_i size cr
   split at h
   ·rename_i r bC hp
    simp only [cN,Prod.mk.injEq] at h;obtain⟨rfl,rfl⟩:=h;unfold Instr.buildSlice;refine b5.pre hu ?_;simp only;refine b5.pre cr ?_;rw[a' aj,aY aj];refine b5.pre (a:=(#[]:Array J)) rfl ?_;obtain⟨c8,w',q1,aH,bW,_⟩:=CF ao P (c':= #[]) elem hp (by simp) (λ_=>by simp) (λj hj=>by simp at hj);have e:((Array.range (0*size)).map ((#[]:Array J)[· %(#[]:Array J).size]!))= #[]:=by simp
    rw[e];simp only [Instr.fill];refine⟨c8,w',.slice (some ⟨w.heap.size,0,none⟩) 0 0,by rw[Sem.run_bind,q1];rfl,?_,bW⟩;have:=aD.iD (φ:=c8) (b:=r) (o:=0) 0 0 aH;simpa using this
   ·cases h
  ·cases h
 ·cases h
end
end AE
namespace AE
variable [a1]
def a6.Io (A:a6) (b pos st:Nat) (ty:aK) (c:List J):Option (Nat×a6):=
 match A.bl.get b with
 |some k=>match k.obj,A.mem.get k.cP with
  | .cells _,some l=>bif k.ro||bne k.ty ty then none else
    match bV.set {obj:= .cells c,cP:=k.cP,pos:=pos,eN:=st,ro:=false,ty:=ty:h4} depth A.bl A.n,bV.set (A.n::l) depth A.mem k.cP with
    |some bl,some mem=>some (A.n,{bl,mem,n:=A.n+1,low:=l.foldl Nat.min A.low})
    |_,_=>none
  |_,_=>none
 |none=>none
omit [a1] in
theorem L6 {A bh:a6} {b pos st:Nat} {ty:aK} {c:List J} {r:Nat} (h:A.Io b pos st ty c=some (r,bh)) (u5:Au A):
  ∃k dC l,A.bl.get b=some k/\k.obj= .cells dC/\k.ro=false/\k.ty=ty/\A.mem.get k.cP=some l/\r=A.n/\Au bh/\bh.n=A.n+1/\bh.low<=A.low/\(∀m∈l,bh.low<=m)/\
   (∀j,bh.bl.get j=if j=A.n then some {obj:= .cells c,cP:=k.cP,pos:=pos,eN:=st,ro:=false,ty:=ty} else A.bl.get j):=by
 unfold a6.Io at h;cases al:A.bl.get b with
 |none=>rw[al] at h;cases h
 |some k=>
  rw[al] at h;obtain⟨tS,cP,aoh,aoi,ro,acK⟩:=k;simp only at h;cases tS with
  |map es e4=>cases h
  |gu x=>cases h
  |cells dC=>
   cases hm:A.mem.get cP with
   |none=>rw[hm] at h;cases h
   |some l=>
    rw[hm] at h;simp only at h;cases ar:(ro||bne acK ty) with
    |true=>rw[ar] at h;cases h
    |false=>
     rw[ar,eB] at h;simp only [Bool.or_eq_false_iff,bne_eq_false_iff_eq] at ar;obtain⟨rfl,rfl⟩:=ar;split at h
     ·rename_i bl mem af sN
      simp only [cN,Prod.mk.injEq] at h;obtain⟨rfl,rfl⟩:=h;have u4:=λb=>bV.ob _ _ _ _ _ b af
      have CA:=λb=>bV.ob _ _ _ _ _ b sN
      obtain⟨f1,f2⟩:=Ie l A.low;have oc:=u5.tQ b _ al;refine⟨_,dC,l,rfl,rfl,rfl,rfl,hm,rfl,⟨?_,?_,?_,?_⟩,rfl,f1,f2,u4⟩
      ·intro j cm hj
       simp only at hj ⊢;rw[u4] at hj;split at hj
       ·omega
       ·have:=u5.lt j cm hj;omega
      ·intro j cm hj
       simp only at hj ⊢ oc;rw[u4] at hj;split at hj
       ·cases hj;simp only;omega
       ·have:=u5.tQ j cm hj;omega
      ·intro j cm hj
       simp only at hj ⊢;rw[u4] at hj;split at hj
       ·rename_i u_
        cases hj;exact⟨_,by rw[CA,aY rfl],by simp [u_]⟩
       ·obtain⟨l',fL,kE⟩:=u5.mem j cm hj
        by_cases aQ:cm.cP=cP
        ·rw[aQ,hm] at fL
         cases fL;exact⟨_,by rw[CA,aY aQ],List.mem_cons_of_mem _ kE⟩
        ·exact⟨l',by rw[CA,a' aQ];exact fL,kE⟩
      ·intro j cm fM dS hj gY aQ
       simp only at hj gY;rw[u4] at hj gY;split at hj
       ·cases hj
        split at gY
        ·cases gY;rfl
        ·have:=u5.u2 b _ fM dS al gY aQ
         exact this
       ·split at gY
        ·cases gY
         have:=u5.u2 j cm b _ hj al aQ;exact this
        ·exact u5.u2 j cm fM dS hj gY aQ
     ·cases h
theorem T3 {φ:b2} {A bh:a6} {w w':ax} (ao:b0 φ A w) {b pos st:Nat} {ty:aK} {c:List J} {r:Nat} {e:hP} (h:A.Io b pos st ty c=some (r,bh)) (c1:e.eN=st)
  (hw:(e.bk=w.heap.size/\∃o,w'={w with heap:=w.heap.push o})\/(w'=w/\∃e0 k,φ b=some e0/\A.bl.get b=some k/\e.bk=e0.bk/\e.sh+k.pos=e0.sh+pos))
  (ho:∀k,A.bl.get b=some k->fT (hn φ r e) w' e {obj:= .cells c,cP:=k.cP,pos:=pos,eN:=st,ro:=false,ty:=ty}):
  cA φ A w (hn φ r e) bh w':=by
 obtain⟨k,dC,l,al,fK,dK,hty,mQ,rfl,u5,av,mP,Ig,gO⟩:=L6 h ao.wf;have ho:=ho k al;have hold:∀b e1,φ b=some e1->hn φ A.n e b=some e1:=λb e1 af=>by
  unfold hn;rw[a' (by have:=ao.lt af;omega)];exact af
 have rO:∀i,i<w.heap.size->w'.heap[i]? =w.heap[i]? :=λi ai=>by
  rcases hw with ⟨_,o,rfl⟩|⟨rfl,_⟩
  ·show (w.heap.push o)[i]? =_
   rw[Array.getElem?_push,a' aj]
  ·rfl
 have cr:w.heap.size<=w'.heap.size:=by
  rcases hw with ⟨_,o,rfl⟩|⟨rfl,_⟩
  ·simp
  ·exact cj _
 have wH:w'.os=w.os/\w'.tape=w.tape/\w'.output=w.output:=by
  rcases hw with ⟨_,o,rfl⟩|⟨rfl,_⟩<;>exact⟨rfl,rfl,rfl⟩
 have mx:∀j e1,hn φ A.n e j=some e1->(j=A.n/\e1=e)\/(j≠A.n/\φ j=some e1):=λj e1 af=>by
  unfold hn at af;split at af
  ·rename_i h;cases af;exact .inl ⟨h,rfl⟩
  ·rename_i h;exact .inr ⟨h,af⟩
 have tR:b∈l:=by
  obtain⟨l',fL,ef⟩:=ao.wf.mem b k al;rw[mQ] at fL;cases fL;exact ef
 have tY:∀j gi cm,φ j=some gi->A.bl.get j=some cm->(k.cP≠cm.cP->e.bk≠gi.bk)/\(k.cP=cm.cP->e.bk=gi.bk->e.sh+cm.pos=gi.sh+pos):=by
  intro j gi cm hj hZ;rcases hw with ⟨he,_⟩|⟨_,e0,k',ze,dB,jR,tU⟩
  ·obtain⟨_,_,_,ag⟩:=ao.eC j gi hj
   have:=ag.lt;exact⟨λ_=>by omega,λ_ _=>by omega⟩
  ·rw[al] at dB;cases dB
   refine⟨λcW=> ?_,λaQ af=> ?_⟩
   ·rw[jR];exact ao.apart b e0 k j gi cm ze hj al hZ cW
   ·have:=ao.along b e0 k j gi cm ze hj al hZ aQ (by rw[<-jR];exact af)
    omega
 refine {rel:=⟨u5,?_,?_,?_,λi o ai=>by
   obtain⟨ad,ag⟩:=ao.dq i o ai;have ck:i<w.heap.size:=(Array.getElem?_eq_some_iff.1 ad).1;refine⟨by rw[rO i ck];exact ad,λj e1 hj=> ?_⟩;rcases mx j e1 hj with ⟨rfl,rfl⟩|⟨_,hj⟩
   ·rcases hw with ⟨he,_⟩|⟨_,e0,k',ze,dB,jR,tU⟩
    ·omega
    ·rw[jR];exact ag b e0 ze
   ·exact ag j e1 hj⟩,eC:= ?_,rN:= ?_,new:= ?_,qp:=by omega,low:=mP,same:= ?_,ro:= ?_,keep:= ?_,gL:=cr,os:=wH.1,tape:=wH.2.1,output:=wH.2.2,drawn:=cj _}
 ·intro j e1 af
  rcases mx j e1 af with ⟨rfl,rfl⟩|⟨cW,af⟩
  ·exact⟨_,by rw[gO,aY rfl],c1,ho⟩
  ·obtain⟨cm,hZ,ad,ag⟩:=ao.eC j e1 af
   exact⟨cm,by rw[gO,a' cW];exact hZ,ad,ag.mono hold (rO _ ag.lt)⟩
 ·intro j e1 cm fM oS dS af ef nA oT cW
  rw[gO] at nA oT;rcases mx j e1 af with ⟨rfl,rfl⟩|⟨h5,sM⟩
  ·rcases mx fM oS ef with ⟨rfl,rfl⟩|⟨l8,q0⟩
   ·rw[aY rfl] at nA oT;cases nA;cases oT;exact absurd rfl cW
   ·rw[aY rfl] at nA;rw[a' l8] at oT;cases nA
    exact(tY fM oS dS q0 oT).1 cW
  ·rcases mx fM oS ef with ⟨rfl,rfl⟩|⟨l8,q0⟩
   ·rw[aY rfl] at oT;rw[a' h5] at nA;cases oT
    exact Ne.symm ((tY j e1 cm sM nA).1 (Ne.symm cW))
   ·rw[a' h5] at nA;rw[a' l8] at oT
    exact ao.apart j e1 cm fM oS dS sM q0 nA oT cW
 ·intro j e1 cm fM oS dS af ef nA oT oc jR
  rw[gO] at nA oT;rcases mx j e1 af with ⟨rfl,rfl⟩|⟨h5,sM⟩
  ·rcases mx fM oS ef with ⟨rfl,rfl⟩|⟨l8,q0⟩
   ·rw[aY rfl] at nA oT;cases nA;cases oT;rfl
   ·rw[aY rfl] at nA;rw[a' l8] at oT;cases nA
    exact(tY fM oS dS q0 oT).2 oc jR
  ·rcases mx fM oS ef with ⟨rfl,rfl⟩|⟨l8,q0⟩
   ·rw[aY rfl] at oT;rw[a' h5] at nA;cases oT
    exact((tY j e1 cm sM nA).2 oc.symm jR.symm).symm
   ·rw[a' h5] at nA;rw[a' l8] at oT
    exact ao.along j e1 cm fM oS dS sM q0 nA oT oc jR
 ·intro j hj
  unfold hn;rw[a' aj]
 ·intro j ad ag
  have:j=A.n:=by omega
  subst this;simp [hn]
 ·intro j e1 ad af
  rcases mx j e1 af with ⟨rfl,rfl⟩|⟨h5,af⟩
  ·rcases hw with ⟨he,_⟩|⟨_,e0,k',ze,dB,jR,tU⟩
   ·exact .inl aj
   ·exact .inr ⟨b,e0,k,ze,jR.symm,Ig b tR,al,dK⟩
  ·exact absurd (ao.lt af) aj
 ·intro j hj _
  rw[gO,a' aj]
 ·intro j cm hZ _
  rw[gO,a' (by have:=ao.wf.lt j cm hZ;omega)];exact hZ
 ·intro i ai _
  exact rO i ai
theorem acL {φ:b2} {A bh:a6} {w:ax} (ao:b0 φ A w) {b off:Nat} {v aB:J} {e:hP} (h:A.store b off v=some bh) (he:φ b=some e) (aC:aD φ v aB) (ar:w.cell? ⟨e.bk,e.sh+off,none⟩=some aB):
  cA φ A w φ bh w:=by
 obtain⟨st,_,_⟩:=TI ao h he aC;have:w.setCell ⟨e.bk,e.sh+off,none⟩ aB=w:=by
  unfold World.setCell;have:w.heap.modify e.bk (λ
   | .cells c elem frozen=> .cells (if (none:Option Nat).isSome then c else c.setIfInBounds (e.sh+off) aB) elem frozen
   |o=>o)=w.heap:=by
   apply Array.ext_getElem?;intro i;rw[Array.getElem?_modify];split
   ·rename_i ai
    subst ai;cases ah:w.heap[e.bk]? with
    |none=>rfl
    |some o=>
     cases o<;>try rfl
     rename_i c t fr;simp only [Option.map_some,Option.isSome_none,Bool.false_eq_true,if_false,cN,Obj.cells.injEq,and_true];simp only [World.cell?,ah,Option.isSome_none,Bool.false_eq_true,if_false] at ar;apply Array.ext_getElem?;intro j;rw[Array.getElem?_setIfInBounds];split
     ·rename_i hj;subst hj
      obtain⟨ck,_⟩:=Array.getElem?_eq_some_iff.1 ar;rw[aY ck,ar]
     ·rfl
   ·rfl
  exact congrArg (λh=>{w with heap:=h}) this
 rw[this] at st;exact st
theorem T4 {φ:b2} {b:Nat} {e:hP} (he:φ b=some e) {w:ax}:∀(vs:List J) (A bh:a6) (off:Nat),b0 φ A w->A.q3 b off vs=some bh->
  (∀j,j<vs.length->∃aB,w.cell? ⟨e.bk,e.sh+(off+j),none⟩=some aB/\aD φ (vs.getD j undef) aB)->cA φ A w φ bh w
 |[],A,bh,off,ao,h,_=>by
  simp only [a6.q3,cN] at h;subst h;exact cA.refl ao
 |v::r,A,bh,off,ao,h,aC=>by
  unfold a6.q3 at h;cases ad:AE.xH v with
  |false=>rw[ad] at h;cases h
  |true=>
   rw[ad,bD] at h;cases aw:A.store b off v with
   |none=>rw[aw] at h;cases h
   |some bC=>
    rw[aw] at h;simp only at h;obtain⟨aB,g1,g2⟩:=aC 0 (by simp);have st:=acL ao aw he (by simpa using g2) (by simpa using g1);exact cA.trans ao st (T4 he r bC bh (off+1) st.rel h λj hj=>by
     obtain⟨acM,q1,aH⟩:=aC (j+1) (by simpa using hj)
     exact⟨acM,by rw[show off+1+j=off+(j+1) by omega];exact q1,by simpa using aH⟩)
end AE
namespace AE
variable [a1]
omit [a1] in
theorem T5 (T6:Nat):∀(r c:Nat),Builtin.growBy T6 r c<=(c+768)*2^r
 |0,c=>by simp [Builtin.growBy]
 |r+1,c=>by
  unfold Builtin.growBy;split
  ·have:1<=2^(r+1):=Nat.one_le_two_pow
   calc c<=c+768:=by omega
    _=(c+768)*1:=by omega
    _<=(c+768)*2^(r+1):=Nat.mul_le_mul_left _ this
  ·have h:=T5 T6 r (c+(c+768)/4)
   calc _<=(c+(c+768)/4+768)*2^r:=h
    _<=((c+768)*2)*2^r:=Nat.mul_le_mul_right _ aj
    _=(c+768)*2^(r+1):=by rw[Nat.pow_succ,Nat.mul_assoc,Nat.mul_comm 2]
omit [a1] in
theorem acN {need c:Nat} (h:c<need) (av:need<=1048576):Builtin.nextslicecap need c<=33554432:=by
 unfold Builtin.nextslicecap;split
 ·omega
 ·split
  ·omega
  ·have bG:=T5 need 4 c
   have acO:(c+768)*2^4<=33554432:=by
    rw[show (2:Nat)^4=16 from rfl];omega
   exact Nat.le_trans bG acO
omit [a1] in
theorem T7 (z:Array J) (n:Nat):(Builtin.zeroCells z n).size=n*z.size:=by simp [Builtin.zeroCells]
section
variable {P:aR} {φ:b2} {A bh:a6} {w:ax}
omit [a1] in
theorem T8 (a:Addr) (n:Nat) {v:Array J} (h:(loadCells a n).run P w= .ok v w) (d:Nat) (ar:∀j,j<n->∃u,w.cell? (a.add j)=some u):(loadCells a n).run P {w with drawn:=d}= .ok v {w with drawn:=d}:=by
 let f:Nat->J:=λj=>(w.cell? (a.add j)).getD undef
 have aQ:∀j,j<n->w.cell? (a.add j)=some (f j):=λj hj=>by
  obtain⟨u,hu⟩:=ar j hj;simp [f,hu]
 have ad:=run_loadCells (P:=P) w a n f aQ;rw[h] at ad;have ag:=run_loadCells (P:=P) {w with drawn:=d} a n f aQ;rw[ag];injection ad with ad;rw[ad]
def Ip (A:a6) (a_:Nat):J->Option (Nat×List J)
 | .slice (some ⟨b,off,none⟩) n _=>(A.rR b off (n*a_)).map λl=>(n,l)
 | .slice none 0 0=>some (0,[])
 | .string s=>bif a_==1 then some (s.size,s.data.toList.map λb=> .int .u8 b.toNat) else none
 |_=>none
theorem acP (ao:b0 φ A w) {a_ n:Nat} {x x':J} {l:List J} (aq:aD φ x x') (h:Ip A a_ x=some (n,l)):
  l.length=n*a_/\∃kt:Array J,kt.size=l.length/\(∀j,j<l.length->aD φ (l.getD j undef) (kt.getD j undef))/\
    (∀d,(Builtin.lenOf x').run P {w with drawn:=d}= .ok n {w with drawn:=d})/\∀d,(Builtin.firstCells a_ n x').run P {w with drawn:=d}= .ok kt {w with drawn:=d}:=by
 unfold Ip at h;split at h
 ·rename_i b off ga c
  obtain⟨l',fL,heq⟩:=Option.map_eq_some_iff.1 h;simp only [Prod.mk.injEq] at heq;obtain⟨rfl,rfl⟩:=heq;obtain⟨hlen,va⟩:=Ay fL;have main:∀(e:hP) (c':Nat),φ b=some e->∃kt:Array J,kt.size=l'.length/\(∀j,j<l'.length->aD φ (l'.getD j undef) (kt.getD j undef))/\
   (∀d,(Builtin.lenOf (.slice (some ⟨e.bk,e.sh+off,none⟩) ga c')).run P {w with drawn:=d}= .ok ga {w with drawn:=d})/\∀d,(Builtin.firstCells a_ ga (.slice (some ⟨e.bk,e.sh+off,none⟩) ga c')).run P {w with drawn:=d}= .ok kt {w with drawn:=d}:=by
   intro e c' he;obtain⟨cL,ad,ag,ay⟩:=EC ao P fL he;refine⟨cL,ag,ay,λd=>rfl,λd=> ?_⟩;exact T8 _ _ ad d λj hj=>by
    obtain⟨aB,g1,_⟩:=u6 ao (va j hj) he;exact⟨aB,by rw[Addr.kr,Nat.add_assoc];exact g1⟩
  cases aq with
  |iD _ c' he=>exact⟨hlen,main _ _ he⟩
  |iE _ _ c' he _ _ _=>exact⟨hlen,main _ _ he⟩
  |iZ a7 _=>
   have:l'=[]:=by simpa using hlen
   subst this;refine⟨by simp,#[],rfl,λj hj=>absurd hj (by simp),λd=>rfl,λd=> ?_⟩;simp [Builtin.firstCells,loadCells,loadCellsFrom,pure]
 ·simp only [cN,Prod.mk.injEq] at h
  obtain⟨rfl,rfl⟩:=h;cases aq with
  |slnil=>exact⟨by simp,#[],rfl,λj hj=>absurd hj (by simp),λd=>rfl,λd=>rfl⟩
 ·rename_i s
  cases aw:(a_==1) with
  |false=>rw[aw] at h;cases h
  |true=>
   rw[aw,bD] at h;simp only [cN,Prod.mk.injEq] at h;obtain⟨rfl,rfl⟩:=h;have xJ:a_=1:=by simpa using aw
   cases aq with
   |string=>
    refine⟨by simp [xJ],(s.data.toList.map λb=>Value.int .u8 b.toNat).toArray,by simp,λj hj=> ?_,λd=>rfl,λd=> ?_⟩
    ·simp only [fh,List.getElem?_toArray,dp]
     have gY:j<s.data.toList.length:=by simpa using hj
     simp only [List.getElem?_map,f_ gY,Option.map_some,Option.getD_some];exact .int _ _
    ·simp only [Builtin.firstCells]
     show Result.ok _ _=Result.ok _ _;congr 1;have:(s.extract 0 s.size)=s:=by simp
     rw[this];apply Array.ext';simp
 ·cases h
omit [a1] in
theorem c4 {α fc:Type} {s:Sem α} {k:α->Sem fc} {a:α} {w:ax} {r:Result fc} (h:bg P s=some a) (al:(k a).run P w=r):(s >>= k).run P w=r:=by
 rw[Sem.run_bind,jz h w];exact al
omit [a1] in
theorem dm {α fc:Type} {s:Sem α} {k:α->Sem fc} {a:α} {w w1:ax} {r:Result fc} (h:s.run P w= .ok a w1) (al:(k a).run P w1=r):(s >>= k).run P w=r:=by
 rw[Sem.run_bind,h];exact al
def Iq:TypeDesc->Bool
 | .int _=>true
 |_=>false
omit [a1] in
theorem Ir {c0:Array aK} {t t2 elem ty:aK} {a_ n oe rU:Nat} {base:Option Addr} {x':J} {kt:Array J} (h0:c0[0]? =some t) (ad:c0[1]? =some t2)
  (hu:bg P (underlying t)=some (.slice elem)) {j2:TypeDesc} (tZ:bg P (underlying t2)=some j2) (bc:Iq j2=false) (cr:bg P (sizeOf elem)=some a_)
  (hlen:(Builtin.lenOf x').run P w= .ok n w) (wI:(Builtin.firstCells a_ n x').run P w= .ok kt w) (qv:oe+n<=rU) {w':ax}
  (c1:(match base with|some a=>storeCells (a.add (oe*a_)) kt.toList|none=>pure ()).run P w= .ok () w'):
  (Builtin.append_ c0 ty #[.slice base oe rU,x']).run P w= .ok (.slice base (oe+n) rU) w':=by
 unfold Builtin.append_;simp only [h0,ad,List.getElem?_toArray,List.getElem?_cons_zero,List.getElem?_cons_succ];refine c4 hu ?_;simp only;refine c4 cr ?_;refine c4 tZ ?_;refine c4 (a:=false) (by cases j2<;>first|rfl|cases bc) ?_;simp only [Bool.false_eq_true,if_false];refine dm hlen ?_;rw[aY qv];simp only [Bool.not_false,if_true];refine dm wI ?_;cases base with
 |none=>
  have:w'=w:=by
   have h:Result.ok () w=Result.ok () w':=c1;injection h with _ h;exact h.symm
  subst this;rfl
 |some a=>exact dm c1 rfl
omit [a1] in
theorem T9 {c0:Array aK} {t t2 elem ty:aK} {info:TypeInfo} {z:J} {a_ n oe rU:Nat} {base:Option Addr} {x':J} {jI kt:Array J} (h0:c0[0]? =some t) (ad:c0[1]? =some t2)
  (hu:bg P (underlying t)=some (.slice elem)) {j2:TypeDesc} (tZ:bg P (underlying t2)=some j2) (bc:Iq j2=false) (cr:bg P (sizeOf elem)=some a_)
  (ai:bg P (typeInfo elem)=some info) (acQ:bg P (zeroValue elem)=some z) (eX:info.bytes≠0) (af:info.bytes<=65536) (rV:oe+n<=1048576)
  (hlen:(Builtin.lenOf x').run P w= .ok n w) (wI:∀d,(Builtin.firstCells a_ n x').run P {w with drawn:=d}= .ok kt {w with drawn:=d})
  (hold:∀d,(Builtin.firstCells a_ oe (.slice base oe rU)).run P {w with drawn:=d}= .ok jI {w with drawn:=d}) (qv:rU<oe+n):
  ∃ma,oe+n<=ma/\(Builtin.append_ c0 ty #[.slice base oe rU,x']).run P w=
   .ok (.slice (some ⟨w.heap.size,0,none⟩) (oe+n) ma) {w with drawn:=w.drawn+1,heap:=w.heap.push (.cells (jI++kt++Builtin.zeroCells z.cells (ma-(oe+n))) elem)}:=by
 refine⟨(Question.appendCap (oe+n) rU elem).cut (w.tape w.drawn (.appendCap (oe+n) rU elem)),by simp [Question.cut],?_⟩;unfold Builtin.append_;simp only [h0,ad,List.getElem?_toArray,List.getElem?_cons_zero,List.getElem?_cons_succ];refine c4 hu ?_;simp only;refine c4 cr ?_;refine c4 tZ ?_;refine c4 (a:=false) (by cases j2<;>first|rfl|cases bc) ?_;simp only [Bool.false_eq_true,if_false];refine dm hlen ?_;rw[a' aj];refine c4 ai ?_;rw[a' (by simp [eX])];refine c4 ai ?_;have ku:=acN qv rV;have hle:¬(Builtin.nextslicecap (oe+n) rU*info.bytes>2^48):=by
  have h:=Nat.mul_le_mul ku af;have ag:33554432*65536<=2^48:=by decide
  omega
 rw[a' hle];refine dm (w1:={w with drawn:=w.drawn+1}) (a:=(Question.appendCap (oe+n) rU elem).cut (w.tape w.drawn (.appendCap (oe+n) rU elem))) (by simp [choose,Sem.run,Question.forced]) ?_;refine c4 ai ?_;refine dm (w1:={w with drawn:=w.drawn+1}) (a:=()) (by unfold askRoom;split<;>rfl) ?_;refine dm (hold _) ?_;simp only [Bool.not_false,if_true];refine dm (wI _) ?_;refine c4 acQ ?_;refine dm (a:=(⟨w.heap.size,0,none⟩:Addr)) (by simp only [newRow,newObj];rfl) ?_;rfl
end
end AE
namespace AE
variable [a1]
section
variable {P:aR} {φ:b2} {A bh:a6} {w:ax}
def L7 (P:aR) (A:a6) (c0:Array aK) (s x:J):Option (J×a6):=
 match c0[0]?,c0[1]? with
 |some t,some t2=>match bg P (underlying t),bg P (underlying t2) with
  |some (.slice elem),some j2=>
   match bg P (sizeOf elem),bg P (typeInfo elem),bg P (zeroValue elem) with
   |some a_,some info,some z=>
    bif Iq j2||Nat.beq a_ 0||Nat.beq info.bytes 0|| !Nat.ble info.bytes 65536|| !Nat.beq z.cells.size a_ then none else
     match Ip A a_ x with
     |some (n,dc)=>
      bif !Nat.ble n 524288 then none else
      match s with
      | .slice none 0 0=>bif Nat.beq n 0 then some (.slice none 0 0,A) else
          match A.push (.cells dc) a_ elem with
          |some (r,bC)=>some (.slice (some ⟨r,0,none⟩) n n,bC)
          |none=>none
      | .slice (some ⟨b,off,none⟩) sl q4=>
        bif !Nat.ble sl 524288||(Nat.beq b dead&& !Nat.beq off 0) then none else
         bif Nat.ble (sl+n) q4 then
          match A.q3 b (off+sl*a_) dc with
          |some bC=>some (.slice (some ⟨b,off,none⟩) (sl+n) q4,bC)
          |none=>none
         else match A.bl.get b with
          |none=>bif Nat.beq sl 0&&Nat.beq q4 0 then
            match A.push (.cells dc) a_ elem with
            |some (r,bC)=>some (.slice (some ⟨r,0,none⟩) n n,bC)
            |none=>none
           else none
          |some k=>match A.rR b off (sl*a_) with
           |some old=>
            bif Nat.beq k.eN 0 then
             match A.push (.cells (old++dc)) a_ elem with
             |some (r,bC)=>some (.slice (some ⟨r,0,none⟩) (sl+n) (sl+n),bC)
             |none=>none
            else bif Nat.beq k.eN a_ then
             match A.Io b (k.pos+off) a_ elem (old++List.replicate (n*a_) cu) with
             |some (r,bC)=>match bC.q3 r (sl*a_) dc with
              |some fU=>some (.slice (some ⟨r,0,none⟩) (sl+n) (sl+n),fU)
              |none=>none
             |none=>none
            else none
           |none=>none
      |_=>none
     |none=>none
   |_,_,_=>none
  |_,_=>none
 |_,_=>none
theorem L8 (ao:b0 φ A w) (d:Nat):b0 φ A {w with drawn:=d}:=⟨ao.wf,ao.eC,ao.apart,ao.along,ao.dq⟩
theorem T' {old dc:List J} {jI kt rest:Array J} (ad:jI.size=old.length) (ag:∀j,j<old.length->aD φ (old.getD j undef) (jI.getD j undef)) (ay:kt.size=dc.length)
  (bG:∀j,j<dc.length->aD φ (dc.getD j undef) (kt.getD j undef)):∀j,j<(old++dc).length->aD φ ((old++dc).getD j undef) ((jI++kt++rest).getD j undef):=by
 intro j hj;simp only [List.length_append] at hj;simp only [dp,fh,List.getElem?_append,Array.getElem?_append,Array.size_append] at ag bG ⊢;by_cases AA:j<old.length
 ·rw[aY AA,aY aj,aY aj]
  exact ag j AA
 ·rw[a' AA,aY aj,a' aj,ad]
  exact bG (j-old.length) aj
theorem acR (ao:b0 φ A w) {elem:aK} {a_ sl n:Nat} {old dc:List J} {jI kt rest:Array J} {r ma:Nat} (cr:1<=a_) (hp:A.push (.cells (old++dc)) a_ elem=some (r,bh))
  (ad:jI.size=old.length) (ag:∀j,j<old.length->aD φ (old.getD j undef) (jI.getD j undef)) (ay:kt.size=dc.length) (bG:∀j,j<dc.length->aD φ (dc.getD j undef) (kt.getD j undef))
  (vb:old.length=sl*a_) (jl:dc.length=n*a_) (ku:sl+n<=ma) (wH:rest.size=(ma-(sl+n))*a_):
  ∃c8 w',w'={w with drawn:=w.drawn+1,heap:=w.heap.push (.cells (jI++kt++rest) elem)}/\
   aD c8 (.slice (some ⟨r,0,none⟩) (sl+n) (sl+n)) (.slice (some ⟨w.heap.size,0,none⟩) (sl+n) ma)/\cA φ A w c8 bh w':=by
 have k7:=L8 ao (w.drawn+1);obtain⟨c8,w',g1,g2,g3,g4⟩:=CF k7 (default:aR) (c':=jI++kt++rest) elem hp (by simp;omega) (λh=>absurd (show a_=0 from h) aj) (T' ad ag ay bG);refine⟨c8,w',g4,?_,cA.trans ao (cA.za ao (w.drawn+1)) g3⟩;have acS:(jI++kt++rest).size=ma*a_:=by
  simp only [Array.size_append,ad,ay,vb,jl,wH];rw[<-Nat.add_mul,<-Nat.add_mul];congr 1;omega
 have:=aD.iE (φ:=c8) (b:=r) (o:=0) (sl+n) (sl+n) ma g2 cr ku (by
  simp only [Nat.zero_add]
  rw[acS];exact cj _)
 simpa using this
theorem acT (ao:b0 φ A w) {c0:Array aK} {ty:aK} {s fC x x' v:J} (aw:aD φ s fC) (aq:aD φ x x') (h:L7 P A c0 s x=some (v,bh)):b5 (hQ v) P φ A w (Builtin.append_ c0 ty #[fC,x']) bh:=by
 unfold L7 at h;split at h
 ·rename_i t t2 aL CI
  split at h
  ·rename_i elem j2 hu tZ
   split at h
   ·rename_i a_ info z cr ai bU
    cases ar:(Iq j2||Nat.beq a_ 0||Nat.beq info.bytes 0|| !Nat.ble info.bytes 65536|| !Nat.beq z.cells.size a_) with
    |true=>rw[ar] at h;cases h
    |false=>
     rw[ar,eB] at h;simp only [Bool.or_eq_false_iff,Bool.not_eq_false'] at ar;obtain⟨⟨⟨⟨bc,hq⟩,c2⟩,c3⟩,rW⟩:=ar;have L9:1<=a_:=by
      rcases Nat.eq_zero_or_pos a_ with h0|h0
      ·subst h0;simp at hq
      ·exact h0
     have eX:info.bytes≠0:=by
      intro h0;rw[h0] at c2;simp at c2
     have af:info.bytes<=65536:=Nat.ble_eq.mp c3;have qu:z.cells.size=a_:=cH rW;cases AB:Ip A a_ x with
     |none=>rw[AB] at h;cases h
     |some q=>
      obtain⟨n,dc⟩:=q;rw[AB] at h;simp only at h;obtain⟨jl,kt,h5,l8,CJ,wI⟩:=acP (P:=P) ao aq AB;cases AD:Nat.ble n 524288 with
      |false=>rw[AD] at h;cases h
      |true=>
       rw[AD,Bool.not_true,eB] at h;have av:=Nat.ble_eq.mp AD;have fresh:∀(sl:Nat) (old:List J) (jI:Array J) (base:Option Addr) (mR r:Nat),sl<=524288->old.length=sl*a_->jI.size=old.length->(∀j,j<old.length->aD φ (old.getD j undef) (jI.getD j undef))->
         (∀d,(Builtin.firstCells a_ sl (.slice base sl mR)).run P {w with drawn:=d}= .ok jI {w with drawn:=d})->mR<sl+n->A.push (.cells (old++dc)) a_ elem=some (r,bh)->
         b5 (hQ (.slice (some ⟨r,0,none⟩) (sl+n) (sl+n))) P φ A w (Builtin.append_ c0 ty #[.slice base sl mR,x']) bh:=by
        intro sl old jI base mR r gI vb Is AF hold qv hp;obtain⟨ma,ku,fw⟩:=T9 (ty:=ty) aL CI hu tZ bc cr ai bU eX af aj (CJ w.drawn) wI hold qv;obtain⟨c8,w',e1,e2,e3⟩:=acR ao L9 hp Is AF h5 l8 vb jl ku (rest:=Builtin.zeroCells z.cells (ma-(sl+n))) (by rw[T7,qu]);subst e1;exact⟨c8,_,_,fw,e2,e3⟩
       split at h
       ·
        cases aw;cases e_:Nat.beq n 0 with
        |true=>
         rw[e_,bD] at h;simp only [cN,Prod.mk.injEq] at h;obtain⟨rfl,rfl⟩:=h;have T_:n=0:=cH e_;subst T_;exact⟨φ,w,_,Ir aL CI hu tZ bc cr (CJ w.drawn) (wI w.drawn) (cj _) rfl,.slnil _ _,cA.refl ao⟩
        |false=>
         rw[e_,eB] at h;split at h
         ·rename_i r bC hp
          simp only [cN,Prod.mk.injEq] at h;obtain⟨rfl,rfl⟩:=h;have T_:n≠0:=λe=>by subst e;simp at e_
          have:=fresh 0 [] #[] none 0 r aj (by simp) rfl (λj hj=>absurd hj (by simp)) (λd=>rfl) aj (by simpa using hp);simpa using this
         ·cases h
       ·rename_i b off sl q4
        cases L_:Nat.ble sl 524288 with
        |false=>rw[L_] at h;cases h
        |true=>
         rw[L_,Bool.not_true,Bool.false_or] at h;cases Iu:(Nat.beq b dead&& !Nat.beq off 0) with
         |true=>rw[Iu] at h;cases h
         |false=>
         rw[Iu,eB] at h;have Iv:b=dead->off=0:=λe=>by
          subst e;rw[Nat.beq_refl,Bool.true_and,Bool.not_eq_false'] at Iu;exact cH Iu
         have gI:=Nat.ble_eq.mp L_;cases qv:Nat.ble (sl+n) q4 with
         |true=>
          rw[qv,bD] at h;have EN:=Nat.ble_eq.mp qv;split at h
          ·rename_i bC c1
           simp only [cN,Prod.mk.injEq] at h;obtain⟨rfl,rfl⟩:=h;have room:∀(e:hP) (mR:Nat),φ b=some e->sl+n<=mR->∃w',cA φ A w φ bC w'/\(Builtin.append_ c0 ty #[.slice (some ⟨e.bk,e.sh+off,none⟩) sl mR,x']).run P w= .ok (.slice (some ⟨e.bk,e.sh+off,none⟩) (sl+n) mR) w':=by
            intro e mR he hle;obtain⟨w',g1,g2⟩:=CD P he dc A bC w (off+sl*a_) 0 kt.toList ao c1 (by simpa using h5) (λj hj=>by
             have:=l8 j hj;simp only [fh] at this
             simpa [dp] using this)
            refine⟨w',g2,Ir aL CI hu tZ bc cr (CJ w.drawn) (wI w.drawn) hle ?_⟩;simp only [Addr.kr];rw[Nat.add_assoc];exact g1
           cases aw with
           |iD _ _ he=>
            obtain⟨w',g1,g2⟩:=room _ _ he EN;exact⟨φ,w',_,g2,.iD _ _ he,g1⟩
           |iE _ _ c' he q1 aH bW=>
            obtain⟨w',g1,g2⟩:=room _ c' he aj;exact⟨φ,w',_,g2,.iE _ _ _ he q1 aH bW,g1⟩
           |iZ a7 rT=>
            have hr:=rT (Iv rfl);subst hr;have e_:n=0:=by omega
            subst e_;have acU:dc=[]:=by simpa using jl
            subst acU;simp only [a6.q3,cN] at c1;subst c1;have Ma:kt= #[]:=Array.eq_empty_of_size_eq_zero h5;subst Ma;exact⟨φ,w,_,Ir aL CI hu tZ bc cr (CJ w.drawn) (wI w.drawn) (cj _) rfl,.iZ _ rT,cA.refl ao⟩
          ·cases h
         |false=>
          rw[qv,eB] at h;have EN:q4<sl+n:=by
           rcases Nat.lt_or_ge q4 (sl+n) with ad|ad
           ·exact ad
           ·rw[Nat.ble_eq.mpr ad] at qv;cases qv
          cases al:A.bl.get b with
          |none=>
           rw[al] at h;simp only at h;cases t':(Nat.beq sl 0&&Nat.beq q4 0) with
           |false=>rw[t'] at h;cases h
           |true=>
            rw[t',bD] at h;simp only [c7] at t';have e1:sl=0:=cH t'.1;have e2:q4=0:=cH t'.2;subst e1;subst e2;split at h
            ·rename_i r bC hp
             simp only [cN,Prod.mk.injEq] at h;obtain⟨rfl,rfl⟩:=h;have EO:∀e,φ b≠some e:=λe he=>by
              obtain⟨k,dB,_⟩:=ao.eC b e he;rw[al] at dB;cases dB
             cases aw with
             |iD _ _ he=>exact absurd he (EO _)
             |iE _ _ c' he q1 aH bW=>exact absurd he (EO _)
             |iZ a7 rT=>
              have hr:=rT (Iv rfl);subst hr;have:=fresh 0 [] #[] (some a7) 0 r aj (by simp) rfl (λj hj=>absurd hj (by simp)) (λd=>by simp [Builtin.firstCells,loadCells,loadCellsFrom,pure]) aj (by simpa using hp);simpa using this
            ·cases h
          |some k=>
           rw[al] at h;simp only at h;cases hold:A.rR b off (sl*a_) with
           |none=>rw[hold] at h;cases h
           |some old=>
            rw[hold] at h;simp only at h;obtain⟨vb,va⟩:=Ay hold;have Mb:∀(e:hP) (mR:Nat),φ b=some e->∃jI:Array J,jI.size=old.length/\(∀j,j<old.length->aD φ (old.getD j undef) (jI.getD j undef))/\
              ∀d,(Builtin.firstCells a_ sl (.slice (some ⟨e.bk,e.sh+off,none⟩) sl mR)).run P {w with drawn:=d}= .ok jI {w with drawn:=d}:=by
             intro e mR he;obtain⟨cL,ad,ag,ay⟩:=EC ao P hold he;exact⟨cL,ag,ay,λd=>T8 _ _ ad d λj hj=>by
              obtain⟨aB,g1,_⟩:=u6 ao (va j hj) he
              exact⟨aB,by rw[Addr.kr,Nat.add_assoc];exact g1⟩⟩
            have Ua:∀(a7:Addr),sl=0->∀d,(Builtin.firstCells a_ sl (.slice (some a7) sl 0)).run P {w with drawn:=d}= .ok #[] {w with drawn:=d}:=by
             intro a7 e d;subst e;simp [Builtin.firstCells,loadCells,loadCellsFrom,pure]
            cases xK:Nat.beq k.eN 0 with
            |true=>
             rw[xK,bD] at h;have hY:k.eN=0:=cH xK;split at h
             ·rename_i r bC hp
              simp only [cN,Prod.mk.injEq] at h;obtain⟨rfl,rfl⟩:=h;cases aw with
              |iD _ _ he=>
               obtain⟨jI,iw,jS,pO⟩:=Mb _ q4 he;exact fresh sl old jI _ q4 r gI vb iw jS pO EN hp
              |iE _ _ c' he q1 aH bW=>
               obtain⟨k',dB,c1,_⟩:=ao.eC b _ he;rw[al] at dB;cases dB;omega
              |iZ a7 rT=>
               have hr:=rT (Iv rfl);subst hr;have Mc:old=[]:=by simpa using vb
               subst Mc;exact fresh 0 [] #[] (some a7) 0 r aj (by simp) rfl (λj hj=>absurd hj (by simp)) (Ua a7 rfl) aj hp
             ·cases h
            |false=>
             rw[xK,eB] at h;cases EP:Nat.beq k.eN a_ with
             |false=>rw[EP] at h;cases h
             |true=>
              rw[EP,bD] at h;have zf:k.eN=a_:=cH EP;split at h
              ·rename_i r bC hp
               split at h
               ·rename_i fU Ub
                simp only [cN,Prod.mk.injEq] at h;obtain⟨rfl,rfl⟩:=h;obtain⟨_,_,_,og,_,dK,_,_,rfl,_,_,_,_,_⟩:=L6 hp ao.wf;have ck:∀b e,φ b=some e->∀em,hn φ A.n em b=some e:=λb e af em=>by
                 unfold hn;rw[a' (by have:=ao.lt af;omega)];exact af
                have Md:∀(base:Option Addr) (mR:Nat) (jI:Array J),jI.size=old.length->(∀j,j<old.length->aD φ (old.getD j undef) (jI.getD j undef))->
                  (∀d,(Builtin.firstCells a_ sl (.slice base sl mR)).run P {w with drawn:=d}= .ok jI {w with drawn:=d})->mR<sl+n->
                  b5 (hQ (.slice (some ⟨A.n,0,none⟩) (sl+n) (sl+n))) P φ A w (Builtin.append_ c0 ty #[.slice base sl mR,x']) fU:=by
                 intro base mR jI iw jS pO aQ;obtain⟨ma,ku,fw⟩:=T9 (ty:=ty) aL CI hu tZ bc cr ai bU eX af aj (CJ w.drawn) wI pO aQ;have oh:(jI++kt++Builtin.zeroCells z.cells (ma-(sl+n))).size=ma*a_:=by
                  simp only [Array.size_append,iw,h5,vb,jl,T7,qu];rw[<-Nat.add_mul,<-Nat.add_mul];congr 1;omega
                 have k7:=L8 ao (w.drawn+1);have ki:=T' (rest:=Builtin.zeroCells z.cells (ma-(sl+n))) iw jS h5 l8;have hle:(sl+n)*a_<=ma*a_:=Nat.mul_le_mul_right _ ku;have acV:sl*a_+n*a_=(sl+n)*a_:=(Nat.add_mul _ _ _).symm;have pq:=T3 (e:=⟨w.heap.size,0,a_,ma*a_⟩) k7 hp rfl (.inl ⟨rfl,.cells (jI++kt++Builtin.zeroCells z.cells (ma-(sl+n))) elem,rfl⟩) (λk' dB=>by
                  simp only [fT];refine⟨_,(0,0),by simp,oh.symm,⟨by simp only [List.length_append,mw,Nat.zero_add,vb,oh];omega,λh=>absurd (show a_=0 from h) aj⟩,λj hj=> ?_,λ_ i _=>by simp⟩;simp only [List.length_append,mw] at hj;simp only [Nat.zero_add];by_cases AA:j<old.length
                  ·have:=(ki j (by simp;omega)).mono λkh e1 l_=>ck kh e1 l_ ⟨w.heap.size,0,a_,ma*a_⟩
                   rw[dp,List.getElem?_append_left AA] at this ⊢;exact this
                  ·rw[dp,List.getElem?_append_right aj,List.getElem?_replicate,aY aj]
                   exact .cu _)
                 have wG:=T4 (e:=⟨w.heap.size,0,a_,ma*a_⟩) (by simp [hn]) dc bC fU (sl*a_) pq.rel Ub (λj hj=>by
                  have:=(ki (sl*a_+j) (by simp;omega)).mono λkh e1 l_=>ck kh e1 l_ ⟨w.heap.size,0,a_,ma*a_⟩
                  rw[dp,List.getElem?_append_right aj,vb,Nat.add_sub_cancel_left,<-dp] at this;refine⟨_,?_,this⟩;simp only [World.cell?,Nat.zero_add];have lv:sl*a_+j<(jI++kt++Builtin.zeroCells z.cells (ma-(sl+n))).size:=by rw[oh];omega
                  simp only [Array.getElem?_push_size,Option.isSome_none,Bool.false_eq_true,if_false,fh];rw[Array.getElem?_eq_getElem lv]
                  rfl)
                 refine⟨_,_,_,fw,?_,cA.trans ao (cA.za ao (w.drawn+1)) (cA.trans k7 pq wG)⟩;have:=aD.iE (φ:=hn φ A.n ⟨w.heap.size,0,a_,ma*a_⟩) (b:=A.n) (o:=0) (e:=⟨w.heap.size,0,a_,ma*a_⟩) (sl+n) (sl+n) ma (by simp [hn]) L9 ku (by simp);simpa using this
                cases aw with
                |iD _ _ he=>
                 obtain⟨jI,iw,jS,pO⟩:=Mb _ q4 he;exact Md _ _ jI iw jS pO EN
                |iZ a7 rT=>
                 have hr:=rT (Iv rfl);subst hr;have Mc:old=[]:=by simpa using vb
                 subst Mc;exact Md (some a7) 0 #[] rfl (λj hj=>absurd hj (by simp)) (Ua a7 rfl) EN
                |iE _ _ c' he q1 aH bW=>
                 rename_i e;obtain⟨jI,iw,jS,pO⟩:=Mb _ c' he;rcases Nat.lt_or_ge c' (sl+n) with rS|kD
                 ·exact Md _ _ jI iw jS pO rS
                 ·
                  obtain⟨k',dB,Me,acW⟩:=ao.eC b e he;rw[al] at dB;cases dB;have t_:e.eN=a_:=Me.trans zf;have acV:sl*a_+n*a_=(sl+n)*a_:=(Nat.add_mul _ _ _).symm;have hle:(sl+n)*a_<=c'*a_:=Nat.mul_le_mul_right _ kD;rw[t_] at bW;have pq:=T3 (e:=⟨e.bk,e.sh+off,a_,e.As⟩) ao hp rfl (.inr ⟨rfl,e,k,he,al,rfl,by simp only;omega⟩) (λk' dB=>by
                   rw[al] at dB;cases dB;obtain⟨k2,c2,ly,g1,g2,g3,g4,_⟩:=L6 hp ao.wf;rw[al] at g1;cases g1;have Mf:=acW;unfold fT at Mf;simp only [g2] at Mf;obtain⟨c3,acX,cO,dx,gh,u3,y_⟩:=Mf;simp only [fT];refine⟨c3,acX,by rw[<-g4];exact cO,dx,⟨by simp only [List.length_append,mw,vb];omega,λh=>absurd (show a_=0 from h) aj⟩,λj hj=> ?_,λ_=>y_ g3⟩;simp only [List.length_append,mw] at hj;by_cases AA:j<old.length
                   ·rw[dp,List.getElem?_append_left AA,<-dp]
                    obtain⟨aB,et,gN⟩:=u6 ao (va j aj) he;simp only [World.cell?,cO,Option.isSome_none,Bool.false_eq_true,if_false] at et;rw[fh,Nat.add_assoc,et];exact gN.mono λkh e1 l_=>ck kh e1 l_ _
                   ·rw[dp,List.getElem?_append_right aj,List.getElem?_replicate,aY aj]
                    exact .cu _)
                  obtain⟨w',g1,g2⟩:=CD P (e:=⟨e.bk,e.sh+off,a_,e.As⟩) (by simp [hn]) dc bC fU w (sl*a_) 0 kt.toList pq.rel Ub (by simpa using h5) (λj hj=>by
                   have:=(l8 j hj).mono λkh e1 l_=>ck kh e1 l_ ⟨e.bk,e.sh+off,a_,e.As⟩
                   simp only [fh] at this
                   simpa [dp] using this)
                  refine⟨_,w',_,Ir aL CI hu tZ bc cr (CJ w.drawn) (wI w.drawn) kD (w':=w') ?_,?_,cA.trans ao pq g2⟩
                  ·simp only [Addr.kr]
                   exact g1
                  ·have:=aD.iE (φ:=hn φ A.n ⟨e.bk,e.sh+off,a_,e.As⟩) (b:=A.n) (o:=0) (e:=⟨e.bk,e.sh+off,a_,e.As⟩) (sl+n) (sl+n) c' (by simp [hn]) L9 kD (by simp only [Nat.add_zero];exact bW)
                   simpa using this
               ·cases h
              ·cases h
       ·cases h
   ·cases h
  ·cases h
 ·cases h
end
end AE
namespace AE
variable [a1]
section
variable {P:aR} {φ:b2} {A bh:a6} {w:ax}
omit [a1] in
theorem acY {α:Type} (k:IntKind) (x y:Int) (c:BoundsCode):bg P (boundsPanic k x y c:Sem α)=none:=by
 unfold boundsPanic;dsimp only;split
 ·rw[sP]
  have:bg P (Functor.map (λx=>x==1) (choose (.extern "runtime.boundsError.signed" 2)))=none:=rfl;rw[this];rfl
 ·rw[sP];rfl
omit [a1] in
theorem Iw {v:J} {y:Nat} {c:BoundsCode} {r:Nat} (h:bg P (Instr.sliceBound v y c)=some r):∃k i,v= .int k i/\0<=i/\i<=y/\r=i.toNat:=by
 unfold Instr.sliceBound at h;rw[sP] at h;cases v with
 |int k i=>
  simp only [asIntOf,EI,Option.bind_some] at h;split at h
  ·rename_i af
   simp only [EI,cN] at h;exact⟨k,i,rfl,af.1,af.2,h.symm⟩
  ·rw[acY] at h;cases h
 |pointer a=>cases a<;>cases h
 |_=>cases h
omit [a1] in
theorem Uc (k:IntKind) (i:Int) (y:Nat) (c:BoundsCode) (h0:0<=i) (ad:i<=y):bg P (Instr.sliceBound (.int k i) y c)=some i.toNat:=by
 unfold Instr.sliceBound;rw[sP];simp only [asIntOf,EI,Option.bind_some];rw[aY ⟨h0,ad⟩];rfl
omit [a1] in
theorem zg {b:Bool} {len c c' l h m:Nat} {e5 ai eY:Option J} (ar:c<=c') (af:bg P (Instr.sliceBounds b len c e5 ai eY)=some (l,h,m)):
  bg P (Instr.sliceBounds b len c' e5 ai eY)=some (l,h,if eY.isSome then m else c')/\(eY=none->m=c)/\m<=c/\l<=h/\(eY.isSome=true->h<=m):=by
 have low:∀(y q5 wJ:Nat) (Ix:BoundsCode) {l h m:Nat},bg P (do
   let l <-match e5 with
    |some v=>Instr.sliceBound v y Ix
    |none=>pure 0
   pure (l,y,q5))=some (l,h,m)->bg P (do
   let l <-match e5 with
    |some v=>Instr.sliceBound v y Ix
    |none=>pure 0
   pure (l,y,wJ))=some (l,h,wJ)/\h=y/\m=q5/\l<=y:=by
  intro y q5 wJ Ix l h m hl;cases e5 with
  |none=>
   simp only [sP,EI,Option.bind_some,cN,Prod.mk.injEq] at hl ⊢;obtain⟨rfl,rfl,rfl⟩:=hl;simp
  |some v=>
   simp only [sP] at hl ⊢;cases aw:bg P (Instr.sliceBound v y Ix) with
   |none=>rw[aw] at hl;cases hl
   |some r=>
    rw[aw] at hl;simp only [Option.bind_some,EI,cN,Prod.mk.injEq] at hl ⊢;obtain⟨k,i,_,h0,ad,ag⟩:=Iw aw;obtain⟨rfl,rfl,rfl⟩:=hl;refine⟨by simp,rfl,rfl,aj⟩
 cases eY with
 |none=>
  cases ai with
  |none=>
   have e:∀dC,Instr.sliceBounds b len dC e5 none none=(do
     let l <-match e5 with
      |some v=>Instr.sliceBound v len (if (none:Option J).isSome then .slice3C else .sliceB)
      |none=>pure 0
     pure (l,len,dC)):=λdC=>by unfold Instr.sliceBounds;cases e5<;>rfl
   rw[e] at af ⊢;obtain⟨g1,g2,g3,g4⟩:=low len c c' _ af;subst g2;subst g3;exact⟨by simpa using g1,λ_=>rfl,cj _,g4,λh=>by cases h⟩
  |some AG=>
   have e:∀dC,Instr.sliceBounds b len dC e5 (some AG) none=(do
     let h <-Instr.sliceBound AG dC (if b then .sliceAcap else .sliceAlen)
     let l <-match e5 with
      |some v=>Instr.sliceBound v h (if (none:Option J).isSome then .slice3C else .sliceB)
      |none=>pure 0
     pure (l,h,dC)):=λdC=>by unfold Instr.sliceBounds;cases e5<;>rfl
   rw[e] at af ⊢;rw[sP] at af ⊢;cases aw:bg P (Instr.sliceBound AG c (if b=true then .sliceAcap else .sliceAlen)) with
   |none=>rw[aw] at af;cases af
   |some r=>
    rw[aw,Option.bind_some] at af;obtain⟨k,i,rfl,h0,ad,rfl⟩:=Iw aw;rw[Uc k i c' _ h0 aj,Option.bind_some];obtain⟨g1,g2,g3,g4⟩:=low i.toNat c c' _ af;subst g2;subst g3;exact⟨by simpa using g1,λ_=>rfl,cj _,g4,λh=>by cases h⟩
 |some wK=>
  cases ai with
  |none=>
   exfalso;have e:Instr.sliceBounds b len c e5 none (some wK)=(do
     let m <-Instr.sliceBound wK c (if b then .slice3Acap else .slice3Alen)
     let h <-(stuck "Slice: max without high":Sem Nat)
     let l <-match e5 with
      |some v=>Instr.sliceBound v h (if (some wK).isSome then .slice3C else .sliceB)
      |none=>pure 0
     pure (l,h,m)):=by unfold Instr.sliceBounds;cases e5<;>rfl
   rw[e,sP] at af;cases aw:bg P (Instr.sliceBound wK c (if b=true then .slice3Acap else .slice3Alen)) with
   |none=>rw[aw] at af;cases af
   |some r=>rw[aw] at af;cases af
  |some AG=>
   have e:∀dC,Instr.sliceBounds b len dC e5 (some AG) (some wK)=(do
     let m <-Instr.sliceBound wK dC (if b then .slice3Acap else .slice3Alen)
     let h <-Instr.sliceBound AG m .slice3B
     let l <-match e5 with
      |some v=>Instr.sliceBound v h (if (some wK).isSome then .slice3C else .sliceB)
      |none=>pure 0
     pure (l,h,m)):=λdC=>by unfold Instr.sliceBounds;cases e5<;>rfl
   rw[e,sP] at af ⊢;cases aw:bg P (Instr.sliceBound wK c (if b=true then .slice3Acap else .slice3Alen)) with
   |none=>rw[aw] at af;cases af
   |some r=>
    rw[aw,Option.bind_some] at af;obtain⟨k,i,rfl,h0,ad,rfl⟩:=Iw aw;rw[Uc k i c' _ h0 aj,Option.bind_some];rw[sP] at af ⊢;cases xJ:bg P (Instr.sliceBound AG i.toNat .slice3B) with
    |none=>rw[xJ] at af;cases af
    |some cO=>
     rw[xJ,Option.bind_some] at af;rw[Option.bind_some];obtain⟨aoj,i4,_,kx,q1,aH⟩:=Iw xJ;obtain⟨g1,g2,g3,g4⟩:=low cO i.toNat i.toNat _ af;subst g2;subst g3;refine⟨by simpa using g1,λh=>by simp at h,aj,g4,λ_=>by omega⟩
def Mg (P:aR) (A:a6) (t:aK) (x:J) (e5 ai eY:Option J):Option J:=
 match bg P (underlying t),x with
 |some (.array n elem),.pointer (some ⟨b,off,none⟩)=>
  match bg P (Instr.sliceBounds false n n e5 ai eY),bg P (sizeOf elem) with
  |some (l,h,m),some a_=>some (.slice (some ⟨b,if m=l then off else off+l*a_,none⟩) (h-l) (m-l))
  |_,_=>none
 |some (.slice elem),.slice (some ⟨b,off,none⟩) len cap=>
  match bg P (Instr.sliceBounds true len cap e5 ai eY),bg P (sizeOf elem),A.bl.get b with
  |some (l,h,m),some a_,some k=>
   bif Nat.beq k.eN 0||Nat.beq k.eN a_ then
    match eY with
    |some _=>bif Nat.beq m l then some (.slice (some ⟨dead,0,none⟩) 0 0) else some (.slice (some ⟨b,off+l*a_,none⟩) (h-l) (m-l))
    |none=>bif Nat.ble h m then (bif Nat.beq m l then some (.slice (some ⟨dead,1,none⟩) 0 0) else some (.slice (some ⟨b,off+l*a_,none⟩) (h-l) (m-l))) else none
   else none
  |some (_,h,m),some _,none=>bif Nat.beq cap 0&&Nat.beq len 0&&Nat.ble h m then some (.slice (some ⟨b,off,none⟩) 0 0) else none
  |_,_,_=>none
 |_,_=>none
theorem acZ (ao:b0 φ A w) {t:aK} {x x' v:J} {e5 ai eY:Option J} (aq:aD φ x x') (h:Mg P A t x e5 ai eY=some v):b5 (hQ v) P φ A w (Instr.sliceAt t x' e5 ai eY) A:=by
 unfold Mg at h;split at h
 ·rename_i n elem b off hu
  split at h
  ·rename_i l ah m a_ af cr
   simp only [cN] at h;subst h;cases aq with
   |ptr he=>
    rename_i e;unfold Instr.sliceAt;refine b5.pre hu ?_;simp only;refine b5.pre (a:=(⟨e.bk,e.sh+off,none⟩:Addr)) rfl ?_;refine b5.pre af ?_;simp only;refine b5.pre cr ?_;have:=aD.iD (φ:=φ) (b:=b) (o:=if m=l then off else off+l*a_) (ah-l) (m-l) he;refine b5.ret ao ?_;show aD φ _ _;by_cases hm:m=l
    ·simp only [hm,if_true] at this ⊢
     exact this
    ·simp only [hm,if_false,Addr.kr] at this ⊢
     rw[<-Nat.add_assoc] at this;exact this
  ·cases h
 ·rename_i elem b off len cap hu
  have run:∀(a:Addr) (wL l ah m a_:Nat),bg P (Instr.sliceBounds true len wL e5 ai eY)=some (l,ah,m)->bg P (sizeOf elem)=some a_->
    (Instr.sliceAt t (.slice (some a) len wL) e5 ai eY).run P w= .ok (.slice (if m=l then some a else some (a.add (l*a_))) (ah-l) (m-l)) w:=by
   intro a wL l ah m a_ af cr;unfold Instr.sliceAt;refine c4 hu ?_;simp only;unfold Instr.slice;refine c4 hu ?_;simp only;refine c4 af ?_;simp only;refine c4 cr ?_;rfl
  split at h
  ·rename_i l ah m a_ k af cr al
   cases c1:(Nat.beq k.eN 0||Nat.beq k.eN a_) with
   |false=>rw[c1] at h;cases h
   |true=>
    rw[c1,bD] at h;have ac0:k.eN=0\/k.eN=a_:=by
     simp only [Bool.or_eq_true] at c1;exact c1.imp cH cH
    split at h
    ·rename_i wK
     have both:∀(e:hP) (wL:Nat),φ b=some e->cap<=wL->b5 (hQ v) P φ A w (Instr.sliceAt t (.slice (some ⟨e.bk,e.sh+off,none⟩) len wL) e5 ai (some wK)) A:=by
      intro e wL he hle;obtain⟨g1,g2,g3,g4,k5⟩:=zg hle af;simp only [Option.isSome_some,if_true] at g1 k5;have k7:=run ⟨e.bk,e.sh+off,none⟩ wL l ah m a_ g1 cr;refine⟨φ,w,_,k7,?_,cA.refl ao⟩;cases rX:Nat.beq m l with
      |true=>
       rw[rX,bD,cN] at h;subst h;have xL:m=l:=cH rX;have ad:ah-l=0:=by have:=k5 trivial;omega
       have ag:m-l=0:=by omega
       rw[aY xL,ad,ag];exact .iZ _ (λ_=>rfl)
      |false=>
       rw[rX,eB,cN] at h;subst h;have xL:m≠l:=λe=>by subst e;simp at rX
       rw[a' xL,Addr.kr];have:=aD.iD (φ:=φ) (b:=b) (o:=off+l*a_) (ah-l) (m-l) he;rw[<-Nat.add_assoc] at this;exact this
     cases aq with
     |iD _ _ he=>exact both _ _ he (cj _)
     |iE _ _ c' he q1 aH bW=>exact both _ _ he aH
     |iZ a7 bU=>
      rename_i c';obtain⟨f1,_⟩:=zg (Nat.zero_le c') af;have k7:=run a7 c' l ah m a_ (by simpa using f1) cr;obtain⟨g1,g2,g3,g4,k5⟩:=zg (cj _) af;have:=k5 rfl;have e1:l=0:=by omega
      have e2:ah=0:=by omega
      have e3:m=0:=by omega
      subst e1;subst e2;subst e3;refine⟨φ,w,_,k7,?_,cA.refl ao⟩;simp only [Nat.beq_refl,bD,cN] at h;subst h;simp only [if_true,Nat.sub_self];exact .iZ _ (λ_=>rfl)
    ·
     cases Mh:Nat.ble ah m with
     |false=>rw[Mh] at h;cases h
     |true=>
     rw[Mh,bD] at h;have aok:=Nat.ble_eq.mp Mh;obtain⟨g1,g2,g3,g4,k5⟩:=zg (cj _) af;have Mi:=g2 rfl;subst Mi;have empty:∀(a7:Addr) (c':Nat),m=l->∀x',(x'=some a7\/∃Iy,x'=some Iy)->aD φ (.slice (some ⟨dead,1,none⟩) 0 0) (.slice x' (ah-l) (c'-l)):=by
      intro a7 c' rX x' rY;rw[show ah-l=0 by omega];rcases rY with rfl|⟨Iy,rfl⟩<;>exact .iZ _ (λh=>absurd h cB)
     have Mj:∀(p:Prop) [Decidable p] (a b:Addr),∃Iy,(if p then some a else some b)=some Iy:=λp _ a b=>by
      by_cases hp:p
      ·exact⟨a,aY hp⟩
      ·exact⟨b,a' hp⟩
     cases rX:Nat.beq m l with
     |true=>
      have xL:m=l:=cH rX;rw[rX,bD,cN] at h;subst h;cases aq with
      |iD _ _ he=>
       rename_i e;refine⟨φ,w,_,run ⟨e.bk,e.sh+off,none⟩ m l ah m a_ af cr,empty ⟨e.bk,e.sh+off,none⟩ m xL _ (.inr (Mj _ _ _)),cA.refl ao⟩
      |iE _ _ c' he q1 aH bW=>
       rename_i e;obtain⟨f1,_⟩:=zg aH af;exact⟨φ,w,_,run ⟨e.bk,e.sh+off,none⟩ c' l ah c' a_ (by simpa using f1) cr,empty ⟨e.bk,e.sh+off,none⟩ c' xL _ (.inr (Mj _ _ _)),cA.refl ao⟩
      |iZ a7 bU=>
       rename_i c';obtain⟨f1,_⟩:=zg (Nat.zero_le c') af;exact⟨φ,w,_,run a7 c' l ah c' a_ (by simpa using f1) cr,empty a7 c' xL _ (.inr (Mj _ _ _)),cA.refl ao⟩
     |false=>
      have xL:m≠l:=λe=>by subst e;simp at rX
      rw[rX,eB,cN] at h;subst h;cases aq with
      |iD _ _ he=>
       rename_i e;have k7:=run ⟨e.bk,e.sh+off,none⟩ m l ah m a_ af cr;refine⟨φ,w,_,k7,?_,cA.refl ao⟩;rw[a' xL,Addr.kr];have:=aD.iD (φ:=φ) (b:=b) (o:=off+l*a_) (ah-l) (m-l) he;rw[<-Nat.add_assoc] at this;exact this
      |iE _ _ c' he q1 aH bW=>
       rename_i e;obtain⟨f1,_⟩:=zg aH af;have k7:=run ⟨e.bk,e.sh+off,none⟩ c' l ah c' a_ (by simpa using f1) cr;refine⟨φ,w,_,k7,?_,cA.refl ao⟩;rw[a' aj,Addr.kr];obtain⟨k',dB,Me,_⟩:=ao.eC b e he;rw[al] at dB;cases dB;have t_:e.eN=a_:=by
        rcases ac0 with h0|h0
        ·omega
        ·exact Me.trans h0
       have Mk:l*a_+(c'-l)*a_=c'*a_:=by rw[<-Nat.add_mul];congr 1;omega
       have:=aD.iE (φ:=φ) (b:=b) (o:=off+l*a_) (ah-l) (m-l) (c'-l) he q1 aj (by rw[t_] at bW ⊢;omega);rw[<-Nat.add_assoc] at this;exact this
      |iZ a7 bU=>omega
  ·rename_i l ah m a_ af cr al
   cases t':(Nat.beq cap 0&&Nat.beq len 0&&Nat.ble ah m) with
   |false=>rw[t'] at h;cases h
   |true=>
    rw[t',bD,cN] at h;subst h;simp only [c7] at t';have e1:cap=0:=cH t'.1.1;have e2:len=0:=cH t'.1.2;have e3:ah<=m:=Nat.ble_eq.mp t'.2;subst e1;subst e2;have EO:∀e,φ b≠some e:=λe he=>by
     obtain⟨k,dB,_⟩:=ao.eC b e he;rw[al] at dB;cases dB
    cases aq with
    |iD _ _ he=>exact absurd he (EO _)
    |iE _ _ c' he q1 aH bW=>exact absurd he (EO _)
    |iZ a7 bU=>
     rename_i c';obtain⟨g1,g2,g3,g4,k5⟩:=zg (Nat.zero_le c') af;have k7:=run a7 c' l ah _ a_ g1 cr;refine⟨φ,w,_,k7,?_,cA.refl ao⟩;have hm:m=0:=by omega
     have e1:l=0:=by omega
     have e2:ah=0:=by omega
     subst hm;subst e1;subst e2;have ar:off=0->(if eY.isSome=true then 0 else c')-0=0:=λho=>by
      by_cases ER:eY.isSome=true
      ·simp [ER]
      ·simp [ER,bU ho]
     show aD φ _ (.slice (if (if eY.isSome=true then 0 else c')=0 then some a7 else some (a7.add (0*a_))) 0 ((if eY.isSome=true then 0 else c')-0));by_cases jT:(if eY.isSome=true then 0 else c')=0
     ·rw[aY jT];exact .iZ _ ar
     ·rw[a' jT];exact .iZ _ ar
  ·cases h
 ·cases h
end
end AE
namespace AE
variable [a1]
section
variable {P:aR} {φ:b2} {A bh:a6} {w:ax}
def Ml (P:aR) (A:a6) (c0:Array aK) (dst pt:J):Option (J×a6):=
 match c0[0]? with
 |some t=>match bg P (underlying t) with
  |some (.slice elem)=>match bg P (sizeOf elem) with
   |some a_=>match dst,pt with
    | .slice (some ⟨b,off,none⟩) ua _,.slice (some ⟨lM,ES,none⟩) sl _=>
      match A.rR lM ES (Nat.min sl ua*a_) with
      |some l=>match A.q3 b off l with
       |some bC=>some (.int .i64 (Nat.min sl ua),bC)
       |none=>none
      |none=>none
    | .slice (some _) ua _,.slice none sl _=>some (.int .i64 (Nat.min sl ua),A)
    |_,_=>none
   |none=>none
  |_=>none
 |none=>none
theorem ac1 (ao:b0 φ A w) {c0:Array aK} {ty:aK} {d oi s fC v:J} (bc:aD φ d oi) (aw:aD φ s fC) (h:Ml P A c0 d s=some (v,bh)):b5 (hQ v) P φ A w (Builtin.copy_ c0 ty #[oi,fC]) bh:=by
 unfold Ml at h;split at h
 ·rename_i t aL
  split at h
  ·rename_i elem hu
   split at h
   ·rename_i a_ cr
    split at h
    ·rename_i b off ua wM lM ES sl q4
     split at h
     ·rename_i l hl
      split at h
      ·rename_i bC c1
       simp only [cN,Prod.mk.injEq] at h;obtain⟨rfl,rfl⟩:=h;unfold Builtin.copy_;simp only [aL,List.getElem?_toArray,List.getElem?_cons_zero,List.getElem?_cons_succ];refine b5.pre hu ?_;obtain⟨lz,mS⟩:=Ay hl;have main:∀(e e2:hP) (mR:Nat),φ b=some e->φ lM=some e2->b5 (hQ (.int .i64 (Nat.min sl ua))) P φ A w (do
         let n:=Nat.min (<-Builtin.lenOf (.slice (some ⟨e2.bk,e2.sh+ES,none⟩) sl mR)) ua
         let cells <-Builtin.firstCells (<-sizeOf elem) n (.slice (some ⟨e2.bk,e2.sh+ES,none⟩) sl mR)
         storeCells ⟨e.bk,e.sh+off,none⟩ cells.toList
         pure (goInt n)) bC:=by
        intro e e2 mR he ub;refine b5.pre (a:=sl) rfl ?_;refine b5.pre cr ?_;refine b5.bind ao (TS ao hl ub) λgM w1 cells k7 hmono ⟨hq,c2⟩=> ?_
        obtain⟨w',g1,g2⟩:=CD P (hmono _ _ he) l A bC w1 off 0 cells.toList k7 c1 (by simpa using hq) (λj hj=>by
         have:=c2 j hj;simp only [fh] at this
         simpa [dp] using this)
        refine⟨gM,w',_,dm (by simpa using g1) rfl,.int _ _,g2⟩
       have zero:∀(a a7:Option Addr) (ac2 mR:Nat),Nat.min sl ua*a_=0->Nat.min sl ua=0->bC=A:=by
        intro a a7 ac2 mR h0 _;rw[h0] at lz;have:l=[]:=by simpa using lz
        subst this;simpa [a6.q3] using c1.symm
       cases bc with
       |iD _ _ he=>cases aw with
        |iD _ _ ub=>exact main _ _ _ he ub
        |iE _ _ c' ub _ _ _=>exact main _ _ _ he ub
        |iZ a7 _=>
         have:=zero none none 0 0 (by simp) (by simp);subst this;refine⟨φ,w,.int .i64 0,?_,by simpa using aD.int .i64 0,cA.refl ao⟩;simp [jz cr w,Builtin.firstCells,Builtin.lenOf,loadCells,loadCellsFrom,Sem.run,pure,storeCells,goInt]
       |iE _ _ hq he _ _ _=>cases aw with
        |iD _ _ ub=>exact main _ _ _ he ub
        |iE _ _ c' ub _ _ _=>exact main _ _ _ he ub
        |iZ a7 _=>
         have:=zero none none 0 0 (by simp) (by simp);subst this;refine⟨φ,w,.int .i64 0,?_,by simpa using aD.int .i64 0,cA.refl ao⟩;simp [jz cr w,Builtin.firstCells,Builtin.lenOf,loadCells,loadCellsFrom,Sem.run,pure,storeCells,goInt]
       |iZ a7 _=>
        have:=zero none none 0 0 (by simp) (by simp);subst this;have hlen:∀fC,aD φ (.slice (some ⟨lM,ES,none⟩) sl q4) fC->∃a2 c2,fC= .slice (some a2) sl c2:=λfC h=>by
         cases h with
         |iD _ _ h=>exact⟨_,_,rfl⟩
         |iE _ _ _ h _ _ _=>exact⟨_,_,rfl⟩
         |iZ a7 _=>exact⟨_,_,rfl⟩
        obtain⟨a2,c2,rfl⟩:=hlen fC aw;refine⟨φ,w,.int .i64 0,?_,by simpa using aD.int .i64 0,cA.refl ao⟩;simp [jz cr w,Builtin.firstCells,Builtin.lenOf,loadCells,loadCellsFrom,Sem.run,pure,storeCells,goInt]
      ·cases h
     ·cases h
    ·rename_i a ua wM sl q4
     simp only [cN,Prod.mk.injEq] at h;obtain⟨rfl,rfl⟩:=h;have Mm:∃a7 c',oi= .slice (some a7) ua c':=by
      cases bc with
      |iD _ _ h=>exact⟨_,_,rfl⟩
      |iE _ _ _ h _ _ _=>exact⟨_,_,rfl⟩
      |iZ a7 _=>exact⟨_,_,rfl⟩
     obtain⟨a7,c',rfl⟩:=Mm;cases aw;refine⟨φ,w,.int .i64 (Nat.min sl ua),?_,.int _ _,cA.refl ao⟩;unfold Builtin.copy_;simp only [aL,List.getElem?_toArray,List.getElem?_cons_zero,List.getElem?_cons_succ];refine c4 hu ?_;refine c4 (a:=sl) rfl ?_;exact c4 cr rfl
    ·cases h
   ·cases h
  ·cases h
 ·cases h
def Mn (P:aR) (A:a6) (t:aK) (len cap:J):Option (J×a6):=
 match len,cap with
 | .int _ l,.int _ c=>
   bif decide (0<=l)&&decide (l<=c)&&decide (c<=1048576) then
    match bg P (underlying t) with
    |some (.slice elem)=>match bg P (typeInfo elem),bg P (sizeOf elem),bg P (zeroValue elem) with
     |some info,some a_,some z=>
      bif Nat.ble info.bytes 65536&&plain z&&(cellsOf z).isSome&&Nat.blt 0 z.cells.size then
       match A.push (.cells ((Array.range (c.toNat*a_)).map (z.cells[· %z.cells.size]!)).toList) 0 elem with
       |some (r,bC)=>some (.slice (some ⟨r,0,none⟩) l.toNat c.toNat,bC)
       |none=>none
      else none
     |_,_,_=>none
    |_=>none
   else none
 |_,_=>none
theorem ac3 (ao:b0 φ A w) {t:aK} {len cap v:J} (h:Mn P A t len cap=some (v,bh)):b5 (hQ v) P φ A w (Instr.makeSlice t len cap) bh:=by
 unfold Mn at h;split at h
 ·rename_i dg l k2 c
  cases af:(decide (0<=l)&&decide (l<=c)&&decide (c<=1048576)) with
  |false=>rw[af] at h;cases h
  |true=>
   rw[af,bD] at h;simp only [c7,decide_eq_true_eq] at af;obtain⟨⟨kh,lM⟩,tV⟩:=af;split at h
   ·rename_i elem hu
    split at h
    ·rename_i info a_ z ai cr bU
     cases lu:(Nat.ble info.bytes 65536&&plain z&&(cellsOf z).isSome&&Nat.blt 0 z.cells.size) with
     |false=>rw[lu] at h;cases h
     |true=>
      rw[lu,bD] at h;simp only [c7] at lu;obtain⟨⟨⟨q1,aH⟩,bW⟩,et⟩:=lu;have lN:=Nat.ble_eq.mp q1;have rT:=Nat.blt_eq.mp et;have qu:=Im aH bW φ;split at h
      ·rename_i r bC hp
       simp only [cN,Prod.mk.injEq] at h;obtain⟨rfl,rfl⟩:=h;have wl:IntKind.i64.wrap l=l:=IntWalk.i64_in _ aj;have ac4:IntKind.i64.wrap c=c:=IntWalk.i64_in _ aj;unfold Instr.makeSlice;refine b5.pre hu ?_;simp only;refine b5.pre (a:=l) rfl ?_;refine b5.pre (a:=c) rfl ?_;refine b5.pre ai ?_;have Ud:(info.bytes:Int)*c<=2^48:=by
        have ad:(info.bytes:Int)*c<=65536*1048576:=by
         have dZ:(info.bytes:Int)<=65536:=by omega
         exact Int.mul_le_mul dZ tV aj aj
        have ag:(65536:Int)*1048576<=2^48:=by decide
        omega
       have Iz:(decide (c<0)||decide ((info.bytes:Int)*c>2^48)||decide (l<0)||decide (l>c))=false:=by
        simp only [Bool.or_eq_false_iff,decide_eq_false_iff_not];omega
       simp only [wl,ac4];rw[a' (by rw[Iz];simp)];refine b5.pre (a:=()) (by unfold askRoom;split<;>rfl) ?_;refine b5.pre cr ?_;have xI:∀j,j<((Array.range (c.toNat*a_)).map (z.cells[· %z.cells.size]!)).size->aD φ (((Array.range (c.toNat*a_)).map (z.cells[· %z.cells.size]!)).getD j undef) (((Array.range (c.toNat*a_)).map (z.cells[· %z.cells.size]!)).getD j undef):=by
        intro j hj;simp at hj;have hm:=Nat.mod_lt j rT;have:=qu (j%z.cells.size) hm;simp only [fh] at this ⊢;simpa [hj,hm,getElem!_pos] using this
       have fW:b5 (hQ (.slice (some ⟨r,0,none⟩) l.toNat c.toNat)) P φ A w (do
         let a <-newRow elem ((Array.range (c.toNat*a_)).map (z.cells[· %z.cells.size]!))
         pure (.slice (some a) l.toNat c.toNat)) bC:=by
        obtain⟨c8,w',g1,g2,g3,_⟩:=CF ao P elem hp (c':=(Array.range (c.toNat*a_)).map (z.cells[· %z.cells.size]!)) (by simp) (λ_=>by simp) (λj hj=>by
         have:=xI j (by simpa using hj);simp only [fh] at this;simp only [dp,Array.getElem?_toList,fh]
         exact this)
        refine⟨c8,w',_,dm g1 rfl,?_,g3⟩;have:=aD.iD (φ:=c8) (b:=r) (o:=0) l.toNat c.toNat g2;simpa using this
       by_cases av:c.toNat*a_=0
       ·simp only [av,if_true] at fW ⊢
        refine b5.pre (a:= #[]) rfl ?_;have e0:∀f:Nat->J,(Array.range 0).map f= #[]:=λf=>by simp
        rw[e0] at fW ⊢;exact fW
       ·simp only [av,if_false]
        refine b5.pre bU ?_;refine b5.pre (a:=z.cells) rfl ?_;exact fW
      ·cases h
    ·cases h
   ·cases h
 ·cases h
def Mo (P:aR) (A:a6) (c0:Array aK) (x:J):Option J:=
 match c0[0]? with
 |some t=>match bg P (underlying t),x with
  |some (.slice _),.slice _ n _=>some (.int .i64 n)
  |some (.map _ _),.map none=>some (.int .i64 0)
  |some (.map _ _),.map (some b)=>match A.bl.get b with
   |some {obj:= .map es _,..}=>some (.int .i64 es.length)
   |_=>none
  |some (.array n _),_=>some (.int .i64 n)
  |_,_=>none
 |none=>none
omit [a1] in
theorem rZ {o:Obj} {r:Nat} (h:w.heap[r]? =some o) (ar:∀c t f,o≠.cells c t f):(getObj r).run P w= .ok o w:=by
 unfold getObj;simp only [Sem.run,h]
theorem ac5 (ao:b0 φ A w) {c0:Array aK} {ty:aK} {x x' v:J} (aq:aD φ x x') (h:Mo P A c0 x=some v):b5 (hQ v) P φ A w (Builtin.len_ c0 ty #[x']) A:=by
 unfold Mo at h;split at h
 ·rename_i t aL
  unfold Builtin.len_;simp only [aL,List.getElem?_toArray,List.getElem?_cons_zero];split at h
  ·rename_i e a n c hu
   simp only [cN] at h;subst h;refine b5.pre hu ?_;have:∃a2 c2,x'= .slice a2 n c2:=by cases aq<;>exact⟨_,_,rfl⟩
   obtain⟨a2,c2,rfl⟩:=this;exact b5.ret ao (.int _ _)
  ·rename_i k e hu
   simp only [cN] at h;subst h;refine b5.pre hu ?_;cases aq;exact b5.ret ao (.int _ _)
  ·rename_i k e b hu
   split at h
   ·rename_i es e4 cP pos st ro ty' af
    simp only [cN] at h;subst h;refine b5.pre hu ?_;cases aq with
    |map he=>
     obtain⟨dj,al,_,ho⟩:=ao.eC b _ he;rw[af] at al;cases al;simp only [fT] at ho;obtain⟨du,ad,ag,_⟩:=ho;refine⟨φ,w,.int .i64 es.length,dm (rZ ad (by simp)) ?_,.int _ _,cA.refl ao⟩;simp only [goInt,ag];rfl
   ·cases h
  ·rename_i n e hu
   simp only [cN] at h;subst h;refine b5.pre hu ?_;exact b5.ret ao (.int _ _)
  ·cases h
 ·cases h
end
end AE
namespace AE
variable [a1]
section
variable {P:aR} {φ:b2} {A bh:a6} {w:ax}
def Mp (cells:Array J):Sem J:=do
 let mut s:=ByteArray.empty
 for c in cells do
  let .int .u8 n:=c|stuck "bytesToString: byte expected"
  s:=s.push (UInt8.ofNat n.toNat)
 pure (.string s)
omit [a1] in
theorem Ue (a:Addr) (len c:Nat):Conv.bytesToString (.slice (some a) len c)=loadCells a len >>= Mp:=rfl
def Mq (P:aR) (A:a6):J->Option J
 | .slice none _ _=>some (.string .empty)
 | .slice (some ⟨b,off,none⟩) n _=>bif Nat.beq n 0 then some (.string .empty) else match A.rR b off n with
   |some l=>bif pn l then match bg P (Mp ⟨l⟩) with
    |some (.string s)=>some (.string s)
    |_=>none
    else none
   |none=>none
 |_=>none
theorem ac6 (ao:b0 φ A w) {x x' v:J} (aq:aD φ x x') (h:Mq P A x=some v):b5 (hQ v) P φ A w (Conv.bytesToString x') A:=by
 unfold Mq at h;split at h
 ·simp only [cN] at h
  subst h;cases aq;exact b5.ret ao (.string _)
 ·rename_i b off n c
  have Uf:∀(a:Addr) (c:Nat),(Conv.bytesToString (.slice (some a) 0 c)).run P w= .ok (.string .empty) w:=λa c=>by
   rw[Ue];simp [loadCells,loadCellsFrom,Mp,Sem.run,pure]
  have main:∀(e:hP) (c':Nat),φ b=some e->b5 (hQ v) P φ A w (Conv.bytesToString (.slice (some ⟨e.bk,e.sh+off,none⟩) n c')) A:=by
   intro e c' he;cases av:Nat.beq n 0 with
   |true=>
    rw[av,bD,cN] at h;subst h;have:n=0:=cH av;subst this;exact⟨φ,w,_,Uf _ _,.string _,cA.refl ao⟩
   |false=>
    rw[av,eB] at h;split at h
    ·rename_i l hl
     cases hp:pn l with
     |false=>rw[hp] at h;cases h
     |true=>
      rw[hp,bD] at h;split at h
      ·rename_i s aw
       simp only [cN] at h;subst h;rw[Ue];obtain⟨cL,ad,ag,ay⟩:=EC ao P hl he;have:cL=⟨l⟩:=by
        obtain⟨l'⟩:=cL;have:=aD.EE l l' hp (by simpa using ag.symm) (λi ai=>by simpa using ay i ai);rw[this]
       subst this;exact⟨φ,w,_,dm ad (jz aw w),.string _,cA.refl ao⟩
      ·cases h
    ·cases h
  cases aq with
  |iD _ _ he=>exact main _ _ he
  |iE _ _ c' he _ _ _=>exact main _ _ he
  |iZ a7 _=>
   rw[Nat.beq_refl,bD,cN] at h;subst h;exact⟨φ,w,_,Uf _ _,.string _,cA.refl ao⟩
 ·cases h
def Mr (A:a6) (elem:aK) (s:ByteArray):Option (J×a6):=
 match A.push (.cells (s.data.toList.map λb=> .int .u8 b.toNat)) 1 elem with
 |some (r,bC)=>some (.slice (some ⟨r,0,none⟩) s.size s.size,bC)
 |none=>none
theorem ac7 (ao:b0 φ A w) {elem:aK} {s:ByteArray} {v:J} (h:Mr A elem s=some (v,bh)):b5 (hQ v) P φ A w (Conv.stringToBytes elem s) bh:=by
 unfold Mr at h;split at h
 ·rename_i r bC hp
  simp only [cN,Prod.mk.injEq] at h;obtain⟨rfl,rfl⟩:=h;unfold Conv.stringToBytes
  let cap:=(Question.appendCap s.size 0 elem).cut (w.tape w.drawn (.appendCap s.size 0 elem))
  have ku:s.size<=cap:=by simp [cap,Question.cut]
  let row:Array J:=(s.data.map λb=>Value.int .u8 b.toNat)++Array.replicate (cap-s.size) (.int .u8 0)
  have oh:row.size=cap:=by
   simp only [row,Array.size_append,Array.size_map,Array.size_replicate];have:s.data.size=s.size:=rfl;omega
  have k7:=L8 ao (w.drawn+1);have ac8:=(k7.wf.push hp).2.1;have st:=CB (o':= .cells row elem (cap,cap+1)) (e:=⟨w.heap.size,0,1,cap⟩) k7 hp U U (by
   simp only [fT];refine⟨row,(cap,cap+1),by simp,oh.symm,⟨by simp only [List.length_map,Nat.zero_add,Array.length_toList];rw[oh];exact ku,λh=>absurd h cB⟩,λj hj=> ?_,λ_ i ai=>by rw[oh] at ai;simp;omega⟩;simp only [List.length_map,Array.length_toList] at hj;simp only [dp,fh,Nat.zero_add,row];rw[Array.getElem?_append_left (by simpa using hj)];simp only [List.getElem?_map,Array.getElem?_toList,Array.getElem?_map,Array.getElem?_eq_getElem hj,Option.map_some,Option.getD_some]
   exact .int _ _)
  refine⟨_,_,.slice (some ⟨w.heap.size,0,none⟩) s.size cap,?_,?_,cA.trans ao (cA.za ao (w.drawn+1)) st⟩
  ·refine dm (w1:={w with drawn:=w.drawn+1}) (a:=cap) (by simp [choose,Sem.run,Question.forced,cap]) ?_
   refine dm (a:=(⟨w.heap.size,0,none⟩:Addr)) (by simp only [newRow,newObj];rfl) ?_;have AH:({w with drawn:=w.drawn+1,heap:=w.heap.push (.cells row elem)}:ax).shape? w.heap.size=some (elem,cap):=by
    simp [World.shape?,oh]
   refine dm (w1:={w with drawn:=w.drawn+1,heap:=w.heap.push (.cells row elem (cap,cap+1))}) (a:=()) ?_ rfl;unfold markStringish;refine dm (a:=some (elem,cap)) (by simp only [shape,Sem.run];exact congrArg (Result.ok · _) AH) ?_;simp only [freeze,Sem.run,World.freeze];rw[a' aj];refine congrArg (Result.ok ()) ?_;simp only [World.mk.injEq,and_true];apply Array.ext_getElem?;intro i;rw[Array.getElem?_modify];split
   ·rename_i ai
    subst ai;simp [row]
   ·rename_i ai
    rw[Array.getElem?_push,Array.getElem?_push];rw[a' (Ne.symm ai),a' (Ne.symm ai)]
  ·subst ac8
   have:=aD.iE (φ:=hn φ A.n ⟨w.heap.size,0,1,cap⟩) (b:=A.n) (o:=0) (e:=⟨w.heap.size,0,1,cap⟩) s.size s.size cap (by simp [hn]) (cj _) ku (by simp);simpa using this
 ·cases h
def CK (P:aR) (t:aK) (x y:J):Option Bool:=
 match bg P (underlying t),x,y with
 |some (.pointer _),.pointer (some _),.pointer none=>some false
 |some (.pointer _),.pointer none,.pointer (some _)=>some false
 |some (.pointer e),.pointer (some ⟨b,o,none⟩),.pointer (some ⟨b',o',none⟩)=>match bg P (sizeOf e) with
  |some n=>bif Nat.beq b b'&& !Nat.beq n 0 then some (Nat.beq o o') else none
  |none=>none
 |some (.slice _),.slice (some _) _ _,.slice none _ _=>some false
 |some (.slice _),.slice none _ _,.slice (some _) _ _=>some false
 |some (.map _ _),.map (some _),.map none=>some false
 |some (.map _ _),.map none,.map (some _)=>some false
 |some (.interface _),.iface _ _,.nilIface=>some false
 |some (.interface _),.nilIface,.iface _ _=>some false
 |some (.func _ _ _),.func _ _ _,.nilFunc=>some false
 |some (.func _ _ _),.nilFunc,.func _ _ _=>some false
 |_,_,_=>none
theorem Ug {t:aK} {x x' y fN:J} {r:Bool} (aq:aD φ x x') (bE:aD φ y fN) (h:CK P t x y=some r):(Op.equal t x' fN).run P w= .ok r w/\∀op (iw jS:Operand),(eqGuard op t iw jS x' fN).run P w= .ok () w:=by
 unfold CK at h;have guard:∀(x' fN:J),(¬(x'= .nilIface/\fN= .nilIface))->(¬∃a b,x'= .agg a/\fN= .agg b)->∀op (iw jS:Operand),(eqGuard op t iw jS x' fN).run P w= .ok () w:=by
  intro x' fN ad ag op iw jS;unfold eqGuard;by_cases cy:op= .eql\/op= .neq
  ·cases x'<;>cases fN<;>rcases cy with rfl|rfl<;>first|rfl|exact absurd ⟨rfl,rfl⟩ ad|exact absurd ⟨_,_,rfl,rfl⟩ ag
  ·cases op<;>first|rfl|exact absurd (.inl rfl) cy|exact absurd (.inr rfl) cy
 split at h
 all_goals try (cases h;done)
 all_goals rename_i hu
 ·simp only [cN] at h
  subst h;cases aq with
  |ptr he=>cases bE;exact⟨by unfold Op.equal Op.maxDepth Op.equalIn;exact c4 hu rfl,guard _ _ (by simp) (by simp)⟩
 ·simp only [cN] at h
  subst h;cases bE with
  |ptr he=>cases aq;exact⟨by unfold Op.equal Op.maxDepth Op.equalIn;exact c4 hu rfl,guard _ _ (by simp) (by simp)⟩
 ·split at h
  ·rename_i b o b' o' aol n av
   cases af:(Nat.beq b b'&& !Nat.beq n 0) with
   |false=>rw[af] at h;cases h
   |true=>
    rw[af,bD,cN] at h;subst h;simp only [c7,Bool.not_eq_true'] at af;have oU:b=b':=cH af.1;subst oU;have e_:n≠0:=λe=>by subst e;simp at af
    cases aq with
    |ptr he=>cases bE with
     |ptr ub=>
      rw[he] at ub;cases ub;refine⟨?_,guard _ _ (by simp) (by simp)⟩;unfold Op.equal Op.maxDepth Op.equalIn;refine c4 hu ?_;simp only;refine c4 av ?_;rw[aY e_];unfold sameAddr;simp only [beq_self_eq_true,if_true];show Result.ok _ w=Result.ok _ w;congr 1;by_cases Ms:o=o'
      ·subst Ms;simp
      ·have ad:Nat.beq o o'=false:=by
        cases ah:Nat.beq o o' with
        |false=>rfl
        |true=>exact absurd (cH ah) Ms
       rw[ad];simp
  ·cases h
 all_goals simp only [cN] at h
 all_goals subst h
 all_goals cases aq<;>cases bE<;>exact⟨by unfold Op.equal Op.maxDepth Op.equalIn;exact c4 hu rfl,guard _ _ (by simp) (by simp)⟩
def Mt (P:aR) (op:BinOp) (t:aK) (x y:J):Option J:=
 match op with
 | .eql=>(CK P t x y).map .bool
 | .neq=>(CK P t x y).map λb=> .bool !b
 |_=>none
theorem ac9 (ao:b0 φ A w) {op:BinOp} {t:aK} {iw jS:Operand} {x x' y fN v:J} (aq:aD φ x x') (bE:aD φ y fN) (h:Mt P op t x y=some v):b5 (hQ v) P φ A w (do eqGuard op t iw jS x' fN;binOp op t x' fN) A:=by
 unfold Mt at h;have Uh:∀r,CK P t x y=some r->(binOp .eql t x' fN=do pure (.bool (<-Op.equal t x' fN)))/\(binOp .neq t x' fN=do pure (.bool (!(<-Op.equal t x' fN)))):=by
  intro r aw;unfold CK at aw;split at aw
  all_goals try (cases aw;done)
  all_goals cases aq<;>cases bE<;>exact⟨rfl,rfl⟩
 split at h
 ·obtain⟨r,aw,rfl⟩:=Option.map_eq_some_iff.1 h
  obtain⟨ad,ag⟩:=Ug (P:=P) (w:=w) aq bE aw;refine⟨φ,w,.bool r,dm (ag _ _ _) ?_,.bool _,cA.refl ao⟩;rw[(Uh r aw).1];exact dm ad rfl
 ·obtain⟨r,aw,rfl⟩:=Option.map_eq_some_iff.1 h
  obtain⟨ad,ag⟩:=Ug (P:=P) (w:=w) aq bE aw;refine⟨φ,w,.bool !r,dm (ag _ _ _) ?_,.bool _,cA.refl ao⟩;rw[(Uh r aw).2];exact dm ad rfl
 ·cases h
def IA:TypeDesc->Bool
 | .interface _=>true
 |_=>false
def Mu (P:aR) (t:aK) (x:J):Option J:=
 match bg P (underlying t) with
 |some d=>bif IA d then none else some (.iface t x)
 |none=>none
theorem ac' (ao:b0 φ A w) {t:aK} {x x' v:J} (aq:aD φ x x') (h:Mu P t x=some v):b5 (hQ v) P φ A w (Instr.makeInterface t x') A:=by
 unfold Mu at h;split at h
 ·rename_i d hu
  cases bc:IA d with
  |true=>rw[bc] at h;cases h
  |false=>
   rw[bc,eB,cN] at h;subst h;unfold Instr.makeInterface;refine b5.pre hu ?_;cases d<;>first|(cases bc;done)|exact b5.ret ao (.iface _ aq)
 ·cases h
def Mv (P:aR) (x:J) (asserted:aK) (ok:Bool):Option J:=
 match bg P (underlying asserted),x with
 |some (.interface want),.iface t _=>match bg P (typeInfo t) with
  |some info=>match Instr.missingMethod want info.methods with
   |none=>some (if ok then .tuple #[x,.bool true] else x)
   |some _=>none
  |none=>none
 |some d,.iface t v=>bif IA d then none else
   if t=asserted then some (if ok then .tuple #[v,.bool true] else v) else
    bif ok then match bg P (zeroValue asserted) with
     |some z=>bif plain z then some (.tuple #[z,.bool false]) else none
     |none=>none
    else none
 |_,_=>none
theorem Mw {a a7:J} (h:aD φ a a7) (b:Bool):aD φ (.tuple #[a,.bool b]) (.tuple #[a7,.bool b]):= .tuple _ _ rfl λi ai=>by
 have:i=0\/i=1:=by simp at ai;omega
 rcases this with rfl|rfl
 ·simpa using h
 ·simpa using aD.bool b
theorem ac_ (ao:b0 φ A w) {x x' v:J} {Ui asserted:aK} {ok:Bool} (aq:aD φ x x') (h:Mv P x asserted ok=some v):b5 (hQ v) P φ A w (Instr.typeAssert x' Ui asserted ok) A:=by
 unfold Mv at h;split at h
 ·rename_i want t u hu
  split at h
  ·rename_i info ai
   split at h
   ·rename_i hm
    simp only [cN] at h;subst h;cases aq with
    |iface t aC=>
     unfold Instr.typeAssert;refine b5.pre hu ?_;simp only;refine b5.pre ai ?_;simp only [hm];refine b5.ret ao ?_;cases ok
     ·exact .iface t aC
     ·exact Mw (.iface t aC) true
   ·cases h
  ·cases h
 ·rename_i d t u _ hu
  cases bc:IA d with
  |true=>rw[bc] at h;cases h
  |false=>
   rw[bc,eB] at h;cases aq with
   |iface t aC=>
    unfold Instr.typeAssert;refine b5.pre hu ?_;by_cases aL:t=asserted
    ·rw[aY aL,cN] at h
     subst h;cases d<;>first
      |(cases bc;done)
      |(simp only [aY aL]
        refine b5.ret ao ?_;cases ok
        ·exact aC
        ·exact Mw aC true)
    ·rw[a' aL] at h
     cases ok with
     |false=>cases h
     |true=>
      rw[bD] at h;split at h
      ·rename_i z bU
       cases hp:plain z with
       |false=>rw[hp] at h;cases h
       |true=>
        rw[hp,bD,cN] at h;subst h;cases d<;>first
          |(cases bc;done)
          |(simp only [a' aL,if_true]
            refine b5.pre bU ?_
            exact b5.ret ao (Mw (aD.kq φ z hp) false))
      ·cases h
 ·cases h
end
end AE
namespace AE
variable [a1]
class Lib (P:aR) where
 same:List FuncId
 Uj:∀f∈same,∀x:J,bg P (callFunc f #[x])=some (.value x)
 Mx:List (FuncId×aK)
 Uk:∀p∈Mx,∃ps r0 t,(∀n w,(callFunc p.1 #[.int .i64 n]).run P w=(do pure (Next.value (<-Extern.BytealgMakeNoZero.makeNoZero ps r0 #[.int .i64 n])):Sem Next).run P w)/\r0[0]? =some t/\bg P (underlying t)=some (.slice p.2)
section
variable {P:aR} {φ:b2} {A bh:a6} {w:ax}
omit [a1] in
theorem IB {r:Nat} {c:Array J} {t:aK} {f:Nat×Nat} (h:w.heap[r]? =some (.cells c t f)):(shape r).run P w= .ok (some (t,c.size)) w:=by
 simp only [shape,Sem.run,World.shape?,h]
omit [a1] in
theorem Ul {a:Addr} {c:Array J} {t:aK} {f:Nat×Nat} (h:w.heap[a.block]? =some (.cells c t f)):(Conv.seenAt a).run P w= .ok a w:=by
 unfold Conv.seenAt viewAt;refine dm (a:=none) (dm (IB h) rfl) rfl
def My (P:aR) (A:a6) (pt dst:aK) (x:J):Option J:=
 match bg P (underlying pt),bg P (underlying dst),x with
 |some (.pointer t),some .unsafePointer,.pointer (some ⟨b,off,none⟩)=>match bg P (sizeOf t),A.bl.get b with
  |some n,some k=>match k.obj with
   | .cells c=>bif Nat.beq n 0|| !Nat.blt off c.length then none else some (.pointer (some ⟨b,off,none⟩))
   |_=>none
  |_,_=>none
 |some .unsafePointer,some (.pointer u),.pointer (some ⟨b,off,none⟩)=>match bg P (sizeOf u),A.bl.get b with
  |some _,some k=>match k.obj with
   | .cells c=>bif Nat.beq k.eN 0&&liesAt P P.depth k.ty (c.length/P.cellsOf k.ty) off u 1 then some (.pointer (some ⟨b,off,none⟩)) else none
   |_=>none
  |_,_=>none
 |_,_,_=>none
theorem ada (ao:b0 φ A w) {pt dst:aK} {x x' v:J} (aq:aD φ x x') (h:My P A pt dst x=some v):b5 (hQ v) P φ A w (convert pt dst x') A:=by
 unfold My at h;split at h
 ·rename_i t b off aw bc
  split at h
  ·rename_i n k av al
   split at h
   ·rename_i c fK
    cases ar:(Nat.beq n 0|| !Nat.blt off c.length) with
    |true=>rw[ar] at h;cases h
    |false=>
     rw[ar,eB,cN] at h;subst h;simp only [Bool.or_eq_false_iff,Bool.not_eq_false'] at ar;have aom:off<c.length:=Nat.blt_eq.mp ar.2;have e_:n≠0:=λe=>by subst e;simp at ar
     cases aq with
     |ptr he=>
      rename_i e;obtain⟨k',dB,_,ho⟩:=ao.eC b e he;rw[al] at dB;cases dB;unfold fT at ho;simp only [fK] at ho;obtain⟨c',jk,ad,ag,ay,bG,cE⟩:=ho;refine⟨φ,w,.pointer (some ⟨e.bk,e.sh+off,none⟩),?_,.ptr he,cA.refl ao⟩;unfold convert;refine c4 aw (c4 bc ?_);show (Conv.unsafePointer pt dst (.pointer (some ⟨e.bk,e.sh+off,none⟩))).run P w=_;unfold Conv.unsafePointer;refine c4 aw (c4 bc ?_);simp only;refine dm (Ul ad) ?_;refine dm (a:=some c'.size) (by unfold cellsIn;exact dm (IB ad) rfl) ?_;refine c4 av ?_;have kD:¬(c'.size<=e.sh+off):=by omega
      simp only [e_,decide_false,ge_iff_le,kD,Bool.false_and,Bool.or_false,Bool.false_eq_true,if_false];rfl
   ·cases h
  ·cases h
 ·rename_i u b off aw bc
  split at h
  ·rename_i aon k adb al
   split at h
   ·rename_i c fK
    cases ar:(Nat.beq k.eN 0&&liesAt P P.depth k.ty (c.length/P.cellsOf k.ty) off u 1) with
    |false=>rw[ar] at h;cases h
    |true=>
     rw[ar,bD,cN] at h;subst h;simp only [c7] at ar;have c1:k.eN=0:=cH ar.1;cases aq with
     |ptr he=>
      rename_i e;obtain⟨k',dB,_,ho⟩:=ao.eC b e he;rw[al] at dB;cases dB;unfold fT at ho;simp only [fK] at ho;obtain⟨c',jk,ad,ag,ay,bG,cE⟩:=ho;obtain⟨AH,cr⟩:=ay.2 c1;have Mz:liesAt P P.depth k.ty (c'.size/P.cellsOf k.ty) (e.sh+off) u 1=true:=by rw[AH,Nat.zero_add,<-cr];exact ar.2
      refine⟨φ,w,.pointer (some ⟨e.bk,e.sh+off,none⟩),?_,.ptr he,cA.refl ao⟩;unfold convert;refine c4 aw (c4 bc ?_);show (Conv.unsafePointer pt dst (.pointer (some ⟨e.bk,e.sh+off,none⟩))).run P w=_;unfold Conv.unsafePointer;refine c4 aw (c4 bc ?_);simp only;refine dm (Ul ad) ?_;have aC:(variablesAt ⟨e.bk,e.sh+off,none⟩ u 1).run P w= .ok true w:=by
       unfold variablesAt;refine c4 (a:=P) rfl ?_;refine dm (IB ad) ?_;simp only [Mz];rfl
      refine c4 adb ?_;refine dm aC ?_;simp only [Bool.or_true,if_true];rfl
   ·cases h
  ·cases h
 ·cases h
def MA (A:a6) (elem:aK) (n:Int):Option (J×a6):=
 bif decide (0<=n)&&decide (n<=524288) then
  match A.push (.cells (List.replicate n.toNat cu)) 1 elem with
  |some (r,bC)=>some (.slice (some ⟨r,0,none⟩) n.toNat n.toNat,bC)
  |none=>none
 else none
omit [a1] in
theorem Um:∀(n t:Nat) (acc:Array J),(Extern.BytealgMakeNoZero.digits n t acc).size=acc.size+n
 |0,_,_=>rfl
 |n+1,t,acc=>by
  unfold Extern.BytealgMakeNoZero.digits;rw[Um n];simp;omega
theorem ade (ao:b0 φ A w) {ps r0:Array aK} {t elem:aK} {n:Int} {v:J} (aL:r0[0]? =some t) (hu:bg P (underlying t)=some (.slice elem)) (h:MA A elem n=some (v,bh)):
  b5 (hQ v) P φ A w (Extern.BytealgMakeNoZero.makeNoZero ps r0 #[.int .i64 n]) bh:=by
 unfold MA at h;cases ar:(decide (0<=n)&&decide (n<=524288)) with
 |false=>rw[ar] at h;cases h
 |true=>
  rw[ar,bD] at h;simp only [c7,decide_eq_true_eq] at ar;split at h
  ·rename_i r bC hp
   simp only [cN,Prod.mk.injEq] at h;obtain⟨rfl,rfl⟩:=h
   let q:Question:= .appendCap n.toNat 0 elem
   let cap:=q.cut (w.tape w.drawn q)
   have ku:n.toNat<=cap:=by simp [cap,q,Question.cut]
   let aH:Question:= .extern "internal/bytealg.MakeNoZero.bytes" 0
   have k7:b0 φ A {w with drawn:=w.drawn+1+1}:=(cA.za ao (w.drawn+1+1)).rel
   let row:=Extern.BytealgMakeNoZero.digits cap (aH.cut (w.tape (w.drawn+1) aH)) #[]
   have oh:row.size=cap:=by simp [row,Um]
   obtain⟨c8,w',g1,g2,g3,g4⟩:=CF k7 P (c':=row) elem hp (by rw[oh,mw];exact ku) (λh=>absurd h cB) (λj hj=>by
    rw[dp,List.getElem?_replicate,aY (by simpa using hj)]
    exact .cu _)
   refine⟨c8,w',.slice (some ⟨w.heap.size,0,none⟩) n.toNat cap,?_,?_,cA.trans ao (cA.za ao (w.drawn+1+1)) g3⟩
   ·obtain⟨Un⟩:=r0
    obtain⟨rest,rfl⟩:∃rest,Un=t::rest:=by
     cases Un with
     |nil=>simp at aL
     |cons a r=>simp at aL;exact⟨r,by rw[aL]⟩
    refine c4 (s:=underlying t) hu ?_;simp only;rw[a' (by simp;omega)];refine dm (w1:={w with drawn:=w.drawn+1}) (a:=cap) (by simp [choose,Sem.run,Question.forced,cap,q]) ?_;refine dm (w1:={w with drawn:=w.drawn+1}) (a:=()) (by unfold askRoom;split<;>rfl) ?_;refine dm (w1:={w with drawn:=w.drawn+1+1}) (a:=aH.cut (w.tape (w.drawn+1) aH)) (by simp only [choose,Sem.run];rfl) ?_;exact dm g1 rfl
   ·have:=aD.iE (φ:=c8) (b:=r) (o:=0) n.toNat n.toNat cap g2 (cj _) ku (by simp [oh])
    simpa using this
  ·cases h
def MB:List J->ByteArray->Option ByteArray
 |[],acc=>some acc
 | .int .u8 b::r,acc=>MB r (acc.push b.toNat.toUInt8)
 |_::_,_=>none
theorem adf (ao:b0 φ A w) {b:Nat} {e:hP} (he:φ b=some e):∀(l:List J) (off:Nat) (acc s:ByteArray),(∀j,j<l.length->A.load b (off+j)=some (l.getD j undef))->MB l acc=some s->
  (loadBytes ⟨e.bk,e.sh+off,none⟩ acc l.length).run P w= .ok s w:=by
 intro l
 induction l with
 |nil=>
  intro off acc s _ h;cases h;rfl
 |cons v r cz=>
  intro off acc s hl h;cases v with
  |int k x=>
   cases k<;>try (cases h;done)
   have h0:=hl 0 (by simp);obtain⟨aB,ad,ag⟩:=u6 ao h0 he;simp only [List.getD_cons_zero] at ag;cases ag;have TX:w.cell? ⟨e.bk,e.sh+off,none⟩=some (.int .u8 x):=by simpa using ad
   have wH:∀j,j<r.length->A.load b (off+1+j)=some (r.getD j undef):=λj hj=>by
    have:=hl (j+1) (by simpa using hj);rw[show off+(j+1)=off+1+j by omega] at this;simpa using this
   have:=cz (off+1) (acc.push x.toNat.toUInt8) s wH h;show (loadBytes _ acc (r.length+1)).run P w=_;unfold loadBytes;refine dm (a:= .int .u8 x) (w1:=w) (by simp [Go.load,Sem.run,TX]) ?_;simp only [Addr.kr];rw[Nat.add_assoc];exact this
  |_=>cases h
def CL (cP:Nat):List Nat->bV h4->Option (bV h4)
 |[],t=>some t
 |m::r,t=>match t.get m with
  |some k=>bif Nat.beq k.cP cP then
    match bV.set {k with ro:=true} depth t m with
    |some dt=>CL cP r dt
    |none=>none
   else CL cP r t
  |none=>CL cP r t
def vd (cP:Nat) (k:h4):h4:=bif Nat.beq k.cP cP then {k with ro:=true} else k
omit [a1] in
theorem adg (cP:Nat) (k:h4):vd cP (vd cP k)=vd cP k:=by
 unfold vd;cases h:Nat.beq k.cP cP<;>simp [h]
omit [a1] in
theorem IC (cP:Nat):∀(l:List Nat) (t dt:bV h4),CL cP l t=some dt->∀j,dt.get j=if j∈l then (t.get j).map (vd cP) else t.get j
 |[],t,dt,h,j=>by cases h;simp
 |m::r,t,dt,h,j=>by
  unfold CL at h;split at h
  ·rename_i k al
   cases aQ:Nat.beq k.cP cP with
   |true=>
    rw[aQ,bD] at h;split at h
    ·rename_i t1 adh
     have gO:=λj=>bV.ob _ _ _ _ _ j adh
     have nA:({k with ro:=true}:h4)=vd cP k:=by simp [vd,aQ]
     rw[IC cP r t1 dt h j,gO];by_cases ff:j=m
     ·subst ff
      rw[aY rfl,aY List.mem_cons_self,al,nA];split
      ·simp [adg]
      ·rfl
     ·rw[a' ff]
      have:(j∈m::r)↔j∈r:=by simp [ff]
      simp only [this]
    ·cases h
   |false=>
    rw[aQ,eB] at h;rw[IC cP r t dt h j];by_cases ff:j=m
    ·subst ff
     rw[aY List.mem_cons_self,al];have:vd cP k=k:=by simp [vd,aQ]
     split<;>simp [this]
    ·have:(j∈m::r)↔j∈r:=by simp [ff]
     simp only [this]
  ·rename_i al
   rw[IC cP r t dt h j];by_cases ff:j=m
   ·subst ff
    rw[aY List.mem_cons_self,al];split<;>rfl
   ·have:(j∈m::r)↔j∈r:=by simp [ff]
    simp only [this]
def a6.freeze (A:a6) (k:h4):Option a6:=
 match A.mem.get k.cP with
 |some l=>match CL k.cP l A.bl with
  |some t=>some {A with bl:=t,low:=l.foldl Nat.min A.low}
  |none=>none
 |none=>none
theorem adi (ao:b0 φ A w) {b n:Nat} {k:h4} {c:List J} {e:hP} (off:Nat) (al:A.bl.get b=some k) (fK:k.obj= .cells c) (dK:k.ro=false) (he:φ b=some e) (h:A.freeze k=some bh):
  cA φ A w φ bh (w.freeze ⟨e.bk,e.sh+off,none⟩ n):=by
 unfold a6.freeze at h;split at h
 ·rename_i l hl
  split at h
  ·rename_i t aL
   cases h;have gO:=IC _ _ _ _ aL;obtain⟨mP,adj⟩:=Ie l A.low;obtain⟨ey,hY,_,ho⟩:=ao.eC b e he;rw[al] at hY;cases hY;unfold fT at ho;simp only [fK] at ho;obtain⟨c',jk,ad,ag,ay,bG,cE⟩:=ho;have gH:∀j dS,t.get j=some dS->∃cm,A.bl.get j=some cm/\dS.cP=cm.cP/\dS.pos=cm.pos/\dS.eN=cm.eN/\dS.ty=cm.ty/\dS.obj=cm.obj/\dS.ro=(cm.ro||Nat.beq cm.cP k.cP):=by
    intro j dS hj;rw[gO] at hj;by_cases kE:j∈l
    ·rw[aY kE] at hj
     obtain⟨cm,q1,rfl⟩:=Option.map_eq_some_iff.1 hj;refine⟨cm,q1,?_⟩;unfold vd;cases aQ:Nat.beq cm.cP k.cP<;>simp
    ·rw[a' kE] at hj
     refine⟨dS,hj,rfl,rfl,rfl,rfl,rfl,?_⟩;cases aQ:Nat.beq dS.cP k.cP with
     |false=>simp
     |true=>
      exfalso;obtain⟨l',q1,aH⟩:=ao.wf.mem j dS hj;rw[cH aQ,hl] at q1;cases q1;exact kE aH
   have qq:∀i,i≠e.bk->(w.freeze ⟨e.bk,e.sh+off,none⟩ n).heap[i]? =w.heap[i]? :=λi ai=>by
    unfold World.freeze;split
    ·rfl
    ·simp only [Array.getElem?_modify]
     rw[a' (Ne.symm ai)]
   have MC:∃ID,(w.freeze ⟨e.bk,e.sh+off,none⟩ n).heap[e.bk]? =some (.cells c' k.ty ID):=by
    unfold World.freeze;split
    ·exact⟨jk,ad⟩
    ·simp only [Array.getElem?_modify,aY,ad,Option.map_some]
     exact⟨_,rfl⟩
   obtain⟨ID,MC⟩:=MC;refine {rel:=⟨⟨?_,?_,?_,?_⟩,?_,?_,?_,λi o ai=>⟨by rw[qq i (Ne.symm ((ao.dq i o ai).2 _ _ he))];exact(ao.dq i o ai).1,(ao.dq i o ai).2⟩⟩,eC:=λ_ _=>rfl,rN:=λb ad ag=>absurd ag (by show ¬b<A.n;omega),new:=λb e ad ag=>absurd (ao.lt ag) aj,qp:=cj _,low:=mP,same:= ?_,ro:= ?_,keep:= ?_,gL:= ?_,os:= ?_,tape:= ?_,output:= ?_,drawn:= ?_}
   ·intro j dS hj
    obtain⟨cm,q1,_⟩:=gH j dS hj;exact ao.wf.lt j cm q1
   ·intro j dS hj
    obtain⟨cm,q1,aH,_⟩:=gH j dS hj;rw[aH];exact ao.wf.tQ j cm q1
   ·intro j dS hj
    obtain⟨cm,q1,aH,_⟩:=gH j dS hj;rw[aH];exact ao.wf.mem j cm q1
   ·intro j pP fM pQ hj gY aQ
    obtain⟨cm,q1,aH,_,_,_,_,bW⟩:=gH j pP hj;obtain⟨dS,u9,Aw,_,_,_,_,sO⟩:=gH fM pQ gY;rw[aH,Aw] at aQ;rw[bW,sO,ao.wf.u2 j cm fM dS q1 u9 aQ,aQ]
   ·intro j gi hj
    obtain⟨cm,hZ,wD,iu⟩:=ao.eC j gi hj;obtain⟨dS,Uo⟩:∃dS,t.get j=some dS:=by
     rw[gO];split
     ·rw[hZ];exact⟨_,rfl⟩
     ·exact⟨cm,hZ⟩
    obtain⟨dj,q1,aH,bW,et,gN,j_,nB⟩:=gH j dS Uo;rw[hZ] at q1;cases q1;refine⟨dS,Uo,by rw[et];exact wD,?_⟩;by_cases jR:gi.bk=e.bk
    ·have oc:cm.cP=k.cP:=by
      rcases Nat.lt_trichotomy cm.cP k.cP with h|h|h
      ·exact absurd jR (ao.apart j gi cm b e k hj he hZ al aj)
      ·exact h
      ·exact absurd jR (ao.apart j gi cm b e k hj he hZ al aj)
     have adk:dS.ro=true:=by rw[nB,oc];simp
     unfold fT at iu ⊢;rw[j_];cases ig:cm.obj with
     |cells Ax=>
      simp only [ig] at iu ⊢;obtain⟨EA,EB,cO,dx,gh,u3,y_⟩:=iu;rw[jR,ad] at cO;simp only [cN,Obj.cells.injEq] at cO;obtain⟨rfl,hty,rfl⟩:=cO;refine⟨c',ID,by rw[jR,gN,<-hty];exact MC,dx,by rw[et];exact gh,u3,λah=> ?_⟩;rw[adk] at ah;cases ah
     |map es e4=>
      simp only [ig] at iu;obtain⟨du,cO,_⟩:=iu;rw[jR,ad] at cO;cases cO
     |gu x=>
      simp only [ig] at iu;obtain⟨_,o',cO,dx⟩:=iu;rw[jR,ad] at cO;cases cO;exact absurd dx λh=>rM.TH h
    ·have:=iu.mono (w':=w.freeze ⟨e.bk,e.sh+off,none⟩ n) (λ_ _ h=>h) (qq _ jR)
     unfold fT at this ⊢;rw[j_];cases ig:cm.obj with
     |cells Ax=>
      simp only [ig] at this ⊢;obtain⟨EA,EB,cO,dx,gh,u3,y_⟩:=this;refine⟨EA,EB,by rw[gN];exact cO,dx,by rw[et];exact gh,u3,λah=>y_ ?_⟩;rw[nB] at ah;simp only [Bool.or_eq_false_iff] at ah;exact ah.1
     |map es e4=>
      simp only [ig] at this ⊢;exact this
     |gu x=>
      simp only [ig] at this ⊢;exact this
   ·intro j gi pP fM q2 pQ q1 aH hj gY cW
    obtain⟨cm,cO,dx,_⟩:=gH j pP hj;obtain⟨dS,uc,ve,_⟩:=gH fM pQ gY;exact ao.apart j gi cm fM q2 dS q1 aH cO uc (by rw[<-dx,<-ve];exact cW)
   ·intro j gi pP fM q2 pQ q1 aH hj gY aQ af
    obtain⟨cm,cO,dx,gh,_⟩:=gH j pP hj;obtain⟨dS,uc,ve,CM,_⟩:=gH fM pQ gY;rw[gh,CM];exact ao.along j gi cm fM q2 dS q1 aH cO uc (by rw[<-dx,<-ve];exact aQ) af
   ·intro j hj kE
    show t.get j=_;rw[gO,a'];intro hm;have:=adj j hm;exact absurd kE (by show ¬j<l.foldl Nat.min A.low;omega)
   ·intro j cm hZ rQ
    show t.get j=_;rw[gO];split
    ·rw[hZ]
     simp only [Option.map_some,cN];unfold vd;cases aQ:Nat.beq cm.cP k.cP with
     |false=>rfl
     |true=>
      obtain⟨iw,f1,ih,s1,aoo,t1⟩:=cm;simp only at rQ;subst rQ;rfl
    ·exact hZ
   ·intro i ai lr
    refine qq i λqs=> ?_
    have:=lr b e k he qs.symm al;rw[dK] at this;cases this
   ·unfold World.freeze;split
    ·exact cj _
    ·simp
   all_goals (unfold World.freeze;split<;>first|rfl|exact cj _)
  ·cases h
 ·cases h
def MD (P:aR) (A:a6) (c0:Array aK) (x n:J):Option (J×a6):=
 match c0[0]?,x,n with
 |some Up,.pointer (some ⟨b,off,none⟩),.int _ n=>match bg P (elemOf Up),A.bl.get b with
  |some u,some k=>match k.obj with
   | .cells _=>
     bif decide (0<n)&&decide (n<=16777216)&&Nat.beq (P.cellsOf k.ty) 1&&sameLayout P P.depth k.ty u&& !k.ro then
      match A.rR b off n.toNat with
      |some l=>match MB l .empty,A.freeze k with
       |some s,some bC=>some (.string s,bC)
       |_,_=>none
      |none=>none
     else none
   |_=>none
  |_,_=>none
 |_,_,_=>none
theorem adl (ao:b0 φ A w) {c0:Array aK} {ty:aK} {x x' n v:J} (aq:aD φ x x') (h:MD P A c0 x n=some (v,bh)):b5 (hQ v) P φ A w (Builtin.unsafeString_ c0 ty #[x',n]) bh:=by
 unfold MD at h;split at h
 ·rename_i Up b off dj n adn
  split at h
  ·rename_i u k hu al
   split at h
   ·rename_i c fK
    cases ar:(decide (0<n)&&decide (n<=16777216)&&Nat.beq (P.cellsOf k.ty) 1&&sameLayout P P.depth k.ty u&& !k.ro) with
    |false=>rw[ar] at h;cases h
    |true=>
     rw[ar,bD] at h;simp only [c7,decide_eq_true_eq,Bool.not_eq_true'] at ar;obtain⟨⟨⟨⟨e_,h5⟩,xM⟩,Uq⟩,dK⟩:=ar;have xM:P.cellsOf k.ty=1:=cH xM;split at h
     ·rename_i l hl
      split at h
      ·rename_i s bC aw aQ
       simp only [cN,Prod.mk.injEq] at h;obtain⟨rfl,rfl⟩:=h;cases aq with
       |ptr he=>
        rename_i e;obtain⟨hlen,va⟩:=Ay hl;obtain⟨k',dB,_,ho⟩:=ao.eC b e he;rw[al] at dB;cases dB;unfold fT at ho;simp only [fK] at ho;obtain⟨c',jk,ad,ag,ay,bG,cE⟩:=ho;have qv:off+n.toNat<=c.length:=by
         have aA:=va (n.toNat-1) aj;unfold a6.load at aA;rw[al] at aA;obtain⟨tS,cP,pos,st,ro,aop⟩:=k;simp only at fK;subst fK;simp only at aA;have:=(List.getElem?_eq_some_iff.1 aA).1;omega
        have fw:=adf (P:=P) ao he l off .empty s (λj hj=>va j aj) aw;have pR:=adi (n:=n.toNat) ao off al fK dK he aQ;refine⟨φ,_,.string s,?_,.string s,pR⟩;have Mz:liesAt P P.depth k.ty (c'.size/P.cellsOf k.ty) (e.sh+off) u n.toNat=true:=by
         obtain⟨d,bc⟩:∃d,P.depth=d+1:=⟨_,rfl⟩;rw[bc] at Uq ⊢;unfold liesAt rowAt;rw[bc];simp only [xM,Nat.div_one,Nat.mod_one,beq_self_eq_true,Bool.true_and];have:decide (e.sh+off+n.toNat<=c'.size)=true:=eH aj;simp [this,Uq]
        have aC:(variablesAt ⟨e.bk,e.sh+off,none⟩ u n.toNat).run P w= .ok true w:=by
         unfold variablesAt;refine c4 (a:=P) rfl ?_;refine dm (IB ad) ?_;simp only [Mz];rfl
        refine c4 (s:=asInt (.int dj n)) (a:=n) rfl ?_;have xN:¬n>IntKind.i64.max:=by
         have:(16777216:Int)<=IntKind.i64.max:=by decide
         omega
        simp only [adn];rw[a' aj,a' xN,a' aj];refine c4 hu ?_;refine dm aC ?_;rw[aY rfl];refine dm (by rw[<-hlen];exact fw) ?_;rfl
      ·cases h
     ·cases h
   ·cases h
  ·cases h
 ·cases h
def ME (P:aR) (A:a6) (c0:Array aK) (x:J):Option a6:=
 match c0[0]? with
 |some t=>match bg P (underlying t),x with
  |some (.slice _),.slice none _ _=>some A
  |some (.slice elem),.slice (some ⟨b,off,none⟩) n _=>bif Nat.beq n 0 then some A else
    match bg P (zeroValue elem) with
    |some z=>bif plain z&&(cellsOf z).isSome&&Nat.blt 0 z.cells.size then A.q3 b off (Builtin.zeroCells z.cells n).toList else none
    |none=>none
  |_,_=>none
 |none=>none
theorem ado (ao:b0 φ A w) {c0:Array aK} {ty:aK} {x x':J} (aq:aD φ x x') (h:ME P A c0 x=some bh):b5 (hQ undef) P φ A w (Builtin.clear_ c0 ty #[x']) bh:=by
 unfold ME at h;split at h
 ·rename_i t aL
  split at h
  ·rename_i e l c hu
   cases h;cases aq;refine⟨φ,w,undef,?_,aD.y' φ,cA.refl ao⟩;unfold Builtin.clear_;simp only [aL,List.getElem?_toArray,List.getElem?_cons_zero];exact c4 hu rfl
  ·rename_i elem b off n c hu
   have adp:∃a7 c',x'= .slice (some a7) n c':=by
    cases aq with
    |iD _ _ h=>exact⟨_,_,rfl⟩
    |iE _ _ _ h _ _ _=>exact⟨_,_,rfl⟩
    |iZ a7 _=>exact⟨_,_,rfl⟩
   cases av:Nat.beq n 0 with
   |true=>
    rw[av] at h;cases h;have e_:n=0:=cH av;subst e_;obtain⟨a7,c',rfl⟩:=adp;refine⟨φ,w,undef,?_,aD.y' φ,cA.refl ao⟩;unfold Builtin.clear_;simp only [aL,List.getElem?_toArray,List.getElem?_cons_zero];exact c4 hu rfl
   |false=>
    rw[av,eB] at h;have e_:n≠0:=λe=>by subst e;simp at av
    split at h
    ·rename_i z bU
     cases ar:(plain z&&(cellsOf z).isSome&&Nat.blt 0 z.cells.size) with
     |false=>rw[ar] at h;cases h
     |true=>
      rw[ar,bD] at h;simp only [c7] at ar;have rT:=Nat.blt_eq.mp ar.2;have qu:=Im ar.1.1 ar.1.2 φ;have ki:∀j,j<(Builtin.zeroCells z.cells n).toList.length->aD φ ((Builtin.zeroCells z.cells n).toList.getD j undef) ((Builtin.zeroCells z.cells n).toList.getD j undef):=by
       intro j hj;unfold Builtin.zeroCells at hj ⊢;simp at hj;have hm:=Nat.mod_lt j rT;have:=qu (j%z.cells.size) hm;simp only [fh] at this;simpa [dp,hj,hm,getElem!_pos] using this
      have main:∀(e:hP) (c':Nat),φ b=some e->x'= .slice (some ⟨e.bk,e.sh+off,none⟩) n c'->b5 (hQ undef) P φ A w (Builtin.clear_ c0 ty #[x']) bh:=by
       intro e c' he rY;obtain⟨w',g1,g2⟩:=CD P he _ A bh w off 0 (Builtin.zeroCells z.cells n).toList ao (by simpa using h) rfl ki;refine⟨φ,w',undef,?_,aD.y' φ,g2⟩;subst rY;unfold Builtin.clear_;simp only [aL,List.getElem?_toArray,List.getElem?_cons_zero];refine c4 hu ?_;obtain⟨ga,rfl⟩:∃ga,n=ga+1:=⟨n-1,aj⟩;refine c4 bU ?_;exact dm (by simpa using g1) rfl
      cases aq with
      |iD _ _ he=>exact main _ _ he rfl
      |iE _ _ _ he _ _ _=>exact main _ _ he rfl
      |iZ a7 _=>exact absurd rfl e_
    ·cases h
  ·cases h
 ·cases h
end
end AE
namespace AE
variable [a1]
def a6.AI (A:a6) (b:Nat):Option (List kg×Nat):=
 match A.bl.get b with
 |some k=>match k.obj with
  | .map es e4=>some (es,e4)
  |_=>none
 |none=>none
def a6.xO (A:a6) (b:Nat) (es:List kg) (e4:Nat):Option a6:=
 match A.bl.get b with
 |some k=>match k.obj,A.mem.get k.cP with
  | .map _ _,some [m]=>bif Nat.beq m b&& !k.ro then
      match bV.set {k with obj:= .map es e4} depth A.bl b with
      |some t=>some {A with bl:=t,low:=Nat.min A.low b}
      |none=>none
    else none
  |_,_=>none
 |none=>none
def a6.MF (A:a6) (b:Nat):Option (ByteArray×Nat):=
 match A.bl.get b with
 |some k=>match k.obj with
  | .gu (.xE s p)=>some (s,p)
  |_=>none
 |none=>none
def a6.setIter (A:a6) (b:Nat) (s:ByteArray) (p:Nat):Option a6:=
 match A.bl.get b with
 |some k=>match k.obj,A.mem.get k.cP with
  | .gu _,some [m]=>bif Nat.beq m b&& !k.ro then
      match bV.set {k with obj:= .gu (.xE s p)} depth A.bl b with
      |some t=>some {A with bl:=t,low:=Nat.min A.low b}
      |none=>none
    else none
  |_,_=>none
 |none=>none
def lA (φ:b2) (es:List kg) (du:Array MapEntry):Prop:=
 es.length=du.size/\∀(j:Nat) (a:kg) (b:MapEntry),es[j]? =some a->du[j]? =some b->plain a.key=true/\a.key=b.key/\aD φ a.val b.val/\a.born=b.born
section
variable {P:aR} {φ:b2} {A bh:a6} {w:ax}
theorem ET (ao:b0 φ A w) {b:Nat} {es:List kg} {e4:Nat} {e:hP} (h:A.AI b=some (es,e4)) (he:φ b=some e):∃du,w.heap[e.bk]? =some (.map du e4)/\lA φ es du:=by
 unfold a6.AI at h;split at h
 ·rename_i k al
  obtain⟨k',dB,_,ho⟩:=ao.eC b e he;rw[al] at dB;cases dB;split at h
  ·rename_i CN aoq fK
   cases h;simp only [fT,fK] at ho;obtain⟨du,ad,ag,ay⟩:=ho;exact⟨du,ad,ag,ay⟩
  ·cases h
 ·cases h
theorem adq (ao:b0 φ A w) {b p:Nat} {s:ByteArray} {e:hP} (h:A.MF b=some (s,p)) (he:φ b=some e):e.sh=0/\w.heap[e.bk]? =some (.stringIter s p):=by
 unfold a6.MF at h;split at h
 ·rename_i k al
  obtain⟨k',dB,_,ho⟩:=ao.eC b e he;rw[al] at dB;cases dB;split at h
  ·rename_i aN sQ fK
   cases h;simp only [fT,fK] at ho;obtain⟨h0,o',ad,ag⟩:=ho;simp only [rM] at ag;exact⟨h0,by rw[ad,ag]⟩
  ·cases h
 ·cases h
theorem Ur (ao:b0 φ A w) {b:Nat} {k:h4} {o:qZ} {t:bV h4} {e:hP} {o':Obj} (he:φ b=some e) (al:A.bl.get b=some k) (mQ:A.mem.get k.cP=some [b]) (dK:k.ro=false) (aL:bV.set {k with obj:=o} depth A.bl b=some t)
  (_:∀w',w'.heap[e.bk]? =some o'->fT φ w' e k->fT φ w' e {k with obj:=o}\/True) (AF:∀w',w'.heap[e.bk]? =some o'->fT φ w' e {k with obj:=o}):
  cA φ A w φ {A with bl:=t,low:=Nat.min A.low b} {w with heap:=w.heap.setIfInBounds e.bk o'}:=by
 have gO:=λj=>bV.ob _ _ _ _ _ j aL
 obtain⟨ey,hY,c1,CO⟩:=ao.eC b e he;rw[al] at hY;cases hY;have ck:=CO.lt;have MG:∀j cm,A.bl.get j=some cm->cm.cP=k.cP->j=b:=by
  intro j cm hj aQ;obtain⟨l,q1,aH⟩:=ao.wf.mem j cm hj;rw[aQ,mQ] at q1;cases q1;simpa using aH
 have cW:∀j gi,j≠b->φ j=some gi->gi.bk≠e.bk:=by
  intro j gi hj ie;obtain⟨cm,hZ,_,_⟩:=ao.eC j gi ie;exact ao.apart j gi cm b e k ie he hZ al λaQ=>hj (MG j cm hZ aQ)
 have qq:∀i,i≠e.bk->(w.heap.setIfInBounds e.bk o')[i]? =w.heap[i]? :=λi ai=>by
  rw[Array.getElem?_setIfInBounds_ne (Ne.symm ai)]
 have gH:∀j dS,t.get j=some dS->∃cm,A.bl.get j=some cm/\dS.cP=cm.cP/\dS.pos=cm.pos/\dS.ro=cm.ro:=by
  intro j dS hj;rw[gO] at hj;by_cases ff:j=b
  ·rw[aY ff] at hj
   cases hj;subst ff;exact⟨k,al,rfl,rfl,rfl⟩
  ·rw[a' ff] at hj
   exact⟨dS,hj,rfl,rfl,rfl⟩
 refine {rel:=⟨⟨?_,?_,?_,?_⟩,?_,?_,?_,λi o ai=>⟨by rw[qq i (Ne.symm ((ao.dq i o ai).2 _ _ he))];exact(ao.dq i o ai).1,(ao.dq i o ai).2⟩⟩,eC:=λ_ _=>rfl,rN:=λb ad ag=>absurd ag (by show ¬b<A.n;omega),new:=λb e ad ag=>absurd (ao.lt ag) aj,qp:=cj _,low:=Nat.min_le_left _ _,same:= ?_,ro:= ?_,keep:= ?_,gL:=by simp,os:=rfl,tape:=rfl,output:=rfl,drawn:=cj _}
 ·intro j dS hj
  obtain⟨cm,q1,_⟩:=gH j dS hj;exact ao.wf.lt j cm q1
 ·intro j dS hj
  obtain⟨cm,q1,aH,_⟩:=gH j dS hj;rw[aH];exact ao.wf.tQ j cm q1
 ·intro j dS hj
  obtain⟨cm,q1,aH,_⟩:=gH j dS hj;rw[aH];exact ao.wf.mem j cm q1
 ·intro j pP fM pQ hj gY aQ
  obtain⟨cm,q1,aH,_,bW⟩:=gH j pP hj;obtain⟨dS,u9,Aw,_,sO⟩:=gH fM pQ gY;rw[bW,sO];exact ao.wf.u2 j cm fM dS q1 u9 (by rw[<-aH,<-Aw];exact aQ)
 ·intro j gi hj
  by_cases ff:j=b
  ·subst ff
   rw[he] at hj;cases hj;exact⟨{k with obj:=o},by rw[gO,aY rfl],c1,AF _ (by show (w.heap.setIfInBounds e.bk o')[e.bk]? =_;rw[Array.getElem?_setIfInBounds_self_of_lt ck])⟩
  ·obtain⟨cm,hZ,wD,iu⟩:=ao.eC j gi hj
   exact⟨cm,by rw[gO,a' ff];exact hZ,wD,iu.mono (λ_ _ h=>h) (qq _ (cW j gi ff hj))⟩
 ·intro j gi pP fM q2 pQ q1 aH hj gY nC
  obtain⟨cm,cO,dx,_⟩:=gH j pP hj;obtain⟨dS,uc,ve,_⟩:=gH fM pQ gY;exact ao.apart j gi cm fM q2 dS q1 aH cO uc (by rw[<-dx,<-ve];exact nC)
 ·intro j gi pP fM q2 pQ q1 aH hj gY aQ af
  obtain⟨cm,cO,dx,gh,_⟩:=gH j pP hj;obtain⟨dS,uc,ve,CM,_⟩:=gH fM pQ gY;rw[gh,CM];exact ao.along j gi cm fM q2 dS q1 aH cO uc (by rw[<-dx,<-ve];exact aQ) af
 ·intro j hj kE
  show t.get j=_;rw[gO,a'];intro ff;subst ff;exact absurd (Nat.lt_of_lt_of_le kE (Nat.min_le_right A.low j)) (Nat.lt_irrefl j)
 ·intro j cm hZ rQ
  show t.get j=_;rw[gO,a']
  ·exact hZ
  ·intro ff
   subst ff;rw[al] at hZ;cases hZ;rw[dK] at rQ;cases rQ
 ·intro i ai lr
  refine qq i λqs=> ?_
  have:=lr b e k he qs.symm al;rw[dK] at this;cases this
theorem AJ (ao:b0 φ A w) {b:Nat} {es:List kg} {du:Array MapEntry} {e4:Nat} {e:hP} (he:φ b=some e) (h:A.xO b es e4=some bh) (gE:lA φ es du):cA φ A w φ bh {w with heap:=w.heap.setIfInBounds e.bk (.map du e4)}:=by
 unfold a6.xO at h;split at h
 ·rename_i k al
  split at h
  ·rename_i fO vf m fK mQ
   cases ar:(Nat.beq m b&& !k.ro) with
   |false=>rw[ar] at h;cases h
   |true=>
    rw[ar,bD] at h;simp only [c7,Bool.not_eq_true'] at ar;have EU:m=b:=cH ar.1;subst EU;split at h
    ·rename_i t aL
     cases h;exact Ur ao he al mQ ar.2 aL (λ_ _ _=> .inr trivial) λw' ED=>by
      simp only [fT];exact⟨du,ED,gE.1,gE.2⟩
    ·cases h
  ·cases h
 ·cases h
theorem adr (ao:b0 φ A w) {b p:Nat} {s:ByteArray} {e:hP} (he:φ b=some e) (h0:e.sh=0) (h:A.setIter b s p=some bh):cA φ A w φ bh {w with heap:=w.heap.setIfInBounds e.bk (.stringIter s p)}:=by
 unfold a6.setIter at h;split at h
 ·rename_i k al
  split at h
  ·rename_i fO m fK mQ
   cases ar:(Nat.beq m b&& !k.ro) with
   |false=>rw[ar] at h;cases h
   |true=>
    rw[ar,bD] at h;simp only [c7,Bool.not_eq_true'] at ar;have EU:m=b:=cH ar.1;subst EU;split at h
    ·rename_i t aL
     cases h;exact Ur ao he al mQ ar.2 aL (λ_ _ _=> .inr trivial) λw' ED=>by
      simp only [fT];exact⟨h0,_,ED,rfl⟩
    ·cases h
  ·cases h
 ·cases h
def vg (es:List kg):List MapEntry:=es.map λe=>{key:=e.key,val:= .bool false,born:=0}
omit [a1] in
theorem Us (kind:TypeDesc) (key:J):∀(es:List kg) (du:List MapEntry) (i:Nat),es.map (·.key)=du.map (·.key)->
  match Instr.findNow kind key (vg es) i with
  |none=>Instr.findNow kind key du i=none
  |some none=>Instr.findNow kind key du i=some none
  |some (some (j,_))=>∃b,i<=j/\du[j-i]? =some b/\Instr.findNow kind key du i=some (some (j,b.val))
 |[],[],i,_=>by simp [vg,Instr.findNow]
 |[],_::_,_,h=>by simp at h
 |_::_,[],_,h=>by simp at h
 |a::r,b::ek,i,h=>by
  simp only [List.map_cons,List.cons.injEq] at h;have cz:=Us kind key r ek (i+1) h.2;have bc:vg (a::r)={key:=a.key,val:= .bool false,born:=0}::vg r:=rfl;rw[bc];unfold Instr.findNow;simp only;rw[h.1];cases aw:Instr.sameNow kind key b.key with
  |none=>simp
  |some t=>
   cases t with
   |true=>
    simp only;exact⟨b,cj _,by simp,rfl⟩
   |false=>
    simp only;cases aQ:Instr.findNow kind key (vg r) (i+1) with
    |none=>rw[aQ] at cz;exact cz
    |some o=>cases o with
     |none=>rw[aQ] at cz;exact cz
     |some p=>
      obtain⟨j,u⟩:=p;rw[aQ] at cz;obtain⟨b',ad,ag,ay⟩:=cz;exact⟨b',aj,by rw[show j-i=(j-(i+1))+1 by omega];exact ag,ay⟩
omit [a1] in
theorem Ut (hs:aK) (key:J):∀(es:List kg) (du:List MapEntry) (i:Nat) (r:Option (Nat×J)),es.map (·.key)=du.map (·.key)->bg P (Instr.findAsking hs key (vg es) i)=some r->
  match r with
  |none=>∀w,(Instr.findAsking hs key du i).run P w= .ok none w
  |some (j,_)=>∃b,i<=j/\du[j-i]? =some b/\∀w,(Instr.findAsking hs key du i).run P w= .ok (some (j,b.val)) w
 |[],[],i,r,_,h=>by
  simp only [vg,List.map_nil,Instr.findAsking] at h;cases h;exact λw=>rfl
 |[],_::_,_,_,h,_=>by simp at h
 |_::_,[],_,_,h,_=>by simp at h
 |a::l,b::l',i,r,al,h=>by
  simp only [List.map_cons,List.cons.injEq] at al;have bc:vg (a::l)={key:=a.key,val:= .bool false,born:=0}::vg l:=rfl;rw[bc] at h;unfold Instr.findAsking at h;rw[sP] at h;cases he:bg P (Op.equal hs key a.key) with
  |none=>rw[he] at h;cases h
  |some t=>
   rw[he] at h;simp only [Option.bind_some] at h;have oV:=jz (al.1▸he);cases t with
   |true=>
    simp only [if_true] at h;cases h;refine⟨b,cj _,by simp,λw=> ?_⟩;unfold Instr.findAsking;exact dm (oV w) (by simp only [if_true];rfl)
   |false=>
    simp only [Bool.false_eq_true,if_false] at h;have cz:=Ut hs key l l' (i+1) r al.2 h;cases r with
    |none=>
     intro w;unfold Instr.findAsking;exact dm (oV w) (by simp only [Bool.false_eq_true,if_false];exact cz w)
    |some p=>
     obtain⟨j,u⟩:=p;obtain⟨b',ad,ag,ay⟩:=cz;refine⟨b',aj,by rw[show j-i=(j-(i+1))+1 by omega];exact ag,λw=> ?_⟩;unfold Instr.findAsking;exact dm (oV w) (by simp only [Bool.false_eq_true,if_false];exact ay w)
def CP (P:aR) (hs:aK) (key:J) (es:List kg):Option (Option Nat):=(bg P (Instr.findKey hs key (vg es))).map (Option.map (·.1))
omit [a1] in
theorem zh {hs:aK} {key:J} {es:List kg} {du:List MapEntry} (al:es.map (·.key)=du.map (·.key)) {r:Option Nat} (h:CP P hs key es=some r):
  match (generalizing:=false) r with
  |none=>∀w,(Instr.findKey hs key du).run P w= .ok none w
  |some j=>∃b,du[j]? =some b/\∀w,(Instr.findKey hs key du).run P w= .ok (some (j,b.val)) w:=by
 unfold CP at h;rw[xD] at h;obtain⟨q,h,rfl⟩:=h;unfold Instr.findKey at h;rw[sP] at h;cases hu:bg P (underlying hs) with
 |none=>rw[hu] at h;cases h
 |some d=>
  rw[hu] at h;simp only [Option.bind_some] at h;have av:=Us d key es du 0 al;have IE:=jz hu;cases aQ:Instr.findNow d key (vg es) 0 with
  |none=>
   rw[aQ] at h av;simp only at h av;have ha:=Ut (P:=P) hs key es du 0 q al h;cases q with
   |none=>
    intro w;unfold Instr.findKey;exact dm (IE w) (by rw[av];exact ha w)
   |some p=>
    obtain⟨j,u⟩:=p;obtain⟨b,_,ag,ay⟩:=ha;refine⟨b,by simpa using ag,λw=> ?_⟩;unfold Instr.findKey;exact dm (IE w) (by rw[av];exact ay w)
  |some o=>
   rw[aQ] at h av;simp only at h;have fu:o=q:=by
    have:some o=some q:=h;cases this;rfl
   subst fu;cases o with
   |none=>
    intro w;unfold Instr.findKey;exact dm (IE w) (by rw[av];rfl)
   |some p=>
    obtain⟨j,u⟩:=p;obtain⟨b,_,ag,ay⟩:=av;refine⟨b,by simpa using ag,λw=> ?_⟩;unfold Instr.findKey;exact dm (IE w) (by rw[ay];rfl)
theorem lA.keys {es:List kg} {du:Array MapEntry} (h:lA φ es du):es.map (·.key)=du.toList.map (·.key):=by
 refine List.ext_getElem? λj=> ?_
 simp only [List.getElem?_map,Array.getElem?_toList];cases ad:es[j]? with
 |none=>
  have:du[j]? =none:=by
   rw[Array.getElem?_eq_none_iff,<-h.1];exact List.getElem?_eq_none_iff.1 ad
  rw[this];rfl
 |some a=>
  have ck:j<du.size:=by rw[<-h.1];exact(List.getElem?_eq_some_iff.1 ad).1
  obtain⟨b,af⟩:∃b,du[j]? =some b:=⟨_,Array.getElem?_eq_getElem ck⟩;rw[af];simp only [Option.map_some,cN];exact(h.2 j a b ad af).2.1
theorem lA.isEmpty {es:List kg} {du:Array MapEntry} (h:lA φ es du):es.isEmpty=du.isEmpty:=by
 have:=h.1;cases es with
 |nil=>simp at this;simp [Array.isEmpty,<-this]
 |cons a r=>simp at this;simp [Array.isEmpty,<-this]
theorem lA.nil:lA φ [] #[]:=⟨rfl,λj a b h=>by simp at h⟩
def MH (P:aR) (A:a6) (t:aK) (r:Option J):Option (J×a6):=
 match (match r with
  |none=>some ()
  |some h=>match bg P (underlying t),bg P (asInt h) with
   |some (.map _ _),some _=>some ()
   |_,_=>none) with
 |some _=>match A.push (.map [] 0) 0 0 with
  |some (b,bC)=>some (.map (some b),bC)
  |none=>none
 |none=>none
theorem ads (ao:b0 φ A w) {t:aK} {r:Option J} {v:J} (h:MH P A t r=some (v,bh)):b5 (hQ v) P φ A w (Instr.makeMap t r) bh:=by
 unfold MH at h;split at h
 ·rename_i ar
  split at h
  ·rename_i b bC hp
   cases h;have c1:=CB (e:=⟨w.heap.size,0,0,0⟩) (o':= .map #[] 0) ao hp U U (by simp only [fT];exact⟨#[],by simp,rfl,λj a b h=>by simp at h⟩);have aC:aD (hn φ b ⟨w.heap.size,0,0,0⟩) (.map (some b)) (.map (some w.heap.size)):= .map (e:=⟨w.heap.size,0,0,0⟩) (by simp [hn]);refine⟨_,_,.map (some w.heap.size),?_,aC,c1⟩;unfold Instr.makeMap;cases r with
   |none=>rfl
   |some hint=>
    simp only at ar;split at ar
    ·rename_i a b' hu ai
     refine c4 hu ?_;simp only;refine c4 ai ?_;rfl
    ·cases ar
  ·cases h
 ·cases h
def mapOf (A:a6):J->Option (List kg)
 | .map none=>some []
 | .map (some b)=>(A.AI b).map (·.1)
 |_=>none
def IG (P:aR) (A:a6) (t:aK) (x fX:J) (ok:Bool):Option J:=
 bif plain fX then match bg P (underlying t) with
  |some (.map hs elem)=>match mapOf A x with
   |some es=>match bg P (Instr.checkKey es.isEmpty 10000 hs fX) with
    |some _=>match CP P hs fX es with
     |some (some j)=>match es[j]? with
      |some e=>some (bif ok then .tuple ⟨[e.val,.bool true]⟩ else e.val)
      |none=>none
     |some none=>match bg P (zeroValue elem) with
      |some z=>bif plain z then some (bif ok then .tuple ⟨[z,.bool false]⟩ else z) else none
      |none=>none
     |none=>none
    |none=>none
   |none=>none
  |_=>none
 else none
theorem Uu {a a7:J} (h:aD φ a a7) (b:Bool):aD φ (.tuple ⟨[a,.bool b]⟩) (.tuple #[a7,.bool b]):= .tuple _ _ rfl λi ai=>by
 have:i<2:=by simpa using ai
 rcases(by omega:i=0\/i=1) with rfl|rfl
 ·simpa using h
 ·simpa using aD.bool b
omit [a1] in
theorem II {t hs elem:aK} {x' fX z:J} {ok:Bool} {du:Array MapEntry} {u:Unit} {EV:Option (Nat×J)} (aq:(x'= .map none/\du= #[])\/∃r e4,x'= .map (some r)/\w.heap[r]? =some (.map du e4)) (hu:bg P (underlying t)=some (.map hs elem))
  (nD:bg P (Instr.checkKey du.isEmpty 10000 hs fX)=some u) (aQ:(Instr.findKey hs fX du.toList).run P w= .ok EV w) (bU:EV=none->bg P (zeroValue elem)=some z):
  (Instr.lookup t x' fX ok).run P w= .ok (match (generalizing:=false) EV with|some p=>(if ok then .tuple #[p.2,.bool true] else p.2)|none=>(if ok then .tuple #[z,.bool false] else z)) w:=by
 unfold Instr.lookup;refine c4 hu ?_;rcases aq with ⟨rfl,rfl⟩|⟨r,e4,rfl,aA⟩
 ·simp only
  refine dm (a:=(#[]:Array MapEntry)) (w1:=w) rfl ?_;refine c4 nD ?_;refine dm aQ ?_;cases EV with
  |some p=>
   obtain⟨j,v⟩:=p;simp only;refine dm (a:=(v,true)) (w1:=w) rfl ?_;cases ok<;>rfl
  |none=>
   simp only;refine c4 (bU rfl) ?_;refine dm (a:=(z,false)) (w1:=w) rfl ?_;cases ok<;>rfl
 ·simp only
  refine dm (rZ aA (by simp)) ?_;simp only;refine dm (a:=du) (w1:=w) rfl ?_;refine c4 nD ?_;refine dm aQ ?_;cases EV with
  |some p=>
   obtain⟨j,v⟩:=p;simp only;refine dm (a:=(v,true)) (w1:=w) rfl ?_;cases ok<;>rfl
  |none=>
   simp only;refine c4 (bU rfl) ?_;refine dm (a:=(z,false)) (w1:=w) rfl ?_;cases ok<;>rfl
theorem adt (ao:b0 φ A w) {t:aK} {x x' fX v:J} {ok:Bool} (aq:aD φ x x') (h:IG P A t x fX ok=some v):b5 (hQ v) P φ A w (Instr.lookup t x' fX ok) A:=by
 unfold IG at h;cases fB:plain fX with
 |false=>rw[fB] at h;cases h
 |true=>
  rw[fB,bD] at h;split at h
  ·rename_i hs elem hu
   split at h
   ·rename_i es t_
    split at h
    ·rename_i nD
     have zi:∃du:Array MapEntry,lA φ es du/\((x'= .map none/\du= #[])\/∃r e4,x'= .map (some r)/\w.heap[r]? =some (.map du e4)):=by
      unfold mapOf at t_;split at t_
      ·cases t_
       cases aq;exact⟨#[],lA.nil,.inl ⟨rfl,rfl⟩⟩
      ·rw[xD] at t_
       obtain⟨⟨CN,e4⟩,aA,rfl⟩:=t_;cases aq with
       |map he=>
        obtain⟨du,ad,ag⟩:=ET ao aA he;exact⟨du,ag,.inr ⟨_,_,rfl,ad⟩⟩
      ·cases t_
     obtain⟨du,gE,rY⟩:=zi;have Uv:bg P (Instr.checkKey du.isEmpty 10000 hs fX)=some ():=by rw[<-gE.isEmpty];exact nD
     split at h
     ·rename_i j hj
      split at h
      ·rename_i e xP
       simp only [cN] at h;subst h;obtain⟨b,af,aQ⟩:=zh gE.keys hj;rw[Array.getElem?_toList] at af;have aC:=(gE.2 j e b xP af).2.2.1;refine⟨φ,w,(if ok then .tuple #[b.val,.bool true] else b.val),II (z:=undef) rY hu Uv (aQ w) (λh=>by cases h),?_,cA.refl ao⟩;cases ok with
       |true=>exact Uu aC true
       |false=>exact aC
      ·cases h
     ·rename_i hj
      split at h
      ·rename_i z bU
       cases lu:plain z with
       |false=>rw[lu] at h;cases h
       |true=>
        rw[lu,bD,cN] at h;subst h;have aQ:=zh gE.keys hj;refine⟨φ,w,(if ok then .tuple #[z,.bool false] else z),II rY hu Uv (aQ w) (λ_=>bU),?_,cA.refl ao⟩;cases ok with
        |true=>exact Uu (aD.kq φ z lu) false
        |false=>exact aD.kq φ z lu
      ·cases h
     ·cases h
    ·cases h
   ·cases h
  ·cases h
def EW (P:aR) (A:a6) (t:aK) (m key val:J):Option a6:=
 bif plain key then match bg P (underlying t),m with
  |some (.map hs _),.map (some b)=>match A.AI b with
   |some (es,e4)=>match bg P (Instr.checkKey false 10000 hs key),CP P hs key es with
    |some _,some (some j)=>match es[j]? with
     |some e=>bif Instr.sameBits 10000 e.key key then A.xO b (es.set j {e with key:=key,val:=val}) e4 else none
     |none=>none
    |some _,some none=>A.xO b (es++[{key:=key,val:=val,born:=e4}]) (e4+1)
    |_,_=>none
   |none=>none
  |_,_=>none
 else none
theorem lA.push {es:List kg} {du:Array MapEntry} (h:lA φ es du) {key val val':J} {e4:Nat} (al:plain key=true) (aC:aD φ val val'):lA φ (es++[{key:=key,val:=val,born:=e4}]) (du.push {key:=key,val:=val',born:=e4}):=by
 refine⟨by simp [h.1],λj a b ha af=> ?_⟩;rw[List.getElem?_append] at ha;rw[Array.getElem?_push] at af;by_cases hj:j<es.length
 ·rw[aY hj] at ha
  rw[a' (by rw[<-h.1];omega)] at af;exact h.2 j a b ha af
 ·rw[a' hj] at ha
  by_cases gY:j=du.size
  ·rw[aY gY] at af
   cases af;rw[show j-es.length=0 by rw[h.1];omega] at ha;simp only [List.getElem?_cons_zero,cN] at ha;subst ha;exact⟨al,rfl,aC,rfl⟩
  ·rw[a' gY] at af
   have:=(Array.getElem?_eq_some_iff.1 af).1;have:=h.1;omega
theorem lA.modify {es:List kg} {du:Array MapEntry} (h:lA φ es du) {j:Nat} {e:kg} (hj:es[j]? =some e) {key val val':J} (al:plain key=true) (aC:aD φ val val'):
  lA φ (es.set j {e with key:=key,val:=val}) (du.modify j λe=>{e with key:=key,val:=val'}):=by
 refine⟨by simp [h.1],λi a b ha af=> ?_⟩;rw[List.getElem?_set] at ha;rw[Array.getElem?_modify] at af;by_cases oj:j=i
 ·subst oj
  rw[aY rfl,aY (List.getElem?_eq_some_iff.1 hj).1] at ha;rw[aY rfl] at af;cases ha;rw[xD] at af;obtain⟨ct,eX,rfl⟩:=af;exact⟨al,rfl,aC,(h.2 j e ct hj eX).2.2.2⟩
 ·rw[a' oj] at ha
  rw[a' oj] at af;exact h.2 i a b ha af
omit [a1] in
theorem xQ {o o':Obj} {r:Nat} (h:w.heap[r]? =some o) (ar:∀c t f,o≠.cells c t f):(setObj r o').run P w= .ok () {w with heap:=w.heap.setIfInBounds r o'}:=by
 unfold setObj;simp only [Sem.run,h]
theorem Uw (ao:b0 φ A w) {t:aK} {m m' key val val':J} (hm:aD φ m m') (aC:aD φ val val') (h:EW P A t m key val=some bh):b5 (λ_ _=>True) P φ A w (Instr.mapUpdate t m' key val') bh:=by
 unfold EW at h;cases fB:plain key with
 |false=>rw[fB] at h;cases h
 |true=>
  rw[fB,bD] at h;split at h
  ·rename_i hs elem b hu
   split at h
   ·rename_i es e4 aA
    cases hm with
    |map he=>
     rename_i em;obtain⟨du,ad,gE⟩:=ET ao aA he;split at h
     ·rename_i j nD hj
      split at h
      ·rename_i e xP
       cases AK:Instr.sameBits 10000 e.key key with
       |false=>rw[AK] at h;cases h
       |true=>
        rw[AK,bD] at h;obtain⟨ct,af,aQ⟩:=zh gE.keys hj;rw[Array.getElem?_toList] at af;have MI:=(gE.2 j e ct xP af).2.1;refine⟨φ,_,(),?_,trivial,AJ ao he h (gE.modify xP fB aC)⟩;unfold Instr.mapUpdate;refine c4 hu ?_;simp only;refine dm (rZ ad (by simp)) ?_;simp only;refine c4 nD ?_;refine dm (aQ w) ?_;simp only;rw[show (((du[j]?).map (·.key)).getD key)=e.key by rw[af];exact MI.symm];refine dm (a:=key) (w1:=w) (by unfold Instr.keyThatStays;rw[aY AK];rfl) ?_;exact xQ ad (by simp)
      ·cases h
     ·rename_i nD hj
      have aQ:=zh gE.keys hj;refine⟨φ,_,(),?_,trivial,AJ ao he h (gE.push fB aC)⟩;unfold Instr.mapUpdate;refine c4 hu ?_;simp only;refine dm (rZ ad (by simp)) ?_;simp only;refine c4 nD ?_;refine dm (aQ w) ?_;simp only;exact xQ ad (by simp)
     ·cases h
    |_=>simp [ak,cu] at*
   ·cases h
  ·cases h
def IJ (P:aR) (A:a6) (t:aK) (m key:J):Option (J×a6):=
 bif plain key then match bg P (underlying t),m with
  |some (.map hs elem),.map (some b)=>match A.AI b with
   |some (es,e4)=>match bg P (Instr.checkKey false 10000 hs key),CP P hs key es with
    |some _,some (some j)=>match es[j]? with
     |some e=>bif Instr.sameBits 10000 e.key key then match A.xO b (es.set j {e with key:=key,val:=e.val}) e4 with
       |some bC=>some (.tuple ⟨[e.val,.int .i64 e.born]⟩,bC)
       |none=>none
      else none
     |none=>none
    |some _,some none=>match bg P (zeroValue elem) with
     |some z=>bif plain z then match A.xO b (es++[{key:=key,val:=z,born:=e4}]) (e4+1) with
       |some bC=>some (.tuple ⟨[z,.int .i64 e4]⟩,bC)
       |none=>none
      else none
     |none=>none
    |_,_=>none
   |none=>none
  |_,_=>none
 else none
theorem Ux {a a7:J} (h:aD φ a a7) (n:Int):aD φ (.tuple ⟨[a,.int .i64 n]⟩) (.tuple #[a7,.int .i64 n]):= .tuple _ _ rfl λi ai=>by
 have:i<2:=by simpa using ai
 rcases(by omega:i=0\/i=1) with rfl|rfl
 ·simpa using h
 ·simpa using aD.int .i64 n
theorem lA.adu {es:List kg} {du:Array MapEntry} (h:lA φ es du) {j:Nat} {e:kg} (hj:es[j]? =some e) {key:J} (al:plain key=true):
  lA φ (es.set j {e with key:=key,val:=e.val}) (du.modify j λe=>{e with key:=key}):=by
 refine⟨by simp [h.1],λi a b ha af=> ?_⟩;rw[List.getElem?_set] at ha;rw[Array.getElem?_modify] at af;by_cases oj:j=i
 ·subst oj
  rw[aY rfl,aY (List.getElem?_eq_some_iff.1 hj).1] at ha;rw[aY rfl] at af;cases ha;rw[xD] at af;obtain⟨ct,eX,rfl⟩:=af;exact⟨al,rfl,(h.2 j e ct hj eX).2.2.1,(h.2 j e ct hj eX).2.2.2⟩
 ·rw[a' oj] at ha
  rw[a' oj] at af;exact h.2 i a b ha af
theorem adv (ao:b0 φ A w) {t:aK} {m m' key v:J} (hm:aD φ m m') (h:IJ P A t m key=some (v,bh)):b5 (hQ v) P φ A w (Instr.mapEntry t m' key) bh:=by
 unfold IJ at h;cases fB:plain key with
 |false=>rw[fB] at h;cases h
 |true=>
  rw[fB,bD] at h;split at h
  ·rename_i hs elem b hu
   split at h
   ·rename_i es e4 aA
    cases hm with
    |map he=>
     rename_i em;obtain⟨du,ad,gE⟩:=ET ao aA he;split at h
     ·rename_i j nD hj
      split at h
      ·rename_i e xP
       cases AK:Instr.sameBits 10000 e.key key with
       |false=>rw[AK] at h;cases h
       |true=>
        rw[AK,bD] at h;split at h
        ·rename_i bC fg
         cases h;obtain⟨ct,af,aQ⟩:=zh gE.keys hj;rw[Array.getElem?_toList] at af;obtain⟨_,MI,adw,sM⟩:=gE.2 j e ct xP af;refine⟨φ,_,.tuple #[ct.val,.int .i64 e.born],?_,Ux adw _,AJ ao he fg (gE.adu xP fB)⟩;unfold Instr.mapEntry;refine c4 hu ?_;simp only;refine dm (rZ ad (by simp)) ?_;simp only;refine c4 nD ?_;refine dm (aQ w) ?_;simp only;rw[show (((du[j]?).map (·.key)).getD key)=e.key by rw[af];exact MI.symm];refine dm (a:=key) (w1:=w) (by unfold Instr.keyThatStays;rw[aY AK];rfl) ?_;refine dm (xQ ad (by simp)) ?_;rw[show ((du[j]?).map λx=>(x.born:Int)).getD 0=(e.born:Int) by rw[af,sM];rfl];rfl
        ·cases h
      ·cases h
     ·rename_i nD hj
      split at h
      ·rename_i z bU
       cases lu:plain z with
       |false=>rw[lu] at h;cases h
       |true=>
        rw[lu,bD] at h;split at h
        ·rename_i bC fg
         cases h;have aQ:=zh gE.keys hj;refine⟨φ,_,.tuple #[z,.int .i64 e4],?_,Ux (aD.kq φ z lu) _,AJ ao he fg (gE.push fB (aD.kq φ z lu))⟩;unfold Instr.mapEntry;refine c4 hu ?_;simp only;refine dm (rZ ad (by simp)) ?_;simp only;refine c4 nD ?_;refine dm (aQ w) ?_;simp only;refine c4 bU ?_;refine dm (xQ ad (by simp)) ?_;rfl
        ·cases h
      ·cases h
     ·cases h
    |_=>simp [ak,cu] at*
   ·cases h
  ·cases h
def MJ (es:List kg) (born:Int):Option Nat:=es.findIdx? λe=>(e.born:Int)==born
def IK (P:aR) (A:a6) (m CQ val:J):Option a6:=
 match m with
 | .map (some b)=>match A.AI b with
   |some (es,e4)=>bif plain CQ then match bg P (asInt CQ) with
    |some born=>match MJ es born with
     |some j=>match es[j]? with
      |some e=>A.xO b (es.set j {e with val:=val}) e4
      |none=>none
     |none=>none
    |none=>none
    else none
   |none=>none
 |_=>none
theorem lA.adx {es:List kg} {du:Array MapEntry} (h:lA φ es du) {j:Nat} {e:kg} (hj:es[j]? =some e) {val val':J} (aC:aD φ val val'):
  lA φ (es.set j {e with val:=val}) (du.modify j λe=>{e with val:=val'}):=by
 refine⟨by simp [h.1],λi a b ha af=> ?_⟩;rw[List.getElem?_set] at ha;rw[Array.getElem?_modify] at af;by_cases oj:j=i
 ·subst oj
  rw[aY rfl,aY (List.getElem?_eq_some_iff.1 hj).1] at ha;rw[aY rfl] at af;cases ha;rw[xD] at af;obtain⟨ct,eX,rfl⟩:=af;obtain⟨q1,aH,_,et⟩:=h.2 j e ct hj eX;exact⟨q1,aH,aC,et⟩
 ·rw[a' oj] at ha
  rw[a' oj] at af;exact h.2 i a b ha af
theorem lA.born {es:List kg} {du:Array MapEntry} (h:lA φ es du) (born:Int):du.findIdx? (λe=>(e.born:Int)==born)=MJ es born:=by
 unfold MJ;rw[show du.findIdx? (λe=>(e.born:Int)==born)=du.toList.findIdx? (λe=>(e.born:Int)==born) by obtain⟨l⟩:=du;simp];have af:es.map (·.born)=du.toList.map (·.born):=by
  refine List.ext_getElem? λj=> ?_
  simp only [List.getElem?_map,Array.getElem?_toList];cases ad:es[j]? with
  |none=>
   have:du[j]? =none:=by
    rw[Array.getElem?_eq_none_iff,<-h.1];exact List.getElem?_eq_none_iff.1 ad
   rw[this];rfl
  |some a=>
   have ck:j<du.size:=by rw[<-h.1];exact(List.getElem?_eq_some_iff.1 ad).1
   obtain⟨b,af⟩:∃b,du[j]? =some b:=⟨_,Array.getElem?_eq_getElem ck⟩;rw[af];simp only [Option.map_some,cN];exact(h.2 j a b ad af).2.2.2
 have e1:∀l:List MapEntry,l.findIdx? (λe=>(e.born:Int)==born)=(l.map (·.born)).findIdx? λ(n:Nat)=>(n:Int)==born:=λl=>by rw[List.findIdx?_map];rfl
 have e2:∀l:List kg,l.findIdx? (λe=>(e.born:Int)==born)=(l.map (·.born)).findIdx? λ(n:Nat)=>(n:Int)==born:=λl=>by rw[List.findIdx?_map];rfl
 rw[e1,e2,af]
theorem ady (ao:b0 φ A w) {t:aK} {m m' CQ val val':J} (hm:aD φ m m') (aC:aD φ val val') (h:IK P A m CQ val=some bh):b5 (λ_ _=>True) P φ A w (Instr.entryStore t m' CQ val') bh:=by
 unfold IK at h;split at h
 ·rename_i b
  split at h
  ·rename_i es e4 aA
   cases fB:plain CQ with
   |false=>rw[fB] at h;cases h
   |true=>
    rw[fB,bD] at h;cases hm with
    |map he=>
     rename_i em;obtain⟨du,ad,gE⟩:=ET ao aA he;split at h
     ·rename_i born aw
      split at h
      ·rename_i j hj
       split at h
       ·rename_i e xP
        refine⟨φ,_,(),?_,trivial,AJ ao he h (gE.adx xP aC)⟩;unfold Instr.entryStore;simp only;refine dm (rZ ad (by simp)) ?_;simp only;refine c4 aw ?_;rw[gE.born,hj];simp only;exact xQ ad (by simp)
       ·cases h
      ·cases h
     ·cases h
  ·cases h
 ·cases h
def IL (P:aR) (A:a6) (c0:Array aK) (m key:J):Option a6:=
 match c0[0]?,m with
 |some t,.map (some b)=>bif plain key then match bg P (underlying t) with
  |some (.map hs _)=>match A.AI b with
   |some (es,e4)=>match bg P (Instr.checkKey es.isEmpty 10000 hs key),CP P hs key es with
    |some _,some (some j)=>A.xO b (es.eraseIdx j) e4
    |some _,some none=>A.xO b es e4
    |_,_=>none
   |none=>none
  |_=>none
  else none
 |_,_=>none
theorem lA.erase {es:List kg} {du:Array MapEntry} (h:lA φ es du) (j:Nat):lA φ (es.eraseIdx j) (du.eraseIdxIfInBounds j):=by
 have hl:(du.eraseIdxIfInBounds j).toList=du.toList.eraseIdx j:=by
  unfold Array.eraseIdxIfInBounds;split
  ·simp
  ·rename_i kD
   rw[List.eraseIdx_of_length_le];simpa using kD
 refine⟨?_,λi a b ha af=> ?_⟩
 ·have ag:(du.eraseIdxIfInBounds j).size=(du.toList.eraseIdx j).length:=by rw[<-hl,Array.length_toList]
  rw[ag];simp only [List.length_eraseIdx,h.1,Array.length_toList]
 ·rw[<-Array.getElem?_toList,hl] at af
  rw[List.getElem?_eraseIdx] at ha af;split at ha
  ·rename_i ck
   rw[aY ck] at af;exact h.2 i a b ha (by simpa using af)
  ·rename_i kD
   rw[a' kD] at af;exact h.2 (i+1) a b ha (by simpa using af)
theorem adz (ao:b0 φ A w) {c0:Array aK} {ty:aK} {m m' key:J} (hm:aD φ m m') (h:IL P A c0 m key=some bh):b5 (hQ (.tuple ⟨[]⟩)) P φ A w (Builtin.delete_ c0 ty #[m',key]) bh:=by
 unfold IL at h;split at h
 ·rename_i t b aL
  cases fB:plain key with
  |false=>rw[fB] at h;cases h
  |true=>
   rw[fB,bD] at h;split at h
   ·rename_i hs elem hu
    split at h
    ·rename_i es e4 aA
     cases hm with
     |map he=>
      rename_i em;obtain⟨du,ad,gE⟩:=ET ao aA he;split at h
      ·rename_i j nD hj
       obtain⟨ct,af,aQ⟩:=zh gE.keys hj;refine⟨φ,_,.tuple #[],?_,.tuple _ _ rfl (λi ai=>absurd ai (by simp)),AJ ao he h (gE.erase j)⟩;unfold Builtin.delete_;simp only [aL,List.getElem?_toArray,List.getElem?_cons_zero,List.getElem?_cons_succ];refine c4 hu ?_;simp only;refine dm (rZ ad (by simp)) ?_;simp only;refine c4 (by rw[<-gE.isEmpty];exact nD) ?_;refine dm (aQ w) ?_;simp only;exact dm (xQ ad (by simp)) rfl
      ·rename_i nD hj
       have aQ:=zh gE.keys hj;refine⟨φ,_,.tuple #[],?_,.tuple _ _ rfl (λi ai=>absurd ai (by simp)),AJ ao he h gE⟩;unfold Builtin.delete_;simp only [aL,List.getElem?_toArray,List.getElem?_cons_zero,List.getElem?_cons_succ];refine c4 hu ?_;simp only;refine dm (rZ ad (by simp)) ?_;simp only;refine c4 (by rw[<-gE.isEmpty];exact nD) ?_;refine dm (aQ w) ?_;simp only;exact dm (xQ ad (by simp)) rfl
      ·cases h
    ·cases h
   ·cases h
 ·cases h
def MK (P:aR) (A:a6) (t:aK):J->Option (J×a6)
 | .string s=>match bg P (underlying t) with
   |some .string=>match A.push (.gu (.xE s 0)) 0 0 with
    |some (b,bC)=>some (.pointer (some ⟨b,0,none⟩),bC)
    |none=>none
   |_=>none
 |_=>none
theorem adA (ao:b0 φ A w) {t:aK} {x x' v:J} (aq:aD φ x x') (h:MK P A t x=some (v,bh)):b5 (hQ v) P φ A w (Instr.range t x') bh:=by
 unfold MK at h;split at h
 ·rename_i s
  cases aq;split at h
  ·rename_i hu
   split at h
   ·rename_i b bC hp
    cases h;have c1:=CB (e:=⟨w.heap.size,0,0,0⟩) (o':= .stringIter s 0) ao hp U U (by simp only [fT];exact⟨trivial,_,by simp,rfl⟩);have aC:aD (hn φ b ⟨w.heap.size,0,0,0⟩) (.pointer (some ⟨b,0,none⟩)) (.pointer (some ⟨w.heap.size,0,none⟩)):= .ptr (e:=⟨w.heap.size,0,0,0⟩) (by simp [hn]);refine⟨_,_,.pointer (some ⟨w.heap.size,0,none⟩),?_,aC,c1⟩;unfold Instr.range;refine c4 hu ?_;rfl
   ·cases h
  ·cases h
 ·cases h
def ML (A:a6) (it:J) (adB:Bool):Option (J×a6):=
 match it,adB with
 | .pointer (some ⟨b,0,none⟩),true=>match A.MF b with
   |some (s,p)=>bif Nat.blt p s.size then match A.setIter b s (p+(Utf8.decode s p).2) with
     |some bC=>some (.tuple ⟨[.bool true,.int .i64 p,.int .i32 (Utf8.decode s p).1]⟩,bC)
     |none=>none
    else some (.tuple ⟨[.bool false]⟩,A)
   |none=>none
 |_,_=>none
theorem adC (ao:b0 φ A w) {it Uy v:J} {st:Bool} {ty:aK} (aq:aD φ it Uy) (h:ML A it st=some (v,bh)):b5 (hQ v) P φ A w (Instr.next Uy st ty) bh:=by
 unfold ML at h;split at h
 ·rename_i b
  split at h
  ·rename_i s p aA
   cases aq with
   |ptr he=>
    rename_i e;obtain⟨h0,ad⟩:=adq ao aA he;rw[h0,Nat.zero_add];have od:(getObj e.bk).run P w= .ok (.stringIter s p) w:=rZ ad (by simp);cases af:Nat.blt p s.size with
    |true=>
     rw[af,bD] at h;have ck:p<s.size:=Nat.blt_eq.mp af;split at h
     ·rename_i bC fg
      cases h;refine⟨φ,_,_,?_,aD.kq φ _ (by simp [plain,pn]),adr ao he h0 fg⟩;unfold Instr.next
      simp only;refine dm od ?_;simp only [ck,if_true];refine dm (xQ ad (by simp)) ?_;rfl
     ·cases h
    |false=>
     rw[af,eB] at h;cases h;have kD:¬p<s.size:=λck=>by rw[Nat.blt_eq.mpr ck] at af;cases af
     refine⟨φ,w,.tuple #[.bool false],?_,aD.kq φ _ (by simp [plain,pn]),cA.refl ao⟩;unfold Instr.next
     simp only;refine dm od ?_;simp only [kD,if_false];rfl
  ·cases h
 ·cases h
end
end AE
namespace AE
variable [a1]
inductive sR where
 |value (v:J)
 |skip
 |enter (f:FuncId) (args:List J)
def wN:sR->b2->Next->Prop
 | .value v,φ,n=>∃aB,n= .value aB/\aD φ v aB
 | .skip,_,n=>n= .skip
 | .enter f args,φ,n=>∃gv:Array J,n= .enter f gv/\h6 args φ gv
def ud (P:aR) (s:Sem J):Option J:=
 match bg P s with
 |some v=>bif plain v then some v else none
 |none=>none
section
variable {P:aR} {φ:b2} {A bh:a6} {w:ax}
theorem CR (ao:b0 φ A w) {s:Sem J} {v:J} (h:ud P s=some v):b5 (hQ v) P φ A w s A:=by
 unfold ud at h;split at h
 ·rename_i u hu
  cases hp:plain u with
  |false=>rw[hp] at h;cases h
  |true=>
   rw[hp,bD,cN] at h;subst h;exact b5.pure_run ao hu (aD.kq φ u hp)
 ·cases h
def EX (P:aR) (s:Array J->Sem J) (args:List J):Option J:=
 bif pn args then ud P (s ⟨args⟩) else none
def MN (x:J):Option J:=
 match x with
 | .slice none _ _=>some (.pointer none)
 | .slice (some ⟨b,off,none⟩) _ c=>bif Nat.beq c 0 then none else some (.pointer (some ⟨b,off,none⟩))
 |_=>none
def MO (P:aR) (c0:Array aK) (x:J):Option J:=
 match c0[0]? with
 |some t=>match bg P (underlying t),x with
  |some (.slice _),.slice none _ c=>some (.int .i64 c)
  |some (.slice _),.slice (some _) _ _=>some cu
  |some (.array n _),_=>some (.int .i64 n)
  |_,_=>none
 |none=>none
def MP (P:aR) (A:a6) (b:Builtin) (c0:Array aK) (ty:aK) (args:List J):Option (J×a6):=
 match b,args with
 | .len,[x]=>match Mo P A c0 x with
   |some v=>some (v,A)
   |none=>match EX P (Builtin.len_ c0 ty) [x] with
    |some v=>some (v,A)
    |none=>none
 | .append,[s,x]=>L7 P A c0 s x
 | .copy,[d,s]=>Ml P A c0 d s
 | .cap,[x]=>(MO P c0 x).map (·,A)
 | .max,l=>(EX P (Builtin.max_ c0 ty) l).map (·,A)
 | .min,l=>(EX P (Builtin.min_ c0 ty) l).map (·,A)
 | .unsafeSliceData,[x]=>(MN x).map (·,A)
 | .clear,[x]=>match ME P A c0 x with
   |some bC=>some (undef,bC)
   |none=>none
 | .unsafeString,[x,n]=>bif plain n then MD P A c0 x n else none
 | .delete,[m,k]=>match IL P A c0 m k with
   |some bC=>some (.tuple ⟨[]⟩,bC)
   |none=>none
 |_,_=>none
theorem h6.eq {l:List J} {a:Array J} (hp:pn l=true) (h:h6 l φ a):a=⟨l⟩:=by
 obtain⟨MQ⟩:=a;have:MQ=l:=aD.EE (φ:=φ) l MQ hp (by simpa using h.1.symm) (λi ai=>by simpa [fh] using h.2 i ai);rw[this]
theorem MR (ao:b0 φ A w) {s:Array J->Sem J} {l:List J} {a:Array J} {v:J} (hl:h6 l φ a) (h:EX P s l=some v):b5 (hQ v) P φ A w (s a) A:=by
 unfold EX at h;cases hp:pn l with
 |false=>rw[hp] at h;cases h
 |true=>
  rw[hp,bD] at h;rw[hl.eq hp];exact CR ao h
theorem h6.one {x:J} {a:Array J} (h:h6 [x] φ a):∃x',a= #[x']/\aD φ x x':=by
 obtain⟨l⟩:=a;obtain⟨ad,ag⟩:=h
 match l,ad with
 |[x'],_=>exact⟨x',rfl,by simpa using ag 0 (by simp)⟩
theorem h6.two {x y:J} {a:Array J} (h:h6 [x,y] φ a):∃x' fN,a= #[x',fN]/\aD φ x x'/\aD φ y fN:=by
 obtain⟨l⟩:=a;obtain⟨ad,ag⟩:=h
 match l,ad with
 |[x',fN],_=>exact⟨x',fN,rfl,by simpa using ag 0 (by simp),by simpa using ag 1 (by simp)⟩
theorem adD (ao:b0 φ A w) {c0:Array aK} {ty:aK} {x x' v:J} (aq:aD φ x x') (h:MO P c0 x=some v):b5 (hQ v) P φ A w (Builtin.cap_ c0 ty #[x']) A:=by
 unfold MO at h;split at h
 ·rename_i t aL
  have hm:∀aB,(do match <-underlying t,x' with
   | .array n _,_=>pure (goInt n)
   | .pointer arr,_=>
     let .array n _ <-underlying arr|stuck "cap: pointer to array expected"
     pure (goInt n)
   | .slice _,.slice _ _ n=>pure (goInt n)
   | .chan _ _,.chan none=>pure (goInt 0)
   | .chan _ _,.chan (some r)=>
     let .chan n _ _ _ _ timer <-getObj r|stuck "cap: channel expected"
     pure (goInt (if timer then 0 else n))
   |_,_=>stuck "cap: array, pointer to array, slice or channel expected":Sem J).run P w= .ok aB w->(Builtin.cap_ c0 ty #[x']).run P w= .ok aB w:=by
   intro aB aC;rw[<-aC];unfold Builtin.cap_;simp only [aL];rfl
  split at h
  ·rename_i e l c hu
   simp only [cN] at h;subst h;cases aq;exact⟨φ,w,_,hm _ (c4 hu rfl),.int _ _,cA.refl ao⟩
  ·rename_i e a l c hu
   simp only [cN] at h;subst h;cases aq<;>exact⟨φ,w,_,hm _ (c4 hu rfl),.cu _,cA.refl ao⟩
  ·rename_i n e hu
   simp only [cN] at h;subst h;exact⟨φ,w,_,hm _ (c4 hu rfl),.int _ _,cA.refl ao⟩
  ·cases h
 ·cases h
theorem adE (ao:b0 φ A w) {c0:Array aK} {ty:aK} {x x' v:J} (aq:aD φ x x') (h:MN x=some v):b5 (hQ v) P φ A w (Builtin.unsafeSliceData_ c0 ty #[x']) A:=by
 unfold MN at h;split at h
 ·simp only [cN] at h
  subst h;cases aq;exact b5.ret ao .y9
 ·rename_i b off n c
  cases ar:Nat.beq c 0 with
  |true=>rw[ar] at h;cases h
  |false=>
   rw[ar,eB,cN] at h;subst h;have AL:c≠0:=λah=>by rw[ah] at ar;exact absurd ar cB
   have key:∀(a:Addr) (n c:Nat),c≠0->(Builtin.unsafeSliceData_ c0 ty #[.slice (some a) n c]).run P w= .ok (.pointer (some a)) w:=by
    intro a n c ar;have e:Builtin.unsafeSliceData_ c0 ty #[.slice (some a) n c]=(if c≠0 then pure (.pointer (some a)) else do
     if (<-viewAt a.block).isSome then pure (.pointer (some a)) else pure (.pointer (some ⟨<-newObj (.view a (<-elemOf ty)),0,none⟩))):=rfl
    rw[e,aY ar];rfl
   cases aq with
   |iZ=>exact absurd rfl AL
   |iD n c he=>exact⟨φ,w,_,key _ _ _ AL,.ptr he,cA.refl ao⟩
   |iE n c c' he ad ag ay=>exact⟨φ,w,_,key _ _ _ aj,.ptr he,cA.refl ao⟩
 ·cases h
theorem adF (ao:b0 φ A w) {b:Builtin} {c0:Array aK} {ty:aK} {cs:Array Bool} {l:List J} {a:Array J} {v:J} (hl:h6 l φ a) (h:MP P A b c0 ty l=some (v,bh)):
  b5 (wN (.value v)) P φ A w (builtin b c0 ty cs a) bh:=by
 have fW:∀{s:Sem J},b5 (hQ v) P φ A w s bh->b5 (wN (.value v)) P φ A w (do pure (.value (<-s))) bh:=λaw=>b5.map aw λφ a ha=>⟨a,rfl,ha⟩
 unfold MP at h;split at h
 ·obtain⟨x',rfl,aq⟩:=hl.one
  split at h
  ·rename_i aB aC
   cases h;exact fW (ac5 ao aq aC)
  ·split at h
   ·rename_i aB aC
    cases h;exact fW (MR ao hl aC)
   ·cases h
 ·obtain⟨x',fN,rfl,aq,bE⟩:=hl.two
  exact fW (acT ao aq bE h)
 ·obtain⟨x',fN,rfl,aq,bE⟩:=hl.two
  exact fW (ac1 ao aq bE h)
 ·obtain⟨x',rfl,aq⟩:=hl.one
  obtain⟨aB,aC,he⟩:=Option.map_eq_some_iff.1 h;cases he;exact fW (adD ao aq aC)
 ·obtain⟨aB,aC,he⟩:=Option.map_eq_some_iff.1 h
  cases he;exact fW (MR ao hl aC)
 ·obtain⟨aB,aC,he⟩:=Option.map_eq_some_iff.1 h
  cases he;exact fW (MR ao hl aC)
 ·obtain⟨x',rfl,aq⟩:=hl.one
  obtain⟨aB,aC,he⟩:=Option.map_eq_some_iff.1 h;cases he;exact fW (adE ao aq aC)
 ·obtain⟨x',rfl,aq⟩:=hl.one
  split at h
  ·rename_i bC qw
   cases h;exact fW (ado ao aq qw)
  ·cases h
 ·rename_i x n
  obtain⟨x',fN,rfl,aq,bE⟩:=hl.two;cases hp:plain n with
  |false=>rw[hp] at h;cases h
  |true=>
   rw[hp,bD] at h;rw[aD.k6 _ hp bE];exact fW (adl ao aq h)
 ·rename_i m k
  obtain⟨x',fN,rfl,aq,bE⟩:=hl.two;split at h
  ·rename_i bC qw
   cases h;have hp:plain k=true:=by
    unfold IL at qw;split at qw
    ·cases hp:plain k with
     |true=>rfl
     |false=>rw[hp] at qw;cases qw
    ·cases qw
   rw[aD.k6 _ hp bE];exact fW (adz ao aq qw)
  ·cases h
 ·cases h
def enters (P:aR) (f:FuncId):Bool:=
 match P.funcs[f]? with
 |some fn=> !(fn.name== "runtime.NumGoroutine")&&fn.body.isSome
 |none=>false
omit [a1] in
theorem EY {f:FuncId} (h:enters P f=true) (args:Array J):bg P (callFunc f args)=some (.enter f args):=by
 unfold enters at h;split at h
 ·rename_i fn aQ
  simp only [c7,Bool.not_eq_true'] at h;obtain⟨ad,ag⟩:=h;have ay:fn.body.isNone=false:=by cases af:fn.body<;>simp_all
  unfold callFunc;show bg P (match P.funcs[f]? with|none=>_|some fn=>_)=_;simp only [aQ,ad,ay,Bool.false_eq_true,if_false];rfl
 ·cases h
def Uz (P:aR) (f:FuncId) (args:List J):Option sR:=
 bif pn args then match bg P (callFunc f ⟨args⟩) with
  |some (.value v)=>bif plain v then some (.value v) else none
  |_=>none
 else none
def MS (P:aR) [Lib P] (A:a6) (f:FuncId):List J->Option (J×a6)
 |[x]=>bif (Lib.same P).contains f then some (x,A) else
  match (Lib.Mx P).find? λp=>Nat.beq p.1 f,x with
  |some p,.int .i64 n=>MA A p.2 n
  |_,_=>none
 |_=>none
def IM (P:aR) [Lib P] (A:a6) (f:FuncId) (args:List J):Option (sR×a6):=
 bif enters P f then some (.enter f args,A) else
  match MS P A f args with
  |some (v,bC)=>some (.value v,bC)
  |none=>match Uz P f args with
   |some n=>some (n,A)
   |none=>none
theorem adG [Lib P] (ao:b0 φ A w) {f:FuncId} {l:List J} {a:Array J} {v:J} (hl:h6 l φ a) (h:MS P A f l=some (v,bh)):b5 (wN (.value v)) P φ A w (callFunc f a) bh:=by
 unfold MS at h;split at h
 ·rename_i x
  obtain⟨x',rfl,aq⟩:=hl.one;cases ar:(Lib.same P).contains f with
  |true=>
   rw[ar] at h;cases h;exact b5.pure_run ao (Lib.Uj f (by simpa using ar) x') ⟨x',rfl,aq⟩
  |false=>
   rw[ar,eB] at h;split at h
   ·rename_i p n aQ
    cases aq;have hp1:p.1=f:=by
     have:=List.find?_some aQ;exact cH this
    obtain⟨ps,r0,t,ad,ag,ay⟩:=Lib.Uk p (List.mem_of_find?_eq_some aQ);obtain⟨gM,w1,v1,g1,g2,g3⟩:=ade (ps:=ps) ao ag ay h;refine⟨gM,w1,.value v1,?_,⟨v1,rfl,g2⟩,g3⟩;rw[<-hp1,ad];exact dm g1 rfl
   ·cases h
 ·cases h
theorem UA [Lib P] (ao:b0 φ A w) {f:FuncId} {l:List J} {a:Array J} {n:sR} (hl:h6 l φ a) (h:IM P A f l=some (n,bh)):b5 (wN n) P φ A w (callFunc f a) bh:=by
 unfold IM at h;cases he:enters P f with
 |true=>
  rw[he] at h;cases h;exact b5.pure_run ao (EY he a) ⟨a,rfl,hl⟩
 |false=>
  rw[he,eB] at h;split at h
  ·rename_i v bC al
   cases h;exact adG ao hl al
  ·split at h
   ·rename_i n av
    cases h;unfold Uz at av;cases hp:pn l with
    |false=>rw[hp] at av;cases av
    |true=>
     rw[hp,bD] at av;split at av
     ·rename_i v aC
      cases qx:plain v with
      |false=>rw[qx] at av;cases av
      |true=>
       rw[qx,bD,cN] at av;subst av;rw[hl.eq hp];exact b5.pure_run ao aC ⟨v,rfl,aD.kq φ v qx⟩
     ·cases av
   ·cases h
def MT (P:aR) [Lib P] (A:a6) (bp:Operand->J) (c:Call) (ty:aK):Option (sR×a6):=
 match c.callee with
 | .builtin b=>(MP P A b c.argTypes ty (c.args.toList.map bp)).map λr=>(.value r.1,r.2)
 | .value f=>match bp f with
   | .func (.func g) ⟨first⟩ ⟨CS⟩=>IM P A g (first++c.args.toList.map bp++CS)
   |_=>none
 | .invoke recv name=>match bp recv with
   | .iface t v=>bif plain v then match bg P (method (P.types.size+Made.depth) t v name) with
       |some (f,r)=>bif plain r then IM P A f (r::c.args.toList.map bp) else none
       |none=>none
     else none
   |_=>none
theorem h6.append {l1 ly:List J} {dZ a2:Array J} (ad:h6 l1 φ dZ) (ag:h6 ly φ a2):h6 (l1++ly) φ (dZ++a2):=by
 obtain⟨MQ⟩:=dZ;obtain⟨IN⟩:=a2;obtain⟨s1,v1⟩:=ad;obtain⟨s2,gJ⟩:=ag;simp only [List.size_toArray] at s1 s2;refine⟨by simp [s1,s2],λj hj=> ?_⟩;simp only [List.append_toArray,fh,List.getElem?_toArray,dp] at v1 gJ ⊢;rcases Nat.lt_or_ge j l1.length with h|h
 ·rw[List.getElem?_append_left h,List.getElem?_append_left aj]
  exact v1 j h
 ·rw[List.getElem?_append_right h,List.getElem?_append_right aj,s1]
  exact gJ _ (by simp at hj;omega)
theorem h6.map {l:Array Operand} {ρ ρ':Operand->J} (h:∀x∈l,aD φ (ρ x) (ρ' x)):h6 (l.toList.map ρ) φ (l.map ρ'):=by
 obtain⟨l⟩:=l;refine⟨by simp,λj hj=> ?_⟩;simp only [List.length_map] at hj;simp only [List.map_toArray,fh,List.getElem?_toArray,dp,List.getElem?_map,f_ hj,Option.map_some,Option.getD_some];exact h _ (by simp)
theorem h6.of {cs cs':Array J} (ad:cs.size=cs'.size) (h:∀i,i<cs.size->aD φ (cs.getD i undef) (cs'.getD i undef)):h6 cs.toList φ cs':=by
 obtain⟨l⟩:=cs;refine⟨by simpa using ad.symm,λj hj=> ?_⟩;simpa [fh] using h j (by simpa using hj)
theorem adH [Lib P] (ao:b0 φ A w) {ρ ρ':Operand->J} {c:Call} {ty:aK} {n:sR} (cZ:∀x,aD φ (ρ x) (ρ' x)) (h:MT P A ρ c ty=some (n,bh)):
  b5 (wN n) P φ A w (do let d <-resolve ρ' c ty;invoke d.target d.args) bh:=by
 unfold MT at h;have gK:h6 (c.args.toList.map ρ) φ (c.args.map ρ'):=h6.map λx _=>cZ x
 split at h
 ·rename_i b ar
  obtain⟨⟨v,bC⟩,af,he⟩:=Option.map_eq_some_iff.1 h;cases he;obtain⟨fm,w2,n2,g1,g2,g3⟩:=adF (cs:=c.args.map λ| .const _=>true|_=>false) ao gK af;refine⟨fm,w2,n2,?_,g2,g3⟩;rw[<-g1];unfold resolve;rw[ar];rfl
 ·rename_i f ar
  split at h
  ·rename_i g first CS aQ
   have af:=h;have aC:=cZ f;rw[aQ] at aC;cases om:ρ' f with
   |func fn kC cs'=>
    rw[om] at aC;cases aC with
    |func fs kC cs cs' av ad ag MU fV=>
     have:=(h6.of ad MU).append gK |>.append (h6.of ag fV);obtain⟨fm,w2,n2,g1,g2,g3⟩:=UA ao this af;refine⟨fm,w2,n2,?_,g2,g3⟩;rw[<-g1];unfold resolve;rw[ar];simp only [om];rfl
   |_=>rw[om] at aC;cases aC
  ·cases h
 ·rename_i recv name ar
  split at h
  ·rename_i t v aC
   cases hp:plain v with
   |false=>rw[hp] at h;cases h
   |true=>
    rw[hp,bD] at h;split at h
    ·rename_i f r hm
     cases AM:plain r with
     |false=>rw[AM] at h;cases h
     |true=>
      rw[AM,bD] at h;have af:=h;have EZ:=cZ recv;rw[aC] at EZ;cases om:ρ' recv with
      |iface dt aB=>
       rw[om] at EZ;cases EZ with
       |iface _ xR=>
        have adI:=aD.k6 v hp xR;subst adI;have ad:h6 [r] φ #[r]:=⟨rfl,λj hj=>by
         have:j=0:=by simpa using hj
         subst this
         exact aD.kq φ r AM⟩
        obtain⟨fm,w2,n2,g1,g2,g3⟩:=UA ao (ad.append gK) af;refine⟨fm,w2,n2,?_,g2,g3⟩;rw[<-g1];unfold resolve;rw[ar];simp only [om];refine c4 (a:={target:= .fn (.method name) #[],args:= #[.iface t aB]++c.args.map ρ'}) rfl ?_;unfold invoke;have e0:(#[Value.iface t aB]++c.args.map ρ')[0]? =some (.iface t aB):=by
         simp [Array.getElem?_append]
        have e1:(#[Value.iface t aB]++c.args.map ρ').extract 1 (#[Value.iface t aB]++c.args.map ρ').size=c.args.map ρ':=by
         apply Array.ext';simp [List.take_of_length_le]
        simp only [e0,e1];unfold callMethod;refine c4 (a:=P) rfl ?_;exact c4 hm rfl
      |_=>rw[om] at EZ;cases EZ
    ·cases h
  ·cases h
end
end AE
namespace AE
variable [a1]
def xS (bp:Operand->J):Option Operand->Bool
 |none=>true
 |some x=>plain (bp x)
def MV (P:aR) (A:a6) (pt dst:aK) (x:J):Option (J×a6):=
 match (bif plain x then ud P (convert pt dst x) else none) with
 |some v=>some (v,A)
 |none=>match My P A pt dst x with
  |some v=>some (v,A)
  |none=>match bg P (underlying pt),bg P (underlying dst),x with
   |some _,some (.slice e),.string s=>match bg P (underlying e) with
    |some (.int .u8)=>Mr A e s
    |_=>none
   |some (.slice e),some .string,.slice a n c=>match bg P (underlying e) with
    |some (.int .u8)=>(Mq P A (.slice a n c)).map (·,A)
    |_=>none
   |_,_,_=>none
def UB (x:J):Option J:=
 match x with
 | .pointer (some _)=>some x
 | .func (.func _) _ _=>some x
 | .iface _ _=>some x
 |_=>none
def UC:Fn->Bool
 | .yield _=>true
 |_=>false
def val (A:a6):Option J->Option (sR×a6)
 |some v=>some (.value v,A)
 |none=>none
def uf:Option (J×a6)->Option (sR×a6)
 |some (v,A)=>some (.value v,A)
 |none=>none
def E0 (P:aR) [Lib P] (bp:Operand->J) (A:a6) (o:Oper):Option (sR×a6):=
 match o.op with
 | .move x| .assign x=>some (.value (bp x),A)
 | .pick c a b=>match bp c with
   | .bool t=>some (.value (bif t then bp a else bp b),A)
   |_=>none
 | .alloc t=>uf (LX P A t)
 | .box t x=>uf (Ik A t (bp x))
 | .build t parts=>val A (L2 P t (parts.map λ(i,x)=>(i,bp x)))
 | .buildSlice t len parts=>bif Nat.beq len 0&&Nat.beq parts.size 0 then uf (L5 P A t) else uf (L4 P A t len (parts.map λ(i,x)=>(i,bp x)))
 | .load t a=>val A (CG P A t (bp a))
 | .store t a x=>match LW P A t (bp x) (bp a) with
   |some bC=>some (.skip,bC)
   |none=>none
 | .nilCheck x=>val A (UB (bp x))
 | .binOp op t x y _=>match (bif plain (bp x)&&plain (bp y) then ud P (do eqGuard op t x y (bp x) (bp y);binOp op t (bp x) (bp y)) else none) with
   |some v=>some (.value v,A)
   |none=>val A (Mt P op t (bp x) (bp y))
 | .unOp op _ x=>bif plain (bp x) then val A (ud P (Op.unary op (bp x))) else none
 | .convert pt dst x=>uf (MV P A pt dst (bp x))
 | .makeInterface t x=>val A (Mu P t (bp x))
 | .makeFunc fn first CS=>bif UC fn then none else some (.value (.func fn ⟨first.toList.map bp⟩ ⟨CS.toList.map bp⟩),A)
 | .makeSlice t l c=>bif plain (bp l)&&plain (bp c) then uf (Mn P A t (bp l) (bp c)) else none
 | .slice t x e5 ai eY=>bif xS bp e5&&(xS bp ai&&xS bp eY) then val A (match Mg P A t (bp x) (e5.map bp) (ai.map bp) (eY.map bp) with
     |some v=>some v
     |none=>bif plain (bp x) then ud P (Instr.sliceAt t (bp x) (e5.map bp) (ai.map bp) (eY.map bp)) else none) else none
 | .fieldAddr s x f=>val A (EG P s f (bp x))
 | .field t x f=>val A (LY P t (bp x) f)
 | .indexAddr t x fX=>bif plain (bp fX) then val A (EH P t (bp x) (bp fX)) else none
 | .index t x fX=>bif plain (bp fX) then val A (match LZ P t (bp x) (bp fX) with
     |some v=>some v
     |none=>bif plain (bp x) then ud P (Instr.index t (bp x) (bp fX)) else none) else none
 | .typeAssert x _ asserted ok=>val A (Mv P (bp x) asserted ok)
 | .extract t fX=>val A (EK (bp t) fX)
 | .call c=>MT P A bp c o.type
 | .makeMap t r=>bif xS bp r then uf (MH P A t (r.map bp)) else none
 | .lookup t x fX ok=>val A (IG P A t (bp x) (bp fX) ok)
 | .mapUpdate t m k x| .insert t m k x=>match EW P A t (bp m) (bp k) (bp x) with
   |some bC=>some (.skip,bC)
   |none=>none
 | .mapEntry t m k=>uf (IJ P A t (bp m) (bp k))
 | .entryStore _ m st x=>match IK P A (bp m) (bp st) (bp x) with
   |some bC=>some (.skip,bC)
   |none=>none
 | .range t x=>uf (MK P A t (bp x))
 | .next it UD=>uf (ML A (bp it) UD)
 |_=>none
section
variable {P:aR} {φ:b2} {A bh:a6} {w:ax}
theorem adJ (ao:b0 φ A w) {pt dst:aK} {x x' v:J} (aq:aD φ x x') (h:MV P A pt dst x=some (v,bh)):b5 (hQ v) P φ A w (convert pt dst x') bh:=by
 unfold MV at h;split at h
 ·rename_i u hu
  simp only [cN,Prod.mk.injEq] at h;obtain⟨rfl,rfl⟩:=h;cases hp:plain x with
  |false=>rw[hp] at hu;cases hu
  |true=>
   rw[hp,bD] at hu;rw[aD.k6 x hp aq];exact CR ao hu
 split at h
 ·rename_i u hu
  cases h;exact ada ao aq hu
 ·split at h
  ·rename_i d e s ad ag _ _
   split at h
   ·rename_i ay
    cases aq;unfold convert;refine b5.pre ad (b5.pre ag ?_);simp only;refine b5.pre ay ?_;exact ac7 ao h
   ·cases h
  ·rename_i e a n c ad ag _ _
   split at h
   ·rename_i ay
    obtain⟨aB,aC,he⟩:=Option.map_eq_some_iff.1 h;cases he;have aw:=ac6 ao aq aC;unfold convert;refine b5.pre ad (b5.pre ag ?_);cases aq<;>exact b5.pre ay aw
   ·cases h
  ·cases h
theorem IP {ρ ρ':Operand->J} (cZ:∀x,aD φ (ρ x) (ρ' x)) {o:Option Operand} (h:xS ρ o=true):o.map ρ'=o.map ρ:=by
 cases o with
 |none=>rfl
 |some x=>simp only [Option.map_some];rw[aD.k6 _ h (cZ x)]
theorem UE [Lib P] (ao:b0 φ A w) {ρ ρ':Operand->J} {o:Oper} {n:sR} (cZ:∀x,aD φ (ρ x) (ρ' x)) (h:E0 P ρ A o=some (n,bh)):b5 (wN n) P φ A w (execOp ρ' o) bh:=by
 have fW:∀{v:J} {s:Sem J},b5 (hQ v) P φ A w s bh->b5 (wN (.value v)) P φ A w (do pure (.value (<-s))) bh:=λaw=>b5.map aw λφ a ha=>⟨a,rfl,ha⟩
 have hval:∀{r:Option J},val A r=some (n,bh)->∃v,r=some v/\n= .value v/\bh=A:=by
  intro r aC;cases r with
  |none=>cases aC
  |some v=>simp only [val,cN,Prod.mk.injEq] at aC;exact⟨v,rfl,aC.1.symm,aC.2.symm⟩
 have wO:∀{r:Option (J×a6)},uf r=some (n,bh)->∃v,r=some (v,bh)/\n= .value v:=by
  intro r aC;cases r with
  |none=>cases aC
  |some p=>obtain⟨v,bC⟩:=p;simp only [uf,cN,Prod.mk.injEq] at aC;exact⟨v,by rw[aC.2],aC.1.symm⟩
 obtain⟨dst,op,type,pos,after,guard⟩:=o;unfold E0 at h;unfold execOp;cases op<;>simp only at h ⊢<;>try (cases h;done)
 case move x=>cases h;exact b5.ret ao ⟨_,rfl,cZ x⟩
 case assign x=>cases h;exact b5.ret ao ⟨_,rfl,cZ x⟩
 case pick c a b=>
  split at h
  ·rename_i t ar
   cases h;have:=cZ c;rw[ar] at this;cases AL:ρ' c<;>rw[AL] at this<;>cases this
   refine b5.pre (a:=t) rfl ?_;cases t
   ·exact b5.ret ao ⟨_,rfl,cZ b⟩
   ·exact b5.ret ao ⟨_,rfl,cZ a⟩
  ·cases h
 case alloc t=>
  obtain⟨v,ad,rfl⟩:=wO h;exact fW (acB ao ad)
 case box t x=>
  obtain⟨v,ad,rfl⟩:=wO h;exact fW (TT ao (cZ x) ad)
 case build t parts=>
  obtain⟨v,ad,rfl,rfl⟩:=hval h;exact fW (acH ao (λp _=>cZ p.2) ad)
 case buildSlice t len parts=>
  cases af:(Nat.beq len 0&&Nat.beq parts.size 0) with
  |true=>
   rw[af,bD] at h;simp only [c7] at af;obtain⟨v,ad,rfl⟩:=wO h;have e1:len=0:=cH af.1;have e2:parts= #[]:=Array.eq_empty_of_size_eq_zero (cH af.2);subst e1;subst e2;exact fW (by simpa using acJ ao ad)
  |false=>
   rw[af,eB] at h;obtain⟨v,ad,rfl⟩:=wO h;exact fW (acI ao (λp _=>cZ p.2) ad)
 case load t a=>
  obtain⟨v,ad,rfl,rfl⟩:=hval h;exact fW (acy ao (cZ a) ad)
 case store t a x=>
  split at h
  ·rename_i bC ad
   cases h;exact b5.map (acA ao (cZ a) (cZ x) ad) λ_ _ _=>rfl
  ·cases h
 case nilCheck x=>
  obtain⟨v,ad,rfl,rfl⟩:=hval h;have aq:=cZ x;unfold UB at ad;split at ad
  ·rename_i a ha
   cases ad;rw[ha] at aq;cases rY:ρ' x<;>rw[rY] at aq
   all_goals cases aq
   rename_i h;exact b5.ret ao ⟨_,rfl,ha▸.ptr h⟩
  ·rename_i f fs cs ha
   cases ad;rw[ha] at aq;cases rY:ρ' x<;>rw[rY] at aq
   all_goals cases aq
   rename_i ad ag ay bG cE;exact b5.ret ao ⟨_,rfl,ha▸.func _ _ _ _ ad ag bG ay cE⟩
  ·rename_i t u ha
   cases ad;rw[ha] at aq;cases rY:ρ' x<;>rw[rY] at aq
   all_goals cases aq
   rename_i h;exact b5.ret ao ⟨_,rfl,ha▸.iface _ h⟩
  ·cases ad
 case binOp op t x y UF=>
  split at h
  ·rename_i v aC
   cases h;cases hp:plain (ρ x) with
   |false=>simp only [hp,Bool.false_and,eB] at aC;cases aC
   |true=>
    cases bb:plain (ρ y) with
    |false=>simp only [bb,Bool.and_false,eB] at aC;cases aC
    |true=>
     simp only [hp,bb,Bool.and_true,bD] at aC;rw[aD.k6 _ hp (cZ x),aD.k6 _ bb (cZ y)];exact fW (CR ao aC)
  ·obtain⟨v,ad,rfl,rfl⟩:=hval h
   exact fW (ac9 ao (cZ x) (cZ y) ad)
 case unOp op t x=>
  cases hp:plain (ρ x) with
  |false=>rw[hp] at h;cases h
  |true=>
   rw[hp,bD] at h;obtain⟨v,ad,rfl,rfl⟩:=hval h;rw[aD.k6 _ hp (cZ x)];exact fW (CR ao ad)
 case convert pt dst x=>
  obtain⟨v,ad,rfl⟩:=wO h;exact fW (adJ ao (cZ x) ad)
 case makeInterface t x=>
  obtain⟨v,ad,rfl,rfl⟩:=hval h;exact fW (ac' ao (cZ x) ad)
 case makeFunc fn first CS=>
  cases bE:UC fn with
  |true=>rw[bE] at h;cases h
  |false=>
   rw[bE] at h;cases h;have cO:=h6.map (φ:=φ) (l:=first) (ρ:=ρ) (ρ':=ρ') λx _=>cZ x
   have dx:=h6.map (φ:=φ) (l:=CS) (ρ:=ρ) (ρ':=ρ') λx _=>cZ x
   refine b5.ret ao ⟨_,rfl,.func _ _ _ _ (λl hl=>by subst hl;cases bE) (by simp) (by simp) (λi ai=> ?_) (λi ai=> ?_)⟩
   ·have:=cO.2 i (by simpa using ai)
    simpa [fh] using this
   ·have:=dx.2 i (by simpa using ai)
    simpa [fh] using this
 case makeSlice t l c=>
  cases hp:plain (ρ l) with
  |false=>simp only [hp,Bool.false_and,eB] at h;cases h
  |true=>
   cases bb:plain (ρ c) with
   |false=>simp only [bb,Bool.and_false,eB] at h;cases h
   |true=>
    simp only [hp,bb,Bool.and_true,bD] at h;obtain⟨v,ad,rfl⟩:=wO h;rw[aD.k6 _ hp (cZ l),aD.k6 _ bb (cZ c)];exact fW (ac3 ao ad)
 case slice t x e5 ai eY=>
  cases hp:(xS ρ e5&&(xS ρ ai&&xS ρ eY)) with
  |false=>rw[hp] at h;cases h
  |true=>
   rw[hp,bD] at h;simp only [c7] at hp;obtain⟨v,ad,rfl,rfl⟩:=hval h;rw[IP cZ hp.1,IP cZ hp.2.1,IP cZ hp.2.2];split at ad
   ·rename_i u hu
    cases ad;exact fW (acZ ao (cZ x) hu)
   ·cases bb:plain (ρ x) with
    |false=>rw[bb] at ad;cases ad
    |true=>
     rw[bb,bD] at ad;rw[aD.k6 _ bb (cZ x)];exact fW (CR ao ad)
 case fieldAddr s x f=>
  obtain⟨v,ad,rfl,rfl⟩:=hval h;exact fW (acC ao (cZ x) ad)
 case field t x f=>
  obtain⟨v,ad,rfl,rfl⟩:=hval h;exact fW (acE ao (cZ x) ad)
 case indexAddr t x fX=>
  cases hp:plain (ρ fX) with
  |false=>rw[hp] at h;cases h
  |true=>
   rw[hp,bD] at h;obtain⟨v,ad,rfl,rfl⟩:=hval h;rw[aD.k6 _ hp (cZ fX)];exact fW (acD ao (cZ x) ad)
 case index t x fX=>
  cases hp:plain (ρ fX) with
  |false=>rw[hp] at h;cases h
  |true=>
   rw[hp,bD] at h;obtain⟨v,ad,rfl,rfl⟩:=hval h;rw[aD.k6 _ hp (cZ fX)];split at ad
   ·rename_i u hu
    cases ad;exact fW (acF ao (cZ x) hu)
   ·cases bb:plain (ρ x) with
    |false=>rw[bb] at ad;cases ad
    |true=>
     rw[bb,bD] at ad;rw[aD.k6 _ bb (cZ x)];exact fW (CR ao ad)
 case typeAssert x Ui asserted ok=>
  obtain⟨v,ad,rfl,rfl⟩:=hval h;exact fW (ac_ ao (cZ x) ad)
 case extract t fX=>
  obtain⟨v,ad,rfl,rfl⟩:=hval h;exact fW (acG ao (cZ t) ad)
 case call c=>exact adH ao cZ h
 case makeMap t r=>
  cases hp:xS ρ r with
  |false=>rw[hp] at h;cases h
  |true=>
   rw[hp,bD] at h;obtain⟨v,ad,rfl⟩:=wO h;rw[IP cZ hp];exact fW (ads ao ad)
 case lookup t x fX ok=>
  obtain⟨v,ad,rfl,rfl⟩:=hval h;have hp:plain (ρ fX)=true:=by
   unfold IG at ad;cases hp:plain (ρ fX) with
   |true=>rfl
   |false=>rw[hp] at ad;cases ad
  rw[aD.k6 _ hp (cZ fX)];exact fW (adt ao (cZ x) ad)
 case mapUpdate t m k x=>
  split at h
  ·rename_i bC ad
   cases h;have hp:plain (ρ k)=true:=by
    unfold EW at ad;cases hp:plain (ρ k) with
    |true=>rfl
    |false=>rw[hp] at ad;cases ad
   rw[aD.k6 _ hp (cZ k)];exact b5.map (Uw ao (cZ m) (cZ x) ad) λ_ _ _=>rfl
  ·cases h
 case insert t m k x=>
  split at h
  ·rename_i bC ad
   cases h;have hp:plain (ρ k)=true:=by
    unfold EW at ad;cases hp:plain (ρ k) with
    |true=>rfl
    |false=>rw[hp] at ad;cases ad
   rw[aD.k6 _ hp (cZ k)];exact b5.map (Uw ao (cZ m) (cZ x) ad) λ_ _ _=>rfl
  ·cases h
 case mapEntry t m k=>
  obtain⟨v,ad,rfl⟩:=wO h;have hp:plain (ρ k)=true:=by
   unfold IJ at ad;cases hp:plain (ρ k) with
   |true=>rfl
   |false=>rw[hp] at ad;cases ad
  rw[aD.k6 _ hp (cZ k)];exact fW (adv ao (cZ m) ad)
 case entryStore t m st x=>
  split at h
  ·rename_i bC ad
   cases h;have hp:plain (ρ st)=true:=by
    unfold IK at ad;split at ad
    ·split at ad
     ·cases hp:plain (ρ st) with
      |true=>rfl
      |false=>rw[hp] at ad;cases ad
     ·cases ad
    ·cases ad
   rw[aD.k6 _ hp (cZ st)];exact b5.map (ady ao (cZ m) (cZ x) ad) λ_ _ _=>rfl
  ·cases h
 case range t x=>
  obtain⟨v,ad,rfl⟩:=wO h;exact fW (adA ao (cZ x) ad)
 case next it UD=>
  obtain⟨v,ad,rfl⟩:=wO h;exact fW (adC ao (cZ it) ad)
end
end AE
namespace AE
mutual
def gj:J->J->Bool
 | .bool a,.bool b=>a==b
 | .int k n,.int k' ga=>decide (k=k')&&decide (n=ga)
 | .complex .f64 a b,.complex .f64 a7 b'=>Nat.beq a a7&&Nat.beq b b'
 | .string s,.string t=>s.data.toList==t.data.toList
 | .pointer none,.pointer none=>true
 | .slice none l c,.slice none l' c'=>Nat.beq l l'&&Nat.beq c c'
 | .map none,.map none=>true
 | .nilFunc,.nilFunc=>true
 | .nilIface,.nilIface=>true
 | .func (.func f) ⟨a⟩ ⟨b⟩,.func (.func g) ⟨a7⟩ ⟨b'⟩=>Nat.beq f g&&(oo a a7&&oo b b')
 | .iface t v,.iface dt aB=>Nat.beq t dt&&gj v aB
 | .agg ⟨l⟩,.agg ⟨l'⟩=>oo l l'
 | .tuple ⟨l⟩,.tuple ⟨l'⟩=>oo l l'
 |_,_=>false
def oo:List J->List J->Bool
 |[],[]=>true
 |v::r,aB::ek=>gj v aB&&oo r ek
 |_,_=>false
end
mutual
theorem hJ:∀(a b:J),gj a b=true->a=b:=by
 intro a b h;unfold gj at h;split at h
 ·rw[eq_of_beq h]
 ·simp only [c7,decide_eq_true_eq] at h;rw[h.1,h.2]
 ·simp only [c7] at h;rw[cH h.1,cH h.2]
 ·rename_i s t
  have:=eq_of_beq h;obtain⟨⟨s⟩⟩:=s;obtain⟨⟨t⟩⟩:=t;simp only at this;rw[this]
 ·rfl
 ·simp only [c7] at h;rw[cH h.1,cH h.2]
 ·rfl
 ·rfl
 ·rfl
 ·simp only [c7] at h;rw[cH h.1,q6 _ _ h.2.1,q6 _ _ h.2.2]
 ·rename_i t v dt aB
  simp only [c7] at h;rw[cH h.1,hJ v aB h.2]
 ·rename_i l l'
  rw[q6 l l' h]
 ·rename_i l l'
  rw[q6 l l' h]
 ·cases h
theorem q6:∀(a b:List J),oo a b=true->a=b
 |[],[],_=>rfl
 |v::r,aB::ek,h=>by
  unfold oo at h;simp only [c7] at h;rw[hJ v aB h.1,q6 r ek h.2]
 |[],_::_,h=>by simp [oo] at h
 |_::_,[],h=>by simp [oo] at h
end
mutual
def aM:J->Bool
 | .complex .f64 _ b=>Nat.beq b 0
 | .iface _ v=>aM v
 | .agg ⟨l⟩=>dL l
 | .tuple ⟨l⟩=>dL l
 | .bool _| .int .. | .float .. | .string _| .pointer none| .map none| .chan none| .nilFunc| .nilIface=>true
 | .slice none l c=>l==0&&c==0
 | .func (.func _) ⟨a⟩ ⟨b⟩=>dL a&&dL b
 |_=>false
def dL:List J->Bool
 |[]=>true
 |v::r=>aM v&&dL r
end
variable [a1]
mutual
def aJ:J->J
 | .complex .f64 k b=>bif Nat.beq b 0 then a1.σ k else .complex .f64 k b
 | .iface t v=> .iface t (aJ v)
 | .agg ⟨l⟩=> .agg ⟨eo l⟩
 | .tuple ⟨l⟩=> .tuple ⟨eo l⟩
 | .func (.func f) ⟨a⟩ ⟨b⟩=> .func (.func f) ⟨eo a⟩ ⟨eo b⟩
 |v=>v
def eo:List J->List J
 |[]=>[]
 |v::r=>aJ v::eo r
end
theorem IQ (k:Nat):aJ (ak k)=a1.σ k:=by simp [ak,aJ]
theorem xT:∀l:List J,(eo l).length=l.length
 |[]=>rfl
 |v::r=>by simp [eo,xT r]
theorem MW:∀l:List J,eo l=l.map aJ
 |[]=>rfl
 |v::r=>by simp [eo,MW r]
mutual
theorem aD.vh (φ:b2):∀v:J,aM v=true->aD φ v (aJ v):=by
 intro v h;unfold aM at h;split at h
 ·rename_i k b
  have:b=0:=cH h;subst this;have:=aD.sym (φ:=φ) k;simpa [aJ,ak] using this
 ·rename_i t v
  unfold aJ;exact .iface t (aD.vh φ v h)
 ·rename_i l
  unfold aJ;exact .agg _ _ (by simp [xT]) λi ai=>by simpa using aD.AN φ l h i (by simpa using ai)
 ·rename_i l
  unfold aJ;exact .tuple _ _ (by simp [xT]) λi ai=>by simpa using aD.AN φ l h i (by simpa using ai)
 all_goals (first|(cases h;done)|skip)
 ·rename_i b;simpa [aJ] using aD.kq φ (.bool b) rfl
 ·rename_i k n;simpa [aJ] using aD.kq φ (.int k n) rfl
 ·rename_i k n;simpa [aJ] using aD.kq φ (.float k n) rfl
 ·rename_i s;simpa [aJ] using aD.kq φ (.string s) rfl
 ·simpa [aJ] using aD.kq φ (.pointer none) rfl
 ·simpa [aJ] using aD.kq φ (.map none) rfl
 ·simpa [aJ] using aD.kq φ (.chan none) rfl
 ·simpa [aJ] using aD.kq φ .nilFunc rfl
 ·simpa [aJ] using aD.kq φ .nilIface rfl
 ·rename_i l c;simpa [aJ] using aD.kq φ (.slice none l c) h
 ·rename_i f a b
  simp only [c7] at h;unfold aJ;exact .func _ _ _ _ (λl hl=>by cases hl) (by simp [xT]) (by simp [xT]) (λi ai=>by simpa using aD.AN φ a h.1 i (by simpa using ai)) (λi ai=>by simpa using aD.AN φ b h.2 i (by simpa using ai))
theorem aD.AN (φ:b2):∀l:List J,dL l=true->∀i,i<l.length->aD φ (l.getD i Go.undef) ((eo l).getD i Go.undef)
 |[],_,i,ai=>absurd ai (by simp)
 |v::r,h,0,_=>by
   have:=aD.vh φ v (by simp [dL] at h;exact h.1);simpa [eo] using this
 |v::r,h,i+1,ai=>by
   have:=aD.AN φ r (by simp [dL] at h;exact h.2) i (by simpa using ai);simpa [eo] using this
end
theorem aD.adK {φ:b2} {k:Nat} {aB:J} (h:aD φ (ak k) aB):aB=a1.σ k:=by
 generalize aw:ak k=s at h;cases h<;>simp [ak,AE.cu] at aw
 subst aw;rfl
mutual
theorem aD.ji {φ:b2}:∀(v:J) {aB:J},aM v=true->aD φ v aB->aB=aJ v:=by
 intro v aB hp h;unfold aM at hp;split at hp
 ·rename_i k b
  have:b=0:=cH hp;subst this;rw[aD.adK (k:=k) h];simp [aJ]
 ·rename_i t v
  cases h with
  |iface t h=>unfold aJ;rw[aD.ji v hp h]
 ·rename_i l
  cases h with
  |agg cs cs' ad ag=>
   obtain⟨l'⟩:=cs';unfold aJ;rw[aD.xU l l' hp (by simpa using ad) (λi ai=>by simpa using ag i (by simpa using ai))]
 ·rename_i l
  cases h with
  |tuple cs cs' ad ag=>
   obtain⟨l'⟩:=cs';unfold aJ;rw[aD.xU l l' hp (by simpa using ad) (λi ai=>by simpa using ag i (by simpa using ai))]
 all_goals (first|(cases hp;done)|skip)
 all_goals first|(unfold aJ;refine aD.k6 _ ?_ h;first|exact hp|rfl;done)|skip
 rename_i f a b;simp only [c7] at hp;cases h with
 |func fs kC cs cs' av ad ag aQ ar=>
  obtain⟨a7⟩:=kC;obtain⟨b'⟩:=cs';unfold aJ;rw[aD.xU a a7 hp.1 (by simpa using ad) (λi ai=>by simpa using aQ i (by simpa using ai)),aD.xU b b' hp.2 (by simpa using ag) (λi ai=>by simpa using ar i (by simpa using ai))]
theorem aD.xU {φ:b2}:∀(l l':List J),dL l=true->l.length=l'.length->(∀i,i<l.length->aD φ (l.getD i Go.undef) (l'.getD i Go.undef))->l'=eo l
 |[],[],_,_,_=>rfl
 |[],_::_,_,h,_=>by simp at h
 |_::_,[],_,h,_=>by simp at h
 |v::r,aB::ek,hp,hl,h=>by
   have ad:=aD.ji v (by simp [dL] at hp;exact hp.1) (by simpa using h 0 (by simp));have ag:=aD.xU r ek (by simp [dL] at hp;exact hp.2) (by simpa using hl) (λi ai=>by simpa using h (i+1) (by simpa using ai));rw[ad,ag];rfl
end
inductive gd where
 |bin (op:BinOp) (t:aK) (x y:J)
 |un (op:UnOp) (x:J)
 |conv (s d:aK) (x:J)
 |mb (t:aK) (x:J) (e5 ai eY:Option J)
 |dG (t:aK) (x i:J)
 |fX (t:aK) (x i:J)
 |bA (t:aK) (a:J)
 |cn (t:aK) (a:J) (f:Nat)
 |dM (x:J)
 |len (c0:Array aK) (ty:aK) (x:J)
 |eY (c0:Array aK) (ty:aK) (x y:J)
 |lO (c0:Array aK) (ty:aK) (x y:J)
 |d' (x:J)
 |lB (t:aK) (x i:J) (ok:Bool)
def E1:Option J->Option J->Bool
 |none,none=>true
 |some a,some b=>gj a b
 |_,_=>false
omit [a1] in
theorem MX {a b:Option J} (h:E1 a b=true):a=b:=by
 unfold E1 at h;split at h
 ·rfl
 ·rw[hJ _ _ h]
 ·cases h
def CT:gd->gd->Bool
 | .bin op t x y,.bin MY dt x' fN=>decide (op=MY)&&(Nat.beq t dt&&(gj x x'&&gj y fN))
 | .un op x,.un MY x'=>decide (op=MY)&&gj x x'
 | .conv s d x,.conv fC oi x'=>Nat.beq s fC&&(Nat.beq d oi&&gj x x')
 | .mb t x e5 ai eY,.mb dt x' adL lL adM=>Nat.beq t dt&&(gj x x'&&(E1 e5 adL&&(E1 ai lL&&E1 eY adM)))
 | .dG t x i,.dG dt x' tX=>Nat.beq t dt&&(gj x x'&&gj i tX)
 | .fX t x i,.fX dt x' tX=>Nat.beq t dt&&(gj x x'&&gj i tX)
 | .bA t a,.bA dt a7=>Nat.beq t dt&&gj a a7
 | .cn t a f,.cn dt a7 ij=>Nat.beq t dt&&(gj a a7&&Nat.beq f ij)
 | .dM x,.dM x'=>gj x x'
 | .len c0 ty x,.len E2 ty' x'=>decide (c0=E2)&&(Nat.beq ty ty'&&gj x x')
 | .eY c0 ty x y,.eY E2 ty' x' fN=>decide (c0=E2)&&(Nat.beq ty ty'&&(gj x x'&&gj y fN))
 | .lO c0 ty x y,.lO E2 ty' x' fN=>decide (c0=E2)&&(Nat.beq ty ty'&&(gj x x'&&gj y fN))
 | .d' x,.d' x'=>gj x x'
 | .lB t x i ok,.lB dt x' tX adN=>Nat.beq t dt&&(gj x x'&&(gj i tX&&decide (ok=adN)))
 |_,_=>false
omit [a1] in
theorem MZ {a b:gd} (h:CT a b=true):a=b:=by
 unfold CT at h;split at h<;>try simp only [c7,decide_eq_true_eq] at h
 case h_1=>rw[h.1,cH h.2.1,hJ _ _ h.2.2.1,hJ _ _ h.2.2.2]
 case h_2=>rw[h.1,hJ _ _ h.2]
 case h_3=>rw[cH h.1,cH h.2.1,hJ _ _ h.2.2]
 case h_4=>rw[cH h.1,hJ _ _ h.2.1,MX h.2.2.1,MX h.2.2.2.1,MX h.2.2.2.2]
 case h_5=>rw[cH h.1,hJ _ _ h.2.1,hJ _ _ h.2.2]
 case h_6=>rw[cH h.1,hJ _ _ h.2.1,hJ _ _ h.2.2]
 case h_7=>rw[cH h.1,hJ _ _ h.2]
 case h_8=>rw[cH h.1,hJ _ _ h.2.1,cH h.2.2]
 case h_9=>rw[hJ _ _ h]
 case h_10=>rw[h.1,cH h.2.1,hJ _ _ h.2.2]
 case h_11=>rw[h.1,cH h.2.1,hJ _ _ h.2.2.1,hJ _ _ h.2.2.2]
 case h_12=>rw[h.1,cH h.2.1,hJ _ _ h.2.2.1,hJ _ _ h.2.2.2]
 case h_13=>rw[hJ _ _ h]
 case h_14=>rw[cH h.1,hJ _ _ h.2.1,hJ _ _ h.2.2.1,h.2.2.2]
 case h_15=>cases h
def qy (bp:Operand->J) (o:Oper):Option gd:=
 match o.op with
 | .binOp op t x y _=>some (.bin op t (bp x) (bp y))
 | .unOp op _ x=>some (.un op (bp x))
 | .convert s d x=>some (.conv s d (bp x))
 | .slice t x e5 ai eY=>some (.mb t (bp x) (e5.map bp) (ai.map bp) (eY.map bp))
 | .indexAddr t x i=>some (.dG t (bp x) (bp i))
 | .index t x i=>some (.fX t (bp x) (bp i))
 | .load t a=>some (.bA t (bp a))
 | .fieldAddr t a f=>some (.cn t (bp a) f)
 | .nilCheck x=>some (.dM (bp x))
 | .call c=>match c.callee with
   | .builtin .len=>match c.args with
     |⟨[x]⟩=>some (.len c.argTypes o.type (bp x))
     |_=>none
   | .builtin .max=>match c.args with
     |⟨[x,y]⟩=>some (.eY c.argTypes o.type (bp x) (bp y))
     |_=>none
   | .builtin .min=>match c.args with
     |⟨[x,y]⟩=>some (.lO c.argTypes o.type (bp x) (bp y))
     |_=>none
   |_=>none
 | .lookup t x i ok=>some (.lB t (bp x) (bp i) ok)
 |_=>none
def gk (d_ ea:Operand):gd->Sem Next
 | .bin op t x y=>do pure (.value (<-(do eqGuard op t d_ ea x y;binOp op t x y)))
 | .un op x=>do pure (.value (<-Op.unary op x))
 | .conv s d x=>do pure (.value (<-convert s d x))
 | .mb t x e5 ai eY=>do pure (.value (<-Instr.sliceAt t x e5 ai eY))
 | .dG t x i=>do pure (.value (<-Instr.indexAt t x i))
 | .fX t x i=>do pure (.value (<-Instr.index t x i))
 | .bA t a=>do pure (.value (<-Instr.loadAt t a))
 | .cn t a f=>do pure (.value (<-Instr.fieldAt t a f))
 | .dM x=>execOp (λ_=>x) ⟨none,.nilCheck (.const undef),0,"",#[],none⟩
 | .len c0 ty x=>do pure (.value (<-Builtin.len_ c0 ty #[x]))
 | .eY c0 ty x y=>do pure (.value (<-Builtin.max_ c0 ty #[x,y]))
 | .lO c0 ty x y=>do pure (.value (<-Builtin.min_ c0 ty #[x,y]))
 | .d' x=>pure (.value x)
 | .lB t x i ok=>do pure (.value (<-Instr.lookup t x i ok))
def xV:gd->gd
 | .bin op t x y=> .bin op t (aJ x) (aJ y)
 | .un op x=> .un op (aJ x)
 | .conv s d x=> .conv s d (aJ x)
 | .mb t x e5 ai eY=> .mb t (aJ x) (e5.map aJ) (ai.map aJ) (eY.map aJ)
 | .dG t x i=> .dG t (aJ x) (aJ i)
 | .fX t x i=> .fX t (aJ x) (aJ i)
 | .bA t a=> .bA t (aJ a)
 | .cn t a f=> .cn t (aJ a) f
 | .dM x=> .dM (aJ x)
 | .len c0 ty x=> .len c0 ty (aJ x)
 | .eY c0 ty x y=> .eY c0 ty (aJ x) (aJ y)
 | .lO c0 ty x y=> .lO c0 ty (aJ x) (aJ y)
 | .d' x=> .d' (aJ x)
 | .lB t x i ok=> .lB t (aJ x) (aJ i) ok
def plainO:Option J->Bool
 |none=>true
 |some v=>aM v
def oq:gd->Bool
 | .bin _ _ x y| .dG _ x y| .fX _ x y| .eY _ _ x y| .lO _ _ x y| .lB _ x y _=>aM x&&aM y
 | .un _ x| .d' x| .conv _ _ x| .bA _ x| .cn _ x _| .dM x| .len _ _ x=>aM x
 | .mb _ x e5 ai eY=>aM x&&(plainO e5&&(plainO ai&&plainO eY))
def CU:gd->Bool
 | .bin .. | .un .. | .d' .. | .dG .. | .cn .. | .len .. | .eY .. | .lO .. | .dM _=>true
 |_=>false
def ot (w:ax):Prop:=∀i o,a1.dq i=some o->w.heap[i]? =some o
def aT (P:aR) (p:gd×J):Prop:=
 oq p.1=true/\aM p.2=true/\
 if CU p.1 then ∀d_ ea w,(gk d_ ea (xV p.1)).run P w= .ok (.value (aJ p.2)) w
 else ∀d_ ea w,ot w->(gk d_ ea (xV p.1)).run P w= .ok (.value (aJ p.2)) w
class eh (P:aR) where
 ops:List (gd×J)
def q7 (P:aR) [eh P]:Prop:=∀p∈eh.ops P,aT P p
def find (f:gd):List (gd×J)->Option J
 |[]=>none
 |p::r=>bif CT f p.1 then some p.2 else find f r
omit [a1] in
theorem IS {f:gd} {v:J}:∀{l:List (gd×J)},find f l=some v->(f,v)∈l
 |[],h=>by cases h
 |p::r,h=>by
  unfold find at h;cases he:CT f p.1 with
  |true=>
   rw[he,bD,cN] at h;have:=MZ he;subst this;subst h;exact List.mem_cons_self
  |false=>
   rw[he,eB] at h;exact List.mem_cons_of_mem _ (IS h)
def ug (P:aR) [eh P] (bp:Operand->J) (o:Oper):Option J:=
 match eh.ops P with
 |[]=>none
 |l=>match qy bp o with
  |some f=>find f l
  |none=>none
def AO (P:aR) [eh P] (v:J):Option Bool:=
 match eh.ops P with
 |[]=>none
 |l=>match find (.d' v) l with
  |some (.bool b)=>some b
  |_=>none
def adO:gd->Bool
 | .d' (.bool true)=>true
 |_=>false
def adP (P:aR) [eh P]:Bool:=
 match eh.ops P with
 |[]=>false
 |p::_=>adO p.1
def IT (P:aR) [eh P] (bp:Operand->J) (o:Oper):Option J:=
 match eh.ops P with
 |[]=>none
 |_=>match o.op with
  | .pick c x y=>match AO P (bp c) with
    |some t=>some (bif t then bp x else bp y)
    |none=>none
  |_=>none
def M0 (t:aK):gd->Bool
 | .d' (.int .i64 (.ofNat m))=>Nat.beq m t
 |_=>false
def M1 (P:aR) [eh P] (o:Oper):Bool:=match eh.ops P with
 |[]=>false
 |l=>match o.op with
  | .makeMap .. =>adP P
  | .alloc t=>l.any λp=>M0 t p.1
  | .box t _=>l.any λp=>M0 t p.1
  | .buildSlice t n _=>bif Nat.beq n 0 then false else l.any λp=>M0 t p.1
  |_=>false
def CV (P:aR) [Lib P] [eh P] (bp:Operand->J) (A:a6) (o:Oper):Option (sR×a6):=
 match ug P bp o with
 |some v=>some (.value v,A)
 |none=>match IT P bp o with
  |some v=>some (.value v,A)
  |none=>bif M1 P o then none else E0 P bp A o
section
variable {P:aR} {φ:b2} {A bh:a6} {w:ax}
theorem UG {ρ ρ':Operand->J} {o:Oper} {f:gd} (cZ:∀x,aD φ (ρ x) (ρ' x)) (h:qy ρ o=some f) (hp:oq f=true):qy ρ' o=some (xV f):=by
 have e:∀x,aM (ρ x)=true->ρ' x=aJ (ρ x):=λx aq=>aD.ji _ aq (cZ x)
 have M3:∀x:Option Operand,plainO (x.map ρ)=true->x.map ρ'=(x.map ρ).map aJ:=λx aq=>by
  cases x with
  |none=>rfl
  |some x=>simp only [Option.map_some];rw[e x aq]
 unfold qy at h ⊢;split at h<;>try (cases h;done)
 all_goals try (simp only [cN] at h;subst h;simp only [oq,c7] at hp)
 ·rw[e _ hp.1,e _ hp.2];rfl
 ·rw[e _ hp];rfl
 ·rw[e _ hp];rfl
 ·rw[e _ hp.1,M3 _ hp.2.1,M3 _ hp.2.2.1,M3 _ hp.2.2.2];rfl
 ·rw[e _ hp.1,e _ hp.2];rfl
 ·rw[e _ hp.1,e _ hp.2];rfl
 ·rw[e _ hp];rfl
 ·rw[e _ hp];rfl
 ·rw[e _ hp];rfl
 ·split at h<;>try (cases h;done)
  all_goals (split at h<;>try (cases h;done))
  all_goals (simp only [cN] at h;subst h;simp only [oq,c7] at hp)
  ·rw[e _ hp];rfl
  ·rw[e _ hp.1,e _ hp.2];rfl
  ·rw[e _ hp.1,e _ hp.2];rfl
 ·rw[e _ hp.1,e _ hp.2];rfl
omit [a1] in
theorem UH {ρ:Operand->J} {o:Oper} {f:gd} (h:qy ρ o=some f):∃d_ ea,∀P w,(execOp ρ o).run P w=(gk d_ ea f).run P w:=by
 obtain⟨dst,op,type,pos,after,guard⟩:=o;unfold qy at h;simp only at h;split at h<;>try (cases h;done)
 case h_1 op t x y UF=>cases h;exact⟨x,y,λ_ _=>rfl⟩
 case h_10 c=>
  split at h<;>try (cases h;done)
  all_goals (split at h<;>try (cases h;done))
  all_goals (cases h;refine⟨.const undef,.const undef,λP w=> ?_⟩;unfold execOp resolve)
  ·rename_i _ ad _ _ ag;simp only [ad,ag,List.map_toArray,List.map_cons,List.map_nil];rfl
  ·rename_i _ ad _ _ _ ag;simp only [ad,ag,List.map_toArray,List.map_cons,List.map_nil];rfl
  ·rename_i _ ad _ _ _ ag;simp only [ad,ag,List.map_toArray,List.map_cons,List.map_nil];rfl
 all_goals (cases h;exact⟨.const undef,.const undef,λ_ _=>rfl⟩)
theorem adQ [eh P] (dh:q7 P) (ao:b0 φ A w) {ρ ρ':Operand->J} {o:Oper} {v:J} (cZ:∀x,aD φ (ρ x) (ρ' x)) (h:ug P ρ o=some v):b5 (wN (.value v)) P φ A w (execOp ρ' o) A:=by
 unfold ug at h;split at h
 ·cases h
 split at h
 ·rename_i f aQ
  have hI:=dh _ (IS h);obtain⟨ad,ag,ay⟩:=hI;simp only at ad ag ay;obtain⟨d_,ea,he⟩:=UH (UG cZ aQ ad);have fw:(gk d_ ea (xV f)).run P w= .ok (.value (aJ v)) w:=by
   split at ay
   ·exact ay d_ ea w
   ·exact ay d_ ea w λi o ai=>(ao.dq i o ai).1
  exact⟨φ,w,_,(he P w).trans fw,⟨_,rfl,aD.vh φ v ag⟩,cA.refl ao⟩
 ·cases h
theorem IU [eh P] (dh:q7 P) (w:ax) {v aB:J} {b:Bool} (h:AO P v=some b) (aC:aD φ v aB):aB= .bool b:=by
 unfold AO at h;split at h
 ·cases h
 split at h
 ·rename_i b' af
  cases h;obtain⟨ad,ag,ay⟩:=dh _ (IS af);have hp:aM v=true:=ad;have bG:=ay (.const undef) (.const undef) w;rw[aD.ji v hp aC];have cE:(Result.ok (Next.value (aJ v)) w:Result Next)= .ok (.value (aJ (.bool b))) w:=bG;simp only [Result.ok.injEq,Next.value.injEq,and_true] at cE;exact cE
 ·cases h
theorem adR [eh P] (dh:q7 P) (ao:b0 φ A w) {ρ ρ':Operand->J} {o:Oper} {v:J} (cZ:∀x,aD φ (ρ x) (ρ' x)) (h:IT P ρ o=some v):b5 (wN (.value v)) P φ A w (execOp ρ' o) A:=by
 unfold IT at h;split at h
 ·cases h
 split at h
 ·rename_i c x y cy
  split at h
  ·rename_i t aL
   cases h;have ar:=IU dh w aL (cZ c);refine⟨φ,w,.value (bif t then ρ' x else ρ' y),?_,?_,cA.refl ao⟩
   ·unfold execOp
    rw[cy];simp only [ar];cases t<;>rfl
   ·cases t
    ·exact⟨_,rfl,cZ y⟩
    ·exact⟨_,rfl,cZ x⟩
  ·cases h
 ·cases h
theorem CW [Lib P] [eh P] (dh:q7 P) (ao:b0 φ A w) {ρ ρ':Operand->J} {o:Oper} {n:sR} (cZ:∀x,aD φ (ρ x) (ρ' x)) (h:CV P ρ A o=some (n,bh)):b5 (wN n) P φ A w (execOp ρ' o) bh:=by
 unfold CV at h;split at h
 ·rename_i v aC
  cases h;exact adQ dh ao cZ aC
 split at h
 ·rename_i v aC
  cases h;exact adR dh ao cZ aC
 ·cases af:M1 P o with
  |true=>rw[af] at h;cases h
  |false=>rw[af,eB] at h;exact UE ao cZ h
theorem CX [eh P] (dh:q7 P) {ρ ρ':Operand->J} {o:Oper} {v:J} (cZ:∀x,aD φ (ρ x) (ρ' x)) (h:ug P ρ o=some v) (al:∀f,qy ρ o=some f->CU f=true):∃aB,(∀w,(execOp ρ' o).run P w= .ok (.value aB) w)/\aD φ v aB:=by
 unfold ug at h;split at h
 ·cases h
 split at h
 ·rename_i f aQ
  obtain⟨ad,ag,ay⟩:=dh _ (IS h);simp only at ad ag ay;obtain⟨d_,ea,he⟩:=UH (UG cZ aQ ad);rw[aY (al f aQ)] at ay;exact⟨_,λw=>(he P w).trans (ay d_ ea w),aD.vh φ v ag⟩
 ·cases h
end
end AE
namespace AE
variable [a1]
abbrev aF:=bV J
abbrev adS:=FuncId->List J->a6->Option (J×a6)
def slot (sl:aF) (t:Nat):J:=
 match sl.get t with
 |some v=>v
 |none=>cu
def dH (gl:bV Nat) (sl:aF):Operand->J
 | .tmp t=>slot sl t
 | .const v=>bif plain v then v else cu
 | .global g=>match gl.get g with
   |some b=> .pointer (some ⟨b,0,none⟩)
   |none=>ak (eZ+g)
 | .func f=> .func (.func f) ⟨[]⟩ ⟨[]⟩
def mT (gl:bV Nat) (φ:b2):Prop:=∀g b,gl.get g=some b->∃e,φ b=some e/\e.bk=g/\e.sh=0
structure fD (N:Nat) (ds:List Deferred) (φ:b2) (sl:aF) (a:Act):Prop where
 size:a.tmps.size=N
 defers:a.defers=ds
 get:∀t v,sl.get t=some v->aD φ v (a.tmps.getD t undef)
theorem fD.mono {N:Nat} {ds:List Deferred} {φ c8:b2} {sl:aF} {a:Act} (h:fD N ds φ sl a) (he:∀b e,φ b=some e->c8 b=some e):fD N ds c8 sl a:=
 ⟨h.size,h.defers,λt v aC=>(h.get t v aC).mono he⟩
omit [a1] in
theorem mT.mono {gl:bV Nat} {φ c8:b2} (h:mT gl φ) (he:∀b e,φ b=some e->c8 b=some e):mT gl c8:=λg b aA=>by
 obtain⟨e,ad,ag⟩:=h g b aA;exact⟨e,he _ _ ad,ag⟩
theorem IV {φ:b2} {sl:aF} {aB:J} {t:Nat} (h:∀v,sl.get t=some v->aD φ v aB):aD φ (slot sl t) aB:=by
 unfold slot;cases aA:sl.get t with
 |none=>exact .cu _
 |some v=>exact h v aA
theorem gV {gl:bV Nat} {φ:b2} {sl:aF} {a:Act} (aA:mT gl φ) (aw:∀t v,sl.get t=some v->aD φ v (a.tmps.getD t undef)) (x:Operand):aD φ (dH gl sl x) (a.eval x):=by
 cases x with
 |tmp t=>exact IV (aw t)
 |const v=>
  simp only [dH];cases hp:plain v with
  |true=>exact aD.kq φ v hp
  |false=>exact .cu _
 |global g=>
  simp only [dH];cases af:gl.get g with
  |none=>
   have h:=aD.sym (φ:=φ) (eZ+g);rw[a1.aco g] at h;exact h
  |some b=>
   obtain⟨e,ad,ag,ay⟩:=aA g b af;have:=aD.ptr (o:=0) ad;rw[ag,ay] at this;exact this
 |func f=>exact .func _ _ _ _ (λl h=>by cases h) U U (λi h=>absurd h (by simp)) (λi h=>absurd h (by simp))
def gZ (N:Nat) (sl:aF) (dst:Option Tmp) (v:J):Option aF:=
 match dst with
 |none=>some sl
 |some d=>bif Nat.blt d N then bV.set v depth sl d else none
theorem fD.put {N:Nat} {ds:List Deferred} {φ:b2} {sl dN:aF} {a:Act} {dst:Option Tmp} {v aB:J} (h:fD N ds φ sl a) (aC:aD φ v aB) (hp:gZ N sl dst v=some dN):fD N ds φ dN (a.put dst aB):=by
 unfold gZ at hp;cases dst with
 |none=>cases hp;exact h
 |some d=>
  simp only at hp;cases af:Nat.blt d N with
  |false=>rw[af] at hp;cases hp
  |true=>
   rw[af,bD] at hp;have ck:d<N:=Nat.blt_eq.mp af;refine⟨by simp [Act.put,h.size],h.defers,λt u hu=> ?_⟩;rw[bV.ob _ _ _ _ _ t hp] at hu;have cr:=h.size;by_cases aL:t=d
   ·subst aL
    rw[aY rfl] at hu;cases hu;simp only [Act.put,fh];rw[Array.getElem?_setIfInBounds_self_of_lt (Nat.lt_of_lt_of_eq ck cr.symm)];exact aC
   ·rw[a' aL] at hu
    have:=h.get t u hu;simp only [Act.put,fh] at this ⊢;rw[Array.getElem?_setIfInBounds_ne (Ne.symm aL)];exact this
def q8 (ops:Array Oper) (o:Oper) (sl:aF):Option Bool:=
 match o.guard with
 |none=>some true
 |some (j,want)=>match (ops[j]?).bind (·.dst) with
  |none=>some false
  |some t=>match sl.get t with
   |some (.bool b)=>some (b==want)
   |some (.tuple ⟨[]⟩)=>some false
   |_=>none
theorem pv {φ:b2} {ops:Array Oper} {o:Oper} {sl:aF} {a:Act} {r:Bool} (aw:∀t v,sl.get t=some v->aD φ v (a.tmps.getD t undef)) (h:q8 ops o sl=some r):Region.wanted o (yielded ops a.tmps)=r:=by
 unfold q8 at h;unfold Region.wanted;split at h
 ·rename_i aA
  cases h;rw[aA]
 ·rename_i j want aA
  rw[aA];simp only;unfold yielded;split at h
  ·rename_i bc
   cases h;rw[bc];simp
  ·rename_i t bc
   rw[bc];simp only [Option.bind_some];split at h
   ·rename_i b af
    have aC:=aw t _ af;cases h;rw[fh] at aC;cases aL:a.tmps[t]? with
    |none=>rw[aL] at aC;simp [undef] at aC;cases aC
    |some u=>
     rw[aL] at aC;simp only [Option.getD_some] at aC;cases aC;cases b<;>cases want<;>rfl
   ·rename_i af
    have aC:=aw t _ af;cases h;rw[fh] at aC;cases aL:a.tmps[t]? with
    |none=>simp
    |some u=>
     rw[aL] at aC;simp only [Option.getD_some] at aC;cases aC;simp
   ·cases h
def M4 (P:aR) [eh P] (ops:Array Oper) (o:Oper) (sl:aF):Option Bool:=
 match q8 ops o sl with
 |some b=>some b
 |none=>match o.guard with
  |none=>none
  |some (j,want)=>match (ops[j]?).bind (·.dst) with
   |none=>none
   |some t=>match sl.get t with
    |some v=>(AO P v).map (· ==want)
    |none=>none
theorem UI {P:aR} [eh P] (dh:q7 P) (w:ax) {φ:b2} {ops:Array Oper} {o:Oper} {sl:aF} {a:Act} {r:Bool} (aw:∀t v,sl.get t=some v->aD φ v (a.tmps.getD t undef)) (h:M4 P ops o sl=some r):Region.wanted o (yielded ops a.tmps)=r:=by
 unfold M4 at h;split at h
 ·rename_i b af
  cases h;exact pv aw af
 ·split at h
  ·cases h
  ·rename_i j want aA
   split at h
   ·cases h
   ·rename_i t bc
    split at h
    ·rename_i v aC
     rw[xD] at h;obtain⟨b,af,rfl⟩:=h;have ef:=IU dh w af (aw t v aC);unfold Region.wanted;rw[aA];simp only;unfold yielded;rw[bc];simp only [Option.bind_some];rw[fh] at ef;cases aL:a.tmps[t]? with
     |none=>rw[aL] at ef;simp [undef] at ef
     |some u=>
      rw[aL] at ef;simp only [Option.getD_some] at ef;subst ef;cases b<;>cases want<;>rfl
    ·cases h
structure ix where
 call:adS
 round:Nat->List J->a6->Option (J×a6)
def zj (φ:b2) (A:a6) (w:ax) (v:J) (bh:a6):Ending->ax->Prop
 | .returned aB,w'=>∃c8,aD c8 v aB/\cA φ A w c8 bh w'
 |_,_=>False
def Fr (r:Option Nat):Fence:={Fence.wide with round:=r}
omit [a1] in
theorem CY {r:Option Nat} {n:Nat} {P:aR} {f:FuncId} {args:Array J} {w:ax} {R:Ending->ax->Prop} (h:Calls P f args w R):CallsIn (Fr r) n P f args w R:=by
 have fu:CallsIn Fence.wide n P f args w R:=callsIn_wide.2 h;exact fu
structure lP (P:aR) [eh P] (gl:bV Nat) (C:ix):Prop where
 facts:q7 P
 call:∀(f:FuncId) (args:List J) (A:a6) (v:J) (bh:a6) (φ:b2) (w:ax) (gv:Array J),C.call f args A=some (v,bh)->b0 φ A w->mT gl φ->h6 args φ gv->
  Calls P f gv w (zj φ A w v bh)
 round:∀(b:Nat) (args:List J) (A:a6) (v:J) (bh:a6) (φ:b2) (w:ax) (gv:Array J) (e:hP) (k:h4) (fY:Ar) (r:Loop),C.round b args A=some (v,bh)->b0 φ A w->mT gl φ->h6 args φ gv->
  φ b=some e->A.bl.get b=some k->k.obj= .gu (.loop fY)->w.heap[e.bk]? =some (.loop r)->rM φ (.loop fY) (.loop r)->gv.size=r.params.size/\
  RoundIn Fence.wide 0 P e.bk r.fn ((r.params.zip gv).foldl (λtmps (t,a)=>tmps.setIfInBounds t a) r.tmps) r.assign r.body w (zj φ A w v bh)
def yieldOf (bp:Operand->J) (o:Oper):Option (Nat×List J):=
 match o.op with
 | .call c=>match c.callee with
   | .value f=>match bp f with
     | .func (.yield b) ⟨[]⟩ ⟨[]⟩=>some (b,c.args.toList.map bp)
     |_=>none
   |_=>none
 |_=>none
def E3 (A:a6) (b:Nat):Bool:=
 match A.bl.get b with
 |some k=>match k.obj with
  | .gu (.loop _)=>true
  |_=>false
 |none=>false
def vi (P:aR) [Lib P] [eh P] (C:ix) (gl:bV Nat) (ops:Array Oper) (o:Oper) (sl:aF) (A:a6):Option (J×a6):=
 match M4 P ops o sl with
 |none=>none
 |some false=>some (undef,A)
 |some true=>match yieldOf (dH gl sl) o with
  |some (b,args)=>bif E3 A b then C.round b args A else none
  |none=>match CV P (dH gl sl) A o with
   |some (.value v,bC)=>some (v,bC)
   |some (.skip,bC)=>some (undef,bC)
   |some (.enter f args,bC)=>C.call f args bC
   |none=>none
def wP (P:aR) [Lib P] [eh P] (C:ix) (gl:bV Nat) (N:Nat) (ops:Array Oper) (o:Oper) (sl:aF) (A:a6):Option (aF×a6):=
 match vi P C gl ops o sl A with
 |some (v,bC)=>match gZ N sl o.dst v with
  |some eK=>some (eK,bC)
  |none=>none
 |none=>none
omit [a1] in
theorem M5 {P:aR} [Lib P] [eh P] {C:ix} {gl:bV Nat} {N:Nat} {ops:Array Oper} {o:Oper} {sl dN:aF} {A bh:a6} (h:wP P C gl N ops o sl A=some (dN,bh)):
  ∃v,vi P C gl ops o sl A=some (v,bh)/\gZ N sl o.dst v=some dN:=by
 unfold wP at h;split at h
 ·rename_i v bC aC
  split at h
  ·rename_i eK hp
   cases h;exact⟨v,aC,hp⟩
  ·cases h
 ·cases h
section
variable {P:aR} [Lib P] [eh P] {C:ix} {gl:bV Nat} {φ:b2} {A bh:a6} {w:ax} {a:Act}
omit [a1] in
theorem IW {ρ:Operand->J} {o:Oper} {r:sR×a6} (h:CV P ρ A o=some r) (c:Call):o.op≠.defer c:=by
 intro ar;unfold CV at h;split at h
 ·rename_i v aC
  unfold ug at aC;split at aC
  ·cases aC
  ·unfold qy at aC
   rw[ar] at aC;cases aC
 split at h
 ·rename_i v aC
  unfold IT at aC;split at aC
  ·cases aC
  ·rw[ar] at aC
   cases aC
 ·cases af:M1 P o with
  |true=>rw[af] at h;cases h
  |false=>
   rw[af,eB] at h;unfold E0 at h;rw[ar] at h;cases h
omit [a1] in
omit [Lib P] [eh P] in
theorem adT {ρ:Operand->J} {o:Oper} {r:Nat×List J} (h:yieldOf ρ o=some r) (c:Call):o.op≠.defer c:=by
 intro ar;unfold yieldOf at h;rw[ar] at h;cases h
omit [Lib P] [eh P] in
theorem UJ (ao:b0 φ A w) {ρ ρ':Operand->J} {o:Oper} {b:Nat} {args:List J} (cZ:∀x,aD φ (ρ x) (ρ' x)) (h:yieldOf ρ o=some (b,args)) (hl:E3 A b=true):
  ∃e k fY r gv,φ b=some e/\A.bl.get b=some k/\k.obj= .gu (.loop fY)/\w.heap[e.bk]? =some (.loop r)/\rM φ (.loop fY) (.loop r)/\h6 args φ gv/\
   (gv.size=r.params.size->(execOp ρ' o).run P w= .ok (.round e.bk r.fn ((r.params.zip gv).foldl (λtmps (t,a)=>tmps.setIfInBounds t a) r.tmps) r.assign r.body) w):=by
 unfold yieldOf at h;split at h
 ·rename_i c cy
  split at h
  ·rename_i f pS
   split at h
   ·rename_i b' aQ
    simp only [cN,Prod.mk.injEq] at h;obtain⟨rfl,rfl⟩:=h;have aC:=cZ f;rw[aQ] at aC;have adU:∃e,φ b'=some e/\ρ' f= .func (.yield e.bk) #[] #[]:=by
     generalize ρ' f=u at aC;cases aC with
     |tP h=>exact⟨_,h,rfl⟩
     |func _ _ _ _ av=>exact absurd rfl (av _)
    obtain⟨e,he,om⟩:=adU;unfold E3 at hl;split at hl
    ·rename_i k al
     split at hl
     ·rename_i fY fK
      obtain⟨k',dB,_,ho⟩:=ao.eC b' e he;rw[al] at dB;cases dB;unfold fT at ho;simp only [fK] at ho;obtain⟨_,o',ad,ag⟩:=ho;obtain⟨r,rfl,wH⟩:=id ag;refine⟨e,k,fY,r,c.args.map ρ',he,al,fK,ad,ag,h6.map λx _=>cZ x,λcr=> ?_⟩;unfold execOp;rw[cy];simp only;refine c4 (a:={target:= .fn (.yield e.bk) #[],args:= #[]++c.args.map ρ'}) (by unfold resolve;rw[pS];simp only [om];rfl) ?_;simp only [Array.empty_append];show (Instr.yield e.bk (c.args.map ρ')).run P w=_;unfold Instr.yield Instr.getLoop;refine dm (a:=r) (w1:=w) (by
       refine dm (a:= .loop r) (w1:=w) (rZ ad (λ_ _ _ h=>by cases h)) rfl) ?_
      rw[a' (λcW=>cW cr)];rfl
     ·cases hl
    ·cases hl
   ·cases h
  ·cases h
 ·cases h
theorem IX (cX:lP P gl C) (ao:b0 φ A w) (aA:mT gl φ) {ro:Option Nat} {ops:Array Oper} {o:Oper} {sl:aF} {v:J} (aw:∀t v,sl.get t=some v->aD φ v (a.tmps.getD t undef)) (h:vi P C gl ops o sl A=some (v,bh))
  {K:Act->ax->Prop} {Q:Exit->Act->ax->Prop} (cv:∀c8 aB w',aD c8 v aB->cA φ A w c8 bh w'->K (a.put o.dst aB) w'):
  if Region.wanted o (yielded ops a.tmps) then o.wpIn (Fr ro) 0 P a w K Q else (∀f,o.about P w a.eval=some f->(Fr ro).fn f)/\K (a.put o.dst undef) w:=by
 unfold vi at h;split at h
 ·cases h
 ·rename_i hw
  rw[UI cX.facts w aw hw];cases h;exact⟨λ_ _=>trivial,cv φ undef w (aD.y' φ) (cA.refl ao)⟩
 ·rename_i hw
  rw[UI cX.facts w aw hw,aY rfl];refine⟨λ_ _=>trivial,?_⟩;split at h
  ·rename_i b args bE
   cases hl:E3 A b with
   |false=>rw[hl] at h;cases h
   |true=>
    rw[hl,bD] at h;obtain⟨e,k,fY,r,gv,he,al,fK,rO,AP,gK,fw⟩:=UJ (P:=P) ao (gV aA aw) bE hl;obtain⟨cr,M6⟩:=cX.round b args A v bh φ w gv e k fY r h ao aA gK he al fK rO AP;rw[Oper.semAt_eq _ _ _ (adT bE),fw cr,Oper.uponIn_round];refine⟨λh=>absurd h (by simp [Fr,Fence.wide]),?_⟩;have adV:RoundIn (Fr ro) (0-1) P e.bk r.fn ((r.params.zip gv).foldl (λtmps (t,a)=>tmps.setIfInBounds t a) r.tmps) r.assign r.body w (zj φ A w v bh):=M6;refine RoundIn.mono adV λen w2 vj=> ?_
    cases en with
    |returned aB=>
     obtain⟨fm,ad,ag⟩:=vj;exact cv fm aB w2 ad ag
    |panicked cl=>exact vj.elim
    |outgrown=>exact vj.elim
  ·split at h
   ·rename_i v1 bC ha
    cases h;obtain⟨gM,w1,n,g1,g2,g3⟩:=CW cX.facts ao (gV aA aw) ha;rw[Oper.semAt_eq _ _ _ (IW ha),g1];obtain⟨aB,rfl,aC⟩:=g2;exact cv gM aB w1 aC g3
   ·rename_i bC ha
    cases h;obtain⟨gM,w1,n,g1,g2,g3⟩:=CW cX.facts ao (gV aA aw) ha;rw[Oper.semAt_eq _ _ _ (IW ha),g1];cases g2;exact cv gM undef w1 (aD.y' gM) g3
   ·rename_i f args bC ha
    obtain⟨gM,w1,n,g1,g2,g3⟩:=CW cX.facts ao (gV aA aw) ha;rw[Oper.semAt_eq _ _ _ (IW ha),g1];obtain⟨gv,rfl,gK⟩:=g2;rw[Oper.uponIn_enter];refine⟨λh=>absurd h (by simp [Fr,Fence.wide]),?_⟩;refine CallsIn.mono (CY (cX.call f args bC v bh gM w1 gv h g3.rel (aA.mono (g3.ext ao)) gK)) λe w2 he=> ?_
    cases e with
    |returned aB=>
     obtain⟨fm,ad,ag⟩:=he;exact cv fm aB w2 ad (cA.trans ao g3 ag)
    |panicked cl=>exact he.elim
    |outgrown=>exact he.elim
   ·cases h
def wQ (P:aR) [Lib P] [eh P] (C:ix) (gl:bV Nat) (N:Nat) (ops:Array Oper):List Oper->aF->a6->Option (aF×a6)
 |[],sl,A=>some (sl,A)
 |o::r,sl,A=>match wP P C gl N ops o sl A with
  |some (eK,bC)=>wQ P C gl N ops r eK bC
  |none=>none
theorem M7 (cX:lP P gl C) {ro:Option Nat} {N:Nat} {ds:List Deferred} {ops:Array Oper} {Q:Exit->Act->ax->Prop}:∀(l:List Oper) (sl dN:aF) (A bh:a6) (φ:b2) (w:ax) (a:Act),b0 φ A w->mT gl φ->fD N ds φ sl a->wQ P C gl N ops l sl A=some (dN,bh)->
  (∀c8 a7 w',fD N ds c8 dN a7->cA φ A w c8 bh w'->Q .normal a7 w')->wpListIn (Fr ro) 0 P ops Q l a w
 |[],sl,dN,A,bh,φ,w,a,ao,aA,aw,h,c5=>by
  cases h;exact c5 φ a w aw (cA.refl ao)
 |o::r,sl,dN,A,bh,φ,w,a,ao,aA,aw,h,c5=>by
  unfold wQ at h;split at h
  ·rename_i eK bC c1
   obtain⟨v,aC,hp⟩:=M5 c1;unfold wpListIn;refine IX cX ao aA aw.get aC λc8 aB w' xR pR=> ?_
   exact M7 cX r eK dN bC bh c8 w' (a.put o.dst aB) pR.rel (aA.mono (pR.ext ao)) ((aw.mono (pR.ext ao)).put xR hp) h λfm a2 w2 ad ag=>c5 fm a2 w2 ad (cA.trans ao pR ag)
  ·cases h
end
end AE
section
section
variable {P:aR} {ops:Array Oper}
def fx (ops:Array Oper) (j:Nat):Option Tmp:=(ops[j]?).bind (·.dst)
def needs (ops:Array Oper) (m:Nat) (o:Oper):List Nat:=(List.range m).filter λj=>match fx ops j with
 |some d=>(o.looksAt ops).contains d
 |none=>false
def direct (ops:Array Oper) (i j:Nat):Bool:=match ops[i]? with
 |some o=>o.after.any λe=>Region.binds .any e&&e.on==j
 |none=>false
theorem Act.size_put (a:Act) (d:Option Tmp) (v:J):(a.put d v).tmps.size=a.tmps.size:=by cases d<;>simp [Act.put]
theorem Act.CZ (a:Act) (d:Option Tmp) (v:J):(a.put d v).defers=a.defers:=by cases d<;>rfl
theorem Act.sS (a:Act) (d:Option Tmp) (v:J) (t:Nat) (aL:t<a.tmps.size):(a.put d v).tmps.getD t undef=if d=some t then v else a.tmps.getD t undef:=by
 cases d with
 |none=>simp [Act.put]
 |some d=>
  simp only [Act.put,cN,fh,Array.getElem?_setIfInBounds];by_cases h:d=t
  ·subst h;simp [aL]
  ·simp [h]
structure aor (ops:Array Oper) (m:Nat) (G:ax->ax->Prop) (adW:Nat->J->ax->Prop) (UK:Nat->Bool) (a0:Act) (w0:ax) (listed:Array Bool) (a:Act) (w:ax):Prop where
 size:listed.size=ops.size
 down:∀i j,listed.getD i false=true->direct ops i j=true->listed.getD j false=true
 sT:∀i,m<=i->listed.getD i false=false
 defers:a.defers=a0.defers
 my:a.tmps.size=a0.tmps.size
 g:G w0 w
 other:∀t,(∀i,i<m->listed.getD i false=true->fx ops i≠some t)->a.tmps.getD t undef=a0.tmps.getD t undef
 post:∀i t,i<m->listed.getD i false=true->fx ops i=some t->adW i (a.tmps.getD t undef) w
 aos:∀i j t u b o s b' o' fC,i<m->j<m->i≠j->listed.getD i false=true->listed.getD j false=true->UK i=true->UK j=true->fx ops i=some t->fx ops j=some u->
  a.tmps.getD t undef= .pointer (some ⟨b,o,s⟩)->a.tmps.getD u undef= .pointer (some ⟨b',o',fC⟩)->b≠b'
theorem qz {listed:Array Bool} {i:Nat} (h:i∈Region.ready .any ops listed):∀k,direct ops i k=true->listed.getD k false=true:=by
 intro k al;obtain⟨_,o,ho,lr⟩:=mem_ready.1 h;simp only [direct,ho] at al;obtain⟨e,he,af⟩:=Array.any_eq_true'.1 al;simp only [c7,beq_iff_eq] at af;exact af.2▸lr e he af.1
def q9 (listed:Array Bool):Nat:=listed.toList.count false
theorem UL:∀(l:List Bool) (i:Nat),l[i]? =some false->(l.set i true).count false+1=l.count false
 |[],i,h=>by simp at h
 |b::r,0,h=>by simp at h;subst h;simp
 |b::r,i+1,h=>by
  have:=UL r i (by simpa using h);simp only [List.set_cons_succ,List.count_cons];omega
theorem xW {listed:Array Bool} {i:Nat} (ai:i<listed.size) (h:listed.getD i true=false):q9 (listed.setIfInBounds i true)+1=q9 listed:=by
 unfold q9;rw[Array.toList_setIfInBounds];refine UL _ _ ?_;have:listed[i]? =some listed[i]:=Array.getElem?_eq_getElem ai;simp only [fh,this,Option.getD_some] at h;rw[Array.getElem?_toList,this,h]
theorem qA {listed:Array Bool} {i:Nat} (h:i<listed.size):listed.getD i true=listed.getD i false:=by
 simp [h]
end
end
namespace AE
variable [a1]
def hR (N:Nat) (ops:Array Oper) (V:Nat->J):List Nat->aF->Option aF
 |[],sl=>some sl
 |j::r,sl=>match gZ N sl (fx ops j) (V j) with
  |some s=>hR N ops V r s
  |none=>none
omit [a1] in
theorem oW {N:Nat} {ops:Array Oper} {V:Nat->J}:∀(cq:List Nat) (sl dN:aF),hR N ops V cq sl=some dN->∀t v,dN.get t=some v->
  (∃j∈cq,fx ops j=some t/\v=V j)\/((∀j∈cq,fx ops j≠some t)/\sl.get t=some v)
 |[],sl,dN,h,t,v,aC=>by
  cases h;exact .inr ⟨λj hj=>absurd hj (by simp),aC⟩
 |j::r,sl,dN,h,t,v,aC=>by
  unfold hR at h;split at h
  ·rename_i s aw
   rcases oW r s dN h t v aC with ⟨k,al,bc,uh⟩|⟨av,aA⟩
   ·exact .inl ⟨k,List.mem_cons_of_mem _ al,bc,uh⟩
   ·unfold gZ at aw
    cases bc:fx ops j with
    |none=>
     rw[bc] at aw;cases aw;refine .inr ⟨λk al=> ?_,aA⟩;rcases List.mem_cons.1 al with rfl|al
     ·rw[bc];simp
     ·exact av k al
    |some d=>
     rw[bc] at aw;simp only at aw;cases af:Nat.blt d N with
     |false=>rw[af] at aw;cases aw
     |true=>
      rw[af,bD] at aw;rw[bV.ob _ _ _ _ _ t aw] at aA;by_cases M8:t=d
      ·subst M8
       rw[aY rfl] at aA;cases aA;exact .inl ⟨j,List.mem_cons_self,bc,rfl⟩
      ·rw[a' M8] at aA
       refine .inr ⟨λk al=> ?_,aA⟩;rcases List.mem_cons.1 al with rfl|al
       ·rw[bc];simp;exact λh=>M8 h.symm
       ·exact av k al
  ·cases h
def xX (o:Oper):Bool:=
 (match o.guard with|none=>true|some _=>false)&&
 match o.op with
 | .move _| .assign _| .binOp .. | .unOp .. | .fieldAddr .. | .indexAddr .. =>true
 |_=>false
def xY (P:aR) [eh P] (bp:Operand->J) (o:Oper):Option J:=
 match o.op with
 | .move x| .assign x=>some (bp x)
 | .binOp op t x y _=>match ug P bp o with
   |some v=>some v
   |none=>bif plain (bp x)&&plain (bp y) then ud P (do eqGuard op t x y (bp x) (bp y);binOp op t (bp x) (bp y)) else none
 | .unOp op _ x=>match ug P bp o with
   |some v=>some v
   |none=>bif plain (bp x) then ud P (Op.unary op (bp x)) else none
 | .fieldAddr s x f=>match ug P bp o with
   |some v=>some v
   |none=>EG P s f (bp x)
 | .indexAddr t x i=>match ug P bp o with
   |some v=>some v
   |none=>bif plain (bp i) then EH P t (bp x) (bp i) else none
 |_=>none
theorem E4 {P:aR} [eh P] (dh:q7 P) {φ:b2} {ρ ρ':Operand->J} {o:Oper} {v:J} (cZ:∀x,aD φ (ρ x) (ρ' x)) (h:xY P ρ o=some v):∃aB,(∀w,(execOp ρ' o).run P w= .ok (.value aB) w)/\aD φ v aB:=by
 have fW:∀{s:Sem J},ud P s=some v->∃aB,(∀w,(do pure (Next.value (<-s)):Sem Next).run P w= .ok (.value aB) w)/\aD φ v aB:=by
  intro s aw;unfold ud at aw;split at aw
  ·rename_i u hu
   cases hp:plain u with
   |false=>rw[hp] at aw;cases aw
   |true=>
    rw[hp,bD,cN] at aw;subst aw;exact⟨u,λw=>jz (by rw[sP,hu];rfl) w,aD.kq φ u hp⟩
  ·cases aw
 unfold xY at h;unfold execOp;split at h
 ·rename_i x cy
  cases h;rw[cy];exact⟨_,λ_=>rfl,cZ x⟩
 ·rename_i x cy
  cases h;rw[cy];exact⟨_,λ_=>rfl,cZ x⟩
 ·rename_i op t x y UF cy
  split at h
  ·rename_i u hu
   cases h;have:=CX dh cZ hu λf aQ=>by
    unfold qy at aQ;rw[cy] at aQ;cases aQ;rfl
   unfold execOp at this;exact this
  ·cases hp:plain (ρ x) with
   |false=>rw[hp] at h;cases h
   |true=>
    cases bb:plain (ρ y) with
    |false=>rw[hp,bb] at h;cases h
    |true=>
     rw[hp,bb] at h;rw[cy];simp only;rw[aD.k6 _ hp (cZ x),aD.k6 _ bb (cZ y)];exact fW h
 ·rename_i op t x cy
  split at h
  ·rename_i u hu
   cases h;have:=CX dh cZ hu λf aQ=>by
    unfold qy at aQ;rw[cy] at aQ;cases aQ;rfl
   unfold execOp at this;exact this
  ·cases hp:plain (ρ x) with
   |false=>rw[hp] at h;cases h
   |true=>
    rw[hp] at h;rw[cy];simp only;rw[aD.k6 _ hp (cZ x)];exact fW h
 ·rename_i s x f cy
  split at h
  ·rename_i u hu
   cases h;have:=CX dh cZ hu λf aQ=>by
    unfold qy at aQ;rw[cy] at aQ;cases aQ;rfl
   unfold execOp at this;exact this
  ·obtain⟨aB,ad,ag⟩:=TU (cZ x) h
   rw[cy];exact⟨aB,λw=>by simp only [Sem.run_bind,ad w,Result.andThen_ok];rfl,ag⟩
 ·rename_i t x i cy
  split at h
  ·rename_i u hu
   cases h;have:=CX dh cZ hu λf aQ=>by
    unfold qy at aQ;rw[cy] at aQ;cases aQ;rfl
   unfold execOp at this;exact this
  ·cases hp:plain (ρ i) with
   |false=>rw[hp] at h;cases h
   |true=>
    rw[hp] at h;obtain⟨aB,ad,ag⟩:=TV (cZ x) h;rw[cy];simp only;rw[aD.k6 _ hp (cZ i)];exact⟨aB,λw=>by simp only [Sem.run_bind,ad w,Result.andThen_ok];rfl,ag⟩
 ·cases h
def M9 (ops:Array Oper):List Oper->Nat->Array Bool->List Nat
 |[],_,_=>[]
 |o::r,i,listed=>bif xX o&&((Region.ready .any ops listed).contains i&&Region.free .any ops listed i) then i::M9 ops r (i+1) (listed.setIfInBounds i true) else M9 ops r (i+1) listed
def vk (ops:Array Oper):List Nat:=M9 ops ops.toList 0 (Array.replicate ops.size false)
def wR (ops:Array Oper):List Nat->Array Bool->Bool
 |[],_=>true
 |i::r,listed=>((Region.ready .any ops listed).contains i&&Region.free .any ops listed i)&&((match ops[i]? with|some o=>xX o|none=>false)&&wR ops r (listed.setIfInBounds i true))
def AQ (o:Oper) (masks:List Nat) (q5:Nat):Nat:=o.after.toList.foldl (λacc e=>bif Region.binds .any e then Nat.lor acc (Nat.lor (Nat.shiftLeft 1 e.on) (masks.getD e.on 0)) else acc) q5
def wS:List Oper->List Nat->List Nat
 |[],ms=>ms
 |o::r,ms=>wS r (ms++[AQ o ms 0])
def zk (ops:Array Oper):List Nat:=wS ops.toList []
def C0 (ms:List Nat) (i j:Nat):Bool:=(ms.getD i 0).testBit j
def M_ (ops:Array Oper) (i j:Nat):Prop:=∀listed:Array Bool,(∀i j,listed.getD i false=true->direct ops i j=true->listed.getD j false=true)->(∀k,direct ops i k=true->listed.getD k false=true)->listed.getD j false=true
omit [a1] in
theorem UM {masks:List Nat} {j:Nat}:∀(l:List Edge) (q5:Nat),(l.foldl (λacc e=>bif Region.binds .any e then Nat.lor acc (Nat.lor (Nat.shiftLeft 1 e.on) (masks.getD e.on 0)) else acc) q5).testBit j=true->q5.testBit j=true\/∃e∈l,Region.binds .any e=true/\(e.on=j\/(masks.getD e.on 0).testBit j=true)
 |[],q5,h=> .inl h
 |e::r,q5,h=>by
  simp only [List.foldl_cons] at h;rcases UM r _ h with h|⟨e',oV,fu⟩
  ·cases af:Region.binds .any e with
   |false=>rw[af] at h;exact .inl h
   |true=>
    rw[af,bD] at h;have ag:(q5 ||| ((1 <<< e.on) ||| masks.getD e.on 0)).testBit j=true:=h;rw[Nat.testBit_or,Nat.testBit_or,Nat.one_shiftLeft,Nat.testBit_two_pow] at ag;simp only [Bool.or_eq_true,decide_eq_true_eq] at ag;rcases ag with ag|ag
    ·exact .inl ag
    ·exact .inr ⟨e,List.mem_cons_self,af,ag⟩
  ·exact .inr ⟨e',List.mem_cons_of_mem _ oV,fu⟩
omit [a1] in
theorem UN:∀(l:List Oper) (ms:List Nat),(wS l ms).take ms.length=ms/\∀i o,l[i]? =some o->(wS l ms).getD (ms.length+i) 0=AQ o ((wS l ms).take (ms.length+i)) 0
 |[],ms=>⟨by simp [wS],λi o h=>by simp at h⟩
 |o::r,ms=>by
  obtain⟨ad,ag⟩:=UN r (ms++[AQ o ms 0]);have hm:wS (o::r) ms=wS r (ms++[AQ o ms 0]):=rfl;rw[hm];have ay:(wS r (ms++[AQ o ms 0])).take ms.length=ms:=by
   have:=congrArg (List.take ms.length) ad;rw[List.take_take] at this;simpa using this
  refine⟨ay,λi o' ai=> ?_⟩;cases i with
  |zero=>
   simp only [List.getElem?_cons_zero,cN] at ai;subst ai;rw[Nat.add_zero,ay];have:=congrArg (λl=>l[ms.length]?) ad;simp only [List.getElem?_take,List.length_append,List.length_cons,List.length_nil] at this;rw[aY aj] at this;rw[dp,this];simp
  |succ i=>
   simp only [List.getElem?_cons_succ] at ai;have:=ag i o' ai;simp only [List.length_append,List.length_cons,List.length_nil] at this;rw[show ms.length+(i+1)=ms.length+(0+1)+i by omega];exact this
omit [a1] in
theorem UO {ops:Array Oper}:∀(i:Nat),i<ops.size->∀j,C0 (zk ops) i j=true->M_ ops i j:=by
 intro i
 induction i using Nat.strongRecOn with
 |_ i cz=>
  intro ai j h listed down UP;have ho:ops.toList[i]? =some ops[i]:=by rw[Array.getElem?_toList];exact Array.getElem?_eq_getElem ai
  have aw:=(UN ops.toList []).2 i _ ho;simp only [List.length_nil,Nat.zero_add] at aw;unfold C0 zk at h;rw[aw] at h;unfold AQ at h;rcases UM _ _ h with h|⟨e,he,af,h⟩
  ·simp at h
  ·have bc:direct ops i e.on=true:=by
    unfold direct;rw[Array.getElem?_eq_getElem ai];simp only;exact Array.any_eq_true'.2 ⟨e,by simpa using he,by simp [af]⟩
   rcases h with rfl|h
   ·exact UP _ bc
   ·rcases Nat.lt_or_ge e.on i with ck|kD
    ·have aA:((wS ops.toList []).take i).getD e.on 0=(zk ops).getD e.on 0:=by
      unfold zk;rw[dp,List.getElem?_take,aY ck,dp]
     rw[aA] at h;exact cz e.on ck aj j h listed down λk al=>down e.on k (UP _ bc) al
    ·rw[dp,List.getElem?_take,a' aj] at h
     simp at h
def ui (ops:Array Oper) (L:List Nat) (m N:Nat):Bool:=
 decide (m<=ops.size)&&Region.noSelect ops&&
 ((List.range m).all λi=>(List.range m).all λj=>i==j||fx ops i==none||fx ops i !=fx ops j)&&
 ((List.range m).all λi=>match fx ops i with|some d=>decide (d<N)|none=>true)&&
 ((List.range m).all λi=>match ops[i]? with|some o=>(needs ops m o).all (direct ops i ·)|none=>false)&&
 ((List.range ops.size).all λi=>match ops[i]? with|some o=>o.after.all (λe=> !Region.binds .any e||decide (e.on<i))|none=>false)&&
 ((List.range ops.size).all λi=>decide (i<m)||(List.range i).all λj=>(L.contains j&&decide (j<m))||C0 (zk ops) i j)
omit [a1] in
theorem C1 {ops:Array Oper} {L:List Nat} {m N:Nat} (h:ui ops L m N=true):m<=ops.size/\Region.noSelect ops=true/\
  (∀i j,i<m->j<m->i≠j->∀t,fx ops i=some t->fx ops j≠some t)/\(∀i t,i<m->fx ops i=some t->t<N)/\
  (∀i o,i<m->ops[i]? =some o->∀j∈needs ops m o,direct ops i j=true)/\(∀i j,i<ops.size->direct ops i j=true->j<i)/\
  (∀i j,i<ops.size->m<=i->j<i->(j∈L/\j<m)\/M_ ops i j):=by
 simp only [ui,c7,decide_eq_true_eq,List.all_eq_true,List.mem_range] at h;obtain⟨⟨⟨⟨⟨⟨ad,ag⟩,ay⟩,bG⟩,cE⟩,cR⟩,fS⟩:=h;refine⟨ad,ag,?_,?_,?_,?_,?_⟩
 ·intro i j ai hj cW t aL adX
  have:=ay i ai j hj;simp [cW,aL,adX] at this
 ·intro i t ai aL
  have:=bG i ai;simpa [aL] using this
 ·intro i o ai ho j hj
  have:=cE i ai;simp only [ho,List.all_eq_true] at this;exact this j hj
 ·intro i j ai bc
  have:=cR i ai;unfold direct at bc;have ho:ops[i]? =some ops[i]:=Array.getElem?_eq_getElem ai;simp only [ho] at this bc;obtain⟨e,he,af⟩:=Array.any_eq_true'.1 bc;simp only [c7,beq_iff_eq] at af;have fu:=Array.all_eq_true_iff_forall_mem.1 this e he;simp only [af.1,Bool.not_true,Bool.false_or,decide_eq_true_eq] at fu;exact af.2▸fu
 ·intro i j ai hm hj
  have:=fS i ai;simp only [Bool.or_eq_true,decide_eq_true_eq,List.all_eq_true,List.mem_range,c7] at this;have:=this.resolve_left aj j hj;rcases this with h|h
  ·exact .inl (by simpa using h)
  ·exact .inr (UO i ai j h)
def Na (q5:Nat):List Oper->Nat->List Nat->Nat->Nat
 |[],_,_,m=>m
 |o::r,i,masks,m=>let p:=AQ o masks (Nat.land q5 (Nat.shiftLeft 1 i-1));Na q5 r (i+1) (masks++[p]) (bif Nat.beq p (Nat.shiftLeft 1 i-1) then m else i+1)
def UQ (L:List Nat):Nat:=L.foldl (λa i=>Nat.lor a (Nat.shiftLeft 1 i)) 0
def Nb (ops:Array Oper) (N:Nat) (gW:Bool):Option (List Nat×Nat):=
 let ca:=bif gW then [] else vk ops
 let m:=Na (UQ ca) ops.toList 0 [] 0
 let L:=ca.filter λi=>Nat.blt i m
 bif ui ops L m N&&wR ops L (Array.replicate ops.size false) then some (L,m) else none
def C2 (P:aR) [Lib P] [eh P] (C:ix) (gl:bV Nat) (N:Nat) (ops:Array Oper) (L:List Nat) (m:Nat) (dv:aF):List Oper->Nat->List J->a6->Option (List J×a6)
 |[],_,vs,A=>some (vs,A)
 |o::r,i,vs,A=>match hR N ops (λj=>vs.getD j cu) (needs ops m o) dv with
  |some sl=>bif L.contains i then
    match xY P (dH gl sl) o with
    |some v=>C2 P C gl N ops L m dv r (i+1) (vs++[v]) A
    |none=>none
   else match vi P C gl ops o sl {A with low:=A.n} with
    |some (v,bC)=>bif Nat.ble A.n bC.low then C2 P C gl N ops L m dv r (i+1) (vs++[v]) {bC with low:=A.low} else none
    |none=>none
  |none=>none
def IY (P:aR) [Lib P] [eh P] (C:ix) (gl:bV Nat) (N:Nat) (gW:Bool) (ops:Array Oper) (sl:aF) (A:a6):Option (aF×a6×List Oper):=
 match Nb ops N gW with
 |some (L,m)=>match hR N ops (λ_=>cu) (List.range m) sl with
  |some dv=>match C2 P C gl N ops L m dv (ops.toList.take m) 0 [] A with
   |some (vs,bC)=>bif Nat.ble bC.n dead then
     match hR N ops (λj=>vs.getD j cu) (List.range m) dv with
     |some eK=>some (eK,bC,ops.toList.drop m)
     |none=>none
    else none
   |none=>none
  |none=>none
 |none=>none
def Nc (P:aR) [Lib P] [eh P] (C:ix) (gl:bV Nat) (N:Nat) (gW:Bool) (ops:Array Oper) (sl:aF) (A:a6):Option (aF×a6):=
 match IY P C gl N gW ops sl A with
 |some (eK,bC,r)=>wQ P C gl N ops r eK bC
 |none=>none
def C3 (P:aR) [Lib P] [eh P] (C:ix) (gl:bV Nat) (N:Nat) (ops:Array Oper) (L:List Nat) (m:Nat) (dv:aF) (i:Nat) (o:Oper) (IZ:List J) (v:J) (A bh:a6):Prop:=
 ∃sl,hR N ops (λj=>IZ.getD j cu) (needs ops m o) dv=some sl/\
  ((i∈L/\xY P (dH gl sl) o=some v/\bh=A)\/(i∉L/\∃bC,vi P C gl ops o sl {A with low:=A.n}=some (v,bC)/\A.n<=bC.low/\bh={bC with low:=A.low}))
section
variable {P:aR} [Lib P] [eh P] {C:ix} {gl:bV Nat} {N:Nat} {ops:Array Oper} {L:List Nat} {m:Nat} {dv:aF}
omit [a1] in
theorem UR:∀(l:List Oper) (i0:Nat) (vs cL:List J) (A bh:a6),vs.length=i0->C2 P C gl N ops L m dv l i0 vs A=some (cL,bh)->
  ∃(B:Nat->a6),B 0=A/\B l.length=bh/\cL.length=vs.length+l.length/\cL.take vs.length=vs/\
   ∀i o,l[i]? =some o->C3 P C gl N ops L m dv (i0+i) o (cL.take (vs.length+i)) (cL.getD (vs.length+i) cu) (B i) (B (i+1))
 |[],i0,vs,cL,A,bh,_,h=>by
  cases h;exact⟨λ_=>A,rfl,rfl,by simp,by simp,λi o ai=>by simp at ai⟩
 |o::r,i0,vs,cL,A,bh,vl,h=>by
  unfold C2 at h;split at h
  ·rename_i sl gI
   have go:∀(v:J) (fU:a6),((i0∈L/\xY P (dH gl sl) o=some v/\fU=A)\/(i0∉L/\∃bC,vi P C gl ops o sl {A with low:=A.n}=some (v,bC)/\A.n<=bC.low/\fU={bC with low:=A.low}))->
     C2 P C gl N ops L m dv r (i0+1) (vs++[v]) fU=some (cL,bh)->
     ∃(B:Nat->a6),B 0=A/\B (o::r).length=bh/\cL.length=vs.length+(o::r).length/\cL.take vs.length=vs/\
      ∀i o',(o::r)[i]? =some o'->C3 P C gl N ops L m dv (i0+i) o' (cL.take (vs.length+i)) (cL.getD (vs.length+i) cu) (B i) (B (i+1)):=by
    intro v fU adY h;obtain⟨B,h0,ad,ag,ay,bG⟩:=UR r (i0+1) (vs++[v]) cL _ bh (by simp [vl]) h;have hlen:(vs++[v]).length=vs.length+1:=by simp
    rw[hlen] at ag ay;have vm:cL.take vs.length=vs:=by
     have:=congrArg (List.take vs.length) ay;rw[List.take_take,Nat.min_eq_left aj] at this;simpa using this
    refine⟨λi=>match i with|0=>A|i+1=>B i,rfl,?_,by simp;omega,vm,?_⟩
    ·simpa using ad
    ·intro i o' ai
     match i with
     |0=>
      simp only [List.getElem?_cons_zero,cN] at ai;subst ai;simp only [Nat.add_zero];rw[vm];have gO:cL.getD vs.length cu=v:=by
       have:=congrArg (λl=>l[vs.length]?) ay;simp at this;rw[dp,this];rfl
      rw[gO];refine⟨sl,gI,?_⟩;show (_/\_/\B 0=A)\/_;rw[h0];exact adY
     |i+1=>
      have:=bG i o' (by simpa using ai);rw[hlen] at this;rw[show vs.length+(i+1)=vs.length+1+i by omega,show i0+(i+1)=i0+1+i by omega];exact this
   cases ar:L.contains i0 with
   |true=>
    rw[ar,bD] at h;split at h
    ·rename_i v aC
     exact go v A (.inl ⟨by simpa using ar,aC,rfl⟩) h
    ·cases h
   |false=>
    rw[ar,eB] at h;split at h
    ·rename_i v bC aC
     cases af:Nat.ble A.n bC.low with
     |false=>rw[af] at h;cases h
     |true=>
      rw[af,bD] at h;exact go v _ (.inr ⟨by simpa using ar,bC,aC,Nat.ble_eq.mp af,rfl⟩) h
    ·cases h
  ·cases h
theorem b0.lower {φ:b2} {A:a6} {w:ax} (h:b0 φ A w) (x:Nat):b0 φ {A with low:=x} w:=⟨⟨h.wf.lt,h.wf.tQ,h.wf.mem,h.wf.u2⟩,h.eC,h.apart,h.along,h.dq⟩
theorem adZ {φ:b2} {A bh:a6} {w:ax} (cX:lP P gl C) (ao:b0 φ A w) (aA:mT gl φ) {o:Oper} {sl:aF} {v:J} (aw:∀t v,sl.get t=some v->∃aB,aD φ v aB) (h:vi P C gl ops o sl A=some (v,bh)):
  ∃c8 aB w',aD c8 v aB/\cA φ A w c8 bh w':=by
 have pT:∀x:Operand,∃aB,aD φ (dH gl sl x) aB:=by
  intro x;cases x with
  |tmp t=>
   show ∃aB,aD φ (slot sl t) aB;unfold slot;cases C4:sl.get t with
   |none=>exact⟨undef,.cu _⟩
   |some v=>exact aw t v C4
  |const v=>exact⟨_,gV (sl:= .nil) (a:=⟨#[],[]⟩) aA (λt v h=>by cases h) (.const v)⟩
  |global g=>exact⟨_,gV (sl:= .nil) (a:=⟨#[],[]⟩) aA (λt v h=>by cases h) (.global g)⟩
  |func f=>exact⟨_,gV (sl:= .nil) (a:=⟨#[],[]⟩) aA (λt v h=>by cases h) (.func f)⟩
 obtain⟨ρ',cZ⟩:=Classical.axiomOfChoice pT;unfold vi at h;split at h
 ·cases h
 ·cases h
  exact⟨φ,undef,w,aD.y' φ,cA.refl ao⟩
 ·split at h
  ·rename_i b args bE
   cases hl:E3 A b with
   |false=>rw[hl] at h;cases h
   |true=>
    rw[hl,bD] at h;obtain⟨e,k,fY,r,gv,he,al,fK,rO,AP,gK,fw⟩:=UJ (P:=P) ao cZ bE hl;obtain⟨cr,M6⟩:=cX.round b args A v bh φ w gv e k fY r h ao aA gK he al fK rO AP;obtain⟨en,w2,vj,_⟩:=M6.2 default [] (room_wide _);cases en with
    |returned aB=>
     obtain⟨fm,ad,ag⟩:=vj;exact⟨fm,aB,w2,ad,ag⟩
    |panicked cl=>exact vj.elim
    |outgrown=>exact vj.elim
  ·split at h
   ·rename_i v1 bC ha
    cases h;obtain⟨gM,w1,n,g1,g2,g3⟩:=CW cX.facts ao cZ ha;obtain⟨aB,_,aC⟩:=g2;exact⟨gM,aB,w1,aC,g3⟩
   ·rename_i bC ha
    cases h;obtain⟨gM,w1,n,g1,g2,g3⟩:=CW cX.facts ao cZ ha;exact⟨gM,undef,w1,aD.y' gM,g3⟩
   ·rename_i f args bC ha
    obtain⟨gM,w1,n,g1,g2,g3⟩:=CW cX.facts ao cZ ha;obtain⟨gv,_,gK⟩:=g2;obtain⟨e,w2,fr,he,_⟩:=cX.call f args bC v bh gM w1 gv h g3.rel (aA.mono (g3.ext ao)) gK [];cases e with
    |returned aB=>
     obtain⟨fm,ad,ag⟩:=he;exact⟨fm,aB,w2,ad,cA.trans ao g3 ag⟩
    |panicked cl=>exact he.elim
    |outgrown=>exact he.elim
   ·cases h
structure pw (fE:b2) (B:Nat->a6) (vs:List J) (m:Nat):Prop where
 I0:∀i,i<m->(B i).n<=(B (i+1)).n
 same:∀i b,i<m->b<(B i).n->(B (i+1)).bl.get b=(B i).bl.get b
 ad0:∀i,i<m->(B (i+1)).low=(B i).low
 ex:∀i,i<=m->∃φ w,b0 φ (B i) w/\(∀b,b<(B 0).n->φ b=fE b)/\(∀b,(B 0).n<=b->b<(B i).n->φ b≠none)/\∀j,j<i->∃aB,aD φ (vs.getD j cu) aB
theorem ad1 {fE:b2} {A:a6} {w0:ax} {B:Nat->a6} {vs:List J} {mz:aF} (cX:lP P gl C) (ao:b0 fE A w0) (aA:mT gl fE) (cT:B 0=A) (zl:m<=ops.size)
  (aw:∀t v,mz.get t=some v->∃aB,aD fE v aB) (fo:hR N ops (λ_=>cu) (List.range m) mz=some dv)
  (rV:∀i o,i<m->ops[i]? =some o->∀j∈needs ops m o,j<i)
  (hl:∀i o,i<m->ops[i]? =some o->C3 P C gl N ops L m dv i o (vs.take i) (vs.getD i cu) (B i) (B (i+1))):pw fE B vs m:=by
 have step:∀i,i<m->(∃φ w,b0 φ (B i) w/\(∀b,b<(B 0).n->φ b=fE b)/\(∀b,(B 0).n<=b->b<(B i).n->φ b≠none)/\(B 0).n<=(B i).n/\∀j,j<i->∃aB,aD φ (vs.getD j cu) aB)->
   ((B i).n<=(B (i+1)).n/\(∀b,b<(B i).n->(B (i+1)).bl.get b=(B i).bl.get b)/\(B (i+1)).low=(B i).low)/\
   (∃φ w,b0 φ (B (i+1)) w/\(∀b,b<(B 0).n->φ b=fE b)/\(∀b,(B 0).n<=b->b<(B (i+1)).n->φ b≠none)/\(B 0).n<=(B (i+1)).n/\∀j,j<i+1->∃aB,aD φ (vs.getD j cu) aB):=by
  rintro i ai ⟨φ,w,ad,ag,ay,bG,cE⟩;have ho:ops[i]? =some (ops[i]'(by omega)):=Array.getElem?_eq_getElem _;obtain⟨sl,gI,C5⟩:=hl i _ ai ho;have sU:∀b e,fE b=some e->φ b=some e:=λb e af=>by
   rw[ag b (by rw[cT];exact ao.lt af)];exact af
  have C6:∀t v,sl.get t=some v->∃aB,aD φ v aB:=by
   intro t v pU;rcases oW _ _ _ gI t v pU with ⟨j,hj,bc,rfl⟩|⟨_,E5⟩
   ·have ei:=rV i _ ai ho j hj
    obtain⟨aB,mA⟩:=cE j ei;refine⟨aB,?_⟩;have:(vs.take i).getD j cu=vs.getD j cu:=by
     simp only [dp,List.getElem?_take,aY ei]
    rw[this];exact mA
   ·rcases oW _ _ _ fo t v E5 with ⟨j,hj,bc,rfl⟩|⟨_,vn⟩
    ·exact⟨undef,.cu _⟩
    ·obtain⟨aB,mA⟩:=aw t v vn
     exact⟨aB,mA.mono sU⟩
  rcases C5 with ⟨_,qx,ad2⟩|⟨_,bC,aC,mP,q'⟩
  ·rw[ad2]
   refine⟨⟨cj _,λ_ _=>rfl,rfl⟩,φ,w,ad,ag,ay,bG,λj hj=> ?_⟩;rcases Nat.lt_or_ge j i with ck|kD
   ·exact cE j ck
   ·have:j=i:=by omega
    subst this;have pT:∀x:Operand,∃aB,aD φ (dH gl sl x) aB:=by
     intro x;cases x with
     |tmp t=>
      show ∃aB,aD φ (slot sl t) aB;unfold slot;cases C4:sl.get t with
      |none=>exact⟨undef,.cu _⟩
      |some v=>exact C6 t v C4
     |const v=>exact⟨_,gV (sl:= .nil) (a:=⟨#[],[]⟩) (aA.mono sU) (λt v h=>by cases h) (.const v)⟩
     |global g=>exact⟨_,gV (sl:= .nil) (a:=⟨#[],[]⟩) (aA.mono sU) (λt v h=>by cases h) (.global g)⟩
     |func f=>exact⟨_,gV (sl:= .nil) (a:=⟨#[],[]⟩) (aA.mono sU) (λt v h=>by cases h) (.func f)⟩
    obtain⟨ρ',cZ⟩:=Classical.axiomOfChoice pT;obtain⟨aB,_,mA⟩:=E4 cX.facts cZ qx;exact⟨aB,mA⟩
  obtain⟨c8,aB,w',g1,g2⟩:=adZ cX (ad.lower (B i).n) (aA.mono sU) C6 aC;have av:(B i).n<=bC.n:=g2.qp;rw[q'];refine⟨⟨av,λb af=>g2.same b af (by show b<bC.low;omega),rfl⟩,c8,w',g2.rel.lower _,λb af=> ?_,λb af ef=> ?_,by simp only;omega,λj hj=> ?_⟩
  ·rw[g2.eC b (by show b<(B i).n;omega),ag b af]
  ·rcases Nat.lt_or_ge b (B i).n with ck|kD
   ·rw[g2.eC b ck];exact ay b af ck
   ·exact g2.rN b kD ef
  ·rcases Nat.lt_or_ge j i with ck|kD
   ·obtain⟨u,hu⟩:=cE j ck
    exact⟨u,hu.mono (g2.ext (ad.lower _))⟩
   ·have:j=i:=by omega
    subst this;exact⟨aB,g1⟩
 have all:∀i,i<=m->(∃φ w,b0 φ (B i) w/\(∀b,b<(B 0).n->φ b=fE b)/\(∀b,(B 0).n<=b->b<(B i).n->φ b≠none)/\(B 0).n<=(B i).n/\∀j,j<i->∃aB,aD φ (vs.getD j cu) aB):=by
  intro i
  induction i with
  |zero=>exact λ_=>⟨fE,w0,by rw[cT];exact ao,λ_ _=>rfl,λb ad ag=>by omega,cj _,λj hj=>by omega⟩
  |succ i cz=>exact λai=>(step i aj (cz aj)).2
 refine⟨λi ai=>(step i ai (all i aj)).1.1,λi b ai af=>(step i ai (all i aj)).1.2.1 b af,λi ai=>(step i ai (all i aj)).1.2.2,λi ai=> ?_⟩;obtain⟨φ,w,ad,ag,ay,_,cE⟩:=all i ai;exact⟨φ,w,ad,ag,ay,cE⟩
theorem pw.sV {fE:b2} {B:Nat->a6} {vs:List J} (h:pw fE B vs m):∀{i j:Nat},i<=j->j<=m->(B i).n<=(B j).n:=by
 intro i j oj
 induction oj with
 |refl=>exact λ_=>cj _
 |step al cz=>exact λhm=>Nat.le_trans (cz aj) (h.I0 _ aj)
theorem pw.wT {fE:b2} {B:Nat->a6} {vs:List J} (h:pw fE B vs m):∀{i j:Nat},i<=j->j<=m->∀b,b<(B i).n->(B j).bl.get b=(B i).bl.get b:=by
 intro i j oj
 induction oj with
 |refl=>exact λ_ _ _=>rfl
 |step al cz=>exact λhm b af=>by rw[h.same _ b aj (Nat.lt_of_lt_of_le af (h.sV al aj)),cz aj b af]
theorem pw.ad3 {fE:b2} {B:Nat->a6} {vs:List J} (h:pw fE B vs m):∀{j:Nat},j<=m->(B j).low=(B 0).low:=by
 intro j
 induction j with
 |zero=>exact λ_=>rfl
 |succ j cz=>exact λhm=>by rw[h.ad0 j aj,cz aj]
def own (B:Nat->a6) (j b:Nat):Prop:=(B j).n<=b/\b<(B (j+1)).n
theorem pw.US {fE:b2} {B:Nat->a6} {vs:List J} (h:pw fE B vs m) {i j b:Nat} (ai:i<m) (hj:j<m) (ad:own B i b) (ag:own B j b):i=j:=by
 unfold own at ad ag;rcases Nat.lt_trichotomy i j with ck|heq|C4
 ·have:=h.sV (i:=i+1) (j:=j) aj aj;omega
 ·exact heq
 ·have:=h.sV (i:=j+1) (j:=i) aj aj;omega
theorem pw.UT {fE:b2} {B:Nat->a6} {vs:List J} (ad4:pw fE B vs m) {b:Nat}:∀{k:Nat},k<=m->(B 0).n<=b->b<(B k).n->∃j,j<k/\own B j b
 |0,_,ad,ag=>by omega
 |k+1,al,ad,ag=>by
  rcases Nat.lt_or_ge b (B k).n with ck|kD
  ·obtain⟨j,hj,ho⟩:=pw.UT ad4 (k:=k) aj ad ck
   exact⟨j,aj,ho⟩
  ·exact⟨k,aj,kD,ag⟩
def restrict (φ:b2) (n:Nat):b2:=λb=>if b<n then φ b else none
theorem aD.restrict {φ ψ:b2} {n:Nat} {v aB:J} (bc:∀b e,φ b=some e->b≠dead) (r1:∀b e,ψ b=some e->b<n) (h:aD φ v aB):∀u,aD ψ v u->aD (AE.restrict φ n) v aB:=by
 have kF:∀{b e},φ b=some e->b<n->AE.restrict φ n b=some e:=λad ag=>by unfold AE.restrict;rw[aY ag];exact ad
 induction h with
 |cu aB=>exact λ_ _=> .cu aB
 |sym k=>exact λ_ _=> .sym k
 |bool b=>exact λ_ _=> .bool b
 |int k i=>exact λ_ _=> .int k i
 |float k b=>exact λ_ _=> .float k b
 |string s=>exact λ_ _=> .string s
 |y9=>exact λ_ _=> .y9
 |ptr h=>
   intro u hu;cases hu with
   |ptr ag=>exact .ptr (kF h (r1 _ _ ag))
 |slnil l c=>exact λ_ _=> .slnil l c
 |iZ a7 h=>exact λ_ _=> .iZ a7 h
 |iD ga c h=>
   intro u hu;cases hu with
   |iD _ _ ag=>exact .iD ga c (kF h (r1 _ _ ag))
   |iE _ _ c' ag _ _ _=>exact .iD ga c (kF h (r1 _ _ ag))
   |iZ a7 ag=>exact absurd rfl (bc _ _ h)
 |iE ga c c' h aw ar hl=>
   intro u hu;cases hu with
   |iD _ _ ag=>exact .iE ga c c' (kF h (r1 _ _ ag)) aw ar hl
   |iE _ _ c' ag _ _ _=>exact .iE ga c _ (kF h (r1 _ _ ag)) aw ar hl
   |iZ a7 ag=>exact absurd rfl (bc _ _ h)
 |At=>exact λ_ _=> .At
 |map h=>
   intro u hu;cases hu with
   |map ag=>exact .map (kF h (r1 _ _ ag))
 |chan=>exact λ_ _=> .chan
 |func fs kC cs cs' av ad ag aQ ar sK sL=>
   intro u hu;cases hu with
   |func _ _ _ _ _ _ _ g1 g2=>exact .func fs kC cs cs' av ad ag (λi ai=>sK i ai _ (g1 i ai)) (λi ai=>sL i ai _ (g2 i ai))
   |tP ag=>exact absurd rfl (av _)
 |tP h=>
   intro u hu;cases hu with
   |tP ag=>exact .tP (kF h (r1 _ _ ag))
   |func _ _ _ _ av=>exact absurd rfl (av _)
 |nilFunc=>exact λ_ _=> .nilFunc
 |nilIface=>exact λ_ _=> .nilIface
 |iface t h cz=>
   intro u hu;cases hu with
   |iface _ g=>exact .iface t (cz _ g)
 |agg cs cs' ad h cz=>
   intro u hu;cases hu with
   |agg _ _ _ g=>exact .agg cs cs' ad λi ai=>cz i ai _ (g i ai)
 |tuple cs cs' ad h cz=>
   intro u hu;cases hu with
   |tuple _ _ _ g=>exact .tuple cs cs' ad λi ai=>cz i ai _ (g i ai)
theorem fT.restrict {φ ψ:b2} {n:Nat} {w w':ax} {e e':hP} {k:h4} (bc:∀b e,φ b=some e->b≠dead) (r1:∀b e,ψ b=some e->b<n) (h:fT φ w e k) (fu:fT ψ w' e' k):fT (AE.restrict φ n) w e k:=by
 unfold fT at*
 cases al:k.obj with
 |cells c=>
  simp only [al] at h fu ⊢;obtain⟨c',jk,ad,ag,ay,bG,cE⟩:=h;obtain⟨oi,ID,g1,g2,g3,g4,k5⟩:=fu;exact⟨c',jk,ad,ag,ay,λj hj=>(bG j hj).restrict bc r1 _ (g4 j hj),cE⟩
 |map es e4=>
  simp only [al] at h fu ⊢;obtain⟨du,ad,ag,ay⟩:=h;obtain⟨kC,g1,g2,g3⟩:=fu;refine⟨du,ad,ag,λj a b ha af=> ?_⟩;obtain⟨q1,aH,bW,et⟩:=ay j a b ha af;have hj:j<es.length:=(List.getElem?_eq_some_iff.1 ha).1;obtain⟨_,_,gh,_⟩:=g3 j a (kC[j]'(by omega)) ha (Array.getElem?_eq_getElem _);exact⟨q1,aH,bW.restrict bc r1 _ gh,et⟩
 |gu x=>
  simp only [al] at h fu ⊢;obtain⟨h0,iw,ad,ag⟩:=h;obtain⟨_,jS,g1,g2⟩:=fu;refine⟨h0,iw,ad,?_⟩;cases x with
  |xE s p=>exact ag
  |deferred=>exact ag
  |gone=>exact ag
  |loop l=>
   obtain⟨r,kx,q1,aH,bW,et,gN,j_,⟨jJ,nB,g'⟩,AR⟩:=ag;obtain⟨ek,sQ,ih,hz,uj,sW,vo,C7,⟨mB,AS,aot⟩,ad5⟩:=g2;refine⟨r,kx,q1,aH,bW,et,gN,j_,⟨jJ,?_,g'⟩,λt v aC=>(AR t v aC).restrict bc r1 _ (ad5 t v aC)⟩;unfold AE.restrict;rw[aY (r1 _ _ AS)];exact nB
end
end AE
end Go.Proofs.YtepcfjbfkedlpaaDoor
