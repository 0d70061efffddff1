/- Parts of the proof. -/
import Derived.WalkKit
import Derived.Orders
import Derived.IntWalk
import Derived.CallsIn
import Derived.OrdersIn
import Derived.RangeFuncIn
import Derived.RangeFuncCalls
import Derived.RangeFuncLeaves
import Derived.TacticsIn
set_option maxRecDepth 100000
set_option maxHeartbeats 4000000
namespace Go.Proofs.YtepcfjbfkedlpaaDoor
open Go
section
theorem aj {p:Prop} (h:p:=by omega):p:=h
theorem bM {p:Prop} (h:p:=by assumption):p:=h
theorem cw {p:Prop} (h:p:=by decide):p:=h
theorem au {p:Prop} (h:p:=by kernel_rfl):p:=h
theorem U.{u} {α:Sort u} {a:α}:a=a:=rfl
abbrev aY:= @if_pos
abbrev a_:= @if_neg
abbrev eC:= @decide_eq_true
abbrev cy:= @decide_eq_false
abbrev dq:= @List.getD_eq_getElem?_getD
abbrev cI:= @Nat.eq_of_beq_eq_true
abbrev gi:= @List.getElem?_eq_getElem
abbrev gI:= @Nat.le_of_ble_eq_true
abbrev cQ:= @Option.some.injEq
abbrev aoq:= @List.getElem?_eq_some_iff
abbrev fk:= @Array.getD_eq_getD_getElem?
abbrev bF:= @cond_true
abbrev ch:= @Nat.le_refl
abbrev c8:= @Bool.and_eq_true
abbrev eD:= @cond_false
abbrev xL:= @Option.map_eq_some_iff
abbrev mz:= @List.length_replicate
abbrev J:=Go.Value
abbrev ax:=Go.World
abbrev aS:=Go.Program
abbrev aK:=Go.TypeId
namespace AE
inductive bY (α:Type) where
 |nil
 |node (v:Option α) (l r:bY α)
def bY.get {α:Type}:bY α->Nat->Option α
 | .nil,_=>none
 | .node v l r,i=>bif i==0 then v else bif i%2==1 then l.get (i/2) else r.get (i/2-1)
def bY.set {α:Type} (x:α):Nat->bY α->Nat->Option (bY α)
 |0,_,_=>none
 |f+1,.nil,i=>bif i==0 then some (.node (some x) .nil .nil) else bif i%2==1 then (bY.set x f .nil (i/2)).map (.node none · .nil) else (bY.set x f .nil (i/2-1)).map (.node none .nil ·)
 |f+1,.node v l r,i=>bif i==0 then some (.node (some x) l r) else bif i%2==1 then (bY.set x f l (i/2)).map (.node v · r) else (bY.set x f r (i/2-1)).map (.node v l ·)
theorem bY.oh {α:Type} (x:α):∀(f:Nat) (t dr:bY α) (i j:Nat),bY.set x f t i=some dr->dr.get j=if j=i then some x else t.get j
 |0,_,_,_,_,h=>by simp [bY.set] at h
 |f+1,.nil,dr,i,j,h=>by
  unfold bY.set at h;by_cases ai:i=0
  ·subst ai
   simp only [beq_self_eq_true,bF,cQ] at h;subst h;by_cases hj:j=0
   ·simp [hj,bY.get]
   ·have gZ:(j==0)=false:=by simpa using hj
    by_cases hm:j%2=1<;>simp [hj,gZ,bY.get,hm]
  ·have lQ:(i==0)=false:=by simpa using ai
   rw[lQ,eD] at h;by_cases hm:i%2=1
   ·rw[show (i%2==1)=true by simpa using hm,bF] at h
    obtain⟨u,hu,rfl⟩:=Option.map_eq_some_iff.1 h;have cA:=bY.oh x f .nil u (i/2) (j/2) hu;by_cases hj:j=0
    ·subst hj;simp [bY.get,Ne.symm ai]
    ·simp only [bY.get,show (j==0)=false by simpa using hj,eD]
     by_cases rU:j%2=1
     ·rw[show (j%2==1)=true by simpa using rU,bF,cA]
      by_cases he:j=i
      ·simp [he]
      ·rw[a_ he,a_ aj];rfl
     ·rw[show (j%2==1)=false by simpa using rU,eD,a_ aj]
   ·rw[show (i%2==1)=false by simpa using hm,eD] at h
    obtain⟨u,hu,rfl⟩:=Option.map_eq_some_iff.1 h;have cA:=bY.oh x f .nil u (i/2-1) (j/2-1) hu;by_cases hj:j=0
    ·subst hj;simp [bY.get,Ne.symm ai]
    ·simp only [bY.get,show (j==0)=false by simpa using hj,eD]
     by_cases rU:j%2=1
     ·rw[show (j%2==1)=true by simpa using rU,bF,a_ aj]
     ·rw[show (j%2==1)=false by simpa using rU,eD,cA]
      by_cases he:j=i
      ·simp [he]
      ·rw[a_ he,a_ aj];rfl
 |f+1,.node v l r,dr,i,j,h=>by
  unfold bY.set at h;by_cases ai:i=0
  ·subst ai
   simp only [beq_self_eq_true,bF,cQ] at h;subst h;by_cases hj:j=0
   ·simp [hj,bY.get]
   ·have gZ:(j==0)=false:=by simpa using hj
    simp [hj,gZ,bY.get]
  ·have lQ:(i==0)=false:=by simpa using ai
   rw[lQ,eD] at h;by_cases hm:i%2=1
   ·rw[show (i%2==1)=true by simpa using hm,bF] at h
    obtain⟨u,hu,rfl⟩:=Option.map_eq_some_iff.1 h;have cA:=bY.oh x f l u (i/2) (j/2) hu;by_cases hj:j=0
    ·subst hj;simp [bY.get,Ne.symm ai]
    ·simp only [bY.get,show (j==0)=false by simpa using hj,eD]
     by_cases rU:j%2=1
     ·rw[show (j%2==1)=true by simpa using rU,bF,bF,cA]
      by_cases he:j=i
      ·simp [he]
      ·rw[a_ he,a_ aj]
     ·rw[show (j%2==1)=false by simpa using rU,eD,eD,a_ aj]
   ·rw[show (i%2==1)=false by simpa using hm,eD] at h
    obtain⟨u,hu,rfl⟩:=Option.map_eq_some_iff.1 h;have cA:=bY.oh x f r u (i/2-1) (j/2-1) hu;by_cases hj:j=0
    ·subst hj;simp [bY.get,Ne.symm ai]
    ·simp only [bY.get,show (j==0)=false by simpa using hj,eD]
     by_cases rU:j%2=1
     ·rw[show (j%2==1)=true by simpa using rU,bF,bF,a_ aj]
     ·rw[show (j%2==1)=false by simpa using rU,eD,eD,cA]
      by_cases he:j=i
      ·simp [he]
      ·rw[a_ he,a_ aj]
def dead:Nat:=1099511627776
def cB:J:= .complex .f32 77 77
structure kj where
 key:J
 val:J
 born:Nat
def eZ:Nat:=1000000
class a7 where
 σ:Nat->J
 one:∀k,(∀cs,σ k≠.agg cs/\σ k≠.tuple cs)
 dn:Nat->Option Obj
 acy:∀g,σ (eZ+g)= .pointer (some ⟨g,0,none⟩)
def ak (k:Nat):J:= .complex .f64 k 0
structure Aw where
 state:LoopState
 pending:Option Code
 sl:bY J
 N:Nat
 params:List Tmp
 assign:Code
 body:Code
 EE:Nat
inductive CD where
 |xM (s:ByteArray) (pos:Nat)
 |deferred
 |gone
 |loop (l:Aw)
inductive q2 where
 |cells (c:List J)
 |map (es:List kj) (aor:Nat)
 |gw (x:CD)
structure h6 where
 obj:q2
 cT:Nat
 pos:Nat
 eN:Nat
 ro:Bool
 ty:aK
structure a8 where
 bl:bY h6
 n:Nat
 mem:bY (List Nat)
 low:Nat
structure hS where
 bn:Nat
 sh:Nat
 eN:Nat
 Ax:Nat
abbrev b4:=Nat->Option hS
mutual
def plain:J->Bool
 | .bool _| .int .. | .float .. | .string _| .pointer none| .map none| .chan none| .nilFunc| .nilIface=>true
 | .slice none l c=>l==0&&c==0
 | .func (.func _) ⟨[]⟩ ⟨[]⟩=>true
 | .iface _ v=>plain v
 | .agg ⟨l⟩=>pt l
 | .tuple ⟨l⟩=>pt l
 |_=>false
def pt:List J->Bool
 |[]=>true
 |v::r=>plain v&&pt r
end
variable [a7]
inductive aD (φ:b4):J->J->Prop where
 |cB (aB:J):aD φ cB aB
 |sym (k:Nat):aD φ (ak k) (a7.σ k)
 |bool (b:Bool):aD φ (.bool b) (.bool b)
 |int (k:IntKind) (n:Int):aD φ (.int k n) (.int k n)
 |float (k:FloatKind) (b:Nat):aD φ (.float k b) (.float k b)
 |string (s:ByteArray):aD φ (.string s) (.string s)
 |zb:aD φ (.pointer none) (.pointer none)
 |ptr {b o:Nat} {e:hS} (h:φ b=some e):aD φ (.pointer (some ⟨b,o,none⟩)) (.pointer (some ⟨e.bn,e.sh+o,none⟩))
 |slnil (l c:Nat):aD φ (.slice none l c) (.slice none l c)
 |i_ {o c':Nat} (a6:Addr) (h:o=0->c'=0):aD φ (.slice (some ⟨dead,o,none⟩) 0 0) (.slice (some a6) 0 c')
 |iD {b o:Nat} {e:hS} (n c:Nat) (h:φ b=some e):aD φ (.slice (some ⟨b,o,none⟩) n c) (.slice (some ⟨e.bn,e.sh+o,none⟩) n c)
 |iE {b o:Nat} {e:hS} (n c c':Nat) (h:φ b=some e) (aw:1<=e.eN) (ar:c<=c') (hl:e.sh+o+c'*e.eN<=e.Ax):aD φ (.slice (some ⟨b,o,none⟩) n c) (.slice (some ⟨e.bn,e.sh+o,none⟩) n c')
 |Ay:aD φ (.map none) (.map none)
 |map {b:Nat} {e:hS} (h:φ b=some e):aD φ (.map (some b)) (.map (some e.bn))
 |chan:aD φ (.chan none) (.chan none)
 |func {fn:Fn} (fs kI cs cs':Array J) (av:∀l,fn≠.yield l) (ad:fs.size=kI.size) (ag:cs.size=cs'.size) (aR:∀i,i<fs.size->aD φ (fs.getD i undef) (kI.getD i undef)) (ar:∀i,i<cs.size->aD φ (cs.getD i undef) (cs'.getD i undef)):aD φ (.func fn fs cs) (.func fn kI cs')
 |tZ {b:Nat} {e:hS} (h:φ b=some e):aD φ (.func (.yield b) #[] #[]) (.func (.yield e.bn) #[] #[])
 |nilFunc:aD φ .nilFunc .nilFunc
 |nilIface:aD φ .nilIface .nilIface
 |iface (t:aK) {v aB:J} (h:aD φ v aB):aD φ (.iface t v) (.iface t aB)
 |agg (cs cs':Array J) (ad:cs.size=cs'.size) (h:∀i,i<cs.size->aD φ (cs.getD i undef) (cs'.getD i undef)):aD φ (.agg cs) (.agg cs')
 |tuple (cs cs':Array J) (ad:cs.size=cs'.size) (h:∀i,i<cs.size->aD φ (cs.getD i undef) (cs'.getD i undef)):aD φ (.tuple cs) (.tuple cs')
theorem aD.zc (φ:b4):aD φ undef undef:= .tuple _ _ rfl λi h=>absurd h (by simp)
theorem aD.mono {φ db:b4} (ie:∀b e,φ b=some e->db b=some e) {v aB:J} (h:aD φ v aB):aD db v aB:=by
 induction h with
 |cB aB=>exact .cB aB
 |sym k=>exact .sym k
 |bool b=>exact .bool b
 |int k n=>exact .int k n
 |float k b=>exact .float k b
 |string s=>exact .string s
 |zb=>exact .zb
 |ptr h=>exact .ptr (ie _ _ h)
 |slnil l c=>exact .slnil l c
 |i_ a6 h=>exact .i_ a6 h
 |iD n c h=>exact .iD n c (ie _ _ h)
 |iE n c c' h aw ar hl=>exact .iE n c c' (ie _ _ h) aw ar hl
 |Ay=>exact .Ay
 |map h=>exact .map (ie _ _ h)
 |chan=>exact .chan
 |func fs kI cs cs' av ad ag _ _ sQ sR=>exact .func fs kI cs cs' av ad ag sQ sR
 |tZ h=>exact .tZ (ie _ _ h)
 |nilFunc=>exact .nilFunc
 |nilIface=>exact .nilIface
 |iface t _ cA=>exact .iface t cA
 |agg cs cs' ad _ cA=>exact .agg cs cs' ad cA
 |tuple cs cs' ad _ cA=>exact .tuple cs cs' ad cA
mutual
theorem aD.ky (φ:b4):∀v:J,plain v=true->aD φ v v
 | .bool b,_=> .bool b
 | .int k n,_=> .int k n
 | .float k b,_=> .float k b
 | .string s,_=> .string s
 | .pointer none,_=> .zb
 | .map none,_=> .Ay
 | .chan none,_=> .chan
 | .nilFunc,_=> .nilFunc
 | .nilIface,_=> .nilIface
 | .slice none l c,_=> .slnil l c
 | .func (.func f) ⟨[]⟩ ⟨[]⟩,_=> .func _ _ _ _ (λl h=>by cases h) U U (λi h=>absurd h (by simp)) (λi h=>absurd h (by simp))
 | .iface t v,h=> .iface t (aD.ky φ v (by simpa [plain] using h))
 | .agg ⟨l⟩,h=> .agg _ _ rfl λi ai=>by
     have:=aD.L6 φ l (by simpa [plain] using h) i ai;simpa using this
 | .tuple ⟨l⟩,h=> .tuple _ _ rfl λi ai=>by
     have:=aD.L6 φ l (by simpa [plain] using h) i ai;simpa using this
theorem aD.L6 (φ:b4):∀l:List J,pt l=true->∀i,i<l.length->aD φ (l.getD i Go.undef) (l.getD i Go.undef)
 |[],_,i,ai=>absurd ai (by simp)
 |v::r,h,0,_=>by
   have:=aD.ky φ v (by simp [pt] at h;exact h.1);simpa using this
 |v::r,h,i+1,ai=>by
   have:=aD.L6 φ r (by simp [pt] at h;exact h.2) i (by simpa using ai);simpa using this
end
end AE
end
namespace AE
variable [a7]
structure Az (A:a8):Prop where
 lt:∀b k,A.bl.get b=some k->b<A.n
 t':∀b k,A.bl.get b=some k->k.cT<A.n
 mem:∀b k,A.bl.get b=some k->∃l,A.mem.get k.cT=some l/\b∈l
 ve:∀b k b' k',A.bl.get b=some k->A.bl.get b'=some k'->k.cT=k'.cT->k.ro=k'.ro
def rV (φ:b4):CD->Obj->Prop
 | .xM s p,o=>o= .stringIter s p
 | .deferred,o=>o= .deferred (some [])
 | .gone,o=>o= .deferred none
 | .loop l,o=>∃r:Loop,o= .loop r/\r.state=l.state/\r.pending=l.pending/\r.tmps.size=l.N/\r.params=⟨l.params⟩/\r.assign=l.assign/\r.body=l.body/\(∃e,φ l.EE=some e/\r.defers=e.bn)/\
     (∀t v,l.sl.get t=some v->aD φ v (r.tmps.getD t undef))
theorem rV.TY {φ:b4} {x:CD} {c:Array J} {t:aK} {f:Nat×Nat} (h:rV φ x (.cells c t f)):False:=by
 cases x with
 |xM s p=>cases h
 |deferred=>cases h
 |gone=>cases h
 |loop l=>obtain⟨r,h,_⟩:=h;cases h
theorem rV.mono {φ db:b4} {x:CD} {o:Obj} (ie:∀b e,φ b=some e->db b=some e) (h:rV φ x o):rV db x o:=by
 cases x with
 |xM s p=>exact h
 |deferred=>exact h
 |gone=>exact h
 |loop l=>
  obtain⟨r,aL,ad,ag,ay,bG,cJ,cU,⟨e,fR,pv⟩,xN⟩:=h;exact⟨r,aL,ad,ag,ay,bG,cJ,cU,⟨e,ie _ _ fR,pv⟩,λt v aC=>(xN t v aC).mono ie⟩
def fS (φ:b4) (w:ax) (e:hS) (k:h6):Prop:=
 match k.obj with
 | .cells c=>∃c' jl,w.heap[e.bn]? =some (.cells c' k.ty jl)/\e.Ax=c'.size/\(e.sh+c.length<=c'.size/\(k.eN=0->e.sh=0/\c.length=c'.size))/\
     (∀j,j<c.length->aD φ (c.getD j undef) (c'.getD (e.sh+j) undef))/\(k.ro=false->∀i,i<c'.size->¬(jl.1<=i/\i<jl.2))
 | .map es e6=>∃dt,w.heap[e.bn]? =some (.map dt e6)/\es.length=dt.size/\
     ∀(j:Nat) (a:kj) (b:MapEntry),es[j]? =some a->dt[j]? =some b->plain a.key=true/\a.key=b.key/\aD φ a.val b.val/\a.born=b.born
 | .gw x=>e.sh=0/\∃o',w.heap[e.bn]? =some o'/\rV φ x o'
structure b2 (φ:b4) (A:a8) (w:ax):Prop where
 wf:Az A
 eE:∀b e,φ b=some e->∃k,A.bl.get b=some k/\e.eN=k.eN/\fS φ w e k
 apart:∀b e k b' e' k',φ b=some e->φ b'=some e'->A.bl.get b=some k->A.bl.get b'=some k'->k.cT≠k'.cT->e.bn≠e'.bn
 along:∀b e k b' e' k',φ b=some e->φ b'=some e'->A.bl.get b=some k->A.bl.get b'=some k'->k.cT=k'.cT->e.bn=e'.bn->e.sh+k'.pos=e'.sh+k.pos
 dn:∀i o,a7.dn i=some o->w.heap[i]? =some o/\∀b e,φ b=some e->e.bn≠i
abbrev iF (_:ax):Nat:=0
structure cF (φ:b4) (A:a8) (w:ax) (db:b4) (a':a8) (w':ax):Prop where
 rel:b2 db a' w'
 eE:∀b,b<A.n->db b=φ b
 rW:∀b,A.n<=b->b<a'.n->db b≠none
 new:∀b e,A.n<=b->db b=some e->w.heap.size<=e.bn\/∃cu e0 ez,φ cu=some e0/\e0.bn=e.bn/\a'.low<=cu/\A.bl.get cu=some ez/\ez.ro=false
 qv:A.n<=a'.n
 low:a'.low<=A.low
 same:∀b,b<A.n->b<a'.low->a'.bl.get b=A.bl.get b
 ro:∀b k,A.bl.get b=some k->k.ro=true->a'.bl.get b=some k
 keep:∀i,i<w.heap.size->(∀b e k,φ b=some e->e.bn=i->A.bl.get b=some k->k.ro=true)->w'.heap[i]? =w.heap[i]?
 gN:w.heap.size<=w'.heap.size
 os:w'.os=w.os
 tape:w'.tape=w.tape
 output:w'.output=w.output
 drawn:iF w<=iF w'
theorem b2.lt {φ:b4} {A:a8} {w:ax} (h:b2 φ A w) {b:Nat} {e:hS} (af:φ b=some e):b<A.n:=by
 obtain⟨k,al,_⟩:=h.eE b e af;exact h.wf.lt b k al
theorem cF.ext {φ db:b4} {A a':a8} {w w':ax} (h:cF φ A w db a' w') (ao:b2 φ A w):∀b e,φ b=some e->db b=some e:=λb e af=>by
 rw[h.eE b (ao.lt af)];exact af
theorem cF.refl {φ:b4} {A:a8} {w:ax} (h:b2 φ A w):cF φ A w φ A w where
 rel:=h
 eE:=λ_ _=>rfl
 rW:=λb ad ag=>by omega
 new:=λb e ad ag=>absurd (h.lt ag) aj
 qv:=ch _
 low:=ch _
 same:=λ_ _ _=>rfl
 ro:=λ_ _ h _=>h
 keep:=λ_ _ _=>rfl
 gN:=ch _
 os:=rfl
 tape:=rfl
 output:=rfl
 drawn:=ch _
theorem cF.trans {φ gO fp:b4} {A bH f_:a8} {w w1 w2:ax} (ao:b2 φ A w) (ad:cF φ A w gO bH w1) (ag:cF gO bH w1 fp f_ w2):cF φ A w fp f_ w2 where
 rel:=ag.rel
 eE:=λb af=>by rw[ag.eE b (Nat.lt_of_lt_of_le af ad.qv),ad.eE b af]
 rW:=λb h ga=>by
  rcases Nat.lt_or_ge b bH.n with cg|kJ
  ·rw[ag.eE b cg];exact ad.rW b h cg
  ·exact ag.rW b kJ ga
 new:=by
  have first:∀b e,A.n<=b->gO b=some e->w.heap.size<=e.bn\/∃cu e0 ez,φ cu=some e0/\e0.bn=e.bn/\f_.low<=cu/\A.bl.get cu=some ez/\ez.ro=false:=λb e af he=>by
   rcases ad.new b e af he with h|⟨cu,e0,ez,q1,aH,b0,eF,hz⟩
   ·exact .inl h
   ·exact .inr ⟨cu,e0,ez,q1,aH,Nat.le_trans ag.low b0,eF,hz⟩
  intro b e af he;rcases Nat.lt_or_ge b bH.n with cg|kJ
  ·rw[ag.eE b cg] at he
   exact first b e af he
  ·rcases ag.new b e kJ he with h|⟨cu,e0,ez,q1,aH,b0,eF,hz⟩
   ·exact .inl (Nat.le_trans ad.gN h)
   ·rcases Nat.lt_or_ge cu A.n with cg|acz
    ·rw[ad.eE cu cg] at q1
     obtain⟨k,al,_⟩:=ao.eE cu e0 q1;refine .inr ⟨cu,e0,k,q1,aH,b0,al,?_⟩;cases dL:k.ro with
     |false=>rfl
     |true=>
      have:=ad.ro cu k al dL;rw[eF] at this;cases this;rw[hz] at dL;exact dL.symm▸rfl
    ·rcases first cu e0 acz q1 with h|⟨kk,e1,de,cS,dy,gj,vf,CE⟩
     ·exact .inl aj
     ·exact .inr ⟨kk,e1,de,cS,dy.trans aH,gj,vf,CE⟩
 qv:=Nat.le_trans ad.qv ag.qv
 low:=Nat.le_trans ag.low ad.low
 same:=λb af hl=>by rw[ag.same b (Nat.lt_of_lt_of_le af ad.qv) hl,ad.same b af (Nat.lt_of_lt_of_le hl ag.low)]
 ro:=λb k al dL=>ag.ro b k (ad.ro b k al dL) dL
 keep:=λi ai lD=>by
  rw[ag.keep i (Nat.lt_of_lt_of_le ai ad.gN) ?_,ad.keep i ai lD];intro b e k af he al;rcases Nat.lt_or_ge b A.n with cg|kJ
  ·rw[ad.eE b cg] at af
   obtain⟨ez,h1,_⟩:=ao.eE b e af;have dL:=lD b e ez af he h1;have:=ad.ro b ez h1 dL;rw[al] at this;cases this;exact dL
  ·rcases ad.new b e kJ af with h|⟨cu,e0,ez,q1,aH,b0,eF,hz⟩
   ·omega
   ·have:=lD cu e0 ez q1 (aH.trans he) eF
    rw[hz] at this;cases this
 gN:=Nat.le_trans ad.gN ag.gN
 os:=ag.os.trans ad.os
 tape:=ag.tape.trans ad.tape
 output:=ag.output.trans ad.output
 drawn:=Nat.le_trans ad.drawn ag.drawn
theorem cF.zd {φ:b4} {A:a8} {w:ax} (h:b2 φ A w) (n:Nat) (bg:w.drawn<=n:=by omega):cF φ A w φ A {w with drawn:=n}:=
 {cF.refl h with rel:=⟨h.wf,h.eE,h.apart,h.along,h.dn⟩,keep:=λ_ _ _=>rfl,drawn:=ch _}
def depth:Nat:=30
def a8.push (A:a8) (o:q2) (st:Nat) (ty:aK):Option (Nat×a8):=
 match bY.set {obj:=o,cT:=A.n,pos:=0,eN:=st,ro:=false,ty:=ty:h6} depth A.bl A.n,bY.set [A.n] depth A.mem A.n with
 |some bl,some mem=>some (A.n,{A with bl,mem,n:=A.n+1})
 |_,_=>none
def hk (φ:b4) (b:Nat) (e:hS):b4:=λi=>if i=b then some e else φ i
omit [a7] in
theorem Az.push {A a':a8} {o:q2} {st:Nat} {ty:aK} {r:Nat} (h:Az A) (hp:A.push o st ty=some (r,a')):
  Az a'/\r=A.n/\a'.n=A.n+1/\a'.low=A.low/\(∀b,a'.bl.get b=if b=A.n then some {obj:=o,cT:=A.n,pos:=0,eN:=st,ro:=false,ty:=ty} else A.bl.get b):=by
 unfold a8.push at hp;split at hp
 ·rename_i bl mem af hm
  simp only [cQ,Prod.mk.injEq] at hp;obtain⟨rfl,rfl⟩:=hp;have vg:=λb=>bY.oh _ _ _ _ _ b af
  have CF:=λb=>bY.oh _ _ _ _ _ b hm
  refine⟨⟨?_,?_,?_,?_⟩,rfl,rfl,rfl,vg⟩
  ·intro b k al
   simp only at al ⊢;rw[vg] at al;split at al
   ·omega
   ·have:=h.lt b k al;omega
  ·intro b k al
   simp only at al ⊢;rw[vg] at al;split at al
   ·cases al;simp
   ·have:=h.t' b k al;omega
  ·intro b k al
   simp only at al ⊢;rw[vg] at al;split at al
   ·rename_i af
    cases al;exact⟨[A.n],by rw[CF,aY rfl],by simp [af]⟩
   ·obtain⟨l,hl,t_⟩:=h.mem b k al
    exact⟨l,by rw[CF,a_ (by have:=h.t' b k al;omega)];exact hl,t_⟩
  ·intro b k b' k' al dD aR
   simp only at al dD;rw[vg] at al dD;split at al
   ·cases al
    split at dD
    ·cases dD;rfl
    ·have:=h.t' b' k' dD;simp only at aR;omega
   ·split at dD
    ·cases dD
     have:=h.t' b k al;simp only at aR;omega
    ·exact h.ve b k b' k' al dD aR
 ·cases hp
theorem fS.mono {φ db:b4} {w w':ax} {e:hS} {k:h6} (ie:∀b e,φ b=some e->db b=some e) (hw:w'.heap[e.bn]? =w.heap[e.bn]?) (h:fS φ w e k):fS db w' e k:=by
 unfold fS at*
 cases al:k.obj with
 |cells c=>
  simp only [al] at h ⊢;obtain⟨c',jl,ad,ag,ay,bG,cJ⟩:=h;exact⟨c',jl,hw.trans ad,ag,ay,λj hj=>(bG j hj).mono ie,cJ⟩
 |map es e6=>
  simp only [al] at h ⊢;obtain⟨dt,ad,ag,ay⟩:=h;refine⟨dt,hw.trans ad,ag,λj a b ha af=> ?_⟩;obtain⟨q1,aH,b0,eF⟩:=ay j a b ha af;exact⟨q1,aH,b0.mono ie,eF⟩
 |gw x=>
  simp only [al] at h ⊢;obtain⟨aL,o',ad,ag⟩:=h;exact⟨aL,o',hw.trans ad,ag.mono ie⟩
theorem fS.lt {φ:b4} {w:ax} {e:hS} {k:h6} (h:fS φ w e k):e.bn<w.heap.size:=by
 unfold fS at h;cases al:k.obj with
 |cells c=>
  simp only [al] at h;obtain⟨c',jl,ad,_⟩:=h;exact(Array.getElem?_eq_some_iff.1 ad).1
 |map es e6=>
  simp only [al] at h;obtain⟨dt,ad,_⟩:=h;exact(Array.getElem?_eq_some_iff.1 ad).1
 |gw x=>
  simp only [al] at h;obtain⟨aL,o',ad,ag⟩:=h;exact(Array.getElem?_eq_some_iff.1 ad).1
theorem CG {φ:b4} {A a':a8} {w:ax} {o:q2} {st:Nat} {ty:aK} {r:Nat} {o':Obj} {e:hS} (ao:b2 φ A w) (hp:A.push o st ty=some (r,a')) (he:e.bn=w.heap.size) (c0:e.eN=st)
  (ho:fS (hk φ r e) {w with heap:=w.heap.push o'} e {obj:=o,cT:=A.n,pos:=0,eN:=st,ro:=false,ty:=ty}):
  cF φ A w (hk φ r e) a' {w with heap:=w.heap.push o'}:=by
 obtain⟨vh,rfl,av,mT,gP⟩:=ao.wf.push hp;have hold:∀b e1,φ b=some e1->hk φ A.n e b=some e1:=λb e1 af=>by
  unfold hk;rw[a_ (by have:=ao.lt af;omega)];exact af
 have rX:∀i,i<w.heap.size->(w.heap.push o')[i]? =w.heap[i]? :=λi ai=>by
  rw[Array.getElem?_push,a_ aj]
 have mA:∀b e1,hk φ A.n e b=some e1->(b=A.n/\e1=e)\/(b≠A.n/\φ b=some e1):=λb e1 af=>by
  unfold hk at af;split at af
  ·rename_i h;cases af;exact .inl ⟨h,rfl⟩
  ·rename_i h;exact .inr ⟨h,af⟩
 refine {rel:=⟨vh,?_,?_,?_,λi o ai=>by
   obtain⟨ad,ag⟩:=ao.dn i o ai;have cg:i<w.heap.size:=(Array.getElem?_eq_some_iff.1 ad).1;refine⟨by rw[rX i cg];exact ad,λb e1 af=> ?_⟩;rcases mA b e1 af with ⟨rfl,rfl⟩|⟨_,af⟩
   ·omega
   ·exact ag b e1 af⟩,eE:= ?_,rW:= ?_,new:= ?_,qv:=by omega,low:=by omega,same:= ?_,ro:= ?_,keep:= ?_,gN:=by simp,os:=rfl,tape:=rfl,output:=rfl,drawn:=ch _}
 ·intro b e1 af
  rcases mA b e1 af with ⟨rfl,rfl⟩|⟨c1,af⟩
  ·exact⟨_,by rw[gP,aY rfl],c0,ho⟩
  ·obtain⟨k,al,ad,ag⟩:=ao.eE b e1 af
   exact⟨k,by rw[gP,a_ c1];exact al,ad,ag.mono hold (rX _ ag.lt)⟩
 ·intro b e1 k b' oU k' af eh al dD c1
  rw[gP] at al dD;rcases mA b e1 af with ⟨rfl,rfl⟩|⟨hJ,sS⟩
  ·rcases mA b' oU eh with ⟨rfl,rfl⟩|⟨kK,q3⟩
   ·rw[aY rfl] at al dD;cases al;cases dD;exact absurd rfl c1
   ·obtain⟨de,_,_,ag⟩:=ao.eE b' oU q3
    have:=ag.lt;omega
  ·rcases mA b' oU eh with ⟨rfl,rfl⟩|⟨kK,q3⟩
   ·obtain⟨de,_,_,ag⟩:=ao.eE b e1 sS
    have:=ag.lt;omega
   ·rw[a_ hJ] at al;rw[a_ kK] at dD
    exact ao.apart b e1 k b' oU k' sS q3 al dD c1
 ·intro b e1 k b' oU k' af eh al dD oi jW
  rw[gP] at al dD;rcases mA b e1 af with ⟨rfl,rfl⟩|⟨hJ,sS⟩
  ·rcases mA b' oU eh with ⟨rfl,rfl⟩|⟨kK,q3⟩
   ·rw[aY rfl] at al dD;cases al;cases dD;rfl
   ·obtain⟨de,_,_,ag⟩:=ao.eE b' oU q3
    have:=ag.lt;omega
  ·rcases mA b' oU eh with ⟨rfl,rfl⟩|⟨kK,q3⟩
   ·obtain⟨de,_,_,ag⟩:=ao.eE b e1 sS
    have:=ag.lt;omega
   ·rw[a_ hJ] at al;rw[a_ kK] at dD
    exact ao.along b e1 k b' oU k' sS q3 al dD oi jW
 ·intro b af
  unfold hk;rw[a_ aj]
 ·intro b ad ag
  have:b=A.n:=by omega
  subst this;simp [hk]
 ·intro b e1 ad af
  rcases mA b e1 af with ⟨rfl,rfl⟩|⟨hJ,af⟩
  ·exact .inl aj
  ·exact absurd (ao.lt af) aj
 ·intro b af _
  rw[gP,a_ aj]
 ·intro b k al _
  rw[gP,a_ (by have:=ao.wf.lt b k al;omega)];exact al
 ·intro i ai _
  exact rX i ai
end AE
namespace AE
variable [a7]
def a8.load (A:a8) (b off:Nat):Option J:=
 match A.bl.get b with
 |some {obj:= .cells c,..}=>c[off]?
 |_=>none
theorem vi {φ:b4} {A:a8} {w:ax} (ao:b2 φ A w) {b off:Nat} {v:J} {e:hS} (h:A.load b off=some v) (he:φ b=some e):
  ∃aB,w.cell? ⟨e.bn,e.sh+off,none⟩=some aB/\aD φ v aB:=by
 obtain⟨k,al,_,ho⟩:=ao.eE b e he;unfold a8.load at h;rw[al] at h;obtain⟨ua,cT,pos,eN,ro,ty⟩:=k;cases ua with
 |cells c=>
  simp only [fS] at h ho;obtain⟨c',jl,ad,ag,ay,bG,cJ⟩:=ho;obtain⟨cg,aC⟩:=List.getElem?_eq_some_iff.1 h;refine⟨c'.getD (e.sh+off) undef,?_,?_⟩
  ·simp only [World.cell?,ad]
   simp [show e.sh+off<c'.size by omega]
  ·have:=bG off cg
   rw[dq,h] at this;simpa using this
 |map es e6=>simp at h
 |gw x=>simp at h
def k_ (pos:Nat) (k:h6):h6:=
 bif k.ro then k else
 match k.obj with
 | .cells c=>bif Nat.ble k.pos pos then {k with obj:= .cells (c.set (pos-k.pos) cB)} else k
 |_=>k
omit [a7] in
theorem AA (pos:Nat) (k:h6):(k_ pos k).cT=k.cT/\(k_ pos k).pos=k.pos/\(k_ pos k).eN=k.eN/\(k_ pos k).ro=k.ro/\k_ pos (k_ pos k)=k_ pos k/\(k.ro=true->k_ pos k=k)/\(k_ pos k).ty=k.ty:=by
 obtain⟨ua,cT,p,st,ro,ty⟩:=k;cases ro with
 |true=>simp [k_]
 |false=>
  cases ua with
  |cells c=>cases h:Nat.ble p pos<;>simp [k_,h]
  |map es e6=>simp [k_]
  |gw x=>simp [k_]
omit [a7] in
theorem acA (pos:Nat) (k:h6):(k_ pos k).cT=k.cT:=(AA pos k).1
omit [a7] in
theorem acB (pos:Nat) (k:h6):(k_ pos k).pos=k.pos:=(AA pos k).2.1
omit [a7] in
theorem L7 (pos:Nat) (k:h6):(k_ pos k).eN=k.eN:=(AA pos k).2.2.1
omit [a7] in
theorem acC (pos:Nat) (k:h6):(k_ pos k).ro=k.ro:=(AA pos k).2.2.2.1
omit [a7] in
theorem acD (pos:Nat) (k:h6):(k_ pos k).ty=k.ty:=(AA pos k).2.2.2.2.2.2
omit [a7] in
theorem acE (pos:Nat) (k:h6):k_ pos (k_ pos k)=k_ pos k:=(AA pos k).2.2.2.2.1
def ze (pos b:Nat):List Nat->bY h6->Option (bY h6)
 |[],t=>some t
 |m::r,t=>bif m==b then ze pos b r t else
  match t.get m with
  |some k=>match bY.set (k_ pos k) depth t m with
   |some dr=>ze pos b r dr
   |none=>none
  |none=>ze pos b r t
omit [a7] in
theorem Ij (pos b:Nat):∀(l:List Nat) (t dr:bY h6),ze pos b l t=some dr->
  ∀j,dr.get j=if j∈l/\j≠b then (t.get j).map (k_ pos) else t.get j
 |[],t,dr,h,j=>by simp [ze] at h;simp [h]
 |m::r,t,dr,h,j=>by
  unfold ze at h;by_cases hm:m=b
  ·rw[show (m==b)=true by simpa using hm,bF] at h
   rw[Ij pos b r t dr h j];subst hm;by_cases hj:j∈r/\j≠m
   ·rw[aY hj,aY ⟨List.mem_cons_of_mem _ hj.1,hj.2⟩]
   ·rw[a_ hj,a_]
    rintro ⟨ad,ag⟩;rcases List.mem_cons.1 ad with ad|ad
    ·exact ag ad
    ·exact hj ⟨ad,ag⟩
  ·rw[show (m==b)=false by simpa using hm,eD] at h
   cases aA:t.get m with
   |none=>
    rw[aA] at h;rw[Ij pos b r t dr h j];by_cases fi:j=m
    ·subst fi
     rw[aA];split<;>split<;>rfl
    ·have:(j∈m::r/\j≠b)↔(j∈r/\j≠b):=by simp [fi]
     simp only [this]
   |some k=>
    rw[aA] at h;simp only at h;cases aw:bY.set (k_ pos k) depth t m with
    |none=>rw[aw] at h;cases h
    |some t1=>
     rw[aw] at h;have gP:=λj=>bY.oh _ _ _ _ _ j aw
     rw[Ij pos b r t1 dr h j,gP];by_cases fi:j=m
     ·subst fi
      rw[aY rfl,aY (show j∈j::r/\j≠b from ⟨List.mem_cons_self,hm⟩),aA];split
      ·simp [acE]
      ·simp
     ·rw[a_ fi]
      have:(j∈m::r/\j≠b)↔(j∈r/\j≠b):=by simp [fi]
      simp only [this]
def a8.store (A:a8) (b off:Nat) (v:J):Option a8:=
 match A.bl.get b with
 |some k=>
  bif k.ro then none else
  match k.obj with
  | .cells c=>bif Nat.blt off c.length then
      match A.mem.get k.cT,bY.set {k with obj:= .cells (c.set off v)} depth A.bl b with
      |some l,some t=>match ze (k.pos+off) b l t with
       |some dr=>some {A with bl:=dr,low:=l.foldl Nat.min A.low}
       |none=>none
      |_,_=>none
    else none
  |_=>none
 |none=>none
omit [a7] in
theorem Ik:∀(l:List Nat) (x:Nat),l.foldl Nat.min x<=x/\∀m∈l,l.foldl Nat.min x<=m
 |[],x=>⟨ch _,λm h=>by cases h⟩
 |a::r,x=>by
  obtain⟨ad,ag⟩:=Ik r (Nat.min x a);refine⟨Nat.le_trans ad (Nat.min_le_left _ _),λm hm=> ?_⟩;rcases List.mem_cons.1 hm with rfl|hm
  ·exact Nat.le_trans ad (Nat.min_le_right _ _)
  ·exact ag m hm
omit [a7] in
theorem acF {A a':a8} {b off:Nat} {v:J} (h:A.store b off v=some a'):
  ∃k c l,A.bl.get b=some k/\k.ro=false/\k.obj= .cells c/\off<c.length/\A.mem.get k.cT=some l/\a'.n=A.n/\a'.mem=A.mem/\a'.low<=A.low/\(∀m∈l,a'.low<=m)/\
   a'.bl.get b=some {k with obj:= .cells (c.set off v)}/\(∀j,j≠b->a'.bl.get j=if j∈l then (A.bl.get j).map (k_ (k.pos+off)) else A.bl.get j):=by
 unfold a8.store at h;cases al:A.bl.get b with
 |none=>rw[al] at h;cases h
 |some k=>
  rw[al] at h;obtain⟨ua,cT,pos,eN,ro,ty⟩:=k;simp only at h;cases ro with
  |true=>cases h
  |false=>
   simp only [eD] at h;cases ua with
   |map es e6=>cases h
   |gw x=>cases h
   |cells c=>
    simp only at h;cases af:Nat.blt off c.length with
    |false=>rw[af] at h;cases h
    |true=>
     rw[af,bF] at h;cases hm:A.mem.get cT with
     |none=>rw[hm] at h;cases h
     |some l=>
      rw[hm] at h;cases aw:bY.set {obj:= .cells (c.set off v),cT:=cT,pos:=pos,eN:=eN,ro:=false,ty:=ty:h6} depth A.bl b with
      |none=>rw[aw] at h;cases h
      |some t=>
       rw[aw] at h;simp only at h;cases hp:ze (pos+off) b l t with
       |none=>rw[hp] at h;cases h
       |some dr=>
        rw[hp] at h;simp only [cQ] at h;subst h;have gP:=λj=>bY.oh _ _ _ _ _ j aw
        have lD:=Ij _ _ _ _ _ hp;obtain⟨f1,f2⟩:=Ik l A.low;refine⟨_,c,l,rfl,rfl,rfl,Nat.blt_eq.mp af,hm,rfl,rfl,f1,f2,?_,?_⟩
        ·simp only [lD,gP]
         simp
        ·intro j hj
         simp only [lD,gP,hj,ne_eq,not_false_eq_true,and_true,if_false]
theorem TZ {φ:b4} {A a':a8} {w:ax} (ao:b2 φ A w) {b off:Nat} {v aB:J} {e:hS} (h:A.store b off v=some a') (he:φ b=some e) (aC:aD φ v aB):
  cF φ A w φ a' (w.setCell ⟨e.bn,e.sh+off,none⟩ aB)/\(∃u,w.cell? ⟨e.bn,e.sh+off,none⟩=some u)/\w.frozen? ⟨e.bn,e.sh+off,none⟩=false:=by
 obtain⟨k,c,l,al,dL,fK,cg,mU,av,sT,mT,Il,T0,oj⟩:=acF h;obtain⟨ez,h1,c0,ho⟩:=ao.eE b e he;rw[al] at h1;cases h1;have t_:b∈l:=by
  obtain⟨l',gb,eh⟩:=ao.wf.mem b k al;rw[mU] at gb;cases gb;exact eh
 have mb:=ho;unfold fS at ho;simp only [fK] at ho;obtain⟨c',jl,ad,ag,ay,bG,cJ⟩:=ho;have zf:=cJ dL;have jW:e.bn<w.heap.size:=mb.lt;have hw:(w.setCell ⟨e.bn,e.sh+off,none⟩ aB).heap[e.bn]? =some (.cells (c'.setIfInBounds (e.sh+off) aB) k.ty jl):=by
  simp only [World.setCell,Array.getElem?_modify,aY,ad];simp
 have qw:∀i,i≠e.bn->(w.setCell ⟨e.bn,e.sh+off,none⟩ aB).heap[i]? =w.heap[i]? :=λi ai=>by
  simp only [World.setCell,Array.getElem?_modify];rw[a_ (Ne.symm ai)]
 have gJ:∀j dS,a'.bl.get j=some dS->∃cp,A.bl.get j=some cp/\dS.cT=cp.cT/\dS.pos=cp.pos/\dS.eN=cp.eN/\dS.ro=cp.ro/\dS.ty=cp.ty:=by
  intro j dS hj;by_cases ub:j=b
  ·subst ub
   rw[T0] at hj;cases hj;exact⟨k,al,rfl,rfl,rfl,rfl,rfl⟩
  ·rw[oj j ub] at hj
   split at hj
   ·obtain⟨cp,ad,rfl⟩:=Option.map_eq_some_iff.1 hj
    exact⟨cp,ad,acA _ _,acB _ _,L7 _ _,acC _ _,acD _ _⟩
   ·exact⟨dS,hj,rfl,rfl,rfl,rfl,rfl⟩
 refine⟨{rel:=⟨⟨?_,?_,?_,?_⟩,?_,?_,?_,λi o ai=>⟨by rw[qw i (Ne.symm ((ao.dn i o ai).2 _ _ he))];exact(ao.dn i o ai).1,(ao.dn i o ai).2⟩⟩,eE:=λ_ _=>rfl,rW:=λb ad ag=>by omega,new:=λb e ad ag=>absurd (ao.lt ag) aj,qv:=by omega,low:=mT,same:= ?_,ro:= ?_,keep:= ?_,gN:=by simp [World.setCell],os:=rfl,tape:=rfl,output:=rfl,drawn:=ch _},?_,?_⟩
 ·intro j cp hj
  obtain⟨de,q1,_⟩:=gJ j cp hj;rw[av];exact ao.wf.lt j de q1
 ·intro j cp hj
  obtain⟨de,q1,aH,_⟩:=gJ j cp hj;rw[av,aH];exact ao.wf.t' j de q1
 ·intro j cp hj
  obtain⟨de,q1,aH,_⟩:=gJ j cp hj;rw[sT,aH];exact ao.wf.mem j de q1
 ·intro j cp fL dS hj gZ aR
  obtain⟨de,q1,aH,_,_,b0,_⟩:=gJ j cp hj;obtain⟨vj,vk,AB,_,_,sU,_⟩:=gJ fL dS gZ;rw[b0,sU];exact ao.wf.ve j de fL vj q1 vk (by rw[<-aH,<-AB];exact aR)
 ·intro j gk hj
  obtain⟨cp,h2,wJ,iu⟩:=ao.eE j gk hj;by_cases ub:j=b
  ·subst ub
   rw[he] at hj;cases hj;rw[al] at h2;cases h2;refine⟨_,T0,c0,?_⟩;simp only [fS];refine⟨_,_,hw,by simpa using ag,by simpa using ay,?_,λ_=>by simpa using zf⟩;intro i ai;simp only [List.length_set] at ai;by_cases la:i=off
   ·subst la
    rw[dq,List.getElem?_set_self ai];simp only [fk,Array.getElem?_setIfInBounds,aY];rw[aY aj];exact aC
   ·rw[dq,List.getElem?_set_ne (Ne.symm la),<-dq]
    have:=bG i ai;simp only [fk,Array.getElem?_setIfInBounds] at this ⊢;rw[a_ aj];exact this
  ·by_cases xO:gk.bn=e.bn
   ·
    have oi:cp.cT=k.cT:=by
     rcases Nat.lt_or_ge cp.cT k.cT with h|h
     ·exact absurd xO (ao.apart j gk cp b e k hj he h2 al aj)
     ·rcases Nat.eq_or_lt_of_le h with h|h
      ·exact h.symm
      ·exact absurd xO (ao.apart j gk cp b e k hj he h2 al aj)
    have kL:j∈l:=by
     obtain⟨l',gb,eh⟩:=ao.wf.mem j cp h2;rw[oi,mU] at gb;cases gb;exact eh
    have acG:=ao.along j gk cp b e k hj he h2 al oi xO;refine⟨k_ (k.pos+off) cp,by rw[oj j ub,aY kL,h2];rfl,by rw[L7];exact wJ,?_⟩;obtain⟨L8,T1,wK,T2,Im,T3⟩:=cp;simp only at oi acG wJ;cases L8 with
    |map es e6=>
     simp only [fS] at iu;obtain⟨dt,g1,_⟩:=iu;rw[xO,ad] at g1;cases g1
    |gw x=>
     simp only [fS] at iu;obtain⟨_,o',g1,g2⟩:=iu;rw[xO,ad] at g1;cases g1;exact absurd g2 λh=>rV.TY h
    |cells AD=>
     simp only [fS] at iu;obtain⟨EF,EG,g1,g2,g3,g4,lb⟩:=iu;rw[xO,ad] at g1;simp only [cQ,Obj.cells.injEq] at g1;obtain⟨rfl,hty,rfl⟩:=g1;have key:∀(e6:List J),e6.length=AD.length->(∀i,i<AD.length->(gk.sh+i=e.sh+off->e6[i]? =some cB)/\(gk.sh+i≠e.sh+off->e6[i]? =AD[i]? \/e6[i]? =some cB))->
       fS φ (w.setCell ⟨e.bn,e.sh+off,none⟩ aB) gk {obj:= .cells e6,cT:=T1,pos:=wK,eN:=T2,ro:=Im,ty:=T3}:=by
      intro e6 rY fT;simp only [fS];refine⟨_,_,by rw[xO,<-hty];exact hw,by simpa using g2,by rw[rY];simpa using g3,?_,λ_=>by simpa using zf⟩;intro i ai;rw[rY] at ai;obtain⟨q1,aH⟩:=fT i ai;by_cases uc:gk.sh+i=e.sh+off
      ·rw[dq,q1 uc]
       exact .cB _
      ·rcases aH uc with q|q
       ·rw[dq,q,<-dq]
        have:=g4 i ai;simp only [fk,Array.getElem?_setIfInBounds] at this ⊢;rw[a_ aj];exact this
       ·rw[dq,q]
        exact .cB _
     have rZ:Im=false:=by
      have:=ao.wf.ve j _ b k h2 al oi;simpa [dL] using this
     subst rZ;unfold k_;simp only [eD];cases Io:Nat.ble wK (k.pos+off) with
     |false=>
      simp only [eD];refine key AD rfl λi ai=>⟨λhp=> ?_,λ_=> .inl rfl⟩
      have:¬wK<=k.pos+off:=by
       intro hle;rw[Nat.ble_eq.mpr hle] at Io;cases Io
      omega
     |true=>
      have hle:=Nat.ble_eq.mp Io;simp only [bF];refine key _ (by simp) λi ai=>⟨λhp=> ?_,λhp=> ?_⟩
      ·have:k.pos+off-wK=i:=by omega
       rw[this,List.getElem?_set_self ai]
      ·have:k.pos+off-wK≠i:=by omega
       rw[List.getElem?_set_ne this];exact .inl rfl
   ·
    rw[oj j ub];by_cases kL:j∈l
    ·rw[aY kL,h2]
     refine⟨_,rfl,by rw[L7];exact wJ,?_⟩;have CH:fS φ (w.setCell ⟨e.bn,e.sh+off,none⟩ aB) gk cp:=iu.mono (λ_ _ h=>h) (qw _ xO);unfold k_;obtain⟨L8,T1,wK,T2,Im,T3⟩:=cp;cases Im with
     |true=>exact CH
     |false=>
     simp only [eD];cases L8 with
     |map es e6=>exact CH
     |gw x=>exact CH
     |cells AD=>
      simp only;cases Io:Nat.ble wK (k.pos+off) with
      |false=>exact CH
      |true=>
       simp only [bF];simp only [fS] at CH ⊢;obtain⟨EF,EG,g1,g2,g3,g4,lb⟩:=CH;refine⟨EF,EG,g1,g2,by simpa using g3,λi ai=> ?_,lb⟩;simp only [List.length_set] at ai;by_cases T4:k.pos+off-wK=i
       ·rw[T4,dq,List.getElem?_set_self ai]
        exact .cB _
       ·rw[dq,List.getElem?_set_ne T4,<-dq]
        exact g4 i ai
    ·rw[a_ kL]
     exact⟨cp,h2,wJ,iu.mono (λ_ _ h=>h) (qw _ xO)⟩
 ·intro j gk cp fL q4 dS q1 aH b0 eF hz
  obtain⟨eG,a2,a3,a4,T5,T6,T7⟩:=gJ j cp b0;obtain⟨kk,jC,ud,pw,L9,L_,Ma⟩:=gJ fL dS eF;exact ao.apart j gk eG fL q4 kk q1 aH a2 jC (by rw[<-a3,<-ud];exact hz)
 ·intro j gk cp fL q4 dS q1 aH b0 eF hz ld
  obtain⟨eG,a2,a3,a4,T5,T6,T7⟩:=gJ j cp b0;obtain⟨kk,jC,ud,pw,L9,L_,Ma⟩:=gJ fL dS eF;rw[a4,pw];exact ao.along j gk eG fL q4 kk q1 aH a2 jC (by rw[<-a3,<-ud];exact hz) ld
 ·intro j hj hl
  by_cases ub:j=b
  ·subst ub
   have:=Il j t_;omega
  ·rw[oj j ub,a_]
   intro kL;have:=Il j kL;omega
 ·intro j cp hj rZ
  by_cases ub:j=b
  ·subst ub
   rw[al] at hj;cases hj;rw[dL] at rZ;cases rZ
  ·rw[oj j ub]
   by_cases kL:j∈l
   ·rw[aY kL,hj]
    simp only [Option.map_some,cQ];exact(AA _ _).2.2.2.2.2.1 rZ
   ·rw[a_ kL];exact hj
 ·intro i ai lD
  refine qw i λqx=> ?_
  subst qx;have:=lD b e k he rfl al;rw[dL] at this;cases this
 ·refine⟨c'.getD (e.sh+off) undef,?_⟩
  simp only [World.cell?,ad];simp [show e.sh+off<c'.size by omega]
 ·have:=zf (e.sh+off) aj
  obtain⟨e7,ai⟩:=jl;simp only [World.frozen?,ad];simpa using this
end AE
namespace AE
variable [a7]
def bk {α:Type} (P:aS):Sem α->Option α
 | .pure a=>some a
 | .program k=>bk P (k P)
 | .mark _ k=>bk P k
 |_=>none
omit [a7] in
theorem jD {α:Type} {P:aS} {s:Sem α} {a:α} (h:bk P s=some a) (w:ax):s.run P w= .ok a w:=by
 induction s with
 |pure b=>simp only [bk,cQ] at h;subst h;rfl
 |program k cA=>exact cA P h
 |mark m k cA=>exact cA h
 |_=>cases h
def xP:J->Bool
 | .agg _| .tuple _| .complex .f32 _ _=>false
 |_=>true
def cellsOf:J->Option (List J)
 | .agg ⟨l⟩=>some l
 | .tuple _| .complex .f32 _ _=>none
 |v=>some [v]
theorem aD.xP {φ:b4} {v aB:J} (h:aD φ v aB) (ad:xP v=true):∀cs,aB≠.agg cs/\aB≠.tuple cs:=by
 intro cs;cases h
 case sym k=>exact a7.one k cs
 all_goals simp_all [AE.xP,AE.cB]
theorem aD.cells {φ:b4} {v aB:J} {l:List J} (h:aD φ v aB) (hl:cellsOf v=some l):
  l.length=aB.cells.size/\∀j,j<l.length->aD φ (l.getD j undef) (aB.cells.getD j undef):=by
 have one:∀{v aB:J},aD φ v aB->(∀cs,aB≠.agg cs)->l=[v]->l.length=aB.cells.size/\∀j,j<l.length->aD φ (l.getD j undef) (aB.cells.getD j undef):=by
  intro v aB h av e;subst e;have:aB.cells= #[aB]:=by cases aB<;>first|rfl|exact absurd rfl (av _)
  rw[this];refine⟨rfl,λj hj=> ?_⟩;have:j=0:=by simpa using hj
  subst this;simpa using h
 cases h with
 |cB=>cases hl
 |sym k=>exact one (.sym k) (λcs=>(a7.one k cs).1) (by simpa [cellsOf,ak] using hl.symm)
 |agg cs cs' ad ag=>
  obtain⟨Ip⟩:=cs;simp only [cellsOf,cQ] at hl;subst hl;exact⟨by simpa [Value.cells] using ad,λj hj=>by simpa [Value.cells] using ag j (by simpa using hj)⟩
 |tuple=>cases hl
 |bool b=>exact one (.bool b) (λ_=>by simp) (by simpa [cellsOf] using hl.symm)
 |int k n=>exact one (.int k n) (λ_=>by simp) (by simpa [cellsOf] using hl.symm)
 |float k b=>exact one (.float k b) (λ_=>by simp) (by simpa [cellsOf] using hl.symm)
 |string s=>exact one (.string s) (λ_=>by simp) (by simpa [cellsOf] using hl.symm)
 |zb=>exact one .zb (λ_=>by simp) (by simpa [cellsOf] using hl.symm)
 |ptr h=>exact one (.ptr h) (λ_=>by simp) (by simpa [cellsOf] using hl.symm)
 |slnil a b=>exact one (.slnil a b) (λ_=>by simp) (by simpa [cellsOf] using hl.symm)
 |i_ b h=>exact one (.i_ b h) (λ_=>by simp) (by simpa [cellsOf] using hl.symm)
 |iD n c h=>exact one (.iD n c h) (λ_=>by simp) (by simpa [cellsOf] using hl.symm)
 |iE n c c' h a b d=>exact one (.iE n c c' h a b d) (λ_=>by simp) (by simpa [cellsOf] using hl.symm)
 |Ay=>exact one .Ay (λ_=>by simp) (by simpa [cellsOf] using hl.symm)
 |map h=>exact one (.map h) (λ_=>by simp) (by simpa [cellsOf] using hl.symm)
 |chan=>exact one .chan (λ_=>by simp) (by simpa [cellsOf] using hl.symm)
 |func fs kI cs cs' a b c d e=>exact one (.func fs kI cs cs' a b c d e) (λ_=>by simp) (by simpa [cellsOf] using hl.symm)
 |tZ h=>exact one (.tZ h) (λ_=>by simp) (by simpa [cellsOf] using hl.symm)
 |nilFunc=>exact one .nilFunc (λ_=>by simp) (by simpa [cellsOf] using hl.symm)
 |nilIface=>exact one .nilIface (λ_=>by simp) (by simpa [cellsOf] using hl.symm)
 |iface t h=>exact one (.iface t h) (λ_=>by simp) (by simpa [cellsOf] using hl.symm)
omit [a7] in
theorem Addr.kz (b o i:Nat):(⟨b,o,none⟩:Addr).add i=⟨b,o+i,none⟩:=by
 unfold Go.Addr.add;split
 ·rename_i h;subst h;rfl
 ·rfl
def a8.r0 (A:a8) (b off n:Nat):Option (List J):=
 match A.bl.get b with
 |some {obj:= .cells c,..}=>bif Nat.ble (off+n) c.length then some ((c.drop off).take n) else none
 |_=>none
omit [a7] in
theorem AF {A:a8} {b off n:Nat} {vs:List J} (h:A.r0 b off n=some vs):vs.length=n/\∀j,j<n->A.load b (off+j)=some (vs.getD j undef):=by
 unfold a8.r0 at h;unfold a8.load;cases al:A.bl.get b with
 |none=>rw[al] at h;cases h
 |some k=>
  rw[al] at h;obtain⟨ua,cT,pos,st,ro,ty⟩:=k;cases ua with
  |map es e6=>cases h
  |gw x=>cases h
  |cells c=>
   simp only at h ⊢;cases af:Nat.ble (off+n) c.length with
   |false=>rw[af] at h;cases h
   |true=>
    rw[af,bF,cQ] at h;have hle:=Nat.ble_eq.mp af;subst h;refine⟨by simp;omega,λj hj=> ?_⟩;rw[dq,List.getElem?_take,aY hj,List.getElem?_drop];rw[gi aj];rfl
theorem EH {φ:b4} {A:a8} {w:ax} (ao:b2 φ A w) (P:aS) {b off n:Nat} {vs:List J} {e:hS} (h:A.r0 b off n=some vs) (he:φ b=some e):
  ∃cN:Array J,(loadCells ⟨e.bn,e.sh+off,none⟩ n).run P w= .ok cN w/\cN.size=vs.length/\∀j,j<vs.length->aD φ (vs.getD j undef) (cN.getD j undef):=by
 obtain⟨hl,hj⟩:=AF h;have AG:∀j,j<n->∃aB,w.cell? ⟨e.bn,e.sh+off+j,none⟩=some aB/\aD φ (vs.getD j undef) aB:=λj vl=>by
  obtain⟨aB,ad,ag⟩:=vi ao (hj j vl) he;exact⟨aB,by rw[show e.sh+off+j=e.sh+(off+j) by omega];exact ad,ag⟩
 let f:Nat->J:=λj=>(w.cell? ⟨e.bn,e.sh+off+j,none⟩).getD undef
 have aR:∀j,j<n->w.cell? ((⟨e.bn,e.sh+off,none⟩:Addr).add j)=some (f j):=λj vl=>by
  obtain⟨aB,ad,_⟩:=AG j vl;rw[Addr.kz,ad];simp [f,ad]
 refine⟨_,run_loadCells _ _ n f aR,by simp [hl],λj vl=> ?_⟩;obtain⟨aB,ad,ag⟩:=AG j aj;have:f j=aB:=by simp [f,ad]
 simp only [fk];simp [show j<n by omega,this];simpa using ag
def a8.q5:a8->Nat->Nat->List J->Option a8
 |A,_,_,[]=>some A
 |A,b,off,v::r=>bif xP v then match A.store b off v with
    |some bH=>bH.q5 b (off+1) r
    |none=>none
  else none
omit [a7] in
theorem run_store {P:aS} {w:ax} {a:Addr} {v u:J} (aC:∀cs,v≠.agg cs/\v≠.tuple cs) (ad:w.cell? a=some u) (ag:w.frozen? a=false):(Go.store a v).run P w= .ok () (w.setCell a v):=by
 unfold Go.store;cases v<;>first|(exfalso;exact(aC _).1 rfl)|(exfalso;exact(aC _).2 rfl)|(simp [Sem.run,ad,ag])
theorem CI {φ:b4} (P:aS) {b:Nat} {e:hS} (he:φ b=some e):∀(vs:List J) (A a':a8) (w:ax) (off i:Nat) (cN:List J),b2 φ A w->A.q5 b (off+i) vs=some a'->
  cN.length=vs.length->(∀j,j<vs.length->aD φ (vs.getD j undef) (cN.getD j undef))->
  ∃w',(storeCells ⟨e.bn,e.sh+off,none⟩ cN i).run P w= .ok () w'/\cF φ A w φ a' w'
 |[],A,a',w,off,i,cN,ao,h,hl,aC=>by
  simp only [a8.q5,cQ] at h;subst h;have:cN=[]:=by simpa using hl
  subst this;exact⟨w,rfl,cF.refl ao⟩
 |v::r,A,a',w,off,i,cN,ao,h,hl,aC=>by
  cases cN with
  |nil=>simp at hl
  |cons aB eo=>
   unfold a8.q5 at h;cases ad:AE.xP v with
   |false=>rw[ad] at h;cases h
   |true=>
    rw[ad,bF] at h;cases aw:A.store b (off+i) v with
    |none=>rw[aw] at h;cases h
    |some bH=>
     rw[aw] at h;simp only at h;have CJ:aD φ v aB:=by simpa using aC 0 (by simp)
     obtain⟨st,⟨u,hu⟩,zf⟩:=TZ ao aw he CJ;rw[<-Nat.add_assoc] at st hu zf;obtain⟨w',EI,wL⟩:=CI P he r bH a' _ off (i+1) eo (by rw[Nat.add_assoc] at st;exact st.rel) (by rw[<-Nat.add_assoc];exact h) (by simpa using hl) (λj hj=>by simpa using aC (j+1) (by simpa using hj));refine⟨w',?_,?_⟩
     ·unfold storeCells
      rw[Addr.kz];simp only [Sem.run_bind,run_store (CJ.xP ad) hu zf,Result.andThen_ok];rw[Nat.add_assoc];exact EI
     ·exact cF.trans ao (by rw[Nat.add_assoc] at st;exact st) wL
theorem CK {φ:b4} {A a':a8} {w:ax} (ao:b2 φ A w) (P:aS) {c:List J} {c':Array J} {r st:Nat} (t:aK) (hp:A.push (.cells c) st t=some (r,a')) (hl:c.length<=c'.size) (aq:st=0->c.length=c'.size)
  (aC:∀j,j<c.length->aD φ (c.getD j undef) (c'.getD j undef)):
  ∃db w',(newRow t c').run P w= .ok ⟨w.heap.size,0,none⟩ w'/\db r=some ⟨w.heap.size,0,st,c'.size⟩/\cF φ A w db a' w'/\w'={w with heap:=w.heap.push (.cells c' t)}:=by
 have T8:=(ao.wf.push hp).2.1;have hmono:∀b e,φ b=some e->hk φ r ⟨w.heap.size,0,st,c'.size⟩ b=some e:=λb e af=>by
  unfold hk;rw[a_ (by have:=ao.lt af;omega)];exact af
 refine⟨hk φ r ⟨w.heap.size,0,st,c'.size⟩,{w with heap:=w.heap.push (.cells c' t)},?_,by simp [hk],?_,rfl⟩
 ·simp [newRow,newObj,Sem.run]
 ·refine CG ao hp U U ?_
  simp only [fS];refine⟨c',(0,0),by simp,rfl,by simp;exact⟨hl,aq⟩,λj hj=> ?_,λ_ i _=>by simp⟩;simp only [Nat.zero_add];exact(aC j hj).mono hmono
end AE
namespace AE
variable [a7]
mutual
theorem aD.lf {φ:b4}:∀(v:J) {aB:J},plain v=true->aD φ v aB->aB=v
 | .bool b,_,_,h=>by cases h;rfl
 | .int k n,_,_,h=>by cases h;rfl
 | .float k b,_,_,h=>by cases h;rfl
 | .string s,_,_,h=>by cases h;rfl
 | .pointer none,_,_,h=>by cases h;rfl
 | .map none,_,_,h=>by cases h;rfl
 | .chan none,_,_,h=>by cases h;rfl
 | .nilFunc,_,_,h=>by cases h;rfl
 | .nilIface,_,_,h=>by cases h;rfl
 | .slice none l c,_,_,h=>by cases h;rfl
 | .func (.func f) ⟨[]⟩ ⟨[]⟩,_,_,h=>by
     cases h with
     |func fs kI cs cs' av ad ag aR ar=>
      have e1:kI= #[]:=Array.eq_empty_of_size_eq_zero ad.symm;have e2:cs'= #[]:=Array.eq_empty_of_size_eq_zero ag.symm;rw[e1,e2]
 | .iface t v,_,hp,h=>by
     cases h with
     |iface t h=>rw[aD.lf v (by simpa [plain] using hp) h]
 | .agg ⟨l⟩,_,hp,h=>by
     cases h with
     |agg cs cs' ad ag=>
      obtain⟨l'⟩:=cs';rw[aD.EJ l l' (by simpa [plain] using hp) (by simpa using ad) (λi ai=>by simpa using ag i (by simpa using ai))]
 | .tuple ⟨l⟩,_,hp,h=>by
     cases h with
     |tuple cs cs' ad ag=>
      obtain⟨l'⟩:=cs';rw[aD.EJ l l' (by simpa [plain] using hp) (by simpa using ad) (λi ai=>by simpa using ag i (by simpa using ai))]
theorem aD.EJ {φ:b4}:∀(l l':List J),pt l=true->l.length=l'.length->(∀i,i<l.length->aD φ (l.getD i Go.undef) (l'.getD i Go.undef))->l'=l
 |[],[],_,_,_=>rfl
 |[],_::_,_,h,_=>by simp at h
 |_::_,[],_,h,_=>by simp at h
 |v::r,aB::eo,hp,hl,h=>by
   have ad:=aD.lf v (by simp [pt] at hp;exact hp.1) (by simpa using h 0 (by simp));have ag:=aD.EJ r eo (by simp [pt] at hp;exact hp.2) (by simpa using hl) (λi ai=>by simpa using h (i+1) (by simpa using ai));rw[ad,ag]
end
def b7 {α:Type} (R:b4->α->Prop) (P:aS) (φ:b4) (A:a8) (w:ax) (s:Sem α) (a':a8):Prop:=
 ∃db w' a,s.run P w= .ok a w'/\R db a/\cF φ A w db a' w'
theorem b7.pure_run {α:Type} {R:b4->α->Prop} {P:aS} {φ:b4} {A:a8} {w:ax} (ao:b2 φ A w) {s:Sem α} {a:α} (h:bk P s=some a) (jE:R φ a):b7 R P φ A w s A:=
 ⟨φ,w,a,jD h w,jE,cF.refl ao⟩
theorem b7.bind {α fg:Type} {R:b4->α->Prop} {S:b4->fg->Prop} {P:aS} {φ:b4} {A bH f_:a8} {w:ax} (ao:b2 φ A w) {s:Sem α} {k:α->Sem fg} (h:b7 R P φ A w s bH)
  (al:∀gO w1 a,b2 gO bH w1->(∀b e,φ b=some e->gO b=some e)->R gO a->b7 S P gO bH w1 (k a) f_):b7 S P φ A w (s >>= k) f_:=by
 obtain⟨gO,w1,a,ad,ag,ay⟩:=h;obtain⟨fp,w2,b,g1,g2,g3⟩:=al gO w1 a ay.rel (ay.ext ao) ag;exact⟨fp,w2,b,by rw[Sem.run_bind,ad];exact g1,g2,cF.trans ao ay g3⟩
theorem b7.map {α fg:Type} {R:b4->α->Prop} {S:b4->fg->Prop} {P:aS} {φ:b4} {A bH:a8} {w:ax} {s:Sem α} {f:α->fg} (h:b7 R P φ A w s bH) (aR:∀φ a,R φ a->S φ (f a)):b7 S P φ A w (s >>= λa=>pure (f a)) bH:=by
 obtain⟨gO,w1,a,ad,ag,ay⟩:=h;exact⟨gO,w1,f a,by rw[Sem.run_bind,ad];rfl,aR _ _ ag,ay⟩
theorem b7.pre {α fg:Type} {S:b4->fg->Prop} {P:aS} {φ:b4} {A f_:a8} {w:ax} {s:Sem α} {a:α} {k:α->Sem fg} (h:bk P s=some a) (al:b7 S P φ A w (k a) f_):b7 S P φ A w (s >>= k) f_:=by
 obtain⟨fp,w2,b,g1,g2,g3⟩:=al;exact⟨fp,w2,b,by rw[Sem.run_bind,jD h w];exact g1,g2,g3⟩
theorem b7.ret {α:Type} {R:b4->α->Prop} {P:aS} {φ:b4} {A:a8} {w:ax} (ao:b2 φ A w) {a:α} (jE:R φ a):b7 R P φ A w (pure a) A:=⟨φ,w,a,rfl,jE,cF.refl ao⟩
abbrev hT (v:J):b4->J->Prop:=λφ aB=>aD φ v aB
abbrev h7 (l:List J):b4->Array J->Prop:=λφ a=>a.size=l.length/\∀j,j<l.length->aD φ (l.getD j undef) (a.getD j undef)
section
variable {P:aS} {φ:b4} {A a':a8} {w:ax}
theorem T9 (ao:b2 φ A w) {b off n:Nat} {vs:List J} {e:hS} (h:A.r0 b off n=some vs) (he:φ b=some e):b7 (h7 vs) P φ A w (loadCells ⟨e.bn,e.sh+off,none⟩ n) A:=by
 obtain⟨cN,ad,ag,ay⟩:=EH ao P h he;exact⟨φ,w,cN,ad,⟨ag,ay⟩,cF.refl ao⟩
def CL (P:aS) (A:a8) (t:aK):J->Option J
 | .pointer (some ⟨b,off,none⟩)=>match bk P (isAgg t) with
   |some true=>match bk P (sizeOf t) with
    |some n=>(A.r0 b off n).map λl=> .agg ⟨l⟩
    |none=>none
   |some false=>A.load b off
   |none=>none
 |_=>none
theorem acH (ao:b2 φ A w) {t:aK} {p p' v:J} (hp:aD φ p p') (h:CL P A t p=some v):b7 (hT v) P φ A w (Instr.loadAt t p') A:=by
 unfold CL at h;split at h
 ·rename_i b off
  cases hp with
  |ptr he=>
   unfold Instr.loadAt;refine b7.pre (a:=(⟨_,_,none⟩:Addr)) rfl ?_;unfold loadVar;cases qy:bk P (isAgg t) with
   |none=>rw[qy] at h;cases h
   |some EK=>
    rw[qy] at h;refine b7.pre qy ?_;cases EK with
    |false=>
     simp only at h;obtain⟨aB,ad,ag⟩:=vi ao h he;refine⟨φ,w,aB,?_,ag,cF.refl ao⟩;simp [Go.load,Sem.run,ad]
    |true=>
     simp only at h;cases cv:bk P (sizeOf t) with
     |none=>rw[cv] at h;cases h
     |some n=>
      rw[cv] at h;simp only at h;obtain⟨l,hl,rfl⟩:=Option.map_eq_some_iff.1 h;simp only [if_true];refine b7.pre cv ?_;refine b7.map (T9 ao hl he) λφ a ⟨ad,ag⟩=> ?_
      exact .agg _ _ (by simp [ad]) λi ai=>by simpa using ag i (by simpa using ai)
 ·cases h
def Mb (P:aS) (A:a8) (t:aK) (v:J):J->Option a8
 | .pointer (some ⟨b,off,none⟩)=>match cellsOf v,bk P (sizeOf t) with
   |some l,some n=>bif Nat.beq l.length n then A.q5 b off l else none
   |_,_=>none
 |_=>none
theorem acI (ao:b2 φ A w) {t:aK} {b off:Nat} {e:hS} {v aB:J} (he:φ b=some e) (aC:aD φ v aB) {l:List J} {n:Nat} (hl:cellsOf v=some l) (av:bk P (sizeOf t)=some n)
  (aos:l.length=n) (h:A.q5 b off l=some a'):b7 (λ_ _=>True) P φ A w (storeVar t ⟨e.bn,e.sh+off,none⟩ aB) a':=by
 obtain⟨hA,c2⟩:=aC.cells hl;unfold storeVar;refine b7.pre av ?_;rw[a_ aj];obtain⟨w',ad,ag⟩:=CI P he l A a' w off 0 aB.cells.toList ao h (by simpa using hA.symm) (λj hj=>by
  have:=c2 j hj;simp only [fk] at this
  simpa [dq] using this)
 refine⟨φ,w',(),?_,trivial,ag⟩;simpa using ad
theorem acJ (ao:b2 φ A w) {t:aK} {p p' v aB:J} (hp:aD φ p p') (aC:aD φ v aB) (h:Mb P A t v p=some a'):b7 (λ_ _=>True) P φ A w (Instr.storeAt t p' aB) a':=by
 unfold Mb at h;split at h
 ·rename_i b off
  split at h
  ·rename_i l n hl av
   cases af:Nat.beq l.length n with
   |false=>rw[af] at h;cases h
   |true=>
    rw[af,bF] at h;cases hp with
    |ptr he=>
     unfold Instr.storeAt;refine b7.pre (a:=(⟨_,_,none⟩:Addr)) rfl ?_;exact acI ao he aC hl av (cI af) h
  ·cases h
 ·cases h
def Iq (A:a8) (t:aK) (v:J):Option (J×a8):=
 match cellsOf v with
 |some l=>match A.push (.cells l) 0 t with
  |some (r,bH)=>some (.pointer (some ⟨r,0,none⟩),bH)
  |none=>none
 |none=>none
theorem T' (ao:b2 φ A w) {t:aK} {v aB p:J} (aC:aD φ v aB) (h:Iq A t v=some (p,a')):b7 (hT p) P φ A w (do pure (.pointer (some (<-newVar t aB)))) a':=by
 unfold Iq at h;cases hl:cellsOf v with
 |none=>rw[hl] at h;cases h
 |some l=>
  rw[hl] at h;simp only at h;cases hp:A.push (.cells l) 0 t with
  |none=>rw[hp] at h;cases h
  |some q=>
   obtain⟨r,bH⟩:=q;rw[hp] at h;simp only [cQ,Prod.mk.injEq] at h;obtain⟨rfl,rfl⟩:=h;obtain⟨hA,c2⟩:=aC.cells hl;obtain⟨db,w',ad,ag,ay,_⟩:=CK ao P t hp (Nat.le_of_eq hA) (λ_=>hA) c2;refine⟨db,w',_,by rw[Sem.run_bind,newVar,ad];rfl,?_,ay⟩;have:=aD.ptr (φ:=db) (b:=r) (o:=0) ag;simpa using this
def Mc (P:aS) (A:a8) (t:aK):Option (J×a8):=
 match bk P (zeroValue t) with
 |some z=>bif plain z then Iq A t z else none
 |none=>none
theorem acK (ao:b2 φ A w) {t:aK} {p old:J} (h:Mc P A t=some (p,a')):b7 (hT p) P φ A w (Instr.alloc t true old) a':=by
 unfold Mc at h;cases bW:bk P (zeroValue t) with
 |none=>rw[bW] at h;cases h
 |some z=>
  rw[bW] at h;simp only at h;cases hp:plain z with
  |false=>rw[hp] at h;cases h
  |true=>
   rw[hp,bF] at h;unfold Instr.alloc;refine b7.pre bW ?_;exact T' ao (aD.ky φ z hp) h
def EL (P:aS) (s:aK) (f:Nat):J->Option J
 | .pointer (some ⟨b,off,none⟩)=>match bk P (underlying s) with
   |some (.struct fields)=>match fields[f]? with
    |some iv=>match bk P (sizeOf iv.type) with
     |some n=>bif n==0 then none else some (.pointer (some ⟨b,off+iv.offset,none⟩))
     |none=>none
    |none=>none
   |_=>none
 |_=>none
theorem T_ {s:aK} {f:Nat} {p p' v:J} (hp:aD φ p p') (h:EL P s f p=some v):∃aB,(∀w,(Instr.fieldAt s p' f).run P w= .ok aB w)/\aD φ v aB:=by
 unfold EL at h;split at h
 ·rename_i b off
  split at h
  ·rename_i fields hu
   split at h
   ·rename_i iv aR
    split at h
    ·rename_i n av
     cases aL:(n==0) with
     |true=>rw[aL] at h;cases h
     |false=>
      rw[aL,eD,cQ] at h;subst h;cases hp with
      |ptr he=>
       rename_i e;refine⟨.pointer (some ⟨e.bn,e.sh+(off+iv.offset),none⟩),λw=> ?_,.ptr he⟩;unfold Instr.fieldAt;have c1:n≠0:=by simpa using aL
       rw[Sem.run_bind,jD hu w];simp only [Result.andThen_ok,aR];rw[Sem.run_bind];have e1:(Instr.sureAddr (.pointer (some ⟨e.bn,e.sh+off,none⟩))).run P w= .ok ⟨e.bn,e.sh+off,none⟩ w:=rfl;rw[e1];unfold fieldPlace;simp only [Sem.run_bind,jD av w,Result.andThen_ok,a_ c1,Addr.kz];rw[Nat.add_assoc];rfl
    ·cases h
   ·cases h
  ·cases h
 ·cases h
theorem acL (ao:b2 φ A w) {s:aK} {f:Nat} {p p' v:J} (hp:aD φ p p') (h:EL P s f p=some v):b7 (hT v) P φ A w (Instr.fieldAt s p' f) A:=by
 obtain⟨aB,ad,ag⟩:=T_ hp h;exact⟨φ,w,aB,ad w,ag,cF.refl ao⟩
def EM (P:aS) (t:aK) (x:J) (i:J):Option J:=
 match i with
 | .int _ i=>match bk P (underlying t),x with
   |some (.array len elem),.pointer (some ⟨b,off,none⟩)=>match bk P (sizeOf elem) with
    |some n=>bif decide (0<=i)&&decide (i<(len:Int)) then some (.pointer (some ⟨b,off+i.toNat*n,none⟩)) else none
    |none=>none
   |some (.slice elem),.slice (some ⟨b,off,none⟩) len _=>match bk P (sizeOf elem) with
    |some n=>bif decide (0<=i)&&decide (i<(len:Int)) then some (.pointer (some ⟨b,off+i.toNat*n,none⟩)) else none
    |none=>none
   |_,_=>none
 |_=>none
theorem Ua {t:aK} {x x' i v:J} (aq:aD φ x x') (h:EM P t x i=some v):∃aB,(∀w,(Instr.indexAt t x' i).run P w= .ok aB w)/\aD φ v aB:=by
 unfold EM at h;split at h
 ·rename_i k i
  unfold Instr.indexAt;have e0:∀w,(asIntOf (.int k i)).run P w= .ok (k,i) w:=λw=>rfl
  have e1:∀w,∀a:Addr,(pure a:Sem Addr).run P w= .ok a w:=λ_ _=>rfl
  split at h
  ·rename_i len elem b off hu
   split at h
   ·rename_i n av
    cases af:(decide (0<=i)&&decide (i<(len:Int))) with
    |false=>rw[af] at h;cases h
    |true=>
     rw[af,bF,cQ] at h;subst h;have zg:0<=i/\i<(len:Int):=by simpa using af
     cases aq with
     |ptr he=>
      rename_i e;refine⟨.pointer (some ⟨e.bn,e.sh+(off+i.toNat*n),none⟩),λw=> ?_,.ptr he⟩;simp only [Sem.run_bind,e0,jD hu w,Result.andThen_ok,Instr.sureAddr];simp [zg,jD av w,jD hu w,Addr.kz,Nat.add_assoc,e1]
   ·cases h
  ·rename_i elem b off len cap hu
   split at h
   ·rename_i n av
    cases af:(decide (0<=i)&&decide (i<(len:Int))) with
    |false=>rw[af] at h;cases h
    |true=>
     rw[af,bF,cQ] at h;subst h;have zg:0<=i/\i<(len:Int):=by simpa using af
     cases aq with
     |iD gd c' he=>
      rename_i e;refine⟨.pointer (some ⟨e.bn,e.sh+(off+i.toNat*n),none⟩),λw=> ?_,.ptr he⟩;simp [e0,zg,jD av w,jD hu w,Addr.kz,Nat.add_assoc]
     |iE gd hA c2 he q1 aH b0=>
      rename_i e;refine⟨.pointer (some ⟨e.bn,e.sh+(off+i.toNat*n),none⟩),λw=> ?_,.ptr he⟩;simp [e0,zg,jD av w,jD hu w,Addr.kz,Nat.add_assoc]
     |i_=>omega
   ·cases h
  ·cases h
 ·cases h
theorem acM (ao:b2 φ A w) {t:aK} {x x' i v:J} (aq:aD φ x x') (h:EM P t x i=some v):b7 (hT v) P φ A w (Instr.indexAt t x' i) A:=by
 obtain⟨aB,ad,ag⟩:=Ua aq h;exact⟨φ,w,aB,ad w,ag,cF.refl ao⟩
end
end AE
namespace AE
variable [a7]
omit [a7] in
theorem sV {α fg:Type} (P:aS) (s:Sem α) (k:α->Sem fg):bk P (s >>= k)=(bk P s).bind λa=>bk P (k a):=by
 show bk P (s.bind k)=_
 induction s with
 |pure a=>rfl
 |program f cA=>exact cA P
 |mark m s cA=>exact cA
 |_=>rfl
omit [a7] in
theorem EN {α:Type} (P:aS) (a:α):bk P (pure a:Sem α)=some a:=rfl
section
variable {P:aS} {φ:b4} {A a':a8} {w:ax}
def Ir (P:aS) (t:aK) (cs:List J) (off:Nat):Option J:=
 match bk P (isAgg t) with
 |some true=>match bk P (sizeOf t) with
  |some n=>some (.agg ⟨(cs.drop off).take n⟩)
  |none=>none
 |some false=>cs[off]?
 |none=>none
theorem Ub (ao:b2 φ A w) {t:aK} {cs:List J} {cs':Array J} {off:Nat} {v:J} (ar:h7 cs φ cs') (h:Ir P t cs off=some v):b7 (hT v) P φ A w (part t cs' off) A:=by
 obtain⟨hl,aC⟩:=ar;unfold Ir at h;unfold part;cases qy:bk P (isAgg t) with
 |none=>rw[qy] at h;cases h
 |some EK=>
  rw[qy] at h;refine b7.pre qy ?_;cases EK with
  |false=>
   simp only at h;obtain⟨cg,CJ⟩:=List.getElem?_eq_some_iff.1 h;have r1:off<cs'.size:=by omega
   refine⟨φ,w,cs'[off],by simp [r1,Sem.run,pure],?_,cF.refl ao⟩;have:=aC off cg;rw[dq,h] at this;simpa [r1] using this
  |true=>
   simp only at h;cases cv:bk P (sizeOf t) with
   |none=>rw[cv] at h;cases h
   |some n=>
    rw[cv] at h;simp only [cQ] at h;subst h;simp only [if_true];refine b7.pre cv (b7.ret ao (.agg _ _ (by simp [hl];omega) λi ai=> ?_));simp at ai;have:=aC (off+i) aj;simp only [fk,dq,Array.getElem?_extract] at this ⊢;rw[aY aj,List.getElem?_toArray,List.getElem?_take,aY aj,List.getElem?_drop];exact this
def Md (P:aS) (s:aK) (x:J) (f:Nat):Option J:=
 match x,bk P (underlying s) with
 | .agg ⟨cs⟩,some (.struct fields)=>match fields[f]? with
   |some iv=>Ir P iv.type cs iv.offset
   |none=>none
 |_,_=>none
theorem acN (ao:b2 φ A w) {s:aK} {f:Nat} {x x' v:J} (aq:aD φ x x') (h:Md P s x f=some v):b7 (hT v) P φ A w (Instr.field s x' f) A:=by
 unfold Md at h;split at h
 ·rename_i cs fields hu
  split at h
  ·rename_i iv aR
   cases aq with
   |agg EO cs' ad ag=>
    unfold Instr.field;refine b7.pre hu ?_;simp only [aR];refine b7.pre (a:=cs') rfl ?_;exact Ub ao ⟨by simpa using ad.symm,λj hj=>by simpa using ag j (by simpa using hj)⟩ h
  ·cases h
 ·cases h
def Me (P:aS) (t:aK) (x i:J):Option J:=
 match x,i,bk P (underlying t) with
 | .agg ⟨cs⟩,.int _ i,some (.array len elem)=>match bk P (sizeOf elem) with
   |some n=>bif decide (0<=i)&&decide (i<(len:Int)) then Ir P elem cs (i.toNat*n) else none
   |none=>none
 |_,_,_=>none
theorem acO (ao:b2 φ A w) {t:aK} {x x' i v:J} (aq:aD φ x x') (h:Me P t x i=some v):b7 (hT v) P φ A w (Instr.index t x' i) A:=by
 unfold Me at h;split at h
 ·rename_i cs k i len elem hu
  split at h
  ·rename_i n av
   cases af:(decide (0<=i)&&decide (i<(len:Int))) with
   |false=>rw[af] at h;cases h
   |true=>
    rw[af,bF] at h;have zg:0<=i/\i<(len:Int):=by simpa using af
    cases aq with
    |agg EO cs' ad ag=>
     unfold Instr.index;refine b7.pre (a:=(k,i)) rfl ?_;simp only;refine b7.pre hu ?_;simp only [aY zg];refine b7.pre av ?_;exact Ub ao ⟨by simpa using ad.symm,λj hj=>by simpa using ag j (by simpa using hj)⟩ h
  ·cases h
 ·cases h
def EP:J->Nat->Option J
 | .tuple ⟨cs⟩,i=>cs[i]?
 |_,_=>none
theorem acP (ao:b2 φ A w) {x x' v:J} {i:Nat} (aq:aD φ x x') (h:EP x i=some v):b7 (hT v) P φ A w (Instr.extract x' i) A:=by
 unfold EP at h;split at h
 ·rename_i cs
  cases aq with
  |tuple EO cs' ad ag=>
   obtain⟨cg,_⟩:=List.getElem?_eq_some_iff.1 h;have Uc:cs.length=cs'.size:=by simpa using ad
   have r1:i<cs'.size:=by omega
   refine⟨φ,w,cs'[i],by simp [Instr.extract,r1,Sem.run,pure],?_,cF.refl ao⟩;have:=ag i (by simpa using cg);simp only [fk,List.getElem?_toArray,h,Option.getD_some] at this;simpa [r1] using this
 ·cases h
theorem Ud (off:Nat):∀(l l':List J) (k:Nat) (c c':Array J),l.length=l'.length->(∀j,j<l.length->aD φ (l.getD j undef) (l'.getD j undef))->c.size=c'.size->(∀j,j<c.size->aD φ (c.getD j undef) (c'.getD j undef))->
  ((l.zipIdx k).foldl (λcs (x:J×Nat)=>cs.setIfInBounds (off+x.2) x.1) c).size=((l'.zipIdx k).foldl (λcs (x:J×Nat)=>cs.setIfInBounds (off+x.2) x.1) c').size/\
  ∀j,j<((l.zipIdx k).foldl (λcs (x:J×Nat)=>cs.setIfInBounds (off+x.2) x.1) c).size->aD φ (((l.zipIdx k).foldl (λcs (x:J×Nat)=>cs.setIfInBounds (off+x.2) x.1) c).getD j undef) (((l'.zipIdx k).foldl (λcs (x:J×Nat)=>cs.setIfInBounds (off+x.2) x.1) c').getD j undef)
 |[],[],_,c,c',_,_,ad,ag=>⟨ad,ag⟩
 |[],_::_,_,_,_,h,_,_,_=>by simp at h
 |_::_,[],_,_,_,h,_,_,_=>by simp at h
 |v::r,aB::eo,k,c,c',hl,aC,ad,ag=>by
  simp only [List.zipIdx_cons,List.foldl_cons];refine Ud off r eo (k+1) _ _ (by simpa using hl) (λj hj=>by simpa using aC (j+1) (by simpa using hj)) (by simpa using ad) λj hj=> ?_
  have aL:aD φ v aB:=by simpa using aC 0 (by simp)
  simp only [Array.size_setIfInBounds] at hj;have:=ag j hj;simp only [fk,Array.getElem?_setIfInBounds] at this ⊢;by_cases al:off+k=j
  ·rw[aY al,aY al,aY aj,aY aj]
   exact aL
  ·rw[a_ al,a_ al]
   exact this
omit [a7] in
theorem Ue {v:J} {l:List J} (h:cellsOf v=some l):v.cells=⟨l⟩:=by
 cases v<;>simp_all [cellsOf,Value.cells]
 case complex k re aot=>cases k<;>simp_all
 case agg cs=>obtain⟨cs⟩:=cs;simp [cellsOf] at h;rw[h]
def Uf (φ:b4) (p p':Nat×J):Prop:=p.1=p'.1/\(cellsOf p.2).isSome=true/\aD φ p.2 p'.2
theorem Mf (place:Nat->Option (Nat×Nat)):∀(ps Mg:List (Nat×J)) (c c' out:Array J),ps.length=Mg.length->(∀(j:Nat) (a b:Nat×J),ps[j]? =some a->Mg[j]? =some b->Uf φ a b)->c.size=c'.size->(∀j,j<c.size->aD φ (c.getD j undef) (c'.getD j undef))->
  Instr.fill place c ps=some out->∃uf,Instr.fill place c' Mg=some uf/\out.size=uf.size/\∀j,j<out.size->aD φ (out.getD j undef) (uf.getD j undef)
 |[],[],c,c',out,_,_,ad,ag,h=>by
  simp only [Instr.fill,cQ] at h;subst h;exact⟨c',rfl,ad,ag⟩
 |[],_::_,_,_,_,h,_,_,_,_=>by simp at h
 |_::_,[],_,_,_,h,_,_,_,_=>by simp at h
 |(i,v)::r,(ug,aB)::eo,c,c',out,hl,hp,ad,ag,h=>by
  obtain⟨e1,e2,e3⟩:=hp 0 _ _ U U;simp only at e1 e2 e3;subst e1;obtain⟨l,nU⟩:=Option.isSome_iff_exists.1 e2;obtain⟨hA,c2⟩:=e3.cells nU;have ER:v.cells=⟨l⟩:=Ue nU;unfold Instr.fill at h ⊢;cases fD:place i with
  |none=>rw[fD] at h;cases h
  |some os=>
   obtain⟨off,size⟩:=os;rw[fD] at h;simp only at h ⊢;have fT:v.cells.size=aB.cells.size:=by rw[ER];simpa using hA
   split at h
   ·cases h
   ·rename_i av
    rw[a_ (by rw[<-fT,<-ad];exact av)];have key:=Ud (φ:=φ) off l aB.cells.toList 0 c c' (by simpa using hA) (λj hj=>by simpa [fk,dq] using c2 j hj) ad ag;refine Mf place r eo _ _ out (by simpa using hl) (λj a b ha af=>hp (j+1) a b (by simpa using ha) (by simpa using af)) ?_ ?_ h
    ·rw[ER,<-Array.foldl_toList,<-Array.foldl_toList,Array.toList_zipIdx,Array.toList_zipIdx]
     exact key.1
    ·rw[ER,<-Array.foldl_toList,<-Array.foldl_toList,Array.toList_zipIdx,Array.toList_zipIdx]
     exact key.2
def ES (ps:Array (Nat×J)):Bool:=ps.toList.all λp=>(cellsOf p.2).isSome
theorem Ug {ps:Array (Nat×Operand)} {ρ ρ':Operand->J} (c5:∀p∈ps,aD φ (ρ p.2) (ρ' p.2)) (hK:ES (ps.map λ(i,x)=>(i,ρ x))=true):
  ∀(j:Nat) (a b:Nat×J),((ps.map λ(i,x)=>(i,ρ x)).toList)[j]? =some a->((ps.map λ(i,x)=>(i,ρ' x)).toList)[j]? =some b->Uf φ a b:=by
 intro j a b ha af;have mU:=List.mem_of_getElem? ha;simp only [Array.toList_map,List.getElem?_map,xL] at ha af;obtain⟨p,hp,rfl⟩:=ha;obtain⟨p',CM,rfl⟩:=af;rw[hp] at CM;cases CM;refine⟨rfl,?_,c5 p (by simpa using List.mem_of_getElem? hp)⟩;exact List.all_eq_true.1 hK _ mU
def Mh (P:aS) (t:aK) (parts:Array (Nat×J)):Option J:=
 bif ES parts then
  match bk P (zeroValue t) with
  |some z=>bif plain z&&(cellsOf z).isSome then
    match bk P (underlying t) with
    |some (.struct fields)=>match bk P (fields.mapM λf=>do pure (f.offset,<-sizeOf f.type)) with
     |some Uh=>(Instr.fill (Uh[·]?) z.cells parts.toList).map .agg
     |none=>none
    |some (.array _ elem)=>match bk P (sizeOf elem) with
     |some size=>(Instr.fill (λi=>some (i*size,size)) z.cells parts.toList).map .agg
     |none=>none
    |_=>none
   else none
  |none=>none
 else none
theorem Is {z:J} (h:plain z=true) (ar:(cellsOf z).isSome=true) (φ:b4):∀j,j<z.cells.size->aD φ (z.cells.getD j undef) (z.cells.getD j undef):=by
 obtain⟨l,hl⟩:=Option.isSome_iff_exists.1 ar;obtain⟨ad,ag⟩:=(aD.ky φ z h).cells hl;intro j hj;have ER:z.cells=⟨l⟩:=Ue hl;have:=ag j aj;simp only [ER] at this ⊢;simpa [fk,dq] using this
theorem acQ (ao:b2 φ A w) {t:aK} {ps:Array (Nat×Operand)} {ρ ρ':Operand->J} {v:J} (c5:∀p∈ps,aD φ (ρ p.2) (ρ' p.2)) (h:Mh P t (ps.map λ(i,x)=>(i,ρ x))=some v):
  b7 (hT v) P φ A w (Instr.build t (ps.map λ(i,x)=>(i,ρ' x))) A:=by
 unfold Mh at h;cases hK:ES (ps.map λ(i,x)=>(i,ρ x)) with
 |false=>rw[hK] at h;cases h
 |true=>
  rw[hK,bF] at h;have Mi:=Ug c5 hK;cases bW:bk P (zeroValue t) with
  |none=>rw[bW] at h;cases h
  |some z=>
   rw[bW] at h;simp only at h;cases lE:(plain z&&(cellsOf z).isSome) with
   |false=>rw[lE] at h;cases h
   |true=>
    rw[lE,bF] at h;simp only [c8] at lE;have qz:=Is lE.1 lE.2 φ;unfold Instr.build;refine b7.pre bW ?_;simp only;have fU:∀(place:Nat->Option (Nat×Nat)),(Instr.fill place z.cells (ps.map λ(i,x)=>(i,ρ x)).toList).map Value.agg=some v->
      ∃uf,Instr.fill place z.cells (ps.map λ(i,x)=>(i,ρ' x)).toList=some uf/\aD φ v (.agg uf):=by
     intro place aR;obtain⟨out,ho,rfl⟩:=Option.map_eq_some_iff.1 aR;obtain⟨uf,g1,g2,g3⟩:=Mf place _ _ _ _ out (by simp) Mi rfl qz ho;exact⟨uf,g1,.agg _ _ g2 g3⟩
    split at h
    ·rename_i fields hu
     refine b7.pre hu ?_;simp only;split at h
     ·rename_i Uh fD
      refine b7.pre fD ?_;obtain⟨uf,g1,g2⟩:=fU _ h;simp only [g1];exact b7.ret ao g2
     ·cases h
    ·rename_i n elem hu
     refine b7.pre hu ?_;simp only;split at h
     ·rename_i size cv
      refine b7.pre cv ?_;obtain⟨uf,g1,g2⟩:=fU _ h;simp only [g1];exact b7.ret ao g2
     ·cases h
    ·cases h
def Mj (P:aS) (A:a8) (t:aK) (len:Nat) (parts:Array (Nat×J)):Option (J×a8):=
 bif ES parts then
  match bk P (underlying t) with
  |some (.slice elem)=>match bk P (sizeOf elem) with
   |some size=>bif Nat.blt 0 (len*size)&&Nat.ble (len*size) 16777216 then
     match bk P (zeroValue elem) with
     |some z=>bif plain z&&(cellsOf z).isSome&&Nat.blt 0 z.cells.size then
       match Instr.fill (λi=>some (i*size,size)) ((Array.range (len*size)).map (z.cells[· %z.cells.size]!)) parts.toList with
       |some out=>match A.push (.cells out.toList) 0 elem with
        |some (r,bH)=>some (.slice (some ⟨r,0,none⟩) len len,bH)
        |none=>none
       |none=>none
      else none
     |none=>none
    else none
   |none=>none
  |_=>none
 else none
theorem acR (ao:b2 φ A w) {t:aK} {len:Nat} {ps:Array (Nat×Operand)} {ρ ρ':Operand->J} {v:J} (c5:∀p∈ps,aD φ (ρ p.2) (ρ' p.2)) (h:Mj P A t len (ps.map λ(i,x)=>(i,ρ x))=some (v,a')):
  b7 (hT v) P φ A w (Instr.buildSlice t len (ps.map λ(i,x)=>(i,ρ' x))) a':=by
 unfold Mj at h;cases hK:ES (ps.map λ(i,x)=>(i,ρ x)) with
 |false=>rw[hK] at h;cases h
 |true=>
  rw[hK,bF] at h;have Mi:=Ug c5 hK;split at h
  ·rename_i elem hu
   split at h
   ·rename_i size cv
    cases af:(Nat.blt 0 (len*size)&&Nat.ble (len*size) 16777216) with
    |false=>rw[af] at h;cases h
    |true=>
     rw[af,bF] at h;simp only [c8] at af;have mc:=Nat.blt_eq.mp af.1;have jL:=Nat.ble_eq.mp af.2;split at h
     ·rename_i z bW
      cases lE:(plain z&&(cellsOf z).isSome&&Nat.blt 0 z.cells.size) with
      |false=>rw[lE] at h;cases h
      |true=>
       rw[lE,bF] at h;simp only [c8] at lE;have r2:=Nat.blt_eq.mp lE.2;have qz:=Is lE.1.1 lE.1.2 φ;split at h
       ·rename_i out ho
        split at h
        ·rename_i r bH hp
         simp only [cQ,Prod.mk.injEq] at h;obtain⟨rfl,rfl⟩:=h;unfold Instr.buildSlice;refine b7.pre hu ?_;simp only;refine b7.pre cv ?_;rw[a_ aj];rw[a_ aj];have xQ:∀j,j<((Array.range (len*size)).map (z.cells[· %z.cells.size]!)).size->aD φ (((Array.range (len*size)).map (z.cells[· %z.cells.size]!)).getD j undef) (((Array.range (len*size)).map (z.cells[· %z.cells.size]!)).getD j undef):=by
          intro j hj;simp at hj;have hm:=Nat.mod_lt j r2;have:=qz (j%z.cells.size) hm;simp only [fk] at this ⊢;simpa [hj,hm,getElem!_pos] using this
         obtain⟨uf,g1,g2,g3⟩:=Mf (φ:=φ) (λi=>some (i*size,size)) _ _ _ _ out (by simp) Mi rfl xQ ho;refine b7.pre bW ?_;refine b7.pre (a:=z.cells) rfl ?_;simp only [g1];obtain⟨db,w',q1,aH,b0,_⟩:=CK ao P elem hp (c':=uf) (by simpa using Nat.le_of_eq g2) (λ_=>by simpa using g2) (λj hj=>by
          have:=g3 j (by simpa using hj);simp only [fk] at this
          simpa [dq] using this)
         refine⟨db,w',.slice (some ⟨w.heap.size,0,none⟩) len len,by rw[Sem.run_bind,q1];rfl,?_,b0⟩;have:=aD.iD (φ:=db) (b:=r) (o:=0) len len aH;simpa using this
        ·cases h
       ·cases h
     ·cases h
   ·cases h
  ·cases h
def Mk (P:aS) (A:a8) (t:aK):Option (J×a8):=
 match bk P (underlying t) with
 |some (.slice elem)=>match bk P (sizeOf elem) with
  |some _=>match A.push (.cells []) 0 elem with
   |some (r,bH)=>some (.slice (some ⟨r,0,none⟩) 0 0,bH)
   |none=>none
  |none=>none
 |_=>none
theorem acS (ao:b2 φ A w) {t:aK} {v:J} (h:Mk P A t=some (v,a')):b7 (hT v) P φ A w (Instr.buildSlice t 0 #[]) a':=by
 unfold Mk at h;split at h
 ·rename_i elem hu
  split at h
  ·rename_i size cv
   split at h
   ·rename_i r bH hp
    simp only [cQ,Prod.mk.injEq] at h;obtain⟨rfl,rfl⟩:=h;unfold Instr.buildSlice;refine b7.pre hu ?_;simp only;refine b7.pre cv ?_;rw[a_ aj,aY aj];refine b7.pre (a:=(#[]:Array J)) rfl ?_;obtain⟨db,w',q1,aH,b0,_⟩:=CK ao P (c':= #[]) elem hp (by simp) (λ_=>by simp) (λj hj=>by simp at hj);have e:((Array.range (0*size)).map ((#[]:Array J)[· %(#[]:Array J).size]!))= #[]:=by simp
    rw[e];simp only [Instr.fill];refine⟨db,w',.slice (some ⟨w.heap.size,0,none⟩) 0 0,by rw[Sem.run_bind,q1];rfl,?_,b0⟩;have:=aD.iD (φ:=db) (b:=r) (o:=0) 0 0 aH;simpa using this
   ·cases h
  ·cases h
 ·cases h
end
end AE
namespace AE
variable [a7]
def a8.Iu (A:a8) (b pos st:Nat) (ty:aK) (c:List J):Option (Nat×a8):=
 match A.bl.get b with
 |some k=>match k.obj,A.mem.get k.cT with
  | .cells _,some l=>bif k.ro||bne k.ty ty then none else
    match bY.set {obj:= .cells c,cT:=k.cT,pos:=pos,eN:=st,ro:=false,ty:=ty:h6} depth A.bl A.n,bY.set (A.n::l) depth A.mem k.cT with
    |some bl,some mem=>some (A.n,{bl,mem,n:=A.n+1,low:=l.foldl Nat.min A.low})
    |_,_=>none
  |_,_=>none
 |none=>none
omit [a7] in
theorem Ml {A a':a8} {b pos st:Nat} {ty:aK} {c:List J} {r:Nat} (h:A.Iu b pos st ty c=some (r,a')) (vh:Az A):
  ∃k dE l,A.bl.get b=some k/\k.obj= .cells dE/\k.ro=false/\k.ty=ty/\A.mem.get k.cT=some l/\r=A.n/\Az a'/\a'.n=A.n+1/\a'.low<=A.low/\(∀m∈l,a'.low<=m)/\
   (∀j,a'.bl.get j=if j=A.n then some {obj:= .cells c,cT:=k.cT,pos:=pos,eN:=st,ro:=false,ty:=ty} else A.bl.get j):=by
 unfold a8.Iu at h;cases al:A.bl.get b with
 |none=>rw[al] at h;cases h
 |some k=>
  rw[al] at h;obtain⟨ua,cT,aou,aov,ro,acT⟩:=k;simp only at h;cases ua with
  |map es e6=>cases h
  |gw x=>cases h
  |cells dE=>
   cases hm:A.mem.get cT with
   |none=>rw[hm] at h;cases h
   |some l=>
    rw[hm] at h;simp only at h;cases ar:(ro||bne acT ty) with
    |true=>rw[ar] at h;cases h
    |false=>
     rw[ar,eD] at h;simp only [Bool.or_eq_false_iff,bne_eq_false_iff_eq] at ar;obtain⟨rfl,rfl⟩:=ar;split at h
     ·rename_i bl mem af sT
      simp only [cQ,Prod.mk.injEq] at h;obtain⟨rfl,rfl⟩:=h;have vg:=λb=>bY.oh _ _ _ _ _ b af
      have CF:=λb=>bY.oh _ _ _ _ _ b sT
      obtain⟨f1,f2⟩:=Ik l A.low;have oi:=vh.t' b _ al;refine⟨_,dE,l,rfl,rfl,rfl,rfl,hm,rfl,⟨?_,?_,?_,?_⟩,rfl,f1,f2,vg⟩
      ·intro j cp hj
       simp only at hj ⊢;rw[vg] at hj;split at hj
       ·omega
       ·have:=vh.lt j cp hj;omega
      ·intro j cp hj
       simp only at hj ⊢ oi;rw[vg] at hj;split at hj
       ·cases hj;simp only;omega
       ·have:=vh.t' j cp hj;omega
      ·intro j cp hj
       simp only at hj ⊢;rw[vg] at hj;split at hj
       ·rename_i vl
        cases hj;exact⟨_,by rw[CF,aY rfl],by simp [vl]⟩
       ·obtain⟨l',gb,kL⟩:=vh.mem j cp hj
        by_cases aR:cp.cT=cT
        ·rw[aR,hm] at gb
         cases gb;exact⟨_,by rw[CF,aY aR],List.mem_cons_of_mem _ kL⟩
        ·exact⟨l',by rw[CF,a_ aR];exact gb,kL⟩
      ·intro j cp fL dS hj gZ aR
       simp only at hj gZ;rw[vg] at hj gZ;split at hj
       ·cases hj
        split at gZ
        ·cases gZ;rfl
        ·have:=vh.ve b _ fL dS al gZ aR
         exact this
       ·split at gZ
        ·cases gZ
         have:=vh.ve j cp b _ hj al aR;exact this
        ·exact vh.ve j cp fL dS hj gZ aR
     ·cases h
theorem Ui {φ:b4} {A a':a8} {w w':ax} (ao:b2 φ A w) {b pos st:Nat} {ty:aK} {c:List J} {r:Nat} {e:hS} (h:A.Iu b pos st ty c=some (r,a')) (c0:e.eN=st)
  (hw:(e.bn=w.heap.size/\∃o,w'={w with heap:=w.heap.push o})\/(w'=w/\∃e0 k,φ b=some e0/\A.bl.get b=some k/\e.bn=e0.bn/\e.sh+k.pos=e0.sh+pos))
  (ho:∀k,A.bl.get b=some k->fS (hk φ r e) w' e {obj:= .cells c,cT:=k.cT,pos:=pos,eN:=st,ro:=false,ty:=ty}):
  cF φ A w (hk φ r e) a' w':=by
 obtain⟨k,dE,l,al,fK,dL,hty,mU,rfl,vh,av,mT,Il,gP⟩:=Ml h ao.wf;have ho:=ho k al;have hold:∀b e1,φ b=some e1->hk φ A.n e b=some e1:=λb e1 af=>by
  unfold hk;rw[a_ (by have:=ao.lt af;omega)];exact af
 have rX:∀i,i<w.heap.size->w'.heap[i]? =w.heap[i]? :=λi ai=>by
  rcases hw with ⟨_,o,rfl⟩|⟨rfl,_⟩
  ·show (w.heap.push o)[i]? =_
   rw[Array.getElem?_push,a_ aj]
  ·rfl
 have cv:w.heap.size<=w'.heap.size:=by
  rcases hw with ⟨_,o,rfl⟩|⟨rfl,_⟩
  ·simp
  ·exact ch _
 have wM:w'.os=w.os/\w'.tape=w.tape/\w'.output=w.output:=by
  rcases hw with ⟨_,o,rfl⟩|⟨rfl,_⟩<;>exact⟨rfl,rfl,rfl⟩
 have mA:∀j e1,hk φ A.n e j=some e1->(j=A.n/\e1=e)\/(j≠A.n/\φ j=some e1):=λj e1 af=>by
  unfold hk at af;split at af
  ·rename_i h;cases af;exact .inl ⟨h,rfl⟩
  ·rename_i h;exact .inr ⟨h,af⟩
 have t_:b∈l:=by
  obtain⟨l',gb,eh⟩:=ao.wf.mem b k al;rw[mU] at gb;cases gb;exact eh
 have uh:∀j gk cp,φ j=some gk->A.bl.get j=some cp->(k.cT≠cp.cT->e.bn≠gk.bn)/\(k.cT=cp.cT->e.bn=gk.bn->e.sh+cp.pos=gk.sh+pos):=by
  intro j gk cp hj h2;rcases hw with ⟨he,_⟩|⟨_,e0,k',zh,dD,jW,uc⟩
  ·obtain⟨_,_,_,ag⟩:=ao.eE j gk hj
   have:=ag.lt;exact⟨λ_=>by omega,λ_ _=>by omega⟩
  ·rw[al] at dD;cases dD
   refine⟨λc1=> ?_,λaR af=> ?_⟩
   ·rw[jW];exact ao.apart b e0 k j gk cp zh hj al h2 c1
   ·have:=ao.along b e0 k j gk cp zh hj al h2 aR (by rw[<-jW];exact af)
    omega
 refine {rel:=⟨vh,?_,?_,?_,λi o ai=>by
   obtain⟨ad,ag⟩:=ao.dn i o ai;have cg:i<w.heap.size:=(Array.getElem?_eq_some_iff.1 ad).1;refine⟨by rw[rX i cg];exact ad,λj e1 hj=> ?_⟩;rcases mA j e1 hj with ⟨rfl,rfl⟩|⟨_,hj⟩
   ·rcases hw with ⟨he,_⟩|⟨_,e0,k',zh,dD,jW,uc⟩
    ·omega
    ·rw[jW];exact ag b e0 zh
   ·exact ag j e1 hj⟩,eE:= ?_,rW:= ?_,new:= ?_,qv:=by omega,low:=mT,same:= ?_,ro:= ?_,keep:= ?_,gN:=cv,os:=wM.1,tape:=wM.2.1,output:=wM.2.2,drawn:=ch _}
 ·intro j e1 af
  rcases mA j e1 af with ⟨rfl,rfl⟩|⟨c1,af⟩
  ·exact⟨_,by rw[gP,aY rfl],c0,ho⟩
  ·obtain⟨cp,h2,ad,ag⟩:=ao.eE j e1 af
   exact⟨cp,by rw[gP,a_ c1];exact h2,ad,ag.mono hold (rX _ ag.lt)⟩
 ·intro j e1 cp fL oU dS af eh nE oV c1
  rw[gP] at nE oV;rcases mA j e1 af with ⟨rfl,rfl⟩|⟨hJ,sS⟩
  ·rcases mA fL oU eh with ⟨rfl,rfl⟩|⟨kK,q3⟩
   ·rw[aY rfl] at nE oV;cases nE;cases oV;exact absurd rfl c1
   ·rw[aY rfl] at nE;rw[a_ kK] at oV;cases nE
    exact(uh fL oU dS q3 oV).1 c1
  ·rcases mA fL oU eh with ⟨rfl,rfl⟩|⟨kK,q3⟩
   ·rw[aY rfl] at oV;rw[a_ hJ] at nE;cases oV
    exact Ne.symm ((uh j e1 cp sS nE).1 (Ne.symm c1))
   ·rw[a_ hJ] at nE;rw[a_ kK] at oV
    exact ao.apart j e1 cp fL oU dS sS q3 nE oV c1
 ·intro j e1 cp fL oU dS af eh nE oV oi jW
  rw[gP] at nE oV;rcases mA j e1 af with ⟨rfl,rfl⟩|⟨hJ,sS⟩
  ·rcases mA fL oU eh with ⟨rfl,rfl⟩|⟨kK,q3⟩
   ·rw[aY rfl] at nE oV;cases nE;cases oV;rfl
   ·rw[aY rfl] at nE;rw[a_ kK] at oV;cases nE
    exact(uh fL oU dS q3 oV).2 oi jW
  ·rcases mA fL oU eh with ⟨rfl,rfl⟩|⟨kK,q3⟩
   ·rw[aY rfl] at oV;rw[a_ hJ] at nE;cases oV
    exact((uh j e1 cp sS nE).2 oi.symm jW.symm).symm
   ·rw[a_ hJ] at nE;rw[a_ kK] at oV
    exact ao.along j e1 cp fL oU dS sS q3 nE oV oi jW
 ·intro j hj
  unfold hk;rw[a_ aj]
 ·intro j ad ag
  have:j=A.n:=by omega
  subst this;simp [hk]
 ·intro j e1 ad af
  rcases mA j e1 af with ⟨rfl,rfl⟩|⟨hJ,af⟩
  ·rcases hw with ⟨he,_⟩|⟨_,e0,k',zh,dD,jW,uc⟩
   ·exact .inl aj
   ·exact .inr ⟨b,e0,k,zh,jW.symm,Il b t_,al,dL⟩
  ·exact absurd (ao.lt af) aj
 ·intro j hj _
  rw[gP,a_ aj]
 ·intro j cp h2 _
  rw[gP,a_ (by have:=ao.wf.lt j cp h2;omega)];exact h2
 ·intro i ai _
  exact rX i ai
theorem acU {φ:b4} {A a':a8} {w:ax} (ao:b2 φ A w) {b off:Nat} {v aB:J} {e:hS} (h:A.store b off v=some a') (he:φ b=some e) (aC:aD φ v aB) (ar:w.cell? ⟨e.bn,e.sh+off,none⟩=some aB):
  cF φ A w φ a' w:=by
 obtain⟨st,_,_⟩:=TZ ao h he aC;have:w.setCell ⟨e.bn,e.sh+off,none⟩ aB=w:=by
  unfold World.setCell;have:w.heap.modify e.bn (λ
   | .cells c elem frozen=> .cells (if (none:Option Nat).isSome then c else c.setIfInBounds (e.sh+off) aB) elem frozen
   |o=>o)=w.heap:=by
   apply Array.ext_getElem?;intro i;rw[Array.getElem?_modify];split
   ·rename_i ai
    subst ai;cases ah:w.heap[e.bn]? with
    |none=>rfl
    |some o=>
     cases o<;>try rfl
     rename_i c t fr;simp only [Option.map_some,Option.isSome_none,Bool.false_eq_true,if_false,cQ,Obj.cells.injEq,and_true];simp only [World.cell?,ah,Option.isSome_none,Bool.false_eq_true,if_false] at ar;apply Array.ext_getElem?;intro j;rw[Array.getElem?_setIfInBounds];split
     ·rename_i hj;subst hj
      obtain⟨cg,_⟩:=Array.getElem?_eq_some_iff.1 ar;rw[aY cg,ar]
     ·rfl
   ·rfl
  exact congrArg (λh=>{w with heap:=h}) this
 rw[this] at st;exact st
theorem Uj {φ:b4} {b:Nat} {e:hS} (he:φ b=some e) {w:ax}:∀(vs:List J) (A a':a8) (off:Nat),b2 φ A w->A.q5 b off vs=some a'->
  (∀j,j<vs.length->∃aB,w.cell? ⟨e.bn,e.sh+(off+j),none⟩=some aB/\aD φ (vs.getD j undef) aB)->cF φ A w φ a' w
 |[],A,a',off,ao,h,_=>by
  simp only [a8.q5,cQ] at h;subst h;exact cF.refl ao
 |v::r,A,a',off,ao,h,aC=>by
  unfold a8.q5 at h;cases ad:AE.xP v with
  |false=>rw[ad] at h;cases h
  |true=>
   rw[ad,bF] at h;cases aw:A.store b off v with
   |none=>rw[aw] at h;cases h
   |some bH=>
    rw[aw] at h;simp only at h;obtain⟨aB,g1,g2⟩:=aC 0 (by simp);have st:=acU ao aw he (by simpa using g2) (by simpa using g1);exact cF.trans ao st (Uj he r bH a' (off+1) st.rel h λj hj=>by
     obtain⟨acV,q1,aH⟩:=aC (j+1) (by simpa using hj)
     exact⟨acV,by rw[show off+1+j=off+(j+1) by omega];exact q1,by simpa using aH⟩)
end AE
namespace AE
variable [a7]
omit [a7] in
theorem Uk (Ul:Nat):∀(r c:Nat),Builtin.growBy Ul r c<=(c+768)*2^r
 |0,c=>by simp [Builtin.growBy]
 |r+1,c=>by
  unfold Builtin.growBy;split
  ·have:1<=2^(r+1):=Nat.one_le_two_pow
   calc c<=c+768:=by omega
    _=(c+768)*1:=by omega
    _<=(c+768)*2^(r+1):=Nat.mul_le_mul_left _ this
  ·have h:=Uk Ul r (c+(c+768)/4)
   calc _<=(c+(c+768)/4+768)*2^r:=h
    _<=((c+768)*2)*2^r:=Nat.mul_le_mul_right _ aj
    _=(c+768)*2^(r+1):=by rw[Nat.pow_succ,Nat.mul_assoc,Nat.mul_comm 2]
omit [a7] in
theorem acW {need c:Nat} (h:c<need) (av:need<=1048576):Builtin.nextslicecap need c<=33554432:=by
 unfold Builtin.nextslicecap;split
 ·omega
 ·split
  ·omega
  ·have bG:=Uk need 4 c
   have acX:(c+768)*2^4<=33554432:=by
    rw[show (2:Nat)^4=16 from rfl];omega
   exact Nat.le_trans bG acX
omit [a7] in
theorem Um (z:Array J) (n:Nat):(Builtin.zeroCells z n).size=n*z.size:=by simp [Builtin.zeroCells]
section
variable {P:aS} {φ:b4} {A a':a8} {w:ax}
omit [a7] in
theorem Un (a:Addr) (n:Nat) {v:Array J} (h:(loadCells a n).run P w= .ok v w) (d:Nat) (ar:∀j,j<n->∃u,w.cell? (a.add j)=some u):(loadCells a n).run P {w with drawn:=d}= .ok v {w with drawn:=d}:=by
 let f:Nat->J:=λj=>(w.cell? (a.add j)).getD undef
 have aR:∀j,j<n->w.cell? (a.add j)=some (f j):=λj hj=>by
  obtain⟨u,hu⟩:=ar j hj;simp [f,hu]
 have ad:=run_loadCells (P:=P) w a n f aR;rw[h] at ad;have ag:=run_loadCells (P:=P) {w with drawn:=d} a n f aR;rw[ag];injection ad with ad;rw[ad]
def Iv (A:a8) (bc:Nat):J->Option (Nat×List J)
 | .slice (some ⟨b,off,none⟩) n _=>(A.r0 b off (n*bc)).map λl=>(n,l)
 | .slice none 0 0=>some (0,[])
 | .string s=>bif bc==1 then some (s.size,s.data.toList.map λb=> .int .u8 b.toNat) else none
 |_=>none
theorem acY (ao:b2 φ A w) {bc n:Nat} {x x':J} {l:List J} (aq:aD φ x x') (h:Iv A bc x=some (n,l)):
  l.length=n*bc/\∃kA:Array J,kA.size=l.length/\(∀j,j<l.length->aD φ (l.getD j undef) (kA.getD j undef))/\
    (∀d,(Builtin.lenOf x').run P {w with drawn:=d}= .ok n {w with drawn:=d})/\∀d,(Builtin.firstCells bc n x').run P {w with drawn:=d}= .ok kA {w with drawn:=d}:=by
 unfold Iv at h;split at h
 ·rename_i b off gd c
  obtain⟨l',gb,heq⟩:=Option.map_eq_some_iff.1 h;simp only [Prod.mk.injEq] at heq;obtain⟨rfl,rfl⟩:=heq;obtain⟨hlen,vm⟩:=AF gb;have main:∀(e:hS) (c':Nat),φ b=some e->∃kA:Array J,kA.size=l'.length/\(∀j,j<l'.length->aD φ (l'.getD j undef) (kA.getD j undef))/\
   (∀d,(Builtin.lenOf (.slice (some ⟨e.bn,e.sh+off,none⟩) gd c')).run P {w with drawn:=d}= .ok gd {w with drawn:=d})/\∀d,(Builtin.firstCells bc gd (.slice (some ⟨e.bn,e.sh+off,none⟩) gd c')).run P {w with drawn:=d}= .ok kA {w with drawn:=d}:=by
   intro e c' he;obtain⟨cN,ad,ag,ay⟩:=EH ao P gb he;refine⟨cN,ag,ay,λd=>rfl,λd=> ?_⟩;exact Un _ _ ad d λj hj=>by
    obtain⟨aB,g1,_⟩:=vi ao (vm j hj) he;exact⟨aB,by rw[Addr.kz,Nat.add_assoc];exact g1⟩
  cases aq with
  |iD _ c' he=>exact⟨hlen,main _ _ he⟩
  |iE _ _ c' he _ _ _=>exact⟨hlen,main _ _ he⟩
  |i_ a6 _=>
   have:l'=[]:=by simpa using hlen
   subst this;refine⟨by simp,#[],rfl,λj hj=>absurd hj (by simp),λd=>rfl,λd=> ?_⟩;simp [Builtin.firstCells,loadCells,loadCellsFrom,Sem.run,pure]
 ·simp only [cQ,Prod.mk.injEq] at h
  obtain⟨rfl,rfl⟩:=h;cases aq with
  |slnil=>exact⟨by simp,#[],rfl,λj hj=>absurd hj (by simp),λd=>rfl,λd=>rfl⟩
 ·rename_i s
  cases aw:(bc==1) with
  |false=>rw[aw] at h;cases h
  |true=>
   rw[aw,bF] at h;simp only [cQ,Prod.mk.injEq] at h;obtain⟨rfl,rfl⟩:=h;have xR:bc=1:=by simpa using aw
   cases aq with
   |string=>
    refine⟨by simp [xR],(s.data.toList.map λb=>Value.int .u8 b.toNat).toArray,by simp,λj hj=> ?_,λd=>rfl,λd=> ?_⟩
    ·simp only [fk,List.getElem?_toArray,dq]
     have gZ:j<s.data.toList.length:=by simpa using hj
     simp only [List.getElem?_map,gi gZ,Option.map_some,Option.getD_some];exact .int _ _
    ·simp only [Builtin.firstCells]
     show Result.ok _ _=Result.ok _ _;congr 1;have:(s.extract 0 s.size)=s:=by simp
     rw[this];apply Array.ext';simp
 ·cases h
omit [a7] in
theorem c9 {α fg:Type} {s:Sem α} {k:α->Sem fg} {a:α} {w:ax} {r:Result fg} (h:bk P s=some a) (al:(k a).run P w=r):(s >>= k).run P w=r:=by
 rw[Sem.run_bind,jD h w];exact al
omit [a7] in
theorem dm {α fg:Type} {s:Sem α} {k:α->Sem fg} {a:α} {w w1:ax} {r:Result fg} (h:s.run P w= .ok a w1) (al:(k a).run P w1=r):(s >>= k).run P w=r:=by
 rw[Sem.run_bind,h];exact al
def Iw:TypeDesc->Bool
 | .int _=>true
 |_=>false
omit [a7] in
theorem Ix {c7:Array aK} {t t2 elem ty:aK} {bc n om r3:Nat} {base:Option Addr} {x':J} {kA:Array J} (aL:c7[0]? =some t) (ad:c7[1]? =some t2)
  (hu:bk P (underlying t)=some (.slice elem)) {jM:TypeDesc} (ui:bk P (underlying t2)=some jM) (bg:Iw jM=false) (cv:bk P (sizeOf elem)=some bc)
  (hlen:(Builtin.lenOf x').run P w= .ok n w) (wN:(Builtin.firstCells bc n x').run P w= .ok kA w) (qA:om+n<=r3) {w':ax}
  (c0:(match base with|some a=>storeCells (a.add (om*bc)) kA.toList|none=>pure ()).run P w= .ok () w'):
  (Builtin.append_ c7 ty #[.slice base om r3,x']).run P w= .ok (.slice base (om+n) r3) w':=by
 unfold Builtin.append_;simp only [aL,ad,List.getElem?_toArray,List.getElem?_cons_zero,List.getElem?_cons_succ];refine c9 hu ?_;simp only;refine c9 cv ?_;refine c9 ui ?_;refine c9 (a:=false) (by cases jM<;>first|rfl|cases bg) ?_;simp only [Bool.false_eq_true,if_false];refine dm hlen ?_;rw[aY qA];simp only [Bool.not_false,if_true];refine dm wN ?_;cases base with
 |none=>
  have:w'=w:=by
   have h:Result.ok () w=Result.ok () w':=c0;injection h with _ h;exact h.symm
  subst this;rfl
 |some a=>exact dm c0 rfl
omit [a7] in
theorem Uo {c7:Array aK} {t t2 elem ty:aK} {info:TypeInfo} {z:J} {bc n om r3:Nat} {base:Option Addr} {x':J} {jN kA:Array J} (aL:c7[0]? =some t) (ad:c7[1]? =some t2)
  (hu:bk P (underlying t)=some (.slice elem)) {jM:TypeDesc} (ui:bk P (underlying t2)=some jM) (bg:Iw jM=false) (cv:bk P (sizeOf elem)=some bc)
  (ai:bk P (typeInfo elem)=some info) (acZ:bk P (zeroValue elem)=some z) (e4:info.bytes≠0) (af:info.bytes<=65536) (r4:om+n<=1048576)
  (hlen:(Builtin.lenOf x').run P w= .ok n w) (wN:∀d,(Builtin.firstCells bc n x').run P {w with drawn:=d}= .ok kA {w with drawn:=d})
  (hold:∀d,(Builtin.firstCells bc om (.slice base om r3)).run P {w with drawn:=d}= .ok jN {w with drawn:=d}) (qA:r3<om+n):
  ∃me,om+n<=me/\(Builtin.append_ c7 ty #[.slice base om r3,x']).run P w=
   .ok (.slice (some ⟨w.heap.size,0,none⟩) (om+n) me) {w with drawn:=w.drawn+1,heap:=w.heap.push (.cells (jN++kA++Builtin.zeroCells z.cells (me-(om+n))) elem)}:=by
 refine⟨(Question.appendCap (om+n) r3 elem).cut (w.tape w.drawn (.appendCap (om+n) r3 elem)),by simp [Question.cut],?_⟩;unfold Builtin.append_;simp only [aL,ad,List.getElem?_toArray,List.getElem?_cons_zero,List.getElem?_cons_succ];refine c9 hu ?_;simp only;refine c9 cv ?_;refine c9 ui ?_;refine c9 (a:=false) (by cases jM<;>first|rfl|cases bg) ?_;simp only [Bool.false_eq_true,if_false];refine dm hlen ?_;rw[a_ aj];refine c9 ai ?_;rw[a_ (by simp [e4])];refine c9 ai ?_;have kB:=acW qA r4;have hle:¬(Builtin.nextslicecap (om+n) r3*info.bytes>2^48):=by
  have h:=Nat.mul_le_mul kB af;have ag:33554432*65536<=2^48:=by decide
  omega
 rw[a_ hle];refine dm (w1:={w with drawn:=w.drawn+1}) (a:=(Question.appendCap (om+n) r3 elem).cut (w.tape w.drawn (.appendCap (om+n) r3 elem))) (by simp [choose,Sem.run,Question.forced]) ?_;refine c9 ai ?_;refine dm (w1:={w with drawn:=w.drawn+1}) (a:=()) (by unfold askRoom;split<;>rfl) ?_;refine dm (hold _) ?_;simp only [Bool.not_false,if_true];refine dm (wN _) ?_;refine c9 acZ ?_;refine dm (a:=(⟨w.heap.size,0,none⟩:Addr)) (by simp only [newRow,newObj];rfl) ?_;rfl
end
end AE
namespace AE
variable [a7]
section
variable {P:aS} {φ:b4} {A a':a8} {w:ax}
def Mm (P:aS) (A:a8) (c7:Array aK) (s x:J):Option (J×a8):=
 match c7[0]?,c7[1]? with
 |some t,some t2=>match bk P (underlying t),bk P (underlying t2) with
  |some (.slice elem),some jM=>
   match bk P (sizeOf elem),bk P (typeInfo elem),bk P (zeroValue elem) with
   |some bc,some info,some z=>
    bif Iw jM||Nat.beq bc 0||Nat.beq info.bytes 0|| !Nat.ble info.bytes 65536|| !Nat.beq z.cells.size bc then none else
     match Iv A bc x with
     |some (n,df)=>
      bif !Nat.ble n 524288 then none else
      match s with
      | .slice none 0 0=>bif Nat.beq n 0 then some (.slice none 0 0,A) else
          match A.push (.cells df) bc elem with
          |some (r,bH)=>some (.slice (some ⟨r,0,none⟩) n n,bH)
          |none=>none
      | .slice (some ⟨b,off,none⟩) sl q6=>
        bif !Nat.ble sl 524288||(Nat.beq b dead&& !Nat.beq off 0) then none else
         bif Nat.ble (sl+n) q6 then
          match A.q5 b (off+sl*bc) df with
          |some bH=>some (.slice (some ⟨b,off,none⟩) (sl+n) q6,bH)
          |none=>none
         else match A.bl.get b with
          |none=>bif Nat.beq sl 0&&Nat.beq q6 0 then
            match A.push (.cells df) bc elem with
            |some (r,bH)=>some (.slice (some ⟨r,0,none⟩) n n,bH)
            |none=>none
           else none
          |some k=>match A.r0 b off (sl*bc) with
           |some old=>
            bif Nat.beq k.eN 0 then
             match A.push (.cells (old++df)) bc elem with
             |some (r,bH)=>some (.slice (some ⟨r,0,none⟩) (sl+n) (sl+n),bH)
             |none=>none
            else bif Nat.beq k.eN bc then
             match A.Iu b (k.pos+off) bc elem (old++List.replicate (n*bc) cB) with
             |some (r,bH)=>match bH.q5 r (sl*bc) df with
              |some f_=>some (.slice (some ⟨r,0,none⟩) (sl+n) (sl+n),f_)
              |none=>none
             |none=>none
            else none
           |none=>none
      |_=>none
     |none=>none
   |_,_,_=>none
  |_,_=>none
 |_,_=>none
theorem Mn (ao:b2 φ A w) (d:Nat):b2 φ A {w with drawn:=d}:=⟨ao.wf,ao.eE,ao.apart,ao.along,ao.dn⟩
theorem Up {old df:List J} {jN kA rest:Array J} (ad:jN.size=old.length) (ag:∀j,j<old.length->aD φ (old.getD j undef) (jN.getD j undef)) (ay:kA.size=df.length)
  (bG:∀j,j<df.length->aD φ (df.getD j undef) (kA.getD j undef)):∀j,j<(old++df).length->aD φ ((old++df).getD j undef) ((jN++kA++rest).getD j undef):=by
 intro j hj;simp only [List.length_append] at hj;simp only [dq,fk,List.getElem?_append,Array.getElem?_append,Array.size_append] at ag bG ⊢;by_cases AH:j<old.length
 ·rw[aY AH,aY aj,aY aj]
  exact ag j AH
 ·rw[a_ AH,aY aj,a_ aj,ad]
  exact bG (j-old.length) aj
theorem ac0 (ao:b2 φ A w) {elem:aK} {bc sl n:Nat} {old df:List J} {jN kA rest:Array J} {r me:Nat} (cv:1<=bc) (hp:A.push (.cells (old++df)) bc elem=some (r,a'))
  (ad:jN.size=old.length) (ag:∀j,j<old.length->aD φ (old.getD j undef) (jN.getD j undef)) (ay:kA.size=df.length) (bG:∀j,j<df.length->aD φ (df.getD j undef) (kA.getD j undef))
  (vn:old.length=sl*bc) (jm:df.length=n*bc) (kB:sl+n<=me) (wM:rest.size=(me-(sl+n))*bc):
  ∃db w',w'={w with drawn:=w.drawn+1,heap:=w.heap.push (.cells (jN++kA++rest) elem)}/\
   aD db (.slice (some ⟨r,0,none⟩) (sl+n) (sl+n)) (.slice (some ⟨w.heap.size,0,none⟩) (sl+n) me)/\cF φ A w db a' w':=by
 have lg:=Mn ao (w.drawn+1);obtain⟨db,w',g1,g2,g3,g4⟩:=CK lg (default:aS) (c':=jN++kA++rest) elem hp (by simp;omega) (λh=>absurd (show bc=0 from h) aj) (Up ad ag ay bG);refine⟨db,w',g4,?_,cF.trans ao (cF.zd ao (w.drawn+1)) g3⟩;have ac1:(jN++kA++rest).size=me*bc:=by
  simp only [Array.size_append,ad,ay,vn,jm,wM];rw[<-Nat.add_mul,<-Nat.add_mul];congr 1;omega
 have:=aD.iE (φ:=db) (b:=r) (o:=0) (sl+n) (sl+n) me g2 cv kB (by
  simp only [Nat.zero_add]
  rw[ac1];exact ch _)
 simpa using this
theorem ac2 (ao:b2 φ A w) {c7:Array aK} {ty:aK} {s fV x x' v:J} (aw:aD φ s fV) (aq:aD φ x x') (h:Mm P A c7 s x=some (v,a')):b7 (hT v) P φ A w (Builtin.append_ c7 ty #[fV,x']) a':=by
 unfold Mm at h;split at h
 ·rename_i t t2 aN CN
  split at h
  ·rename_i elem jM hu ui
   split at h
   ·rename_i bc info z cv ai bW
    cases ar:(Iw jM||Nat.beq bc 0||Nat.beq info.bytes 0|| !Nat.ble info.bytes 65536|| !Nat.beq z.cells.size bc) with
    |true=>rw[ar] at h;cases h
    |false=>
     rw[ar,eD] at h;simp only [Bool.or_eq_false_iff,Bool.not_eq_false'] at ar;obtain⟨⟨⟨⟨bg,hA⟩,c2⟩,c3⟩,nV⟩:=ar;have Mo:1<=bc:=by
      rcases Nat.eq_zero_or_pos bc with aL|aL
      ·subst aL;simp at hA
      ·exact aL
     have e4:info.bytes≠0:=by
      intro aL;rw[aL] at c2;simp at c2
     have af:info.bytes<=65536:=Nat.ble_eq.mp c3;have qz:z.cells.size=bc:=cI nV;cases AI:Iv A bc x with
     |none=>rw[AI] at h;cases h
     |some q=>
      obtain⟨n,df⟩:=q;rw[AI] at h;simp only at h;obtain⟨jm,kA,hJ,kK,CO,wN⟩:=acY (P:=P) ao aq AI;cases AJ:Nat.ble n 524288 with
      |false=>rw[AJ] at h;cases h
      |true=>
       rw[AJ,Bool.not_true,eD] at h;have av:=Nat.ble_eq.mp AJ;have fresh:∀(sl:Nat) (old:List J) (jN:Array J) (base:Option Addr) (mV r:Nat),sl<=524288->old.length=sl*bc->jN.size=old.length->(∀j,j<old.length->aD φ (old.getD j undef) (jN.getD j undef))->
         (∀d,(Builtin.firstCells bc sl (.slice base sl mV)).run P {w with drawn:=d}= .ok jN {w with drawn:=d})->mV<sl+n->A.push (.cells (old++df)) bc elem=some (r,a')->
         b7 (hT (.slice (some ⟨r,0,none⟩) (sl+n) (sl+n))) P φ A w (Builtin.append_ c7 ty #[.slice base sl mV,x']) a':=by
        intro sl old jN base mV r gK vn Iy AK hold qA hp;obtain⟨me,kB,fy⟩:=Uo (ty:=ty) aN CN hu ui bg cv ai bW e4 af aj (CO w.drawn) wN hold qA;obtain⟨db,w',e1,e2,e3⟩:=ac0 ao Mo hp Iy AK hJ kK vn jm kB (rest:=Builtin.zeroCells z.cells (me-(sl+n))) (by rw[Um,qz]);subst e1;exact⟨db,_,_,fy,e2,e3⟩
       split at h
       ·
        cases aw;cases fc:Nat.beq n 0 with
        |true=>
         rw[fc,bF] at h;simp only [cQ,Prod.mk.injEq] at h;obtain⟨rfl,rfl⟩:=h;have Uq:n=0:=cI fc;subst Uq;exact⟨φ,w,_,Ix aN CN hu ui bg cv (CO w.drawn) (wN w.drawn) (ch _) rfl,.slnil _ _,cF.refl ao⟩
        |false=>
         rw[fc,eD] at h;split at h
         ·rename_i r bH hp
          simp only [cQ,Prod.mk.injEq] at h;obtain⟨rfl,rfl⟩:=h;have Uq:n≠0:=λe=>by subst e;simp at fc
          have:=fresh 0 [] #[] none 0 r aj (by simp) rfl (λj hj=>absurd hj (by simp)) (λd=>rfl) aj (by simpa using hp);simpa using this
         ·cases h
       ·rename_i b off sl q6
        cases Mp:Nat.ble sl 524288 with
        |false=>rw[Mp] at h;cases h
        |true=>
         rw[Mp,Bool.not_true,Bool.false_or] at h;cases Iz:(Nat.beq b dead&& !Nat.beq off 0) with
         |true=>rw[Iz] at h;cases h
         |false=>
         rw[Iz,eD] at h;have IA:b=dead->off=0:=λe=>by
          subst e;rw[Nat.beq_refl,Bool.true_and,Bool.not_eq_false'] at Iz;exact cI Iz
         have gK:=Nat.ble_eq.mp Mp;cases qA:Nat.ble (sl+n) q6 with
         |true=>
          rw[qA,bF] at h;have ET:=Nat.ble_eq.mp qA;split at h
          ·rename_i bH c0
           simp only [cQ,Prod.mk.injEq] at h;obtain⟨rfl,rfl⟩:=h;have room:∀(e:hS) (mV:Nat),φ b=some e->sl+n<=mV->∃w',cF φ A w φ bH w'/\(Builtin.append_ c7 ty #[.slice (some ⟨e.bn,e.sh+off,none⟩) sl mV,x']).run P w= .ok (.slice (some ⟨e.bn,e.sh+off,none⟩) (sl+n) mV) w':=by
            intro e mV he hle;obtain⟨w',g1,g2⟩:=CI P he df A bH w (off+sl*bc) 0 kA.toList ao c0 (by simpa using hJ) (λj hj=>by
             have:=kK j hj;simp only [fk] at this
             simpa [dq] using this)
            refine⟨w',g2,Ix aN CN hu ui bg cv (CO w.drawn) (wN w.drawn) hle ?_⟩;simp only [Addr.kz];rw[Nat.add_assoc];exact g1
           cases aw with
           |iD _ _ he=>
            obtain⟨w',g1,g2⟩:=room _ _ he ET;exact⟨φ,w',_,g2,.iD _ _ he,g1⟩
           |iE _ _ c' he q1 aH b0=>
            obtain⟨w',g1,g2⟩:=room _ c' he aj;exact⟨φ,w',_,g2,.iE _ _ _ he q1 aH b0,g1⟩
           |i_ a6 r2=>
            have hn:=r2 (IA rfl);subst hn;have fc:n=0:=by omega
            subst fc;have ac3:df=[]:=by simpa using jm
            subst ac3;simp only [a8.q5,cQ] at c0;subst c0;have Mq:kA= #[]:=Array.eq_empty_of_size_eq_zero hJ;subst Mq;exact⟨φ,w,_,Ix aN CN hu ui bg cv (CO w.drawn) (wN w.drawn) (ch _) rfl,.i_ _ r2,cF.refl ao⟩
          ·cases h
         |false=>
          rw[qA,eD] at h;have ET:q6<sl+n:=by
           rcases Nat.lt_or_ge q6 (sl+n) with ad|ad
           ·exact ad
           ·rw[Nat.ble_eq.mpr ad] at qA;cases qA
          cases al:A.bl.get b with
          |none=>
           rw[al] at h;simp only at h;cases uj:(Nat.beq sl 0&&Nat.beq q6 0) with
           |false=>rw[uj] at h;cases h
           |true=>
            rw[uj,bF] at h;simp only [c8] at uj;have e1:sl=0:=cI uj.1;have e2:q6=0:=cI uj.2;subst e1;subst e2;split at h
            ·rename_i r bH hp
             simp only [cQ,Prod.mk.injEq] at h;obtain⟨rfl,rfl⟩:=h;have EU:∀e,φ b≠some e:=λe he=>by
              obtain⟨k,dD,_⟩:=ao.eE b e he;rw[al] at dD;cases dD
             cases aw with
             |iD _ _ he=>exact absurd he (EU _)
             |iE _ _ c' he q1 aH b0=>exact absurd he (EU _)
             |i_ a6 r2=>
              have hn:=r2 (IA rfl);subst hn;have:=fresh 0 [] #[] (some a6) 0 r aj (by simp) rfl (λj hj=>absurd hj (by simp)) (λd=>by simp [Builtin.firstCells,loadCells,loadCellsFrom,Sem.run,pure]) aj (by simpa using hp);simpa using this
            ·cases h
          |some k=>
           rw[al] at h;simp only at h;cases hold:A.r0 b off (sl*bc) with
           |none=>rw[hold] at h;cases h
           |some old=>
            rw[hold] at h;simp only at h;obtain⟨vn,vm⟩:=AF hold;have Mr:∀(e:hS) (mV:Nat),φ b=some e->∃jN:Array J,jN.size=old.length/\(∀j,j<old.length->aD φ (old.getD j undef) (jN.getD j undef))/\
              ∀d,(Builtin.firstCells bc sl (.slice (some ⟨e.bn,e.sh+off,none⟩) sl mV)).run P {w with drawn:=d}= .ok jN {w with drawn:=d}:=by
             intro e mV he;obtain⟨cN,ad,ag,ay⟩:=EH ao P hold he;exact⟨cN,ag,ay,λd=>Un _ _ ad d λj hj=>by
              obtain⟨aB,g1,_⟩:=vi ao (vm j hj) he
              exact⟨aB,by rw[Addr.kz,Nat.add_assoc];exact g1⟩⟩
            have Ur:∀(a6:Addr),sl=0->∀d,(Builtin.firstCells bc sl (.slice (some a6) sl 0)).run P {w with drawn:=d}= .ok #[] {w with drawn:=d}:=by
             intro a6 e d;subst e;simp [Builtin.firstCells,loadCells,loadCellsFrom,Sem.run,pure]
            cases xS:Nat.beq k.eN 0 with
            |true=>
             rw[xS,bF] at h;have h1:k.eN=0:=cI xS;split at h
             ·rename_i r bH hp
              simp only [cQ,Prod.mk.injEq] at h;obtain⟨rfl,rfl⟩:=h;cases aw with
              |iD _ _ he=>
               obtain⟨jN,jn,kl,q7⟩:=Mr _ q6 he;exact fresh sl old jN _ q6 r gK vn jn kl q7 ET hp
              |iE _ _ c' he q1 aH b0=>
               obtain⟨k',dD,c0,_⟩:=ao.eE b _ he;rw[al] at dD;cases dD;omega
              |i_ a6 r2=>
               have hn:=r2 (IA rfl);subst hn;have Ms:old=[]:=by simpa using vn
               subst Ms;exact fresh 0 [] #[] (some a6) 0 r aj (by simp) rfl (λj hj=>absurd hj (by simp)) (Ur a6 rfl) aj hp
             ·cases h
            |false=>
             rw[xS,eD] at h;cases EV:Nat.beq k.eN bc with
             |false=>rw[EV] at h;cases h
             |true=>
              rw[EV,bF] at h;have EW:k.eN=bc:=cI EV;split at h
              ·rename_i r bH hp
               split at h
               ·rename_i f_ Us
                simp only [cQ,Prod.mk.injEq] at h;obtain⟨rfl,rfl⟩:=h;obtain⟨_,_,_,oo,_,dL,_,_,rfl,_,_,_,_,_⟩:=Ml hp ao.wf;have cg:∀b e,φ b=some e->∀em,hk φ A.n em b=some e:=λb e af em=>by
                 unfold hk;rw[a_ (by have:=ao.lt af;omega)];exact af
                have Mt:∀(base:Option Addr) (mV:Nat) (jN:Array J),jN.size=old.length->(∀j,j<old.length->aD φ (old.getD j undef) (jN.getD j undef))->
                  (∀d,(Builtin.firstCells bc sl (.slice base sl mV)).run P {w with drawn:=d}= .ok jN {w with drawn:=d})->mV<sl+n->
                  b7 (hT (.slice (some ⟨A.n,0,none⟩) (sl+n) (sl+n))) P φ A w (Builtin.append_ c7 ty #[.slice base sl mV,x']) f_:=by
                 intro base mV jN jn kl q7 aR;obtain⟨me,kB,fy⟩:=Uo (ty:=ty) aN CN hu ui bg cv ai bW e4 af aj (CO w.drawn) wN q7 aR;have oq:(jN++kA++Builtin.zeroCells z.cells (me-(sl+n))).size=me*bc:=by
                  simp only [Array.size_append,jn,hJ,vn,jm,Um,qz];rw[<-Nat.add_mul,<-Nat.add_mul];congr 1;omega
                 have lg:=Mn ao (w.drawn+1);have km:=Up (rest:=Builtin.zeroCells z.cells (me-(sl+n))) jn kl hJ kK;have hle:(sl+n)*bc<=me*bc:=Nat.mul_le_mul_right _ kB;have ac4:sl*bc+n*bc=(sl+n)*bc:=(Nat.add_mul _ _ _).symm;have ot:=Ui (e:=⟨w.heap.size,0,bc,me*bc⟩) lg hp rfl (.inl ⟨rfl,.cells (jN++kA++Builtin.zeroCells z.cells (me-(sl+n))) elem,rfl⟩) (λk' dD=>by
                  simp only [fS];refine⟨_,(0,0),by simp,oq.symm,⟨by simp only [List.length_append,mz,Nat.zero_add,vn,oq];omega,λh=>absurd (show bc=0 from h) aj⟩,λj hj=> ?_,λ_ i _=>by simp⟩;simp only [List.length_append,mz] at hj;simp only [Nat.zero_add];by_cases AH:j<old.length
                  ·have:=(km j (by simp;omega)).mono λkk e1 mc=>cg kk e1 mc ⟨w.heap.size,0,bc,me*bc⟩
                   rw[dq,List.getElem?_append_left AH] at this ⊢;exact this
                  ·rw[dq,List.getElem?_append_right aj,List.getElem?_replicate,aY aj]
                   exact .cB _)
                 have wL:=Uj (e:=⟨w.heap.size,0,bc,me*bc⟩) (by simp [hk]) df bH f_ (sl*bc) ot.rel Us (λj hj=>by
                  have:=(km (sl*bc+j) (by simp;omega)).mono λkk e1 mc=>cg kk e1 mc ⟨w.heap.size,0,bc,me*bc⟩
                  rw[dq,List.getElem?_append_right aj,vn,Nat.add_sub_cancel_left,<-dq] at this;refine⟨_,?_,this⟩;simp only [World.cell?,Nat.zero_add];have lF:sl*bc+j<(jN++kA++Builtin.zeroCells z.cells (me-(sl+n))).size:=by rw[oq];omega
                  simp only [Array.getElem?_push_size,Option.isSome_none,Bool.false_eq_true,if_false,fk];rw[Array.getElem?_eq_getElem lF]
                  rfl)
                 refine⟨_,_,_,fy,?_,cF.trans ao (cF.zd ao (w.drawn+1)) (cF.trans lg ot wL)⟩;have:=aD.iE (φ:=hk φ A.n ⟨w.heap.size,0,bc,me*bc⟩) (b:=A.n) (o:=0) (e:=⟨w.heap.size,0,bc,me*bc⟩) (sl+n) (sl+n) me (by simp [hk]) Mo kB (by simp);simpa using this
                cases aw with
                |iD _ _ he=>
                 obtain⟨jN,jn,kl,q7⟩:=Mr _ q6 he;exact Mt _ _ jN jn kl q7 ET
                |i_ a6 r2=>
                 have hn:=r2 (IA rfl);subst hn;have Ms:old=[]:=by simpa using vn
                 subst Ms;exact Mt (some a6) 0 #[] rfl (λj hj=>absurd hj (by simp)) (Ur a6 rfl) ET
                |iE _ _ c' he q1 aH b0=>
                 rename_i e;obtain⟨jN,jn,kl,q7⟩:=Mr _ c' he;rcases Nat.lt_or_ge c' (sl+n) with r1|kJ
                 ·exact Mt _ _ jN jn kl q7 r1
                 ·
                  obtain⟨k',dD,Mu,ac5⟩:=ao.eE b e he;rw[al] at dD;cases dD;have uk:e.eN=bc:=Mu.trans EW;have ac4:sl*bc+n*bc=(sl+n)*bc:=(Nat.add_mul _ _ _).symm;have hle:(sl+n)*bc<=c'*bc:=Nat.mul_le_mul_right _ kJ;rw[uk] at b0;have ot:=Ui (e:=⟨e.bn,e.sh+off,bc,e.Ax⟩) ao hp rfl (.inr ⟨rfl,e,k,he,al,rfl,by simp only;omega⟩) (λk' dD=>by
                   rw[al] at dD;cases dD;obtain⟨dv,c2,mf,g1,g2,g3,g4,_⟩:=Ml hp ao.wf;rw[al] at g1;cases g1;have Mv:=ac5;unfold fS at Mv;simp only [g2] at Mv;obtain⟨c3,ac6,cS,dy,gj,vf,CE⟩:=Mv;simp only [fS];refine⟨c3,ac6,by rw[<-g4];exact cS,dy,⟨by simp only [List.length_append,mz,vn];omega,λh=>absurd (show bc=0 from h) aj⟩,λj hj=> ?_,λ_=>CE g3⟩;simp only [List.length_append,mz] at hj;by_cases AH:j<old.length
                   ·rw[dq,List.getElem?_append_left AH,<-dq]
                    obtain⟨aB,eF,hz⟩:=vi ao (vm j aj) he;simp only [World.cell?,cS,Option.isSome_none,Bool.false_eq_true,if_false] at eF;rw[fk,Nat.add_assoc,eF];exact hz.mono λkk e1 mc=>cg kk e1 mc _
                   ·rw[dq,List.getElem?_append_right aj,List.getElem?_replicate,aY aj]
                    exact .cB _)
                  obtain⟨w',g1,g2⟩:=CI P (e:=⟨e.bn,e.sh+off,bc,e.Ax⟩) (by simp [hk]) df bH f_ w (sl*bc) 0 kA.toList ot.rel Us (by simpa using hJ) (λj hj=>by
                   have:=(kK j hj).mono λkk e1 mc=>cg kk e1 mc ⟨e.bn,e.sh+off,bc,e.Ax⟩
                   simp only [fk] at this
                   simpa [dq] using this)
                  refine⟨_,w',_,Ix aN CN hu ui bg cv (CO w.drawn) (wN w.drawn) kJ (w':=w') ?_,?_,cF.trans ao ot g2⟩
                  ·simp only [Addr.kz]
                   exact g1
                  ·have:=aD.iE (φ:=hk φ A.n ⟨e.bn,e.sh+off,bc,e.Ax⟩) (b:=A.n) (o:=0) (e:=⟨e.bn,e.sh+off,bc,e.Ax⟩) (sl+n) (sl+n) c' (by simp [hk]) Mo kJ (by simp only [Nat.add_zero];exact b0)
                   simpa using this
               ·cases h
              ·cases h
       ·cases h
   ·cases h
  ·cases h
 ·cases h
end
end AE
namespace AE
variable [a7]
section
variable {P:aS} {φ:b4} {A a':a8} {w:ax}
omit [a7] in
theorem ac7 {α:Type} (k:IntKind) (x y:Int) (c:BoundsCode):bk P (boundsPanic k x y c:Sem α)=none:=by
 unfold boundsPanic;dsimp only;split
 ·rw[sV]
  have:bk P (Functor.map (λx=>x==1) (choose (.extern "runtime.boundsError.signed" 2)))=none:=rfl;rw[this];rfl
 ·rw[sV];rfl
omit [a7] in
theorem IB {v:J} {y:Nat} {c:BoundsCode} {r:Nat} (h:bk P (Instr.sliceBound v y c)=some r):∃k i,v= .int k i/\0<=i/\i<=y/\r=i.toNat:=by
 unfold Instr.sliceBound at h;rw[sV] at h;cases v with
 |int k i=>
  simp only [asIntOf,EN,Option.bind_some] at h;split at h
  ·rename_i af
   simp only [EN,cQ] at h;exact⟨k,i,rfl,af.1,af.2,h.symm⟩
  ·rw[ac7] at h;cases h
 |pointer a=>cases a<;>cases h
 |_=>cases h
omit [a7] in
theorem Ut (k:IntKind) (i:Int) (y:Nat) (c:BoundsCode) (aL:0<=i) (ad:i<=y):bk P (Instr.sliceBound (.int k i) y c)=some i.toNat:=by
 unfold Instr.sliceBound;rw[sV];simp only [asIntOf,EN,Option.bind_some];rw[aY ⟨aL,ad⟩];rfl
omit [a7] in
theorem zi {b:Bool} {len c c' l h m:Nat} {e7 ai e5:Option J} (ar:c<=c') (af:bk P (Instr.sliceBounds b len c e7 ai e5)=some (l,h,m)):
  bk P (Instr.sliceBounds b len c' e7 ai e5)=some (l,h,if e5.isSome then m else c')/\(e5=none->m=c)/\m<=c/\l<=h/\(e5.isSome=true->h<=m):=by
 have low:∀(y q8 wO:Nat) (IC:BoundsCode) {l h m:Nat},bk P (do
   let l <-match e7 with
    |some v=>Instr.sliceBound v y IC
    |none=>pure 0
   pure (l,y,q8))=some (l,h,m)->bk P (do
   let l <-match e7 with
    |some v=>Instr.sliceBound v y IC
    |none=>pure 0
   pure (l,y,wO))=some (l,h,wO)/\h=y/\m=q8/\l<=y:=by
  intro y q8 wO IC l h m hl;cases e7 with
  |none=>
   simp only [sV,EN,Option.bind_some,cQ,Prod.mk.injEq] at hl ⊢;obtain⟨rfl,rfl,rfl⟩:=hl;simp
  |some v=>
   simp only [sV] at hl ⊢;cases aw:bk P (Instr.sliceBound v y IC) with
   |none=>rw[aw] at hl;cases hl
   |some r=>
    rw[aw] at hl;simp only [Option.bind_some,EN,cQ,Prod.mk.injEq] at hl ⊢;obtain⟨k,i,_,aL,ad,ag⟩:=IB aw;obtain⟨rfl,rfl,rfl⟩:=hl;refine⟨by simp,rfl,rfl,aj⟩
 cases e5 with
 |none=>
  cases ai with
  |none=>
   have e:∀dE,Instr.sliceBounds b len dE e7 none none=(do
     let l <-match e7 with
      |some v=>Instr.sliceBound v len (if (none:Option J).isSome then .slice3C else .sliceB)
      |none=>pure 0
     pure (l,len,dE)):=λdE=>by unfold Instr.sliceBounds;cases e7<;>rfl
   rw[e] at af ⊢;obtain⟨g1,g2,g3,g4⟩:=low len c c' _ af;subst g2;subst g3;exact⟨by simpa using g1,λ_=>rfl,ch _,g4,λh=>by cases h⟩
  |some AL=>
   have e:∀dE,Instr.sliceBounds b len dE e7 (some AL) none=(do
     let h <-Instr.sliceBound AL dE (if b then .sliceAcap else .sliceAlen)
     let l <-match e7 with
      |some v=>Instr.sliceBound v h (if (none:Option J).isSome then .slice3C else .sliceB)
      |none=>pure 0
     pure (l,h,dE)):=λdE=>by unfold Instr.sliceBounds;cases e7<;>rfl
   rw[e] at af ⊢;rw[sV] at af ⊢;cases aw:bk P (Instr.sliceBound AL c (if b=true then .sliceAcap else .sliceAlen)) with
   |none=>rw[aw] at af;cases af
   |some r=>
    rw[aw,Option.bind_some] at af;obtain⟨k,i,rfl,aL,ad,rfl⟩:=IB aw;rw[Ut k i c' _ aL aj,Option.bind_some];obtain⟨g1,g2,g3,g4⟩:=low i.toNat c c' _ af;subst g2;subst g3;exact⟨by simpa using g1,λ_=>rfl,ch _,g4,λh=>by cases h⟩
 |some wP=>
  cases ai with
  |none=>
   exfalso;have e:Instr.sliceBounds b len c e7 none (some wP)=(do
     let m <-Instr.sliceBound wP c (if b then .slice3Acap else .slice3Alen)
     let h <-(stuck "Slice: max without high":Sem Nat)
     let l <-match e7 with
      |some v=>Instr.sliceBound v h (if (some wP).isSome then .slice3C else .sliceB)
      |none=>pure 0
     pure (l,h,m)):=by unfold Instr.sliceBounds;cases e7<;>rfl
   rw[e,sV] at af;cases aw:bk P (Instr.sliceBound wP c (if b=true then .slice3Acap else .slice3Alen)) with
   |none=>rw[aw] at af;cases af
   |some r=>rw[aw] at af;cases af
  |some AL=>
   have e:∀dE,Instr.sliceBounds b len dE e7 (some AL) (some wP)=(do
     let m <-Instr.sliceBound wP dE (if b then .slice3Acap else .slice3Alen)
     let h <-Instr.sliceBound AL m .slice3B
     let l <-match e7 with
      |some v=>Instr.sliceBound v h (if (some wP).isSome then .slice3C else .sliceB)
      |none=>pure 0
     pure (l,h,m)):=λdE=>by unfold Instr.sliceBounds;cases e7<;>rfl
   rw[e,sV] at af ⊢;cases aw:bk P (Instr.sliceBound wP c (if b=true then .slice3Acap else .slice3Alen)) with
   |none=>rw[aw] at af;cases af
   |some r=>
    rw[aw,Option.bind_some] at af;obtain⟨k,i,rfl,aL,ad,rfl⟩:=IB aw;rw[Ut k i c' _ aL aj,Option.bind_some];rw[sV] at af ⊢;cases xR:bk P (Instr.sliceBound AL i.toNat .slice3B) with
    |none=>rw[xR] at af;cases af
    |some cS=>
     rw[xR,Option.bind_some] at af;rw[Option.bind_some];obtain⟨aow,i4,_,kC,q1,aH⟩:=IB xR;obtain⟨g1,g2,g3,g4⟩:=low cS i.toNat i.toNat _ af;subst g2;subst g3;refine⟨by simpa using g1,λh=>by simp at h,aj,g4,λ_=>by omega⟩
def Mw (P:aS) (A:a8) (t:aK) (x:J) (e7 ai e5:Option J):Option J:=
 match bk P (underlying t),x with
 |some (.array n elem),.pointer (some ⟨b,off,none⟩)=>
  match bk P (Instr.sliceBounds false n n e7 ai e5),bk P (sizeOf elem) with
  |some (l,h,m),some bc=>some (.slice (some ⟨b,if m=l then off else off+l*bc,none⟩) (h-l) (m-l))
  |_,_=>none
 |some (.slice elem),.slice (some ⟨b,off,none⟩) len cap=>
  match bk P (Instr.sliceBounds true len cap e7 ai e5),bk P (sizeOf elem),A.bl.get b with
  |some (l,h,m),some bc,some k=>
   bif Nat.beq k.eN 0||Nat.beq k.eN bc then
    match e5 with
    |some _=>bif Nat.beq m l then some (.slice (some ⟨dead,0,none⟩) 0 0) else some (.slice (some ⟨b,off+l*bc,none⟩) (h-l) (m-l))
    |none=>bif Nat.ble h m then (bif Nat.beq m l then some (.slice (some ⟨dead,1,none⟩) 0 0) else some (.slice (some ⟨b,off+l*bc,none⟩) (h-l) (m-l))) else none
   else none
  |some (_,h,m),some _,none=>bif Nat.beq cap 0&&Nat.beq len 0&&Nat.ble h m then some (.slice (some ⟨b,off,none⟩) 0 0) else none
  |_,_,_=>none
 |_,_=>none
theorem ac8 (ao:b2 φ A w) {t:aK} {x x' v:J} {e7 ai e5:Option J} (aq:aD φ x x') (h:Mw P A t x e7 ai e5=some v):b7 (hT v) P φ A w (Instr.sliceAt t x' e7 ai e5) A:=by
 unfold Mw at h;split at h
 ·rename_i n elem b off hu
  split at h
  ·rename_i l ah m bc af cv
   simp only [cQ] at h;subst h;cases aq with
   |ptr he=>
    rename_i e;unfold Instr.sliceAt;refine b7.pre hu ?_;simp only;refine b7.pre (a:=(⟨e.bn,e.sh+off,none⟩:Addr)) rfl ?_;refine b7.pre af ?_;simp only;refine b7.pre cv ?_;have:=aD.iD (φ:=φ) (b:=b) (o:=if m=l then off else off+l*bc) (ah-l) (m-l) he;refine b7.ret ao ?_;show aD φ _ _;by_cases hm:m=l
    ·simp only [hm,if_true] at this ⊢
     exact this
    ·simp only [hm,if_false,Addr.kz] at this ⊢
     rw[<-Nat.add_assoc] at this;exact this
  ·cases h
 ·rename_i elem b off len cap hu
  have run:∀(a:Addr) (wQ l ah m bc:Nat),bk P (Instr.sliceBounds true len wQ e7 ai e5)=some (l,ah,m)->bk P (sizeOf elem)=some bc->
    (Instr.sliceAt t (.slice (some a) len wQ) e7 ai e5).run P w= .ok (.slice (if m=l then some a else some (a.add (l*bc))) (ah-l) (m-l)) w:=by
   intro a wQ l ah m bc af cv;unfold Instr.sliceAt;refine c9 hu ?_;simp only;unfold Instr.slice;refine c9 hu ?_;simp only;refine c9 af ?_;simp only;refine c9 cv ?_;rfl
  split at h
  ·rename_i l ah m bc k af cv al
   cases c0:(Nat.beq k.eN 0||Nat.beq k.eN bc) with
   |false=>rw[c0] at h;cases h
   |true=>
    rw[c0,bF] at h;have ac9:k.eN=0\/k.eN=bc:=by
     simp only [Bool.or_eq_true] at c0;exact c0.imp cI cI
    split at h
    ·rename_i wP
     have both:∀(e:hS) (wQ:Nat),φ b=some e->cap<=wQ->b7 (hT v) P φ A w (Instr.sliceAt t (.slice (some ⟨e.bn,e.sh+off,none⟩) len wQ) e7 ai (some wP)) A:=by
      intro e wQ he hle;obtain⟨g1,g2,g3,g4,lb⟩:=zi hle af;simp only [Option.isSome_some,if_true] at g1 lb;have lg:=run ⟨e.bn,e.sh+off,none⟩ wQ l ah m bc g1 cv;refine⟨φ,w,_,lg,?_,cF.refl ao⟩;cases r5:Nat.beq m l with
      |true=>
       rw[r5,bF,cQ] at h;subst h;have xT:m=l:=cI r5;have ad:ah-l=0:=by have:=lb trivial;omega
       have ag:m-l=0:=by omega
       rw[aY xT,ad,ag];exact .i_ _ (λ_=>rfl)
      |false=>
       rw[r5,eD,cQ] at h;subst h;have xT:m≠l:=λe=>by subst e;simp at r5
       rw[a_ xT,Addr.kz];have:=aD.iD (φ:=φ) (b:=b) (o:=off+l*bc) (ah-l) (m-l) he;rw[<-Nat.add_assoc] at this;exact this
     cases aq with
     |iD _ _ he=>exact both _ _ he (ch _)
     |iE _ _ c' he q1 aH b0=>exact both _ _ he aH
     |i_ a6 bW=>
      rename_i c';obtain⟨f1,_⟩:=zi (Nat.zero_le c') af;have lg:=run a6 c' l ah m bc (by simpa using f1) cv;obtain⟨g1,g2,g3,g4,lb⟩:=zi (ch _) af;have:=lb rfl;have e1:l=0:=by omega
      have e2:ah=0:=by omega
      have e3:m=0:=by omega
      subst e1;subst e2;subst e3;refine⟨φ,w,_,lg,?_,cF.refl ao⟩;simp only [Nat.beq_refl,bF,cQ] at h;subst h;simp only [if_true,Nat.sub_self];exact .i_ _ (λ_=>rfl)
    ·
     cases Mx:Nat.ble ah m with
     |false=>rw[Mx] at h;cases h
     |true=>
     rw[Mx,bF] at h;have aox:=Nat.ble_eq.mp Mx;obtain⟨g1,g2,g3,g4,lb⟩:=zi (ch _) af;have My:=g2 rfl;subst My;have empty:∀(a6:Addr) (c':Nat),m=l->∀x',(x'=some a6\/∃ID,x'=some ID)->aD φ (.slice (some ⟨dead,1,none⟩) 0 0) (.slice x' (ah-l) (c'-l)):=by
      intro a6 c' r5 x' r6;rw[show ah-l=0 by omega];rcases r6 with rfl|⟨ID,rfl⟩<;>exact .i_ _ (λh=>absurd h cw)
     have Mz:∀(p:Prop) [Decidable p] (a b:Addr),∃ID,(if p then some a else some b)=some ID:=λp _ a b=>by
      by_cases hp:p
      ·exact⟨a,aY hp⟩
      ·exact⟨b,a_ hp⟩
     cases r5:Nat.beq m l with
     |true=>
      have xT:m=l:=cI r5;rw[r5,bF,cQ] at h;subst h;cases aq with
      |iD _ _ he=>
       rename_i e;refine⟨φ,w,_,run ⟨e.bn,e.sh+off,none⟩ m l ah m bc af cv,empty ⟨e.bn,e.sh+off,none⟩ m xT _ (.inr (Mz _ _ _)),cF.refl ao⟩
      |iE _ _ c' he q1 aH b0=>
       rename_i e;obtain⟨f1,_⟩:=zi aH af;exact⟨φ,w,_,run ⟨e.bn,e.sh+off,none⟩ c' l ah c' bc (by simpa using f1) cv,empty ⟨e.bn,e.sh+off,none⟩ c' xT _ (.inr (Mz _ _ _)),cF.refl ao⟩
      |i_ a6 bW=>
       rename_i c';obtain⟨f1,_⟩:=zi (Nat.zero_le c') af;exact⟨φ,w,_,run a6 c' l ah c' bc (by simpa using f1) cv,empty a6 c' xT _ (.inr (Mz _ _ _)),cF.refl ao⟩
     |false=>
      have xT:m≠l:=λe=>by subst e;simp at r5
      rw[r5,eD,cQ] at h;subst h;cases aq with
      |iD _ _ he=>
       rename_i e;have lg:=run ⟨e.bn,e.sh+off,none⟩ m l ah m bc af cv;refine⟨φ,w,_,lg,?_,cF.refl ao⟩;rw[a_ xT,Addr.kz];have:=aD.iD (φ:=φ) (b:=b) (o:=off+l*bc) (ah-l) (m-l) he;rw[<-Nat.add_assoc] at this;exact this
      |iE _ _ c' he q1 aH b0=>
       rename_i e;obtain⟨f1,_⟩:=zi aH af;have lg:=run ⟨e.bn,e.sh+off,none⟩ c' l ah c' bc (by simpa using f1) cv;refine⟨φ,w,_,lg,?_,cF.refl ao⟩;rw[a_ aj,Addr.kz];obtain⟨k',dD,Mu,_⟩:=ao.eE b e he;rw[al] at dD;cases dD;have uk:e.eN=bc:=by
        rcases ac9 with aL|aL
        ·omega
        ·exact Mu.trans aL
       have MA:l*bc+(c'-l)*bc=c'*bc:=by rw[<-Nat.add_mul];congr 1;omega
       have:=aD.iE (φ:=φ) (b:=b) (o:=off+l*bc) (ah-l) (m-l) (c'-l) he q1 aj (by rw[uk] at b0 ⊢;omega);rw[<-Nat.add_assoc] at this;exact this
      |i_ a6 bW=>omega
  ·rename_i l ah m bc af cv al
   cases uj:(Nat.beq cap 0&&Nat.beq len 0&&Nat.ble ah m) with
   |false=>rw[uj] at h;cases h
   |true=>
    rw[uj,bF,cQ] at h;subst h;simp only [c8] at uj;have e1:cap=0:=cI uj.1.1;have e2:len=0:=cI uj.1.2;have e3:ah<=m:=Nat.ble_eq.mp uj.2;subst e1;subst e2;have EU:∀e,φ b≠some e:=λe he=>by
     obtain⟨k,dD,_⟩:=ao.eE b e he;rw[al] at dD;cases dD
    cases aq with
    |iD _ _ he=>exact absurd he (EU _)
    |iE _ _ c' he q1 aH b0=>exact absurd he (EU _)
    |i_ a6 bW=>
     rename_i c';obtain⟨g1,g2,g3,g4,lb⟩:=zi (Nat.zero_le c') af;have lg:=run a6 c' l ah _ bc g1 cv;refine⟨φ,w,_,lg,?_,cF.refl ao⟩;have hm:m=0:=by omega
     have e1:l=0:=by omega
     have e2:ah=0:=by omega
     subst hm;subst e1;subst e2;have ar:off=0->(if e5.isSome=true then 0 else c')-0=0:=λho=>by
      by_cases EX:e5.isSome=true
      ·simp [EX]
      ·simp [EX,bW ho]
     show aD φ _ (.slice (if (if e5.isSome=true then 0 else c')=0 then some a6 else some (a6.add (0*bc))) 0 ((if e5.isSome=true then 0 else c')-0));by_cases jX:(if e5.isSome=true then 0 else c')=0
     ·rw[aY jX];exact .i_ _ ar
     ·rw[a_ jX];exact .i_ _ ar
  ·cases h
 ·cases h
end
end AE
namespace AE
variable [a7]
section
variable {P:aS} {φ:b4} {A a':a8} {w:ax}
def MB (P:aS) (A:a8) (c7:Array aK) (dst px:J):Option (J×a8):=
 match c7[0]? with
 |some t=>match bk P (underlying t) with
  |some (.slice elem)=>match bk P (sizeOf elem) with
   |some bc=>match dst,px with
    | .slice (some ⟨b,off,none⟩) um _,.slice (some ⟨jC,EY,none⟩) sl _=>
      match A.r0 jC EY (Nat.min sl um*bc) with
      |some l=>match A.q5 b off l with
       |some bH=>some (.int .i64 (Nat.min sl um),bH)
       |none=>none
      |none=>none
    | .slice (some _) um _,.slice none sl _=>some (.int .i64 (Nat.min sl um),A)
    |_,_=>none
   |none=>none
  |_=>none
 |none=>none
theorem ac' (ao:b2 φ A w) {c7:Array aK} {ty:aK} {d ou s fV v:J} (bg:aD φ d ou) (aw:aD φ s fV) (h:MB P A c7 d s=some (v,a')):b7 (hT v) P φ A w (Builtin.copy_ c7 ty #[ou,fV]) a':=by
 unfold MB at h;split at h
 ·rename_i t aN
  split at h
  ·rename_i elem hu
   split at h
   ·rename_i bc cv
    split at h
    ·rename_i b off um wR jC EY sl q6
     split at h
     ·rename_i l hl
      split at h
      ·rename_i bH c0
       simp only [cQ,Prod.mk.injEq] at h;obtain⟨rfl,rfl⟩:=h;unfold Builtin.copy_;simp only [aN,List.getElem?_toArray,List.getElem?_cons_zero,List.getElem?_cons_succ];refine b7.pre hu ?_;obtain⟨lh,mW⟩:=AF hl;have main:∀(e e2:hS) (mV:Nat),φ b=some e->φ jC=some e2->b7 (hT (.int .i64 (Nat.min sl um))) P φ A w (do
         let n:=Nat.min (<-Builtin.lenOf (.slice (some ⟨e2.bn,e2.sh+EY,none⟩) sl mV)) um
         let cells <-Builtin.firstCells (<-sizeOf elem) n (.slice (some ⟨e2.bn,e2.sh+EY,none⟩) sl mV)
         storeCells ⟨e.bn,e.sh+off,none⟩ cells.toList
         pure (goInt n)) bH:=by
        intro e e2 mV he uo;refine b7.pre (a:=sl) rfl ?_;refine b7.pre cv ?_;refine b7.bind ao (T9 ao hl uo) λgO w1 cells lg hmono ⟨hA,c2⟩=> ?_
        obtain⟨w',g1,g2⟩:=CI P (hmono _ _ he) l A bH w1 off 0 cells.toList lg c0 (by simpa using hA) (λj hj=>by
         have:=c2 j hj;simp only [fk] at this
         simpa [dq] using this)
        refine⟨gO,w',_,dm (by simpa using g1) rfl,.int _ _,g2⟩
       have zero:∀(a a6:Option Addr) (ac_ mV:Nat),Nat.min sl um*bc=0->Nat.min sl um=0->bH=A:=by
        intro a a6 ac_ mV aL _;rw[aL] at lh;have:l=[]:=by simpa using lh
        subst this;simpa [a8.q5] using c0.symm
       cases bg with
       |iD _ _ he=>cases aw with
        |iD _ _ uo=>exact main _ _ _ he uo
        |iE _ _ c' uo _ _ _=>exact main _ _ _ he uo
        |i_ a6 _=>
         have:=zero none none 0 0 (by simp) (by simp);subst this;refine⟨φ,w,.int .i64 0,?_,by simpa using aD.int .i64 0,cF.refl ao⟩;simp [jD cv w,Builtin.firstCells,Builtin.lenOf,loadCells,loadCellsFrom,Sem.run,pure,storeCells,goInt]
       |iE _ _ hA he _ _ _=>cases aw with
        |iD _ _ uo=>exact main _ _ _ he uo
        |iE _ _ c' uo _ _ _=>exact main _ _ _ he uo
        |i_ a6 _=>
         have:=zero none none 0 0 (by simp) (by simp);subst this;refine⟨φ,w,.int .i64 0,?_,by simpa using aD.int .i64 0,cF.refl ao⟩;simp [jD cv w,Builtin.firstCells,Builtin.lenOf,loadCells,loadCellsFrom,Sem.run,pure,storeCells,goInt]
       |i_ a6 _=>
        have:=zero none none 0 0 (by simp) (by simp);subst this;have hlen:∀fV,aD φ (.slice (some ⟨jC,EY,none⟩) sl q6) fV->∃a2 c2,fV= .slice (some a2) sl c2:=λfV h=>by
         cases h with
         |iD _ _ h=>exact⟨_,_,rfl⟩
         |iE _ _ _ h _ _ _=>exact⟨_,_,rfl⟩
         |i_ a6 _=>exact⟨_,_,rfl⟩
        obtain⟨a2,c2,rfl⟩:=hlen fV aw;refine⟨φ,w,.int .i64 0,?_,by simpa using aD.int .i64 0,cF.refl ao⟩;simp [jD cv w,Builtin.firstCells,Builtin.lenOf,loadCells,loadCellsFrom,Sem.run,pure,storeCells,goInt]
      ·cases h
     ·cases h
    ·rename_i a um wR sl q6
     simp only [cQ,Prod.mk.injEq] at h;obtain⟨rfl,rfl⟩:=h;have MC:∃a6 c',ou= .slice (some a6) um c':=by
      cases bg with
      |iD _ _ h=>exact⟨_,_,rfl⟩
      |iE _ _ _ h _ _ _=>exact⟨_,_,rfl⟩
      |i_ a6 _=>exact⟨_,_,rfl⟩
     obtain⟨a6,c',rfl⟩:=MC;cases aw;refine⟨φ,w,.int .i64 (Nat.min sl um),?_,.int _ _,cF.refl ao⟩;unfold Builtin.copy_;simp only [aN,List.getElem?_toArray,List.getElem?_cons_zero,List.getElem?_cons_succ];refine c9 hu ?_;refine c9 (a:=sl) rfl ?_;exact c9 cv rfl
    ·cases h
   ·cases h
  ·cases h
 ·cases h
def MD (P:aS) (A:a8) (t:aK) (len cap:J):Option (J×a8):=
 match len,cap with
 | .int _ l,.int _ c=>
   bif decide (0<=l)&&decide (l<=c)&&decide (c<=1048576) then
    match bk P (underlying t) with
    |some (.slice elem)=>match bk P (typeInfo elem),bk P (sizeOf elem),bk P (zeroValue elem) with
     |some info,some bc,some z=>
      bif Nat.ble info.bytes 65536&&plain z&&(cellsOf z).isSome&&Nat.blt 0 z.cells.size then
       match A.push (.cells ((Array.range (c.toNat*bc)).map (z.cells[· %z.cells.size]!)).toList) 0 elem with
       |some (r,bH)=>some (.slice (some ⟨r,0,none⟩) l.toNat c.toNat,bH)
       |none=>none
      else none
     |_,_,_=>none
    |_=>none
   else none
 |_,_=>none
theorem ada (ao:b2 φ A w) {t:aK} {len cap v:J} (h:MD P A t len cap=some (v,a')):b7 (hT v) P φ A w (Instr.makeSlice t len cap) a':=by
 unfold MD at h;split at h
 ·rename_i de l dv c
  cases af:(decide (0<=l)&&decide (l<=c)&&decide (c<=1048576)) with
  |false=>rw[af] at h;cases h
  |true=>
   rw[af,bF] at h;simp only [c8,decide_eq_true_eq] at af;obtain⟨⟨kk,jC⟩,ud⟩:=af;split at h
   ·rename_i elem hu
    split at h
    ·rename_i info bc z ai cv bW
     cases lE:(Nat.ble info.bytes 65536&&plain z&&(cellsOf z).isSome&&Nat.blt 0 z.cells.size) with
     |false=>rw[lE] at h;cases h
     |true=>
      rw[lE,bF] at h;simp only [c8] at lE;obtain⟨⟨⟨q1,aH⟩,b0⟩,eF⟩:=lE;have lR:=Nat.ble_eq.mp q1;have r2:=Nat.blt_eq.mp eF;have qz:=Is aH b0 φ;split at h
      ·rename_i r bH hp
       simp only [cQ,Prod.mk.injEq] at h;obtain⟨rfl,rfl⟩:=h;have wl:IntKind.i64.wrap l=l:=IntWalk.i64_in _ aj;have adb:IntKind.i64.wrap c=c:=IntWalk.i64_in _ aj;unfold Instr.makeSlice;refine b7.pre hu ?_;simp only;refine b7.pre (a:=l) rfl ?_;refine b7.pre (a:=c) rfl ?_;refine b7.pre ai ?_;have Uu:(info.bytes:Int)*c<=2^48:=by
        have ad:(info.bytes:Int)*c<=65536*1048576:=by
         have eG:(info.bytes:Int)<=65536:=by omega
         exact Int.mul_le_mul eG ud aj aj
        have ag:(65536:Int)*1048576<=2^48:=by decide
        omega
       have IE:(decide (c<0)||decide ((info.bytes:Int)*c>2^48)||decide (l<0)||decide (l>c))=false:=by
        simp only [Bool.or_eq_false_iff,decide_eq_false_iff_not];omega
       simp only [wl,adb];rw[a_ (by rw[IE];simp)];refine b7.pre (a:=()) (by unfold askRoom;split<;>rfl) ?_;refine b7.pre cv ?_;have xQ:∀j,j<((Array.range (c.toNat*bc)).map (z.cells[· %z.cells.size]!)).size->aD φ (((Array.range (c.toNat*bc)).map (z.cells[· %z.cells.size]!)).getD j undef) (((Array.range (c.toNat*bc)).map (z.cells[· %z.cells.size]!)).getD j undef):=by
        intro j hj;simp at hj;have hm:=Nat.mod_lt j r2;have:=qz (j%z.cells.size) hm;simp only [fk] at this ⊢;simpa [hj,hm,getElem!_pos] using this
       have fU:b7 (hT (.slice (some ⟨r,0,none⟩) l.toNat c.toNat)) P φ A w (do
         let a <-newRow elem ((Array.range (c.toNat*bc)).map (z.cells[· %z.cells.size]!))
         pure (.slice (some a) l.toNat c.toNat)) bH:=by
        obtain⟨db,w',g1,g2,g3,_⟩:=CK ao P elem hp (c':=(Array.range (c.toNat*bc)).map (z.cells[· %z.cells.size]!)) (by simp) (λ_=>by simp) (λj hj=>by
         have:=xQ j (by simpa using hj);simp only [fk] at this;simp only [dq,Array.getElem?_toList,fk]
         exact this)
        refine⟨db,w',_,dm g1 rfl,?_,g3⟩;have:=aD.iD (φ:=db) (b:=r) (o:=0) l.toNat c.toNat g2;simpa using this
       by_cases av:c.toNat*bc=0
       ·simp only [av,if_true] at fU ⊢
        refine b7.pre (a:= #[]) rfl ?_;have e0:∀f:Nat->J,(Array.range 0).map f= #[]:=λf=>by simp
        rw[e0] at fU ⊢;exact fU
       ·simp only [av,if_false]
        refine b7.pre bW ?_;refine b7.pre (a:=z.cells) rfl ?_;exact fU
      ·cases h
    ·cases h
   ·cases h
 ·cases h
def ME (P:aS) (A:a8) (c7:Array aK) (x:J):Option J:=
 match c7[0]? with
 |some t=>match bk P (underlying t),x with
  |some (.slice _),.slice _ n _=>some (.int .i64 n)
  |some (.map _ _),.map none=>some (.int .i64 0)
  |some (.map _ _),.map (some b)=>match A.bl.get b with
   |some {obj:= .map es _,..}=>some (.int .i64 es.length)
   |_=>none
  |some (.array n _),_=>some (.int .i64 n)
  |_,_=>none
 |none=>none
omit [a7] in
theorem r7 {o:Obj} {r:Nat} (h:w.heap[r]? =some o) (ar:∀c t f,o≠.cells c t f):(getObj r).run P w= .ok o w:=by
 unfold getObj;simp only [Sem.run,h]
theorem ade (ao:b2 φ A w) {c7:Array aK} {ty:aK} {x x' v:J} (aq:aD φ x x') (h:ME P A c7 x=some v):b7 (hT v) P φ A w (Builtin.len_ c7 ty #[x']) A:=by
 unfold ME at h;split at h
 ·rename_i t aN
  unfold Builtin.len_;simp only [aN,List.getElem?_toArray,List.getElem?_cons_zero];split at h
  ·rename_i e a n c hu
   simp only [cQ] at h;subst h;refine b7.pre hu ?_;have:∃a2 c2,x'= .slice a2 n c2:=by cases aq<;>exact⟨_,_,rfl⟩
   obtain⟨a2,c2,rfl⟩:=this;exact b7.ret ao (.int _ _)
  ·rename_i k e hu
   simp only [cQ] at h;subst h;refine b7.pre hu ?_;cases aq;exact b7.ret ao (.int _ _)
  ·rename_i k e b hu
   split at h
   ·rename_i es e6 cT pos st ro ty' af
    simp only [cQ] at h;subst h;refine b7.pre hu ?_;cases aq with
    |map he=>
     obtain⟨eU,al,_,ho⟩:=ao.eE b _ he;rw[af] at al;cases al;simp only [fS] at ho;obtain⟨dt,ad,ag,_⟩:=ho;refine⟨φ,w,.int .i64 es.length,dm (r7 ad (by simp)) ?_,.int _ _,cF.refl ao⟩;simp only [goInt,ag];rfl
   ·cases h
  ·rename_i n e hu
   simp only [cQ] at h;subst h;refine b7.pre hu ?_;exact b7.ret ao (.int _ _)
  ·cases h
 ·cases h
end
end AE
namespace AE
variable [a7]
section
variable {P:aS} {φ:b4} {A a':a8} {w:ax}
def MF (cells:Array J):Sem J:=do
 let mut s:=ByteArray.empty
 for c in cells do
  let .int .u8 n:=c|stuck "bytesToString: byte expected"
  s:=s.push (UInt8.ofNat n.toNat)
 pure (.string s)
omit [a7] in
theorem Uv (a:Addr) (len c:Nat):Conv.bytesToString (.slice (some a) len c)=loadCells a len >>= MF:=rfl
def MG (P:aS) (A:a8):J->Option J
 | .slice none _ _=>some (.string .empty)
 | .slice (some ⟨b,off,none⟩) n _=>bif Nat.beq n 0 then some (.string .empty) else match A.r0 b off n with
   |some l=>bif pt l then match bk P (MF ⟨l⟩) with
    |some (.string s)=>some (.string s)
    |_=>none
    else none
   |none=>none
 |_=>none
theorem adf (ao:b2 φ A w) {x x' v:J} (aq:aD φ x x') (h:MG P A x=some v):b7 (hT v) P φ A w (Conv.bytesToString x') A:=by
 unfold MG at h;split at h
 ·simp only [cQ] at h
  subst h;cases aq;exact b7.ret ao (.string _)
 ·rename_i b off n c
  have Uw:∀(a:Addr) (c:Nat),(Conv.bytesToString (.slice (some a) 0 c)).run P w= .ok (.string .empty) w:=λa c=>by
   rw[Uv];simp [loadCells,loadCellsFrom,MF,Sem.run,pure]
  have main:∀(e:hS) (c':Nat),φ b=some e->b7 (hT v) P φ A w (Conv.bytesToString (.slice (some ⟨e.bn,e.sh+off,none⟩) n c')) A:=by
   intro e c' he;cases av:Nat.beq n 0 with
   |true=>
    rw[av,bF,cQ] at h;subst h;have:n=0:=cI av;subst this;exact⟨φ,w,_,Uw _ _,.string _,cF.refl ao⟩
   |false=>
    rw[av,eD] at h;split at h
    ·rename_i l hl
     cases hp:pt l with
     |false=>rw[hp] at h;cases h
     |true=>
      rw[hp,bF] at h;split at h
      ·rename_i s aw
       simp only [cQ] at h;subst h;rw[Uv];obtain⟨cN,ad,ag,ay⟩:=EH ao P hl he;have:cN=⟨l⟩:=by
        obtain⟨l'⟩:=cN;have:=aD.EJ l l' hp (by simpa using ag.symm) (λi ai=>by simpa using ay i ai);rw[this]
       subst this;exact⟨φ,w,_,dm ad (jD aw w),.string _,cF.refl ao⟩
      ·cases h
    ·cases h
  cases aq with
  |iD _ _ he=>exact main _ _ he
  |iE _ _ c' he _ _ _=>exact main _ _ he
  |i_ a6 _=>
   rw[Nat.beq_refl,bF,cQ] at h;subst h;exact⟨φ,w,_,Uw _ _,.string _,cF.refl ao⟩
 ·cases h
def MH (A:a8) (elem:aK) (s:ByteArray):Option (J×a8):=
 match A.push (.cells (s.data.toList.map λb=> .int .u8 b.toNat)) 1 elem with
 |some (r,bH)=>some (.slice (some ⟨r,0,none⟩) s.size s.size,bH)
 |none=>none
theorem adg (ao:b2 φ A w) {elem:aK} {s:ByteArray} {v:J} (h:MH A elem s=some (v,a')):b7 (hT v) P φ A w (Conv.stringToBytes elem s) a':=by
 unfold MH at h;split at h
 ·rename_i r bH hp
  simp only [cQ,Prod.mk.injEq] at h;obtain⟨rfl,rfl⟩:=h;unfold Conv.stringToBytes
  let cap:=(Question.appendCap s.size 0 elem).cut (w.tape w.drawn (.appendCap s.size 0 elem))
  have kB:s.size<=cap:=by simp [cap,Question.cut]
  let row:Array J:=(s.data.map λb=>Value.int .u8 b.toNat)++Array.replicate (cap-s.size) (.int .u8 0)
  have oq:row.size=cap:=by
   simp only [row,Array.size_append,Array.size_map,Array.size_replicate];have:s.data.size=s.size:=rfl;omega
  have lg:=Mn ao (w.drawn+1);have adh:=(lg.wf.push hp).2.1;have st:=CG (o':= .cells row elem (cap,cap+1)) (e:=⟨w.heap.size,0,1,cap⟩) lg hp U U (by
   simp only [fS];refine⟨row,(cap,cap+1),by simp,oq.symm,⟨by simp only [List.length_map,Nat.zero_add,Array.length_toList];rw[oq];exact kB,λh=>absurd h cw⟩,λj hj=> ?_,λ_ i ai=>by rw[oq] at ai;simp;omega⟩;simp only [List.length_map,Array.length_toList] at hj;simp only [dq,fk,Nat.zero_add,row];rw[Array.getElem?_append_left (by simpa using hj)];simp only [List.getElem?_map,Array.getElem?_toList,Array.getElem?_map,Array.getElem?_eq_getElem hj,Option.map_some,Option.getD_some]
   exact .int _ _)
  refine⟨_,_,.slice (some ⟨w.heap.size,0,none⟩) s.size cap,?_,?_,cF.trans ao (cF.zd ao (w.drawn+1)) st⟩
  ·refine dm (w1:={w with drawn:=w.drawn+1}) (a:=cap) (by simp [choose,Sem.run,Question.forced,cap]) ?_
   refine dm (a:=(⟨w.heap.size,0,none⟩:Addr)) (by simp only [newRow,newObj];rfl) ?_;have AM:({w with drawn:=w.drawn+1,heap:=w.heap.push (.cells row elem)}:ax).shape? w.heap.size=some (elem,cap):=by
    simp [World.shape?,oq]
   refine dm (w1:={w with drawn:=w.drawn+1,heap:=w.heap.push (.cells row elem (cap,cap+1))}) (a:=()) ?_ rfl;unfold markStringish;refine dm (a:=some (elem,cap)) (by simp only [shape,Sem.run];exact congrArg (Result.ok · _) AM) ?_;simp only [freeze,Sem.run,World.freeze];rw[a_ aj];refine congrArg (Result.ok ()) ?_;simp only [World.mk.injEq,and_true,true_and];apply Array.ext_getElem?;intro i;rw[Array.getElem?_modify];split
   ·rename_i ai
    subst ai;simp [row]
   ·rename_i ai
    rw[Array.getElem?_push,Array.getElem?_push];rw[a_ (Ne.symm ai),a_ (Ne.symm ai)]
  ·subst adh
   have:=aD.iE (φ:=hk φ A.n ⟨w.heap.size,0,1,cap⟩) (b:=A.n) (o:=0) (e:=⟨w.heap.size,0,1,cap⟩) s.size s.size cap (by simp [hk]) (ch _) kB (by simp);simpa using this
 ·cases h
def CP (P:aS) (t:aK) (x y:J):Option Bool:=
 match bk P (underlying t),x,y with
 |some (.pointer _),.pointer (some _),.pointer none=>some false
 |some (.pointer _),.pointer none,.pointer (some _)=>some false
 |some (.pointer e),.pointer (some ⟨b,o,none⟩),.pointer (some ⟨b',o',none⟩)=>match bk P (sizeOf e) with
  |some n=>bif Nat.beq b b'&& !Nat.beq n 0 then some (Nat.beq o o') else none
  |none=>none
 |some (.slice _),.slice (some _) _ _,.slice none _ _=>some false
 |some (.slice _),.slice none _ _,.slice (some _) _ _=>some false
 |some (.map _ _),.map (some _),.map none=>some false
 |some (.map _ _),.map none,.map (some _)=>some false
 |some (.interface _),.iface _ _,.nilIface=>some false
 |some (.interface _),.nilIface,.iface _ _=>some false
 |some (.func _ _ _),.func _ _ _,.nilFunc=>some false
 |some (.func _ _ _),.nilFunc,.func _ _ _=>some false
 |_,_,_=>none
theorem Ux {t:aK} {x x' y fM:J} {r:Bool} (aq:aD φ x x') (bE:aD φ y fM) (h:CP P t x y=some r):(Op.equal t x' fM).run P w= .ok r w/\∀op (jn kl:Operand),(eqGuard op t jn kl x' fM).run P w= .ok () w:=by
 unfold CP at h;have guard:∀(x' fM:J),(¬(x'= .nilIface/\fM= .nilIface))->(¬∃a b,x'= .agg a/\fM= .agg b)->∀op (jn kl:Operand),(eqGuard op t jn kl x' fM).run P w= .ok () w:=by
  intro x' fM ad ag op jn kl;unfold eqGuard;by_cases cz:op= .eql\/op= .neq
  ·cases x'<;>cases fM<;>rcases cz with rfl|rfl<;>first|rfl|exact absurd ⟨rfl,rfl⟩ ad|exact absurd ⟨_,_,rfl,rfl⟩ ag
  ·cases op<;>first|rfl|exact absurd (.inl rfl) cz|exact absurd (.inr rfl) cz
 split at h
 all_goals try (cases h;done)
 all_goals rename_i hu
 ·simp only [cQ] at h
  subst h;cases aq with
  |ptr he=>cases bE;exact⟨by unfold Op.equal Op.maxDepth Op.equalIn;exact c9 hu rfl,guard _ _ (by simp) (by simp)⟩
 ·simp only [cQ] at h
  subst h;cases bE with
  |ptr he=>cases aq;exact⟨by unfold Op.equal Op.maxDepth Op.equalIn;exact c9 hu rfl,guard _ _ (by simp) (by simp)⟩
 ·split at h
  ·rename_i b o b' o' aoy n av
   cases af:(Nat.beq b b'&& !Nat.beq n 0) with
   |false=>rw[af] at h;cases h
   |true=>
    rw[af,bF,cQ] at h;subst h;simp only [c8,Bool.not_eq_true'] at af;have oW:b=b':=cI af.1;subst oW;have fc:n≠0:=λe=>by subst e;simp at af
    cases aq with
    |ptr he=>cases bE with
     |ptr uo=>
      rw[he] at uo;cases uo;refine⟨?_,guard _ _ (by simp) (by simp)⟩;unfold Op.equal Op.maxDepth Op.equalIn;refine c9 hu ?_;simp only;refine c9 av ?_;rw[aY fc];unfold sameAddr;simp only [beq_self_eq_true,if_true];show Result.ok _ w=Result.ok _ w;congr 1;by_cases MI:o=o'
      ·subst MI;simp
      ·have ad:Nat.beq o o'=false:=by
        cases ah:Nat.beq o o' with
        |false=>rfl
        |true=>exact absurd (cI ah) MI
       rw[ad];simp [MI]
  ·cases h
 all_goals simp only [cQ] at h
 all_goals subst h
 all_goals cases aq<;>cases bE<;>exact⟨by unfold Op.equal Op.maxDepth Op.equalIn;exact c9 hu rfl,guard _ _ (by simp) (by simp)⟩
def MJ (P:aS) (op:BinOp) (t:aK) (x y:J):Option J:=
 match op with
 | .eql=>(CP P t x y).map .bool
 | .neq=>(CP P t x y).map λb=> .bool !b
 |_=>none
theorem adi (ao:b2 φ A w) {op:BinOp} {t:aK} {jn kl:Operand} {x x' y fM v:J} (aq:aD φ x x') (bE:aD φ y fM) (h:MJ P op t x y=some v):b7 (hT v) P φ A w (do eqGuard op t jn kl x' fM;binOp op t x' fM) A:=by
 unfold MJ at h;have Uy:∀r,CP P t x y=some r->(binOp .eql t x' fM=do pure (.bool (<-Op.equal t x' fM)))/\(binOp .neq t x' fM=do pure (.bool (!(<-Op.equal t x' fM)))):=by
  intro r aw;unfold CP at aw;split at aw
  all_goals try (cases aw;done)
  all_goals cases aq<;>cases bE<;>exact⟨rfl,rfl⟩
 split at h
 ·obtain⟨r,aw,rfl⟩:=Option.map_eq_some_iff.1 h
  obtain⟨ad,ag⟩:=Ux (P:=P) (w:=w) aq bE aw;refine⟨φ,w,.bool r,dm (ag _ _ _) ?_,.bool _,cF.refl ao⟩;rw[(Uy r aw).1];exact dm ad rfl
 ·obtain⟨r,aw,rfl⟩:=Option.map_eq_some_iff.1 h
  obtain⟨ad,ag⟩:=Ux (P:=P) (w:=w) aq bE aw;refine⟨φ,w,.bool !r,dm (ag _ _ _) ?_,.bool _,cF.refl ao⟩;rw[(Uy r aw).2];exact dm ad rfl
 ·cases h
def IG:TypeDesc->Bool
 | .interface _=>true
 |_=>false
def MK (P:aS) (t:aK) (x:J):Option J:=
 match bk P (underlying t) with
 |some d=>bif IG d then none else some (.iface t x)
 |none=>none
theorem adj (ao:b2 φ A w) {t:aK} {x x' v:J} (aq:aD φ x x') (h:MK P t x=some v):b7 (hT v) P φ A w (Instr.makeInterface t x') A:=by
 unfold MK at h;split at h
 ·rename_i d hu
  cases bg:IG d with
  |true=>rw[bg] at h;cases h
  |false=>
   rw[bg,eD,cQ] at h;subst h;unfold Instr.makeInterface;refine b7.pre hu ?_;cases d<;>first|(cases bg;done)|exact b7.ret ao (.iface _ aq)
 ·cases h
def ML (P:aS) (x:J) (asserted:aK) (ok:Bool):Option J:=
 match bk P (underlying asserted),x with
 |some (.interface want),.iface t _=>match bk P (typeInfo t) with
  |some info=>match Instr.missingMethod want info.methods with
   |none=>some (if ok then .tuple #[x,.bool true] else x)
   |some _=>none
  |none=>none
 |some d,.iface t v=>bif IG d then none else
   if t=asserted then some (if ok then .tuple #[v,.bool true] else v) else
    bif ok then match bk P (zeroValue asserted) with
     |some z=>bif plain z then some (.tuple #[z,.bool false]) else none
     |none=>none
    else none
 |_,_=>none
theorem MN {a a6:J} (h:aD φ a a6) (b:Bool):aD φ (.tuple #[a,.bool b]) (.tuple #[a6,.bool b]):= .tuple _ _ rfl λi ai=>by
 have:i=0\/i=1:=by simp at ai;omega
 rcases this with rfl|rfl
 ·simpa using h
 ·simpa using aD.bool b
theorem adk (ao:b2 φ A w) {x x' v:J} {Uz asserted:aK} {ok:Bool} (aq:aD φ x x') (h:ML P x asserted ok=some v):b7 (hT v) P φ A w (Instr.typeAssert x' Uz asserted ok) A:=by
 unfold ML at h;split at h
 ·rename_i want t u hu
  split at h
  ·rename_i info ai
   split at h
   ·rename_i hm
    simp only [cQ] at h;subst h;cases aq with
    |iface t aC=>
     unfold Instr.typeAssert;refine b7.pre hu ?_;simp only;refine b7.pre ai ?_;simp only [hm];refine b7.ret ao ?_;cases ok
     ·exact .iface t aC
     ·exact MN (.iface t aC) true
   ·cases h
  ·cases h
 ·rename_i d t u _ hu
  cases bg:IG d with
  |true=>rw[bg] at h;cases h
  |false=>
   rw[bg,eD] at h;cases aq with
   |iface t aC=>
    unfold Instr.typeAssert;refine b7.pre hu ?_;by_cases aN:t=asserted
    ·rw[aY aN,cQ] at h
     subst h;cases d<;>first
      |(cases bg;done)
      |(simp only [aY aN]
        refine b7.ret ao ?_;cases ok
        ·exact aC
        ·exact MN aC true)
    ·rw[a_ aN] at h
     cases ok with
     |false=>cases h
     |true=>
      rw[bF] at h;split at h
      ·rename_i z bW
       cases hp:plain z with
       |false=>rw[hp] at h;cases h
       |true=>
        rw[hp,bF,cQ] at h;subst h;cases d<;>first
          |(cases bg;done)
          |(simp only [a_ aN,if_true]
            refine b7.pre bW ?_
            exact b7.ret ao (MN (aD.ky φ z hp) false))
      ·cases h
 ·cases h
end
end AE
namespace AE
variable [a7]
class Lib (P:aS) where
 same:List FuncId
 UA:∀f∈same,∀x:J,bk P (callFunc f #[x])=some (.value x)
 MO:List (FuncId×aK)
 UB:∀p∈MO,∃ps r8 t,(∀n w,(callFunc p.1 #[.int .i64 n]).run P w=(do pure (Next.value (<-Extern.BytealgMakeNoZero.makeNoZero ps r8 #[.int .i64 n])):Sem Next).run P w)/\r8[0]? =some t/\bk P (underlying t)=some (.slice p.2)
section
variable {P:aS} {φ:b4} {A a':a8} {w:ax}
omit [a7] in
theorem II {r:Nat} {c:Array J} {t:aK} {f:Nat×Nat} (h:w.heap[r]? =some (.cells c t f)):(shape r).run P w= .ok (some (t,c.size)) w:=by
 simp only [shape,Sem.run,World.shape?,h]
omit [a7] in
theorem UC {a:Addr} {c:Array J} {t:aK} {f:Nat×Nat} (h:w.heap[a.block]? =some (.cells c t f)):(Conv.seenAt a).run P w= .ok a w:=by
 unfold Conv.seenAt viewAt;refine dm (a:=none) (dm (II h) rfl) rfl
def MP (P:aS) (A:a8) (px dst:aK) (x:J):Option J:=
 match bk P (underlying px),bk P (underlying dst),x with
 |some (.pointer t),some .unsafePointer,.pointer (some ⟨b,off,none⟩)=>match bk P (sizeOf t),A.bl.get b with
  |some n,some k=>match k.obj with
   | .cells c=>bif Nat.beq n 0|| !Nat.blt off c.length then none else some (.pointer (some ⟨b,off,none⟩))
   |_=>none
  |_,_=>none
 |some .unsafePointer,some (.pointer u),.pointer (some ⟨b,off,none⟩)=>match bk P (sizeOf u),A.bl.get b with
  |some _,some k=>match k.obj with
   | .cells c=>bif Nat.beq k.eN 0&&liesAt P P.depth k.ty (c.length/P.cellsOf k.ty) off u 1 then some (.pointer (some ⟨b,off,none⟩)) else none
   |_=>none
  |_,_=>none
 |_,_,_=>none
theorem adl (ao:b2 φ A w) {px dst:aK} {x x' v:J} (aq:aD φ x x') (h:MP P A px dst x=some v):b7 (hT v) P φ A w (convert px dst x') A:=by
 unfold MP at h;split at h
 ·rename_i t b off aw bg
  split at h
  ·rename_i n k av al
   split at h
   ·rename_i c fK
    cases ar:(Nat.beq n 0|| !Nat.blt off c.length) with
    |true=>rw[ar] at h;cases h
    |false=>
     rw[ar,eD,cQ] at h;subst h;simp only [Bool.or_eq_false_iff,Bool.not_eq_false'] at ar;have aoz:off<c.length:=Nat.blt_eq.mp ar.2;have fc:n≠0:=λe=>by subst e;simp at ar
     cases aq with
     |ptr he=>
      rename_i e;obtain⟨k',dD,_,ho⟩:=ao.eE b e he;rw[al] at dD;cases dD;unfold fS at ho;simp only [fK] at ho;obtain⟨c',jl,ad,ag,ay,bG,cJ⟩:=ho;refine⟨φ,w,.pointer (some ⟨e.bn,e.sh+off,none⟩),?_,.ptr he,cF.refl ao⟩;unfold convert;refine c9 aw (c9 bg ?_);show (Conv.unsafePointer px dst (.pointer (some ⟨e.bn,e.sh+off,none⟩))).run P w=_;unfold Conv.unsafePointer;refine c9 aw (c9 bg ?_);simp only;refine dm (UC ad) ?_;refine dm (a:=some c'.size) (by unfold cellsIn;exact dm (II ad) rfl) ?_;refine c9 av ?_;have kJ:¬(c'.size<=e.sh+off):=by omega
      simp only [fc,decide_false,ge_iff_le,kJ,Bool.false_and,Bool.or_false,Bool.false_eq_true,if_false];rfl
   ·cases h
  ·cases h
 ·rename_i u b off aw bg
  split at h
  ·rename_i aoA k adn al
   split at h
   ·rename_i c fK
    cases ar:(Nat.beq k.eN 0&&liesAt P P.depth k.ty (c.length/P.cellsOf k.ty) off u 1) with
    |false=>rw[ar] at h;cases h
    |true=>
     rw[ar,bF,cQ] at h;subst h;simp only [c8] at ar;have c0:k.eN=0:=cI ar.1;cases aq with
     |ptr he=>
      rename_i e;obtain⟨k',dD,_,ho⟩:=ao.eE b e he;rw[al] at dD;cases dD;unfold fS at ho;simp only [fK] at ho;obtain⟨c',jl,ad,ag,ay,bG,cJ⟩:=ho;obtain⟨AM,cv⟩:=ay.2 c0;have MQ:liesAt P P.depth k.ty (c'.size/P.cellsOf k.ty) (e.sh+off) u 1=true:=by rw[AM,Nat.zero_add,<-cv];exact ar.2
      refine⟨φ,w,.pointer (some ⟨e.bn,e.sh+off,none⟩),?_,.ptr he,cF.refl ao⟩;unfold convert;refine c9 aw (c9 bg ?_);show (Conv.unsafePointer px dst (.pointer (some ⟨e.bn,e.sh+off,none⟩))).run P w=_;unfold Conv.unsafePointer;refine c9 aw (c9 bg ?_);simp only;refine dm (UC ad) ?_;have aC:(variablesAt ⟨e.bn,e.sh+off,none⟩ u 1).run P w= .ok true w:=by
       unfold variablesAt;refine c9 (a:=P) rfl ?_;refine dm (II ad) ?_;simp only [MQ];rfl
      refine c9 adn ?_;refine dm aC ?_;simp only [Bool.or_true,if_true];rfl
   ·cases h
  ·cases h
 ·cases h
def MR (A:a8) (elem:aK) (n:Int):Option (J×a8):=
 bif decide (0<=n)&&decide (n<=524288) then
  match A.push (.cells (List.replicate n.toNat cB)) 1 elem with
  |some (r,bH)=>some (.slice (some ⟨r,0,none⟩) n.toNat n.toNat,bH)
  |none=>none
 else none
omit [a7] in
theorem UD:∀(n t:Nat) (acc:Array J),(Extern.BytealgMakeNoZero.digits n t acc).size=acc.size+n
 |0,_,_=>rfl
 |n+1,t,acc=>by
  unfold Extern.BytealgMakeNoZero.digits;rw[UD n];simp;omega
theorem ado (ao:b2 φ A w) {ps r8:Array aK} {t elem:aK} {n:Int} {v:J} (aN:r8[0]? =some t) (hu:bk P (underlying t)=some (.slice elem)) (h:MR A elem n=some (v,a')):
  b7 (hT v) P φ A w (Extern.BytealgMakeNoZero.makeNoZero ps r8 #[.int .i64 n]) a':=by
 unfold MR at h;cases ar:(decide (0<=n)&&decide (n<=524288)) with
 |false=>rw[ar] at h;cases h
 |true=>
  rw[ar,bF] at h;simp only [c8,decide_eq_true_eq] at ar;split at h
  ·rename_i r bH hp
   simp only [cQ,Prod.mk.injEq] at h;obtain⟨rfl,rfl⟩:=h
   let q:Question:= .appendCap n.toNat 0 elem
   let cap:=q.cut (w.tape w.drawn q)
   have kB:n.toNat<=cap:=by simp [cap,q,Question.cut]
   let aH:Question:= .extern "internal/bytealg.MakeNoZero.bytes" 0
   have lg:b2 φ A {w with drawn:=w.drawn+1+1}:=(cF.zd ao (w.drawn+1+1)).rel
   let row:=Extern.BytealgMakeNoZero.digits cap (aH.cut (w.tape (w.drawn+1) aH)) #[]
   have oq:row.size=cap:=by simp [row,UD]
   obtain⟨db,w',g1,g2,g3,g4⟩:=CK lg P (c':=row) elem hp (by rw[oq,mz];exact kB) (λh=>absurd h cw) (λj hj=>by
    rw[dq,List.getElem?_replicate,aY (by simpa using hj)]
    exact .cB _)
   refine⟨db,w',.slice (some ⟨w.heap.size,0,none⟩) n.toNat cap,?_,?_,cF.trans ao (cF.zd ao (w.drawn+1+1)) g3⟩
   ·obtain⟨UE⟩:=r8
    obtain⟨rest,rfl⟩:∃rest,UE=t::rest:=by
     cases UE with
     |nil=>simp at aN
     |cons a r=>simp at aN;exact⟨r,by rw[aN]⟩
    refine c9 (s:=underlying t) hu ?_;simp only;rw[a_ (by simp;omega)];refine dm (w1:={w with drawn:=w.drawn+1}) (a:=cap) (by simp [choose,Sem.run,Question.forced,cap,q]) ?_;refine dm (w1:={w with drawn:=w.drawn+1}) (a:=()) (by unfold askRoom;split<;>rfl) ?_;refine dm (w1:={w with drawn:=w.drawn+1+1}) (a:=aH.cut (w.tape (w.drawn+1) aH)) (by simp only [choose,Sem.run];rfl) ?_;exact dm g1 rfl
   ·have:=aD.iE (φ:=db) (b:=r) (o:=0) n.toNat n.toNat cap g2 (ch _) kB (by simp [oq])
    simpa using this
  ·cases h
def MS:List J->ByteArray->Option ByteArray
 |[],acc=>some acc
 | .int .u8 b::r,acc=>MS r (acc.push b.toNat.toUInt8)
 |_::_,_=>none
theorem adp (ao:b2 φ A w) {b:Nat} {e:hS} (he:φ b=some e):∀(l:List J) (off:Nat) (acc s:ByteArray),(∀j,j<l.length->A.load b (off+j)=some (l.getD j undef))->MS l acc=some s->
  (loadBytes ⟨e.bn,e.sh+off,none⟩ acc l.length).run P w= .ok s w:=by
 intro l
 induction l with
 |nil=>
  intro off acc s _ h;cases h;rfl
 |cons v r cA=>
  intro off acc s hl h;cases v with
  |int k x=>
   cases k<;>try (cases h;done)
   have aL:=hl 0 (by simp);obtain⟨aB,ad,ag⟩:=vi ao aL he;simp only [List.getD_cons_zero] at ag;cases ag;have Uc:w.cell? ⟨e.bn,e.sh+off,none⟩=some (.int .u8 x):=by simpa using ad
   have wM:∀j,j<r.length->A.load b (off+1+j)=some (r.getD j undef):=λj hj=>by
    have:=hl (j+1) (by simpa using hj);rw[show off+(j+1)=off+1+j by omega] at this;simpa using this
   have:=cA (off+1) (acc.push x.toNat.toUInt8) s wM h;show (loadBytes _ acc (r.length+1)).run P w=_;unfold loadBytes;refine dm (a:= .int .u8 x) (w1:=w) (by simp [Go.load,Sem.run,Uc]) ?_;simp only [Addr.kz];rw[Nat.add_assoc];exact this
  |_=>cases h
def CQ (cT:Nat):List Nat->bY h6->Option (bY h6)
 |[],t=>some t
 |m::r,t=>match t.get m with
  |some k=>bif Nat.beq k.cT cT then
    match bY.set {k with ro:=true} depth t m with
    |some dr=>CQ cT r dr
    |none=>none
   else CQ cT r t
  |none=>CQ cT r t
def vo (cT:Nat) (k:h6):h6:=bif Nat.beq k.cT cT then {k with ro:=true} else k
omit [a7] in
theorem adq (cT:Nat) (k:h6):vo cT (vo cT k)=vo cT k:=by
 unfold vo;cases h:Nat.beq k.cT cT<;>simp [h]
omit [a7] in
theorem IJ (cT:Nat):∀(l:List Nat) (t dr:bY h6),CQ cT l t=some dr->∀j,dr.get j=if j∈l then (t.get j).map (vo cT) else t.get j
 |[],t,dr,h,j=>by cases h;simp
 |m::r,t,dr,h,j=>by
  unfold CQ at h;split at h
  ·rename_i k al
   cases aR:Nat.beq k.cT cT with
   |true=>
    rw[aR,bF] at h;split at h
    ·rename_i t1 adr
     have gP:=λj=>bY.oh _ _ _ _ _ j adr
     have nE:({k with ro:=true}:h6)=vo cT k:=by simp [vo,aR]
     rw[IJ cT r t1 dr h j,gP];by_cases fi:j=m
     ·subst fi
      rw[aY rfl,aY List.mem_cons_self,al,nE];split
      ·simp [adq]
      ·rfl
     ·rw[a_ fi]
      have:(j∈m::r)↔j∈r:=by simp [fi]
      simp only [this]
    ·cases h
   |false=>
    rw[aR,eD] at h;rw[IJ cT r t dr h j];by_cases fi:j=m
    ·subst fi
     rw[aY List.mem_cons_self,al];have:vo cT k=k:=by simp [vo,aR]
     split<;>simp [this]
    ·have:(j∈m::r)↔j∈r:=by simp [fi]
     simp only [this]
  ·rename_i al
   rw[IJ cT r t dr h j];by_cases fi:j=m
   ·subst fi
    rw[aY List.mem_cons_self,al];split<;>rfl
   ·have:(j∈m::r)↔j∈r:=by simp [fi]
    simp only [this]
def a8.freeze (A:a8) (k:h6):Option a8:=
 match A.mem.get k.cT with
 |some l=>match CQ k.cT l A.bl with
  |some t=>some {A with bl:=t,low:=l.foldl Nat.min A.low}
  |none=>none
 |none=>none
theorem ads (ao:b2 φ A w) {b n:Nat} {k:h6} {c:List J} {e:hS} (off:Nat) (al:A.bl.get b=some k) (fK:k.obj= .cells c) (dL:k.ro=false) (he:φ b=some e) (h:A.freeze k=some a'):
  cF φ A w φ a' (w.freeze ⟨e.bn,e.sh+off,none⟩ n):=by
 unfold a8.freeze at h;split at h
 ·rename_i l hl
  split at h
  ·rename_i t aN
   cases h;have gP:=IJ _ _ _ _ aN;obtain⟨mT,adt⟩:=Ik l A.low;obtain⟨ez,h1,_,ho⟩:=ao.eE b e he;rw[al] at h1;cases h1;unfold fS at ho;simp only [fK] at ho;obtain⟨c',jl,ad,ag,ay,bG,cJ⟩:=ho;have gJ:∀j dS,t.get j=some dS->∃cp,A.bl.get j=some cp/\dS.cT=cp.cT/\dS.pos=cp.pos/\dS.eN=cp.eN/\dS.ty=cp.ty/\dS.obj=cp.obj/\dS.ro=(cp.ro||Nat.beq cp.cT k.cT):=by
    intro j dS hj;rw[gP] at hj;by_cases kL:j∈l
    ·rw[aY kL] at hj
     obtain⟨cp,q1,rfl⟩:=Option.map_eq_some_iff.1 hj;refine⟨cp,q1,?_⟩;unfold vo;cases aR:Nat.beq cp.cT k.cT<;>simp
    ·rw[a_ kL] at hj
     refine⟨dS,hj,rfl,rfl,rfl,rfl,rfl,?_⟩;cases aR:Nat.beq dS.cT k.cT with
     |false=>simp
     |true=>
      exfalso;obtain⟨l',q1,aH⟩:=ao.wf.mem j dS hj;rw[cI aR,hl] at q1;cases q1;exact kL aH
   have qw:∀i,i≠e.bn->(w.freeze ⟨e.bn,e.sh+off,none⟩ n).heap[i]? =w.heap[i]? :=λi ai=>by
    unfold World.freeze;split
    ·rfl
    ·simp only [Array.getElem?_modify]
     rw[a_ (Ne.symm ai)]
   have MT:∃IK,(w.freeze ⟨e.bn,e.sh+off,none⟩ n).heap[e.bn]? =some (.cells c' k.ty IK):=by
    unfold World.freeze;split
    ·exact⟨jl,ad⟩
    ·simp only [Array.getElem?_modify,aY,ad,Option.map_some]
     exact⟨_,rfl⟩
   obtain⟨IK,MT⟩:=MT;refine {rel:=⟨⟨?_,?_,?_,?_⟩,?_,?_,?_,λi o ai=>⟨by rw[qw i (Ne.symm ((ao.dn i o ai).2 _ _ he))];exact(ao.dn i o ai).1,(ao.dn i o ai).2⟩⟩,eE:=λ_ _=>rfl,rW:=λb ad ag=>absurd ag (by show ¬b<A.n;omega),new:=λb e ad ag=>absurd (ao.lt ag) aj,qv:=ch _,low:=mT,same:= ?_,ro:= ?_,keep:= ?_,gN:= ?_,os:= ?_,tape:= ?_,output:= ?_,drawn:= ?_}
   ·intro j dS hj
    obtain⟨cp,q1,_⟩:=gJ j dS hj;exact ao.wf.lt j cp q1
   ·intro j dS hj
    obtain⟨cp,q1,aH,_⟩:=gJ j dS hj;rw[aH];exact ao.wf.t' j cp q1
   ·intro j dS hj
    obtain⟨cp,q1,aH,_⟩:=gJ j dS hj;rw[aH];exact ao.wf.mem j cp q1
   ·intro j pT fL pU hj gZ aR
    obtain⟨cp,q1,aH,_,_,_,_,b0⟩:=gJ j pT hj;obtain⟨dS,vk,AB,_,_,_,_,sU⟩:=gJ fL pU gZ;rw[aH,AB] at aR;rw[b0,sU,ao.wf.ve j cp fL dS q1 vk aR,aR]
   ·intro j gk hj
    obtain⟨cp,h2,wJ,iu⟩:=ao.eE j gk hj;obtain⟨dS,UF⟩:∃dS,t.get j=some dS:=by
     rw[gP];split
     ·rw[h2];exact⟨_,rfl⟩
     ·exact⟨cp,h2⟩
    obtain⟨eU,q1,aH,b0,eF,hz,ld,oX⟩:=gJ j dS UF;rw[h2] at q1;cases q1;refine⟨dS,UF,by rw[eF];exact wJ,?_⟩;by_cases jW:gk.bn=e.bn
    ·have oi:cp.cT=k.cT:=by
      rcases Nat.lt_trichotomy cp.cT k.cT with h|h|h
      ·exact absurd jW (ao.apart j gk cp b e k hj he h2 al aj)
      ·exact h
      ·exact absurd jW (ao.apart j gk cp b e k hj he h2 al aj)
     have adu:dS.ro=true:=by rw[oX,oi];simp
     unfold fS at iu ⊢;rw[ld];cases ig:cp.obj with
     |cells AD=>
      simp only [ig] at iu ⊢;obtain⟨EF,EG,cS,dy,gj,vf,CE⟩:=iu;rw[jW,ad] at cS;simp only [cQ,Obj.cells.injEq] at cS;obtain⟨rfl,hty,rfl⟩:=cS;refine⟨c',IK,by rw[jW,hz,<-hty];exact MT,dy,by rw[eF];exact gj,vf,λah=> ?_⟩;rw[adu] at ah;cases ah
     |map es e6=>
      simp only [ig] at iu;obtain⟨dt,cS,_⟩:=iu;rw[jW,ad] at cS;cases cS
     |gw x=>
      simp only [ig] at iu;obtain⟨_,o',cS,dy⟩:=iu;rw[jW,ad] at cS;cases cS;exact absurd dy λh=>rV.TY h
    ·have:=iu.mono (w':=w.freeze ⟨e.bn,e.sh+off,none⟩ n) (λ_ _ h=>h) (qw _ jW)
     unfold fS at this ⊢;rw[ld];cases ig:cp.obj with
     |cells AD=>
      simp only [ig] at this ⊢;obtain⟨EF,EG,cS,dy,gj,vf,CE⟩:=this;refine⟨EF,EG,by rw[hz];exact cS,dy,by rw[eF];exact gj,vf,λah=>CE ?_⟩;rw[oX] at ah;simp only [Bool.or_eq_false_iff] at ah;exact ah.1
     |map es e6=>
      simp only [ig] at this ⊢;exact this
     |gw x=>
      simp only [ig] at this ⊢;exact this
   ·intro j gk pT fL q4 pU q1 aH hj gZ c1
    obtain⟨cp,cS,dy,_⟩:=gJ j pT hj;obtain⟨dS,uq,vp,_⟩:=gJ fL pU gZ;exact ao.apart j gk cp fL q4 dS q1 aH cS uq (by rw[<-dy,<-vp];exact c1)
   ·intro j gk pT fL q4 pU q1 aH hj gZ aR af
    obtain⟨cp,cS,dy,gj,_⟩:=gJ j pT hj;obtain⟨dS,uq,vp,CR,_⟩:=gJ fL pU gZ;rw[gj,CR];exact ao.along j gk cp fL q4 dS q1 aH cS uq (by rw[<-dy,<-vp];exact aR) af
   ·intro j hj kL
    show t.get j=_;rw[gP,a_];intro hm;have:=adt j hm;exact absurd kL (by show ¬j<l.foldl Nat.min A.low;omega)
   ·intro j cp h2 rZ
    show t.get j=_;rw[gP];split
    ·rw[h2]
     simp only [Option.map_some,cQ];unfold vo;cases aR:Nat.beq cp.cT k.cT with
     |false=>rfl
     |true=>
      obtain⟨jn,f1,ih,s1,aoB,t1⟩:=cp;simp only at rZ;subst rZ;rfl
    ·exact h2
   ·intro i ai lD
    refine qw i λqx=> ?_
    have:=lD b e k he qx.symm al;rw[dL] at this;cases this
   ·unfold World.freeze;split
    ·exact ch _
    ·simp
   all_goals (unfold World.freeze;split<;>first|rfl|exact ch _)
  ·cases h
 ·cases h
def MU (P:aS) (A:a8) (c7:Array aK) (x n:J):Option (J×a8):=
 match c7[0]?,x,n with
 |some UG,.pointer (some ⟨b,off,none⟩),.int _ n=>match bk P (elemOf UG),A.bl.get b with
  |some u,some k=>match k.obj with
   | .cells _=>
     bif decide (0<n)&&decide (n<=16777216)&&Nat.beq (P.cellsOf k.ty) 1&&sameLayout P P.depth k.ty u&& !k.ro then
      match A.r0 b off n.toNat with
      |some l=>match MS l .empty,A.freeze k with
       |some s,some bH=>some (.string s,bH)
       |_,_=>none
      |none=>none
     else none
   |_=>none
  |_,_=>none
 |_,_,_=>none
theorem adv (ao:b2 φ A w) {c7:Array aK} {ty:aK} {x x' n v:J} (aq:aD φ x x') (h:MU P A c7 x n=some (v,a')):b7 (hT v) P φ A w (Builtin.unsafeString_ c7 ty #[x',n]) a':=by
 unfold MU at h;split at h
 ·rename_i UG b off eU n adw
  split at h
  ·rename_i u k hu al
   split at h
   ·rename_i c fK
    cases ar:(decide (0<n)&&decide (n<=16777216)&&Nat.beq (P.cellsOf k.ty) 1&&sameLayout P P.depth k.ty u&& !k.ro) with
    |false=>rw[ar] at h;cases h
    |true=>
     rw[ar,bF] at h;simp only [c8,decide_eq_true_eq,Bool.not_eq_true'] at ar;obtain⟨⟨⟨⟨fc,hJ⟩,AN⟩,UH⟩,dL⟩:=ar;have AN:P.cellsOf k.ty=1:=cI AN;split at h
     ·rename_i l hl
      split at h
      ·rename_i s bH aw aR
       simp only [cQ,Prod.mk.injEq] at h;obtain⟨rfl,rfl⟩:=h;cases aq with
       |ptr he=>
        rename_i e;obtain⟨hlen,vm⟩:=AF hl;obtain⟨k',dD,_,ho⟩:=ao.eE b e he;rw[al] at dD;cases dD;unfold fS at ho;simp only [fK] at ho;obtain⟨c',jl,ad,ag,ay,bG,cJ⟩:=ho;have qA:off+n.toNat<=c.length:=by
         have aA:=vm (n.toNat-1) aj;unfold a8.load at aA;rw[al] at aA;obtain⟨ua,cT,pos,st,ro,aoC⟩:=k;simp only at fK;subst fK;simp only at aA;have:=(List.getElem?_eq_some_iff.1 aA).1;omega
        have fy:=adp (P:=P) ao he l off .empty s (λj hj=>vm j aj) aw;have pV:=ads (n:=n.toNat) ao off al fK dL he aR;refine⟨φ,_,.string s,?_,.string s,pV⟩;have MQ:liesAt P P.depth k.ty (c'.size/P.cellsOf k.ty) (e.sh+off) u n.toNat=true:=by
         obtain⟨d,bg⟩:∃d,P.depth=d+1:=⟨_,rfl⟩;rw[bg] at UH ⊢;unfold liesAt rowAt;rw[bg];simp only [AN,Nat.div_one,Nat.mod_one,beq_self_eq_true,Bool.true_and];have:decide (e.sh+off+n.toNat<=c'.size)=true:=eC aj;simp [this,UH]
        have aC:(variablesAt ⟨e.bn,e.sh+off,none⟩ u n.toNat).run P w= .ok true w:=by
         unfold variablesAt;refine c9 (a:=P) rfl ?_;refine dm (II ad) ?_;simp only [MQ];rfl
        refine c9 (s:=asInt (.int eU n)) (a:=n) rfl ?_;have xU:¬n>IntKind.i64.max:=by
         have:(16777216:Int)<=IntKind.i64.max:=by decide
         omega
        simp only [adw];rw[a_ aj,a_ xU,a_ aj];refine c9 hu ?_;refine dm aC ?_;rw[aY rfl];refine dm (by rw[<-hlen];exact fy) ?_;rfl
      ·cases h
     ·cases h
   ·cases h
  ·cases h
 ·cases h
def MV (P:aS) (A:a8) (c7:Array aK) (x:J):Option a8:=
 match c7[0]? with
 |some t=>match bk P (underlying t),x with
  |some (.slice _),.slice none _ _=>some A
  |some (.slice elem),.slice (some ⟨b,off,none⟩) n _=>bif Nat.beq n 0 then some A else
    match bk P (zeroValue elem) with
    |some z=>bif plain z&&(cellsOf z).isSome&&Nat.blt 0 z.cells.size then A.q5 b off (Builtin.zeroCells z.cells n).toList else none
    |none=>none
  |_,_=>none
 |none=>none
theorem adx (ao:b2 φ A w) {c7:Array aK} {ty:aK} {x x':J} (aq:aD φ x x') (h:MV P A c7 x=some a'):b7 (hT undef) P φ A w (Builtin.clear_ c7 ty #[x']) a':=by
 unfold MV at h;split at h
 ·rename_i t aN
  split at h
  ·rename_i e l c hu
   cases h;cases aq;refine⟨φ,w,undef,?_,aD.zc φ,cF.refl ao⟩;unfold Builtin.clear_;simp only [aN,List.getElem?_toArray,List.getElem?_cons_zero];exact c9 hu rfl
  ·rename_i elem b off n c hu
   have ady:∃a6 c',x'= .slice (some a6) n c':=by
    cases aq with
    |iD _ _ h=>exact⟨_,_,rfl⟩
    |iE _ _ _ h _ _ _=>exact⟨_,_,rfl⟩
    |i_ a6 _=>exact⟨_,_,rfl⟩
   cases av:Nat.beq n 0 with
   |true=>
    rw[av] at h;cases h;have fc:n=0:=cI av;subst fc;obtain⟨a6,c',rfl⟩:=ady;refine⟨φ,w,undef,?_,aD.zc φ,cF.refl ao⟩;unfold Builtin.clear_;simp only [aN,List.getElem?_toArray,List.getElem?_cons_zero];exact c9 hu rfl
   |false=>
    rw[av,eD] at h;have fc:n≠0:=λe=>by subst e;simp at av
    split at h
    ·rename_i z bW
     cases ar:(plain z&&(cellsOf z).isSome&&Nat.blt 0 z.cells.size) with
     |false=>rw[ar] at h;cases h
     |true=>
      rw[ar,bF] at h;simp only [c8] at ar;have r2:=Nat.blt_eq.mp ar.2;have qz:=Is ar.1.1 ar.1.2 φ;have km:∀j,j<(Builtin.zeroCells z.cells n).toList.length->aD φ ((Builtin.zeroCells z.cells n).toList.getD j undef) ((Builtin.zeroCells z.cells n).toList.getD j undef):=by
       intro j hj;unfold Builtin.zeroCells at hj ⊢;simp at hj;have hm:=Nat.mod_lt j r2;have:=qz (j%z.cells.size) hm;simp only [fk] at this;simpa [dq,hj,hm,getElem!_pos] using this
      have main:∀(e:hS) (c':Nat),φ b=some e->x'= .slice (some ⟨e.bn,e.sh+off,none⟩) n c'->b7 (hT undef) P φ A w (Builtin.clear_ c7 ty #[x']) a':=by
       intro e c' he r6;obtain⟨w',g1,g2⟩:=CI P he _ A a' w off 0 (Builtin.zeroCells z.cells n).toList ao (by simpa using h) rfl km;refine⟨φ,w',undef,?_,aD.zc φ,g2⟩;subst r6;unfold Builtin.clear_;simp only [aN,List.getElem?_toArray,List.getElem?_cons_zero];refine c9 hu ?_;obtain⟨gd,rfl⟩:∃gd,n=gd+1:=⟨n-1,aj⟩;refine c9 bW ?_;exact dm (by simpa using g1) rfl
      cases aq with
      |iD _ _ he=>exact main _ _ he rfl
      |iE _ _ _ he _ _ _=>exact main _ _ he rfl
      |i_ a6 _=>exact absurd rfl fc
    ·cases h
  ·cases h
 ·cases h
end
end AE
namespace AE
variable [a7]
def a8.AO (A:a8) (b:Nat):Option (List kj×Nat):=
 match A.bl.get b with
 |some k=>match k.obj with
  | .map es e6=>some (es,e6)
  |_=>none
 |none=>none
def a8.xV (A:a8) (b:Nat) (es:List kj) (e6:Nat):Option a8:=
 match A.bl.get b with
 |some k=>match k.obj,A.mem.get k.cT with
  | .map _ _,some [m]=>bif Nat.beq m b&& !k.ro then
      match bY.set {k with obj:= .map es e6} depth A.bl b with
      |some t=>some {A with bl:=t,low:=Nat.min A.low b}
      |none=>none
    else none
  |_,_=>none
 |none=>none
def a8.MW (A:a8) (b:Nat):Option (ByteArray×Nat):=
 match A.bl.get b with
 |some k=>match k.obj with
  | .gw (.xM s p)=>some (s,p)
  |_=>none
 |none=>none
def a8.setIter (A:a8) (b:Nat) (s:ByteArray) (p:Nat):Option a8:=
 match A.bl.get b with
 |some k=>match k.obj,A.mem.get k.cT with
  | .gw _,some [m]=>bif Nat.beq m b&& !k.ro then
      match bY.set {k with obj:= .gw (.xM s p)} depth A.bl b with
      |some t=>some {A with bl:=t,low:=Nat.min A.low b}
      |none=>none
    else none
  |_,_=>none
 |none=>none
def lG (φ:b4) (es:List kj) (dt:Array MapEntry):Prop:=
 es.length=dt.size/\∀(j:Nat) (a:kj) (b:MapEntry),es[j]? =some a->dt[j]? =some b->plain a.key=true/\a.key=b.key/\aD φ a.val b.val/\a.born=b.born
section
variable {P:aS} {φ:b4} {A a':a8} {w:ax}
theorem EZ (ao:b2 φ A w) {b:Nat} {es:List kj} {e6:Nat} {e:hS} (h:A.AO b=some (es,e6)) (he:φ b=some e):∃dt,w.heap[e.bn]? =some (.map dt e6)/\lG φ es dt:=by
 unfold a8.AO at h;split at h
 ·rename_i k al
  obtain⟨k',dD,_,ho⟩:=ao.eE b e he;rw[al] at dD;cases dD;split at h
  ·rename_i CS aoD fK
   cases h;simp only [fS,fK] at ho;obtain⟨dt,ad,ag,ay⟩:=ho;exact⟨dt,ad,ag,ay⟩
  ·cases h
 ·cases h
theorem adz (ao:b2 φ A w) {b p:Nat} {s:ByteArray} {e:hS} (h:A.MW b=some (s,p)) (he:φ b=some e):e.sh=0/\w.heap[e.bn]? =some (.stringIter s p):=by
 unfold a8.MW at h;split at h
 ·rename_i k al
  obtain⟨k',dD,_,ho⟩:=ao.eE b e he;rw[al] at dD;cases dD;split at h
  ·rename_i aO sW fK
   cases h;simp only [fS,fK] at ho;obtain⟨aL,o',ad,ag⟩:=ho;simp only [rV] at ag;exact⟨aL,by rw[ad,ag]⟩
  ·cases h
 ·cases h
theorem UI (ao:b2 φ A w) {b:Nat} {k:h6} {o:q2} {t:bY h6} {e:hS} {o':Obj} (he:φ b=some e) (al:A.bl.get b=some k) (mU:A.mem.get k.cT=some [b]) (dL:k.ro=false) (aN:bY.set {k with obj:=o} depth A.bl b=some t)
  (ho:∀w',w'.heap[e.bn]? =some o'->fS φ w' e k->fS φ w' e {k with obj:=o}\/True) (AK:∀w',w'.heap[e.bn]? =some o'->fS φ w' e {k with obj:=o}):
  cF φ A w φ {A with bl:=t,low:=Nat.min A.low b} {w with heap:=w.heap.setIfInBounds e.bn o'}:=by
 have gP:=λj=>bY.oh _ _ _ _ _ j aN
 obtain⟨ez,h1,c0,CT⟩:=ao.eE b e he;rw[al] at h1;cases h1;have cg:=CT.lt;have MX:∀j cp,A.bl.get j=some cp->cp.cT=k.cT->j=b:=by
  intro j cp hj aR;obtain⟨l,q1,aH⟩:=ao.wf.mem j cp hj;rw[aR,mU] at q1;cases q1;simpa using aH
 have c1:∀j gk,j≠b->φ j=some gk->gk.bn≠e.bn:=by
  intro j gk hj ie;obtain⟨cp,h2,_,_⟩:=ao.eE j gk ie;exact ao.apart j gk cp b e k ie he h2 al λaR=>hj (MX j cp h2 aR)
 have qw:∀i,i≠e.bn->(w.heap.setIfInBounds e.bn o')[i]? =w.heap[i]? :=λi ai=>by
  rw[Array.getElem?_setIfInBounds_ne (Ne.symm ai)]
 have gJ:∀j dS,t.get j=some dS->∃cp,A.bl.get j=some cp/\dS.cT=cp.cT/\dS.pos=cp.pos/\dS.ro=cp.ro:=by
  intro j dS hj;rw[gP] at hj;by_cases fi:j=b
  ·rw[aY fi] at hj
   cases hj;subst fi;exact⟨k,al,rfl,rfl,rfl⟩
  ·rw[a_ fi] at hj
   exact⟨dS,hj,rfl,rfl,rfl⟩
 refine {rel:=⟨⟨?_,?_,?_,?_⟩,?_,?_,?_,λi o ai=>⟨by rw[qw i (Ne.symm ((ao.dn i o ai).2 _ _ he))];exact(ao.dn i o ai).1,(ao.dn i o ai).2⟩⟩,eE:=λ_ _=>rfl,rW:=λb ad ag=>absurd ag (by show ¬b<A.n;omega),new:=λb e ad ag=>absurd (ao.lt ag) aj,qv:=ch _,low:=Nat.min_le_left _ _,same:= ?_,ro:= ?_,keep:= ?_,gN:=by simp,os:=rfl,tape:=rfl,output:=rfl,drawn:=ch _}
 ·intro j dS hj
  obtain⟨cp,q1,_⟩:=gJ j dS hj;exact ao.wf.lt j cp q1
 ·intro j dS hj
  obtain⟨cp,q1,aH,_⟩:=gJ j dS hj;rw[aH];exact ao.wf.t' j cp q1
 ·intro j dS hj
  obtain⟨cp,q1,aH,_⟩:=gJ j dS hj;rw[aH];exact ao.wf.mem j cp q1
 ·intro j pT fL pU hj gZ aR
  obtain⟨cp,q1,aH,_,b0⟩:=gJ j pT hj;obtain⟨dS,vk,AB,_,sU⟩:=gJ fL pU gZ;rw[b0,sU];exact ao.wf.ve j cp fL dS q1 vk (by rw[<-aH,<-AB];exact aR)
 ·intro j gk hj
  by_cases fi:j=b
  ·subst fi
   rw[he] at hj;cases hj;exact⟨{k with obj:=o},by rw[gP,aY rfl],c0,AK _ (by show (w.heap.setIfInBounds e.bn o')[e.bn]? =_;rw[Array.getElem?_setIfInBounds_self_of_lt cg])⟩
  ·obtain⟨cp,h2,wJ,iu⟩:=ao.eE j gk hj
   exact⟨cp,by rw[gP,a_ fi];exact h2,wJ,iu.mono (λ_ _ h=>h) (qw _ (c1 j gk fi hj))⟩
 ·intro j gk pT fL q4 pU q1 aH hj gZ nF
  obtain⟨cp,cS,dy,_⟩:=gJ j pT hj;obtain⟨dS,uq,vp,_⟩:=gJ fL pU gZ;exact ao.apart j gk cp fL q4 dS q1 aH cS uq (by rw[<-dy,<-vp];exact nF)
 ·intro j gk pT fL q4 pU q1 aH hj gZ aR af
  obtain⟨cp,cS,dy,gj,_⟩:=gJ j pT hj;obtain⟨dS,uq,vp,CR,_⟩:=gJ fL pU gZ;rw[gj,CR];exact ao.along j gk cp fL q4 dS q1 aH cS uq (by rw[<-dy,<-vp];exact aR) af
 ·intro j hj kL
  show t.get j=_;rw[gP,a_];intro fi;subst fi;exact absurd (Nat.lt_of_lt_of_le kL (Nat.min_le_right A.low j)) (Nat.lt_irrefl j)
 ·intro j cp h2 rZ
  show t.get j=_;rw[gP,a_]
  ·exact h2
  ·intro fi
   subst fi;rw[al] at h2;cases h2;rw[dL] at rZ;cases rZ
 ·intro i ai lD
  refine qw i λqx=> ?_
  have:=lD b e k he qx.symm al;rw[dL] at this;cases this
theorem AP (ao:b2 φ A w) {b:Nat} {es:List kj} {dt:Array MapEntry} {e6:Nat} {e:hS} (he:φ b=some e) (h:A.xV b es e6=some a') (gG:lG φ es dt):cF φ A w φ a' {w with heap:=w.heap.setIfInBounds e.bn (.map dt e6)}:=by
 unfold a8.xV at h;split at h
 ·rename_i k al
  split at h
  ·rename_i fN vq m fK mU
   cases ar:(Nat.beq m b&& !k.ro) with
   |false=>rw[ar] at h;cases h
   |true=>
    rw[ar,bF] at h;simp only [c8,Bool.not_eq_true'] at ar;have E0:m=b:=cI ar.1;subst E0;split at h
    ·rename_i t aN
     cases h;exact UI ao he al mU ar.2 aN (λ_ _ _=> .inr trivial) λw' EI=>by
      simp only [fS];exact⟨dt,EI,gG.1,gG.2⟩
    ·cases h
  ·cases h
 ·cases h
theorem adA (ao:b2 φ A w) {b p:Nat} {s:ByteArray} {e:hS} (he:φ b=some e) (aL:e.sh=0) (h:A.setIter b s p=some a'):cF φ A w φ a' {w with heap:=w.heap.setIfInBounds e.bn (.stringIter s p)}:=by
 unfold a8.setIter at h;split at h
 ·rename_i k al
  split at h
  ·rename_i fN m fK mU
   cases ar:(Nat.beq m b&& !k.ro) with
   |false=>rw[ar] at h;cases h
   |true=>
    rw[ar,bF] at h;simp only [c8,Bool.not_eq_true'] at ar;have E0:m=b:=cI ar.1;subst E0;split at h
    ·rename_i t aN
     cases h;exact UI ao he al mU ar.2 aN (λ_ _ _=> .inr trivial) λw' EI=>by
      simp only [fS];exact⟨aL,_,EI,rfl⟩
    ·cases h
  ·cases h
 ·cases h
def vr (es:List kj):List MapEntry:=es.map λe=>{key:=e.key,val:= .bool false,born:=0}
omit [a7] in
theorem UJ (kind:TypeDesc) (key:J):∀(es:List kj) (dt:List MapEntry) (i:Nat),es.map (·.key)=dt.map (·.key)->
  match Instr.findNow kind key (vr es) i with
  |none=>Instr.findNow kind key dt i=none
  |some none=>Instr.findNow kind key dt i=some none
  |some (some (j,_))=>∃b,i<=j/\dt[j-i]? =some b/\Instr.findNow kind key dt i=some (some (j,b.val))
 |[],[],i,_=>by simp [vr,Instr.findNow]
 |[],_::_,_,h=>by simp at h
 |_::_,[],_,h=>by simp at h
 |a::r,b::eo,i,h=>by
  simp only [List.map_cons,List.cons.injEq] at h;have cA:=UJ kind key r eo (i+1) h.2;have bg:vr (a::r)={key:=a.key,val:= .bool false,born:=0}::vr r:=rfl;rw[bg];unfold Instr.findNow;simp only;rw[h.1];cases aw:Instr.sameNow kind key b.key with
  |none=>simp
  |some t=>
   cases t with
   |true=>
    simp only;exact⟨b,ch _,by simp,rfl⟩
   |false=>
    simp only;cases aR:Instr.findNow kind key (vr r) (i+1) with
    |none=>rw[aR] at cA;exact cA
    |some o=>cases o with
     |none=>rw[aR] at cA;exact cA
     |some p=>
      obtain⟨j,u⟩:=p;rw[aR] at cA;obtain⟨b',ad,ag,ay⟩:=cA;exact⟨b',aj,by rw[show j-i=(j-(i+1))+1 by omega];exact ag,ay⟩
omit [a7] in
theorem UK (hq:aK) (key:J):∀(es:List kj) (dt:List MapEntry) (i:Nat) (r:Option (Nat×J)),es.map (·.key)=dt.map (·.key)->bk P (Instr.findAsking hq key (vr es) i)=some r->
  match r with
  |none=>∀w,(Instr.findAsking hq key dt i).run P w= .ok none w
  |some (j,_)=>∃b,i<=j/\dt[j-i]? =some b/\∀w,(Instr.findAsking hq key dt i).run P w= .ok (some (j,b.val)) w
 |[],[],i,r,_,h=>by
  simp only [vr,List.map_nil,Instr.findAsking] at h;cases h;exact λw=>rfl
 |[],_::_,_,_,h,_=>by simp at h
 |_::_,[],_,_,h,_=>by simp at h
 |a::l,b::l',i,r,al,h=>by
  simp only [List.map_cons,List.cons.injEq] at al;have bg:vr (a::l)={key:=a.key,val:= .bool false,born:=0}::vr l:=rfl;rw[bg] at h;unfold Instr.findAsking at h;rw[sV] at h;cases he:bk P (Op.equal hq key a.key) with
  |none=>rw[he] at h;cases h
  |some t=>
   rw[he] at h;simp only [Option.bind_some] at h;have oY:=jD (al.1▸he);cases t with
   |true=>
    simp only [if_true] at h;cases h;refine⟨b,ch _,by simp,λw=> ?_⟩;unfold Instr.findAsking;exact dm (oY w) (by simp only [if_true];rfl)
   |false=>
    simp only [Bool.false_eq_true,if_false] at h;have cA:=UK hq key l l' (i+1) r al.2 h;cases r with
    |none=>
     intro w;unfold Instr.findAsking;exact dm (oY w) (by simp only [Bool.false_eq_true,if_false];exact cA w)
    |some p=>
     obtain⟨j,u⟩:=p;obtain⟨b',ad,ag,ay⟩:=cA;refine⟨b',aj,by rw[show j-i=(j-(i+1))+1 by omega];exact ag,λw=> ?_⟩;unfold Instr.findAsking;exact dm (oY w) (by simp only [Bool.false_eq_true,if_false];exact ay w)
def CU (P:aS) (hq:aK) (key:J) (es:List kj):Option (Option Nat):=(bk P (Instr.findKey hq key (vr es))).map (Option.map (·.1))
omit [a7] in
theorem zj {hq:aK} {key:J} {es:List kj} {dt:List MapEntry} (al:es.map (·.key)=dt.map (·.key)) {r:Option Nat} (h:CU P hq key es=some r):
  match (generalizing:=false) r with
  |none=>∀w,(Instr.findKey hq key dt).run P w= .ok none w
  |some j=>∃b,dt[j]? =some b/\∀w,(Instr.findKey hq key dt).run P w= .ok (some (j,b.val)) w:=by
 unfold CU at h;rw[xL] at h;obtain⟨q,h,rfl⟩:=h;unfold Instr.findKey at h;rw[sV] at h;cases hu:bk P (underlying hq) with
 |none=>rw[hu] at h;cases h
 |some d=>
  rw[hu] at h;simp only [Option.bind_some] at h;have av:=UJ d key es dt 0 al;have IL:=jD hu;cases aR:Instr.findNow d key (vr es) 0 with
  |none=>
   rw[aR] at h av;simp only at h av;have ha:=UK (P:=P) hq key es dt 0 q al h;cases q with
   |none=>
    intro w;unfold Instr.findKey;exact dm (IL w) (by rw[av];exact ha w)
   |some p=>
    obtain⟨j,u⟩:=p;obtain⟨b,_,ag,ay⟩:=ha;refine⟨b,by simpa using ag,λw=> ?_⟩;unfold Instr.findKey;exact dm (IL w) (by rw[av];exact ay w)
  |some o=>
   rw[aR] at h av;simp only at h;have ga:o=q:=by
    have:some o=some q:=h;cases this;rfl
   subst ga;cases o with
   |none=>
    intro w;unfold Instr.findKey;exact dm (IL w) (by rw[av];rfl)
   |some p=>
    obtain⟨j,u⟩:=p;obtain⟨b,_,ag,ay⟩:=av;refine⟨b,by simpa using ag,λw=> ?_⟩;unfold Instr.findKey;exact dm (IL w) (by rw[ay];rfl)
theorem lG.keys {es:List kj} {dt:Array MapEntry} (h:lG φ es dt):es.map (·.key)=dt.toList.map (·.key):=by
 refine List.ext_getElem? λj=> ?_
 simp only [List.getElem?_map,Array.getElem?_toList];cases ad:es[j]? with
 |none=>
  have:dt[j]? =none:=by
   rw[Array.getElem?_eq_none_iff,<-h.1];exact List.getElem?_eq_none_iff.1 ad
  rw[this];rfl
 |some a=>
  have cg:j<dt.size:=by rw[<-h.1];exact(List.getElem?_eq_some_iff.1 ad).1
  obtain⟨b,af⟩:∃b,dt[j]? =some b:=⟨_,Array.getElem?_eq_getElem cg⟩;rw[af];simp only [Option.map_some,cQ];exact(h.2 j a b ad af).2.1
theorem lG.isEmpty {es:List kj} {dt:Array MapEntry} (h:lG φ es dt):es.isEmpty=dt.isEmpty:=by
 have:=h.1;cases es with
 |nil=>simp at this;simp [Array.isEmpty,<-this]
 |cons a r=>simp at this;simp [Array.isEmpty,<-this]
theorem lG.nil:lG φ [] #[]:=⟨rfl,λj a b h=>by simp at h⟩
def MY (P:aS) (A:a8) (t:aK) (r:Option J):Option (J×a8):=
 match (match r with
  |none=>some ()
  |some h=>match bk P (underlying t),bk P (asInt h) with
   |some (.map _ _),some _=>some ()
   |_,_=>none) with
 |some _=>match A.push (.map [] 0) 0 0 with
  |some (b,bH)=>some (.map (some b),bH)
  |none=>none
 |none=>none
theorem adB (ao:b2 φ A w) {t:aK} {r:Option J} {v:J} (h:MY P A t r=some (v,a')):b7 (hT v) P φ A w (Instr.makeMap t r) a':=by
 unfold MY at h;split at h
 ·rename_i ar
  split at h
  ·rename_i b bH hp
   cases h;have c0:=CG (e:=⟨w.heap.size,0,0,0⟩) (o':= .map #[] 0) ao hp U U (by simp only [fS];exact⟨#[],by simp,rfl,λj a b h=>by simp at h⟩);have aC:aD (hk φ b ⟨w.heap.size,0,0,0⟩) (.map (some b)) (.map (some w.heap.size)):= .map (e:=⟨w.heap.size,0,0,0⟩) (by simp [hk]);refine⟨_,_,.map (some w.heap.size),?_,aC,c0⟩;unfold Instr.makeMap;cases r with
   |none=>rfl
   |some hint=>
    simp only at ar;split at ar
    ·rename_i a b' hu ai
     refine c9 hu ?_;simp only;refine c9 ai ?_;rfl
    ·cases ar
  ·cases h
 ·cases h
def mapOf (A:a8):J->Option (List kj)
 | .map none=>some []
 | .map (some b)=>(A.AO b).map (·.1)
 |_=>none
def IM (P:aS) (A:a8) (t:aK) (x fW:J) (ok:Bool):Option J:=
 bif plain fW then match bk P (underlying t) with
  |some (.map hq elem)=>match mapOf A x with
   |some es=>match bk P (Instr.checkKey es.isEmpty 10000 hq fW) with
    |some _=>match CU P hq fW es with
     |some (some j)=>match es[j]? with
      |some e=>some (bif ok then .tuple ⟨[e.val,.bool true]⟩ else e.val)
      |none=>none
     |some none=>match bk P (zeroValue elem) with
      |some z=>bif plain z then some (bif ok then .tuple ⟨[z,.bool false]⟩ else z) else none
      |none=>none
     |none=>none
    |none=>none
   |none=>none
  |_=>none
 else none
theorem UL {a a6:J} (h:aD φ a a6) (b:Bool):aD φ (.tuple ⟨[a,.bool b]⟩) (.tuple #[a6,.bool b]):= .tuple _ _ rfl λi ai=>by
 have:i<2:=by simpa using ai
 rcases(by omega:i=0\/i=1) with rfl|rfl
 ·simpa using h
 ·simpa using aD.bool b
omit [a7] in
theorem IN {t hq elem:aK} {x' fW z:J} {ok:Bool} {dt:Array MapEntry} {u:Unit} {E1:Option (Nat×J)} (aq:(x'= .map none/\dt= #[])\/∃r e6,x'= .map (some r)/\w.heap[r]? =some (.map dt e6)) (hu:bk P (underlying t)=some (.map hq elem))
  (nG:bk P (Instr.checkKey dt.isEmpty 10000 hq fW)=some u) (aR:(Instr.findKey hq fW dt.toList).run P w= .ok E1 w) (bW:E1=none->bk P (zeroValue elem)=some z):
  (Instr.lookup t x' fW ok).run P w= .ok (match (generalizing:=false) E1 with|some p=>(if ok then .tuple #[p.2,.bool true] else p.2)|none=>(if ok then .tuple #[z,.bool false] else z)) w:=by
 unfold Instr.lookup;refine c9 hu ?_;rcases aq with ⟨rfl,rfl⟩|⟨r,e6,rfl,aA⟩
 ·simp only
  refine dm (a:=(#[]:Array MapEntry)) (w1:=w) rfl ?_;refine c9 nG ?_;refine dm aR ?_;cases E1 with
  |some p=>
   obtain⟨j,v⟩:=p;simp only;refine dm (a:=(v,true)) (w1:=w) rfl ?_;cases ok<;>rfl
  |none=>
   simp only;refine c9 (bW rfl) ?_;refine dm (a:=(z,false)) (w1:=w) rfl ?_;cases ok<;>rfl
 ·simp only
  refine dm (r7 aA (by simp)) ?_;simp only;refine dm (a:=dt) (w1:=w) rfl ?_;refine c9 nG ?_;refine dm aR ?_;cases E1 with
  |some p=>
   obtain⟨j,v⟩:=p;simp only;refine dm (a:=(v,true)) (w1:=w) rfl ?_;cases ok<;>rfl
  |none=>
   simp only;refine c9 (bW rfl) ?_;refine dm (a:=(z,false)) (w1:=w) rfl ?_;cases ok<;>rfl
theorem adC (ao:b2 φ A w) {t:aK} {x x' fW v:J} {ok:Bool} (aq:aD φ x x') (h:IM P A t x fW ok=some v):b7 (hT v) P φ A w (Instr.lookup t x' fW ok) A:=by
 unfold IM at h;cases fD:plain fW with
 |false=>rw[fD] at h;cases h
 |true=>
  rw[fD,bF] at h;split at h
  ·rename_i hq elem hu
   split at h
   ·rename_i es uk
    split at h
    ·rename_i nG
     have zk:∃dt:Array MapEntry,lG φ es dt/\((x'= .map none/\dt= #[])\/∃r e6,x'= .map (some r)/\w.heap[r]? =some (.map dt e6)):=by
      unfold mapOf at uk;split at uk
      ·cases uk
       cases aq;exact⟨#[],lG.nil,.inl ⟨rfl,rfl⟩⟩
      ·rw[xL] at uk
       obtain⟨⟨CS,e6⟩,aA,rfl⟩:=uk;cases aq with
       |map he=>
        obtain⟨dt,ad,ag⟩:=EZ ao aA he;exact⟨dt,ag,.inr ⟨_,_,rfl,ad⟩⟩
      ·cases uk
     obtain⟨dt,gG,r6⟩:=zk;have UM:bk P (Instr.checkKey dt.isEmpty 10000 hq fW)=some ():=by rw[<-gG.isEmpty];exact nG
     split at h
     ·rename_i j hj
      split at h
      ·rename_i e xW
       simp only [cQ] at h;subst h;obtain⟨b,af,aR⟩:=zj gG.keys hj;rw[Array.getElem?_toList] at af;have aC:=(gG.2 j e b xW af).2.2.1;refine⟨φ,w,(if ok then .tuple #[b.val,.bool true] else b.val),IN (z:=undef) r6 hu UM (aR w) (λh=>by cases h),?_,cF.refl ao⟩;cases ok with
       |true=>exact UL aC true
       |false=>exact aC
      ·cases h
     ·rename_i hj
      split at h
      ·rename_i z bW
       cases lE:plain z with
       |false=>rw[lE] at h;cases h
       |true=>
        rw[lE,bF,cQ] at h;subst h;have aR:=zj gG.keys hj;refine⟨φ,w,(if ok then .tuple #[z,.bool false] else z),IN r6 hu UM (aR w) (λ_=>bW),?_,cF.refl ao⟩;cases ok with
        |true=>exact UL (aD.ky φ z lE) false
        |false=>exact aD.ky φ z lE
      ·cases h
     ·cases h
    ·cases h
   ·cases h
  ·cases h
def E2 (P:aS) (A:a8) (t:aK) (m key val:J):Option a8:=
 bif plain key then match bk P (underlying t),m with
  |some (.map hq _),.map (some b)=>match A.AO b with
   |some (es,e6)=>match bk P (Instr.checkKey false 10000 hq key),CU P hq key es with
    |some _,some (some j)=>match es[j]? with
     |some e=>bif Instr.sameBits 10000 e.key key then A.xV b (es.set j {e with key:=key,val:=val}) e6 else none
     |none=>none
    |some _,some none=>A.xV b (es++[{key:=key,val:=val,born:=e6}]) (e6+1)
    |_,_=>none
   |none=>none
  |_,_=>none
 else none
theorem lG.push {es:List kj} {dt:Array MapEntry} (h:lG φ es dt) {key val val':J} {e6:Nat} (al:plain key=true) (aC:aD φ val val'):lG φ (es++[{key:=key,val:=val,born:=e6}]) (dt.push {key:=key,val:=val',born:=e6}):=by
 refine⟨by simp [h.1],λj a b ha af=> ?_⟩;rw[List.getElem?_append] at ha;rw[Array.getElem?_push] at af;by_cases hj:j<es.length
 ·rw[aY hj] at ha
  rw[a_ (by rw[<-h.1];omega)] at af;exact h.2 j a b ha af
 ·rw[a_ hj] at ha
  by_cases gZ:j=dt.size
  ·rw[aY gZ] at af
   cases af;rw[show j-es.length=0 by rw[h.1];omega] at ha;simp only [List.getElem?_cons_zero,cQ] at ha;subst ha;exact⟨al,rfl,aC,rfl⟩
  ·rw[a_ gZ] at af
   have:=(Array.getElem?_eq_some_iff.1 af).1;have:=h.1;omega
theorem lG.modify {es:List kj} {dt:Array MapEntry} (h:lG φ es dt) {j:Nat} {e:kj} (hj:es[j]? =some e) {key val val':J} (al:plain key=true) (aC:aD φ val val'):
  lG φ (es.set j {e with key:=key,val:=val}) (dt.modify j λe=>{e with key:=key,val:=val'}):=by
 refine⟨by simp [h.1],λi a b ha af=> ?_⟩;rw[List.getElem?_set] at ha;rw[Array.getElem?_modify] at af;by_cases ov:j=i
 ·subst ov
  rw[aY rfl,aY (List.getElem?_eq_some_iff.1 hj).1] at ha;rw[aY rfl] at af;cases ha;rw[xL] at af;obtain⟨cu,e4,rfl⟩:=af;exact⟨al,rfl,aC,(h.2 j e cu hj e4).2.2.2⟩
 ·rw[a_ ov] at ha
  rw[a_ ov] at af;exact h.2 i a b ha af
omit [a7] in
theorem xX {o o':Obj} {r:Nat} (h:w.heap[r]? =some o) (ar:∀c t f,o≠.cells c t f):(setObj r o').run P w= .ok () {w with heap:=w.heap.setIfInBounds r o'}:=by
 unfold setObj;simp only [Sem.run,h]
theorem UN (ao:b2 φ A w) {t:aK} {m m' key val val':J} (hm:aD φ m m') (aC:aD φ val val') (h:E2 P A t m key val=some a'):b7 (λ_ _=>True) P φ A w (Instr.mapUpdate t m' key val') a':=by
 unfold E2 at h;cases fD:plain key with
 |false=>rw[fD] at h;cases h
 |true=>
  rw[fD,bF] at h;split at h
  ·rename_i hq elem b hu
   split at h
   ·rename_i es e6 aA
    cases hm with
    |map he=>
     rename_i em;obtain⟨dt,ad,gG⟩:=EZ ao aA he;split at h
     ·rename_i j nG hj
      split at h
      ·rename_i e xW
       cases AQ:Instr.sameBits 10000 e.key key with
       |false=>rw[AQ] at h;cases h
       |true=>
        rw[AQ,bF] at h;obtain⟨cu,af,aR⟩:=zj gG.keys hj;rw[Array.getElem?_toList] at af;have MZ:=(gG.2 j e cu xW af).2.1;refine⟨φ,_,(),?_,trivial,AP ao he h (gG.modify xW fD aC)⟩;unfold Instr.mapUpdate;refine c9 hu ?_;simp only;refine dm (r7 ad (by simp)) ?_;simp only;refine c9 nG ?_;refine dm (aR w) ?_;simp only;rw[show (((dt[j]?).map (·.key)).getD key)=e.key by rw[af];exact MZ.symm];refine dm (a:=key) (w1:=w) (by unfold Instr.keyThatStays;rw[aY AQ];rfl) ?_;exact xX ad (by simp)
      ·cases h
     ·rename_i nG hj
      have aR:=zj gG.keys hj;refine⟨φ,_,(),?_,trivial,AP ao he h (gG.push fD aC)⟩;unfold Instr.mapUpdate;refine c9 hu ?_;simp only;refine dm (r7 ad (by simp)) ?_;simp only;refine c9 nG ?_;refine dm (aR w) ?_;simp only;exact xX ad (by simp)
     ·cases h
    |_=>simp [ak,cB] at*
   ·cases h
  ·cases h
def IP (P:aS) (A:a8) (t:aK) (m key:J):Option (J×a8):=
 bif plain key then match bk P (underlying t),m with
  |some (.map hq elem),.map (some b)=>match A.AO b with
   |some (es,e6)=>match bk P (Instr.checkKey false 10000 hq key),CU P hq key es with
    |some _,some (some j)=>match es[j]? with
     |some e=>bif Instr.sameBits 10000 e.key key then match A.xV b (es.set j {e with key:=key,val:=e.val}) e6 with
       |some bH=>some (.tuple ⟨[e.val,.int .i64 e.born]⟩,bH)
       |none=>none
      else none
     |none=>none
    |some _,some none=>match bk P (zeroValue elem) with
     |some z=>bif plain z then match A.xV b (es++[{key:=key,val:=z,born:=e6}]) (e6+1) with
       |some bH=>some (.tuple ⟨[z,.int .i64 e6]⟩,bH)
       |none=>none
      else none
     |none=>none
    |_,_=>none
   |none=>none
  |_,_=>none
 else none
theorem UO {a a6:J} (h:aD φ a a6) (n:Int):aD φ (.tuple ⟨[a,.int .i64 n]⟩) (.tuple #[a6,.int .i64 n]):= .tuple _ _ rfl λi ai=>by
 have:i<2:=by simpa using ai
 rcases(by omega:i=0\/i=1) with rfl|rfl
 ·simpa using h
 ·simpa using aD.int .i64 n
theorem lG.adD {es:List kj} {dt:Array MapEntry} (h:lG φ es dt) {j:Nat} {e:kj} (hj:es[j]? =some e) {key:J} (al:plain key=true):
  lG φ (es.set j {e with key:=key,val:=e.val}) (dt.modify j λe=>{e with key:=key}):=by
 refine⟨by simp [h.1],λi a b ha af=> ?_⟩;rw[List.getElem?_set] at ha;rw[Array.getElem?_modify] at af;by_cases ov:j=i
 ·subst ov
  rw[aY rfl,aY (List.getElem?_eq_some_iff.1 hj).1] at ha;rw[aY rfl] at af;cases ha;rw[xL] at af;obtain⟨cu,e4,rfl⟩:=af;exact⟨al,rfl,(h.2 j e cu hj e4).2.2.1,(h.2 j e cu hj e4).2.2.2⟩
 ·rw[a_ ov] at ha
  rw[a_ ov] at af;exact h.2 i a b ha af
theorem adE (ao:b2 φ A w) {t:aK} {m m' key v:J} (hm:aD φ m m') (h:IP P A t m key=some (v,a')):b7 (hT v) P φ A w (Instr.mapEntry t m' key) a':=by
 unfold IP at h;cases fD:plain key with
 |false=>rw[fD] at h;cases h
 |true=>
  rw[fD,bF] at h;split at h
  ·rename_i hq elem b hu
   split at h
   ·rename_i es e6 aA
    cases hm with
    |map he=>
     rename_i em;obtain⟨dt,ad,gG⟩:=EZ ao aA he;split at h
     ·rename_i j nG hj
      split at h
      ·rename_i e xW
       cases AQ:Instr.sameBits 10000 e.key key with
       |false=>rw[AQ] at h;cases h
       |true=>
        rw[AQ,bF] at h;split at h
        ·rename_i bH fj
         cases h;obtain⟨cu,af,aR⟩:=zj gG.keys hj;rw[Array.getElem?_toList] at af;obtain⟨_,MZ,adF,sS⟩:=gG.2 j e cu xW af;refine⟨φ,_,.tuple #[cu.val,.int .i64 e.born],?_,UO adF _,AP ao he fj (gG.adD xW fD)⟩;unfold Instr.mapEntry;refine c9 hu ?_;simp only;refine dm (r7 ad (by simp)) ?_;simp only;refine c9 nG ?_;refine dm (aR w) ?_;simp only;rw[show (((dt[j]?).map (·.key)).getD key)=e.key by rw[af];exact MZ.symm];refine dm (a:=key) (w1:=w) (by unfold Instr.keyThatStays;rw[aY AQ];rfl) ?_;refine dm (xX ad (by simp)) ?_;rw[show ((dt[j]?).map λx=>(x.born:Int)).getD 0=(e.born:Int) by rw[af,sS];rfl];rfl
        ·cases h
      ·cases h
     ·rename_i nG hj
      split at h
      ·rename_i z bW
       cases lE:plain z with
       |false=>rw[lE] at h;cases h
       |true=>
        rw[lE,bF] at h;split at h
        ·rename_i bH fj
         cases h;have aR:=zj gG.keys hj;refine⟨φ,_,.tuple #[z,.int .i64 e6],?_,UO (aD.ky φ z lE) _,AP ao he fj (gG.push fD (aD.ky φ z lE))⟩;unfold Instr.mapEntry;refine c9 hu ?_;simp only;refine dm (r7 ad (by simp)) ?_;simp only;refine c9 nG ?_;refine dm (aR w) ?_;simp only;refine c9 bW ?_;refine dm (xX ad (by simp)) ?_;rfl
        ·cases h
      ·cases h
     ·cases h
    |_=>simp [ak,cB] at*
   ·cases h
  ·cases h
def M0 (es:List kj) (born:Int):Option Nat:=es.findIdx? λe=>(e.born:Int)==born
def IQ (P:aS) (A:a8) (m CV val:J):Option a8:=
 match m with
 | .map (some b)=>match A.AO b with
   |some (es,e6)=>bif plain CV then match bk P (asInt CV) with
    |some born=>match M0 es born with
     |some j=>match es[j]? with
      |some e=>A.xV b (es.set j {e with val:=val}) e6
      |none=>none
     |none=>none
    |none=>none
    else none
   |none=>none
 |_=>none
theorem lG.adG {es:List kj} {dt:Array MapEntry} (h:lG φ es dt) {j:Nat} {e:kj} (hj:es[j]? =some e) {val val':J} (aC:aD φ val val'):
  lG φ (es.set j {e with val:=val}) (dt.modify j λe=>{e with val:=val'}):=by
 refine⟨by simp [h.1],λi a b ha af=> ?_⟩;rw[List.getElem?_set] at ha;rw[Array.getElem?_modify] at af;by_cases ov:j=i
 ·subst ov
  rw[aY rfl,aY (List.getElem?_eq_some_iff.1 hj).1] at ha;rw[aY rfl] at af;cases ha;rw[xL] at af;obtain⟨cu,e4,rfl⟩:=af;obtain⟨q1,aH,_,eF⟩:=h.2 j e cu hj e4;exact⟨q1,aH,aC,eF⟩
 ·rw[a_ ov] at ha
  rw[a_ ov] at af;exact h.2 i a b ha af
theorem lG.born {es:List kj} {dt:Array MapEntry} (h:lG φ es dt) (born:Int):dt.findIdx? (λe=>(e.born:Int)==born)=M0 es born:=by
 unfold M0;rw[show dt.findIdx? (λe=>(e.born:Int)==born)=dt.toList.findIdx? (λe=>(e.born:Int)==born) by obtain⟨l⟩:=dt;simp];have af:es.map (·.born)=dt.toList.map (·.born):=by
  refine List.ext_getElem? λj=> ?_
  simp only [List.getElem?_map,Array.getElem?_toList];cases ad:es[j]? with
  |none=>
   have:dt[j]? =none:=by
    rw[Array.getElem?_eq_none_iff,<-h.1];exact List.getElem?_eq_none_iff.1 ad
   rw[this];rfl
  |some a=>
   have cg:j<dt.size:=by rw[<-h.1];exact(List.getElem?_eq_some_iff.1 ad).1
   obtain⟨b,af⟩:∃b,dt[j]? =some b:=⟨_,Array.getElem?_eq_getElem cg⟩;rw[af];simp only [Option.map_some,cQ];exact(h.2 j a b ad af).2.2.2
 have e1:∀l:List MapEntry,l.findIdx? (λe=>(e.born:Int)==born)=(l.map (·.born)).findIdx? λ(n:Nat)=>(n:Int)==born:=λl=>by rw[List.findIdx?_map];rfl
 have e2:∀l:List kj,l.findIdx? (λe=>(e.born:Int)==born)=(l.map (·.born)).findIdx? λ(n:Nat)=>(n:Int)==born:=λl=>by rw[List.findIdx?_map];rfl
 rw[e1,e2,af]
theorem adH (ao:b2 φ A w) {t:aK} {m m' CV val val':J} (hm:aD φ m m') (aC:aD φ val val') (h:IQ P A m CV val=some a'):b7 (λ_ _=>True) P φ A w (Instr.entryStore t m' CV val') a':=by
 unfold IQ at h;split at h
 ·rename_i b
  split at h
  ·rename_i es e6 aA
   cases fD:plain CV with
   |false=>rw[fD] at h;cases h
   |true=>
    rw[fD,bF] at h;cases hm with
    |map he=>
     rename_i em;obtain⟨dt,ad,gG⟩:=EZ ao aA he;split at h
     ·rename_i born aw
      split at h
      ·rename_i j hj
       split at h
       ·rename_i e xW
        refine⟨φ,_,(),?_,trivial,AP ao he h (gG.adG xW aC)⟩;unfold Instr.entryStore;simp only;refine dm (r7 ad (by simp)) ?_;simp only;refine c9 aw ?_;rw[gG.born,hj];simp only;exact xX ad (by simp)
       ·cases h
      ·cases h
     ·cases h
  ·cases h
 ·cases h
def IS (P:aS) (A:a8) (c7:Array aK) (m key:J):Option a8:=
 match c7[0]?,m with
 |some t,.map (some b)=>bif plain key then match bk P (underlying t) with
  |some (.map hq _)=>match A.AO b with
   |some (es,e6)=>match bk P (Instr.checkKey es.isEmpty 10000 hq key),CU P hq key es with
    |some _,some (some j)=>A.xV b (es.eraseIdx j) e6
    |some _,some none=>A.xV b es e6
    |_,_=>none
   |none=>none
  |_=>none
  else none
 |_,_=>none
theorem lG.erase {es:List kj} {dt:Array MapEntry} (h:lG φ es dt) (j:Nat):lG φ (es.eraseIdx j) (dt.eraseIdxIfInBounds j):=by
 have hl:(dt.eraseIdxIfInBounds j).toList=dt.toList.eraseIdx j:=by
  unfold Array.eraseIdxIfInBounds;split
  ·simp
  ·rename_i kJ
   rw[List.eraseIdx_of_length_le];simpa using kJ
 refine⟨?_,λi a b ha af=> ?_⟩
 ·have ag:(dt.eraseIdxIfInBounds j).size=(dt.toList.eraseIdx j).length:=by rw[<-hl,Array.length_toList]
  rw[ag];simp only [List.length_eraseIdx,h.1,Array.length_toList]
 ·rw[<-Array.getElem?_toList,hl] at af
  rw[List.getElem?_eraseIdx] at ha af;split at ha
  ·rename_i cg
   rw[aY cg] at af;exact h.2 i a b ha (by simpa using af)
  ·rename_i kJ
   rw[a_ kJ] at af;exact h.2 (i+1) a b ha (by simpa using af)
theorem adI (ao:b2 φ A w) {c7:Array aK} {ty:aK} {m m' key:J} (hm:aD φ m m') (h:IS P A c7 m key=some a'):b7 (hT (.tuple ⟨[]⟩)) P φ A w (Builtin.delete_ c7 ty #[m',key]) a':=by
 unfold IS at h;split at h
 ·rename_i t b aN
  cases fD:plain key with
  |false=>rw[fD] at h;cases h
  |true=>
   rw[fD,bF] at h;split at h
   ·rename_i hq elem hu
    split at h
    ·rename_i es e6 aA
     cases hm with
     |map he=>
      rename_i em;obtain⟨dt,ad,gG⟩:=EZ ao aA he;split at h
      ·rename_i j nG hj
       obtain⟨cu,af,aR⟩:=zj gG.keys hj;refine⟨φ,_,.tuple #[],?_,.tuple _ _ rfl (λi ai=>absurd ai (by simp)),AP ao he h (gG.erase j)⟩;unfold Builtin.delete_;simp only [aN,List.getElem?_toArray,List.getElem?_cons_zero,List.getElem?_cons_succ];refine c9 hu ?_;simp only;refine dm (r7 ad (by simp)) ?_;simp only;refine c9 (by rw[<-gG.isEmpty];exact nG) ?_;refine dm (aR w) ?_;simp only;exact dm (xX ad (by simp)) rfl
      ·rename_i nG hj
       have aR:=zj gG.keys hj;refine⟨φ,_,.tuple #[],?_,.tuple _ _ rfl (λi ai=>absurd ai (by simp)),AP ao he h gG⟩;unfold Builtin.delete_;simp only [aN,List.getElem?_toArray,List.getElem?_cons_zero,List.getElem?_cons_succ];refine c9 hu ?_;simp only;refine dm (r7 ad (by simp)) ?_;simp only;refine c9 (by rw[<-gG.isEmpty];exact nG) ?_;refine dm (aR w) ?_;simp only;exact dm (xX ad (by simp)) rfl
      ·cases h
    ·cases h
   ·cases h
 ·cases h
def M1 (P:aS) (A:a8) (t:aK):J->Option (J×a8)
 | .string s=>match bk P (underlying t) with
   |some .string=>match A.push (.gw (.xM s 0)) 0 0 with
    |some (b,bH)=>some (.pointer (some ⟨b,0,none⟩),bH)
    |none=>none
   |_=>none
 |_=>none
theorem adJ (ao:b2 φ A w) {t:aK} {x x' v:J} (aq:aD φ x x') (h:M1 P A t x=some (v,a')):b7 (hT v) P φ A w (Instr.range t x') a':=by
 unfold M1 at h;split at h
 ·rename_i s
  cases aq;split at h
  ·rename_i hu
   split at h
   ·rename_i b bH hp
    cases h;have c0:=CG (e:=⟨w.heap.size,0,0,0⟩) (o':= .stringIter s 0) ao hp U U (by simp only [fS];exact⟨trivial,_,by simp,rfl⟩);have aC:aD (hk φ b ⟨w.heap.size,0,0,0⟩) (.pointer (some ⟨b,0,none⟩)) (.pointer (some ⟨w.heap.size,0,none⟩)):= .ptr (e:=⟨w.heap.size,0,0,0⟩) (by simp [hk]);refine⟨_,_,.pointer (some ⟨w.heap.size,0,none⟩),?_,aC,c0⟩;unfold Instr.range;refine c9 hu ?_;rfl
   ·cases h
  ·cases h
 ·cases h
def M3 (A:a8) (it:J) (adK:Bool):Option (J×a8):=
 match it,adK with
 | .pointer (some ⟨b,0,none⟩),true=>match A.MW b with
   |some (s,p)=>bif Nat.blt p s.size then match A.setIter b s (p+(Utf8.decode s p).2) with
     |some bH=>some (.tuple ⟨[.bool true,.int .i64 p,.int .i32 (Utf8.decode s p).1]⟩,bH)
     |none=>none
    else some (.tuple ⟨[.bool false]⟩,A)
   |none=>none
 |_,_=>none
theorem adL (ao:b2 φ A w) {it UP v:J} {st:Bool} {ty:aK} (aq:aD φ it UP) (h:M3 A it st=some (v,a')):b7 (hT v) P φ A w (Instr.next UP st ty) a':=by
 unfold M3 at h;split at h
 ·rename_i b
  split at h
  ·rename_i s p aA
   cases aq with
   |ptr he=>
    rename_i e;obtain⟨aL,ad⟩:=adz ao aA he;rw[aL,Nat.zero_add];have oj:(getObj e.bn).run P w= .ok (.stringIter s p) w:=r7 ad (by simp);cases af:Nat.blt p s.size with
    |true=>
     rw[af,bF] at h;have cg:p<s.size:=Nat.blt_eq.mp af;split at h
     ·rename_i bH fj
      cases h;refine⟨φ,_,_,?_,aD.ky φ _ (by simp [plain,pt]),adA ao he aL fj⟩;unfold Instr.next
      simp only;refine dm oj ?_;simp only [cg,if_true];refine dm (xX ad (by simp)) ?_;rfl
     ·cases h
    |false=>
     rw[af,eD] at h;cases h;have kJ:¬p<s.size:=λcg=>by rw[Nat.blt_eq.mpr cg] at af;cases af
     refine⟨φ,w,.tuple #[.bool false],?_,aD.ky φ _ (by simp [plain,pt]),cF.refl ao⟩;unfold Instr.next
     simp only;refine dm oj ?_;simp only [kJ,if_false];rfl
  ·cases h
 ·cases h
end
end AE
namespace AE
variable [a7]
inductive sX where
 |value (v:J)
 |skip
 |enter (f:FuncId) (args:List J)
def wS:sX->b4->Next->Prop
 | .value v,φ,n=>∃aB,n= .value aB/\aD φ v aB
 | .skip,_,n=>n= .skip
 | .enter f args,φ,n=>∃gx:Array J,n= .enter f gx/\h7 args φ gx
def ur (P:aS) (s:Sem J):Option J:=
 match bk P s with
 |some v=>bif plain v then some v else none
 |none=>none
section
variable {P:aS} {φ:b4} {A a':a8} {w:ax}
theorem CW (ao:b2 φ A w) {s:Sem J} {v:J} (h:ur P s=some v):b7 (hT v) P φ A w s A:=by
 unfold ur at h;split at h
 ·rename_i u hu
  cases hp:plain u with
  |false=>rw[hp] at h;cases h
  |true=>
   rw[hp,bF,cQ] at h;subst h;exact b7.pure_run ao hu (aD.ky φ u hp)
 ·cases h
def E3 (P:aS) (s:Array J->Sem J) (args:List J):Option J:=
 bif pt args then ur P (s ⟨args⟩) else none
def M4 (x:J):Option J:=
 match x with
 | .slice none _ _=>some (.pointer none)
 | .slice (some ⟨b,off,none⟩) _ c=>bif Nat.beq c 0 then none else some (.pointer (some ⟨b,off,none⟩))
 |_=>none
def M5 (P:aS) (c7:Array aK) (x:J):Option J:=
 match c7[0]? with
 |some t=>match bk P (underlying t),x with
  |some (.slice _),.slice none _ c=>some (.int .i64 c)
  |some (.slice _),.slice (some _) _ _=>some cB
  |some (.array n _),_=>some (.int .i64 n)
  |_,_=>none
 |none=>none
def M6 (P:aS) (A:a8) (b:Builtin) (c7:Array aK) (ty:aK) (args:List J):Option (J×a8):=
 match b,args with
 | .len,[x]=>match ME P A c7 x with
   |some v=>some (v,A)
   |none=>match E3 P (Builtin.len_ c7 ty) [x] with
    |some v=>some (v,A)
    |none=>none
 | .append,[s,x]=>Mm P A c7 s x
 | .copy,[d,s]=>MB P A c7 d s
 | .cap,[x]=>(M5 P c7 x).map (·,A)
 | .max,l=>(E3 P (Builtin.max_ c7 ty) l).map (·,A)
 | .min,l=>(E3 P (Builtin.min_ c7 ty) l).map (·,A)
 | .unsafeSliceData,[x]=>(M4 x).map (·,A)
 | .clear,[x]=>match MV P A c7 x with
   |some bH=>some (undef,bH)
   |none=>none
 | .unsafeString,[x,n]=>bif plain n then MU P A c7 x n else none
 | .delete,[m,k]=>match IS P A c7 m k with
   |some bH=>some (.tuple ⟨[]⟩,bH)
   |none=>none
 |_,_=>none
theorem h7.eq {l:List J} {a:Array J} (hp:pt l=true) (h:h7 l φ a):a=⟨l⟩:=by
 obtain⟨M7⟩:=a;have:M7=l:=aD.EJ (φ:=φ) l M7 hp (by simpa using h.1.symm) (λi ai=>by simpa [fk] using h.2 i ai);rw[this]
theorem M8 (ao:b2 φ A w) {s:Array J->Sem J} {l:List J} {a:Array J} {v:J} (hl:h7 l φ a) (h:E3 P s l=some v):b7 (hT v) P φ A w (s a) A:=by
 unfold E3 at h;cases hp:pt l with
 |false=>rw[hp] at h;cases h
 |true=>
  rw[hp,bF] at h;rw[hl.eq hp];exact CW ao h
theorem h7.one {x:J} {a:Array J} (h:h7 [x] φ a):∃x',a= #[x']/\aD φ x x':=by
 obtain⟨l⟩:=a;obtain⟨ad,ag⟩:=h
 match l,ad with
 |[x'],_=>exact⟨x',rfl,by simpa using ag 0 (by simp)⟩
theorem h7.two {x y:J} {a:Array J} (h:h7 [x,y] φ a):∃x' fM,a= #[x',fM]/\aD φ x x'/\aD φ y fM:=by
 obtain⟨l⟩:=a;obtain⟨ad,ag⟩:=h
 match l,ad with
 |[x',fM],_=>exact⟨x',fM,rfl,by simpa using ag 0 (by simp),by simpa using ag 1 (by simp)⟩
theorem adM (ao:b2 φ A w) {c7:Array aK} {ty:aK} {x x' v:J} (aq:aD φ x x') (h:M5 P c7 x=some v):b7 (hT v) P φ A w (Builtin.cap_ c7 ty #[x']) A:=by
 unfold M5 at h;split at h
 ·rename_i t aN
  have hm:∀aB,(do match <-underlying t,x' with
   | .array n _,_=>pure (goInt n)
   | .pointer arr,_=>
     let .array n _ <-underlying arr|stuck "cap: pointer to array expected"
     pure (goInt n)
   | .slice _,.slice _ _ n=>pure (goInt n)
   | .chan _ _,.chan none=>pure (goInt 0)
   | .chan _ _,.chan (some r)=>
     let .chan n _ _ _ _ timer <-getObj r|stuck "cap: channel expected"
     pure (goInt (if timer then 0 else n))
   |_,_=>stuck "cap: array, pointer to array, slice or channel expected":Sem J).run P w= .ok aB w->(Builtin.cap_ c7 ty #[x']).run P w= .ok aB w:=by
   intro aB aC;rw[<-aC];unfold Builtin.cap_;simp only [aN];rfl
  split at h
  ·rename_i e l c hu
   simp only [cQ] at h;subst h;cases aq;exact⟨φ,w,_,hm _ (c9 hu rfl),.int _ _,cF.refl ao⟩
  ·rename_i e a l c hu
   simp only [cQ] at h;subst h;cases aq<;>exact⟨φ,w,_,hm _ (c9 hu rfl),.cB _,cF.refl ao⟩
  ·rename_i n e hu
   simp only [cQ] at h;subst h;exact⟨φ,w,_,hm _ (c9 hu rfl),.int _ _,cF.refl ao⟩
  ·cases h
 ·cases h
theorem adN (ao:b2 φ A w) {c7:Array aK} {ty:aK} {x x' v:J} (aq:aD φ x x') (h:M4 x=some v):b7 (hT v) P φ A w (Builtin.unsafeSliceData_ c7 ty #[x']) A:=by
 unfold M4 at h;split at h
 ·simp only [cQ] at h
  subst h;cases aq;exact b7.ret ao .zb
 ·rename_i b off n c
  cases ar:Nat.beq c 0 with
  |true=>rw[ar] at h;cases h
  |false=>
   rw[ar,eD,cQ] at h;subst h;have AR:c≠0:=λah=>by rw[ah] at ar;exact absurd ar cw
   have key:∀(a:Addr) (n c:Nat),c≠0->(Builtin.unsafeSliceData_ c7 ty #[.slice (some a) n c]).run P w= .ok (.pointer (some a)) w:=by
    intro a n c ar;have e:Builtin.unsafeSliceData_ c7 ty #[.slice (some a) n c]=(if c≠0 then pure (.pointer (some a)) else do
     if (<-viewAt a.block).isSome then pure (.pointer (some a)) else pure (.pointer (some ⟨<-newObj (.view a (<-elemOf ty)),0,none⟩))):=rfl
    rw[e,aY ar];rfl
   cases aq with
   |i_=>exact absurd rfl AR
   |iD n c he=>exact⟨φ,w,_,key _ _ _ AR,.ptr he,cF.refl ao⟩
   |iE n c c' he ad ag ay=>exact⟨φ,w,_,key _ _ _ aj,.ptr he,cF.refl ao⟩
 ·cases h
theorem adO (ao:b2 φ A w) {b:Builtin} {c7:Array aK} {ty:aK} {cs:Array Bool} {l:List J} {a:Array J} {v:J} (hl:h7 l φ a) (h:M6 P A b c7 ty l=some (v,a')):
  b7 (wS (.value v)) P φ A w (builtin b c7 ty cs a) a':=by
 have fU:∀{s:Sem J},b7 (hT v) P φ A w s a'->b7 (wS (.value v)) P φ A w (do pure (.value (<-s))) a':=λaw=>b7.map aw λφ a ha=>⟨a,rfl,ha⟩
 unfold M6 at h;split at h
 ·obtain⟨x',rfl,aq⟩:=hl.one
  split at h
  ·rename_i aB aC
   cases h;exact fU (ade ao aq aC)
  ·split at h
   ·rename_i aB aC
    cases h;exact fU (M8 ao hl aC)
   ·cases h
 ·obtain⟨x',fM,rfl,aq,bE⟩:=hl.two
  exact fU (ac2 ao aq bE h)
 ·obtain⟨x',fM,rfl,aq,bE⟩:=hl.two
  exact fU (ac' ao aq bE h)
 ·obtain⟨x',rfl,aq⟩:=hl.one
  obtain⟨aB,aC,he⟩:=Option.map_eq_some_iff.1 h;cases he;exact fU (adM ao aq aC)
 ·obtain⟨aB,aC,he⟩:=Option.map_eq_some_iff.1 h
  cases he;exact fU (M8 ao hl aC)
 ·obtain⟨aB,aC,he⟩:=Option.map_eq_some_iff.1 h
  cases he;exact fU (M8 ao hl aC)
 ·obtain⟨x',rfl,aq⟩:=hl.one
  obtain⟨aB,aC,he⟩:=Option.map_eq_some_iff.1 h;cases he;exact fU (adN ao aq aC)
 ·obtain⟨x',rfl,aq⟩:=hl.one
  split at h
  ·rename_i bH qB
   cases h;exact fU (adx ao aq qB)
  ·cases h
 ·rename_i x n
  obtain⟨x',fM,rfl,aq,bE⟩:=hl.two;cases hp:plain n with
  |false=>rw[hp] at h;cases h
  |true=>
   rw[hp,bF] at h;rw[aD.lf _ hp bE];exact fU (adv ao aq h)
 ·rename_i m k
  obtain⟨x',fM,rfl,aq,bE⟩:=hl.two;split at h
  ·rename_i bH qB
   cases h;have hp:plain k=true:=by
    unfold IS at qB;split at qB
    ·cases hp:plain k with
     |true=>rfl
     |false=>rw[hp] at qB;cases qB
    ·cases qB
   rw[aD.lf _ hp bE];exact fU (adI ao aq qB)
  ·cases h
 ·cases h
def enters (P:aS) (f:FuncId):Bool:=
 match P.funcs[f]? with
 |some fn=> !(fn.name== "runtime.NumGoroutine")&&fn.body.isSome
 |none=>false
omit [a7] in
theorem E4 {f:FuncId} (h:enters P f=true) (args:Array J):bk P (callFunc f args)=some (.enter f args):=by
 unfold enters at h;split at h
 ·rename_i fn aR
  simp only [c8,Bool.not_eq_true'] at h;obtain⟨ad,ag⟩:=h;have ay:fn.body.isNone=false:=by cases af:fn.body<;>simp_all
  unfold callFunc;show bk P (match P.funcs[f]? with|none=>_|some fn=>_)=_;simp only [aR,ad,ay,Bool.false_eq_true,if_false];rfl
 ·cases h
def UQ (P:aS) (f:FuncId) (args:List J):Option sX:=
 bif pt args then match bk P (callFunc f ⟨args⟩) with
  |some (.value v)=>bif plain v then some (.value v) else none
  |_=>none
 else none
def M9 (P:aS) [Lib P] (A:a8) (f:FuncId):List J->Option (J×a8)
 |[x]=>bif (Lib.same P).contains f then some (x,A) else
  match (Lib.MO P).find? λp=>Nat.beq p.1 f,x with
  |some p,.int .i64 n=>MR A p.2 n
  |_,_=>none
 |_=>none
def IT (P:aS) [Lib P] (A:a8) (f:FuncId) (args:List J):Option (sX×a8):=
 bif enters P f then some (.enter f args,A) else
  match M9 P A f args with
  |some (v,bH)=>some (.value v,bH)
  |none=>match UQ P f args with
   |some n=>some (n,A)
   |none=>none
theorem adP [Lib P] (ao:b2 φ A w) {f:FuncId} {l:List J} {a:Array J} {v:J} (hl:h7 l φ a) (h:M9 P A f l=some (v,a')):b7 (wS (.value v)) P φ A w (callFunc f a) a':=by
 unfold M9 at h;split at h
 ·rename_i x
  obtain⟨x',rfl,aq⟩:=hl.one;cases ar:(Lib.same P).contains f with
  |true=>
   rw[ar] at h;cases h;exact b7.pure_run ao (Lib.UA f (by simpa using ar) x') ⟨x',rfl,aq⟩
  |false=>
   rw[ar,eD] at h;split at h
   ·rename_i p n aR
    cases aq;have hp1:p.1=f:=by
     have:=List.find?_some aR;exact cI this
    obtain⟨ps,r8,t,ad,ag,ay⟩:=Lib.UB p (List.mem_of_find?_eq_some aR);obtain⟨gO,w1,v1,g1,g2,g3⟩:=ado (ps:=ps) ao ag ay h;refine⟨gO,w1,.value v1,?_,⟨v1,rfl,g2⟩,g3⟩;rw[<-hp1,ad];exact dm g1 rfl
   ·cases h
 ·cases h
theorem UR [Lib P] (ao:b2 φ A w) {f:FuncId} {l:List J} {a:Array J} {n:sX} (hl:h7 l φ a) (h:IT P A f l=some (n,a')):b7 (wS n) P φ A w (callFunc f a) a':=by
 unfold IT at h;cases he:enters P f with
 |true=>
  rw[he] at h;cases h;exact b7.pure_run ao (E4 he a) ⟨a,rfl,hl⟩
 |false=>
  rw[he,eD] at h;split at h
  ·rename_i v bH al
   cases h;exact adP ao hl al
  ·split at h
   ·rename_i n av
    cases h;unfold UQ at av;cases hp:pt l with
    |false=>rw[hp] at av;cases av
    |true=>
     rw[hp,bF] at av;split at av
     ·rename_i v aC
      cases qC:plain v with
      |false=>rw[qC] at av;cases av
      |true=>
       rw[qC,bF,cQ] at av;subst av;rw[hl.eq hp];exact b7.pure_run ao aC ⟨v,rfl,aD.ky φ v qC⟩
     ·cases av
   ·cases h
def M_ (P:aS) [Lib P] (A:a8) (br:Operand->J) (c:Call) (ty:aK):Option (sX×a8):=
 match c.callee with
 | .builtin b=>(M6 P A b c.argTypes ty (c.args.toList.map br)).map λr=>(.value r.1,r.2)
 | .value f=>match br f with
   | .func (.func g) ⟨first⟩ ⟨CX⟩=>IT P A g (first++c.args.toList.map br++CX)
   |_=>none
 | .invoke recv name=>match br recv with
   | .iface t v=>bif plain v then match bk P (method (P.types.size+Made.depth) t v name) with
       |some (f,r)=>bif plain r then IT P A f (r::c.args.toList.map br) else none
       |none=>none
     else none
   |_=>none
theorem h7.append {l1 mf:List J} {eG a2:Array J} (ad:h7 l1 φ eG) (ag:h7 mf φ a2):h7 (l1++mf) φ (eG++a2):=by
 obtain⟨M7⟩:=eG;obtain⟨IU⟩:=a2;obtain⟨s1,v1⟩:=ad;obtain⟨s2,gL⟩:=ag;simp only [List.size_toArray] at s1 s2;refine⟨by simp [s1,s2],λj hj=> ?_⟩;simp only [List.append_toArray,fk,List.getElem?_toArray,dq] at v1 gL ⊢;rcases Nat.lt_or_ge j l1.length with h|h
 ·rw[List.getElem?_append_left h,List.getElem?_append_left aj]
  exact v1 j h
 ·rw[List.getElem?_append_right h,List.getElem?_append_right aj,s1]
  exact gL _ (by simp at hj;omega)
theorem h7.map {l:Array Operand} {ρ ρ':Operand->J} (h:∀x∈l,aD φ (ρ x) (ρ' x)):h7 (l.toList.map ρ) φ (l.map ρ'):=by
 obtain⟨l⟩:=l;refine⟨by simp,λj hj=> ?_⟩;simp only [List.length_map] at hj;simp only [List.map_toArray,fk,List.getElem?_toArray,dq,List.getElem?_map,gi hj,Option.map_some,Option.getD_some];exact h _ (by simp)
theorem h7.of {cs cs':Array J} (ad:cs.size=cs'.size) (h:∀i,i<cs.size->aD φ (cs.getD i undef) (cs'.getD i undef)):h7 cs.toList φ cs':=by
 obtain⟨l⟩:=cs;refine⟨by simpa using ad.symm,λj hj=> ?_⟩;simpa [fk] using h j (by simpa using hj)
theorem adQ [Lib P] (ao:b2 φ A w) {ρ ρ':Operand->J} {c:Call} {ty:aK} {n:sX} (c5:∀x,aD φ (ρ x) (ρ' x)) (h:M_ P A ρ c ty=some (n,a')):
  b7 (wS n) P φ A w (do let d <-resolve ρ' c ty;invoke d.target d.args) a':=by
 unfold M_ at h;have gM:h7 (c.args.toList.map ρ) φ (c.args.map ρ'):=h7.map λx _=>c5 x
 split at h
 ·rename_i b ar
  obtain⟨⟨v,bH⟩,af,he⟩:=Option.map_eq_some_iff.1 h;cases he;obtain⟨fp,w2,n2,g1,g2,g3⟩:=adO (cs:=c.args.map λ| .const _=>true|_=>false) ao gM af;refine⟨fp,w2,n2,?_,g2,g3⟩;rw[<-g1];unfold resolve;rw[ar];rfl
 ·rename_i f ar
  split at h
  ·rename_i g first CX aR
   have af:=h;have aC:=c5 f;rw[aR] at aC;cases ow:ρ' f with
   |func fn kI cs'=>
    rw[ow] at aC;cases aC with
    |func fs kI cs cs' av ad ag Na fT=>
     have:=(h7.of ad Na).append gM |>.append (h7.of ag fT);obtain⟨fp,w2,n2,g1,g2,g3⟩:=UR ao this af;refine⟨fp,w2,n2,?_,g2,g3⟩;rw[<-g1];unfold resolve;rw[ar];simp only [ow];rfl
   |_=>rw[ow] at aC;cases aC
  ·cases h
 ·rename_i recv name ar
  split at h
  ·rename_i t v aC
   cases hp:plain v with
   |false=>rw[hp] at h;cases h
   |true=>
    rw[hp,bF] at h;split at h
    ·rename_i f r hm
     cases AS:plain r with
     |false=>rw[AS] at h;cases h
     |true=>
      rw[AS,bF] at h;have af:=h;have E5:=c5 recv;rw[aC] at E5;cases ow:ρ' recv with
      |iface dr aB=>
       rw[ow] at E5;cases E5 with
       |iface _ xY=>
        have adR:=aD.lf v hp xY;subst adR;have ad:h7 [r] φ #[r]:=⟨rfl,λj hj=>by
         have:j=0:=by simpa using hj
         subst this
         exact aD.ky φ r AS⟩
        obtain⟨fp,w2,n2,g1,g2,g3⟩:=UR ao (ad.append gM) af;refine⟨fp,w2,n2,?_,g2,g3⟩;rw[<-g1];unfold resolve;rw[ar];simp only [ow];refine c9 (a:={target:= .fn (.method name) #[],args:= #[.iface t aB]++c.args.map ρ'}) rfl ?_;unfold invoke;have e0:(#[Value.iface t aB]++c.args.map ρ')[0]? =some (.iface t aB):=by
         simp [Array.getElem?_append]
        have e1:(#[Value.iface t aB]++c.args.map ρ').extract 1 (#[Value.iface t aB]++c.args.map ρ').size=c.args.map ρ':=by
         apply Array.ext';simp [List.take_of_length_le]
        simp only [e0,e1];unfold callMethod;refine c9 (a:=P) rfl ?_;exact c9 hm rfl
      |_=>rw[ow] at E5;cases E5
    ·cases h
  ·cases h
end
end AE
namespace AE
variable [a7]
def xZ (br:Operand->J):Option Operand->Bool
 |none=>true
 |some x=>plain (br x)
def Nb (P:aS) (A:a8) (px dst:aK) (x:J):Option (J×a8):=
 match (bif plain x then ur P (convert px dst x) else none) with
 |some v=>some (v,A)
 |none=>match MP P A px dst x with
  |some v=>some (v,A)
  |none=>match bk P (underlying px),bk P (underlying dst),x with
   |some _,some (.slice e),.string s=>match bk P (underlying e) with
    |some (.int .u8)=>MH A e s
    |_=>none
   |some (.slice e),some .string,.slice a n c=>match bk P (underlying e) with
    |some (.int .u8)=>(MG P A (.slice a n c)).map (·,A)
    |_=>none
   |_,_,_=>none
def US (x:J):Option J:=
 match x with
 | .pointer (some _)=>some x
 | .func (.func _) _ _=>some x
 | .iface _ _=>some x
 |_=>none
def UT:Fn->Bool
 | .yield _=>true
 |_=>false
def val (A:a8):Option J->Option (sX×a8)
 |some v=>some (.value v,A)
 |none=>none
def uu:Option (J×a8)->Option (sX×a8)
 |some (v,A)=>some (.value v,A)
 |none=>none
def E6 (P:aS) [Lib P] (br:Operand->J) (A:a8) (o:Oper):Option (sX×a8):=
 match o.op with
 | .move x| .assign x=>some (.value (br x),A)
 | .pick c a b=>match br c with
   | .bool t=>some (.value (bif t then br a else br b),A)
   |_=>none
 | .alloc t=>uu (Mc P A t)
 | .box t x=>uu (Iq A t (br x))
 | .build t parts=>val A (Mh P t (parts.map λ(i,x)=>(i,br x)))
 | .buildSlice t len parts=>bif Nat.beq len 0&&Nat.beq parts.size 0 then uu (Mk P A t) else uu (Mj P A t len (parts.map λ(i,x)=>(i,br x)))
 | .load t a=>val A (CL P A t (br a))
 | .store t a x=>match Mb P A t (br x) (br a) with
   |some bH=>some (.skip,bH)
   |none=>none
 | .nilCheck x=>val A (US (br x))
 | .binOp op t x y _=>match (bif plain (br x)&&plain (br y) then ur P (do eqGuard op t x y (br x) (br y);binOp op t (br x) (br y)) else none) with
   |some v=>some (.value v,A)
   |none=>val A (MJ P op t (br x) (br y))
 | .unOp op _ x=>bif plain (br x) then val A (ur P (Op.unary op (br x))) else none
 | .convert px dst x=>uu (Nb P A px dst (br x))
 | .makeInterface t x=>val A (MK P t (br x))
 | .makeFunc fn first CX=>bif UT fn then none else some (.value (.func fn ⟨first.toList.map br⟩ ⟨CX.toList.map br⟩),A)
 | .makeSlice t l c=>bif plain (br l)&&plain (br c) then uu (MD P A t (br l) (br c)) else none
 | .slice t x e7 ai e5=>bif xZ br e7&&(xZ br ai&&xZ br e5) then val A (match Mw P A t (br x) (e7.map br) (ai.map br) (e5.map br) with
     |some v=>some v
     |none=>bif plain (br x) then ur P (Instr.sliceAt t (br x) (e7.map br) (ai.map br) (e5.map br)) else none) else none
 | .fieldAddr s x f=>val A (EL P s f (br x))
 | .field t x f=>val A (Md P t (br x) f)
 | .indexAddr t x fW=>bif plain (br fW) then val A (EM P t (br x) (br fW)) else none
 | .index t x fW=>bif plain (br fW) then val A (match Me P t (br x) (br fW) with
     |some v=>some v
     |none=>bif plain (br x) then ur P (Instr.index t (br x) (br fW)) else none) else none
 | .typeAssert x _ asserted ok=>val A (ML P (br x) asserted ok)
 | .extract t fW=>val A (EP (br t) fW)
 | .call c=>M_ P A br c o.type
 | .makeMap t r=>bif xZ br r then uu (MY P A t (r.map br)) else none
 | .lookup t x fW ok=>val A (IM P A t (br x) (br fW) ok)
 | .mapUpdate t m k x| .insert t m k x=>match E2 P A t (br m) (br k) (br x) with
   |some bH=>some (.skip,bH)
   |none=>none
 | .mapEntry t m k=>uu (IP P A t (br m) (br k))
 | .entryStore _ m st x=>match IQ P A (br m) (br st) (br x) with
   |some bH=>some (.skip,bH)
   |none=>none
 | .range t x=>uu (M1 P A t (br x))
 | .next it UU=>uu (M3 A (br it) UU)
 |_=>none
section
variable {P:aS} {φ:b4} {A a':a8} {w:ax}
theorem adS (ao:b2 φ A w) {px dst:aK} {x x' v:J} (aq:aD φ x x') (h:Nb P A px dst x=some (v,a')):b7 (hT v) P φ A w (convert px dst x') a':=by
 unfold Nb at h;split at h
 ·rename_i u hu
  simp only [cQ,Prod.mk.injEq] at h;obtain⟨rfl,rfl⟩:=h;cases hp:plain x with
  |false=>rw[hp] at hu;cases hu
  |true=>
   rw[hp,bF] at hu;rw[aD.lf x hp aq];exact CW ao hu
 split at h
 ·rename_i u hu
  cases h;exact adl ao aq hu
 ·split at h
  ·rename_i d e s ad ag _ _
   split at h
   ·rename_i ay
    cases aq;unfold convert;refine b7.pre ad (b7.pre ag ?_);simp only;refine b7.pre ay ?_;exact adg ao h
   ·cases h
  ·rename_i e a n c ad ag _ _
   split at h
   ·rename_i ay
    obtain⟨aB,aC,he⟩:=Option.map_eq_some_iff.1 h;cases he;have aw:=adf ao aq aC;unfold convert;refine b7.pre ad (b7.pre ag ?_);cases aq<;>exact b7.pre ay aw
   ·cases h
  ·cases h
theorem IV {ρ ρ':Operand->J} (c5:∀x,aD φ (ρ x) (ρ' x)) {o:Option Operand} (h:xZ ρ o=true):o.map ρ'=o.map ρ:=by
 cases o with
 |none=>rfl
 |some x=>simp only [Option.map_some];rw[aD.lf _ h (c5 x)]
theorem UW [Lib P] (ao:b2 φ A w) {ρ ρ':Operand->J} {o:Oper} {n:sX} (c5:∀x,aD φ (ρ x) (ρ' x)) (h:E6 P ρ A o=some (n,a')):b7 (wS n) P φ A w (execOp ρ' o) a':=by
 have fU:∀{v:J} {s:Sem J},b7 (hT v) P φ A w s a'->b7 (wS (.value v)) P φ A w (do pure (.value (<-s))) a':=λaw=>b7.map aw λφ a ha=>⟨a,rfl,ha⟩
 have hval:∀{r:Option J},val A r=some (n,a')->∃v,r=some v/\n= .value v/\a'=A:=by
  intro r aC;cases r with
  |none=>cases aC
  |some v=>simp only [val,cQ,Prod.mk.injEq] at aC;exact⟨v,rfl,aC.1.symm,aC.2.symm⟩
 have wT:∀{r:Option (J×a8)},uu r=some (n,a')->∃v,r=some (v,a')/\n= .value v:=by
  intro r aC;cases r with
  |none=>cases aC
  |some p=>obtain⟨v,bH⟩:=p;simp only [uu,cQ,Prod.mk.injEq] at aC;exact⟨v,by rw[aC.2],aC.1.symm⟩
 obtain⟨dst,op,type,pos,after,guard⟩:=o;unfold E6 at h;unfold execOp;cases op<;>simp only at h ⊢<;>try (cases h;done)
 case move x=>cases h;exact b7.ret ao ⟨_,rfl,c5 x⟩
 case assign x=>cases h;exact b7.ret ao ⟨_,rfl,c5 x⟩
 case pick c a b=>
  split at h
  ·rename_i t ar
   cases h;have:=c5 c;rw[ar] at this;cases AR:ρ' c<;>rw[AR] at this<;>cases this
   refine b7.pre (a:=t) rfl ?_;cases t
   ·exact b7.ret ao ⟨_,rfl,c5 b⟩
   ·exact b7.ret ao ⟨_,rfl,c5 a⟩
  ·cases h
 case alloc t=>
  obtain⟨v,ad,rfl⟩:=wT h;exact fU (acK ao ad)
 case box t x=>
  obtain⟨v,ad,rfl⟩:=wT h;exact fU (T' ao (c5 x) ad)
 case build t parts=>
  obtain⟨v,ad,rfl,rfl⟩:=hval h;exact fU (acQ ao (λp _=>c5 p.2) ad)
 case buildSlice t len parts=>
  cases af:(Nat.beq len 0&&Nat.beq parts.size 0) with
  |true=>
   rw[af,bF] at h;simp only [c8] at af;obtain⟨v,ad,rfl⟩:=wT h;have e1:len=0:=cI af.1;have e2:parts= #[]:=Array.eq_empty_of_size_eq_zero (cI af.2);subst e1;subst e2;exact fU (by simpa using acS ao ad)
  |false=>
   rw[af,eD] at h;obtain⟨v,ad,rfl⟩:=wT h;exact fU (acR ao (λp _=>c5 p.2) ad)
 case load t a=>
  obtain⟨v,ad,rfl,rfl⟩:=hval h;exact fU (acH ao (c5 a) ad)
 case store t a x=>
  split at h
  ·rename_i bH ad
   cases h;exact b7.map (acJ ao (c5 a) (c5 x) ad) λ_ _ _=>rfl
  ·cases h
 case nilCheck x=>
  obtain⟨v,ad,rfl,rfl⟩:=hval h;have aq:=c5 x;unfold US at ad;split at ad
  ·rename_i a ha
   cases ad;rw[ha] at aq;cases r6:ρ' x<;>rw[r6] at aq
   all_goals cases aq
   rename_i h;exact b7.ret ao ⟨_,rfl,ha▸.ptr h⟩
  ·rename_i f fs cs ha
   cases ad;rw[ha] at aq;cases r6:ρ' x<;>rw[r6] at aq
   all_goals cases aq
   rename_i ad ag ay bG cJ;exact b7.ret ao ⟨_,rfl,ha▸.func _ _ _ _ ad ag bG ay cJ⟩
  ·rename_i t u ha
   cases ad;rw[ha] at aq;cases r6:ρ' x<;>rw[r6] at aq
   all_goals cases aq
   rename_i h;exact b7.ret ao ⟨_,rfl,ha▸.iface _ h⟩
  ·cases ad
 case binOp op t x y UX=>
  split at h
  ·rename_i v aC
   cases h;cases hp:plain (ρ x) with
   |false=>simp only [hp,Bool.false_and,eD] at aC;cases aC
   |true=>
    cases bf:plain (ρ y) with
    |false=>simp only [bf,Bool.and_false,eD] at aC;cases aC
    |true=>
     simp only [hp,bf,Bool.and_true,bF] at aC;rw[aD.lf _ hp (c5 x),aD.lf _ bf (c5 y)];exact fU (CW ao aC)
  ·obtain⟨v,ad,rfl,rfl⟩:=hval h
   exact fU (adi ao (c5 x) (c5 y) ad)
 case unOp op t x=>
  cases hp:plain (ρ x) with
  |false=>rw[hp] at h;cases h
  |true=>
   rw[hp,bF] at h;obtain⟨v,ad,rfl,rfl⟩:=hval h;rw[aD.lf _ hp (c5 x)];exact fU (CW ao ad)
 case convert px dst x=>
  obtain⟨v,ad,rfl⟩:=wT h;exact fU (adS ao (c5 x) ad)
 case makeInterface t x=>
  obtain⟨v,ad,rfl,rfl⟩:=hval h;exact fU (adj ao (c5 x) ad)
 case makeFunc fn first CX=>
  cases bE:UT fn with
  |true=>rw[bE] at h;cases h
  |false=>
   rw[bE] at h;cases h;have cS:=h7.map (φ:=φ) (l:=first) (ρ:=ρ) (ρ':=ρ') λx _=>c5 x
   have dy:=h7.map (φ:=φ) (l:=CX) (ρ:=ρ) (ρ':=ρ') λx _=>c5 x
   refine b7.ret ao ⟨_,rfl,.func _ _ _ _ (λl hl=>by subst hl;cases bE) (by simp) (by simp) (λi ai=> ?_) (λi ai=> ?_)⟩
   ·have:=cS.2 i (by simpa using ai)
    simpa [fk] using this
   ·have:=dy.2 i (by simpa using ai)
    simpa [fk] using this
 case makeSlice t l c=>
  cases hp:plain (ρ l) with
  |false=>simp only [hp,Bool.false_and,eD] at h;cases h
  |true=>
   cases bf:plain (ρ c) with
   |false=>simp only [bf,Bool.and_false,eD] at h;cases h
   |true=>
    simp only [hp,bf,Bool.and_true,bF] at h;obtain⟨v,ad,rfl⟩:=wT h;rw[aD.lf _ hp (c5 l),aD.lf _ bf (c5 c)];exact fU (ada ao ad)
 case slice t x e7 ai e5=>
  cases hp:(xZ ρ e7&&(xZ ρ ai&&xZ ρ e5)) with
  |false=>rw[hp] at h;cases h
  |true=>
   rw[hp,bF] at h;simp only [c8] at hp;obtain⟨v,ad,rfl,rfl⟩:=hval h;rw[IV c5 hp.1,IV c5 hp.2.1,IV c5 hp.2.2];split at ad
   ·rename_i u hu
    cases ad;exact fU (ac8 ao (c5 x) hu)
   ·cases bf:plain (ρ x) with
    |false=>rw[bf] at ad;cases ad
    |true=>
     rw[bf,bF] at ad;rw[aD.lf _ bf (c5 x)];exact fU (CW ao ad)
 case fieldAddr s x f=>
  obtain⟨v,ad,rfl,rfl⟩:=hval h;exact fU (acL ao (c5 x) ad)
 case field t x f=>
  obtain⟨v,ad,rfl,rfl⟩:=hval h;exact fU (acN ao (c5 x) ad)
 case indexAddr t x fW=>
  cases hp:plain (ρ fW) with
  |false=>rw[hp] at h;cases h
  |true=>
   rw[hp,bF] at h;obtain⟨v,ad,rfl,rfl⟩:=hval h;rw[aD.lf _ hp (c5 fW)];exact fU (acM ao (c5 x) ad)
 case index t x fW=>
  cases hp:plain (ρ fW) with
  |false=>rw[hp] at h;cases h
  |true=>
   rw[hp,bF] at h;obtain⟨v,ad,rfl,rfl⟩:=hval h;rw[aD.lf _ hp (c5 fW)];split at ad
   ·rename_i u hu
    cases ad;exact fU (acO ao (c5 x) hu)
   ·cases bf:plain (ρ x) with
    |false=>rw[bf] at ad;cases ad
    |true=>
     rw[bf,bF] at ad;rw[aD.lf _ bf (c5 x)];exact fU (CW ao ad)
 case typeAssert x Uz asserted ok=>
  obtain⟨v,ad,rfl,rfl⟩:=hval h;exact fU (adk ao (c5 x) ad)
 case extract t fW=>
  obtain⟨v,ad,rfl,rfl⟩:=hval h;exact fU (acP ao (c5 t) ad)
 case call c=>exact adQ ao c5 h
 case makeMap t r=>
  cases hp:xZ ρ r with
  |false=>rw[hp] at h;cases h
  |true=>
   rw[hp,bF] at h;obtain⟨v,ad,rfl⟩:=wT h;rw[IV c5 hp];exact fU (adB ao ad)
 case lookup t x fW ok=>
  obtain⟨v,ad,rfl,rfl⟩:=hval h;have hp:plain (ρ fW)=true:=by
   unfold IM at ad;cases hp:plain (ρ fW) with
   |true=>rfl
   |false=>rw[hp] at ad;cases ad
  rw[aD.lf _ hp (c5 fW)];exact fU (adC ao (c5 x) ad)
 case mapUpdate t m k x=>
  split at h
  ·rename_i bH ad
   cases h;have hp:plain (ρ k)=true:=by
    unfold E2 at ad;cases hp:plain (ρ k) with
    |true=>rfl
    |false=>rw[hp] at ad;cases ad
   rw[aD.lf _ hp (c5 k)];exact b7.map (UN ao (c5 m) (c5 x) ad) λ_ _ _=>rfl
  ·cases h
 case insert t m k x=>
  split at h
  ·rename_i bH ad
   cases h;have hp:plain (ρ k)=true:=by
    unfold E2 at ad;cases hp:plain (ρ k) with
    |true=>rfl
    |false=>rw[hp] at ad;cases ad
   rw[aD.lf _ hp (c5 k)];exact b7.map (UN ao (c5 m) (c5 x) ad) λ_ _ _=>rfl
  ·cases h
 case mapEntry t m k=>
  obtain⟨v,ad,rfl⟩:=wT h;have hp:plain (ρ k)=true:=by
   unfold IP at ad;cases hp:plain (ρ k) with
   |true=>rfl
   |false=>rw[hp] at ad;cases ad
  rw[aD.lf _ hp (c5 k)];exact fU (adE ao (c5 m) ad)
 case entryStore t m st x=>
  split at h
  ·rename_i bH ad
   cases h;have hp:plain (ρ st)=true:=by
    unfold IQ at ad;split at ad
    ·split at ad
     ·cases hp:plain (ρ st) with
      |true=>rfl
      |false=>rw[hp] at ad;cases ad
     ·cases ad
    ·cases ad
   rw[aD.lf _ hp (c5 st)];exact b7.map (adH ao (c5 m) (c5 x) ad) λ_ _ _=>rfl
  ·cases h
 case range t x=>
  obtain⟨v,ad,rfl⟩:=wT h;exact fU (adJ ao (c5 x) ad)
 case next it UU=>
  obtain⟨v,ad,rfl⟩:=wT h;exact fU (adL ao (c5 it) ad)
end
end AE
namespace AE
mutual
def gm:J->J->Bool
 | .bool a,.bool b=>a==b
 | .int k n,.int k' gd=>decide (k=k')&&decide (n=gd)
 | .complex .f64 a b,.complex .f64 a6 b'=>Nat.beq a a6&&Nat.beq b b'
 | .string s,.string t=>s.data.toList==t.data.toList
 | .pointer none,.pointer none=>true
 | .slice none l c,.slice none l' c'=>Nat.beq l l'&&Nat.beq c c'
 | .map none,.map none=>true
 | .nilFunc,.nilFunc=>true
 | .nilIface,.nilIface=>true
 | .func (.func f) ⟨a⟩ ⟨b⟩,.func (.func g) ⟨a6⟩ ⟨b'⟩=>Nat.beq f g&&(ox a a6&&ox b b')
 | .iface t v,.iface dr aB=>Nat.beq t dr&&gm v aB
 | .agg ⟨l⟩,.agg ⟨l'⟩=>ox l l'
 | .tuple ⟨l⟩,.tuple ⟨l'⟩=>ox l l'
 |_,_=>false
def ox:List J->List J->Bool
 |[],[]=>true
 |v::r,aB::eo=>gm v aB&&ox r eo
 |_,_=>false
end
mutual
theorem hM:∀(a b:J),gm a b=true->a=b:=by
 intro a b h;unfold gm at h;split at h
 ·rw[eq_of_beq h]
 ·simp only [c8,decide_eq_true_eq] at h;rw[h.1,h.2]
 ·simp only [c8] at h;rw[cI h.1,cI h.2]
 ·rename_i s t
  have:=eq_of_beq h;obtain⟨⟨s⟩⟩:=s;obtain⟨⟨t⟩⟩:=t;simp only at this;rw[this]
 ·rfl
 ·simp only [c8] at h;rw[cI h.1,cI h.2]
 ·rfl
 ·rfl
 ·rfl
 ·simp only [c8] at h;rw[cI h.1,q9 _ _ h.2.1,q9 _ _ h.2.2]
 ·rename_i t v dr aB
  simp only [c8] at h;rw[cI h.1,hM v aB h.2]
 ·rename_i l l'
  rw[q9 l l' h]
 ·rename_i l l'
  rw[q9 l l' h]
 ·cases h
theorem q9:∀(a b:List J),ox a b=true->a=b
 |[],[],_=>rfl
 |v::r,aB::eo,h=>by
  unfold ox at h;simp only [c8] at h;rw[hM v aB h.1,q9 r eo h.2]
 |[],_::_,h=>by simp [ox] at h
 |_::_,[],h=>by simp [ox] at h
end
mutual
def aM:J->Bool
 | .complex .f64 _ b=>Nat.beq b 0
 | .iface _ v=>aM v
 | .agg ⟨l⟩=>dM l
 | .tuple ⟨l⟩=>dM l
 | .bool _| .int .. | .float .. | .string _| .pointer none| .map none| .chan none| .nilFunc| .nilIface=>true
 | .slice none l c=>l==0&&c==0
 | .func (.func _) ⟨a⟩ ⟨b⟩=>dM a&&dM b
 |_=>false
def dM:List J->Bool
 |[]=>true
 |v::r=>aM v&&dM r
end
variable [a7]
mutual
def aJ:J->J
 | .complex .f64 k b=>bif Nat.beq b 0 then a7.σ k else .complex .f64 k b
 | .iface t v=> .iface t (aJ v)
 | .agg ⟨l⟩=> .agg ⟨ep l⟩
 | .tuple ⟨l⟩=> .tuple ⟨ep l⟩
 | .func (.func f) ⟨a⟩ ⟨b⟩=> .func (.func f) ⟨ep a⟩ ⟨ep b⟩
 |v=>v
def ep:List J->List J
 |[]=>[]
 |v::r=>aJ v::ep r
end
theorem IW (k:Nat):aJ (ak k)=a7.σ k:=by simp [ak,aJ]
theorem x0:∀l:List J,(ep l).length=l.length
 |[]=>rfl
 |v::r=>by simp [ep,x0 r]
theorem Nc:∀l:List J,ep l=l.map aJ
 |[]=>rfl
 |v::r=>by simp [ep,Nc r]
mutual
theorem aD.vt (φ:b4):∀v:J,aM v=true->aD φ v (aJ v):=by
 intro v h;unfold aM at h;split at h
 ·rename_i k b
  have:b=0:=cI h;subst this;have:=aD.sym (φ:=φ) k;simpa [aJ,ak] using this
 ·rename_i t v
  unfold aJ;exact .iface t (aD.vt φ v h)
 ·rename_i l
  unfold aJ;exact .agg _ _ (by simp [x0]) λi ai=>by simpa using aD.AT φ l h i (by simpa using ai)
 ·rename_i l
  unfold aJ;exact .tuple _ _ (by simp [x0]) λi ai=>by simpa using aD.AT φ l h i (by simpa using ai)
 all_goals (first|(cases h;done)|skip)
 ·rename_i b;simpa [aJ] using aD.ky φ (.bool b) rfl
 ·rename_i k n;simpa [aJ] using aD.ky φ (.int k n) rfl
 ·rename_i k n;simpa [aJ] using aD.ky φ (.float k n) rfl
 ·rename_i s;simpa [aJ] using aD.ky φ (.string s) rfl
 ·simpa [aJ] using aD.ky φ (.pointer none) rfl
 ·simpa [aJ] using aD.ky φ (.map none) rfl
 ·simpa [aJ] using aD.ky φ (.chan none) rfl
 ·simpa [aJ] using aD.ky φ .nilFunc rfl
 ·simpa [aJ] using aD.ky φ .nilIface rfl
 ·rename_i l c;simpa [aJ] using aD.ky φ (.slice none l c) h
 ·rename_i f a b
  simp only [c8] at h;unfold aJ;exact .func _ _ _ _ (λl hl=>by cases hl) (by simp [x0]) (by simp [x0]) (λi ai=>by simpa using aD.AT φ a h.1 i (by simpa using ai)) (λi ai=>by simpa using aD.AT φ b h.2 i (by simpa using ai))
theorem aD.AT (φ:b4):∀l:List J,dM l=true->∀i,i<l.length->aD φ (l.getD i Go.undef) ((ep l).getD i Go.undef)
 |[],_,i,ai=>absurd ai (by simp)
 |v::r,h,0,_=>by
   have:=aD.vt φ v (by simp [dM] at h;exact h.1);simpa [ep] using this
 |v::r,h,i+1,ai=>by
   have:=aD.AT φ r (by simp [dM] at h;exact h.2) i (by simpa using ai);simpa [ep] using this
end
theorem aD.adT {φ:b4} {k:Nat} {aB:J} (h:aD φ (ak k) aB):aB=a7.σ k:=by
 generalize aw:ak k=s at h;cases h<;>simp [ak,AE.cB] at aw
 subst aw;rfl
mutual
theorem aD.jj {φ:b4}:∀(v:J) {aB:J},aM v=true->aD φ v aB->aB=aJ v:=by
 intro v aB hp h;unfold aM at hp;split at hp
 ·rename_i k b
  have:b=0:=cI hp;subst this;rw[aD.adT (k:=k) h];simp [aJ]
 ·rename_i t v
  cases h with
  |iface t h=>unfold aJ;rw[aD.jj v hp h]
 ·rename_i l
  cases h with
  |agg cs cs' ad ag=>
   obtain⟨l'⟩:=cs';unfold aJ;rw[aD.x1 l l' hp (by simpa using ad) (λi ai=>by simpa using ag i (by simpa using ai))]
 ·rename_i l
  cases h with
  |tuple cs cs' ad ag=>
   obtain⟨l'⟩:=cs';unfold aJ;rw[aD.x1 l l' hp (by simpa using ad) (λi ai=>by simpa using ag i (by simpa using ai))]
 all_goals (first|(cases hp;done)|skip)
 all_goals first|(unfold aJ;refine aD.lf _ ?_ h;first|exact hp|rfl;done)|skip
 rename_i f a b;simp only [c8] at hp;cases h with
 |func fs kI cs cs' av ad ag aR ar=>
  obtain⟨a6⟩:=kI;obtain⟨b'⟩:=cs';unfold aJ;rw[aD.x1 a a6 hp.1 (by simpa using ad) (λi ai=>by simpa using aR i (by simpa using ai)),aD.x1 b b' hp.2 (by simpa using ag) (λi ai=>by simpa using ar i (by simpa using ai))]
theorem aD.x1 {φ:b4}:∀(l l':List J),dM l=true->l.length=l'.length->(∀i,i<l.length->aD φ (l.getD i Go.undef) (l'.getD i Go.undef))->l'=ep l
 |[],[],_,_,_=>rfl
 |[],_::_,_,h,_=>by simp at h
 |_::_,[],_,h,_=>by simp at h
 |v::r,aB::eo,hp,hl,h=>by
   have ad:=aD.jj v (by simp [dM] at hp;exact hp.1) (by simpa using h 0 (by simp));have ag:=aD.x1 r eo (by simp [dM] at hp;exact hp.2) (by simpa using hl) (λi ai=>by simpa using h (i+1) (by simpa using ai));rw[ad,ag];rfl
end
inductive gh where
 |bin (op:BinOp) (t:aK) (x y:J)
 |un (op:UnOp) (x:J)
 |conv (s d:aK) (x:J)
 |mg (t:aK) (x:J) (e7 ai e5:Option J)
 |dB (t:aK) (x i:J)
 |fW (t:aK) (x i:J)
 |bB (t:aK) (a:J)
 |cq (t:aK) (a:J) (f:Nat)
 |dN (x:J)
 |len (c7:Array aK) (ty:aK) (x:J)
 |e5 (c7:Array aK) (ty:aK) (x y:J)
 |lS (c7:Array aK) (ty:aK) (x y:J)
 |ea (x:J)
 |mB (t:aK) (x i:J) (ok:Bool)
def E7:Option J->Option J->Bool
 |none,none=>true
 |some a,some b=>gm a b
 |_,_=>false
omit [a7] in
theorem Nd {a b:Option J} (h:E7 a b=true):a=b:=by
 unfold E7 at h;split at h
 ·rfl
 ·rw[hM _ _ h]
 ·cases h
def CY:gh->gh->Bool
 | .bin op t x y,.bin Nf dr x' fM=>decide (op=Nf)&&(Nat.beq t dr&&(gm x x'&&gm y fM))
 | .un op x,.un Nf x'=>decide (op=Nf)&&gm x x'
 | .conv s d x,.conv fV ou x'=>Nat.beq s fV&&(Nat.beq d ou&&gm x x')
 | .mg t x e7 ai e5,.mg dr x' adU lQ adV=>Nat.beq t dr&&(gm x x'&&(E7 e7 adU&&(E7 ai lQ&&E7 e5 adV)))
 | .dB t x i,.dB dr x' ug=>Nat.beq t dr&&(gm x x'&&gm i ug)
 | .fW t x i,.fW dr x' ug=>Nat.beq t dr&&(gm x x'&&gm i ug)
 | .bB t a,.bB dr a6=>Nat.beq t dr&&gm a a6
 | .cq t a f,.cq dr a6 iQ=>Nat.beq t dr&&(gm a a6&&Nat.beq f iQ)
 | .dN x,.dN x'=>gm x x'
 | .len c7 ty x,.len E8 ty' x'=>decide (c7=E8)&&(Nat.beq ty ty'&&gm x x')
 | .e5 c7 ty x y,.e5 E8 ty' x' fM=>decide (c7=E8)&&(Nat.beq ty ty'&&(gm x x'&&gm y fM))
 | .lS c7 ty x y,.lS E8 ty' x' fM=>decide (c7=E8)&&(Nat.beq ty ty'&&(gm x x'&&gm y fM))
 | .ea x,.ea x'=>gm x x'
 | .mB t x i ok,.mB dr x' ug adW=>Nat.beq t dr&&(gm x x'&&(gm i ug&&decide (ok=adW)))
 |_,_=>false
omit [a7] in
theorem Ng {a b:gh} (h:CY a b=true):a=b:=by
 unfold CY at h;split at h<;>try simp only [c8,decide_eq_true_eq] at h
 case h_1=>rw[h.1,cI h.2.1,hM _ _ h.2.2.1,hM _ _ h.2.2.2]
 case h_2=>rw[h.1,hM _ _ h.2]
 case h_3=>rw[cI h.1,cI h.2.1,hM _ _ h.2.2]
 case h_4=>rw[cI h.1,hM _ _ h.2.1,Nd h.2.2.1,Nd h.2.2.2.1,Nd h.2.2.2.2]
 case h_5=>rw[cI h.1,hM _ _ h.2.1,hM _ _ h.2.2]
 case h_6=>rw[cI h.1,hM _ _ h.2.1,hM _ _ h.2.2]
 case h_7=>rw[cI h.1,hM _ _ h.2]
 case h_8=>rw[cI h.1,hM _ _ h.2.1,cI h.2.2]
 case h_9=>rw[hM _ _ h]
 case h_10=>rw[h.1,cI h.2.1,hM _ _ h.2.2]
 case h_11=>rw[h.1,cI h.2.1,hM _ _ h.2.2.1,hM _ _ h.2.2.2]
 case h_12=>rw[h.1,cI h.2.1,hM _ _ h.2.2.1,hM _ _ h.2.2.2]
 case h_13=>rw[hM _ _ h]
 case h_14=>rw[cI h.1,hM _ _ h.2.1,hM _ _ h.2.2.1,h.2.2.2]
 case h_15=>cases h
def qD (br:Operand->J) (o:Oper):Option gh:=
 match o.op with
 | .binOp op t x y _=>some (.bin op t (br x) (br y))
 | .unOp op _ x=>some (.un op (br x))
 | .convert s d x=>some (.conv s d (br x))
 | .slice t x e7 ai e5=>some (.mg t (br x) (e7.map br) (ai.map br) (e5.map br))
 | .indexAddr t x i=>some (.dB t (br x) (br i))
 | .index t x i=>some (.fW t (br x) (br i))
 | .load t a=>some (.bB t (br a))
 | .fieldAddr t a f=>some (.cq t (br a) f)
 | .nilCheck x=>some (.dN (br x))
 | .call c=>match c.callee with
   | .builtin .len=>match c.args with
     |⟨[x]⟩=>some (.len c.argTypes o.type (br x))
     |_=>none
   | .builtin .max=>match c.args with
     |⟨[x,y]⟩=>some (.e5 c.argTypes o.type (br x) (br y))
     |_=>none
   | .builtin .min=>match c.args with
     |⟨[x,y]⟩=>some (.lS c.argTypes o.type (br x) (br y))
     |_=>none
   |_=>none
 | .lookup t x i ok=>some (.mB t (br x) (br i) ok)
 |_=>none
def gn (eb ec:Operand):gh->Sem Next
 | .bin op t x y=>do pure (.value (<-(do eqGuard op t eb ec x y;binOp op t x y)))
 | .un op x=>do pure (.value (<-Op.unary op x))
 | .conv s d x=>do pure (.value (<-convert s d x))
 | .mg t x e7 ai e5=>do pure (.value (<-Instr.sliceAt t x e7 ai e5))
 | .dB t x i=>do pure (.value (<-Instr.indexAt t x i))
 | .fW t x i=>do pure (.value (<-Instr.index t x i))
 | .bB t a=>do pure (.value (<-Instr.loadAt t a))
 | .cq t a f=>do pure (.value (<-Instr.fieldAt t a f))
 | .dN x=>execOp (λ_=>x) ⟨none,.nilCheck (.const undef),0,"",#[],none⟩
 | .len c7 ty x=>do pure (.value (<-Builtin.len_ c7 ty #[x]))
 | .e5 c7 ty x y=>do pure (.value (<-Builtin.max_ c7 ty #[x,y]))
 | .lS c7 ty x y=>do pure (.value (<-Builtin.min_ c7 ty #[x,y]))
 | .ea x=>pure (.value x)
 | .mB t x i ok=>do pure (.value (<-Instr.lookup t x i ok))
def x2:gh->gh
 | .bin op t x y=> .bin op t (aJ x) (aJ y)
 | .un op x=> .un op (aJ x)
 | .conv s d x=> .conv s d (aJ x)
 | .mg t x e7 ai e5=> .mg t (aJ x) (e7.map aJ) (ai.map aJ) (e5.map aJ)
 | .dB t x i=> .dB t (aJ x) (aJ i)
 | .fW t x i=> .fW t (aJ x) (aJ i)
 | .bB t a=> .bB t (aJ a)
 | .cq t a f=> .cq t (aJ a) f
 | .dN x=> .dN (aJ x)
 | .len c7 ty x=> .len c7 ty (aJ x)
 | .e5 c7 ty x y=> .e5 c7 ty (aJ x) (aJ y)
 | .lS c7 ty x y=> .lS c7 ty (aJ x) (aJ y)
 | .ea x=> .ea (aJ x)
 | .mB t x i ok=> .mB t (aJ x) (aJ i) ok
def plainO:Option J->Bool
 |none=>true
 |some v=>aM v
def oy:gh->Bool
 | .bin _ _ x y| .dB _ x y| .fW _ x y| .e5 _ _ x y| .lS _ _ x y| .mB _ x y _=>aM x&&aM y
 | .un _ x| .ea x| .conv _ _ x| .bB _ x| .cq _ x _| .dN x| .len _ _ x=>aM x
 | .mg _ x e7 ai e5=>aM x&&(plainO e7&&(plainO ai&&plainO e5))
def CZ:gh->Bool
 | .bin .. | .un .. | .ea .. | .dB .. | .cq .. | .len .. | .e5 .. | .lS .. | .dN _=>true
 |_=>false
def oz (w:ax):Prop:=∀i o,a7.dn i=some o->w.heap[i]? =some o
def aV (P:aS) (p:gh×J):Prop:=
 oy p.1=true/\aM p.2=true/\
 if CZ p.1 then ∀eb ec w,(gn eb ec (x2 p.1)).run P w= .ok (.value (aJ p.2)) w
 else ∀eb ec w,oz w->(gn eb ec (x2 p.1)).run P w= .ok (.value (aJ p.2)) w
class ej (P:aS) where
 ops:List (gh×J)
def q' (P:aS) [ej P]:Prop:=∀p∈ej.ops P,aV P p
def find (f:gh):List (gh×J)->Option J
 |[]=>none
 |p::r=>bif CY f p.1 then some p.2 else find f r
omit [a7] in
theorem IX {f:gh} {v:J}:∀{l:List (gh×J)},find f l=some v->(f,v)∈l
 |[],h=>by cases h
 |p::r,h=>by
  unfold find at h;cases he:CY f p.1 with
  |true=>
   rw[he,bF,cQ] at h;have:=Ng he;subst this;subst h;exact List.mem_cons_self
  |false=>
   rw[he,eD] at h;exact List.mem_cons_of_mem _ (IX h)
def uv (P:aS) [ej P] (br:Operand->J) (o:Oper):Option J:=
 match ej.ops P with
 |[]=>none
 |l=>match qD br o with
  |some f=>find f l
  |none=>none
def AU (P:aS) [ej P] (v:J):Option Bool:=
 match ej.ops P with
 |[]=>none
 |l=>match find (.ea v) l with
  |some (.bool b)=>some b
  |_=>none
def adX:gh->Bool
 | .ea (.bool true)=>true
 |_=>false
def adY (P:aS) [ej P]:Bool:=
 match ej.ops P with
 |[]=>false
 |p::_=>adX p.1
def IY (P:aS) [ej P] (br:Operand->J) (o:Oper):Option J:=
 match ej.ops P with
 |[]=>none
 |_=>match o.op with
  | .pick c x y=>match AU P (br c) with
    |some t=>some (bif t then br x else br y)
    |none=>none
  |_=>none
def Nh (t:aK):gh->Bool
 | .ea (.int .i64 (.ofNat m))=>Nat.beq m t
 |_=>false
def Ni (P:aS) [ej P] (o:Oper):Bool:=match ej.ops P with
 |[]=>false
 |l=>match o.op with
  | .makeMap .. =>adY P
  | .alloc t=>l.any λp=>Nh t p.1
  | .box t _=>l.any λp=>Nh t p.1
  | .buildSlice t n _=>bif Nat.beq n 0 then false else l.any λp=>Nh t p.1
  |_=>false
def C0 (P:aS) [Lib P] [ej P] (br:Operand->J) (A:a8) (o:Oper):Option (sX×a8):=
 match uv P br o with
 |some v=>some (.value v,A)
 |none=>match IY P br o with
  |some v=>some (.value v,A)
  |none=>bif Ni P o then none else E6 P br A o
section
variable {P:aS} {φ:b4} {A a':a8} {w:ax}
theorem UY {ρ ρ':Operand->J} {o:Oper} {f:gh} (c5:∀x,aD φ (ρ x) (ρ' x)) (h:qD ρ o=some f) (hp:oy f=true):qD ρ' o=some (x2 f):=by
 have e:∀x,aM (ρ x)=true->ρ' x=aJ (ρ x):=λx aq=>aD.jj _ aq (c5 x)
 have Nj:∀x:Option Operand,plainO (x.map ρ)=true->x.map ρ'=(x.map ρ).map aJ:=λx aq=>by
  cases x with
  |none=>rfl
  |some x=>simp only [Option.map_some];rw[e x aq]
 unfold qD at h ⊢;split at h<;>try (cases h;done)
 all_goals try (simp only [cQ] at h;subst h;simp only [oy,c8] at hp)
 ·rw[e _ hp.1,e _ hp.2];rfl
 ·rw[e _ hp];rfl
 ·rw[e _ hp];rfl
 ·rw[e _ hp.1,Nj _ hp.2.1,Nj _ hp.2.2.1,Nj _ hp.2.2.2];rfl
 ·rw[e _ hp.1,e _ hp.2];rfl
 ·rw[e _ hp.1,e _ hp.2];rfl
 ·rw[e _ hp];rfl
 ·rw[e _ hp];rfl
 ·rw[e _ hp];rfl
 ·split at h<;>try (cases h;done)
  all_goals (split at h<;>try (cases h;done))
  all_goals (simp only [cQ] at h;subst h;simp only [oy,c8] at hp)
  ·rw[e _ hp];rfl
  ·rw[e _ hp.1,e _ hp.2];rfl
  ·rw[e _ hp.1,e _ hp.2];rfl
 ·rw[e _ hp.1,e _ hp.2];rfl
omit [a7] in
theorem UZ {ρ:Operand->J} {o:Oper} {f:gh} (h:qD ρ o=some f):∃eb ec,∀P w,(execOp ρ o).run P w=(gn eb ec f).run P w:=by
 obtain⟨dst,op,type,pos,after,guard⟩:=o;unfold qD at h;simp only at h;split at h<;>try (cases h;done)
 case h_1 op t x y UX=>cases h;exact⟨x,y,λ_ _=>rfl⟩
 case h_10 c=>
  split at h<;>try (cases h;done)
  all_goals (split at h<;>try (cases h;done))
  all_goals (cases h;refine⟨.const undef,.const undef,λP w=> ?_⟩;unfold execOp resolve)
  ·rename_i _ ad _ _ ag;simp only [ad,ag,List.map_toArray,List.map_cons,List.map_nil];rfl
  ·rename_i _ ad _ _ _ ag;simp only [ad,ag,List.map_toArray,List.map_cons,List.map_nil];rfl
  ·rename_i _ ad _ _ _ ag;simp only [ad,ag,List.map_toArray,List.map_cons,List.map_nil];rfl
 all_goals (cases h;exact⟨.const undef,.const undef,λ_ _=>rfl⟩)
theorem adZ [ej P] (di:q' P) (ao:b2 φ A w) {ρ ρ':Operand->J} {o:Oper} {v:J} (c5:∀x,aD φ (ρ x) (ρ' x)) (h:uv P ρ o=some v):b7 (wS (.value v)) P φ A w (execOp ρ' o) A:=by
 unfold uv at h;split at h
 ·cases h
 split at h
 ·rename_i f aR
  have hK:=di _ (IX h);obtain⟨ad,ag,ay⟩:=hK;simp only at ad ag ay;obtain⟨eb,ec,he⟩:=UZ (UY c5 aR ad);have fy:(gn eb ec (x2 f)).run P w= .ok (.value (aJ v)) w:=by
   split at ay
   ·exact ay eb ec w
   ·exact ay eb ec w λi o ai=>(ao.dn i o ai).1
  exact⟨φ,w,_,(he P w).trans fy,⟨_,rfl,aD.vt φ v ag⟩,cF.refl ao⟩
 ·cases h
theorem IZ [ej P] (di:q' P) (w:ax) {v aB:J} {b:Bool} (h:AU P v=some b) (aC:aD φ v aB):aB= .bool b:=by
 unfold AU at h;split at h
 ·cases h
 split at h
 ·rename_i b' af
  cases h;obtain⟨ad,ag,ay⟩:=di _ (IX af);have hp:aM v=true:=ad;have bG:=ay (.const undef) (.const undef) w;rw[aD.jj v hp aC];have cJ:(Result.ok (Next.value (aJ v)) w:Result Next)= .ok (.value (aJ (.bool b))) w:=bG;simp only [Result.ok.injEq,Next.value.injEq,and_true] at cJ;exact cJ
 ·cases h
theorem ad0 [ej P] (di:q' P) (ao:b2 φ A w) {ρ ρ':Operand->J} {o:Oper} {v:J} (c5:∀x,aD φ (ρ x) (ρ' x)) (h:IY P ρ o=some v):b7 (wS (.value v)) P φ A w (execOp ρ' o) A:=by
 unfold IY at h;split at h
 ·cases h
 split at h
 ·rename_i c x y cz
  split at h
  ·rename_i t aN
   cases h;have ar:=IZ di w aN (c5 c);refine⟨φ,w,.value (bif t then ρ' x else ρ' y),?_,?_,cF.refl ao⟩
   ·unfold execOp
    rw[cz];simp only [ar];cases t<;>rfl
   ·cases t
    ·exact⟨_,rfl,c5 y⟩
    ·exact⟨_,rfl,c5 x⟩
  ·cases h
 ·cases h
theorem C1 [Lib P] [ej P] (di:q' P) (ao:b2 φ A w) {ρ ρ':Operand->J} {o:Oper} {n:sX} (c5:∀x,aD φ (ρ x) (ρ' x)) (h:C0 P ρ A o=some (n,a')):b7 (wS n) P φ A w (execOp ρ' o) a':=by
 unfold C0 at h;split at h
 ·rename_i v aC
  cases h;exact adZ di ao c5 aC
 split at h
 ·rename_i v aC
  cases h;exact ad0 di ao c5 aC
 ·cases af:Ni P o with
  |true=>rw[af] at h;cases h
  |false=>rw[af,eD] at h;exact UW ao c5 h
theorem C2 [ej P] (di:q' P) {ρ ρ':Operand->J} {o:Oper} {v:J} (c5:∀x,aD φ (ρ x) (ρ' x)) (h:uv P ρ o=some v) (al:∀f,qD ρ o=some f->CZ f=true):∃aB,(∀w,(execOp ρ' o).run P w= .ok (.value aB) w)/\aD φ v aB:=by
 unfold uv at h;split at h
 ·cases h
 split at h
 ·rename_i f aR
  obtain⟨ad,ag,ay⟩:=di _ (IX h);simp only at ad ag ay;obtain⟨eb,ec,he⟩:=UZ (UY c5 aR ad);rw[aY (al f aR)] at ay;exact⟨_,λw=>(he P w).trans (ay eb ec w),aD.vt φ v ag⟩
 ·cases h
end
end AE
namespace AE
variable [a7]
abbrev aF:=bY J
abbrev ad1:=FuncId->List J->a8->Option (J×a8)
def slot (sl:aF) (t:Nat):J:=
 match sl.get t with
 |some v=>v
 |none=>cB
def dH (gl:bY Nat) (sl:aF):Operand->J
 | .tmp t=>slot sl t
 | .const v=>bif plain v then v else cB
 | .global g=>match gl.get g with
   |some b=> .pointer (some ⟨b,0,none⟩)
   |none=>ak (eZ+g)
 | .func f=> .func (.func f) ⟨[]⟩ ⟨[]⟩
def mX (gl:bY Nat) (φ:b4):Prop:=∀g b,gl.get g=some b->∃e,φ b=some e/\e.bn=g/\e.sh=0
structure fE (N:Nat) (ds:List Deferred) (φ:b4) (sl:aF) (a:Act):Prop where
 size:a.tmps.size=N
 defers:a.defers=ds
 get:∀t v,sl.get t=some v->aD φ v (a.tmps.getD t undef)
theorem fE.mono {N:Nat} {ds:List Deferred} {φ db:b4} {sl:aF} {a:Act} (h:fE N ds φ sl a) (he:∀b e,φ b=some e->db b=some e):fE N ds db sl a:=
 ⟨h.size,h.defers,λt v aC=>(h.get t v aC).mono he⟩
omit [a7] in
theorem mX.mono {gl:bY Nat} {φ db:b4} (h:mX gl φ) (he:∀b e,φ b=some e->db b=some e):mX gl db:=λg b aA=>by
 obtain⟨e,ad,ag⟩:=h g b aA;exact⟨e,he _ _ ad,ag⟩
theorem I0 {φ:b4} {sl:aF} {aB:J} {t:Nat} (h:∀v,sl.get t=some v->aD φ v aB):aD φ (slot sl t) aB:=by
 unfold slot;cases aA:sl.get t with
 |none=>exact .cB _
 |some v=>exact h v aA
theorem gU {gl:bY Nat} {φ:b4} {sl:aF} {a:Act} (aA:mX gl φ) (aw:∀t v,sl.get t=some v->aD φ v (a.tmps.getD t undef)) (x:Operand):aD φ (dH gl sl x) (a.eval x):=by
 cases x with
 |tmp t=>exact I0 (aw t)
 |const v=>
  simp only [dH];cases hp:plain v with
  |true=>exact aD.ky φ v hp
  |false=>exact .cB _
 |global g=>
  simp only [dH];cases af:gl.get g with
  |none=>
   have h:=aD.sym (φ:=φ) (eZ+g);rw[a7.acy g] at h;exact h
  |some b=>
   obtain⟨e,ad,ag,ay⟩:=aA g b af;have:=aD.ptr (o:=0) ad;rw[ag,ay] at this;exact this
 |func f=>exact .func _ _ _ _ (λl h=>by cases h) U U (λi h=>absurd h (by simp)) (λi h=>absurd h (by simp))
def g' (N:Nat) (sl:aF) (dst:Option Tmp) (v:J):Option aF:=
 match dst with
 |none=>some sl
 |some d=>bif Nat.blt d N then bY.set v depth sl d else none
theorem fE.put {N:Nat} {ds:List Deferred} {φ:b4} {sl dO:aF} {a:Act} {dst:Option Tmp} {v aB:J} (h:fE N ds φ sl a) (aC:aD φ v aB) (hp:g' N sl dst v=some dO):fE N ds φ dO (a.put dst aB):=by
 unfold g' at hp;cases dst with
 |none=>cases hp;exact h
 |some d=>
  simp only at hp;cases af:Nat.blt d N with
  |false=>rw[af] at hp;cases hp
  |true=>
   rw[af,bF] at hp;have cg:d<N:=Nat.blt_eq.mp af;refine⟨by simp [Act.put,h.size],h.defers,λt u hu=> ?_⟩;rw[bY.oh _ _ _ _ _ t hp] at hu;have cv:=h.size;by_cases aN:t=d
   ·subst aN
    rw[aY rfl] at hu;cases hu;simp only [Act.put,fk];rw[Array.getElem?_setIfInBounds_self_of_lt (Nat.lt_of_lt_of_eq cg cv.symm)];exact aC
   ·rw[a_ aN] at hu
    have:=h.get t u hu;simp only [Act.put,fk] at this ⊢;rw[Array.getElem?_setIfInBounds_ne (Ne.symm aN)];exact this
def q_ (ops:Array Oper) (o:Oper) (sl:aF):Option Bool:=
 match o.guard with
 |none=>some true
 |some (j,want)=>match (ops[j]?).bind (·.dst) with
  |none=>some false
  |some t=>match sl.get t with
   |some (.bool b)=>some (b==want)
   |some (.tuple ⟨[]⟩)=>some false
   |_=>none
theorem py {φ:b4} {ops:Array Oper} {o:Oper} {sl:aF} {a:Act} {r:Bool} (aw:∀t v,sl.get t=some v->aD φ v (a.tmps.getD t undef)) (h:q_ ops o sl=some r):Region.wanted o (yielded ops a.tmps)=r:=by
 unfold q_ at h;unfold Region.wanted;split at h
 ·rename_i aA
  cases h;rw[aA]
 ·rename_i j want aA
  rw[aA];simp only;unfold yielded;split at h
  ·rename_i bg
   cases h;rw[bg];simp
  ·rename_i t bg
   rw[bg];simp only [Option.bind_some];split at h
   ·rename_i b af
    have aC:=aw t _ af;cases h;rw[fk] at aC;cases aN:a.tmps[t]? with
    |none=>rw[aN] at aC;simp [undef] at aC;cases aC
    |some u=>
     rw[aN] at aC;simp only [Option.getD_some] at aC;cases aC;cases b<;>cases want<;>rfl
   ·rename_i af
    have aC:=aw t _ af;cases h;rw[fk] at aC;cases aN:a.tmps[t]? with
    |none=>simp
    |some u=>
     rw[aN] at aC;simp only [Option.getD_some] at aC;cases aC;simp
   ·cases h
def Nk (P:aS) [ej P] (ops:Array Oper) (o:Oper) (sl:aF):Option Bool:=
 match q_ ops o sl with
 |some b=>some b
 |none=>match o.guard with
  |none=>none
  |some (j,want)=>match (ops[j]?).bind (·.dst) with
   |none=>none
   |some t=>match sl.get t with
    |some v=>(AU P v).map (· ==want)
    |none=>none
theorem U0 {P:aS} [ej P] (di:q' P) (w:ax) {φ:b4} {ops:Array Oper} {o:Oper} {sl:aF} {a:Act} {r:Bool} (aw:∀t v,sl.get t=some v->aD φ v (a.tmps.getD t undef)) (h:Nk P ops o sl=some r):Region.wanted o (yielded ops a.tmps)=r:=by
 unfold Nk at h;split at h
 ·rename_i b af
  cases h;exact py aw af
 ·split at h
  ·cases h
  ·rename_i j want aA
   split at h
   ·cases h
   ·rename_i t bg
    split at h
    ·rename_i v aC
     rw[xL] at h;obtain⟨b,af,rfl⟩:=h;have eh:=IZ di w af (aw t v aC);unfold Region.wanted;rw[aA];simp only;unfold yielded;rw[bg];simp only [Option.bind_some];rw[fk] at eh;cases aN:a.tmps[t]? with
     |none=>rw[aN] at eh;simp [undef] at eh
     |some u=>
      rw[aN] at eh;simp only [Option.getD_some] at eh;subst eh;cases b<;>cases want<;>rfl
    ·cases h
structure iw where
 call:ad1
 round:Nat->List J->a8->Option (J×a8)
def zl (φ:b4) (A:a8) (w:ax) (v:J) (a':a8):Ending->ax->Prop
 | .returned aB,w'=>∃db,aD db v aB/\cF φ A w db a' w'
 |_,_=>False
def Fr (r:Option Nat):Fence:={Fence.wide with round:=r}
omit [a7] in
theorem C3 {r:Option Nat} {n:Nat} {P:aS} {f:FuncId} {args:Array J} {w:ax} {R:Ending->ax->Prop} (h:Calls P f args w R):CallsIn (Fr r) n P f args w R:=by
 have ga:CallsIn Fence.wide n P f args w R:=callsIn_wide.2 h;exact ga
structure lT (P:aS) [ej P] (gl:bY Nat) (C:iw):Prop where
 facts:q' P
 call:∀(f:FuncId) (args:List J) (A:a8) (v:J) (a':a8) (φ:b4) (w:ax) (gx:Array J),C.call f args A=some (v,a')->b2 φ A w->mX gl φ->h7 args φ gx->
  Calls P f gx w (zl φ A w v a')
 round:∀(b:Nat) (args:List J) (A:a8) (v:J) (a':a8) (φ:b4) (w:ax) (gx:Array J) (e:hS) (k:h6) (fX:Aw) (r:Loop),C.round b args A=some (v,a')->b2 φ A w->mX gl φ->h7 args φ gx->
  φ b=some e->A.bl.get b=some k->k.obj= .gw (.loop fX)->w.heap[e.bn]? =some (.loop r)->rV φ (.loop fX) (.loop r)->gx.size=r.params.size/\
  RoundIn Fence.wide 0 P e.bn r.fn ((r.params.zip gx).foldl (λtmps (t,a)=>tmps.setIfInBounds t a) r.tmps) r.assign r.body w (zl φ A w v a')
def yieldOf (br:Operand->J) (o:Oper):Option (Nat×List J):=
 match o.op with
 | .call c=>match c.callee with
   | .value f=>match br f with
     | .func (.yield b) ⟨[]⟩ ⟨[]⟩=>some (b,c.args.toList.map br)
     |_=>none
   |_=>none
 |_=>none
def E9 (A:a8) (b:Nat):Bool:=
 match A.bl.get b with
 |some k=>match k.obj with
  | .gw (.loop _)=>true
  |_=>false
 |none=>false
def vu (P:aS) [Lib P] [ej P] (C:iw) (gl:bY Nat) (ops:Array Oper) (o:Oper) (sl:aF) (A:a8):Option (J×a8):=
 match Nk P ops o sl with
 |none=>none
 |some false=>some (undef,A)
 |some true=>match yieldOf (dH gl sl) o with
  |some (b,args)=>bif E9 A b then C.round b args A else none
  |none=>match C0 P (dH gl sl) A o with
   |some (.value v,bH)=>some (v,bH)
   |some (.skip,bH)=>some (undef,bH)
   |some (.enter f args,bH)=>C.call f args bH
   |none=>none
def wU (P:aS) [Lib P] [ej P] (C:iw) (gl:bY Nat) (N:Nat) (ops:Array Oper) (o:Oper) (sl:aF) (A:a8):Option (aF×a8):=
 match vu P C gl ops o sl A with
 |some (v,bH)=>match g' N sl o.dst v with
  |some eK=>some (eK,bH)
  |none=>none
 |none=>none
omit [a7] in
theorem Nl {P:aS} [Lib P] [ej P] {C:iw} {gl:bY Nat} {N:Nat} {ops:Array Oper} {o:Oper} {sl dO:aF} {A a':a8} (h:wU P C gl N ops o sl A=some (dO,a')):
  ∃v,vu P C gl ops o sl A=some (v,a')/\g' N sl o.dst v=some dO:=by
 unfold wU at h;split at h
 ·rename_i v bH aC
  split at h
  ·rename_i eK hp
   cases h;exact⟨v,aC,hp⟩
  ·cases h
 ·cases h
section
variable {P:aS} [Lib P] [ej P] {C:iw} {gl:bY Nat} {φ:b4} {A a':a8} {w:ax} {a:Act}
omit [a7] in
theorem I1 {ρ:Operand->J} {o:Oper} {r:sX×a8} (h:C0 P ρ A o=some r) (c:Call):o.op≠.defer c:=by
 intro ar;unfold C0 at h;split at h
 ·rename_i v aC
  unfold uv at aC;split at aC
  ·cases aC
  ·unfold qD at aC
   rw[ar] at aC;cases aC
 split at h
 ·rename_i v aC
  unfold IY at aC;split at aC
  ·cases aC
  ·rw[ar] at aC
   cases aC
 ·cases af:Ni P o with
  |true=>rw[af] at h;cases h
  |false=>
   rw[af,eD] at h;unfold E6 at h;rw[ar] at h;cases h
omit [a7] in
omit [Lib P] [ej P] in
theorem ad2 {ρ:Operand->J} {o:Oper} {r:Nat×List J} (h:yieldOf ρ o=some r) (c:Call):o.op≠.defer c:=by
 intro ar;unfold yieldOf at h;rw[ar] at h;cases h
omit [Lib P] [ej P] in
theorem U1 (ao:b2 φ A w) {ρ ρ':Operand->J} {o:Oper} {b:Nat} {args:List J} (c5:∀x,aD φ (ρ x) (ρ' x)) (h:yieldOf ρ o=some (b,args)) (hl:E9 A b=true):
  ∃e k fX r gx,φ b=some e/\A.bl.get b=some k/\k.obj= .gw (.loop fX)/\w.heap[e.bn]? =some (.loop r)/\rV φ (.loop fX) (.loop r)/\h7 args φ gx/\
   (gx.size=r.params.size->(execOp ρ' o).run P w= .ok (.round e.bn r.fn ((r.params.zip gx).foldl (λtmps (t,a)=>tmps.setIfInBounds t a) r.tmps) r.assign r.body) w):=by
 unfold yieldOf at h;split at h
 ·rename_i c cz
  split at h
  ·rename_i f pW
   split at h
   ·rename_i b' aR
    simp only [cQ,Prod.mk.injEq] at h;obtain⟨rfl,rfl⟩:=h;have aC:=c5 f;rw[aR] at aC;have ad3:∃e,φ b'=some e/\ρ' f= .func (.yield e.bn) #[] #[]:=by
     generalize ρ' f=u at aC;cases aC with
     |tZ h=>exact⟨_,h,rfl⟩
     |func _ _ _ _ av=>exact absurd rfl (av _)
    obtain⟨e,he,ow⟩:=ad3;unfold E9 at hl;split at hl
    ·rename_i k al
     split at hl
     ·rename_i fX fK
      obtain⟨k',dD,_,ho⟩:=ao.eE b' e he;rw[al] at dD;cases dD;unfold fS at ho;simp only [fK] at ho;obtain⟨_,o',ad,ag⟩:=ho;obtain⟨r,rfl,wM⟩:=id ag;refine⟨e,k,fX,r,c.args.map ρ',he,al,fK,ad,ag,h7.map λx _=>c5 x,λcv=> ?_⟩;unfold execOp;rw[cz];simp only;refine c9 (a:={target:= .fn (.yield e.bn) #[],args:= #[]++c.args.map ρ'}) (by unfold resolve;rw[pW];simp only [ow];rfl) ?_;simp only [Array.empty_append];show (Instr.yield e.bn (c.args.map ρ')).run P w=_;unfold Instr.yield Instr.getLoop;refine dm (a:=r) (w1:=w) (by
       refine dm (a:= .loop r) (w1:=w) (r7 ad (λ_ _ _ h=>by cases h)) rfl) ?_
      rw[a_ (λc1=>c1 cv)];rfl
     ·cases hl
    ·cases hl
   ·cases h
  ·cases h
 ·cases h
theorem I2 (c4:lT P gl C) (ao:b2 φ A w) (aA:mX gl φ) {ro:Option Nat} {ops:Array Oper} {o:Oper} {sl:aF} {v:J} (aw:∀t v,sl.get t=some v->aD φ v (a.tmps.getD t undef)) (h:vu P C gl ops o sl A=some (v,a'))
  {K:Act->ax->Prop} {Q:Exit->Act->ax->Prop} (cC:∀db aB w',aD db v aB->cF φ A w db a' w'->K (a.put o.dst aB) w'):
  if Region.wanted o (yielded ops a.tmps) then o.wpIn (Fr ro) 0 P a w K Q else (∀f,o.about P w a.eval=some f->(Fr ro).fn f)/\K (a.put o.dst undef) w:=by
 unfold vu at h;split at h
 ·cases h
 ·rename_i hw
  rw[U0 c4.facts w aw hw];cases h;exact⟨λ_ _=>trivial,cC φ undef w (aD.zc φ) (cF.refl ao)⟩
 ·rename_i hw
  rw[U0 c4.facts w aw hw,aY rfl];refine⟨λ_ _=>trivial,?_⟩;split at h
  ·rename_i b args bE
   cases hl:E9 A b with
   |false=>rw[hl] at h;cases h
   |true=>
    rw[hl,bF] at h;obtain⟨e,k,fX,r,gx,he,al,fK,rX,AV,gM,fy⟩:=U1 (P:=P) ao (gU aA aw) bE hl;obtain⟨cv,Nn⟩:=c4.round b args A v a' φ w gx e k fX r h ao aA gM he al fK rX AV;rw[Oper.semAt_eq _ _ _ (ad2 bE),fy cv,Oper.uponIn_round];refine⟨λh=>absurd h (by simp [Fr,Fence.wide]),?_⟩;have ad4:RoundIn (Fr ro) (0-1) P e.bn r.fn ((r.params.zip gx).foldl (λtmps (t,a)=>tmps.setIfInBounds t a) r.tmps) r.assign r.body w (zl φ A w v a'):=Nn;refine RoundIn.mono ad4 λen w2 vv=> ?_
    cases en with
    |returned aB=>
     obtain⟨fp,ad,ag⟩:=vv;exact cC fp aB w2 ad ag
    |panicked cn=>exact vv.elim
    |outgrown=>exact vv.elim
  ·split at h
   ·rename_i v1 bH ha
    cases h;obtain⟨gO,w1,n,g1,g2,g3⟩:=C1 c4.facts ao (gU aA aw) ha;rw[Oper.semAt_eq _ _ _ (I1 ha),g1];obtain⟨aB,rfl,aC⟩:=g2;exact cC gO aB w1 aC g3
   ·rename_i bH ha
    cases h;obtain⟨gO,w1,n,g1,g2,g3⟩:=C1 c4.facts ao (gU aA aw) ha;rw[Oper.semAt_eq _ _ _ (I1 ha),g1];cases g2;exact cC gO undef w1 (aD.zc gO) g3
   ·rename_i f args bH ha
    obtain⟨gO,w1,n,g1,g2,g3⟩:=C1 c4.facts ao (gU aA aw) ha;rw[Oper.semAt_eq _ _ _ (I1 ha),g1];obtain⟨gx,rfl,gM⟩:=g2;rw[Oper.uponIn_enter];refine⟨λh=>absurd h (by simp [Fr,Fence.wide]),?_⟩;refine CallsIn.mono (C3 (c4.call f args bH v a' gO w1 gx h g3.rel (aA.mono (g3.ext ao)) gM)) λe w2 he=> ?_
    cases e with
    |returned aB=>
     obtain⟨fp,ad,ag⟩:=he;exact cC fp aB w2 ad (cF.trans ao g3 ag)
    |panicked cn=>exact he.elim
    |outgrown=>exact he.elim
   ·cases h
def wV (P:aS) [Lib P] [ej P] (C:iw) (gl:bY Nat) (N:Nat) (ops:Array Oper):List Oper->aF->a8->Option (aF×a8)
 |[],sl,A=>some (sl,A)
 |o::r,sl,A=>match wU P C gl N ops o sl A with
  |some (eK,bH)=>wV P C gl N ops r eK bH
  |none=>none
theorem Np (c4:lT P gl C) {ro:Option Nat} {N:Nat} {ds:List Deferred} {ops:Array Oper} {Q:Exit->Act->ax->Prop}:∀(l:List Oper) (sl dO:aF) (A a':a8) (φ:b4) (w:ax) (a:Act),b2 φ A w->mX gl φ->fE N ds φ sl a->wV P C gl N ops l sl A=some (dO,a')->
  (∀db a6 w',fE N ds db dO a6->cF φ A w db a' w'->Q .normal a6 w')->wpListIn (Fr ro) 0 P ops Q l a w
 |[],sl,dO,A,a',φ,w,a,ao,aA,aw,h,c_=>by
  cases h;exact c_ φ a w aw (cF.refl ao)
 |o::r,sl,dO,A,a',φ,w,a,ao,aA,aw,h,c_=>by
  unfold wV at h;split at h
  ·rename_i eK bH c0
   obtain⟨v,aC,hp⟩:=Nl c0;unfold wpListIn;refine I2 c4 ao aA aw.get aC λdb aB w' xY pV=> ?_
   exact Np c4 r eK dO bH a' db w' (a.put o.dst aB) pV.rel (aA.mono (pV.ext ao)) ((aw.mono (pV.ext ao)).put xY hp) h λfp a2 w2 ad ag=>c_ fp a2 w2 ad (cF.trans ao pV ag)
  ·cases h
end
end AE
section
section
variable {P:aS} {ops:Array Oper}
def fz (ops:Array Oper) (j:Nat):Option Tmp:=(ops[j]?).bind (·.dst)
def needs (ops:Array Oper) (m:Nat) (o:Oper):List Nat:=(List.range m).filter λj=>match fz ops j with
 |some d=>(o.looksAt ops).contains d
 |none=>false
def direct (ops:Array Oper) (i j:Nat):Bool:=match ops[i]? with
 |some o=>o.after.any λe=>Region.binds .any e&&e.on==j
 |none=>false
theorem Act.size_put (a:Act) (d:Option Tmp) (v:J):(a.put d v).tmps.size=a.tmps.size:=by cases d<;>simp [Act.put]
theorem Act.C4 (a:Act) (d:Option Tmp) (v:J):(a.put d v).defers=a.defers:=by cases d<;>rfl
theorem Act.sY (a:Act) (d:Option Tmp) (v:J) (t:Nat) (aN:t<a.tmps.size):(a.put d v).tmps.getD t undef=if d=some t then v else a.tmps.getD t undef:=by
 cases d with
 |none=>simp [Act.put]
 |some d=>
  simp only [Act.put,cQ,fk,Array.getElem?_setIfInBounds];by_cases h:d=t
  ·subst h;simp [aN]
  ·simp [h]
structure aoE (ops:Array Oper) (m:Nat) (G:ax->ax->Prop) (ad5:Nat->J->ax->Prop) (U2:Nat->Bool) (a0:Act) (w0:ax) (listed:Array Bool) (a:Act) (w:ax):Prop where
 size:listed.size=ops.size
 down:∀i j,listed.getD i false=true->direct ops i j=true->listed.getD j false=true
 sZ:∀i,m<=i->listed.getD i false=false
 defers:a.defers=a0.defers
 mC:a.tmps.size=a0.tmps.size
 g:G w0 w
 other:∀t,(∀i,i<m->listed.getD i false=true->fz ops i≠some t)->a.tmps.getD t undef=a0.tmps.getD t undef
 post:∀i t,i<m->listed.getD i false=true->fz ops i=some t->ad5 i (a.tmps.getD t undef) w
 aoF:∀i j t u b o s b' o' fV,i<m->j<m->i≠j->listed.getD i false=true->listed.getD j false=true->U2 i=true->U2 j=true->fz ops i=some t->fz ops j=some u->
  a.tmps.getD t undef= .pointer (some ⟨b,o,s⟩)->a.tmps.getD u undef= .pointer (some ⟨b',o',fV⟩)->b≠b'
theorem qE {listed:Array Bool} {i:Nat} (h:i∈Region.ready .any ops listed):∀k,direct ops i k=true->listed.getD k false=true:=by
 intro k al;obtain⟨_,o,ho,lD⟩:=mem_ready.1 h;simp only [direct,ho] at al;obtain⟨e,he,af⟩:=Array.any_eq_true'.1 al;simp only [c8,beq_iff_eq] at af;exact af.2▸lD e he af.1
def ra (listed:Array Bool):Nat:=listed.toList.count false
theorem U3:∀(l:List Bool) (i:Nat),l[i]? =some false->(l.set i true).count false+1=l.count false
 |[],i,h=>by simp at h
 |b::r,0,h=>by simp at h;subst h;simp
 |b::r,i+1,h=>by
  have:=U3 r i (by simpa using h);simp only [List.set_cons_succ,List.count_cons];omega
theorem x3 {listed:Array Bool} {i:Nat} (ai:i<listed.size) (h:listed.getD i true=false):ra (listed.setIfInBounds i true)+1=ra listed:=by
 unfold ra;rw[Array.toList_setIfInBounds];refine U3 _ _ ?_;have:listed[i]? =some listed[i]:=Array.getElem?_eq_getElem ai;simp only [fk,this,Option.getD_some] at h;rw[Array.getElem?_toList,this,h]
theorem qF {listed:Array Bool} {i:Nat} (h:i<listed.size):listed.getD i true=listed.getD i false:=by
 simp [fk,h]
end
end
namespace AE
variable [a7]
def hU (N:Nat) (ops:Array Oper) (ij:Nat->J):List Nat->aF->Option aF
 |[],sl=>some sl
 |j::r,sl=>match g' N sl (fz ops j) (ij j) with
  |some s=>hU N ops ij r s
  |none=>none
omit [a7] in
theorem oZ {N:Nat} {ops:Array Oper} {ij:Nat->J}:∀(ct:List Nat) (sl dO:aF),hU N ops ij ct sl=some dO->∀t v,dO.get t=some v->
  (∃j∈ct,fz ops j=some t/\v=ij j)\/((∀j∈ct,fz ops j≠some t)/\sl.get t=some v)
 |[],sl,dO,h,t,v,aC=>by
  cases h;exact .inr ⟨λj hj=>absurd hj (by simp),aC⟩
 |j::r,sl,dO,h,t,v,aC=>by
  unfold hU at h;split at h
  ·rename_i s aw
   rcases oZ r s dO h t v aC with ⟨k,al,bg,s3⟩|⟨av,aA⟩
   ·exact .inl ⟨k,List.mem_cons_of_mem _ al,bg,s3⟩
   ·unfold g' at aw
    cases bg:fz ops j with
    |none=>
     rw[bg] at aw;cases aw;refine .inr ⟨λk al=> ?_,aA⟩;rcases List.mem_cons.1 al with rfl|al
     ·rw[bg];simp
     ·exact av k al
    |some d=>
     rw[bg] at aw;simp only at aw;cases af:Nat.blt d N with
     |false=>rw[af] at aw;cases aw
     |true=>
      rw[af,bF] at aw;rw[bY.oh _ _ _ _ _ t aw] at aA;by_cases Nq:t=d
      ·subst Nq
       rw[aY rfl] at aA;cases aA;exact .inl ⟨j,List.mem_cons_self,bg,rfl⟩
      ·rw[a_ Nq] at aA
       refine .inr ⟨λk al=> ?_,aA⟩;rcases List.mem_cons.1 al with rfl|al
       ·rw[bg];simp;exact λh=>Nq h.symm
       ·exact av k al
  ·cases h
def x4 (o:Oper):Bool:=
 (match o.guard with|none=>true|some _=>false)&&
 match o.op with
 | .move _| .assign _| .binOp .. | .unOp .. | .fieldAddr .. | .indexAddr .. =>true
 |_=>false
def x5 (P:aS) [ej P] (br:Operand->J) (o:Oper):Option J:=
 match o.op with
 | .move x| .assign x=>some (br x)
 | .binOp op t x y _=>match uv P br o with
   |some v=>some v
   |none=>bif plain (br x)&&plain (br y) then ur P (do eqGuard op t x y (br x) (br y);binOp op t (br x) (br y)) else none
 | .unOp op _ x=>match uv P br o with
   |some v=>some v
   |none=>bif plain (br x) then ur P (Op.unary op (br x)) else none
 | .fieldAddr s x f=>match uv P br o with
   |some v=>some v
   |none=>EL P s f (br x)
 | .indexAddr t x i=>match uv P br o with
   |some v=>some v
   |none=>bif plain (br i) then EM P t (br x) (br i) else none
 |_=>none
theorem E' {P:aS} [ej P] (di:q' P) {φ:b4} {ρ ρ':Operand->J} {o:Oper} {v:J} (c5:∀x,aD φ (ρ x) (ρ' x)) (h:x5 P ρ o=some v):∃aB,(∀w,(execOp ρ' o).run P w= .ok (.value aB) w)/\aD φ v aB:=by
 have fU:∀{s:Sem J},ur P s=some v->∃aB,(∀w,(do pure (Next.value (<-s)):Sem Next).run P w= .ok (.value aB) w)/\aD φ v aB:=by
  intro s aw;unfold ur at aw;split at aw
  ·rename_i u hu
   cases hp:plain u with
   |false=>rw[hp] at aw;cases aw
   |true=>
    rw[hp,bF,cQ] at aw;subst aw;exact⟨u,λw=>jD (by rw[sV,hu];rfl) w,aD.ky φ u hp⟩
  ·cases aw
 unfold x5 at h;unfold execOp;split at h
 ·rename_i x cz
  cases h;rw[cz];exact⟨_,λ_=>rfl,c5 x⟩
 ·rename_i x cz
  cases h;rw[cz];exact⟨_,λ_=>rfl,c5 x⟩
 ·rename_i op t x y UX cz
  split at h
  ·rename_i u hu
   cases h;have:=C2 di c5 hu λf aR=>by
    unfold qD at aR;rw[cz] at aR;cases aR;rfl
   unfold execOp at this;exact this
  ·cases hp:plain (ρ x) with
   |false=>rw[hp] at h;cases h
   |true=>
    cases bf:plain (ρ y) with
    |false=>rw[hp,bf] at h;cases h
    |true=>
     rw[hp,bf] at h;rw[cz];simp only;rw[aD.lf _ hp (c5 x),aD.lf _ bf (c5 y)];exact fU h
 ·rename_i op t x cz
  split at h
  ·rename_i u hu
   cases h;have:=C2 di c5 hu λf aR=>by
    unfold qD at aR;rw[cz] at aR;cases aR;rfl
   unfold execOp at this;exact this
  ·cases hp:plain (ρ x) with
   |false=>rw[hp] at h;cases h
   |true=>
    rw[hp] at h;rw[cz];simp only;rw[aD.lf _ hp (c5 x)];exact fU h
 ·rename_i s x f cz
  split at h
  ·rename_i u hu
   cases h;have:=C2 di c5 hu λf aR=>by
    unfold qD at aR;rw[cz] at aR;cases aR;rfl
   unfold execOp at this;exact this
  ·obtain⟨aB,ad,ag⟩:=T_ (c5 x) h
   rw[cz];exact⟨aB,λw=>by simp only [Sem.run_bind,ad w,Result.andThen_ok];rfl,ag⟩
 ·rename_i t x i cz
  split at h
  ·rename_i u hu
   cases h;have:=C2 di c5 hu λf aR=>by
    unfold qD at aR;rw[cz] at aR;cases aR;rfl
   unfold execOp at this;exact this
  ·cases hp:plain (ρ i) with
   |false=>rw[hp] at h;cases h
   |true=>
    rw[hp] at h;obtain⟨aB,ad,ag⟩:=Ua (c5 x) h;rw[cz];simp only;rw[aD.lf _ hp (c5 i)];exact⟨aB,λw=>by simp only [Sem.run_bind,ad w,Result.andThen_ok];rfl,ag⟩
 ·cases h
def Nr (ops:Array Oper):List Oper->Nat->Array Bool->List Nat
 |[],_,_=>[]
 |o::r,i,listed=>bif x4 o&&((Region.ready .any ops listed).contains i&&Region.free .any ops listed i) then i::Nr ops r (i+1) (listed.setIfInBounds i true) else Nr ops r (i+1) listed
def vw (ops:Array Oper):List Nat:=Nr ops ops.toList 0 (Array.replicate ops.size false)
def wW (ops:Array Oper):List Nat->Array Bool->Bool
 |[],_=>true
 |i::r,listed=>((Region.ready .any ops listed).contains i&&Region.free .any ops listed i)&&((match ops[i]? with|some o=>x4 o|none=>false)&&wW ops r (listed.setIfInBounds i true))
def AW (o:Oper) (masks:List Nat) (q8:Nat):Nat:=o.after.toList.foldl (λacc e=>bif Region.binds .any e then Nat.lor acc (Nat.lor (Nat.shiftLeft 1 e.on) (masks.getD e.on 0)) else acc) q8
def wX:List Oper->List Nat->List Nat
 |[],ms=>ms
 |o::r,ms=>wX r (ms++[AW o ms 0])
def zm (ops:Array Oper):List Nat:=wX ops.toList []
def C5 (ms:List Nat) (i j:Nat):Bool:=(ms.getD i 0).testBit j
def Ns (ops:Array Oper) (i j:Nat):Prop:=∀listed:Array Bool,(∀i j,listed.getD i false=true->direct ops i j=true->listed.getD j false=true)->(∀k,direct ops i k=true->listed.getD k false=true)->listed.getD j false=true
omit [a7] in
theorem U4 {masks:List Nat} {j:Nat}:∀(l:List Edge) (q8:Nat),(l.foldl (λacc e=>bif Region.binds .any e then Nat.lor acc (Nat.lor (Nat.shiftLeft 1 e.on) (masks.getD e.on 0)) else acc) q8).testBit j=true->q8.testBit j=true\/∃e∈l,Region.binds .any e=true/\(e.on=j\/(masks.getD e.on 0).testBit j=true)
 |[],q8,h=> .inl h
 |e::r,q8,h=>by
  simp only [List.foldl_cons] at h;rcases U4 r _ h with h|⟨e',oY,ga⟩
  ·cases af:Region.binds .any e with
   |false=>rw[af] at h;exact .inl h
   |true=>
    rw[af,bF] at h;have ag:(q8 ||| ((1 <<< e.on) ||| masks.getD e.on 0)).testBit j=true:=h;rw[Nat.testBit_or,Nat.testBit_or,Nat.one_shiftLeft,Nat.testBit_two_pow] at ag;simp only [Bool.or_eq_true,decide_eq_true_eq] at ag;rcases ag with ag|ag
    ·exact .inl ag
    ·exact .inr ⟨e,List.mem_cons_self,af,ag⟩
  ·exact .inr ⟨e',List.mem_cons_of_mem _ oY,ga⟩
omit [a7] in
theorem U5:∀(l:List Oper) (ms:List Nat),(wX l ms).take ms.length=ms/\∀i o,l[i]? =some o->(wX l ms).getD (ms.length+i) 0=AW o ((wX l ms).take (ms.length+i)) 0
 |[],ms=>⟨by simp [wX],λi o h=>by simp at h⟩
 |o::r,ms=>by
  obtain⟨ad,ag⟩:=U5 r (ms++[AW o ms 0]);have hm:wX (o::r) ms=wX r (ms++[AW o ms 0]):=rfl;rw[hm];have ay:(wX r (ms++[AW o ms 0])).take ms.length=ms:=by
   have:=congrArg (List.take ms.length) ad;rw[List.take_take] at this;simpa using this
  refine⟨ay,λi o' ai=> ?_⟩;cases i with
  |zero=>
   simp only [List.getElem?_cons_zero,cQ] at ai;subst ai;rw[Nat.add_zero,ay];have:=congrArg (λl=>l[ms.length]?) ad;simp only [List.getElem?_take,List.length_append,List.length_cons,List.length_nil] at this;rw[aY aj] at this;rw[dq,this];simp
  |succ i=>
   simp only [List.getElem?_cons_succ] at ai;have:=ag i o' ai;simp only [List.length_append,List.length_cons,List.length_nil] at this;rw[show ms.length+(i+1)=ms.length+(0+1)+i by omega];exact this
omit [a7] in
theorem U6 {ops:Array Oper}:∀(i:Nat),i<ops.size->∀j,C5 (zm ops) i j=true->Ns ops i j:=by
 intro i
 induction i using Nat.strongRecOn with
 |_ i cA=>
  intro ai j h listed down U7;have ho:ops.toList[i]? =some ops[i]:=by rw[Array.getElem?_toList];exact Array.getElem?_eq_getElem ai
  have aw:=(U5 ops.toList []).2 i _ ho;simp only [List.length_nil,Nat.zero_add] at aw;unfold C5 zm at h;rw[aw] at h;unfold AW at h;rcases U4 _ _ h with h|⟨e,he,af,h⟩
  ·simp at h
  ·have bg:direct ops i e.on=true:=by
    unfold direct;rw[Array.getElem?_eq_getElem ai];simp only;exact Array.any_eq_true'.2 ⟨e,by simpa using he,by simp [af]⟩
   rcases h with rfl|h
   ·exact U7 _ bg
   ·rcases Nat.lt_or_ge e.on i with cg|kJ
    ·have aA:((wX ops.toList []).take i).getD e.on 0=(zm ops).getD e.on 0:=by
      unfold zm;rw[dq,List.getElem?_take,aY cg,dq]
     rw[aA] at h;exact cA e.on cg aj j h listed down λk al=>down e.on k (U7 _ bg) al
    ·rw[dq,List.getElem?_take,a_ aj] at h
     simp at h
def uw (ops:Array Oper) (L:List Nat) (m N:Nat):Bool:=
 decide (m<=ops.size)&&Region.noSelect ops&&
 ((List.range m).all λi=>(List.range m).all λj=>i==j||fz ops i==none||fz ops i !=fz ops j)&&
 ((List.range m).all λi=>match fz ops i with|some d=>decide (d<N)|none=>true)&&
 ((List.range m).all λi=>match ops[i]? with|some o=>(needs ops m o).all (direct ops i ·)|none=>false)&&
 ((List.range ops.size).all λi=>match ops[i]? with|some o=>o.after.all (λe=> !Region.binds .any e||decide (e.on<i))|none=>false)&&
 ((List.range ops.size).all λi=>decide (i<m)||(List.range i).all λj=>(L.contains j&&decide (j<m))||C5 (zm ops) i j)
omit [a7] in
theorem C6 {ops:Array Oper} {L:List Nat} {m N:Nat} (h:uw ops L m N=true):m<=ops.size/\Region.noSelect ops=true/\
  (∀i j,i<m->j<m->i≠j->∀t,fz ops i=some t->fz ops j≠some t)/\(∀i t,i<m->fz ops i=some t->t<N)/\
  (∀i o,i<m->ops[i]? =some o->∀j∈needs ops m o,direct ops i j=true)/\(∀i j,i<ops.size->direct ops i j=true->j<i)/\
  (∀i j,i<ops.size->m<=i->j<i->(j∈L/\j<m)\/Ns ops i j):=by
 simp only [uw,c8,decide_eq_true_eq,List.all_eq_true,List.mem_range] at h;obtain⟨⟨⟨⟨⟨⟨ad,ag⟩,ay⟩,bG⟩,cJ⟩,cU⟩,fR⟩:=h;refine⟨ad,ag,?_,?_,?_,?_,?_⟩
 ·intro i j ai hj c1 t aN ad6
  have:=ay i ai j hj;simp [c1,aN,ad6] at this
 ·intro i t ai aN
  have:=bG i ai;simpa [aN] using this
 ·intro i o ai ho j hj
  have:=cJ i ai;simp only [ho,List.all_eq_true] at this;exact this j hj
 ·intro i j ai bg
  have:=cU i ai;unfold direct at bg;have ho:ops[i]? =some ops[i]:=Array.getElem?_eq_getElem ai;simp only [ho] at this bg;obtain⟨e,he,af⟩:=Array.any_eq_true'.1 bg;simp only [c8,beq_iff_eq] at af;have ga:=Array.all_eq_true_iff_forall_mem.1 this e he;simp only [af.1,Bool.not_true,Bool.false_or,decide_eq_true_eq] at ga;exact af.2▸ga
 ·intro i j ai hm hj
  have:=fR i ai;simp only [Bool.or_eq_true,decide_eq_true_eq,List.all_eq_true,List.mem_range,c8] at this;have:=this.resolve_left aj j hj;rcases this with h|h
  ·exact .inl (by simpa using h)
  ·exact .inr (U6 i ai j h)
def Nt (q8:Nat):List Oper->Nat->List Nat->Nat->Nat
 |[],_,_,m=>m
 |o::r,i,masks,m=>let p:=AW o masks (Nat.land q8 (Nat.shiftLeft 1 i-1));Nt q8 r (i+1) (masks++[p]) (bif Nat.beq p (Nat.shiftLeft 1 i-1) then m else i+1)
def U8 (L:List Nat):Nat:=L.foldl (λa i=>Nat.lor a (Nat.shiftLeft 1 i)) 0
def Nu (ops:Array Oper) (N:Nat) (gV:Bool):Option (List Nat×Nat):=
 let cc:=bif gV then [] else vw ops
 let m:=Nt (U8 cc) ops.toList 0 [] 0
 let L:=cc.filter λi=>Nat.blt i m
 bif uw ops L m N&&wW ops L (Array.replicate ops.size false) then some (L,m) else none
def C7 (P:aS) [Lib P] [ej P] (C:iw) (gl:bY Nat) (N:Nat) (ops:Array Oper) (L:List Nat) (m:Nat) (du:aF):List Oper->Nat->List J->a8->Option (List J×a8)
 |[],_,vs,A=>some (vs,A)
 |o::r,i,vs,A=>match hU N ops (λj=>vs.getD j cB) (needs ops m o) du with
  |some sl=>bif L.contains i then
    match x5 P (dH gl sl) o with
    |some v=>C7 P C gl N ops L m du r (i+1) (vs++[v]) A
    |none=>none
   else match vu P C gl ops o sl {A with low:=A.n} with
    |some (v,bH)=>bif Nat.ble A.n bH.low then C7 P C gl N ops L m du r (i+1) (vs++[v]) {bH with low:=A.low} else none
    |none=>none
  |none=>none
def I3 (P:aS) [Lib P] [ej P] (C:iw) (gl:bY Nat) (N:Nat) (gV:Bool) (ops:Array Oper) (sl:aF) (A:a8):Option (aF×a8×List Oper):=
 match Nu ops N gV with
 |some (L,m)=>match hU N ops (λ_=>cB) (List.range m) sl with
  |some du=>match C7 P C gl N ops L m du (ops.toList.take m) 0 [] A with
   |some (vs,bH)=>bif Nat.ble bH.n dead then
     match hU N ops (λj=>vs.getD j cB) (List.range m) du with
     |some eK=>some (eK,bH,ops.toList.drop m)
     |none=>none
    else none
   |none=>none
  |none=>none
 |none=>none
def Nv (P:aS) [Lib P] [ej P] (C:iw) (gl:bY Nat) (N:Nat) (gV:Bool) (ops:Array Oper) (sl:aF) (A:a8):Option (aF×a8):=
 match I3 P C gl N gV ops sl A with
 |some (eK,bH,r)=>wV P C gl N ops r eK bH
 |none=>none
def C8 (P:aS) [Lib P] [ej P] (C:iw) (gl:bY Nat) (N:Nat) (ops:Array Oper) (L:List Nat) (m:Nat) (du:aF) (i:Nat) (o:Oper) (I4:List J) (v:J) (A a':a8):Prop:=
 ∃sl,hU N ops (λj=>I4.getD j cB) (needs ops m o) du=some sl/\
  ((i∈L/\x5 P (dH gl sl) o=some v/\a'=A)\/(i∉L/\∃bH,vu P C gl ops o sl {A with low:=A.n}=some (v,bH)/\A.n<=bH.low/\a'={bH with low:=A.low}))
section
variable {P:aS} [Lib P] [ej P] {C:iw} {gl:bY Nat} {N:Nat} {ops:Array Oper} {L:List Nat} {m:Nat} {du:aF}
omit [a7] in
theorem U9:∀(l:List Oper) (i0:Nat) (vs cN:List J) (A a':a8),vs.length=i0->C7 P C gl N ops L m du l i0 vs A=some (cN,a')->
  ∃(B:Nat->a8),B 0=A/\B l.length=a'/\cN.length=vs.length+l.length/\cN.take vs.length=vs/\
   ∀i o,l[i]? =some o->C8 P C gl N ops L m du (i0+i) o (cN.take (vs.length+i)) (cN.getD (vs.length+i) cB) (B i) (B (i+1))
 |[],i0,vs,cN,A,a',_,h=>by
  cases h;exact⟨λ_=>A,rfl,rfl,by simp,by simp,λi o ai=>by simp at ai⟩
 |o::r,i0,vs,cN,A,a',vx,h=>by
  unfold C7 at h;split at h
  ·rename_i sl gK
   have go:∀(v:J) (f_:a8),((i0∈L/\x5 P (dH gl sl) o=some v/\f_=A)\/(i0∉L/\∃bH,vu P C gl ops o sl {A with low:=A.n}=some (v,bH)/\A.n<=bH.low/\f_={bH with low:=A.low}))->
     C7 P C gl N ops L m du r (i0+1) (vs++[v]) f_=some (cN,a')->
     ∃(B:Nat->a8),B 0=A/\B (o::r).length=a'/\cN.length=vs.length+(o::r).length/\cN.take vs.length=vs/\
      ∀i o',(o::r)[i]? =some o'->C8 P C gl N ops L m du (i0+i) o' (cN.take (vs.length+i)) (cN.getD (vs.length+i) cB) (B i) (B (i+1)):=by
    intro v f_ ad7 h;obtain⟨B,aL,ad,ag,ay,bG⟩:=U9 r (i0+1) (vs++[v]) cN _ a' (by simp [vx]) h;have hlen:(vs++[v]).length=vs.length+1:=by simp
    rw[hlen] at ag ay;have vy:cN.take vs.length=vs:=by
     have:=congrArg (List.take vs.length) ay;rw[List.take_take,Nat.min_eq_left aj] at this;simpa using this
    refine⟨λi=>match i with|0=>A|i+1=>B i,rfl,?_,by simp;omega,vy,?_⟩
    ·simpa using ad
    ·intro i o' ai
     match i with
     |0=>
      simp only [List.getElem?_cons_zero,cQ] at ai;subst ai;simp only [Nat.add_zero];rw[vy];have gP:cN.getD vs.length cB=v:=by
       have:=congrArg (λl=>l[vs.length]?) ay;simp at this;rw[dq,this];rfl
      rw[gP];refine⟨sl,gK,?_⟩;show (_/\_/\B 0=A)\/_;rw[aL];exact ad7
     |i+1=>
      have:=bG i o' (by simpa using ai);rw[hlen] at this;rw[show vs.length+(i+1)=vs.length+1+i by omega,show i0+(i+1)=i0+1+i by omega];exact this
   cases ar:L.contains i0 with
   |true=>
    rw[ar,bF] at h;split at h
    ·rename_i v aC
     exact go v A (.inl ⟨by simpa using ar,aC,rfl⟩) h
    ·cases h
   |false=>
    rw[ar,eD] at h;split at h
    ·rename_i v bH aC
     cases af:Nat.ble A.n bH.low with
     |false=>rw[af] at h;cases h
     |true=>
      rw[af,bF] at h;exact go v _ (.inr ⟨by simpa using ar,bH,aC,Nat.ble_eq.mp af,rfl⟩) h
    ·cases h
  ·cases h
theorem b2.lower {φ:b4} {A:a8} {w:ax} (h:b2 φ A w) (x:Nat):b2 φ {A with low:=x} w:=⟨⟨h.wf.lt,h.wf.t',h.wf.mem,h.wf.ve⟩,h.eE,h.apart,h.along,h.dn⟩
theorem ad8 {φ:b4} {A a':a8} {w:ax} (c4:lT P gl C) (ao:b2 φ A w) (aA:mX gl φ) {o:Oper} {sl:aF} {v:J} (aw:∀t v,sl.get t=some v->∃aB,aD φ v aB) (h:vu P C gl ops o sl A=some (v,a')):
  ∃db aB w',aD db v aB/\cF φ A w db a' w':=by
 have o0:∀x:Operand,∃aB,aD φ (dH gl sl x) aB:=by
  intro x;cases x with
  |tmp t=>
   show ∃aB,aD φ (slot sl t) aB;unfold slot;cases C9:sl.get t with
   |none=>exact⟨undef,.cB _⟩
   |some v=>exact aw t v C9
  |const v=>exact⟨_,gU (sl:= .nil) (a:=⟨#[],[]⟩) aA (λt v h=>by cases h) (.const v)⟩
  |global g=>exact⟨_,gU (sl:= .nil) (a:=⟨#[],[]⟩) aA (λt v h=>by cases h) (.global g)⟩
  |func f=>exact⟨_,gU (sl:= .nil) (a:=⟨#[],[]⟩) aA (λt v h=>by cases h) (.func f)⟩
 obtain⟨ρ',c5⟩:=Classical.axiomOfChoice o0;unfold vu at h;split at h
 ·cases h
 ·cases h
  exact⟨φ,undef,w,aD.zc φ,cF.refl ao⟩
 ·split at h
  ·rename_i b args bE
   cases hl:E9 A b with
   |false=>rw[hl] at h;cases h
   |true=>
    rw[hl,bF] at h;obtain⟨e,k,fX,r,gx,he,al,fK,rX,AV,gM,fy⟩:=U1 (P:=P) ao c5 bE hl;obtain⟨cv,Nn⟩:=c4.round b args A v a' φ w gx e k fX r h ao aA gM he al fK rX AV;obtain⟨en,w2,vv,_⟩:=Nn.2 default [] (room_wide _);cases en with
    |returned aB=>
     obtain⟨fp,ad,ag⟩:=vv;exact⟨fp,aB,w2,ad,ag⟩
    |panicked cn=>exact vv.elim
    |outgrown=>exact vv.elim
  ·split at h
   ·rename_i v1 bH ha
    cases h;obtain⟨gO,w1,n,g1,g2,g3⟩:=C1 c4.facts ao c5 ha;obtain⟨aB,_,aC⟩:=g2;exact⟨gO,aB,w1,aC,g3⟩
   ·rename_i bH ha
    cases h;obtain⟨gO,w1,n,g1,g2,g3⟩:=C1 c4.facts ao c5 ha;exact⟨gO,undef,w1,aD.zc gO,g3⟩
   ·rename_i f args bH ha
    obtain⟨gO,w1,n,g1,g2,g3⟩:=C1 c4.facts ao c5 ha;obtain⟨gx,_,gM⟩:=g2;obtain⟨e,w2,fr,he,_⟩:=c4.call f args bH v a' gO w1 gx h g3.rel (aA.mono (g3.ext ao)) gM [];cases e with
    |returned aB=>
     obtain⟨fp,ad,ag⟩:=he;exact⟨fp,aB,w2,ad,cF.trans ao g3 ag⟩
    |panicked cn=>exact he.elim
    |outgrown=>exact he.elim
   ·cases h
structure pz (fF:b4) (B:Nat->a8) (vs:List J) (m:Nat):Prop where
 I5:∀i,i<m->(B i).n<=(B (i+1)).n
 same:∀i b,i<m->b<(B i).n->(B (i+1)).bl.get b=(B i).bl.get b
 ad9:∀i,i<m->(B (i+1)).low=(B i).low
 ex:∀i,i<=m->∃φ w,b2 φ (B i) w/\(∀b,b<(B 0).n->φ b=fF b)/\(∀b,(B 0).n<=b->b<(B i).n->φ b≠none)/\∀j,j<i->∃aB,aD φ (vs.getD j cB) aB
theorem ad' {fF:b4} {A:a8} {w0:ax} {B:Nat->a8} {vs:List J} {mD:aF} (c4:lT P gl C) (ao:b2 fF A w0) (aA:mX gl fF) (cX:B 0=A) (zn:m<=ops.size)
  (aw:∀t v,mD.get t=some v->∃aB,aD fF v aB) (fq:hU N ops (λ_=>cB) (List.range m) mD=some du)
  (r4:∀i o,i<m->ops[i]? =some o->∀j∈needs ops m o,j<i)
  (hl:∀i o,i<m->ops[i]? =some o->C8 P C gl N ops L m du i o (vs.take i) (vs.getD i cB) (B i) (B (i+1))):pz fF B vs m:=by
 have step:∀i,i<m->(∃φ w,b2 φ (B i) w/\(∀b,b<(B 0).n->φ b=fF b)/\(∀b,(B 0).n<=b->b<(B i).n->φ b≠none)/\(B 0).n<=(B i).n/\∀j,j<i->∃aB,aD φ (vs.getD j cB) aB)->
   ((B i).n<=(B (i+1)).n/\(∀b,b<(B i).n->(B (i+1)).bl.get b=(B i).bl.get b)/\(B (i+1)).low=(B i).low)/\
   (∃φ w,b2 φ (B (i+1)) w/\(∀b,b<(B 0).n->φ b=fF b)/\(∀b,(B 0).n<=b->b<(B (i+1)).n->φ b≠none)/\(B 0).n<=(B (i+1)).n/\∀j,j<i+1->∃aB,aD φ (vs.getD j cB) aB):=by
  rintro i ai ⟨φ,w,ad,ag,ay,bG,cJ⟩;have ho:ops[i]? =some (ops[i]'(by omega)):=Array.getElem?_eq_getElem _;obtain⟨sl,gK,AX⟩:=hl i _ ai ho;have s4:∀b e,fF b=some e->φ b=some e:=λb e af=>by
   rw[ag b (by rw[cX];exact ao.lt af)];exact af
  have C':∀t v,sl.get t=some v->∃aB,aD φ v aB:=by
   intro t v pX;rcases oZ _ _ _ gK t v pX with ⟨j,hj,bg,rfl⟩|⟨_,E_⟩
   ·have ek:=r4 i _ ai ho j hj
    obtain⟨aB,mE⟩:=cJ j ek;refine⟨aB,?_⟩;have:(vs.take i).getD j cB=vs.getD j cB:=by
     simp only [dq,List.getElem?_take,aY ek]
    rw[this];exact mE
   ·rcases oZ _ _ _ fq t v E_ with ⟨j,hj,bg,rfl⟩|⟨_,vz⟩
    ·exact⟨undef,.cB _⟩
    ·obtain⟨aB,mE⟩:=aw t v vz
     exact⟨aB,mE.mono s4⟩
  rcases AX with ⟨_,qC,ad_⟩|⟨_,bH,aC,mT,rb⟩
  ·rw[ad_]
   refine⟨⟨ch _,λ_ _=>rfl,rfl⟩,φ,w,ad,ag,ay,bG,λj hj=> ?_⟩;rcases Nat.lt_or_ge j i with cg|kJ
   ·exact cJ j cg
   ·have:j=i:=by omega
    subst this;have o0:∀x:Operand,∃aB,aD φ (dH gl sl x) aB:=by
     intro x;cases x with
     |tmp t=>
      show ∃aB,aD φ (slot sl t) aB;unfold slot;cases C9:sl.get t with
      |none=>exact⟨undef,.cB _⟩
      |some v=>exact C' t v C9
     |const v=>exact⟨_,gU (sl:= .nil) (a:=⟨#[],[]⟩) (aA.mono s4) (λt v h=>by cases h) (.const v)⟩
     |global g=>exact⟨_,gU (sl:= .nil) (a:=⟨#[],[]⟩) (aA.mono s4) (λt v h=>by cases h) (.global g)⟩
     |func f=>exact⟨_,gU (sl:= .nil) (a:=⟨#[],[]⟩) (aA.mono s4) (λt v h=>by cases h) (.func f)⟩
    obtain⟨ρ',c5⟩:=Classical.axiomOfChoice o0;obtain⟨aB,_,mE⟩:=E' c4.facts c5 qC;exact⟨aB,mE⟩
  obtain⟨db,aB,w',g1,g2⟩:=ad8 c4 (ad.lower (B i).n) (aA.mono s4) C' aC;have av:(B i).n<=bH.n:=g2.qv;rw[rb];refine⟨⟨av,λb af=>g2.same b af (by show b<bH.low;omega),rfl⟩,db,w',g2.rel.lower _,λb af=> ?_,λb af eh=> ?_,by simp only;omega,λj hj=> ?_⟩
  ·rw[g2.eE b (by show b<(B i).n;omega),ag b af]
  ·rcases Nat.lt_or_ge b (B i).n with cg|kJ
   ·rw[g2.eE b cg];exact ay b af cg
   ·exact g2.rW b kJ eh
  ·rcases Nat.lt_or_ge j i with cg|kJ
   ·obtain⟨u,hu⟩:=cJ j cg
    exact⟨u,hu.mono (g2.ext (ad.lower _))⟩
   ·have:j=i:=by omega
    subst this;exact⟨aB,g1⟩
 have all:∀i,i<=m->(∃φ w,b2 φ (B i) w/\(∀b,b<(B 0).n->φ b=fF b)/\(∀b,(B 0).n<=b->b<(B i).n->φ b≠none)/\(B 0).n<=(B i).n/\∀j,j<i->∃aB,aD φ (vs.getD j cB) aB):=by
  intro i
  induction i with
  |zero=>exact λ_=>⟨fF,w0,by rw[cX];exact ao,λ_ _=>rfl,λb ad ag=>by omega,ch _,λj hj=>by omega⟩
  |succ i cA=>exact λai=>(step i aj (cA aj)).2
 refine⟨λi ai=>(step i ai (all i aj)).1.1,λi b ai af=>(step i ai (all i aj)).1.2.1 b af,λi ai=>(step i ai (all i aj)).1.2.2,λi ai=> ?_⟩;obtain⟨φ,w,ad,ag,ay,_,cJ⟩:=all i ai;exact⟨φ,w,ad,ag,ay,cJ⟩
theorem pz.s5 {fF:b4} {B:Nat->a8} {vs:List J} (h:pz fF B vs m):∀{i j:Nat},i<=j->j<=m->(B i).n<=(B j).n:=by
 intro i j ov
 induction ov with
 |refl=>exact λ_=>ch _
 |step al cA=>exact λhm=>Nat.le_trans (cA aj) (h.I5 _ aj)
theorem pz.wY {fF:b4} {B:Nat->a8} {vs:List J} (h:pz fF B vs m):∀{i j:Nat},i<=j->j<=m->∀b,b<(B i).n->(B j).bl.get b=(B i).bl.get b:=by
 intro i j ov
 induction ov with
 |refl=>exact λ_ _ _=>rfl
 |step al cA=>exact λhm b af=>by rw[h.same _ b aj (Nat.lt_of_lt_of_le af (h.s5 al aj)),cA aj b af]
theorem pz.aea {fF:b4} {B:Nat->a8} {vs:List J} (h:pz fF B vs m):∀{j:Nat},j<=m->(B j).low=(B 0).low:=by
 intro j
 induction j with
 |zero=>exact λ_=>rfl
 |succ j cA=>exact λhm=>by rw[h.ad9 j aj,cA aj]
def own (B:Nat->a8) (j b:Nat):Prop:=(B j).n<=b/\b<(B (j+1)).n
theorem pz.U' {fF:b4} {B:Nat->a8} {vs:List J} (h:pz fF B vs m) {i j b:Nat} (ai:i<m) (hj:j<m) (ad:own B i b) (ag:own B j b):i=j:=by
 unfold own at ad ag;rcases Nat.lt_trichotomy i j with cg|heq|C9
 ·have:=h.s5 (i:=i+1) (j:=j) aj aj;omega
 ·exact heq
 ·have:=h.s5 (i:=j+1) (j:=i) aj aj;omega
theorem pz.U_ {fF:b4} {B:Nat->a8} {vs:List J} (aeb:pz fF B vs m) {b:Nat}:∀{k:Nat},k<=m->(B 0).n<=b->b<(B k).n->∃j,j<k/\own B j b
 |0,_,ad,ag=>by omega
 |k+1,al,ad,ag=>by
  rcases Nat.lt_or_ge b (B k).n with cg|kJ
  ·obtain⟨j,hj,ho⟩:=pz.U_ aeb (k:=k) aj ad cg
   exact⟨j,aj,ho⟩
  ·exact⟨k,aj,kJ,ag⟩
def restrict (φ:b4) (n:Nat):b4:=λb=>if b<n then φ b else none
theorem aD.restrict {φ ψ:b4} {n:Nat} {v aB:J} (bg:∀b e,φ b=some e->b≠dead) (r9:∀b e,ψ b=some e->b<n) (h:aD φ v aB):∀u,aD ψ v u->aD (AE.restrict φ n) v aB:=by
 have kM:∀{b e},φ b=some e->b<n->AE.restrict φ n b=some e:=λad ag=>by unfold AE.restrict;rw[aY ag];exact ad
 induction h with
 |cB aB=>exact λ_ _=> .cB aB
 |sym k=>exact λ_ _=> .sym k
 |bool b=>exact λ_ _=> .bool b
 |int k i=>exact λ_ _=> .int k i
 |float k b=>exact λ_ _=> .float k b
 |string s=>exact λ_ _=> .string s
 |zb=>exact λ_ _=> .zb
 |ptr h=>
   intro u hu;cases hu with
   |ptr ag=>exact .ptr (kM h (r9 _ _ ag))
 |slnil l c=>exact λ_ _=> .slnil l c
 |i_ a6 h=>exact λ_ _=> .i_ a6 h
 |iD gd c h=>
   intro u hu;cases hu with
   |iD _ _ ag=>exact .iD gd c (kM h (r9 _ _ ag))
   |iE _ _ c' ag _ _ _=>exact .iD gd c (kM h (r9 _ _ ag))
   |i_ a6 ag=>exact absurd rfl (bg _ _ h)
 |iE gd c c' h aw ar hl=>
   intro u hu;cases hu with
   |iD _ _ ag=>exact .iE gd c c' (kM h (r9 _ _ ag)) aw ar hl
   |iE _ _ c' ag _ _ _=>exact .iE gd c _ (kM h (r9 _ _ ag)) aw ar hl
   |i_ a6 ag=>exact absurd rfl (bg _ _ h)
 |Ay=>exact λ_ _=> .Ay
 |map h=>
   intro u hu;cases hu with
   |map ag=>exact .map (kM h (r9 _ _ ag))
 |chan=>exact λ_ _=> .chan
 |func fs kI cs cs' av ad ag aR ar sQ sR=>
   intro u hu;cases hu with
   |func _ _ _ _ _ _ _ g1 g2=>exact .func fs kI cs cs' av ad ag (λi ai=>sQ i ai _ (g1 i ai)) (λi ai=>sR i ai _ (g2 i ai))
   |tZ ag=>exact absurd rfl (av _)
 |tZ h=>
   intro u hu;cases hu with
   |tZ ag=>exact .tZ (kM h (r9 _ _ ag))
   |func _ _ _ _ av=>exact absurd rfl (av _)
 |nilFunc=>exact λ_ _=> .nilFunc
 |nilIface=>exact λ_ _=> .nilIface
 |iface t h cA=>
   intro u hu;cases hu with
   |iface _ g=>exact .iface t (cA _ g)
 |agg cs cs' ad h cA=>
   intro u hu;cases hu with
   |agg _ _ _ g=>exact .agg cs cs' ad λi ai=>cA i ai _ (g i ai)
 |tuple cs cs' ad h cA=>
   intro u hu;cases hu with
   |tuple _ _ _ g=>exact .tuple cs cs' ad λi ai=>cA i ai _ (g i ai)
theorem fS.restrict {φ ψ:b4} {n:Nat} {w w':ax} {e e':hS} {k:h6} (bg:∀b e,φ b=some e->b≠dead) (r9:∀b e,ψ b=some e->b<n) (h:fS φ w e k) (ga:fS ψ w' e' k):fS (AE.restrict φ n) w e k:=by
 unfold fS at*
 cases al:k.obj with
 |cells c=>
  simp only [al] at h ga ⊢;obtain⟨c',jl,ad,ag,ay,bG,cJ⟩:=h;obtain⟨ou,IK,g1,g2,g3,g4,lb⟩:=ga;exact⟨c',jl,ad,ag,ay,λj hj=>(bG j hj).restrict bg r9 _ (g4 j hj),cJ⟩
 |map es e6=>
  simp only [al] at h ga ⊢;obtain⟨dt,ad,ag,ay⟩:=h;obtain⟨kI,g1,g2,g3⟩:=ga;refine⟨dt,ad,ag,λj a b ha af=> ?_⟩;obtain⟨q1,aH,b0,eF⟩:=ay j a b ha af;have hj:j<es.length:=(List.getElem?_eq_some_iff.1 ha).1;obtain⟨_,_,gj,_⟩:=g3 j a (kI[j]'(by omega)) ha (Array.getElem?_eq_getElem _);exact⟨q1,aH,b0.restrict bg r9 _ gj,eF⟩
 |gw x=>
  simp only [al] at h ga ⊢;obtain⟨aL,jn,ad,ag⟩:=h;obtain⟨_,kl,g1,g2⟩:=ga;refine⟨aL,jn,ad,?_⟩;cases x with
  |xM s p=>exact ag
  |deferred=>exact ag
  |gone=>exact ag
  |loop l=>
   obtain⟨r,kC,q1,aH,b0,eF,hz,ld,⟨jO,oX,g_⟩,AY⟩:=ag;obtain⟨eo,sW,ih,hB,ux,s6,zo,C_,⟨mF,AZ,aoG⟩,aec⟩:=g2;refine⟨r,kC,q1,aH,b0,eF,hz,ld,⟨jO,?_,g_⟩,λt v aC=>(AY t v aC).restrict bg r9 _ (aec t v aC)⟩;unfold AE.restrict;rw[aY (r9 _ _ AZ)];exact oX
end
end AE
end Go.Proofs.YtepcfjbfkedlpaaDoor
