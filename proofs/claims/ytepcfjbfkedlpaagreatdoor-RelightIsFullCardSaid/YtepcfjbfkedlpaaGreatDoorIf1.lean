/- Parts of the proof. -/
import Derived.WalkKit
import Derived.Orders
import Derived.IntWalk
import Derived.CallsIn
import Derived.OrdersIn
import Derived.RangeFuncIn
import Derived.RangeFuncCalls
import Derived.RangeFuncLeaves
import Derived.TacticsIn
set_option maxRecDepth 100000
set_option maxHeartbeats 4000000
namespace Go.Proofs.YtepcfjbfkedlpaaGreatDoor
open Go
section
theorem ao {p:Prop} (h:p:=by omega):p:=h
theorem bB {p:Prop} (h:p:=by assumption):p:=h
theorem cv {p:Prop} (h:p:=by decide):p:=h
theorem aw {p:Prop} (h:p:=by kernel_rfl):p:=h
theorem J.{u} {α:Sort u} {a:α}:a=a:=rfl
abbrev aN:= @if_pos
abbrev aO:= @if_neg
abbrev gU:= @decide_eq_true
abbrev di:= @decide_eq_false
abbrev dr:= @List.getD_eq_getElem?_getD
abbrev ct:= @Nat.eq_of_beq_eq_true
abbrev fP:= @List.getElem?_eq_getElem
abbrev hJ:= @Nat.le_of_ble_eq_true
abbrev cx:= @Option.some.injEq
abbrev akW:= @List.getElem?_eq_some_iff
abbrev e5:= @Array.getD_eq_getD_getElem?
abbrev bw:= @cond_true
abbrev bY:= @Nat.le_refl
abbrev c0:= @Bool.and_eq_true
abbrev ei:= @cond_false
abbrev wL:= @Option.map_eq_some_iff
abbrev lG:= @List.length_replicate
abbrev U:=Go.Value
abbrev au:=Go.World
abbrev aQ:=Go.Program
abbrev aH:=Go.TypeId
namespace AE
inductive b4 (α:Type) where
 |nil
 |node (v:Option α) (l r:b4 α)
def b4.get {α:Type}:b4 α->Nat->Option α
 | .nil,_=>none
 | .node v l r,i=>bif i==0 then v else bif i%2==1 then l.get (i/2) else r.get (i/2-1)
def b4.set {α:Type} (x:α):Nat->b4 α->Nat->Option (b4 α)
 |0,_,_=>none
 |f+1,.nil,i=>bif i==0 then some (.node (some x) .nil .nil) else bif i%2==1 then (b4.set x f .nil (i/2)).map (.node none · .nil) else (b4.set x f .nil (i/2-1)).map (.node none .nil ·)
 |f+1,.node v l r,i=>bif i==0 then some (.node (some x) l r) else bif i%2==1 then (b4.set x f l (i/2)).map (.node v · r) else (b4.set x f r (i/2-1)).map (.node v l ·)
theorem b4.nS {α:Type} (x:α):∀(f:Nat) (t da:b4 α) (i j:Nat),b4.set x f t i=some da->da.get j=if j=i then some x else t.get j
 |0,_,_,_,_,h=>by simp [b4.set] at h
 |f+1,.nil,da,i,j,h=>by
  unfold b4.set at h;by_cases af:i=0
  ·subst af
   simp only [beq_self_eq_true,bw,cx] at h;subst h;by_cases hj:j=0
   ·simp [hj,b4.get]
   ·have gn:(j==0)=false:=by simpa using hj
    by_cases hm:j%2=1<;>simp [hj,gn,b4.get,hm]
  ·have lH:(i==0)=false:=by simpa using af
   rw[lH,ei] at h;by_cases hm:i%2=1
   ·rw[show (i%2==1)=true by simpa using hm,bw] at h
    obtain⟨u,hu,rfl⟩:=Option.map_eq_some_iff.1 h;have cd:=b4.nS x f .nil u (i/2) (j/2) hu;by_cases hj:j=0
    ·subst hj;simp [b4.get,Ne.symm af]
    ·simp only [b4.get,show (j==0)=false by simpa using hj,ei]
     by_cases qU:j%2=1
     ·rw[show (j%2==1)=true by simpa using qU,bw,cd]
      by_cases he:j=i
      ·simp [he]
      ·rw[aO he,aO ao];rfl
     ·rw[show (j%2==1)=false by simpa using qU,ei,aO ao]
   ·rw[show (i%2==1)=false by simpa using hm,ei] at h
    obtain⟨u,hu,rfl⟩:=Option.map_eq_some_iff.1 h;have cd:=b4.nS x f .nil u (i/2-1) (j/2-1) hu;by_cases hj:j=0
    ·subst hj;simp [b4.get,Ne.symm af]
    ·simp only [b4.get,show (j==0)=false by simpa using hj,ei]
     by_cases qU:j%2=1
     ·rw[show (j%2==1)=true by simpa using qU,bw,aO ao]
     ·rw[show (j%2==1)=false by simpa using qU,ei,cd]
      by_cases he:j=i
      ·simp [he]
      ·rw[aO he,aO ao];rfl
 |f+1,.node v l r,da,i,j,h=>by
  unfold b4.set at h;by_cases af:i=0
  ·subst af
   simp only [beq_self_eq_true,bw,cx] at h;subst h;by_cases hj:j=0
   ·simp [hj,b4.get]
   ·have gn:(j==0)=false:=by simpa using hj
    simp [hj,gn,b4.get]
  ·have lH:(i==0)=false:=by simpa using af
   rw[lH,ei] at h;by_cases hm:i%2=1
   ·rw[show (i%2==1)=true by simpa using hm,bw] at h
    obtain⟨u,hu,rfl⟩:=Option.map_eq_some_iff.1 h;have cd:=b4.nS x f l u (i/2) (j/2) hu;by_cases hj:j=0
    ·subst hj;simp [b4.get,Ne.symm af]
    ·simp only [b4.get,show (j==0)=false by simpa using hj,ei]
     by_cases qU:j%2=1
     ·rw[show (j%2==1)=true by simpa using qU,bw,bw,cd]
      by_cases he:j=i
      ·simp [he]
      ·rw[aO he,aO ao]
     ·rw[show (j%2==1)=false by simpa using qU,ei,ei,aO ao]
   ·rw[show (i%2==1)=false by simpa using hm,ei] at h
    obtain⟨u,hu,rfl⟩:=Option.map_eq_some_iff.1 h;have cd:=b4.nS x f r u (i/2-1) (j/2-1) hu;by_cases hj:j=0
    ·subst hj;simp [b4.get,Ne.symm af]
    ·simp only [b4.get,show (j==0)=false by simpa using hj,ei]
     by_cases qU:j%2=1
     ·rw[show (j%2==1)=true by simpa using qU,bw,bw,aO ao]
     ·rw[show (j%2==1)=false by simpa using qU,ei,ei,cd]
      by_cases he:j=i
      ·simp [he]
      ·rw[aO he,aO ao]
def dead:Nat:=1099511627776
def cL:U:= .complex .f32 77 77
structure jP where
 key:U
 val:U
 born:Nat
def eD:Nat:=1000000
class aY where
 σ:Nat->U
 one:∀k,(∀cs,σ k≠.agg cs/\σ k≠.tuple cs)
 dg:Nat->Option Obj
 aak:∀g,σ (eD+g)= .pointer (some ⟨g,0,none⟩)
def aj (k:Nat):U:= .complex .f64 k 0
structure zT where
 state:LoopState
 pending:Option Code
 sl:b4 U
 N:Nat
 params:List Tmp
 assign:Code
 body:Code
 DH:Nat
inductive BR where
 |wM (s:ByteArray) (pos:Nat)
 |deferred
 |gone
 |loop (l:zT)
inductive p3 where
 |cells (c:List U)
 |map (es:List jP) (akX:Nat)
 |fL (x:BR)
structure hE where
 obj:p3
 cE:Nat
 pos:Nat
 eB:Nat
 ro:Bool
 ty:aH
structure aW where
 bl:b4 hE
 n:Nat
 mem:b4 (List Nat)
 low:Nat
structure gZ where
 bf:Nat
 sh:Nat
 eB:Nat
 zU:Nat
abbrev bQ:=Nat->Option gZ
mutual
def plain:U->Bool
 | .bool _| .int .. | .float .. | .string _| .pointer none| .map none| .chan none| .nilFunc| .nilIface=>true
 | .slice none l c=>l==0&&c==0
 | .func (.func _) ⟨[]⟩ ⟨[]⟩=>true
 | .iface _ v=>plain v
 | .agg ⟨l⟩=>om l
 | .tuple ⟨l⟩=>om l
 |_=>false
def om:List U->Bool
 |[]=>true
 |v::r=>plain v&&om r
end
variable [aY]
inductive aD (φ:bQ):U->U->Prop where
 |cL (aB:U):aD φ cL aB
 |sym (k:Nat):aD φ (aj k) (aY.σ k)
 |bool (b:Bool):aD φ (.bool b) (.bool b)
 |int (k:IntKind) (n:Int):aD φ (.int k n) (.int k n)
 |float (k:FloatKind) (b:Nat):aD φ (.float k b) (.float k b)
 |string (s:ByteArray):aD φ (.string s) (.string s)
 |yv:aD φ (.pointer none) (.pointer none)
 |ptr {b o:Nat} {e:gZ} (h:φ b=some e):aD φ (.pointer (some ⟨b,o,none⟩)) (.pointer (some ⟨e.bf,e.sh+o,none⟩))
 |slnil (l c:Nat):aD φ (.slice none l c) (.slice none l c)
 |iB {o c':Nat} (aS:Addr) (h:o=0->c'=0):aD φ (.slice (some ⟨dead,o,none⟩) 0 0) (.slice (some aS) 0 c')
 |h_ {b o:Nat} {e:gZ} (n c:Nat) (h:φ b=some e):aD φ (.slice (some ⟨b,o,none⟩) n c) (.slice (some ⟨e.bf,e.sh+o,none⟩) n c)
 |ia {b o:Nat} {e:gZ} (n c c':Nat) (h:φ b=some e) (av:1<=e.eB) (al:c<=c') (hl:e.sh+o+c'*e.eB<=e.zU):aD φ (.slice (some ⟨b,o,none⟩) n c) (.slice (some ⟨e.bf,e.sh+o,none⟩) n c')
 |zV:aD φ (.map none) (.map none)
 |map {b:Nat} {e:gZ} (h:φ b=some e):aD φ (.map (some b)) (.map (some e.bf))
 |chan:aD φ (.chan none) (.chan none)
 |func {fn:Fn} (fs j_ cs cs':Array U) (aq:∀l,fn≠.yield l) (h1:fs.size=j_.size) (ae:cs.size=cs'.size) (aP:∀i,i<fs.size->aD φ (fs.getD i undef) (j_.getD i undef)) (al:∀i,i<cs.size->aD φ (cs.getD i undef) (cs'.getD i undef)):aD φ (.func fn fs cs) (.func fn j_ cs')
 |s3 {b:Nat} {e:gZ} (h:φ b=some e):aD φ (.func (.yield b) #[] #[]) (.func (.yield e.bf) #[] #[])
 |nilFunc:aD φ .nilFunc .nilFunc
 |nilIface:aD φ .nilIface .nilIface
 |iface (t:aH) {v aB:U} (h:aD φ v aB):aD φ (.iface t v) (.iface t aB)
 |agg (cs cs':Array U) (h1:cs.size=cs'.size) (h:∀i,i<cs.size->aD φ (cs.getD i undef) (cs'.getD i undef)):aD φ (.agg cs) (.agg cs')
 |tuple (cs cs':Array U) (h1:cs.size=cs'.size) (h:∀i,i<cs.size->aD φ (cs.getD i undef) (cs'.getD i undef)):aD φ (.tuple cs) (.tuple cs')
theorem aD.yw (φ:bQ):aD φ undef undef:= .tuple _ _ rfl λi h=>absurd h (by simp)
theorem aD.mono {φ cR:bQ} (hF:∀b e,φ b=some e->cR b=some e) {v aB:U} (h:aD φ v aB):aD cR v aB:=by
 induction h with
 |cL aB=>exact .cL aB
 |sym k=>exact .sym k
 |bool b=>exact .bool b
 |int k n=>exact .int k n
 |float k b=>exact .float k b
 |string s=>exact .string s
 |yv=>exact .yv
 |ptr h=>exact .ptr (hF _ _ h)
 |slnil l c=>exact .slnil l c
 |iB aS h=>exact .iB aS h
 |h_ n c h=>exact .h_ n c (hF _ _ h)
 |ia n c c' h av al hl=>exact .ia n c c' (hF _ _ h) av al hl
 |zV=>exact .zV
 |map h=>exact .map (hF _ _ h)
 |chan=>exact .chan
 |func fs j_ cs cs' aq h1 ae _ _ rS rT=>exact .func fs j_ cs cs' aq h1 ae rS rT
 |s3 h=>exact .s3 (hF _ _ h)
 |nilFunc=>exact .nilFunc
 |nilIface=>exact .nilIface
 |iface t _ cd=>exact .iface t cd
 |agg cs cs' h1 _ cd=>exact .agg cs cs' h1 cd
 |tuple cs cs' h1 _ cd=>exact .tuple cs cs' h1 cd
mutual
theorem aD.ku (φ:bQ):∀v:U,plain v=true->aD φ v v
 | .bool b,_=> .bool b
 | .int k n,_=> .int k n
 | .float k b,_=> .float k b
 | .string s,_=> .string s
 | .pointer none,_=> .yv
 | .map none,_=> .zV
 | .chan none,_=> .chan
 | .nilFunc,_=> .nilFunc
 | .nilIface,_=> .nilIface
 | .slice none l c,_=> .slnil l c
 | .func (.func f) ⟨[]⟩ ⟨[]⟩,_=> .func _ _ _ _ (λl h=>by cases h) J J (λi h=>absurd h (by simp)) (λi h=>absurd h (by simp))
 | .iface t v,h=> .iface t (aD.ku φ v (by simpa [plain] using h))
 | .agg ⟨l⟩,h=> .agg _ _ rfl λi af=>by
     have:=aD.Kp φ l (by simpa [plain] using h) i af;simpa using this
 | .tuple ⟨l⟩,h=> .tuple _ _ rfl λi af=>by
     have:=aD.Kp φ l (by simpa [plain] using h) i af;simpa using this
theorem aD.Kp (φ:bQ):∀l:List U,om l=true->∀i,i<l.length->aD φ (l.getD i Go.undef) (l.getD i Go.undef)
 |[],_,i,af=>absurd af (by simp)
 |v::r,h,0,_=>by
   have:=aD.ku φ v (by simp [om] at h;exact h.1);simpa using this
 |v::r,h,i+1,af=>by
   have:=aD.Kp φ r (by simp [om] at h;exact h.2) i (by simpa using af);simpa using this
end
end AE
end
namespace AE
variable [aY]
structure zW (A:aW):Prop where
 lt:∀b k,A.bl.get b=some k->b<A.n
 s4:∀b k,A.bl.get b=some k->k.cE<A.n
 mem:∀b k,A.bl.get b=some k->∃l,A.mem.get k.cE=some l/\b∈l
 tW:∀b k b' k',A.bl.get b=some k->A.bl.get b'=some k'->k.cE=k'.cE->k.ro=k'.ro
def qV (φ:bQ):BR->Obj->Prop
 | .wM s p,o=>o= .stringIter s p
 | .deferred,o=>o= .deferred (some [])
 | .gone,o=>o= .deferred none
 | .loop l,o=>∃r:Loop,o= .loop r/\r.state=l.state/\r.pending=l.pending/\r.tmps.size=l.N/\r.params=⟨l.params⟩/\r.assign=l.assign/\r.body=l.body/\(∃e,φ l.DH=some e/\r.defers=e.bf)/\
     (∀t v,l.sl.get t=some v->aD φ v (r.tmps.getD t undef))
theorem qV.Rr {φ:bQ} {x:BR} {c:Array U} {t:aH} {f:Nat×Nat} (h:qV φ x (.cells c t f)):False:=by
 cases x with
 |wM s p=>cases h
 |deferred=>cases h
 |gone=>cases h
 |loop l=>obtain⟨r,h,_⟩:=h;cases h
theorem qV.mono {φ cR:bQ} {x:BR} {o:Obj} (hF:∀b e,φ b=some e->cR b=some e) (h:qV φ x o):qV cR x o:=by
 cases x with
 |wM s p=>exact h
 |deferred=>exact h
 |gone=>exact h
 |loop l=>
  obtain⟨r,aJ,h1,ae,ay,bE,cn,cy,⟨e,fx,px⟩,zX⟩:=h;exact⟨r,aJ,h1,ae,ay,bE,cn,cy,⟨e,hF _ _ fx,px⟩,λt v aC=>(zX t v aC).mono hF⟩
def fy (φ:bQ) (w:au) (e:gZ) (k:hE):Prop:=
 match k.obj with
 | .cells c=>∃c' jJ,w.heap[e.bf]? =some (.cells c' k.ty jJ)/\e.zU=c'.size/\(e.sh+c.length<=c'.size/\(k.eB=0->e.sh=0/\c.length=c'.size))/\
     (∀j,j<c.length->aD φ (c.getD j undef) (c'.getD (e.sh+j) undef))/\(k.ro=false->∀i,i<c'.size->¬(jJ.1<=i/\i<jJ.2))
 | .map es eE=>∃c9,w.heap[e.bf]? =some (.map c9 eE)/\es.length=c9.size/\
     ∀(j:Nat) (a:jP) (b:MapEntry),es[j]? =some a->c9[j]? =some b->plain a.key=true/\a.key=b.key/\aD φ a.val b.val/\a.born=b.born
 | .fL x=>e.sh=0/\∃o',w.heap[e.bf]? =some o'/\qV φ x o'
structure bR (φ:bQ) (A:aW) (w:au):Prop where
 wf:zW A
 ep:∀b e,φ b=some e->∃k,A.bl.get b=some k/\e.eB=k.eB/\fy φ w e k
 apart:∀b e k b' e' k',φ b=some e->φ b'=some e'->A.bl.get b=some k->A.bl.get b'=some k'->k.cE≠k'.cE->e.bf≠e'.bf
 along:∀b e k b' e' k',φ b=some e->φ b'=some e'->A.bl.get b=some k->A.bl.get b'=some k'->k.cE=k'.cE->e.bf=e'.bf->e.sh+k'.pos=e'.sh+k.pos
 dg:∀i o,aY.dg i=some o->w.heap[i]? =some o/\∀b e,φ b=some e->e.bf≠i
abbrev kv (_:au):Nat:=0
structure cg (φ:bQ) (A:aW) (w:au) (cR:bQ) (aV:aW) (w':au):Prop where
 rel:bR cR aV w'
 ep:∀b,b<A.n->cR b=φ b
 qW:∀b,A.n<=b->b<aV.n->cR b≠none
 new:∀b e,A.n<=b->cR b=some e->w.heap.size<=e.bf\/∃cX bk d',φ cX=some bk/\bk.bf=e.bf/\aV.low<=cX/\A.bl.get cX=some d'/\d'.ro=false
 py:A.n<=aV.n
 low:aV.low<=A.low
 same:∀b,b<A.n->b<aV.low->aV.bl.get b=A.bl.get b
 ro:∀b k,A.bl.get b=some k->k.ro=true->aV.bl.get b=some k
 keep:∀i,i<w.heap.size->(∀b e k,φ b=some e->e.bf=i->A.bl.get b=some k->k.ro=true)->w'.heap[i]? =w.heap[i]?
 fX:w.heap.size<=w'.heap.size
 os:w'.os=w.os
 tape:w'.tape=w.tape
 output:w'.output=w.output
 drawn:kv w<=kv w'
theorem bR.lt {φ:bQ} {A:aW} {w:au} (h:bR φ A w) {b:Nat} {e:gZ} (ad:φ b=some e):b<A.n:=by
 obtain⟨k,ag,_⟩:=h.ep b e ad;exact h.wf.lt b k ag
theorem cg.ext {φ cR:bQ} {A aV:aW} {w w':au} (h:cg φ A w cR aV w') (hr:bR φ A w):∀b e,φ b=some e->cR b=some e:=λb e ad=>by
 rw[h.ep b (hr.lt ad)];exact ad
theorem cg.refl {φ:bQ} {A:aW} {w:au} (h:bR φ A w):cg φ A w φ A w where
 rel:=h
 ep:=λ_ _=>rfl
 qW:=λb h1 ae=>by omega
 new:=λb e h1 ae=>absurd (h.lt ae) ao
 py:=bY _
 low:=bY _
 same:=λ_ _ _=>rfl
 ro:=λ_ _ h _=>h
 keep:=λ_ _ _=>rfl
 fX:=bY _
 os:=rfl
 tape:=rfl
 output:=rfl
 drawn:=bY _
theorem cg.trans {φ fY e_:bQ} {A bt eH:aW} {w w1 w2:au} (hr:bR φ A w) (h1:cg φ A w fY bt w1) (ae:cg fY bt w1 e_ eH w2):cg φ A w e_ eH w2 where
 rel:=ae.rel
 ep:=λb ad=>by rw[ae.ep b (Nat.lt_of_lt_of_le ad h1.py),h1.ep b ad]
 qW:=λb h eW=>by
  rcases Nat.lt_or_ge b bt.n with b8|kx
  ·rw[ae.ep b b8];exact h1.qW b h b8
  ·exact ae.qW b kx eW
 new:=by
  have first:∀b e,A.n<=b->fY b=some e->w.heap.size<=e.bf\/∃cX bk d',φ cX=some bk/\bk.bf=e.bf/\eH.low<=cX/\A.bl.get cX=some d'/\d'.ro=false:=λb e ad he=>by
   rcases h1.new b e ad he with h|⟨cX,bk,d',q1,aE,b9,ey,hv⟩
   ·exact .inl h
   ·exact .inr ⟨cX,bk,d',q1,aE,Nat.le_trans ae.low b9,ey,hv⟩
  intro b e ad he;rcases Nat.lt_or_ge b bt.n with b8|kx
  ·rw[ae.ep b b8] at he
   exact first b e ad he
  ·rcases ae.new b e kx he with h|⟨cX,bk,d',q1,aE,b9,ey,hv⟩
   ·exact .inl (Nat.le_trans h1.fX h)
   ·rcases Nat.lt_or_ge cX A.n with b8|aal
    ·rw[h1.ep cX b8] at q1
     obtain⟨k,ag,_⟩:=hr.ep cX bk q1;refine .inr ⟨cX,bk,k,q1,aE,b9,ag,?_⟩;cases dC:k.ro with
     |false=>rfl
     |true=>
      have:=h1.ro cX k ag dC;rw[ey] at this;cases this;rw[hv] at dC;exact dC.symm▸rfl
    ·rcases first cX bk aal q1 with h|⟨jK,e1,cV,cS,dL,fZ,wN,BS⟩
     ·exact .inl ao
     ·exact .inr ⟨jK,e1,cV,cS,dL.trans aE,fZ,wN,BS⟩
 py:=Nat.le_trans h1.py ae.py
 low:=Nat.le_trans ae.low h1.low
 same:=λb ad hl=>by rw[ae.same b (Nat.lt_of_lt_of_le ad h1.py) hl,h1.same b ad (Nat.lt_of_lt_of_le hl ae.low)]
 ro:=λb k ag dC=>ae.ro b k (h1.ro b k ag dC) dC
 keep:=λi af kL=>by
  rw[ae.keep i (Nat.lt_of_lt_of_le af h1.fX) ?_,h1.keep i af kL];intro b e k ad he ag;rcases Nat.lt_or_ge b A.n with b8|kx
  ·rw[h1.ep b b8] at ad
   obtain⟨d',hg,_⟩:=hr.ep b e ad;have dC:=kL b e d' ad he hg;have:=h1.ro b d' hg dC;rw[ag] at this;cases this;exact dC
  ·rcases h1.new b e kx ad with h|⟨cX,bk,d',q1,aE,b9,ey,hv⟩
   ·omega
   ·have:=kL cX bk d' q1 (aE.trans he) ey
    rw[hv] at this;cases this
 fX:=Nat.le_trans h1.fX ae.fX
 os:=ae.os.trans h1.os
 tape:=ae.tape.trans h1.tape
 output:=ae.output.trans h1.output
 drawn:=Nat.le_trans h1.drawn ae.drawn
theorem cg.yx {φ:bQ} {A:aW} {w:au} (h:bR φ A w) (n:Nat) (a_:w.drawn<=n:=by omega):cg φ A w φ A {w with drawn:=n}:=
 {cg.refl h with rel:=⟨h.wf,h.ep,h.apart,h.along,h.dg⟩,keep:=λ_ _ _=>rfl,drawn:=bY _}
def depth:Nat:=30
def aW.push (A:aW) (o:p3) (st:Nat) (ty:aH):Option (Nat×aW):=
 match b4.set {obj:=o,cE:=A.n,pos:=0,eB:=st,ro:=false,ty:=ty:hE} depth A.bl A.n,b4.set [A.n] depth A.mem A.n with
 |some bl,some mem=>some (A.n,{A with bl,mem,n:=A.n+1})
 |_,_=>none
def gG (φ:bQ) (b:Nat) (e:gZ):bQ:=λi=>if i=b then some e else φ i
omit [aY] in
theorem zW.push {A aV:aW} {o:p3} {st:Nat} {ty:aH} {r:Nat} (h:zW A) (hp:A.push o st ty=some (r,aV)):
  zW aV/\r=A.n/\aV.n=A.n+1/\aV.low=A.low/\(∀b,aV.bl.get b=if b=A.n then some {obj:=o,cE:=A.n,pos:=0,eB:=st,ro:=false,ty:=ty} else A.bl.get b):=by
 unfold aW.push at hp;split at hp
 ·rename_i bl mem ad hm
  simp only [cx,Prod.mk.injEq] at hp;obtain⟨rfl,rfl⟩:=hp;have s5:=λb=>b4.nS _ _ _ _ _ b ad
  have BU:=λb=>b4.nS _ _ _ _ _ b hm
  refine⟨⟨?_,?_,?_,?_⟩,rfl,rfl,rfl,s5⟩
  ·intro b k ag
   simp only at ag ⊢;rw[s5] at ag;split at ag
   ·omega
   ·have:=h.lt b k ag;omega
  ·intro b k ag
   simp only at ag ⊢;rw[s5] at ag;split at ag
   ·cases ag;simp
   ·have:=h.s4 b k ag;omega
  ·intro b k ag
   simp only at ag ⊢;rw[s5] at ag;split at ag
   ·rename_i ad
    cases ag;exact⟨[A.n],by rw[BU,aN rfl],by simp [ad]⟩
   ·obtain⟨l,hl,wO⟩:=h.mem b k ag
    exact⟨l,by rw[BU,aO (by have:=h.s4 b k ag;omega)];exact hl,wO⟩
  ·intro b k b' k' ag dm aP
   simp only at ag dm;rw[s5] at ag dm;split at ag
   ·cases ag
    split at dm
    ·cases dm;rfl
    ·have:=h.s4 b' k' dm;simp only at aP;omega
   ·split at dm
    ·cases dm
     have:=h.s4 b k ag;simp only at aP;omega
    ·exact h.tW b k b' k' ag dm aP
 ·cases hp
theorem fy.mono {φ cR:bQ} {w w':au} {e:gZ} {k:hE} (hF:∀b e,φ b=some e->cR b=some e) (hw:w'.heap[e.bf]? =w.heap[e.bf]?) (h:fy φ w e k):fy cR w' e k:=by
 unfold fy at*
 cases ag:k.obj with
 |cells c=>
  simp only [ag] at h ⊢;obtain⟨c',jJ,h1,ae,ay,bE,cn⟩:=h;exact⟨c',jJ,hw.trans h1,ae,ay,λj hj=>(bE j hj).mono hF,cn⟩
 |map es eE=>
  simp only [ag] at h ⊢;obtain⟨c9,h1,ae,ay⟩:=h;refine⟨c9,hw.trans h1,ae,λj a b ha ad=> ?_⟩;obtain⟨q1,aE,b9,ey⟩:=ay j a b ha ad;exact⟨q1,aE,b9.mono hF,ey⟩
 |fL x=>
  simp only [ag] at h ⊢;obtain⟨aJ,o',h1,ae⟩:=h;exact⟨aJ,o',hw.trans h1,ae.mono hF⟩
theorem fy.lt {φ:bQ} {w:au} {e:gZ} {k:hE} (h:fy φ w e k):e.bf<w.heap.size:=by
 unfold fy at h;cases ag:k.obj with
 |cells c=>
  simp only [ag] at h;obtain⟨c',jJ,h1,_⟩:=h;exact(Array.getElem?_eq_some_iff.1 h1).1
 |map es eE=>
  simp only [ag] at h;obtain⟨c9,h1,_⟩:=h;exact(Array.getElem?_eq_some_iff.1 h1).1
 |fL x=>
  simp only [ag] at h;obtain⟨aJ,o',h1,ae⟩:=h;exact(Array.getElem?_eq_some_iff.1 h1).1
theorem BV {φ:bQ} {A aV:aW} {w:au} {o:p3} {st:Nat} {ty:aH} {r:Nat} {o':Obj} {e:gZ} (hr:bR φ A w) (hp:A.push o st ty=some (r,aV)) (he:e.bf=w.heap.size) (cB:e.eB=st)
  (ho:fy (gG φ r e) {w with heap:=w.heap.push o'} e {obj:=o,cE:=A.n,pos:=0,eB:=st,ro:=false,ty:=ty}):
  cg φ A w (gG φ r e) aV {w with heap:=w.heap.push o'}:=by
 obtain⟨tX,rfl,aq,rU,gp⟩:=hr.wf.push hp;have hold:∀b e1,φ b=some e1->gG φ A.n e b=some e1:=λb e1 ad=>by
  unfold gG;rw[aO (by have:=hr.lt ad;omega)];exact ad
 have qX:∀i,i<w.heap.size->(w.heap.push o')[i]? =w.heap[i]? :=λi af=>by
  rw[Array.getElem?_push,aO ao]
 have lI:∀b e1,gG φ A.n e b=some e1->(b=A.n/\e1=e)\/(b≠A.n/\φ b=some e1):=λb e1 ad=>by
  unfold gG at ad;split at ad
  ·rename_i h;cases ad;exact .inl ⟨h,rfl⟩
  ·rename_i h;exact .inr ⟨h,ad⟩
 refine {rel:=⟨tX,?_,?_,?_,λi o af=>by
   obtain⟨h1,ae⟩:=hr.dg i o af;have b8:i<w.heap.size:=(Array.getElem?_eq_some_iff.1 h1).1;refine⟨by rw[qX i b8];exact h1,λb e1 ad=> ?_⟩;rcases lI b e1 ad with ⟨rfl,rfl⟩|⟨_,ad⟩
   ·omega
   ·exact ae b e1 ad⟩,ep:= ?_,qW:= ?_,new:= ?_,py:=by omega,low:=by omega,same:= ?_,ro:= ?_,keep:= ?_,fX:=by simp,os:=rfl,tape:=rfl,output:=rfl,drawn:=bY _}
 ·intro b e1 ad
  rcases lI b e1 ad with ⟨rfl,rfl⟩|⟨cC,ad⟩
  ·exact⟨_,by rw[gp,aN rfl],cB,ho⟩
  ·obtain⟨k,ag,h1,ae⟩:=hr.ep b e1 ad
   exact⟨k,by rw[gp,aO cC];exact ag,h1,ae.mono hold (qX _ ae.lt)⟩
 ·intro b e1 k b' nT k' ad dN ag dm cC
  rw[gp] at ag dm;rcases lI b e1 ad with ⟨rfl,rfl⟩|⟨js,rV⟩
  ·rcases lI b' nT dN with ⟨rfl,rfl⟩|⟨ll,p4⟩
   ·rw[aN rfl] at ag dm;cases ag;cases dm;exact absurd rfl cC
   ·obtain⟨cV,_,_,ae⟩:=hr.ep b' nT p4
    have:=ae.lt;omega
  ·rcases lI b' nT dN with ⟨rfl,rfl⟩|⟨ll,p4⟩
   ·obtain⟨cV,_,_,ae⟩:=hr.ep b e1 rV
    have:=ae.lt;omega
   ·rw[aO js] at ag;rw[aO ll] at dm
    exact hr.apart b e1 k b' nT k' rV p4 ag dm cC
 ·intro b e1 k b' nT k' ad dN ag dm oo jt
  rw[gp] at ag dm;rcases lI b e1 ad with ⟨rfl,rfl⟩|⟨js,rV⟩
  ·rcases lI b' nT dN with ⟨rfl,rfl⟩|⟨ll,p4⟩
   ·rw[aN rfl] at ag dm;cases ag;cases dm;rfl
   ·obtain⟨cV,_,_,ae⟩:=hr.ep b' nT p4
    have:=ae.lt;omega
  ·rcases lI b' nT dN with ⟨rfl,rfl⟩|⟨ll,p4⟩
   ·obtain⟨cV,_,_,ae⟩:=hr.ep b e1 rV
    have:=ae.lt;omega
   ·rw[aO js] at ag;rw[aO ll] at dm
    exact hr.along b e1 k b' nT k' rV p4 ag dm oo jt
 ·intro b ad
  unfold gG;rw[aO ao]
 ·intro b h1 ae
  have:b=A.n:=by omega
  subst this;simp [gG]
 ·intro b e1 h1 ad
  rcases lI b e1 ad with ⟨rfl,rfl⟩|⟨js,ad⟩
  ·exact .inl ao
  ·exact absurd (hr.lt ad) ao
 ·intro b ad _
  rw[gp,aO ao]
 ·intro b k ag _
  rw[gp,aO (by have:=hr.wf.lt b k ag;omega)];exact ag
 ·intro i af _
  exact qX i af
end AE
namespace AE
variable [aY]
def aW.load (A:aW) (b off:Nat):Option U:=
 match A.bl.get b with
 |some {obj:= .cells c,..}=>c[off]?
 |_=>none
theorem tY {φ:bQ} {A:aW} {w:au} (hr:bR φ A w) {b off:Nat} {v:U} {e:gZ} (h:A.load b off=some v) (he:φ b=some e):
  ∃aB,w.cell? ⟨e.bf,e.sh+off,none⟩=some aB/\aD φ v aB:=by
 obtain⟨k,ag,_,ho⟩:=hr.ep b e he;unfold aW.load at h;rw[ag] at h;obtain⟨vt,cE,pos,eB,ro,ty⟩:=k;cases vt with
 |cells c=>
  simp only [fy] at h ho;obtain⟨c',jJ,h1,ae,ay,bE,cn⟩:=ho;obtain⟨b8,aC⟩:=List.getElem?_eq_some_iff.1 h;refine⟨c'.getD (e.sh+off) undef,?_,?_⟩
  ·simp only [World.cell?,h1]
   simp [show e.sh+off<c'.size by omega]
  ·have:=bE off b8
   rw[dr,h] at this;simpa using this
 |map es eE=>simp at h
 |fL x=>simp at h
def ky (pos:Nat) (k:hE):hE:=
 bif k.ro then k else
 match k.obj with
 | .cells c=>bif Nat.ble k.pos pos then {k with obj:= .cells (c.set (pos-k.pos) cL)} else k
 |_=>k
omit [aY] in
theorem zY (pos:Nat) (k:hE):(ky pos k).cE=k.cE/\(ky pos k).pos=k.pos/\(ky pos k).eB=k.eB/\(ky pos k).ro=k.ro/\ky pos (ky pos k)=ky pos k/\(k.ro=true->ky pos k=k)/\(ky pos k).ty=k.ty:=by
 obtain⟨vt,cE,p,st,ro,ty⟩:=k;cases ro with
 |true=>simp [ky]
 |false=>
  cases vt with
  |cells c=>cases h:Nat.ble p pos<;>simp [ky,h]
  |map es eE=>simp [ky]
  |fL x=>simp [ky]
omit [aY] in
theorem aam (pos:Nat) (k:hE):(ky pos k).cE=k.cE:=(zY pos k).1
omit [aY] in
theorem aan (pos:Nat) (k:hE):(ky pos k).pos=k.pos:=(zY pos k).2.1
omit [aY] in
theorem Kq (pos:Nat) (k:hE):(ky pos k).eB=k.eB:=(zY pos k).2.2.1
omit [aY] in
theorem aao (pos:Nat) (k:hE):(ky pos k).ro=k.ro:=(zY pos k).2.2.2.1
omit [aY] in
theorem aap (pos:Nat) (k:hE):(ky pos k).ty=k.ty:=(zY pos k).2.2.2.2.2.2
omit [aY] in
theorem aaq (pos:Nat) (k:hE):ky pos (ky pos k)=ky pos k:=(zY pos k).2.2.2.2.1
def yy (pos b:Nat):List Nat->b4 hE->Option (b4 hE)
 |[],t=>some t
 |m::r,t=>bif m==b then yy pos b r t else
  match t.get m with
  |some k=>match b4.set (ky pos k) depth t m with
   |some da=>yy pos b r da
   |none=>none
  |none=>yy pos b r t
omit [aY] in
theorem GO (pos b:Nat):∀(l:List Nat) (t da:b4 hE),yy pos b l t=some da->
  ∀j,da.get j=if j∈l/\j≠b then (t.get j).map (ky pos) else t.get j
 |[],t,da,h,j=>by simp [yy] at h;simp [h]
 |m::r,t,da,h,j=>by
  unfold yy at h;by_cases hm:m=b
  ·rw[show (m==b)=true by simpa using hm,bw] at h
   rw[GO pos b r t da h j];subst hm;by_cases hj:j∈r/\j≠m
   ·rw[aN hj,aN ⟨List.mem_cons_of_mem _ hj.1,hj.2⟩]
   ·rw[aO hj,aO]
    rintro ⟨h1,ae⟩;rcases List.mem_cons.1 h1 with h1|h1
    ·exact ae h1
    ·exact hj ⟨h1,ae⟩
  ·rw[show (m==b)=false by simpa using hm,ei] at h
   cases az:t.get m with
   |none=>
    rw[az] at h;rw[GO pos b r t da h j];by_cases eX:j=m
    ·subst eX
     rw[az];split<;>split<;>rfl
    ·have:(j∈m::r/\j≠b)↔(j∈r/\j≠b):=by simp [eX]
     simp only [this]
   |some k=>
    rw[az] at h;simp only at h;cases av:b4.set (ky pos k) depth t m with
    |none=>rw[av] at h;cases h
    |some t1=>
     rw[av] at h;have gp:=λj=>b4.nS _ _ _ _ _ j av
     rw[GO pos b r t1 da h j,gp];by_cases eX:j=m
     ·subst eX
      rw[aN rfl,aN (show j∈j::r/\j≠b from ⟨List.mem_cons_self,hm⟩),az];split
      ·simp [aaq]
      ·simp
     ·rw[aO eX]
      have:(j∈m::r/\j≠b)↔(j∈r/\j≠b):=by simp [eX]
      simp only [this]
def aW.store (A:aW) (b off:Nat) (v:U):Option aW:=
 match A.bl.get b with
 |some k=>
  bif k.ro then none else
  match k.obj with
  | .cells c=>bif Nat.blt off c.length then
      match A.mem.get k.cE,b4.set {k with obj:= .cells (c.set off v)} depth A.bl b with
      |some l,some t=>match yy (k.pos+off) b l t with
       |some da=>some {A with bl:=da,low:=l.foldl Nat.min A.low}
       |none=>none
      |_,_=>none
    else none
  |_=>none
 |none=>none
omit [aY] in
theorem GQ:∀(l:List Nat) (x:Nat),l.foldl Nat.min x<=x/\∀m∈l,l.foldl Nat.min x<=m
 |[],x=>⟨bY _,λm h=>by cases h⟩
 |a::r,x=>by
  obtain⟨h1,ae⟩:=GQ r (Nat.min x a);refine⟨Nat.le_trans h1 (Nat.min_le_left _ _),λm hm=> ?_⟩;rcases List.mem_cons.1 hm with rfl|hm
  ·exact Nat.le_trans h1 (Nat.min_le_right _ _)
  ·exact ae m hm
omit [aY] in
theorem aar {A aV:aW} {b off:Nat} {v:U} (h:A.store b off v=some aV):
  ∃k c l,A.bl.get b=some k/\k.ro=false/\k.obj= .cells c/\off<c.length/\A.mem.get k.cE=some l/\aV.n=A.n/\aV.mem=A.mem/\aV.low<=A.low/\(∀m∈l,aV.low<=m)/\
   aV.bl.get b=some {k with obj:= .cells (c.set off v)}/\(∀j,j≠b->aV.bl.get j=if j∈l then (A.bl.get j).map (ky (k.pos+off)) else A.bl.get j):=by
 unfold aW.store at h;cases ag:A.bl.get b with
 |none=>rw[ag] at h;cases h
 |some k=>
  rw[ag] at h;obtain⟨vt,cE,pos,eB,ro,ty⟩:=k;simp only at h;cases ro with
  |true=>cases h
  |false=>
   simp only [ei] at h;cases vt with
   |map es eE=>cases h
   |fL x=>cases h
   |cells c=>
    simp only at h;cases ad:Nat.blt off c.length with
    |false=>rw[ad] at h;cases h
    |true=>
     rw[ad,bw] at h;cases hm:A.mem.get cE with
     |none=>rw[hm] at h;cases h
     |some l=>
      rw[hm] at h;cases av:b4.set {obj:= .cells (c.set off v),cE:=cE,pos:=pos,eB:=eB,ro:=false,ty:=ty:hE} depth A.bl b with
      |none=>rw[av] at h;cases h
      |some t=>
       rw[av] at h;simp only at h;cases hp:yy (pos+off) b l t with
       |none=>rw[hp] at h;cases h
       |some da=>
        rw[hp] at h;simp only [cx] at h;subst h;have gp:=λj=>b4.nS _ _ _ _ _ j av
        have kL:=GO _ _ _ _ _ hp;obtain⟨f1,f2⟩:=GQ l A.low;refine⟨_,c,l,rfl,rfl,rfl,Nat.blt_eq.mp ad,hm,rfl,rfl,f1,f2,?_,?_⟩
        ·simp only [kL,gp]
         simp
        ·intro j hj
         simp only [kL,gp,hj,ne_eq,not_false_eq_true,and_true,if_false]
theorem Rs {φ:bQ} {A aV:aW} {w:au} (hr:bR φ A w) {b off:Nat} {v aB:U} {e:gZ} (h:A.store b off v=some aV) (he:φ b=some e) (aC:aD φ v aB):
  cg φ A w φ aV (w.setCell ⟨e.bf,e.sh+off,none⟩ aB)/\(∃u,w.cell? ⟨e.bf,e.sh+off,none⟩=some u)/\w.frozen? ⟨e.bf,e.sh+off,none⟩=false:=by
 obtain⟨k,c,l,ag,dC,fq,b8,mP,aq,rW,rU,GR,Rt,oq⟩:=aar h;obtain⟨d',hg,cB,ho⟩:=hr.ep b e he;rw[ag] at hg;cases hg;have wO:b∈l:=by
  obtain⟨l',fa,dN⟩:=hr.wf.mem b k ag;rw[mP] at fa;cases fa;exact dN
 have ln:=ho;unfold fy at ho;simp only [fq] at ho;obtain⟨c',jJ,h1,ae,ay,bE,cn⟩:=ho;have yz:=cn dC;have jt:e.bf<w.heap.size:=ln.lt;have hw:(w.setCell ⟨e.bf,e.sh+off,none⟩ aB).heap[e.bf]? =some (.cells (c'.setIfInBounds (e.sh+off) aB) k.ty jJ):=by
  simp only [World.setCell,Array.getElem?_modify,aN,h1];simp
 have pz:∀i,i≠e.bf->(w.setCell ⟨e.bf,e.sh+off,none⟩ aB).heap[i]? =w.heap[i]? :=λi af=>by
  simp only [World.setCell,Array.getElem?_modify];rw[aO (Ne.symm af)]
 have fN:∀j dG,aV.bl.get j=some dG->∃b5,A.bl.get j=some b5/\dG.cE=b5.cE/\dG.pos=b5.pos/\dG.eB=b5.eB/\dG.ro=b5.ro/\dG.ty=b5.ty:=by
  intro j dG hj;by_cases s6:j=b
  ·subst s6
   rw[Rt] at hj;cases hj;exact⟨k,ag,rfl,rfl,rfl,rfl,rfl⟩
  ·rw[oq j s6] at hj
   split at hj
   ·obtain⟨b5,h1,rfl⟩:=Option.map_eq_some_iff.1 hj
    exact⟨b5,h1,aam _ _,aan _ _,Kq _ _,aao _ _,aap _ _⟩
   ·exact⟨dG,hj,rfl,rfl,rfl,rfl,rfl⟩
 refine⟨{rel:=⟨⟨?_,?_,?_,?_⟩,?_,?_,?_,λi o af=>⟨by rw[pz i (Ne.symm ((hr.dg i o af).2 _ _ he))];exact(hr.dg i o af).1,(hr.dg i o af).2⟩⟩,ep:=λ_ _=>rfl,qW:=λb h1 ae=>by omega,new:=λb e h1 ae=>absurd (hr.lt ae) ao,py:=by omega,low:=rU,same:= ?_,ro:= ?_,keep:= ?_,fX:=by simp [World.setCell],os:=rfl,tape:=rfl,output:=rfl,drawn:=bY _},?_,?_⟩
 ·intro j b5 hj
  obtain⟨cV,q1,_⟩:=fN j b5 hj;rw[aq];exact hr.wf.lt j cV q1
 ·intro j b5 hj
  obtain⟨cV,q1,aE,_⟩:=fN j b5 hj;rw[aq,aE];exact hr.wf.s4 j cV q1
 ·intro j b5 hj
  obtain⟨cV,q1,aE,_⟩:=fN j b5 hj;rw[rW,aE];exact hr.wf.mem j cV q1
 ·intro j b5 fb dG hj gn aP
  obtain⟨cV,q1,aE,_,_,b9,_⟩:=fN j b5 hj;obtain⟨tZ,t',zZ,_,_,rX,_⟩:=fN fb dG gn;rw[b9,rX];exact hr.wf.tW j cV fb tZ q1 t' (by rw[<-aE,<-zZ];exact aP)
 ·intro j fE hj
  obtain⟨b5,hh,vu,hK⟩:=hr.ep j fE hj;by_cases s6:j=b
  ·subst s6
   rw[he] at hj;cases hj;rw[ag] at hh;cases hh;refine⟨_,Rt,cB,?_⟩;simp only [fy];refine⟨_,_,hw,by simpa using ae,by simpa using ay,?_,λ_=>by simpa using yz⟩;intro i af;simp only [List.length_set] at af;by_cases nk:i=off
   ·subst nk
    rw[dr,List.getElem?_set_self af];simp only [e5,Array.getElem?_setIfInBounds,aN];rw[aN ao];exact aC
   ·rw[dr,List.getElem?_set_ne (Ne.symm nk),<-dr]
    have:=bE i af;simp only [e5,Array.getElem?_setIfInBounds] at this ⊢;rw[aO ao];exact this
  ·by_cases wP:fE.bf=e.bf
   ·
    have oo:b5.cE=k.cE:=by
     rcases Nat.lt_or_ge b5.cE k.cE with h|h
     ·exact absurd wP (hr.apart j fE b5 b e k hj he hh ag ao)
     ·rcases Nat.eq_or_lt_of_le h with h|h
      ·exact h.symm
      ·exact absurd wP (hr.apart j fE b5 b e k hj he hh ag ao)
    have kM:j∈l:=by
     obtain⟨l',fa,dN⟩:=hr.wf.mem j b5 hh;rw[oo,mP] at fa;cases fa;exact dN
    have aas:=hr.along j fE b5 b e k hj he hh ag oo wP;refine⟨ky (k.pos+off) b5,by rw[oq j s6,aN kM,hh];rfl,by rw[Kq];exact vu,?_⟩;obtain⟨Kr,Ru,vv,Rv,GU,Rw⟩:=b5;simp only at oo aas vu;cases Kr with
    |map es eE=>
     simp only [fy] at hK;obtain⟨c9,g1,_⟩:=hK;rw[wP,h1] at g1;cases g1
    |fL x=>
     simp only [fy] at hK;obtain⟨_,o',g1,g2⟩:=hK;rw[wP,h1] at g1;cases g1;exact absurd g2 λh=>qV.Rr h
    |cells z1=>
     simp only [fy] at hK;obtain⟨DI,DJ,g1,g2,g3,g4,jQ⟩:=hK;rw[wP,h1] at g1;simp only [cx,Obj.cells.injEq] at g1;obtain⟨rfl,hty,rfl⟩:=g1;have key:∀(eE:List U),eE.length=z1.length->(∀i,i<z1.length->(fE.sh+i=e.sh+off->eE[i]? =some cL)/\(fE.sh+i≠e.sh+off->eE[i]? =z1[i]? \/eE[i]? =some cL))->
       fy φ (w.setCell ⟨e.bf,e.sh+off,none⟩ aB) fE {obj:= .cells eE,cE:=Ru,pos:=vv,eB:=Rv,ro:=GU,ty:=Rw}:=by
      intro eE nU gv;simp only [fy];refine⟨_,_,by rw[wP,<-hty];exact hw,by simpa using g2,by rw[nU];simpa using g3,?_,λ_=>by simpa using yz⟩;intro i af;rw[nU] at af;obtain⟨q1,aE⟩:=gv i af;by_cases qY:fE.sh+i=e.sh+off
      ·rw[dr,q1 qY]
       exact .cL _
      ·rcases aE qY with q|q
       ·rw[dr,q,<-dr]
        have:=g4 i af;simp only [e5,Array.getElem?_setIfInBounds] at this ⊢;rw[aO ao];exact this
       ·rw[dr,q]
        exact .cL _
     have qZ:GU=false:=by
      have:=hr.wf.tW j _ b k hh ag oo;simpa [dC] using this
     subst qZ;unfold ky;simp only [ei];cases GV:Nat.ble vv (k.pos+off) with
     |false=>
      simp only [ei];refine key z1 rfl λi af=>⟨λhp=> ?_,λ_=> .inl rfl⟩
      have:¬vv<=k.pos+off:=by
       intro hle;rw[Nat.ble_eq.mpr hle] at GV;cases GV
      omega
     |true=>
      have hle:=Nat.ble_eq.mp GV;simp only [bw];refine key _ (by simp) λi af=>⟨λhp=> ?_,λhp=> ?_⟩
      ·have:k.pos+off-vv=i:=by omega
       rw[this,List.getElem?_set_self af]
      ·have:k.pos+off-vv≠i:=by omega
       rw[List.getElem?_set_ne this];exact .inl rfl
   ·
    rw[oq j s6];by_cases kM:j∈l
    ·rw[aN kM,hh]
     refine⟨_,rfl,by rw[Kq];exact vu,?_⟩;have BW:fy φ (w.setCell ⟨e.bf,e.sh+off,none⟩ aB) fE b5:=hK.mono (λ_ _ h=>h) (pz _ wP);unfold ky;obtain⟨Kr,Ru,vv,Rv,GU,Rw⟩:=b5;cases GU with
     |true=>exact BW
     |false=>
     simp only [ei];cases Kr with
     |map es eE=>exact BW
     |fL x=>exact BW
     |cells z1=>
      simp only;cases GV:Nat.ble vv (k.pos+off) with
      |false=>exact BW
      |true=>
       simp only [bw];simp only [fy] at BW ⊢;obtain⟨DI,DJ,g1,g2,g3,g4,jQ⟩:=BW;refine⟨DI,DJ,g1,g2,by simpa using g3,λi af=> ?_,jQ⟩;simp only [List.length_set] at af;by_cases Rx:k.pos+off-vv=i
       ·rw[Rx,dr,List.getElem?_set_self af]
        exact .cL _
       ·rw[dr,List.getElem?_set_ne Rx,<-dr]
        exact g4 i af
    ·rw[aO kM]
     exact⟨b5,hh,vu,hK.mono (λ_ _ h=>h) (pz _ wP)⟩
 ·intro j fE b5 fb p5 dG q1 aE b9 ey hv
  obtain⟨dD,ej,a3,a4,Ks,Ry,Rz⟩:=fN j b5 b9;obtain⟨jK,jY,rY,t_,GX,Kt,Ku⟩:=fN fb dG ey;exact hr.apart j fE dD fb p5 jK q1 aE ej jY (by rw[<-a3,<-rY];exact hv)
 ·intro j fE b5 fb p5 dG q1 aE b9 ey hv lJ
  obtain⟨dD,ej,a3,a4,Ks,Ry,Rz⟩:=fN j b5 b9;obtain⟨jK,jY,rY,t_,GX,Kt,Ku⟩:=fN fb dG ey;rw[a4,t_];exact hr.along j fE dD fb p5 jK q1 aE ej jY (by rw[<-a3,<-rY];exact hv) lJ
 ·intro j hj hl
  by_cases s6:j=b
  ·subst s6
   have:=GR j wO;omega
  ·rw[oq j s6,aO]
   intro kM;have:=GR j kM;omega
 ·intro j b5 hj qZ
  by_cases s6:j=b
  ·subst s6
   rw[ag] at hj;cases hj;rw[dC] at qZ;cases qZ
  ·rw[oq j s6]
   by_cases kM:j∈l
   ·rw[aN kM,hj]
    simp only [Option.map_some,cx];exact(zY _ _).2.2.2.2.2.1 qZ
   ·rw[aO kM];exact hj
 ·intro i af kL
  refine pz i λrZ=> ?_
  subst rZ;have:=kL b e k he rfl ag;rw[dC] at this;cases this
 ·refine⟨c'.getD (e.sh+off) undef,?_⟩
  simp only [World.cell?,h1];simp [show e.sh+off<c'.size by omega]
 ·have:=yz (e.sh+off) ao
  obtain⟨eY,af⟩:=jJ;simp only [World.frozen?,h1];simpa using this
end AE
namespace AE
variable [aY]
def a7 {α:Type} (P:aQ):Sem α->Option α
 | .pure a=>some a
 | .program k=>a7 P (k P)
 | .mark _ k=>a7 P k
 |_=>none
omit [aY] in
theorem jc {α:Type} {P:aQ} {s:Sem α} {a:α} (h:a7 P s=some a) (w:au):s.run P w= .ok a w:=by
 induction s with
 |pure b=>simp only [a7,cx] at h;subst h;rfl
 |program k cd=>exact cd P h
 |mark m k cd=>exact cd h
 |_=>cases h
def wQ:U->Bool
 | .agg _| .tuple _| .complex .f32 _ _=>false
 |_=>true
def cellsOf:U->Option (List U)
 | .agg ⟨l⟩=>some l
 | .tuple _| .complex .f32 _ _=>none
 |v=>some [v]
theorem aD.wQ {φ:bQ} {v aB:U} (h:aD φ v aB) (h1:wQ v=true):∀cs,aB≠.agg cs/\aB≠.tuple cs:=by
 intro cs;cases h
 case sym k=>exact aY.one k cs
 all_goals simp_all [AE.wQ,AE.cL]
theorem aD.cells {φ:bQ} {v aB:U} {l:List U} (h:aD φ v aB) (hl:cellsOf v=some l):
  l.length=aB.cells.size/\∀j,j<l.length->aD φ (l.getD j undef) (aB.cells.getD j undef):=by
 have one:∀{v aB:U},aD φ v aB->(∀cs,aB≠.agg cs)->l=[v]->l.length=aB.cells.size/\∀j,j<l.length->aD φ (l.getD j undef) (aB.cells.getD j undef):=by
  intro v aB h aq e;subst e;have:aB.cells= #[aB]:=by cases aB<;>first|rfl|exact absurd rfl (aq _)
  rw[this];refine⟨rfl,λj hj=> ?_⟩;have:j=0:=by simpa using hj
  subst this;simpa using h
 cases h with
 |cL=>cases hl
 |sym k=>exact one (.sym k) (λcs=>(aY.one k cs).1) (by simpa [cellsOf,aj] using hl.symm)
 |agg cs cs' h1 ae=>
  obtain⟨GY⟩:=cs;simp only [cellsOf,cx] at hl;subst hl;exact⟨by simpa [Value.cells] using h1,λj hj=>by simpa [Value.cells] using ae j (by simpa using hj)⟩
 |tuple=>cases hl
 |bool b=>exact one (.bool b) (λ_=>by simp) (by simpa [cellsOf] using hl.symm)
 |int k n=>exact one (.int k n) (λ_=>by simp) (by simpa [cellsOf] using hl.symm)
 |float k b=>exact one (.float k b) (λ_=>by simp) (by simpa [cellsOf] using hl.symm)
 |string s=>exact one (.string s) (λ_=>by simp) (by simpa [cellsOf] using hl.symm)
 |yv=>exact one .yv (λ_=>by simp) (by simpa [cellsOf] using hl.symm)
 |ptr h=>exact one (.ptr h) (λ_=>by simp) (by simpa [cellsOf] using hl.symm)
 |slnil a b=>exact one (.slnil a b) (λ_=>by simp) (by simpa [cellsOf] using hl.symm)
 |iB b h=>exact one (.iB b h) (λ_=>by simp) (by simpa [cellsOf] using hl.symm)
 |h_ n c h=>exact one (.h_ n c h) (λ_=>by simp) (by simpa [cellsOf] using hl.symm)
 |ia n c c' h a b d=>exact one (.ia n c c' h a b d) (λ_=>by simp) (by simpa [cellsOf] using hl.symm)
 |zV=>exact one .zV (λ_=>by simp) (by simpa [cellsOf] using hl.symm)
 |map h=>exact one (.map h) (λ_=>by simp) (by simpa [cellsOf] using hl.symm)
 |chan=>exact one .chan (λ_=>by simp) (by simpa [cellsOf] using hl.symm)
 |func fs j_ cs cs' a b c d e=>exact one (.func fs j_ cs cs' a b c d e) (λ_=>by simp) (by simpa [cellsOf] using hl.symm)
 |s3 h=>exact one (.s3 h) (λ_=>by simp) (by simpa [cellsOf] using hl.symm)
 |nilFunc=>exact one .nilFunc (λ_=>by simp) (by simpa [cellsOf] using hl.symm)
 |nilIface=>exact one .nilIface (λ_=>by simp) (by simpa [cellsOf] using hl.symm)
 |iface t h=>exact one (.iface t h) (λ_=>by simp) (by simpa [cellsOf] using hl.symm)
omit [aY] in
theorem Addr.jZ (b o i:Nat):(⟨b,o,none⟩:Addr).add i=⟨b,o+i,none⟩:=by
 unfold Go.Addr.add;split
 ·rename_i h;subst h;rfl
 ·rfl
def aW.q0 (A:aW) (b off n:Nat):Option (List U):=
 match A.bl.get b with
 |some {obj:= .cells c,..}=>bif Nat.ble (off+n) c.length then some ((c.drop off).take n) else none
 |_=>none
omit [aY] in
theorem z6 {A:aW} {b off n:Nat} {vs:List U} (h:A.q0 b off n=some vs):vs.length=n/\∀j,j<n->A.load b (off+j)=some (vs.getD j undef):=by
 unfold aW.q0 at h;unfold aW.load;cases ag:A.bl.get b with
 |none=>rw[ag] at h;cases h
 |some k=>
  rw[ag] at h;obtain⟨vt,cE,pos,st,ro,ty⟩:=k;cases vt with
  |map es eE=>cases h
  |fL x=>cases h
  |cells c=>
   simp only at h ⊢;cases ad:Nat.ble (off+n) c.length with
   |false=>rw[ad] at h;cases h
   |true=>
    rw[ad,bw,cx] at h;have hle:=Nat.ble_eq.mp ad;subst h;refine⟨by simp;omega,λj hj=> ?_⟩;rw[dr,List.getElem?_take,aN hj,List.getElem?_drop];rw[fP ao];rfl
theorem DK {φ:bQ} {A:aW} {w:au} (hr:bR φ A w) (P:aQ) {b off n:Nat} {vs:List U} {e:gZ} (h:A.q0 b off n=some vs) (he:φ b=some e):
  ∃de:Array U,(loadCells ⟨e.bf,e.sh+off,none⟩ n).run P w= .ok de w/\de.size=vs.length/\∀j,j<vs.length->aD φ (vs.getD j undef) (de.getD j undef):=by
 obtain⟨hl,hj⟩:=z6 h;have z7:∀j,j<n->∃aB,w.cell? ⟨e.bf,e.sh+off+j,none⟩=some aB/\aD φ (vs.getD j undef) aB:=λj ua=>by
  obtain⟨aB,h1,ae⟩:=tY hr (hj j ua) he;exact⟨aB,by rw[show e.sh+off+j=e.sh+(off+j) by omega];exact h1,ae⟩
 let f:Nat->U:=λj=>(w.cell? ⟨e.bf,e.sh+off+j,none⟩).getD undef
 have aP:∀j,j<n->w.cell? ((⟨e.bf,e.sh+off,none⟩:Addr).add j)=some (f j):=λj ua=>by
  obtain⟨aB,h1,_⟩:=z7 j ua;rw[Addr.jZ,h1];simp [f,h1]
 refine⟨_,run_loadCells _ _ n f aP,by simp [hl],λj ua=> ?_⟩;obtain⟨aB,h1,ae⟩:=z7 j ao;have:f j=aB:=by simp [f,h1]
 simp only [e5];simp [show j<n by omega,this];simpa using ae
def aW.p6:aW->Nat->Nat->List U->Option aW
 |A,_,_,[]=>some A
 |A,b,off,v::r=>bif wQ v then match A.store b off v with
    |some bt=>bt.p6 b (off+1) r
    |none=>none
  else none
omit [aY] in
theorem run_store {P:aQ} {w:au} {a:Addr} {v u:U} (aC:∀cs,v≠.agg cs/\v≠.tuple cs) (h1:w.cell? a=some u) (ae:w.frozen? a=false):(Go.store a v).run P w= .ok () (w.setCell a v):=by
 unfold Go.store;cases v<;>first|(exfalso;exact(aC _).1 rfl)|(exfalso;exact(aC _).2 rfl)|(simp [Sem.run,h1,ae])
theorem BX {φ:bQ} (P:aQ) {b:Nat} {e:gZ} (he:φ b=some e):∀(vs:List U) (A aV:aW) (w:au) (off i:Nat) (de:List U),bR φ A w->A.p6 b (off+i) vs=some aV->
  de.length=vs.length->(∀j,j<vs.length->aD φ (vs.getD j undef) (de.getD j undef))->
  ∃w',(storeCells ⟨e.bf,e.sh+off,none⟩ de i).run P w= .ok () w'/\cg φ A w φ aV w'
 |[],A,aV,w,off,i,de,hr,h,hl,aC=>by
  simp only [aW.p6,cx] at h;subst h;have:de=[]:=by simpa using hl
  subst this;exact⟨w,rfl,cg.refl hr⟩
 |v::r,A,aV,w,off,i,de,hr,h,hl,aC=>by
  cases de with
  |nil=>simp at hl
  |cons aB dY=>
   unfold aW.p6 at h;cases h1:AE.wQ v with
   |false=>rw[h1] at h;cases h
   |true=>
    rw[h1,bw] at h;cases av:A.store b (off+i) v with
    |none=>rw[av] at h;cases h
    |some bt=>
     rw[av] at h;simp only at h;have Kv:aD φ v aB:=by simpa using aC 0 (by simp)
     obtain⟨st,⟨u,hu⟩,yz⟩:=Rs hr av he Kv;rw[<-Nat.add_assoc] at st hu yz;obtain⟨w',DL,vw⟩:=BX P he r bt aV _ off (i+1) dY (by rw[Nat.add_assoc] at st;exact st.rel) (by rw[<-Nat.add_assoc];exact h) (by simpa using hl) (λj hj=>by simpa using aC (j+1) (by simpa using hj));refine⟨w',?_,?_⟩
     ·unfold storeCells
      rw[Addr.jZ];simp only [Sem.run_bind,run_store (Kv.wQ h1) hu yz,Result.andThen_ok];rw[Nat.add_assoc];exact DL
     ·exact cg.trans hr (by rw[Nat.add_assoc] at st;exact st) vw
theorem BY {φ:bQ} {A aV:aW} {w:au} (hr:bR φ A w) (P:aQ) {c:List U} {c':Array U} {r st:Nat} (t:aH) (hp:A.push (.cells c) st t=some (r,aV)) (hl:c.length<=c'.size) (ak:st=0->c.length=c'.size)
  (aC:∀j,j<c.length->aD φ (c.getD j undef) (c'.getD j undef)):
  ∃cR w',(newRow t c').run P w= .ok ⟨w.heap.size,0,none⟩ w'/\cR r=some ⟨w.heap.size,0,st,c'.size⟩/\cg φ A w cR aV w'/\w'={w with heap:=w.heap.push (.cells c' t)}:=by
 have RA:=(hr.wf.push hp).2.1;have hmono:∀b e,φ b=some e->gG φ r ⟨w.heap.size,0,st,c'.size⟩ b=some e:=λb e ad=>by
  unfold gG;rw[aO (by have:=hr.lt ad;omega)];exact ad
 refine⟨gG φ r ⟨w.heap.size,0,st,c'.size⟩,{w with heap:=w.heap.push (.cells c' t)},?_,by simp [gG],?_,rfl⟩
 ·simp [newRow,newObj,Sem.run]
 ·refine BV hr hp J J ?_
  simp only [fy];refine⟨c',(0,0),by simp,rfl,by simp;exact⟨hl,ak⟩,λj hj=> ?_,λ_ i _=>by simp⟩;simp only [Nat.zero_add];exact(aC j hj).mono hmono
end AE
namespace AE
variable [aY]
mutual
theorem aD.kN {φ:bQ}:∀(v:U) {aB:U},plain v=true->aD φ v aB->aB=v
 | .bool b,_,_,h=>by cases h;rfl
 | .int k n,_,_,h=>by cases h;rfl
 | .float k b,_,_,h=>by cases h;rfl
 | .string s,_,_,h=>by cases h;rfl
 | .pointer none,_,_,h=>by cases h;rfl
 | .map none,_,_,h=>by cases h;rfl
 | .chan none,_,_,h=>by cases h;rfl
 | .nilFunc,_,_,h=>by cases h;rfl
 | .nilIface,_,_,h=>by cases h;rfl
 | .slice none l c,_,_,h=>by cases h;rfl
 | .func (.func f) ⟨[]⟩ ⟨[]⟩,_,_,h=>by
     cases h with
     |func fs j_ cs cs' aq h1 ae aP al=>
      have e1:j_= #[]:=Array.eq_empty_of_size_eq_zero h1.symm;have e2:cs'= #[]:=Array.eq_empty_of_size_eq_zero ae.symm;rw[e1,e2]
 | .iface t v,_,hp,h=>by
     cases h with
     |iface t h=>rw[aD.kN v (by simpa [plain] using hp) h]
 | .agg ⟨l⟩,_,hp,h=>by
     cases h with
     |agg cs cs' h1 ae=>
      obtain⟨l'⟩:=cs';rw[aD.DM l l' (by simpa [plain] using hp) (by simpa using h1) (λi af=>by simpa using ae i (by simpa using af))]
 | .tuple ⟨l⟩,_,hp,h=>by
     cases h with
     |tuple cs cs' h1 ae=>
      obtain⟨l'⟩:=cs';rw[aD.DM l l' (by simpa [plain] using hp) (by simpa using h1) (λi af=>by simpa using ae i (by simpa using af))]
theorem aD.DM {φ:bQ}:∀(l l':List U),om l=true->l.length=l'.length->(∀i,i<l.length->aD φ (l.getD i Go.undef) (l'.getD i Go.undef))->l'=l
 |[],[],_,_,_=>rfl
 |[],_::_,_,h,_=>by simp at h
 |_::_,[],_,h,_=>by simp at h
 |v::r,aB::dY,hp,hl,h=>by
   have h1:=aD.kN v (by simp [om] at hp;exact hp.1) (by simpa using h 0 (by simp));have ae:=aD.DM r dY (by simp [om] at hp;exact hp.2) (by simpa using hl) (λi af=>by simpa using h (i+1) (by simpa using af));rw[h1,ae]
end
def bU {α:Type} (R:bQ->α->Prop) (P:aQ) (φ:bQ) (A:aW) (w:au) (s:Sem α) (aV:aW):Prop:=
 ∃cR w' a,s.run P w= .ok a w'/\R cR a/\cg φ A w cR aV w'
theorem bU.pure_run {α:Type} {R:bQ->α->Prop} {P:aQ} {φ:bQ} {A:aW} {w:au} (hr:bR φ A w) {s:Sem α} {a:α} (h:a7 P s=some a) (hx:R φ a):bU R P φ A w s A:=
 ⟨φ,w,a,jc h w,hx,cg.refl hr⟩
theorem bU.bind {α eI:Type} {R:bQ->α->Prop} {S:bQ->eI->Prop} {P:aQ} {φ:bQ} {A bt eH:aW} {w:au} (hr:bR φ A w) {s:Sem α} {k:α->Sem eI} (h:bU R P φ A w s bt)
  (ag:∀fY w1 a,bR fY bt w1->(∀b e,φ b=some e->fY b=some e)->R fY a->bU S P fY bt w1 (k a) eH):bU S P φ A w (s >>= k) eH:=by
 obtain⟨fY,w1,a,h1,ae,ay⟩:=h;obtain⟨e_,w2,b,g1,g2,g3⟩:=ag fY w1 a ay.rel (ay.ext hr) ae;exact⟨e_,w2,b,by rw[Sem.run_bind,h1];exact g1,g2,cg.trans hr ay g3⟩
theorem bU.map {α eI:Type} {R:bQ->α->Prop} {S:bQ->eI->Prop} {P:aQ} {φ:bQ} {A bt:aW} {w:au} {s:Sem α} {f:α->eI} (h:bU R P φ A w s bt) (aP:∀φ a,R φ a->S φ (f a)):bU S P φ A w (s >>= λa=>pure (f a)) bt:=by
 obtain⟨fY,w1,a,h1,ae,ay⟩:=h;exact⟨fY,w1,f a,by rw[Sem.run_bind,h1];rfl,aP _ _ ae,ay⟩
theorem bU.pre {α eI:Type} {S:bQ->eI->Prop} {P:aQ} {φ:bQ} {A eH:aW} {w:au} {s:Sem α} {a:α} {k:α->Sem eI} (h:a7 P s=some a) (ag:bU S P φ A w (k a) eH):bU S P φ A w (s >>= k) eH:=by
 obtain⟨e_,w2,b,g1,g2,g3⟩:=ag;exact⟨e_,w2,b,by rw[Sem.run_bind,jc h w];exact g1,g2,g3⟩
theorem bU.ret {α:Type} {R:bQ->α->Prop} {P:aQ} {φ:bQ} {A:aW} {w:au} (hr:bR φ A w) {a:α} (hx:R φ a):bU R P φ A w (pure a) A:=⟨φ,w,a,rfl,hx,cg.refl hr⟩
abbrev g' (v:U):bQ->U->Prop:=λφ aB=>aD φ v aB
abbrev hy (l:List U):bQ->Array U->Prop:=λφ a=>a.size=l.length/\∀j,j<l.length->aD φ (l.getD j undef) (a.getD j undef)
section
variable {P:aQ} {φ:bQ} {A aV:aW} {w:au}
theorem RB (hr:bR φ A w) {b off n:Nat} {vs:List U} {e:gZ} (h:A.q0 b off n=some vs) (he:φ b=some e):bU (hy vs) P φ A w (loadCells ⟨e.bf,e.sh+off,none⟩ n) A:=by
 obtain⟨de,h1,ae,ay⟩:=DK hr P h he;exact⟨φ,w,de,h1,⟨ae,ay⟩,cg.refl hr⟩
def BZ (P:aQ) (A:aW) (t:aH):U->Option U
 | .pointer (some ⟨b,off,none⟩)=>match a7 P (isAgg t) with
   |some true=>match a7 P (sizeOf t) with
    |some n=>(A.q0 b off n).map λl=> .agg ⟨l⟩
    |none=>none
   |some false=>A.load b off
   |none=>none
 |_=>none
theorem aat (hr:bR φ A w) {t:aH} {p p' v:U} (hp:aD φ p p') (h:BZ P A t p=some v):bU (g' v) P φ A w (Instr.loadAt t p') A:=by
 unfold BZ at h;split at h
 ·rename_i b off
  cases hp with
  |ptr he=>
   unfold Instr.loadAt;refine bU.pre (a:=(⟨_,_,none⟩:Addr)) rfl ?_;unfold loadVar;cases pA:a7 P (isAgg t) with
   |none=>rw[pA] at h;cases h
   |some DN=>
    rw[pA] at h;refine bU.pre pA ?_;cases DN with
    |false=>
     simp only at h;obtain⟨aB,h1,ae⟩:=tY hr h he;refine⟨φ,w,aB,?_,ae,cg.refl hr⟩;simp [Go.load,Sem.run,h1]
    |true=>
     simp only at h;cases cb:a7 P (sizeOf t) with
     |none=>rw[cb] at h;cases h
     |some n=>
      rw[cb] at h;simp only at h;obtain⟨l,hl,rfl⟩:=Option.map_eq_some_iff.1 h;simp only [if_true];refine bU.pre cb ?_;refine bU.map (RB hr hl he) λφ a ⟨h1,ae⟩=> ?_
      exact .agg _ _ (by simp [h1]) λi af=>by simpa using ae i (by simpa using af)
 ·cases h
def Kw (P:aQ) (A:aW) (t:aH) (v:U):U->Option aW
 | .pointer (some ⟨b,off,none⟩)=>match cellsOf v,a7 P (sizeOf t) with
   |some l,some n=>bif Nat.beq l.length n then A.p6 b off l else none
   |_,_=>none
 |_=>none
theorem aau (hr:bR φ A w) {t:aH} {b off:Nat} {e:gZ} {v aB:U} (he:φ b=some e) (aC:aD φ v aB) {l:List U} {n:Nat} (hl:cellsOf v=some l) (aq:a7 P (sizeOf t)=some n)
  (akY:l.length=n) (h:A.p6 b off l=some aV):bU (λ_ _=>True) P φ A w (storeVar t ⟨e.bf,e.sh+off,none⟩ aB) aV:=by
 obtain⟨ez,c2⟩:=aC.cells hl;unfold storeVar;refine bU.pre aq ?_;rw[aO ao];obtain⟨w',h1,ae⟩:=BX P he l A aV w off 0 aB.cells.toList hr h (by simpa using ez.symm) (λj hj=>by
  have:=c2 j hj;simp only [e5] at this
  simpa [dr] using this)
 refine⟨φ,w',(),?_,trivial,ae⟩;simpa using h1
theorem aav (hr:bR φ A w) {t:aH} {p p' v aB:U} (hp:aD φ p p') (aC:aD φ v aB) (h:Kw P A t v p=some aV):bU (λ_ _=>True) P φ A w (Instr.storeAt t p' aB) aV:=by
 unfold Kw at h;split at h
 ·rename_i b off
  split at h
  ·rename_i l n hl aq
   cases ad:Nat.beq l.length n with
   |false=>rw[ad] at h;cases h
   |true=>
    rw[ad,bw] at h;cases hp with
    |ptr he=>
     unfold Instr.storeAt;refine bU.pre (a:=(⟨_,_,none⟩:Addr)) rfl ?_;exact aau hr he aC hl aq (ct ad) h
  ·cases h
 ·cases h
def GZ (A:aW) (t:aH) (v:U):Option (U×aW):=
 match cellsOf v with
 |some l=>match A.push (.cells l) 0 t with
  |some (r,bt)=>some (.pointer (some ⟨r,0,none⟩),bt)
  |none=>none
 |none=>none
theorem RC (hr:bR φ A w) {t:aH} {v aB p:U} (aC:aD φ v aB) (h:GZ A t v=some (p,aV)):bU (g' p) P φ A w (do pure (.pointer (some (<-newVar t aB)))) aV:=by
 unfold GZ at h;cases hl:cellsOf v with
 |none=>rw[hl] at h;cases h
 |some l=>
  rw[hl] at h;simp only at h;cases hp:A.push (.cells l) 0 t with
  |none=>rw[hp] at h;cases h
  |some q=>
   obtain⟨r,bt⟩:=q;rw[hp] at h;simp only [cx,Prod.mk.injEq] at h;obtain⟨rfl,rfl⟩:=h;obtain⟨ez,c2⟩:=aC.cells hl;obtain⟨cR,w',h1,ae,ay,_⟩:=BY hr P t hp (Nat.le_of_eq ez) (λ_=>ez) c2;refine⟨cR,w',_,by rw[Sem.run_bind,newVar,h1];rfl,?_,ay⟩;have:=aD.ptr (φ:=cR) (b:=r) (o:=0) ae;simpa using this
def Kx (P:aQ) (A:aW) (t:aH):Option (U×aW):=
 match a7 P (zeroValue t) with
 |some z=>bif plain z then GZ A t z else none
 |none=>none
theorem aaw (hr:bR φ A w) {t:aH} {p old:U} (h:Kx P A t=some (p,aV)):bU (g' p) P φ A w (Instr.alloc t true old) aV:=by
 unfold Kx at h;cases bG:a7 P (zeroValue t) with
 |none=>rw[bG] at h;cases h
 |some z=>
  rw[bG] at h;simp only at h;cases hp:plain z with
  |false=>rw[hp] at h;cases h
  |true=>
   rw[hp,bw] at h;unfold Instr.alloc;refine bU.pre bG ?_;exact RC hr (aD.ku φ z hp) h
def DO (P:aQ) (s:aH) (f:Nat):U->Option U
 | .pointer (some ⟨b,off,none⟩)=>match a7 P (underlying s) with
   |some (.struct fields)=>match fields[f]? with
    |some hz=>match a7 P (sizeOf hz.type) with
     |some n=>bif n==0 then none else some (.pointer (some ⟨b,off+hz.offset,none⟩))
     |none=>none
    |none=>none
   |_=>none
 |_=>none
theorem RD {s:aH} {f:Nat} {p p' v:U} (hp:aD φ p p') (h:DO P s f p=some v):∃aB,(∀w,(Instr.fieldAt s p' f).run P w= .ok aB w)/\aD φ v aB:=by
 unfold DO at h;split at h
 ·rename_i b off
  split at h
  ·rename_i fields hu
   split at h
   ·rename_i hz aP
    split at h
    ·rename_i n aq
     cases aJ:(n==0) with
     |true=>rw[aJ] at h;cases h
     |false=>
      rw[aJ,ei,cx] at h;subst h;cases hp with
      |ptr he=>
       rename_i e;refine⟨.pointer (some ⟨e.bf,e.sh+(off+hz.offset),none⟩),λw=> ?_,.ptr he⟩;unfold Instr.fieldAt;have cC:n≠0:=by simpa using aJ
       rw[Sem.run_bind,jc hu w];simp only [Result.andThen_ok,aP];rw[Sem.run_bind];have e1:(Instr.sureAddr (.pointer (some ⟨e.bf,e.sh+off,none⟩))).run P w= .ok ⟨e.bf,e.sh+off,none⟩ w:=rfl;rw[e1];unfold fieldPlace;simp only [Sem.run_bind,jc aq w,Result.andThen_ok,aO cC,Addr.jZ];rw[Nat.add_assoc];rfl
    ·cases h
   ·cases h
  ·cases h
 ·cases h
theorem aax (hr:bR φ A w) {s:aH} {f:Nat} {p p' v:U} (hp:aD φ p p') (h:DO P s f p=some v):bU (g' v) P φ A w (Instr.fieldAt s p' f) A:=by
 obtain⟨aB,h1,ae⟩:=RD hp h;exact⟨φ,w,aB,h1 w,ae,cg.refl hr⟩
def DP (P:aQ) (t:aH) (x:U) (i:U):Option U:=
 match i with
 | .int _ i=>match a7 P (underlying t),x with
   |some (.array len elem),.pointer (some ⟨b,off,none⟩)=>match a7 P (sizeOf elem) with
    |some n=>bif decide (0<=i)&&decide (i<(len:Int)) then some (.pointer (some ⟨b,off+i.toNat*n,none⟩)) else none
    |none=>none
   |some (.slice elem),.slice (some ⟨b,off,none⟩) len _=>match a7 P (sizeOf elem) with
    |some n=>bif decide (0<=i)&&decide (i<(len:Int)) then some (.pointer (some ⟨b,off+i.toNat*n,none⟩)) else none
    |none=>none
   |_,_=>none
 |_=>none
theorem RE {t:aH} {x x' i v:U} (ak:aD φ x x') (h:DP P t x i=some v):∃aB,(∀w,(Instr.indexAt t x' i).run P w= .ok aB w)/\aD φ v aB:=by
 unfold DP at h;split at h
 ·rename_i k i
  unfold Instr.indexAt;have bk:∀w,(asIntOf (.int k i)).run P w= .ok (k,i) w:=λw=>rfl
  have e1:∀w,∀a:Addr,(pure a:Sem Addr).run P w= .ok a w:=λ_ _=>rfl
  split at h
  ·rename_i len elem b off hu
   split at h
   ·rename_i n aq
    cases ad:(decide (0<=i)&&decide (i<(len:Int))) with
    |false=>rw[ad] at h;cases h
    |true=>
     rw[ad,bw,cx] at h;subst h;have yA:0<=i/\i<(len:Int):=by simpa using ad
     cases ak with
     |ptr he=>
      rename_i e;refine⟨.pointer (some ⟨e.bf,e.sh+(off+i.toNat*n),none⟩),λw=> ?_,.ptr he⟩;simp only [Sem.run_bind,bk,jc hu w,Result.andThen_ok,Instr.sureAddr];simp [yA,jc aq w,jc hu w,Addr.jZ,Nat.add_assoc,e1]
   ·cases h
  ·rename_i elem b off len cap hu
   split at h
   ·rename_i n aq
    cases ad:(decide (0<=i)&&decide (i<(len:Int))) with
    |false=>rw[ad] at h;cases h
    |true=>
     rw[ad,bw,cx] at h;subst h;have yA:0<=i/\i<(len:Int):=by simpa using ad
     cases ak with
     |h_ fz c' he=>
      rename_i e;refine⟨.pointer (some ⟨e.bf,e.sh+(off+i.toNat*n),none⟩),λw=> ?_,.ptr he⟩;simp [bk,yA,jc aq w,jc hu w,Addr.jZ,Nat.add_assoc]
     |ia fz ez c2 he q1 aE b9=>
      rename_i e;refine⟨.pointer (some ⟨e.bf,e.sh+(off+i.toNat*n),none⟩),λw=> ?_,.ptr he⟩;simp [bk,yA,jc aq w,jc hu w,Addr.jZ,Nat.add_assoc]
     |iB=>omega
   ·cases h
  ·cases h
 ·cases h
theorem aay (hr:bR φ A w) {t:aH} {x x' i v:U} (ak:aD φ x x') (h:DP P t x i=some v):bU (g' v) P φ A w (Instr.indexAt t x' i) A:=by
 obtain⟨aB,h1,ae⟩:=RE ak h;exact⟨φ,w,aB,h1 w,ae,cg.refl hr⟩
end
end AE
namespace AE
variable [aY]
omit [aY] in
theorem r0 {α eI:Type} (P:aQ) (s:Sem α) (k:α->Sem eI):a7 P (s >>= k)=(a7 P s).bind λa=>a7 P (k a):=by
 show a7 P (s.bind k)=_
 induction s with
 |pure a=>rfl
 |program f cd=>exact cd P
 |mark m s cd=>exact cd
 |_=>rfl
omit [aY] in
theorem DQ {α:Type} (P:aQ) (a:α):a7 P (pure a:Sem α)=some a:=rfl
section
variable {P:aQ} {φ:bQ} {A aV:aW} {w:au}
def G0 (P:aQ) (t:aH) (cs:List U) (off:Nat):Option U:=
 match a7 P (isAgg t) with
 |some true=>match a7 P (sizeOf t) with
  |some n=>some (.agg ⟨(cs.drop off).take n⟩)
  |none=>none
 |some false=>cs[off]?
 |none=>none
theorem RF (hr:bR φ A w) {t:aH} {cs:List U} {cs':Array U} {off:Nat} {v:U} (al:hy cs φ cs') (h:G0 P t cs off=some v):bU (g' v) P φ A w (part t cs' off) A:=by
 obtain⟨hl,aC⟩:=al;unfold G0 at h;unfold part;cases pA:a7 P (isAgg t) with
 |none=>rw[pA] at h;cases h
 |some DN=>
  rw[pA] at h;refine bU.pre pA ?_;cases DN with
  |false=>
   simp only at h;obtain⟨b8,Kv⟩:=List.getElem?_eq_some_iff.1 h;have q2:off<cs'.size:=by omega
   refine⟨φ,w,cs'[off],by simp [q2,Sem.run,pure],?_,cg.refl hr⟩;have:=aC off b8;rw[dr,h] at this;simpa [q2] using this
  |true=>
   simp only at h;cases cb:a7 P (sizeOf t) with
   |none=>rw[cb] at h;cases h
   |some n=>
    rw[cb] at h;simp only [cx] at h;subst h;simp only [if_true];refine bU.pre cb (bU.ret hr (.agg _ _ (by simp [hl];omega) λi af=> ?_));simp at af;have:=aC (off+i) ao;simp only [e5,dr,Array.getElem?_extract] at this ⊢;rw[aN ao,List.getElem?_toArray,List.getElem?_take,aN ao,List.getElem?_drop];exact this
def Ky (P:aQ) (s:aH) (x:U) (f:Nat):Option U:=
 match x,a7 P (underlying s) with
 | .agg ⟨cs⟩,some (.struct fields)=>match fields[f]? with
   |some hz=>G0 P hz.type cs hz.offset
   |none=>none
 |_,_=>none
theorem aaz (hr:bR φ A w) {s:aH} {f:Nat} {x x' v:U} (ak:aD φ x x') (h:Ky P s x f=some v):bU (g' v) P φ A w (Instr.field s x' f) A:=by
 unfold Ky at h;split at h
 ·rename_i cs fields hu
  split at h
  ·rename_i hz aP
   cases ak with
   |agg DR cs' h1 ae=>
    unfold Instr.field;refine bU.pre hu ?_;simp only [aP];refine bU.pre (a:=cs') rfl ?_;exact RF hr ⟨by simpa using h1.symm,λj hj=>by simpa using ae j (by simpa using hj)⟩ h
  ·cases h
 ·cases h
def Kz (P:aQ) (t:aH) (x i:U):Option U:=
 match x,i,a7 P (underlying t) with
 | .agg ⟨cs⟩,.int _ i,some (.array len elem)=>match a7 P (sizeOf elem) with
   |some n=>bif decide (0<=i)&&decide (i<(len:Int)) then G0 P elem cs (i.toNat*n) else none
   |none=>none
 |_,_,_=>none
theorem aaA (hr:bR φ A w) {t:aH} {x x' i v:U} (ak:aD φ x x') (h:Kz P t x i=some v):bU (g' v) P φ A w (Instr.index t x' i) A:=by
 unfold Kz at h;split at h
 ·rename_i cs k i len elem hu
  split at h
  ·rename_i n aq
   cases ad:(decide (0<=i)&&decide (i<(len:Int))) with
   |false=>rw[ad] at h;cases h
   |true=>
    rw[ad,bw] at h;have yA:0<=i/\i<(len:Int):=by simpa using ad
    cases ak with
    |agg DR cs' h1 ae=>
     unfold Instr.index;refine bU.pre (a:=(k,i)) rfl ?_;simp only;refine bU.pre hu ?_;simp only [aN yA];refine bU.pre aq ?_;exact RF hr ⟨by simpa using h1.symm,λj hj=>by simpa using ae j (by simpa using hj)⟩ h
  ·cases h
 ·cases h
def DS:U->Nat->Option U
 | .tuple ⟨cs⟩,i=>cs[i]?
 |_,_=>none
theorem aaB (hr:bR φ A w) {x x' v:U} {i:Nat} (ak:aD φ x x') (h:DS x i=some v):bU (g' v) P φ A w (Instr.extract x' i) A:=by
 unfold DS at h;split at h
 ·rename_i cs
  cases ak with
  |tuple DR cs' h1 ae=>
   obtain⟨b8,_⟩:=List.getElem?_eq_some_iff.1 h;have RG:cs.length=cs'.size:=by simpa using h1
   have q2:i<cs'.size:=by omega
   refine⟨φ,w,cs'[i],by simp [Instr.extract,q2,Sem.run,pure],?_,cg.refl hr⟩;have:=ae i (by simpa using b8);simp only [e5,List.getElem?_toArray,h,Option.getD_some] at this;simpa [q2] using this
 ·cases h
theorem RH (off:Nat):∀(l l':List U) (k:Nat) (c c':Array U),l.length=l'.length->(∀j,j<l.length->aD φ (l.getD j undef) (l'.getD j undef))->c.size=c'.size->(∀j,j<c.size->aD φ (c.getD j undef) (c'.getD j undef))->
  ((l.zipIdx k).foldl (λcs (x:U×Nat)=>cs.setIfInBounds (off+x.2) x.1) c).size=((l'.zipIdx k).foldl (λcs (x:U×Nat)=>cs.setIfInBounds (off+x.2) x.1) c').size/\
  ∀j,j<((l.zipIdx k).foldl (λcs (x:U×Nat)=>cs.setIfInBounds (off+x.2) x.1) c).size->aD φ (((l.zipIdx k).foldl (λcs (x:U×Nat)=>cs.setIfInBounds (off+x.2) x.1) c).getD j undef) (((l'.zipIdx k).foldl (λcs (x:U×Nat)=>cs.setIfInBounds (off+x.2) x.1) c').getD j undef)
 |[],[],_,c,c',_,_,h1,ae=>⟨h1,ae⟩
 |[],_::_,_,_,_,h,_,_,_=>by simp at h
 |_::_,[],_,_,_,h,_,_,_=>by simp at h
 |v::r,aB::dY,k,c,c',hl,aC,h1,ae=>by
  simp only [List.zipIdx_cons,List.foldl_cons];refine RH off r dY (k+1) _ _ (by simpa using hl) (λj hj=>by simpa using aC (j+1) (by simpa using hj)) (by simpa using h1) λj hj=> ?_
  have aJ:aD φ v aB:=by simpa using aC 0 (by simp)
  simp only [Array.size_setIfInBounds] at hj;have:=ae j hj;simp only [e5,Array.getElem?_setIfInBounds] at this ⊢;by_cases ag:off+k=j
  ·rw[aN ag,aN ag,aN ao,aN ao]
   exact aJ
  ·rw[aO ag,aO ag]
   exact this
omit [aY] in
theorem RI {v:U} {l:List U} (h:cellsOf v=some l):v.cells=⟨l⟩:=by
 cases v<;>simp_all [cellsOf,Value.cells]
 case complex k re akZ=>cases k<;>simp_all
 case agg cs=>obtain⟨cs⟩:=cs;simp [cellsOf] at h;rw[h]
def RJ (φ:bQ) (p p':Nat×U):Prop:=p.1=p'.1/\(cellsOf p.2).isSome=true/\aD φ p.2 p'.2
theorem KA (place:Nat->Option (Nat×Nat)):∀(ps KB:List (Nat×U)) (c c' out:Array U),ps.length=KB.length->(∀(j:Nat) (a b:Nat×U),ps[j]? =some a->KB[j]? =some b->RJ φ a b)->c.size=c'.size->(∀j,j<c.size->aD φ (c.getD j undef) (c'.getD j undef))->
  Instr.fill place c ps=some out->∃s7,Instr.fill place c' KB=some s7/\out.size=s7.size/\∀j,j<out.size->aD φ (out.getD j undef) (s7.getD j undef)
 |[],[],c,c',out,_,_,h1,ae,h=>by
  simp only [Instr.fill,cx] at h;subst h;exact⟨c',rfl,h1,ae⟩
 |[],_::_,_,_,_,h,_,_,_,_=>by simp at h
 |_::_,[],_,_,_,h,_,_,_,_=>by simp at h
 |(i,v)::r,(q3,aB)::dY,c,c',out,hl,hp,h1,ae,h=>by
  obtain⟨e1,e2,dH⟩:=hp 0 _ _ J J;simp only at e1 e2 dH;subst e1;obtain⟨l,lK⟩:=Option.isSome_iff_exists.1 e2;obtain⟨ez,c2⟩:=dH.cells lK;have DT:v.cells=⟨l⟩:=RI lK;unfold Instr.fill at h ⊢;cases fF:place i with
  |none=>rw[fF] at h;cases h
  |some os=>
   obtain⟨off,size⟩:=os;rw[fF] at h;simp only at h ⊢;have gv:v.cells.size=aB.cells.size:=by rw[DT];simpa using ez
   split at h
   ·cases h
   ·rename_i aq
    rw[aO (by rw[<-gv,<-h1];exact aq)];have key:=RH (φ:=φ) off l aB.cells.toList 0 c c' (by simpa using ez) (λj hj=>by simpa [e5,dr] using c2 j hj) h1 ae;refine KA place r dY _ _ out (by simpa using hl) (λj a b ha ad=>hp (j+1) a b (by simpa using ha) (by simpa using ad)) ?_ ?_ h
    ·rw[DT,<-Array.foldl_toList,<-Array.foldl_toList,Array.toList_zipIdx,Array.toList_zipIdx]
     exact key.1
    ·rw[DT,<-Array.foldl_toList,<-Array.foldl_toList,Array.toList_zipIdx,Array.toList_zipIdx]
     exact key.2
def DU (ps:Array (Nat×U)):Bool:=ps.toList.all λp=>(cellsOf p.2).isSome
theorem RK {ps:Array (Nat×Operand)} {ρ ρ':Operand->U} (cJ:∀p∈ps,aD φ (ρ p.2) (ρ' p.2)) (hM:DU (ps.map λ(i,x)=>(i,ρ x))=true):
  ∀(j:Nat) (a b:Nat×U),((ps.map λ(i,x)=>(i,ρ x)).toList)[j]? =some a->((ps.map λ(i,x)=>(i,ρ' x)).toList)[j]? =some b->RJ φ a b:=by
 intro j a b ha ad;have mP:=List.mem_of_getElem? ha;simp only [Array.toList_map,List.getElem?_map,wL] at ha ad;obtain⟨p,hp,rfl⟩:=ha;obtain⟨p',B0,rfl⟩:=ad;rw[hp] at B0;cases B0;refine⟨rfl,?_,cJ p (by simpa using List.mem_of_getElem? hp)⟩;exact List.all_eq_true.1 hM _ mP
def KC (P:aQ) (t:aH) (parts:Array (Nat×U)):Option U:=
 bif DU parts then
  match a7 P (zeroValue t) with
  |some z=>bif plain z&&(cellsOf z).isSome then
    match a7 P (underlying t) with
    |some (.struct fields)=>match a7 P (fields.mapM λf=>do pure (f.offset,<-sizeOf f.type)) with
     |some RL=>(Instr.fill (RL[·]?) z.cells parts.toList).map .agg
     |none=>none
    |some (.array _ elem)=>match a7 P (sizeOf elem) with
     |some size=>(Instr.fill (λi=>some (i*size,size)) z.cells parts.toList).map .agg
     |none=>none
    |_=>none
   else none
  |none=>none
 else none
theorem G1 {z:U} (h:plain z=true) (al:(cellsOf z).isSome=true) (φ:bQ):∀j,j<z.cells.size->aD φ (z.cells.getD j undef) (z.cells.getD j undef):=by
 obtain⟨l,hl⟩:=Option.isSome_iff_exists.1 al;obtain⟨h1,ae⟩:=(aD.ku φ z h).cells hl;intro j hj;have DT:z.cells=⟨l⟩:=RI hl;have:=ae j ao;simp only [DT] at this ⊢;simpa [e5,dr] using this
theorem aaC (hr:bR φ A w) {t:aH} {ps:Array (Nat×Operand)} {ρ ρ':Operand->U} {v:U} (cJ:∀p∈ps,aD φ (ρ p.2) (ρ' p.2)) (h:KC P t (ps.map λ(i,x)=>(i,ρ x))=some v):
  bU (g' v) P φ A w (Instr.build t (ps.map λ(i,x)=>(i,ρ' x))) A:=by
 unfold KC at h;cases hM:DU (ps.map λ(i,x)=>(i,ρ x)) with
 |false=>rw[hM] at h;cases h
 |true=>
  rw[hM,bw] at h;have KD:=RK cJ hM;cases bG:a7 P (zeroValue t) with
  |none=>rw[bG] at h;cases h
  |some z=>
   rw[bG] at h;simp only at h;cases kO:(plain z&&(cellsOf z).isSome) with
   |false=>rw[kO] at h;cases h
   |true=>
    rw[kO,bw] at h;simp only [c0] at kO;have pB:=G1 kO.1 kO.2 φ;unfold Instr.build;refine bU.pre bG ?_;simp only;have fG:∀(place:Nat->Option (Nat×Nat)),(Instr.fill place z.cells (ps.map λ(i,x)=>(i,ρ x)).toList).map Value.agg=some v->
      ∃s7,Instr.fill place z.cells (ps.map λ(i,x)=>(i,ρ' x)).toList=some s7/\aD φ v (.agg s7):=by
     intro place aP;obtain⟨out,ho,rfl⟩:=Option.map_eq_some_iff.1 aP;obtain⟨s7,g1,g2,g3⟩:=KA place _ _ _ _ out (by simp) KD rfl pB ho;exact⟨s7,g1,.agg _ _ g2 g3⟩
    split at h
    ·rename_i fields hu
     refine bU.pre hu ?_;simp only;split at h
     ·rename_i RL fF
      refine bU.pre fF ?_;obtain⟨s7,g1,g2⟩:=fG _ h;simp only [g1];exact bU.ret hr g2
     ·cases h
    ·rename_i n elem hu
     refine bU.pre hu ?_;simp only;split at h
     ·rename_i size cb
      refine bU.pre cb ?_;obtain⟨s7,g1,g2⟩:=fG _ h;simp only [g1];exact bU.ret hr g2
     ·cases h
    ·cases h
def KE (P:aQ) (A:aW) (t:aH) (len:Nat) (parts:Array (Nat×U)):Option (U×aW):=
 bif DU parts then
  match a7 P (underlying t) with
  |some (.slice elem)=>match a7 P (sizeOf elem) with
   |some size=>bif Nat.blt 0 (len*size)&&Nat.ble (len*size) 16777216 then
     match a7 P (zeroValue elem) with
     |some z=>bif plain z&&(cellsOf z).isSome&&Nat.blt 0 z.cells.size then
       match Instr.fill (λi=>some (i*size,size)) ((Array.range (len*size)).map (z.cells[· %z.cells.size]!)) parts.toList with
       |some out=>match A.push (.cells out.toList) 0 elem with
        |some (r,bt)=>some (.slice (some ⟨r,0,none⟩) len len,bt)
        |none=>none
       |none=>none
      else none
     |none=>none
    else none
   |none=>none
  |_=>none
 else none
theorem aaD (hr:bR φ A w) {t:aH} {len:Nat} {ps:Array (Nat×Operand)} {ρ ρ':Operand->U} {v:U} (cJ:∀p∈ps,aD φ (ρ p.2) (ρ' p.2)) (h:KE P A t len (ps.map λ(i,x)=>(i,ρ x))=some (v,aV)):
  bU (g' v) P φ A w (Instr.buildSlice t len (ps.map λ(i,x)=>(i,ρ' x))) aV:=by
 unfold KE at h;cases hM:DU (ps.map λ(i,x)=>(i,ρ x)) with
 |false=>rw[hM] at h;cases h
 |true=>
  rw[hM,bw] at h;have KD:=RK cJ hM;split at h
  ·rename_i elem hu
   split at h
   ·rename_i size cb
    cases ad:(Nat.blt 0 (len*size)&&Nat.ble (len*size) 16777216) with
    |false=>rw[ad] at h;cases h
    |true=>
     rw[ad,bw] at h;simp only [c0] at ad;have lo:=Nat.blt_eq.mp ad.1;have kP:=Nat.ble_eq.mp ad.2;split at h
     ·rename_i z bG
      cases kO:(plain z&&(cellsOf z).isSome&&Nat.blt 0 z.cells.size) with
      |false=>rw[kO] at h;cases h
      |true=>
       rw[kO,bw] at h;simp only [c0] at kO;have q4:=Nat.blt_eq.mp kO.2;have pB:=G1 kO.1.1 kO.1.2 φ;split at h
       ·rename_i out ho
        split at h
        ·rename_i r bt hp
         simp only [cx,Prod.mk.injEq] at h;obtain⟨rfl,rfl⟩:=h;unfold Instr.buildSlice;refine bU.pre hu ?_;simp only;refine bU.pre cb ?_;rw[aO ao];rw[aO ao];have wR:∀j,j<((Array.range (len*size)).map (z.cells[· %z.cells.size]!)).size->aD φ (((Array.range (len*size)).map (z.cells[· %z.cells.size]!)).getD j undef) (((Array.range (len*size)).map (z.cells[· %z.cells.size]!)).getD j undef):=by
          intro j hj;simp at hj;have hm:=Nat.mod_lt j q4;have:=pB (j%z.cells.size) hm;simp only [e5] at this ⊢;simpa [hj,hm,getElem!_pos] using this
         obtain⟨s7,g1,g2,g3⟩:=KA (φ:=φ) (λi=>some (i*size,size)) _ _ _ _ out (by simp) KD rfl wR ho;refine bU.pre bG ?_;refine bU.pre (a:=z.cells) rfl ?_;simp only [g1];obtain⟨cR,w',q1,aE,b9,_⟩:=BY hr P elem hp (c':=s7) (by simpa using Nat.le_of_eq g2) (λ_=>by simpa using g2) (λj hj=>by
          have:=g3 j (by simpa using hj);simp only [e5] at this
          simpa [dr] using this)
         refine⟨cR,w',.slice (some ⟨w.heap.size,0,none⟩) len len,by rw[Sem.run_bind,q1];rfl,?_,b9⟩;have:=aD.h_ (φ:=cR) (b:=r) (o:=0) len len aE;simpa using this
        ·cases h
       ·cases h
     ·cases h
   ·cases h
  ·cases h
def KF (P:aQ) (A:aW) (t:aH):Option (U×aW):=
 match a7 P (underlying t) with
 |some (.slice elem)=>match a7 P (sizeOf elem) with
  |some _=>match A.push (.cells []) 0 elem with
   |some (r,bt)=>some (.slice (some ⟨r,0,none⟩) 0 0,bt)
   |none=>none
  |none=>none
 |_=>none
theorem aaE (hr:bR φ A w) {t:aH} {v:U} (h:KF P A t=some (v,aV)):bU (g' v) P φ A w (Instr.buildSlice t 0 #[]) aV:=by
 unfold KF at h;split at h
 ·rename_i elem hu
  split at h
  ·rename_i size cb
   split at h
   ·rename_i r bt hp
    simp only [cx,Prod.mk.injEq] at h;obtain⟨rfl,rfl⟩:=h;unfold Instr.buildSlice;refine bU.pre hu ?_;simp only;refine bU.pre cb ?_;rw[aO ao,aN ao];refine bU.pre (a:=(#[]:Array U)) rfl ?_;obtain⟨cR,w',q1,aE,b9,_⟩:=BY hr P (c':= #[]) elem hp (by simp) (λ_=>by simp) (λj hj=>by simp at hj);have e:((Array.range (0*size)).map ((#[]:Array U)[· %(#[]:Array U).size]!))= #[]:=by simp
    rw[e];simp only [Instr.fill];refine⟨cR,w',.slice (some ⟨w.heap.size,0,none⟩) 0 0,by rw[Sem.run_bind,q1];rfl,?_,b9⟩;have:=aD.h_ (φ:=cR) (b:=r) (o:=0) 0 0 aE;simpa using this
   ·cases h
  ·cases h
 ·cases h
end
end AE
namespace AE
variable [aY]
def aW.G2 (A:aW) (b pos st:Nat) (ty:aH) (c:List U):Option (Nat×aW):=
 match A.bl.get b with
 |some k=>match k.obj,A.mem.get k.cE with
  | .cells _,some l=>bif k.ro||bne k.ty ty then none else
    match b4.set {obj:= .cells c,cE:=k.cE,pos:=pos,eB:=st,ro:=false,ty:=ty:hE} depth A.bl A.n,b4.set (A.n::l) depth A.mem k.cE with
    |some bl,some mem=>some (A.n,{bl,mem,n:=A.n+1,low:=l.foldl Nat.min A.low})
    |_,_=>none
  |_,_=>none
 |none=>none
omit [aY] in
theorem KG {A aV:aW} {b pos st:Nat} {ty:aH} {c:List U} {r:Nat} (h:A.G2 b pos st ty c=some (r,aV)) (tX:zW A):
  ∃k dc l,A.bl.get b=some k/\k.obj= .cells dc/\k.ro=false/\k.ty=ty/\A.mem.get k.cE=some l/\r=A.n/\zW aV/\aV.n=A.n+1/\aV.low<=A.low/\(∀m∈l,aV.low<=m)/\
   (∀j,aV.bl.get j=if j=A.n then some {obj:= .cells c,cE:=k.cE,pos:=pos,eB:=st,ro:=false,ty:=ty} else A.bl.get j):=by
 unfold aW.G2 at h;cases ag:A.bl.get b with
 |none=>rw[ag] at h;cases h
 |some k=>
  rw[ag] at h;obtain⟨vt,cE,ak0,ak1,ro,aaF⟩:=k;simp only at h;cases vt with
  |map es eE=>cases h
  |fL x=>cases h
  |cells dc=>
   cases hm:A.mem.get cE with
   |none=>rw[hm] at h;cases h
   |some l=>
    rw[hm] at h;simp only at h;cases al:(ro||bne aaF ty) with
    |true=>rw[al] at h;cases h
    |false=>
     rw[al,ei] at h;simp only [Bool.or_eq_false_iff,bne_eq_false_iff_eq] at al;obtain⟨rfl,rfl⟩:=al;split at h
     ·rename_i bl mem ad rW
      simp only [cx,Prod.mk.injEq] at h;obtain⟨rfl,rfl⟩:=h;have s5:=λb=>b4.nS _ _ _ _ _ b ad
      have BU:=λb=>b4.nS _ _ _ _ _ b rW
      obtain⟨f1,f2⟩:=GQ l A.low;have oo:=tX.s4 b _ ag;refine⟨_,dc,l,rfl,rfl,rfl,rfl,hm,rfl,⟨?_,?_,?_,?_⟩,rfl,f1,f2,s5⟩
      ·intro j b5 hj
       simp only at hj ⊢;rw[s5] at hj;split at hj
       ·omega
       ·have:=tX.lt j b5 hj;omega
      ·intro j b5 hj
       simp only at hj ⊢ oo;rw[s5] at hj;split at hj
       ·cases hj;simp only;omega
       ·have:=tX.s4 j b5 hj;omega
      ·intro j b5 hj
       simp only at hj ⊢;rw[s5] at hj;split at hj
       ·rename_i ua
        cases hj;exact⟨_,by rw[BU,aN rfl],by simp [ua]⟩
       ·obtain⟨l',fa,kM⟩:=tX.mem j b5 hj
        by_cases aP:b5.cE=cE
        ·rw[aP,hm] at fa
         cases fa;exact⟨_,by rw[BU,aN aP],List.mem_cons_of_mem _ kM⟩
        ·exact⟨l',by rw[BU,aO aP];exact fa,kM⟩
      ·intro j b5 fb dG hj gn aP
       simp only at hj gn;rw[s5] at hj gn;split at hj
       ·cases hj
        split at gn
        ·cases gn;rfl
        ·have:=tX.tW b _ fb dG ag gn aP
         exact this
       ·split at gn
        ·cases gn
         have:=tX.tW j b5 b _ hj ag aP;exact this
        ·exact tX.tW j b5 fb dG hj gn aP
     ·cases h
theorem RM {φ:bQ} {A aV:aW} {w w':au} (hr:bR φ A w) {b pos st:Nat} {ty:aH} {c:List U} {r:Nat} {e:gZ} (h:A.G2 b pos st ty c=some (r,aV)) (cB:e.eB=st)
  (hw:(e.bf=w.heap.size/\∃o,w'={w with heap:=w.heap.push o})\/(w'=w/\∃bk k,φ b=some bk/\A.bl.get b=some k/\e.bf=bk.bf/\e.sh+k.pos=bk.sh+pos))
  (ho:∀k,A.bl.get b=some k->fy (gG φ r e) w' e {obj:= .cells c,cE:=k.cE,pos:=pos,eB:=st,ro:=false,ty:=ty}):
  cg φ A w (gG φ r e) aV w':=by
 obtain⟨k,dc,l,ag,fq,dC,hty,mP,rfl,tX,aq,rU,GR,gp⟩:=KG h hr.wf;have ho:=ho k ag;have hold:∀b e1,φ b=some e1->gG φ A.n e b=some e1:=λb e1 ad=>by
  unfold gG;rw[aO (by have:=hr.lt ad;omega)];exact ad
 have qX:∀i,i<w.heap.size->w'.heap[i]? =w.heap[i]? :=λi af=>by
  rcases hw with ⟨_,o,rfl⟩|⟨rfl,_⟩
  ·show (w.heap.push o)[i]? =_
   rw[Array.getElem?_push,aO ao]
  ·rfl
 have cb:w.heap.size<=w'.heap.size:=by
  rcases hw with ⟨_,o,rfl⟩|⟨rfl,_⟩
  ·simp
  ·exact bY _
 have vx:w'.os=w.os/\w'.tape=w.tape/\w'.output=w.output:=by
  rcases hw with ⟨_,o,rfl⟩|⟨rfl,_⟩<;>exact⟨rfl,rfl,rfl⟩
 have lI:∀j e1,gG φ A.n e j=some e1->(j=A.n/\e1=e)\/(j≠A.n/\φ j=some e1):=λj e1 ad=>by
  unfold gG at ad;split at ad
  ·rename_i h;cases ad;exact .inl ⟨h,rfl⟩
  ·rename_i h;exact .inr ⟨h,ad⟩
 have wO:b∈l:=by
  obtain⟨l',fa,dN⟩:=hr.wf.mem b k ag;rw[mP] at fa;cases fa;exact dN
 have s8:∀j fE b5,φ j=some fE->A.bl.get j=some b5->(k.cE≠b5.cE->e.bf≠fE.bf)/\(k.cE=b5.cE->e.bf=fE.bf->e.sh+b5.pos=fE.sh+pos):=by
  intro j fE b5 hj hh;rcases hw with ⟨he,_⟩|⟨_,bk,k',r1,dm,jt,qY⟩
  ·obtain⟨_,_,_,ae⟩:=hr.ep j fE hj
   have:=ae.lt;exact⟨λ_=>by omega,λ_ _=>by omega⟩
  ·rw[ag] at dm;cases dm
   refine⟨λcC=> ?_,λaP ad=> ?_⟩
   ·rw[jt];exact hr.apart b bk k j fE b5 r1 hj ag hh cC
   ·have:=hr.along b bk k j fE b5 r1 hj ag hh aP (by rw[<-jt];exact ad)
    omega
 refine {rel:=⟨tX,?_,?_,?_,λi o af=>by
   obtain⟨h1,ae⟩:=hr.dg i o af;have b8:i<w.heap.size:=(Array.getElem?_eq_some_iff.1 h1).1;refine⟨by rw[qX i b8];exact h1,λj e1 hj=> ?_⟩;rcases lI j e1 hj with ⟨rfl,rfl⟩|⟨_,hj⟩
   ·rcases hw with ⟨he,_⟩|⟨_,bk,k',r1,dm,jt,qY⟩
    ·omega
    ·rw[jt];exact ae b bk r1
   ·exact ae j e1 hj⟩,ep:= ?_,qW:= ?_,new:= ?_,py:=by omega,low:=rU,same:= ?_,ro:= ?_,keep:= ?_,fX:=cb,os:=vx.1,tape:=vx.2.1,output:=vx.2.2,drawn:=bY _}
 ·intro j e1 ad
  rcases lI j e1 ad with ⟨rfl,rfl⟩|⟨cC,ad⟩
  ·exact⟨_,by rw[gp,aN rfl],cB,ho⟩
  ·obtain⟨b5,hh,h1,ae⟩:=hr.ep j e1 ad
   exact⟨b5,by rw[gp,aO cC];exact hh,h1,ae.mono hold (qX _ ae.lt)⟩
 ·intro j e1 b5 fb nT dG ad dN mr nV cC
  rw[gp] at mr nV;rcases lI j e1 ad with ⟨rfl,rfl⟩|⟨js,rV⟩
  ·rcases lI fb nT dN with ⟨rfl,rfl⟩|⟨ll,p4⟩
   ·rw[aN rfl] at mr nV;cases mr;cases nV;exact absurd rfl cC
   ·rw[aN rfl] at mr;rw[aO ll] at nV;cases mr
    exact(s8 fb nT dG p4 nV).1 cC
  ·rcases lI fb nT dN with ⟨rfl,rfl⟩|⟨ll,p4⟩
   ·rw[aN rfl] at nV;rw[aO js] at mr;cases nV
    exact Ne.symm ((s8 j e1 b5 rV mr).1 (Ne.symm cC))
   ·rw[aO js] at mr;rw[aO ll] at nV
    exact hr.apart j e1 b5 fb nT dG rV p4 mr nV cC
 ·intro j e1 b5 fb nT dG ad dN mr nV oo jt
  rw[gp] at mr nV;rcases lI j e1 ad with ⟨rfl,rfl⟩|⟨js,rV⟩
  ·rcases lI fb nT dN with ⟨rfl,rfl⟩|⟨ll,p4⟩
   ·rw[aN rfl] at mr nV;cases mr;cases nV;rfl
   ·rw[aN rfl] at mr;rw[aO ll] at nV;cases mr
    exact(s8 fb nT dG p4 nV).2 oo jt
  ·rcases lI fb nT dN with ⟨rfl,rfl⟩|⟨ll,p4⟩
   ·rw[aN rfl] at nV;rw[aO js] at mr;cases nV
    exact((s8 j e1 b5 rV mr).2 oo.symm jt.symm).symm
   ·rw[aO js] at mr;rw[aO ll] at nV
    exact hr.along j e1 b5 fb nT dG rV p4 mr nV oo jt
 ·intro j hj
  unfold gG;rw[aO ao]
 ·intro j h1 ae
  have:j=A.n:=by omega
  subst this;simp [gG]
 ·intro j e1 h1 ad
  rcases lI j e1 ad with ⟨rfl,rfl⟩|⟨js,ad⟩
  ·rcases hw with ⟨he,_⟩|⟨_,bk,k',r1,dm,jt,qY⟩
   ·exact .inl ao
   ·exact .inr ⟨b,bk,k,r1,jt.symm,GR b wO,ag,dC⟩
  ·exact absurd (hr.lt ad) ao
 ·intro j hj _
  rw[gp,aO ao]
 ·intro j b5 hh _
  rw[gp,aO (by have:=hr.wf.lt j b5 hh;omega)];exact hh
 ·intro i af _
  exact qX i af
theorem aaG {φ:bQ} {A aV:aW} {w:au} (hr:bR φ A w) {b off:Nat} {v aB:U} {e:gZ} (h:A.store b off v=some aV) (he:φ b=some e) (aC:aD φ v aB) (al:w.cell? ⟨e.bf,e.sh+off,none⟩=some aB):
  cg φ A w φ aV w:=by
 obtain⟨st,_,_⟩:=Rs hr h he aC;have:w.setCell ⟨e.bf,e.sh+off,none⟩ aB=w:=by
  unfold World.setCell;have:w.heap.modify e.bf (λ
   | .cells c elem frozen=> .cells (if (none:Option Nat).isSome then c else c.setIfInBounds (e.sh+off) aB) elem frozen
   |o=>o)=w.heap:=by
   apply Array.ext_getElem?;intro i;rw[Array.getElem?_modify];split
   ·rename_i af
    subst af;cases ai:w.heap[e.bf]? with
    |none=>rfl
    |some o=>
     cases o<;>try rfl
     rename_i c t fr;simp only [Option.map_some,Option.isSome_none,Bool.false_eq_true,if_false,cx,Obj.cells.injEq,and_true];simp only [World.cell?,ai,Option.isSome_none,Bool.false_eq_true,if_false] at al;apply Array.ext_getElem?;intro j;rw[Array.getElem?_setIfInBounds];split
     ·rename_i hj;subst hj
      obtain⟨b8,_⟩:=Array.getElem?_eq_some_iff.1 al;rw[aN b8,al]
     ·rfl
   ·rfl
  exact congrArg (λh=>{w with heap:=h}) this
 rw[this] at st;exact st
theorem RN {φ:bQ} {b:Nat} {e:gZ} (he:φ b=some e) {w:au}:∀(vs:List U) (A aV:aW) (off:Nat),bR φ A w->A.p6 b off vs=some aV->
  (∀j,j<vs.length->∃aB,w.cell? ⟨e.bf,e.sh+(off+j),none⟩=some aB/\aD φ (vs.getD j undef) aB)->cg φ A w φ aV w
 |[],A,aV,off,hr,h,_=>by
  simp only [aW.p6,cx] at h;subst h;exact cg.refl hr
 |v::r,A,aV,off,hr,h,aC=>by
  unfold aW.p6 at h;cases h1:AE.wQ v with
  |false=>rw[h1] at h;cases h
  |true=>
   rw[h1,bw] at h;cases av:A.store b off v with
   |none=>rw[av] at h;cases h
   |some bt=>
    rw[av] at h;simp only at h;obtain⟨aB,g1,g2⟩:=aC 0 (by simp);have st:=aaG hr av he (by simpa using g2) (by simpa using g1);exact cg.trans hr st (RN he r bt aV (off+1) st.rel h λj hj=>by
     obtain⟨aaH,q1,aE⟩:=aC (j+1) (by simpa using hj)
     exact⟨aaH,by rw[show off+1+j=off+(j+1) by omega];exact q1,by simpa using aE⟩)
end AE
namespace AE
variable [aY]
omit [aY] in
theorem RO (RP:Nat):∀(r c:Nat),Builtin.growBy RP r c<=(c+768)*2^r
 |0,c=>by simp [Builtin.growBy]
 |r+1,c=>by
  unfold Builtin.growBy;split
  ·have:1<=2^(r+1):=Nat.one_le_two_pow
   calc c<=c+768:=by omega
    _=(c+768)*1:=by omega
    _<=(c+768)*2^(r+1):=Nat.mul_le_mul_left _ this
  ·have h:=RO RP r (c+(c+768)/4)
   calc _<=(c+(c+768)/4+768)*2^r:=h
    _<=((c+768)*2)*2^r:=Nat.mul_le_mul_right _ ao
    _=(c+768)*2^(r+1):=by rw[Nat.pow_succ,Nat.mul_assoc,Nat.mul_comm 2]
omit [aY] in
theorem aaI {need c:Nat} (h:c<need) (aq:need<=1048576):Builtin.nextslicecap need c<=33554432:=by
 unfold Builtin.nextslicecap;split
 ·omega
 ·split
  ·omega
  ·have bE:=RO need 4 c
   have aaJ:(c+768)*2^4<=33554432:=by
    rw[show (2:Nat)^4=16 from rfl];omega
   exact Nat.le_trans bE aaJ
omit [aY] in
theorem RQ (z:Array U) (n:Nat):(Builtin.zeroCells z n).size=n*z.size:=by simp [Builtin.zeroCells]
section
variable {P:aQ} {φ:bQ} {A aV:aW} {w:au}
omit [aY] in
theorem RR (a:Addr) (n:Nat) {v:Array U} (h:(loadCells a n).run P w= .ok v w) (d:Nat) (al:∀j,j<n->∃u,w.cell? (a.add j)=some u):(loadCells a n).run P {w with drawn:=d}= .ok v {w with drawn:=d}:=by
 let f:Nat->U:=λj=>(w.cell? (a.add j)).getD undef
 have aP:∀j,j<n->w.cell? (a.add j)=some (f j):=λj hj=>by
  obtain⟨u,hu⟩:=al j hj;simp [f,hu]
 have h1:=run_loadCells (P:=P) w a n f aP;rw[h] at h1;have ae:=run_loadCells (P:=P) {w with drawn:=d} a n f aP;rw[ae];injection h1 with h1;rw[h1]
def G3 (A:aW) (aZ:Nat):U->Option (Nat×List U)
 | .slice (some ⟨b,off,none⟩) n _=>(A.q0 b off (n*aZ)).map λl=>(n,l)
 | .slice none 0 0=>some (0,[])
 | .string s=>bif aZ==1 then some (s.size,s.data.toList.map λb=> .int .u8 b.toNat) else none
 |_=>none
theorem aaK (hr:bR φ A w) {aZ n:Nat} {x x':U} {l:List U} (ak:aD φ x x') (h:G3 A aZ x=some (n,l)):
  l.length=n*aZ/\∃j0:Array U,j0.size=l.length/\(∀j,j<l.length->aD φ (l.getD j undef) (j0.getD j undef))/\
    (∀d,(Builtin.lenOf x').run P {w with drawn:=d}= .ok n {w with drawn:=d})/\∀d,(Builtin.firstCells aZ n x').run P {w with drawn:=d}= .ok j0 {w with drawn:=d}:=by
 unfold G3 at h;split at h
 ·rename_i b off fz c
  obtain⟨l',fa,heq⟩:=Option.map_eq_some_iff.1 h;simp only [Prod.mk.injEq] at heq;obtain⟨rfl,rfl⟩:=heq;obtain⟨hlen,wS⟩:=z6 fa;have main:∀(e:gZ) (c':Nat),φ b=some e->∃j0:Array U,j0.size=l'.length/\(∀j,j<l'.length->aD φ (l'.getD j undef) (j0.getD j undef))/\
   (∀d,(Builtin.lenOf (.slice (some ⟨e.bf,e.sh+off,none⟩) fz c')).run P {w with drawn:=d}= .ok fz {w with drawn:=d})/\∀d,(Builtin.firstCells aZ fz (.slice (some ⟨e.bf,e.sh+off,none⟩) fz c')).run P {w with drawn:=d}= .ok j0 {w with drawn:=d}:=by
   intro e c' he;obtain⟨de,h1,ae,ay⟩:=DK hr P fa he;refine⟨de,ae,ay,λd=>rfl,λd=> ?_⟩;exact RR _ _ h1 d λj hj=>by
    obtain⟨aB,g1,_⟩:=tY hr (wS j hj) he;exact⟨aB,by rw[Addr.jZ,Nat.add_assoc];exact g1⟩
  cases ak with
  |h_ _ c' he=>exact⟨hlen,main _ _ he⟩
  |ia _ _ c' he _ _ _=>exact⟨hlen,main _ _ he⟩
  |iB aS _=>
   have:l'=[]:=by simpa using hlen
   subst this;refine⟨by simp,#[],rfl,λj hj=>absurd hj (by simp),λd=>rfl,λd=> ?_⟩;simp [Builtin.firstCells,loadCells,loadCellsFrom,Sem.run,pure]
 ·simp only [cx,Prod.mk.injEq] at h
  obtain⟨rfl,rfl⟩:=h;cases ak with
  |slnil=>exact⟨by simp,#[],rfl,λj hj=>absurd hj (by simp),λd=>rfl,λd=>rfl⟩
 ·rename_i s
  cases av:(aZ==1) with
  |false=>rw[av] at h;cases h
  |true=>
   rw[av,bw] at h;simp only [cx,Prod.mk.injEq] at h;obtain⟨rfl,rfl⟩:=h;have wT:aZ=1:=by simpa using av
   cases ak with
   |string=>
    refine⟨by simp [wT],(s.data.toList.map λb=>Value.int .u8 b.toNat).toArray,by simp,λj hj=> ?_,λd=>rfl,λd=> ?_⟩
    ·simp only [e5,List.getElem?_toArray,dr]
     have gn:j<s.data.toList.length:=by simpa using hj
     simp only [List.getElem?_map,fP gn,Option.map_some,Option.getD_some];exact .int _ _
    ·simp only [Builtin.firstCells]
     show Result.ok _ _=Result.ok _ _;congr 1;have:(s.extract 0 s.size)=s:=by simp
     rw[this];apply Array.ext';simp
 ·cases h
omit [aY] in
theorem cK {α eI:Type} {s:Sem α} {k:α->Sem eI} {a:α} {w:au} {r:Result eI} (h:a7 P s=some a) (ag:(k a).run P w=r):(s >>= k).run P w=r:=by
 rw[Sem.run_bind,jc h w];exact ag
omit [aY] in
theorem c8 {α eI:Type} {s:Sem α} {k:α->Sem eI} {a:α} {w w1:au} {r:Result eI} (h:s.run P w= .ok a w1) (ag:(k a).run P w1=r):(s >>= k).run P w=r:=by
 rw[Sem.run_bind,h];exact ag
def G4:TypeDesc->Bool
 | .int _=>true
 |_=>false
omit [aY] in
theorem G5 {cM:Array aH} {t t2 elem ty:aH} {aZ n nm q5:Nat} {base:Option Addr} {x':U} {j0:Array U} (aJ:cM[0]? =some t) (h1:cM[1]? =some t2)
  (hu:a7 P (underlying t)=some (.slice elem)) {hT:TypeDesc} (s9:a7 P (underlying t2)=some hT) (a_:G4 hT=false) (cb:a7 P (sizeOf elem)=some aZ)
  (hlen:(Builtin.lenOf x').run P w= .ok n w) (vy:(Builtin.firstCells aZ n x').run P w= .ok j0 w) (pC:nm+n<=q5) {w':au}
  (cB:(match base with|some a=>storeCells (a.add (nm*aZ)) j0.toList|none=>pure ()).run P w= .ok () w'):
  (Builtin.append_ cM ty #[.slice base nm q5,x']).run P w= .ok (.slice base (nm+n) q5) w':=by
 unfold Builtin.append_;simp only [aJ,h1,List.getElem?_toArray,List.getElem?_cons_zero,List.getElem?_cons_succ];refine cK hu ?_;simp only;refine cK cb ?_;refine cK s9 ?_;refine cK (a:=false) (by cases hT<;>first|rfl|cases a_) ?_;simp only [Bool.false_eq_true,if_false];refine c8 hlen ?_;rw[aN pC];simp only [Bool.not_false,if_true];refine c8 vy ?_;cases base with
 |none=>
  have:w'=w:=by
   have h:Result.ok () w=Result.ok () w':=cB;injection h with _ h;exact h.symm
  subst this;rfl
 |some a=>exact c8 cB rfl
omit [aY] in
theorem RS {cM:Array aH} {t t2 elem ty:aH} {info:TypeInfo} {z:U} {aZ n nm q5:Nat} {base:Option Addr} {x':U} {jd j0:Array U} (aJ:cM[0]? =some t) (h1:cM[1]? =some t2)
  (hu:a7 P (underlying t)=some (.slice elem)) {hT:TypeDesc} (s9:a7 P (underlying t2)=some hT) (a_:G4 hT=false) (cb:a7 P (sizeOf elem)=some aZ)
  (af:a7 P (typeInfo elem)=some info) (aaL:a7 P (zeroValue elem)=some z) (gw:info.bytes≠0) (ad:info.bytes<=65536) (ub:nm+n<=1048576)
  (hlen:(Builtin.lenOf x').run P w= .ok n w) (vy:∀d,(Builtin.firstCells aZ n x').run P {w with drawn:=d}= .ok j0 {w with drawn:=d})
  (hold:∀d,(Builtin.firstCells aZ nm (.slice base nm q5)).run P {w with drawn:=d}= .ok jd {w with drawn:=d}) (pC:q5<nm+n):
  ∃lp,nm+n<=lp/\(Builtin.append_ cM ty #[.slice base nm q5,x']).run P w=
   .ok (.slice (some ⟨w.heap.size,0,none⟩) (nm+n) lp) {w with drawn:=w.drawn+1,heap:=w.heap.push (.cells (jd++j0++Builtin.zeroCells z.cells (lp-(nm+n))) elem)}:=by
 refine⟨(Question.appendCap (nm+n) q5 elem).cut (w.tape w.drawn (.appendCap (nm+n) q5 elem)),by simp [Question.cut],?_⟩;unfold Builtin.append_;simp only [aJ,h1,List.getElem?_toArray,List.getElem?_cons_zero,List.getElem?_cons_succ];refine cK hu ?_;simp only;refine cK cb ?_;refine cK s9 ?_;refine cK (a:=false) (by cases hT<;>first|rfl|cases a_) ?_;simp only [Bool.false_eq_true,if_false];refine c8 hlen ?_;rw[aO ao];refine cK af ?_;rw[aO (by simp [gw])];refine cK af ?_;have j1:=aaI pC ub;have hle:¬(Builtin.nextslicecap (nm+n) q5*info.bytes>2^48):=by
  have h:=Nat.mul_le_mul j1 ad;have ae:33554432*65536<=2^48:=by decide
  omega
 rw[aO hle];refine c8 (w1:={w with drawn:=w.drawn+1}) (a:=(Question.appendCap (nm+n) q5 elem).cut (w.tape w.drawn (.appendCap (nm+n) q5 elem))) (by simp [choose,Sem.run,Question.forced]) ?_;refine cK af ?_;refine c8 (w1:={w with drawn:=w.drawn+1}) (a:=()) (by unfold askRoom;split<;>rfl) ?_;refine c8 (hold _) ?_;simp only [Bool.not_false,if_true];refine c8 (vy _) ?_;refine cK aaL ?_;refine c8 (a:=(⟨w.heap.size,0,none⟩:Addr)) (by simp only [newRow,newObj];rfl) ?_;rfl
end
end AE
namespace AE
variable [aY]
section
variable {P:aQ} {φ:bQ} {A aV:aW} {w:au}
def KH (P:aQ) (A:aW) (cM:Array aH) (s x:U):Option (U×aW):=
 match cM[0]?,cM[1]? with
 |some t,some t2=>match a7 P (underlying t),a7 P (underlying t2) with
  |some (.slice elem),some hT=>
   match a7 P (sizeOf elem),a7 P (typeInfo elem),a7 P (zeroValue elem) with
   |some aZ,some info,some z=>
    bif G4 hT||Nat.beq aZ 0||Nat.beq info.bytes 0|| !Nat.ble info.bytes 65536|| !Nat.beq z.cells.size aZ then none else
     match G3 A aZ x with
     |some (n,cT)=>
      bif !Nat.ble n 524288 then none else
      match s with
      | .slice none 0 0=>bif Nat.beq n 0 then some (.slice none 0 0,A) else
          match A.push (.cells cT) aZ elem with
          |some (r,bt)=>some (.slice (some ⟨r,0,none⟩) n n,bt)
          |none=>none
      | .slice (some ⟨b,off,none⟩) sl p7=>
        bif !Nat.ble sl 524288||(Nat.beq b dead&& !Nat.beq off 0) then none else
         bif Nat.ble (sl+n) p7 then
          match A.p6 b (off+sl*aZ) cT with
          |some bt=>some (.slice (some ⟨b,off,none⟩) (sl+n) p7,bt)
          |none=>none
         else match A.bl.get b with
          |none=>bif Nat.beq sl 0&&Nat.beq p7 0 then
            match A.push (.cells cT) aZ elem with
            |some (r,bt)=>some (.slice (some ⟨r,0,none⟩) n n,bt)
            |none=>none
           else none
          |some k=>match A.q0 b off (sl*aZ) with
           |some old=>
            bif Nat.beq k.eB 0 then
             match A.push (.cells (old++cT)) aZ elem with
             |some (r,bt)=>some (.slice (some ⟨r,0,none⟩) (sl+n) (sl+n),bt)
             |none=>none
            else bif Nat.beq k.eB aZ then
             match A.G2 b (k.pos+off) aZ elem (old++List.replicate (n*aZ) cL) with
             |some (r,bt)=>match bt.p6 r (sl*aZ) cT with
              |some eH=>some (.slice (some ⟨r,0,none⟩) (sl+n) (sl+n),eH)
              |none=>none
             |none=>none
            else none
           |none=>none
      |_=>none
     |none=>none
   |_,_,_=>none
  |_,_=>none
 |_,_=>none
theorem KI (hr:bR φ A w) (d:Nat):bR φ A {w with drawn:=d}:=⟨hr.wf,hr.ep,hr.apart,hr.along,hr.dg⟩
theorem RT {old cT:List U} {jd j0 rest:Array U} (h1:jd.size=old.length) (ae:∀j,j<old.length->aD φ (old.getD j undef) (jd.getD j undef)) (ay:j0.size=cT.length)
  (bE:∀j,j<cT.length->aD φ (cT.getD j undef) (j0.getD j undef)):∀j,j<(old++cT).length->aD φ ((old++cT).getD j undef) ((jd++j0++rest).getD j undef):=by
 intro j hj;simp only [List.length_append] at hj;simp only [dr,e5,List.getElem?_append,Array.getElem?_append,Array.size_append] at ae bE ⊢;by_cases z8:j<old.length
 ·rw[aN z8,aN ao,aN ao]
  exact ae j z8
 ·rw[aO z8,aN ao,aO ao,h1]
  exact bE (j-old.length) ao
theorem aaM (hr:bR φ A w) {elem:aH} {aZ sl n:Nat} {old cT:List U} {jd j0 rest:Array U} {r lp:Nat} (cb:1<=aZ) (hp:A.push (.cells (old++cT)) aZ elem=some (r,aV))
  (h1:jd.size=old.length) (ae:∀j,j<old.length->aD φ (old.getD j undef) (jd.getD j undef)) (ay:j0.size=cT.length) (bE:∀j,j<cT.length->aD φ (cT.getD j undef) (j0.getD j undef))
  (uc:old.length=sl*aZ) (hU:cT.length=n*aZ) (j1:sl+n<=lp) (vx:rest.size=(lp-(sl+n))*aZ):
  ∃cR w',w'={w with drawn:=w.drawn+1,heap:=w.heap.push (.cells (jd++j0++rest) elem)}/\
   aD cR (.slice (some ⟨r,0,none⟩) (sl+n) (sl+n)) (.slice (some ⟨w.heap.size,0,none⟩) (sl+n) lp)/\cg φ A w cR aV w':=by
 have k5:=KI hr (w.drawn+1);obtain⟨cR,w',g1,g2,g3,g4⟩:=BY k5 (default:aQ) (c':=jd++j0++rest) elem hp (by simp;omega) (λh=>absurd (show aZ=0 from h) ao) (RT h1 ae ay bE);refine⟨cR,w',g4,?_,cg.trans hr (cg.yx hr (w.drawn+1)) g3⟩;have aaN:(jd++j0++rest).size=lp*aZ:=by
  simp only [Array.size_append,h1,ay,uc,hU,vx];rw[<-Nat.add_mul,<-Nat.add_mul];congr 1;omega
 have:=aD.ia (φ:=cR) (b:=r) (o:=0) (sl+n) (sl+n) lp g2 cb j1 (by
  simp only [Nat.zero_add]
  rw[aaN];exact bY _)
 simpa using this
theorem aaO (hr:bR φ A w) {cM:Array aH} {ty:aH} {s e6 x x' v:U} (av:aD φ s e6) (ak:aD φ x x') (h:KH P A cM s x=some (v,aV)):bU (g' v) P φ A w (Builtin.append_ cM ty #[e6,x']) aV:=by
 unfold KH at h;split at h
 ·rename_i t t2 aI wU
  split at h
  ·rename_i elem hT hu s9
   split at h
   ·rename_i aZ info z cb af bG
    cases al:(G4 hT||Nat.beq aZ 0||Nat.beq info.bytes 0|| !Nat.ble info.bytes 65536|| !Nat.beq z.cells.size aZ) with
    |true=>rw[al] at h;cases h
    |false=>
     rw[al,ei] at h;simp only [Bool.or_eq_false_iff,Bool.not_eq_false'] at al;obtain⟨⟨⟨⟨a_,ez⟩,c2⟩,c3⟩,p8⟩:=al;have KJ:1<=aZ:=by
      rcases Nat.eq_zero_or_pos aZ with aJ|aJ
      ·subst aJ;simp at ez
      ·exact aJ
     have gw:info.bytes≠0:=by
      intro aJ;rw[aJ] at c2;simp at c2
     have ad:info.bytes<=65536:=Nat.ble_eq.mp c3;have pB:z.cells.size=aZ:=ct p8;cases z':G3 A aZ x with
     |none=>rw[z'] at h;cases h
     |some q=>
      obtain⟨n,cT⟩:=q;rw[z'] at h;simp only at h;obtain⟨hU,j0,js,ll,B1,vy⟩:=aaK (P:=P) hr ak z';cases z_:Nat.ble n 524288 with
      |false=>rw[z_] at h;cases h
      |true=>
       rw[z_,Bool.not_true,ei] at h;have aq:=Nat.ble_eq.mp z_;have fresh:∀(sl:Nat) (old:List U) (jd:Array U) (base:Option Addr) (lY r:Nat),sl<=524288->old.length=sl*aZ->jd.size=old.length->(∀j,j<old.length->aD φ (old.getD j undef) (jd.getD j undef))->
         (∀d,(Builtin.firstCells aZ sl (.slice base sl lY)).run P {w with drawn:=d}= .ok jd {w with drawn:=d})->lY<sl+n->A.push (.cells (old++cT)) aZ elem=some (r,aV)->
         bU (g' (.slice (some ⟨r,0,none⟩) (sl+n) (sl+n))) P φ A w (Builtin.append_ cM ty #[.slice base sl lY,x']) aV:=by
        intro sl old jd base lY r gH uc G6 Aa hold pC hp;obtain⟨lp,j1,eQ⟩:=RS (ty:=ty) aI wU hu s9 a_ cb af bG gw ad ao (B1 w.drawn) vy hold pC;obtain⟨cR,w',e1,e2,dH⟩:=aaM hr KJ hp G6 Aa js ll uc hU j1 (rest:=Builtin.zeroCells z.cells (lp-(sl+n))) (by rw[RQ,pB]);subst e1;exact⟨cR,_,_,eQ,e2,dH⟩
       split at h
       ·
        cases av;cases fO:Nat.beq n 0 with
        |true=>
         rw[fO,bw] at h;simp only [cx,Prod.mk.injEq] at h;obtain⟨rfl,rfl⟩:=h;have RU:n=0:=ct fO;subst RU;exact⟨φ,w,_,G5 aI wU hu s9 a_ cb (B1 w.drawn) (vy w.drawn) (bY _) rfl,.slnil _ _,cg.refl hr⟩
        |false=>
         rw[fO,ei] at h;split at h
         ·rename_i r bt hp
          simp only [cx,Prod.mk.injEq] at h;obtain⟨rfl,rfl⟩:=h;have RU:n≠0:=λe=>by subst e;simp at fO
          have:=fresh 0 [] #[] none 0 r ao (by simp) rfl (λj hj=>absurd hj (by simp)) (λd=>rfl) ao (by simpa using hp);simpa using this
         ·cases h
       ·rename_i b off sl p7
        cases KK:Nat.ble sl 524288 with
        |false=>rw[KK] at h;cases h
        |true=>
         rw[KK,Bool.not_true,Bool.false_or] at h;cases G7:(Nat.beq b dead&& !Nat.beq off 0) with
         |true=>rw[G7] at h;cases h
         |false=>
         rw[G7,ei] at h;have G8:b=dead->off=0:=λe=>by
          subst e;rw[Nat.beq_refl,Bool.true_and,Bool.not_eq_false'] at G7;exact ct G7
         have gH:=Nat.ble_eq.mp KK;cases pC:Nat.ble (sl+n) p7 with
         |true=>
          rw[pC,bw] at h;have DV:=Nat.ble_eq.mp pC;split at h
          ·rename_i bt cB
           simp only [cx,Prod.mk.injEq] at h;obtain⟨rfl,rfl⟩:=h;have room:∀(e:gZ) (lY:Nat),φ b=some e->sl+n<=lY->∃w',cg φ A w φ bt w'/\(Builtin.append_ cM ty #[.slice (some ⟨e.bf,e.sh+off,none⟩) sl lY,x']).run P w= .ok (.slice (some ⟨e.bf,e.sh+off,none⟩) (sl+n) lY) w':=by
            intro e lY he hle;obtain⟨w',g1,g2⟩:=BX P he cT A bt w (off+sl*aZ) 0 j0.toList hr cB (by simpa using js) (λj hj=>by
             have:=ll j hj;simp only [e5] at this
             simpa [dr] using this)
            refine⟨w',g2,G5 aI wU hu s9 a_ cb (B1 w.drawn) (vy w.drawn) hle ?_⟩;simp only [Addr.jZ];rw[Nat.add_assoc];exact g1
           cases av with
           |h_ _ _ he=>
            obtain⟨w',g1,g2⟩:=room _ _ he DV;exact⟨φ,w',_,g2,.h_ _ _ he,g1⟩
           |ia _ _ c' he q1 aE b9=>
            obtain⟨w',g1,g2⟩:=room _ c' he ao;exact⟨φ,w',_,g2,.ia _ _ _ he q1 aE b9,g1⟩
           |iB aS q4=>
            have je:=q4 (G8 rfl);subst je;have fO:n=0:=by omega
            subst fO;have aaP:cT=[]:=by simpa using hU
            subst aaP;simp only [aW.p6,cx] at cB;subst cB;have KL:j0= #[]:=Array.eq_empty_of_size_eq_zero js;subst KL;exact⟨φ,w,_,G5 aI wU hu s9 a_ cb (B1 w.drawn) (vy w.drawn) (bY _) rfl,.iB _ q4,cg.refl hr⟩
          ·cases h
         |false=>
          rw[pC,ei] at h;have DV:p7<sl+n:=by
           rcases Nat.lt_or_ge p7 (sl+n) with h1|h1
           ·exact h1
           ·rw[Nat.ble_eq.mpr h1] at pC;cases pC
          cases ag:A.bl.get b with
          |none=>
           rw[ag] at h;simp only at h;cases s':(Nat.beq sl 0&&Nat.beq p7 0) with
           |false=>rw[s'] at h;cases h
           |true=>
            rw[s',bw] at h;simp only [c0] at s';have e1:sl=0:=ct s'.1;have e2:p7=0:=ct s'.2;subst e1;subst e2;split at h
            ·rename_i r bt hp
             simp only [cx,Prod.mk.injEq] at h;obtain⟨rfl,rfl⟩:=h;have DW:∀e,φ b≠some e:=λe he=>by
              obtain⟨k,dm,_⟩:=hr.ep b e he;rw[ag] at dm;cases dm
             cases av with
             |h_ _ _ he=>exact absurd he (DW _)
             |ia _ _ c' he q1 aE b9=>exact absurd he (DW _)
             |iB aS q4=>
              have je:=q4 (G8 rfl);subst je;have:=fresh 0 [] #[] (some aS) 0 r ao (by simp) rfl (λj hj=>absurd hj (by simp)) (λd=>by simp [Builtin.firstCells,loadCells,loadCellsFrom,Sem.run,pure]) ao (by simpa using hp);simpa using this
            ·cases h
          |some k=>
           rw[ag] at h;simp only at h;cases hold:A.q0 b off (sl*aZ) with
           |none=>rw[hold] at h;cases h
           |some old=>
            rw[hold] at h;simp only at h;obtain⟨uc,wS⟩:=z6 hold;have KM:∀(e:gZ) (lY:Nat),φ b=some e->∃jd:Array U,jd.size=old.length/\(∀j,j<old.length->aD φ (old.getD j undef) (jd.getD j undef))/\
              ∀d,(Builtin.firstCells aZ sl (.slice (some ⟨e.bf,e.sh+off,none⟩) sl lY)).run P {w with drawn:=d}= .ok jd {w with drawn:=d}:=by
             intro e lY he;obtain⟨de,h1,ae,ay⟩:=DK hr P hold he;exact⟨de,ae,ay,λd=>RR _ _ h1 d λj hj=>by
              obtain⟨aB,g1,_⟩:=tY hr (wS j hj) he
              exact⟨aB,by rw[Addr.jZ,Nat.add_assoc];exact g1⟩⟩
            have RV:∀(aS:Addr),sl=0->∀d,(Builtin.firstCells aZ sl (.slice (some aS) sl 0)).run P {w with drawn:=d}= .ok #[] {w with drawn:=d}:=by
             intro aS e d;subst e;simp [Builtin.firstCells,loadCells,loadCellsFrom,Sem.run,pure]
            cases wV:Nat.beq k.eB 0 with
            |true=>
             rw[wV,bw] at h;have hg:k.eB=0:=ct wV;split at h
             ·rename_i r bt hp
              simp only [cx,Prod.mk.injEq] at h;obtain⟨rfl,rfl⟩:=h;cases av with
              |h_ _ _ he=>
               obtain⟨jd,ib,kz,ud⟩:=KM _ p7 he;exact fresh sl old jd _ p7 r gH uc ib kz ud DV hp
              |ia _ _ c' he q1 aE b9=>
               obtain⟨k',dm,cB,_⟩:=hr.ep b _ he;rw[ag] at dm;cases dm;omega
              |iB aS q4=>
               have je:=q4 (G8 rfl);subst je;have KN:old=[]:=by simpa using uc
               subst KN;exact fresh 0 [] #[] (some aS) 0 r ao (by simp) rfl (λj hj=>absurd hj (by simp)) (RV aS rfl) ao hp
             ·cases h
            |false=>
             rw[wV,ei] at h;cases DX:Nat.beq k.eB aZ with
             |false=>rw[DX] at h;cases h
             |true=>
              rw[DX,bw] at h;have DY:k.eB=aZ:=ct DX;split at h
              ·rename_i r bt hp
               split at h
               ·rename_i eH RW
                simp only [cx,Prod.mk.injEq] at h;obtain⟨rfl,rfl⟩:=h;obtain⟨_,_,_,nn,_,dC,_,_,rfl,_,_,_,_,_⟩:=KG hp hr.wf;have b8:∀b e,φ b=some e->∀em,gG φ A.n em b=some e:=λb e ad em=>by
                 unfold gG;rw[aO (by have:=hr.lt ad;omega)];exact ad
                have KO:∀(base:Option Addr) (lY:Nat) (jd:Array U),jd.size=old.length->(∀j,j<old.length->aD φ (old.getD j undef) (jd.getD j undef))->
                  (∀d,(Builtin.firstCells aZ sl (.slice base sl lY)).run P {w with drawn:=d}= .ok jd {w with drawn:=d})->lY<sl+n->
                  bU (g' (.slice (some ⟨A.n,0,none⟩) (sl+n) (sl+n))) P φ A w (Builtin.append_ cM ty #[.slice base sl lY,x']) eH:=by
                 intro base lY jd ib kz ud aP;obtain⟨lp,j1,eQ⟩:=RS (ty:=ty) aI wU hu s9 a_ cb af bG gw ad ao (B1 w.drawn) vy ud aP;have np:(jd++j0++Builtin.zeroCells z.cells (lp-(sl+n))).size=lp*aZ:=by
                  simp only [Array.size_append,ib,js,uc,hU,RQ,pB];rw[<-Nat.add_mul,<-Nat.add_mul];congr 1;omega
                 have k5:=KI hr (w.drawn+1);have ka:=RT (rest:=Builtin.zeroCells z.cells (lp-(sl+n))) ib kz js ll;have hle:(sl+n)*aZ<=lp*aZ:=Nat.mul_le_mul_right _ j1;have aaQ:sl*aZ+n*aZ=(sl+n)*aZ:=(Nat.add_mul _ _ _).symm;have ot:=RM (e:=⟨w.heap.size,0,aZ,lp*aZ⟩) k5 hp rfl (.inl ⟨rfl,.cells (jd++j0++Builtin.zeroCells z.cells (lp-(sl+n))) elem,rfl⟩) (λk' dm=>by
                  simp only [fy];refine⟨_,(0,0),by simp,np.symm,⟨by simp only [List.length_append,lG,Nat.zero_add,uc,np];omega,λh=>absurd (show aZ=0 from h) ao⟩,λj hj=> ?_,λ_ i _=>by simp⟩;simp only [List.length_append,lG] at hj;simp only [Nat.zero_add];by_cases z8:j<old.length
                  ·have:=(ka j (by simp;omega)).mono λjK e1 lo=>b8 jK e1 lo ⟨w.heap.size,0,aZ,lp*aZ⟩
                   rw[dr,List.getElem?_append_left z8] at this ⊢;exact this
                  ·rw[dr,List.getElem?_append_right ao,List.getElem?_replicate,aN ao]
                   exact .cL _)
                 have vw:=RN (e:=⟨w.heap.size,0,aZ,lp*aZ⟩) (by simp [gG]) cT bt eH (sl*aZ) ot.rel RW (λj hj=>by
                  have:=(ka (sl*aZ+j) (by simp;omega)).mono λjK e1 lo=>b8 jK e1 lo ⟨w.heap.size,0,aZ,lp*aZ⟩
                  rw[dr,List.getElem?_append_right ao,uc,Nat.add_sub_cancel_left,<-dr] at this;refine⟨_,?_,this⟩;simp only [World.cell?,Nat.zero_add];have im:sl*aZ+j<(jd++j0++Builtin.zeroCells z.cells (lp-(sl+n))).size:=by rw[np];omega
                  simp only [Array.getElem?_push_size,Option.isSome_none,Bool.false_eq_true,if_false,e5];rw[Array.getElem?_eq_getElem im]
                  rfl)
                 refine⟨_,_,_,eQ,?_,cg.trans hr (cg.yx hr (w.drawn+1)) (cg.trans k5 ot vw)⟩;have:=aD.ia (φ:=gG φ A.n ⟨w.heap.size,0,aZ,lp*aZ⟩) (b:=A.n) (o:=0) (e:=⟨w.heap.size,0,aZ,lp*aZ⟩) (sl+n) (sl+n) lp (by simp [gG]) KJ j1 (by simp);simpa using this
                cases av with
                |h_ _ _ he=>
                 obtain⟨jd,ib,kz,ud⟩:=KM _ p7 he;exact KO _ _ jd ib kz ud DV
                |iB aS q4=>
                 have je:=q4 (G8 rfl);subst je;have KN:old=[]:=by simpa using uc
                 subst KN;exact KO (some aS) 0 #[] rfl (λj hj=>absurd hj (by simp)) (RV aS rfl) DV
                |ia _ _ c' he q1 aE b9=>
                 rename_i e;obtain⟨jd,ib,kz,ud⟩:=KM _ c' he;rcases Nat.lt_or_ge c' (sl+n) with q2|kx
                 ·exact KO _ _ jd ib kz ud q2
                 ·
                  obtain⟨k',dm,KP,aaR⟩:=hr.ep b e he;rw[ag] at dm;cases dm;have s_:e.eB=aZ:=KP.trans DY;have aaQ:sl*aZ+n*aZ=(sl+n)*aZ:=(Nat.add_mul _ _ _).symm;have hle:(sl+n)*aZ<=c'*aZ:=Nat.mul_le_mul_right _ kx;rw[s_] at b9;have ot:=RM (e:=⟨e.bf,e.sh+off,aZ,e.zU⟩) hr hp rfl (.inr ⟨rfl,e,k,he,ag,rfl,by simp only;omega⟩) (λk' dm=>by
                   rw[ag] at dm;cases dm;obtain⟨df,c2,lq,g1,g2,g3,g4,_⟩:=KG hp hr.wf;rw[ag] at g1;cases g1;have KQ:=aaR;unfold fy at KQ;simp only [g2] at KQ;obtain⟨c3,aaS,cS,dL,fZ,wN,BS⟩:=KQ;simp only [fy];refine⟨c3,aaS,by rw[<-g4];exact cS,dL,⟨by simp only [List.length_append,lG,uc];omega,λh=>absurd (show aZ=0 from h) ao⟩,λj hj=> ?_,λ_=>BS g3⟩;simp only [List.length_append,lG] at hj;by_cases z8:j<old.length
                   ·rw[dr,List.getElem?_append_left z8,<-dr]
                    obtain⟨aB,ey,hv⟩:=tY hr (wS j ao) he;simp only [World.cell?,cS,Option.isSome_none,Bool.false_eq_true,if_false] at ey;rw[e5,Nat.add_assoc,ey];exact hv.mono λjK e1 lo=>b8 jK e1 lo _
                   ·rw[dr,List.getElem?_append_right ao,List.getElem?_replicate,aN ao]
                    exact .cL _)
                  obtain⟨w',g1,g2⟩:=BX P (e:=⟨e.bf,e.sh+off,aZ,e.zU⟩) (by simp [gG]) cT bt eH w (sl*aZ) 0 j0.toList ot.rel RW (by simpa using js) (λj hj=>by
                   have:=(ll j hj).mono λjK e1 lo=>b8 jK e1 lo ⟨e.bf,e.sh+off,aZ,e.zU⟩
                   simp only [e5] at this
                   simpa [dr] using this)
                  refine⟨_,w',_,G5 aI wU hu s9 a_ cb (B1 w.drawn) (vy w.drawn) kx (w':=w') ?_,?_,cg.trans hr ot g2⟩
                  ·simp only [Addr.jZ]
                   exact g1
                  ·have:=aD.ia (φ:=gG φ A.n ⟨e.bf,e.sh+off,aZ,e.zU⟩) (b:=A.n) (o:=0) (e:=⟨e.bf,e.sh+off,aZ,e.zU⟩) (sl+n) (sl+n) c' (by simp [gG]) KJ kx (by simp only [Nat.add_zero];exact b9)
                   simpa using this
               ·cases h
              ·cases h
       ·cases h
   ·cases h
  ·cases h
 ·cases h
end
end AE
namespace AE
variable [aY]
section
variable {P:aQ} {φ:bQ} {A aV:aW} {w:au}
omit [aY] in
theorem aaT {α:Type} (k:IntKind) (x y:Int) (c:BoundsCode):a7 P (boundsPanic k x y c:Sem α)=none:=by
 unfold boundsPanic;dsimp only;split
 ·rw[r0]
  have:a7 P (Functor.map (λx=>x==1) (choose (.extern "runtime.boundsError.signed" 2)))=none:=rfl;rw[this];rfl
 ·rw[r0];rfl
omit [aY] in
theorem G9 {v:U} {y:Nat} {c:BoundsCode} {r:Nat} (h:a7 P (Instr.sliceBound v y c)=some r):∃k i,v= .int k i/\0<=i/\i<=y/\r=i.toNat:=by
 unfold Instr.sliceBound at h;rw[r0] at h;cases v with
 |int k i=>
  simp only [asIntOf,DQ,Option.bind_some] at h;split at h
  ·rename_i ad
   simp only [DQ,cx] at h;exact⟨k,i,rfl,ad.1,ad.2,h.symm⟩
  ·rw[aaT] at h;cases h
 |pointer a=>cases a<;>cases h
 |_=>cases h
omit [aY] in
theorem RX (k:IntKind) (i:Int) (y:Nat) (c:BoundsCode) (aJ:0<=i) (h1:i<=y):a7 P (Instr.sliceBound (.int k i) y c)=some i.toNat:=by
 unfold Instr.sliceBound;rw[r0];simp only [asIntOf,DQ,Option.bind_some];rw[aN ⟨aJ,h1⟩];rfl
omit [aY] in
theorem yB {b:Bool} {len c c' l h m:Nat} {eY af d_:Option U} (al:c<=c') (ad:a7 P (Instr.sliceBounds b len c eY af d_)=some (l,h,m)):
  a7 P (Instr.sliceBounds b len c' eY af d_)=some (l,h,if d_.isSome then m else c')/\(d_=none->m=c)/\m<=c/\l<=h/\(d_.isSome=true->h<=m):=by
 have low:∀(y p9 oV:Nat) (G':BoundsCode) {l h m:Nat},a7 P (do
   let l <-match eY with
    |some v=>Instr.sliceBound v y G'
    |none=>pure 0
   pure (l,y,p9))=some (l,h,m)->a7 P (do
   let l <-match eY with
    |some v=>Instr.sliceBound v y G'
    |none=>pure 0
   pure (l,y,oV))=some (l,h,oV)/\h=y/\m=p9/\l<=y:=by
  intro y p9 oV G' l h m hl;cases eY with
  |none=>
   simp only [r0,DQ,Option.bind_some,cx,Prod.mk.injEq] at hl ⊢;obtain⟨rfl,rfl,rfl⟩:=hl;simp
  |some v=>
   simp only [r0] at hl ⊢;cases av:a7 P (Instr.sliceBound v y G') with
   |none=>rw[av] at hl;cases hl
   |some r=>
    rw[av] at hl;simp only [Option.bind_some,DQ,cx,Prod.mk.injEq] at hl ⊢;obtain⟨k,i,_,aJ,h1,ae⟩:=G9 av;obtain⟨rfl,rfl,rfl⟩:=hl;refine⟨by simp,rfl,rfl,ao⟩
 cases d_ with
 |none=>
  cases af with
  |none=>
   have e:∀dc,Instr.sliceBounds b len dc eY none none=(do
     let l <-match eY with
      |some v=>Instr.sliceBound v len (if (none:Option U).isSome then .slice3C else .sliceB)
      |none=>pure 0
     pure (l,len,dc)):=λdc=>by unfold Instr.sliceBounds;cases eY<;>rfl
   rw[e] at ad ⊢;obtain⟨g1,g2,g3,g4⟩:=low len c c' _ ad;subst g2;subst g3;exact⟨by simpa using g1,λ_=>rfl,bY _,g4,λh=>by cases h⟩
  |some Ab=>
   have e:∀dc,Instr.sliceBounds b len dc eY (some Ab) none=(do
     let h <-Instr.sliceBound Ab dc (if b then .sliceAcap else .sliceAlen)
     let l <-match eY with
      |some v=>Instr.sliceBound v h (if (none:Option U).isSome then .slice3C else .sliceB)
      |none=>pure 0
     pure (l,h,dc)):=λdc=>by unfold Instr.sliceBounds;cases eY<;>rfl
   rw[e] at ad ⊢;rw[r0] at ad ⊢;cases av:a7 P (Instr.sliceBound Ab c (if b=true then .sliceAcap else .sliceAlen)) with
   |none=>rw[av] at ad;cases ad
   |some r=>
    rw[av,Option.bind_some] at ad;obtain⟨k,i,rfl,aJ,h1,rfl⟩:=G9 av;rw[RX k i c' _ aJ ao,Option.bind_some];obtain⟨g1,g2,g3,g4⟩:=low i.toNat c c' _ ad;subst g2;subst g3;exact⟨by simpa using g1,λ_=>rfl,bY _,g4,λh=>by cases h⟩
 |some vz=>
  cases af with
  |none=>
   exfalso;have e:Instr.sliceBounds b len c eY none (some vz)=(do
     let m <-Instr.sliceBound vz c (if b then .slice3Acap else .slice3Alen)
     let h <-(stuck "Slice: max without high":Sem Nat)
     let l <-match eY with
      |some v=>Instr.sliceBound v h (if (some vz).isSome then .slice3C else .sliceB)
      |none=>pure 0
     pure (l,h,m)):=by unfold Instr.sliceBounds;cases eY<;>rfl
   rw[e,r0] at ad;cases av:a7 P (Instr.sliceBound vz c (if b=true then .slice3Acap else .slice3Alen)) with
   |none=>rw[av] at ad;cases ad
   |some r=>rw[av] at ad;cases ad
  |some Ab=>
   have e:∀dc,Instr.sliceBounds b len dc eY (some Ab) (some vz)=(do
     let m <-Instr.sliceBound vz dc (if b then .slice3Acap else .slice3Alen)
     let h <-Instr.sliceBound Ab m .slice3B
     let l <-match eY with
      |some v=>Instr.sliceBound v h (if (some vz).isSome then .slice3C else .sliceB)
      |none=>pure 0
     pure (l,h,m)):=λdc=>by unfold Instr.sliceBounds;cases eY<;>rfl
   rw[e,r0] at ad ⊢;cases av:a7 P (Instr.sliceBound vz c (if b=true then .slice3Acap else .slice3Alen)) with
   |none=>rw[av] at ad;cases ad
   |some r=>
    rw[av,Option.bind_some] at ad;obtain⟨k,i,rfl,aJ,h1,rfl⟩:=G9 av;rw[RX k i c' _ aJ ao,Option.bind_some];rw[r0] at ad ⊢;cases wT:a7 P (Instr.sliceBound Ab i.toNat .slice3B) with
    |none=>rw[wT] at ad;cases ad
    |some cS=>
     rw[wT,Option.bind_some] at ad;rw[Option.bind_some];obtain⟨RY,i4,_,j2,q1,aE⟩:=G9 wT;obtain⟨g1,g2,g3,g4⟩:=low cS i.toNat i.toNat _ ad;subst g2;subst g3;refine⟨by simpa using g1,λh=>by simp at h,ao,g4,λ_=>by omega⟩
def KR (P:aQ) (A:aW) (t:aH) (x:U) (eY af d_:Option U):Option U:=
 match a7 P (underlying t),x with
 |some (.array n elem),.pointer (some ⟨b,off,none⟩)=>
  match a7 P (Instr.sliceBounds false n n eY af d_),a7 P (sizeOf elem) with
  |some (l,h,m),some aZ=>some (.slice (some ⟨b,if m=l then off else off+l*aZ,none⟩) (h-l) (m-l))
  |_,_=>none
 |some (.slice elem),.slice (some ⟨b,off,none⟩) len cap=>
  match a7 P (Instr.sliceBounds true len cap eY af d_),a7 P (sizeOf elem),A.bl.get b with
  |some (l,h,m),some aZ,some k=>
   bif Nat.beq k.eB 0||Nat.beq k.eB aZ then
    match d_ with
    |some _=>bif Nat.beq m l then some (.slice (some ⟨dead,0,none⟩) 0 0) else some (.slice (some ⟨b,off+l*aZ,none⟩) (h-l) (m-l))
    |none=>bif Nat.ble h m then (bif Nat.beq m l then some (.slice (some ⟨dead,1,none⟩) 0 0) else some (.slice (some ⟨b,off+l*aZ,none⟩) (h-l) (m-l))) else none
   else none
  |some (_,h,m),some _,none=>bif Nat.beq cap 0&&Nat.beq len 0&&Nat.ble h m then some (.slice (some ⟨b,off,none⟩) 0 0) else none
  |_,_,_=>none
 |_,_=>none
theorem aaU (hr:bR φ A w) {t:aH} {x x' v:U} {eY af d_:Option U} (ak:aD φ x x') (h:KR P A t x eY af d_=some v):bU (g' v) P φ A w (Instr.sliceAt t x' eY af d_) A:=by
 unfold KR at h;split at h
 ·rename_i n elem b off hu
  split at h
  ·rename_i l ai m aZ ad cb
   simp only [cx] at h;subst h;cases ak with
   |ptr he=>
    rename_i e;unfold Instr.sliceAt;refine bU.pre hu ?_;simp only;refine bU.pre (a:=(⟨e.bf,e.sh+off,none⟩:Addr)) rfl ?_;refine bU.pre ad ?_;simp only;refine bU.pre cb ?_;have:=aD.h_ (φ:=φ) (b:=b) (o:=if m=l then off else off+l*aZ) (ai-l) (m-l) he;refine bU.ret hr ?_;show aD φ _ _;by_cases hm:m=l
    ·simp only [hm,if_true] at this ⊢
     exact this
    ·simp only [hm,if_false,Addr.jZ] at this ⊢
     rw[<-Nat.add_assoc] at this;exact this
  ·cases h
 ·rename_i elem b off len cap hu
  have run:∀(a:Addr) (vA l ai m aZ:Nat),a7 P (Instr.sliceBounds true len vA eY af d_)=some (l,ai,m)->a7 P (sizeOf elem)=some aZ->
    (Instr.sliceAt t (.slice (some a) len vA) eY af d_).run P w= .ok (.slice (if m=l then some a else some (a.add (l*aZ))) (ai-l) (m-l)) w:=by
   intro a vA l ai m aZ ad cb;unfold Instr.sliceAt;refine cK hu ?_;simp only;unfold Instr.slice;refine cK hu ?_;simp only;refine cK ad ?_;simp only;refine cK cb ?_;rfl
  split at h
  ·rename_i l ai m aZ k ad cb ag
   cases cB:(Nat.beq k.eB 0||Nat.beq k.eB aZ) with
   |false=>rw[cB] at h;cases h
   |true=>
    rw[cB,bw] at h;have aaV:k.eB=0\/k.eB=aZ:=by
     simp only [Bool.or_eq_true] at cB;exact cB.imp ct ct
    split at h
    ·rename_i vz
     have both:∀(e:gZ) (vA:Nat),φ b=some e->cap<=vA->bU (g' v) P φ A w (Instr.sliceAt t (.slice (some ⟨e.bf,e.sh+off,none⟩) len vA) eY af (some vz)) A:=by
      intro e vA he hle;obtain⟨g1,g2,g3,g4,jQ⟩:=yB hle ad;simp only [Option.isSome_some,if_true] at g1 jQ;have k5:=run ⟨e.bf,e.sh+off,none⟩ vA l ai m aZ g1 cb;refine⟨φ,w,_,k5,?_,cg.refl hr⟩;cases q6:Nat.beq m l with
      |true=>
       rw[q6,bw,cx] at h;subst h;have wW:m=l:=ct q6;have h1:ai-l=0:=by have:=jQ trivial;omega
       have ae:m-l=0:=by omega
       rw[aN wW,h1,ae];exact .iB _ (λ_=>rfl)
      |false=>
       rw[q6,ei,cx] at h;subst h;have wW:m≠l:=λe=>by subst e;simp at q6
       rw[aO wW,Addr.jZ];have:=aD.h_ (φ:=φ) (b:=b) (o:=off+l*aZ) (ai-l) (m-l) he;rw[<-Nat.add_assoc] at this;exact this
     cases ak with
     |h_ _ _ he=>exact both _ _ he (bY _)
     |ia _ _ c' he q1 aE b9=>exact both _ _ he aE
     |iB aS bG=>
      rename_i c';obtain⟨f1,_⟩:=yB (Nat.zero_le c') ad;have k5:=run aS c' l ai m aZ (by simpa using f1) cb;obtain⟨g1,g2,g3,g4,jQ⟩:=yB (bY _) ad;have:=jQ rfl;have e1:l=0:=by omega
      have e2:ai=0:=by omega
      have dH:m=0:=by omega
      subst e1;subst e2;subst dH;refine⟨φ,w,_,k5,?_,cg.refl hr⟩;simp only [Nat.beq_refl,bw,cx] at h;subst h;simp only [if_true,Nat.sub_self];exact .iB _ (λ_=>rfl)
    ·
     cases KS:Nat.ble ai m with
     |false=>rw[KS] at h;cases h
     |true=>
     rw[KS,bw] at h;have ak2:=Nat.ble_eq.mp KS;obtain⟨g1,g2,g3,g4,jQ⟩:=yB (bY _) ad;have KT:=g2 rfl;subst KT;have empty:∀(aS:Addr) (c':Nat),m=l->∀x',(x'=some aS\/∃G_,x'=some G_)->aD φ (.slice (some ⟨dead,1,none⟩) 0 0) (.slice x' (ai-l) (c'-l)):=by
      intro aS c' q6 x' q7;rw[show ai-l=0 by omega];rcases q7 with rfl|⟨G_,rfl⟩<;>exact .iB _ (λh=>absurd h cv)
     have KU:∀(p:Prop) [Decidable p] (a b:Addr),∃G_,(if p then some a else some b)=some G_:=λp _ a b=>by
      by_cases hp:p
      ·exact⟨a,aN hp⟩
      ·exact⟨b,aO hp⟩
     cases q6:Nat.beq m l with
     |true=>
      have wW:m=l:=ct q6;rw[q6,bw,cx] at h;subst h;cases ak with
      |h_ _ _ he=>
       rename_i e;refine⟨φ,w,_,run ⟨e.bf,e.sh+off,none⟩ m l ai m aZ ad cb,empty ⟨e.bf,e.sh+off,none⟩ m wW _ (.inr (KU _ _ _)),cg.refl hr⟩
      |ia _ _ c' he q1 aE b9=>
       rename_i e;obtain⟨f1,_⟩:=yB aE ad;exact⟨φ,w,_,run ⟨e.bf,e.sh+off,none⟩ c' l ai c' aZ (by simpa using f1) cb,empty ⟨e.bf,e.sh+off,none⟩ c' wW _ (.inr (KU _ _ _)),cg.refl hr⟩
      |iB aS bG=>
       rename_i c';obtain⟨f1,_⟩:=yB (Nat.zero_le c') ad;exact⟨φ,w,_,run aS c' l ai c' aZ (by simpa using f1) cb,empty aS c' wW _ (.inr (KU _ _ _)),cg.refl hr⟩
     |false=>
      have wW:m≠l:=λe=>by subst e;simp at q6
      rw[q6,ei,cx] at h;subst h;cases ak with
      |h_ _ _ he=>
       rename_i e;have k5:=run ⟨e.bf,e.sh+off,none⟩ m l ai m aZ ad cb;refine⟨φ,w,_,k5,?_,cg.refl hr⟩;rw[aO wW,Addr.jZ];have:=aD.h_ (φ:=φ) (b:=b) (o:=off+l*aZ) (ai-l) (m-l) he;rw[<-Nat.add_assoc] at this;exact this
      |ia _ _ c' he q1 aE b9=>
       rename_i e;obtain⟨f1,_⟩:=yB aE ad;have k5:=run ⟨e.bf,e.sh+off,none⟩ c' l ai c' aZ (by simpa using f1) cb;refine⟨φ,w,_,k5,?_,cg.refl hr⟩;rw[aO ao,Addr.jZ];obtain⟨k',dm,KP,_⟩:=hr.ep b e he;rw[ag] at dm;cases dm;have s_:e.eB=aZ:=by
        rcases aaV with aJ|aJ
        ·omega
        ·exact KP.trans aJ
       have KV:l*aZ+(c'-l)*aZ=c'*aZ:=by rw[<-Nat.add_mul];congr 1;omega
       have:=aD.ia (φ:=φ) (b:=b) (o:=off+l*aZ) (ai-l) (m-l) (c'-l) he q1 ao (by rw[s_] at b9 ⊢;omega);rw[<-Nat.add_assoc] at this;exact this
      |iB aS bG=>omega
  ·rename_i l ai m aZ ad cb ag
   cases s':(Nat.beq cap 0&&Nat.beq len 0&&Nat.ble ai m) with
   |false=>rw[s'] at h;cases h
   |true=>
    rw[s',bw,cx] at h;subst h;simp only [c0] at s';have e1:cap=0:=ct s'.1.1;have e2:len=0:=ct s'.1.2;have dH:ai<=m:=Nat.ble_eq.mp s'.2;subst e1;subst e2;have DW:∀e,φ b≠some e:=λe he=>by
     obtain⟨k,dm,_⟩:=hr.ep b e he;rw[ag] at dm;cases dm
    cases ak with
    |h_ _ _ he=>exact absurd he (DW _)
    |ia _ _ c' he q1 aE b9=>exact absurd he (DW _)
    |iB aS bG=>
     rename_i c';obtain⟨g1,g2,g3,g4,jQ⟩:=yB (Nat.zero_le c') ad;have k5:=run aS c' l ai _ aZ g1 cb;refine⟨φ,w,_,k5,?_,cg.refl hr⟩;have hm:m=0:=by omega
     have e1:l=0:=by omega
     have e2:ai=0:=by omega
     subst hm;subst e1;subst e2;have al:off=0->(if d_.isSome=true then 0 else c')-0=0:=λho=>by
      by_cases DZ:d_.isSome=true
      ·simp [DZ]
      ·simp [DZ,bG ho]
     show aD φ _ (.slice (if (if d_.isSome=true then 0 else c')=0 then some aS else some (aS.add (0*aZ))) 0 ((if d_.isSome=true then 0 else c')-0));by_cases nq:(if d_.isSome=true then 0 else c')=0
     ·rw[aN nq];exact .iB _ al
     ·rw[aO nq];exact .iB _ al
  ·cases h
 ·cases h
end
end AE
namespace AE
variable [aY]
section
variable {P:aQ} {φ:bQ} {A aV:aW} {w:au}
def KW (P:aQ) (A:aW) (cM:Array aH) (dst ou:U):Option (U×aW):=
 match cM[0]? with
 |some t=>match a7 P (underlying t) with
  |some (.slice elem)=>match a7 P (sizeOf elem) with
   |some aZ=>match dst,ou with
    | .slice (some ⟨b,off,none⟩) ta _,.slice (some ⟨jY,D0,none⟩) sl _=>
      match A.q0 jY D0 (Nat.min sl ta*aZ) with
      |some l=>match A.p6 b off l with
       |some bt=>some (.int .i64 (Nat.min sl ta),bt)
       |none=>none
      |none=>none
    | .slice (some _) ta _,.slice none sl _=>some (.int .i64 (Nat.min sl ta),A)
    |_,_=>none
   |none=>none
  |_=>none
 |none=>none
theorem aaW (hr:bR φ A w) {cM:Array aH} {ty:aH} {d nr s e6 v:U} (a_:aD φ d nr) (av:aD φ s e6) (h:KW P A cM d s=some (v,aV)):bU (g' v) P φ A w (Builtin.copy_ cM ty #[nr,e6]) aV:=by
 unfold KW at h;split at h
 ·rename_i t aI
  split at h
  ·rename_i elem hu
   split at h
   ·rename_i aZ cb
    split at h
    ·rename_i b off ta vB jY D0 sl p7
     split at h
     ·rename_i l hl
      split at h
      ·rename_i bt cB
       simp only [cx,Prod.mk.injEq] at h;obtain⟨rfl,rfl⟩:=h;unfold Builtin.copy_;simp only [aI,List.getElem?_toArray,List.getElem?_cons_zero,List.getElem?_cons_succ];refine bU.pre hu ?_;obtain⟨jf,ov⟩:=z6 hl;have main:∀(e e2:gZ) (lY:Nat),φ b=some e->φ jY=some e2->bU (g' (.int .i64 (Nat.min sl ta))) P φ A w (do
         let n:=Nat.min (<-Builtin.lenOf (.slice (some ⟨e2.bf,e2.sh+D0,none⟩) sl lY)) ta
         let cells <-Builtin.firstCells (<-sizeOf elem) n (.slice (some ⟨e2.bf,e2.sh+D0,none⟩) sl lY)
         storeCells ⟨e.bf,e.sh+off,none⟩ cells.toList
         pure (goInt n)) bt:=by
        intro e e2 lY he tc;refine bU.pre (a:=sl) rfl ?_;refine bU.pre cb ?_;refine bU.bind hr (RB hr hl tc) λfY w1 cells k5 hmono ⟨ez,c2⟩=> ?_
        obtain⟨w',g1,g2⟩:=BX P (hmono _ _ he) l A bt w1 off 0 cells.toList k5 cB (by simpa using ez) (λj hj=>by
         have:=c2 j hj;simp only [e5] at this
         simpa [dr] using this)
        refine⟨fY,w',_,c8 (by simpa using g1) rfl,.int _ _,g2⟩
       have zero:∀(a aS:Option Addr) (aaX lY:Nat),Nat.min sl ta*aZ=0->Nat.min sl ta=0->bt=A:=by
        intro a aS aaX lY aJ _;rw[aJ] at jf;have:l=[]:=by simpa using jf
        subst this;simpa [aW.p6] using cB.symm
       cases a_ with
       |h_ _ _ he=>cases av with
        |h_ _ _ tc=>exact main _ _ _ he tc
        |ia _ _ c' tc _ _ _=>exact main _ _ _ he tc
        |iB aS _=>
         have:=zero none none 0 0 (by simp) (by simp);subst this;refine⟨φ,w,.int .i64 0,?_,by simpa using aD.int .i64 0,cg.refl hr⟩;simp [jc cb w,Builtin.firstCells,Builtin.lenOf,loadCells,loadCellsFrom,Sem.run,pure,storeCells,goInt]
       |ia _ _ ez he _ _ _=>cases av with
        |h_ _ _ tc=>exact main _ _ _ he tc
        |ia _ _ c' tc _ _ _=>exact main _ _ _ he tc
        |iB aS _=>
         have:=zero none none 0 0 (by simp) (by simp);subst this;refine⟨φ,w,.int .i64 0,?_,by simpa using aD.int .i64 0,cg.refl hr⟩;simp [jc cb w,Builtin.firstCells,Builtin.lenOf,loadCells,loadCellsFrom,Sem.run,pure,storeCells,goInt]
       |iB aS _=>
        have:=zero none none 0 0 (by simp) (by simp);subst this;have hlen:∀e6,aD φ (.slice (some ⟨jY,D0,none⟩) sl p7) e6->∃ej c2,e6= .slice (some ej) sl c2:=λe6 h=>by
         cases h with
         |h_ _ _ h=>exact⟨_,_,rfl⟩
         |ia _ _ _ h _ _ _=>exact⟨_,_,rfl⟩
         |iB aS _=>exact⟨_,_,rfl⟩
        obtain⟨ej,c2,rfl⟩:=hlen e6 av;refine⟨φ,w,.int .i64 0,?_,by simpa using aD.int .i64 0,cg.refl hr⟩;simp [jc cb w,Builtin.firstCells,Builtin.lenOf,loadCells,loadCellsFrom,Sem.run,pure,storeCells,goInt]
      ·cases h
     ·cases h
    ·rename_i a ta vB sl p7
     simp only [cx,Prod.mk.injEq] at h;obtain⟨rfl,rfl⟩:=h;have KX:∃aS c',nr= .slice (some aS) ta c':=by
      cases a_ with
      |h_ _ _ h=>exact⟨_,_,rfl⟩
      |ia _ _ _ h _ _ _=>exact⟨_,_,rfl⟩
      |iB aS _=>exact⟨_,_,rfl⟩
     obtain⟨aS,c',rfl⟩:=KX;cases av;refine⟨φ,w,.int .i64 (Nat.min sl ta),?_,.int _ _,cg.refl hr⟩;unfold Builtin.copy_;simp only [aI,List.getElem?_toArray,List.getElem?_cons_zero,List.getElem?_cons_succ];refine cK hu ?_;refine cK (a:=sl) rfl ?_;exact cK cb rfl
    ·cases h
   ·cases h
  ·cases h
 ·cases h
def KY (P:aQ) (A:aW) (t:aH) (len cap:U):Option (U×aW):=
 match len,cap with
 | .int _ l,.int _ c=>
   bif decide (0<=l)&&decide (l<=c)&&decide (c<=1048576) then
    match a7 P (underlying t) with
    |some (.slice elem)=>match a7 P (typeInfo elem),a7 P (sizeOf elem),a7 P (zeroValue elem) with
     |some info,some aZ,some z=>
      bif Nat.ble info.bytes 65536&&plain z&&(cellsOf z).isSome&&Nat.blt 0 z.cells.size then
       match A.push (.cells ((Array.range (c.toNat*aZ)).map (z.cells[· %z.cells.size]!)).toList) 0 elem with
       |some (r,bt)=>some (.slice (some ⟨r,0,none⟩) l.toNat c.toNat,bt)
       |none=>none
      else none
     |_,_,_=>none
    |_=>none
   else none
 |_,_=>none
theorem aaY (hr:bR φ A w) {t:aH} {len cap v:U} (h:KY P A t len cap=some (v,aV)):bU (g' v) P φ A w (Instr.makeSlice t len cap) aV:=by
 unfold KY at h;split at h
 ·rename_i cV l df c
  cases ad:(decide (0<=l)&&decide (l<=c)&&decide (c<=1048576)) with
  |false=>rw[ad] at h;cases h
  |true=>
   rw[ad,bw] at h;simp only [c0,decide_eq_true_eq] at ad;obtain⟨⟨jK,jY⟩,rY⟩:=ad;split at h
   ·rename_i elem hu
    split at h
    ·rename_i info aZ z af cb bG
     cases kO:(Nat.ble info.bytes 65536&&plain z&&(cellsOf z).isSome&&Nat.blt 0 z.cells.size) with
     |false=>rw[kO] at h;cases h
     |true=>
      rw[kO,bw] at h;simp only [c0] at kO;obtain⟨⟨⟨q1,aE⟩,b9⟩,ey⟩:=kO;have k6:=Nat.ble_eq.mp q1;have q4:=Nat.blt_eq.mp ey;have pB:=G1 aE b9 φ;split at h
      ·rename_i r bt hp
       simp only [cx,Prod.mk.injEq] at h;obtain⟨rfl,rfl⟩:=h;have wl:IntKind.i64.wrap l=l:=IntWalk.i64_in _ ao;have aaZ:IntKind.i64.wrap c=c:=IntWalk.i64_in _ ao;unfold Instr.makeSlice;refine bU.pre hu ?_;simp only;refine bU.pre (a:=l) rfl ?_;refine bU.pre (a:=c) rfl ?_;refine bU.pre af ?_;have RZ:(info.bytes:Int)*c<=2^48:=by
        have h1:(info.bytes:Int)*c<=65536*1048576:=by
         have dD:(info.bytes:Int)<=65536:=by omega
         exact Int.mul_le_mul dD rY ao ao
        have ae:(65536:Int)*1048576<=2^48:=by decide
        omega
       have Ha:(decide (c<0)||decide ((info.bytes:Int)*c>2^48)||decide (l<0)||decide (l>c))=false:=by
        simp only [Bool.or_eq_false_iff,decide_eq_false_iff_not];omega
       simp only [wl,aaZ];rw[aO (by rw[Ha];simp)];refine bU.pre (a:=()) (by unfold askRoom;split<;>rfl) ?_;refine bU.pre cb ?_;have wR:∀j,j<((Array.range (c.toNat*aZ)).map (z.cells[· %z.cells.size]!)).size->aD φ (((Array.range (c.toNat*aZ)).map (z.cells[· %z.cells.size]!)).getD j undef) (((Array.range (c.toNat*aZ)).map (z.cells[· %z.cells.size]!)).getD j undef):=by
        intro j hj;simp at hj;have hm:=Nat.mod_lt j q4;have:=pB (j%z.cells.size) hm;simp only [e5] at this ⊢;simpa [hj,hm,getElem!_pos] using this
       have fG:bU (g' (.slice (some ⟨r,0,none⟩) l.toNat c.toNat)) P φ A w (do
         let a <-newRow elem ((Array.range (c.toNat*aZ)).map (z.cells[· %z.cells.size]!))
         pure (.slice (some a) l.toNat c.toNat)) bt:=by
        obtain⟨cR,w',g1,g2,g3,_⟩:=BY hr P elem hp (c':=(Array.range (c.toNat*aZ)).map (z.cells[· %z.cells.size]!)) (by simp) (λ_=>by simp) (λj hj=>by
         have:=wR j (by simpa using hj);simp only [e5] at this;simp only [dr,Array.getElem?_toList,e5]
         exact this)
        refine⟨cR,w',_,c8 g1 rfl,?_,g3⟩;have:=aD.h_ (φ:=cR) (b:=r) (o:=0) l.toNat c.toNat g2;simpa using this
       by_cases aq:c.toNat*aZ=0
       ·simp only [aq,if_true] at fG ⊢
        refine bU.pre (a:= #[]) rfl ?_;have bk:∀f:Nat->U,(Array.range 0).map f= #[]:=λf=>by simp
        rw[bk] at fG ⊢;exact fG
       ·simp only [aq,if_false]
        refine bU.pre bG ?_;refine bU.pre (a:=z.cells) rfl ?_;exact fG
      ·cases h
    ·cases h
   ·cases h
 ·cases h
def KZ (P:aQ) (A:aW) (cM:Array aH) (x:U):Option U:=
 match cM[0]? with
 |some t=>match a7 P (underlying t),x with
  |some (.slice _),.slice _ n _=>some (.int .i64 n)
  |some (.map _ _),.map none=>some (.int .i64 0)
  |some (.map _ _),.map (some b)=>match A.bl.get b with
   |some {obj:= .map es _,..}=>some (.int .i64 es.length)
   |_=>none
  |some (.array n _),_=>some (.int .i64 n)
  |_,_=>none
 |none=>none
omit [aY] in
theorem p_ {o:Obj} {r:Nat} (h:w.heap[r]? =some o) (al:∀c t f,o≠.cells c t f):(getObj r).run P w= .ok o w:=by
 unfold getObj;simp only [Sem.run,h]
theorem aa0 (hr:bR φ A w) {cM:Array aH} {ty:aH} {x x' v:U} (ak:aD φ x x') (h:KZ P A cM x=some v):bU (g' v) P φ A w (Builtin.len_ cM ty #[x']) A:=by
 unfold KZ at h;split at h
 ·rename_i t aI
  unfold Builtin.len_;simp only [aI,List.getElem?_toArray,List.getElem?_cons_zero];split at h
  ·rename_i e a n c hu
   simp only [cx] at h;subst h;refine bU.pre hu ?_;have:∃ej c2,x'= .slice ej n c2:=by cases ak<;>exact⟨_,_,rfl⟩
   obtain⟨ej,c2,rfl⟩:=this;exact bU.ret hr (.int _ _)
  ·rename_i k e hu
   simp only [cx] at h;subst h;refine bU.pre hu ?_;cases ak;exact bU.ret hr (.int _ _)
  ·rename_i k e b hu
   split at h
   ·rename_i es eE cE pos st ro ty' ad
    simp only [cx] at h;subst h;refine bU.pre hu ?_;cases ak with
    |map he=>
     obtain⟨ft,ag,_,ho⟩:=hr.ep b _ he;rw[ad] at ag;cases ag;simp only [fy] at ho;obtain⟨c9,h1,ae,_⟩:=ho;refine⟨φ,w,.int .i64 es.length,c8 (p_ h1 (by simp)) ?_,.int _ _,cg.refl hr⟩;simp only [goInt,ae];rfl
   ·cases h
  ·rename_i n e hu
   simp only [cx] at h;subst h;refine bU.pre hu ?_;exact bU.ret hr (.int _ _)
  ·cases h
 ·cases h
end
end AE
namespace AE
variable [aY]
section
variable {P:aQ} {φ:bQ} {A aV:aW} {w:au}
def K0 (cells:Array U):Sem U:=do
 let mut s:=ByteArray.empty
 for c in cells do
  let .int .u8 n:=c|stuck "bytesToString: byte expected"
  s:=s.push (UInt8.ofNat n.toNat)
 pure (.string s)
omit [aY] in
theorem R0 (a:Addr) (len c:Nat):Conv.bytesToString (.slice (some a) len c)=loadCells a len >>= K0:=rfl
def K1 (P:aQ) (A:aW):U->Option U
 | .slice none _ _=>some (.string .empty)
 | .slice (some ⟨b,off,none⟩) n _=>bif Nat.beq n 0 then some (.string .empty) else match A.q0 b off n with
   |some l=>bif om l then match a7 P (K0 ⟨l⟩) with
    |some (.string s)=>some (.string s)
    |_=>none
    else none
   |none=>none
 |_=>none
theorem aa1 (hr:bR φ A w) {x x' v:U} (ak:aD φ x x') (h:K1 P A x=some v):bU (g' v) P φ A w (Conv.bytesToString x') A:=by
 unfold K1 at h;split at h
 ·simp only [cx] at h
  subst h;cases ak;exact bU.ret hr (.string _)
 ·rename_i b off n c
  have R1:∀(a:Addr) (c:Nat),(Conv.bytesToString (.slice (some a) 0 c)).run P w= .ok (.string .empty) w:=λa c=>by
   rw[R0];simp [loadCells,loadCellsFrom,K0,Sem.run,pure]
  have main:∀(e:gZ) (c':Nat),φ b=some e->bU (g' v) P φ A w (Conv.bytesToString (.slice (some ⟨e.bf,e.sh+off,none⟩) n c')) A:=by
   intro e c' he;cases aq:Nat.beq n 0 with
   |true=>
    rw[aq,bw,cx] at h;subst h;have:n=0:=ct aq;subst this;exact⟨φ,w,_,R1 _ _,.string _,cg.refl hr⟩
   |false=>
    rw[aq,ei] at h;split at h
    ·rename_i l hl
     cases hp:om l with
     |false=>rw[hp] at h;cases h
     |true=>
      rw[hp,bw] at h;split at h
      ·rename_i s av
       simp only [cx] at h;subst h;rw[R0];obtain⟨de,h1,ae,ay⟩:=DK hr P hl he;have:de=⟨l⟩:=by
        obtain⟨l'⟩:=de;have:=aD.DM l l' hp (by simpa using ae.symm) (λi af=>by simpa using ay i af);rw[this]
       subst this;exact⟨φ,w,_,c8 h1 (jc av w),.string _,cg.refl hr⟩
      ·cases h
    ·cases h
  cases ak with
  |h_ _ _ he=>exact main _ _ he
  |ia _ _ c' he _ _ _=>exact main _ _ he
  |iB aS _=>
   rw[Nat.beq_refl,bw,cx] at h;subst h;exact⟨φ,w,_,R1 _ _,.string _,cg.refl hr⟩
 ·cases h
def K2 (A:aW) (elem:aH) (s:ByteArray):Option (U×aW):=
 match A.push (.cells (s.data.toList.map λb=> .int .u8 b.toNat)) 1 elem with
 |some (r,bt)=>some (.slice (some ⟨r,0,none⟩) s.size s.size,bt)
 |none=>none
theorem aa2 (hr:bR φ A w) {elem:aH} {s:ByteArray} {v:U} (h:K2 A elem s=some (v,aV)):bU (g' v) P φ A w (Conv.stringToBytes elem s) aV:=by
 unfold K2 at h;split at h
 ·rename_i r bt hp
  simp only [cx,Prod.mk.injEq] at h;obtain⟨rfl,rfl⟩:=h;unfold Conv.stringToBytes
  let cap:=(Question.appendCap s.size 0 elem).cut (w.tape w.drawn (.appendCap s.size 0 elem))
  have j1:s.size<=cap:=by simp [cap,Question.cut]
  let row:Array U:=(s.data.map λb=>Value.int .u8 b.toNat)++Array.replicate (cap-s.size) (.int .u8 0)
  have np:row.size=cap:=by
   simp only [row,Array.size_append,Array.size_map,Array.size_replicate];have:s.data.size=s.size:=rfl;omega
  have k5:=KI hr (w.drawn+1);have aa3:=(k5.wf.push hp).2.1;have st:=BV (o':= .cells row elem (cap,cap+1)) (e:=⟨w.heap.size,0,1,cap⟩) k5 hp J J (by
   simp only [fy];refine⟨row,(cap,cap+1),by simp,np.symm,⟨by simp only [List.length_map,Nat.zero_add,Array.length_toList];rw[np];exact j1,λh=>absurd h cv⟩,λj hj=> ?_,λ_ i af=>by rw[np] at af;simp;omega⟩;simp only [List.length_map,Array.length_toList] at hj;simp only [dr,e5,Nat.zero_add,row];rw[Array.getElem?_append_left (by simpa using hj)];simp only [List.getElem?_map,Array.getElem?_toList,Array.getElem?_map,Array.getElem?_eq_getElem hj,Option.map_some,Option.getD_some]
   exact .int _ _)
  refine⟨_,_,.slice (some ⟨w.heap.size,0,none⟩) s.size cap,?_,?_,cg.trans hr (cg.yx hr (w.drawn+1)) st⟩
  ·refine c8 (w1:={w with drawn:=w.drawn+1}) (a:=cap) (by simp [choose,Sem.run,Question.forced,cap]) ?_
   refine c8 (a:=(⟨w.heap.size,0,none⟩:Addr)) (by simp only [newRow,newObj];rfl) ?_;have Ac:({w with drawn:=w.drawn+1,heap:=w.heap.push (.cells row elem)}:au).shape? w.heap.size=some (elem,cap):=by
    simp [World.shape?,np]
   refine c8 (w1:={w with drawn:=w.drawn+1,heap:=w.heap.push (.cells row elem (cap,cap+1))}) (a:=()) ?_ rfl;unfold markStringish;refine c8 (a:=some (elem,cap)) (by simp only [shape,Sem.run];exact congrArg (Result.ok · _) Ac) ?_;simp only [freeze,Sem.run,World.freeze];rw[aO ao];refine congrArg (Result.ok ()) ?_;simp only [World.mk.injEq,and_true,true_and];apply Array.ext_getElem?;intro i;rw[Array.getElem?_modify];split
   ·rename_i af
    subst af;simp [row]
   ·rename_i af
    rw[Array.getElem?_push,Array.getElem?_push];rw[aO (Ne.symm af),aO (Ne.symm af)]
  ·subst aa3
   have:=aD.ia (φ:=gG φ A.n ⟨w.heap.size,0,1,cap⟩) (b:=A.n) (o:=0) (e:=⟨w.heap.size,0,1,cap⟩) s.size s.size cap (by simp [gG]) (bY _) j1 (by simp);simpa using this
 ·cases h
def B2 (P:aQ) (t:aH) (x y:U):Option Bool:=
 match a7 P (underlying t),x,y with
 |some (.pointer _),.pointer (some _),.pointer none=>some false
 |some (.pointer _),.pointer none,.pointer (some _)=>some false
 |some (.pointer e),.pointer (some ⟨b,o,none⟩),.pointer (some ⟨b',o',none⟩)=>match a7 P (sizeOf e) with
  |some n=>bif Nat.beq b b'&& !Nat.beq n 0 then some (Nat.beq o o') else none
  |none=>none
 |some (.slice _),.slice (some _) _ _,.slice none _ _=>some false
 |some (.slice _),.slice none _ _,.slice (some _) _ _=>some false
 |some (.map _ _),.map (some _),.map none=>some false
 |some (.map _ _),.map none,.map (some _)=>some false
 |some (.interface _),.iface _ _,.nilIface=>some false
 |some (.interface _),.nilIface,.iface _ _=>some false
 |some (.func _ _ _),.func _ _ _,.nilFunc=>some false
 |some (.func _ _ _),.nilFunc,.func _ _ _=>some false
 |_,_,_=>none
theorem R2 {t:aH} {x x' y gV:U} {r:Bool} (ak:aD φ x x') (bg:aD φ y gV) (h:B2 P t x y=some r):(Op.equal t x' gV).run P w= .ok r w/\∀op (ib kz:Operand),(eqGuard op t ib kz x' gV).run P w= .ok () w:=by
 unfold B2 at h;have guard:∀(x' gV:U),(¬(x'= .nilIface/\gV= .nilIface))->(¬∃a b,x'= .agg a/\gV= .agg b)->∀op (ib kz:Operand),(eqGuard op t ib kz x' gV).run P w= .ok () w:=by
  intro x' gV h1 ae op ib kz;unfold eqGuard;by_cases cj:op= .eql\/op= .neq
  ·cases x'<;>cases gV<;>rcases cj with rfl|rfl<;>first|rfl|exact absurd ⟨rfl,rfl⟩ h1|exact absurd ⟨_,_,rfl,rfl⟩ ae
  ·cases op<;>first|rfl|exact absurd (.inl rfl) cj|exact absurd (.inr rfl) cj
 split at h
 all_goals try (cases h;done)
 all_goals rename_i hu
 ·simp only [cx] at h
  subst h;cases ak with
  |ptr he=>cases bg;exact⟨by unfold Op.equal Op.maxDepth Op.equalIn;exact cK hu rfl,guard _ _ (by simp) (by simp)⟩
 ·simp only [cx] at h
  subst h;cases bg with
  |ptr he=>cases ak;exact⟨by unfold Op.equal Op.maxDepth Op.equalIn;exact cK hu rfl,guard _ _ (by simp) (by simp)⟩
 ·split at h
  ·rename_i b o b' o' ak3 n aq
   cases ad:(Nat.beq b b'&& !Nat.beq n 0) with
   |false=>rw[ad] at h;cases h
   |true=>
    rw[ad,bw,cx] at h;subst h;simp only [c0,Bool.not_eq_true'] at ad;have td:b=b':=ct ad.1;subst td;have fO:n≠0:=λe=>by subst e;simp at ad
    cases ak with
    |ptr he=>cases bg with
     |ptr tc=>
      rw[he] at tc;cases tc;refine⟨?_,guard _ _ (by simp) (by simp)⟩;unfold Op.equal Op.maxDepth Op.equalIn;refine cK hu ?_;simp only;refine cK aq ?_;rw[aN fO];unfold sameAddr;simp only [beq_self_eq_true,if_true];show Result.ok _ w=Result.ok _ w;congr 1;by_cases K3:o=o'
      ·subst K3;simp
      ·have h1:Nat.beq o o'=false:=by
        cases ai:Nat.beq o o' with
        |false=>rfl
        |true=>exact absurd (ct ai) K3
       rw[h1];simp [K3]
  ·cases h
 all_goals simp only [cx] at h
 all_goals subst h
 all_goals cases ak<;>cases bg<;>exact⟨by unfold Op.equal Op.maxDepth Op.equalIn;exact cK hu rfl,guard _ _ (by simp) (by simp)⟩
def K4 (P:aQ) (op:BinOp) (t:aH) (x y:U):Option U:=
 match op with
 | .eql=>(B2 P t x y).map .bool
 | .neq=>(B2 P t x y).map λb=> .bool !b
 |_=>none
theorem aa4 (hr:bR φ A w) {op:BinOp} {t:aH} {ib kz:Operand} {x x' y gV v:U} (ak:aD φ x x') (bg:aD φ y gV) (h:K4 P op t x y=some v):bU (g' v) P φ A w (do eqGuard op t ib kz x' gV;binOp op t x' gV) A:=by
 unfold K4 at h;have R3:∀r,B2 P t x y=some r->(binOp .eql t x' gV=do pure (.bool (<-Op.equal t x' gV)))/\(binOp .neq t x' gV=do pure (.bool (!(<-Op.equal t x' gV)))):=by
  intro r av;unfold B2 at av;split at av
  all_goals try (cases av;done)
  all_goals cases ak<;>cases bg<;>exact⟨rfl,rfl⟩
 split at h
 ·obtain⟨r,av,rfl⟩:=Option.map_eq_some_iff.1 h
  obtain⟨h1,ae⟩:=R2 (P:=P) (w:=w) ak bg av;refine⟨φ,w,.bool r,c8 (ae _ _ _) ?_,.bool _,cg.refl hr⟩;rw[(R3 r av).1];exact c8 h1 rfl
 ·obtain⟨r,av,rfl⟩:=Option.map_eq_some_iff.1 h
  obtain⟨h1,ae⟩:=R2 (P:=P) (w:=w) ak bg av;refine⟨φ,w,.bool !r,c8 (ae _ _ _) ?_,.bool _,cg.refl hr⟩;rw[(R3 r av).2];exact c8 h1 rfl
 ·cases h
def Hb:TypeDesc->Bool
 | .interface _=>true
 |_=>false
def K5 (P:aQ) (t:aH) (x:U):Option U:=
 match a7 P (underlying t) with
 |some d=>bif Hb d then none else some (.iface t x)
 |none=>none
theorem aa5 (hr:bR φ A w) {t:aH} {x x' v:U} (ak:aD φ x x') (h:K5 P t x=some v):bU (g' v) P φ A w (Instr.makeInterface t x') A:=by
 unfold K5 at h;split at h
 ·rename_i d hu
  cases a_:Hb d with
  |true=>rw[a_] at h;cases h
  |false=>
   rw[a_,ei,cx] at h;subst h;unfold Instr.makeInterface;refine bU.pre hu ?_;cases d<;>first|(cases a_;done)|exact bU.ret hr (.iface _ ak)
 ·cases h
def K6 (P:aQ) (x:U) (asserted:aH) (ok:Bool):Option U:=
 match a7 P (underlying asserted),x with
 |some (.interface want),.iface t _=>match a7 P (typeInfo t) with
  |some info=>match Instr.missingMethod want info.methods with
   |none=>some (if ok then .tuple #[x,.bool true] else x)
   |some _=>none
  |none=>none
 |some d,.iface t v=>bif Hb d then none else
   if t=asserted then some (if ok then .tuple #[v,.bool true] else v) else
    bif ok then match a7 P (zeroValue asserted) with
     |some z=>bif plain z then some (.tuple #[z,.bool false]) else none
     |none=>none
    else none
 |_,_=>none
theorem K7 {a aS:U} (h:aD φ a aS) (b:Bool):aD φ (.tuple #[a,.bool b]) (.tuple #[aS,.bool b]):= .tuple _ _ rfl λi af=>by
 have:i=0\/i=1:=by simp at af;omega
 rcases this with rfl|rfl
 ·simpa using h
 ·simpa using aD.bool b
theorem aa6 (hr:bR φ A w) {x x' v:U} {R4 asserted:aH} {ok:Bool} (ak:aD φ x x') (h:K6 P x asserted ok=some v):bU (g' v) P φ A w (Instr.typeAssert x' R4 asserted ok) A:=by
 unfold K6 at h;split at h
 ·rename_i want t u hu
  split at h
  ·rename_i info af
   split at h
   ·rename_i hm
    simp only [cx] at h;subst h;cases ak with
    |iface t aC=>
     unfold Instr.typeAssert;refine bU.pre hu ?_;simp only;refine bU.pre af ?_;simp only [hm];refine bU.ret hr ?_;cases ok
     ·exact .iface t aC
     ·exact K7 (.iface t aC) true
   ·cases h
  ·cases h
 ·rename_i d t u _ hu
  cases a_:Hb d with
  |true=>rw[a_] at h;cases h
  |false=>
   rw[a_,ei] at h;cases ak with
   |iface t aC=>
    unfold Instr.typeAssert;refine bU.pre hu ?_;by_cases aI:t=asserted
    ·rw[aN aI,cx] at h
     subst h;cases d<;>first
      |(cases a_;done)
      |(simp only [aN aI]
        refine bU.ret hr ?_;cases ok
        ·exact aC
        ·exact K7 aC true)
    ·rw[aO aI] at h
     cases ok with
     |false=>cases h
     |true=>
      rw[bw] at h;split at h
      ·rename_i z bG
       cases hp:plain z with
       |false=>rw[hp] at h;cases h
       |true=>
        rw[hp,bw,cx] at h;subst h;cases d<;>first
          |(cases a_;done)
          |(simp only [aO aI,if_true]
            refine bU.pre bG ?_
            exact bU.ret hr (K7 (aD.ku φ z hp) false))
      ·cases h
 ·cases h
end
end AE
namespace AE
variable [aY]
class Lib (P:aQ) where
 same:List FuncId
 R5:∀f∈same,∀x:U,a7 P (callFunc f #[x])=some (.value x)
 K8:List (FuncId×aH)
 R6:∀p∈K8,∃ps q8 t,(∀n w,(callFunc p.1 #[.int .i64 n]).run P w=(do pure (Next.value (<-Extern.BytealgMakeNoZero.makeNoZero ps q8 #[.int .i64 n])):Sem Next).run P w)/\q8[0]? =some t/\a7 P (underlying t)=some (.slice p.2)
section
variable {P:aQ} {φ:bQ} {A aV:aW} {w:au}
omit [aY] in
theorem Hc {r:Nat} {c:Array U} {t:aH} {f:Nat×Nat} (h:w.heap[r]? =some (.cells c t f)):(shape r).run P w= .ok (some (t,c.size)) w:=by
 simp only [shape,Sem.run,World.shape?,h]
omit [aY] in
theorem R7 {a:Addr} {c:Array U} {t:aH} {f:Nat×Nat} (h:w.heap[a.block]? =some (.cells c t f)):(Conv.seenAt a).run P w= .ok a w:=by
 unfold Conv.seenAt viewAt;refine c8 (a:=none) (c8 (Hc h) rfl) rfl
def K9 (P:aQ) (A:aW) (ou dst:aH) (x:U):Option U:=
 match a7 P (underlying ou),a7 P (underlying dst),x with
 |some (.pointer t),some .unsafePointer,.pointer (some ⟨b,off,none⟩)=>match a7 P (sizeOf t),A.bl.get b with
  |some n,some k=>match k.obj with
   | .cells c=>bif Nat.beq n 0|| !Nat.blt off c.length then none else some (.pointer (some ⟨b,off,none⟩))
   |_=>none
  |_,_=>none
 |some .unsafePointer,some (.pointer u),.pointer (some ⟨b,off,none⟩)=>match a7 P (sizeOf u),A.bl.get b with
  |some _,some k=>match k.obj with
   | .cells c=>bif Nat.beq k.eB 0&&liesAt P P.depth k.ty (c.length/P.cellsOf k.ty) off u 1 then some (.pointer (some ⟨b,off,none⟩)) else none
   |_=>none
  |_,_=>none
 |_,_,_=>none
theorem aa7 (hr:bR φ A w) {ou dst:aH} {x x' v:U} (ak:aD φ x x') (h:K9 P A ou dst x=some v):bU (g' v) P φ A w (convert ou dst x') A:=by
 unfold K9 at h;split at h
 ·rename_i t b off av a_
  split at h
  ·rename_i n k aq ag
   split at h
   ·rename_i c fq
    cases al:(Nat.beq n 0|| !Nat.blt off c.length) with
    |true=>rw[al] at h;cases h
    |false=>
     rw[al,ei,cx] at h;subst h;simp only [Bool.or_eq_false_iff,Bool.not_eq_false'] at al;have ak4:off<c.length:=Nat.blt_eq.mp al.2;have fO:n≠0:=λe=>by subst e;simp at al
     cases ak with
     |ptr he=>
      rename_i e;obtain⟨k',dm,_,ho⟩:=hr.ep b e he;rw[ag] at dm;cases dm;unfold fy at ho;simp only [fq] at ho;obtain⟨c',jJ,h1,ae,ay,bE,cn⟩:=ho;refine⟨φ,w,.pointer (some ⟨e.bf,e.sh+off,none⟩),?_,.ptr he,cg.refl hr⟩;unfold convert;refine cK av (cK a_ ?_);show (Conv.unsafePointer ou dst (.pointer (some ⟨e.bf,e.sh+off,none⟩))).run P w=_;unfold Conv.unsafePointer;refine cK av (cK a_ ?_);simp only;refine c8 (R7 h1) ?_;refine c8 (a:=some c'.size) (by unfold cellsIn;exact c8 (Hc h1) rfl) ?_;refine cK aq ?_;have kx:¬(c'.size<=e.sh+off):=by omega
      simp only [fO,decide_false,ge_iff_le,kx,Bool.false_and,Bool.or_false,Bool.false_eq_true,if_false];rfl
   ·cases h
  ·cases h
 ·rename_i u b off av a_
  split at h
  ·rename_i ak5 k aa8 ag
   split at h
   ·rename_i c fq
    cases al:(Nat.beq k.eB 0&&liesAt P P.depth k.ty (c.length/P.cellsOf k.ty) off u 1) with
    |false=>rw[al] at h;cases h
    |true=>
     rw[al,bw,cx] at h;subst h;simp only [c0] at al;have cB:k.eB=0:=ct al.1;cases ak with
     |ptr he=>
      rename_i e;obtain⟨k',dm,_,ho⟩:=hr.ep b e he;rw[ag] at dm;cases dm;unfold fy at ho;simp only [fq] at ho;obtain⟨c',jJ,h1,ae,ay,bE,cn⟩:=ho;obtain⟨Ac,cb⟩:=ay.2 cB;have K':liesAt P P.depth k.ty (c'.size/P.cellsOf k.ty) (e.sh+off) u 1=true:=by rw[Ac,Nat.zero_add,<-cb];exact al.2
      refine⟨φ,w,.pointer (some ⟨e.bf,e.sh+off,none⟩),?_,.ptr he,cg.refl hr⟩;unfold convert;refine cK av (cK a_ ?_);show (Conv.unsafePointer ou dst (.pointer (some ⟨e.bf,e.sh+off,none⟩))).run P w=_;unfold Conv.unsafePointer;refine cK av (cK a_ ?_);simp only;refine c8 (R7 h1) ?_;have aC:(variablesAt ⟨e.bf,e.sh+off,none⟩ u 1).run P w= .ok true w:=by
       unfold variablesAt;refine cK (a:=P) rfl ?_;refine c8 (Hc h1) ?_;simp only [K'];rfl
      refine cK aa8 ?_;refine c8 aC ?_;simp only [Bool.or_true,if_true];rfl
   ·cases h
  ·cases h
 ·cases h
def K_ (A:aW) (elem:aH) (n:Int):Option (U×aW):=
 bif decide (0<=n)&&decide (n<=524288) then
  match A.push (.cells (List.replicate n.toNat cL)) 1 elem with
  |some (r,bt)=>some (.slice (some ⟨r,0,none⟩) n.toNat n.toNat,bt)
  |none=>none
 else none
omit [aY] in
theorem R8:∀(n t:Nat) (acc:Array U),(Extern.BytealgMakeNoZero.digits n t acc).size=acc.size+n
 |0,_,_=>rfl
 |n+1,t,acc=>by
  unfold Extern.BytealgMakeNoZero.digits;rw[R8 n];simp;omega
theorem aa9 (hr:bR φ A w) {ps q8:Array aH} {t elem:aH} {n:Int} {v:U} (aI:q8[0]? =some t) (hu:a7 P (underlying t)=some (.slice elem)) (h:K_ A elem n=some (v,aV)):
  bU (g' v) P φ A w (Extern.BytealgMakeNoZero.makeNoZero ps q8 #[.int .i64 n]) aV:=by
 unfold K_ at h;cases al:(decide (0<=n)&&decide (n<=524288)) with
 |false=>rw[al] at h;cases h
 |true=>
  rw[al,bw] at h;simp only [c0,decide_eq_true_eq] at al;split at h
  ·rename_i r bt hp
   simp only [cx,Prod.mk.injEq] at h;obtain⟨rfl,rfl⟩:=h
   let q:Question:= .appendCap n.toNat 0 elem
   let cap:=q.cut (w.tape w.drawn q)
   have j1:n.toNat<=cap:=by simp [cap,q,Question.cut]
   let aE:Question:= .extern "internal/bytealg.MakeNoZero.bytes" 0
   have k5:bR φ A {w with drawn:=w.drawn+1+1}:=(cg.yx hr (w.drawn+1+1)).rel
   let row:=Extern.BytealgMakeNoZero.digits cap (aE.cut (w.tape (w.drawn+1) aE)) #[]
   have np:row.size=cap:=by simp [row,R8]
   obtain⟨cR,w',g1,g2,g3,g4⟩:=BY k5 P (c':=row) elem hp (by rw[np,lG];exact j1) (λh=>absurd h cv) (λj hj=>by
    rw[dr,List.getElem?_replicate,aN (by simpa using hj)]
    exact .cL _)
   refine⟨cR,w',.slice (some ⟨w.heap.size,0,none⟩) n.toNat cap,?_,?_,cg.trans hr (cg.yx hr (w.drawn+1+1)) g3⟩
   ·obtain⟨R9⟩:=q8
    obtain⟨rest,rfl⟩:∃rest,R9=t::rest:=by
     cases R9 with
     |nil=>simp at aI
     |cons a r=>simp at aI;exact⟨r,by rw[aI]⟩
    refine cK (s:=underlying t) hu ?_;simp only;rw[aO (by simp;omega)];refine c8 (w1:={w with drawn:=w.drawn+1}) (a:=cap) (by simp [choose,Sem.run,Question.forced,cap,q]) ?_;refine c8 (w1:={w with drawn:=w.drawn+1}) (a:=()) (by unfold askRoom;split<;>rfl) ?_;refine c8 (w1:={w with drawn:=w.drawn+1+1}) (a:=aE.cut (w.tape (w.drawn+1) aE)) (by simp only [choose,Sem.run];rfl) ?_;exact c8 g1 rfl
   ·have:=aD.ia (φ:=cR) (b:=r) (o:=0) n.toNat n.toNat cap g2 (bY _) j1 (by simp [np])
    simpa using this
  ·cases h
def La:List U->ByteArray->Option ByteArray
 |[],acc=>some acc
 | .int .u8 b::r,acc=>La r (acc.push b.toNat.toUInt8)
 |_::_,_=>none
theorem aa' (hr:bR φ A w) {b:Nat} {e:gZ} (he:φ b=some e):∀(l:List U) (off:Nat) (acc s:ByteArray),(∀j,j<l.length->A.load b (off+j)=some (l.getD j undef))->La l acc=some s->
  (loadBytes ⟨e.bf,e.sh+off,none⟩ acc l.length).run P w= .ok s w:=by
 intro l
 induction l with
 |nil=>
  intro off acc s _ h;cases h;rfl
 |cons v r cd=>
  intro off acc s hl h;cases v with
  |int k x=>
   cases k<;>try (cases h;done)
   have aJ:=hl 0 (by simp);obtain⟨aB,h1,ae⟩:=tY hr aJ he;simp only [List.getD_cons_zero] at ae;cases ae;have RG:w.cell? ⟨e.bf,e.sh+off,none⟩=some (.int .u8 x):=by simpa using h1
   have vx:∀j,j<r.length->A.load b (off+1+j)=some (r.getD j undef):=λj hj=>by
    have:=hl (j+1) (by simpa using hj);rw[show off+(j+1)=off+1+j by omega] at this;simpa using this
   have:=cd (off+1) (acc.push x.toNat.toUInt8) s vx h;show (loadBytes _ acc (r.length+1)).run P w=_;unfold loadBytes;refine c8 (a:= .int .u8 x) (w1:=w) (by simp [Go.load,Sem.run,RG]) ?_;simp only [Addr.jZ];rw[Nat.add_assoc];exact this
  |_=>cases h
def B3 (cE:Nat):List Nat->b4 hE->Option (b4 hE)
 |[],t=>some t
 |m::r,t=>match t.get m with
  |some k=>bif Nat.beq k.cE cE then
    match b4.set {k with ro:=true} depth t m with
    |some da=>B3 cE r da
    |none=>none
   else B3 cE r t
  |none=>B3 cE r t
def uf (cE:Nat) (k:hE):hE:=bif Nat.beq k.cE cE then {k with ro:=true} else k
omit [aY] in
theorem aa_ (cE:Nat) (k:hE):uf cE (uf cE k)=uf cE k:=by
 unfold uf;cases h:Nat.beq k.cE cE<;>simp [h]
omit [aY] in
theorem Hd (cE:Nat):∀(l:List Nat) (t da:b4 hE),B3 cE l t=some da->∀j,da.get j=if j∈l then (t.get j).map (uf cE) else t.get j
 |[],t,da,h,j=>by cases h;simp
 |m::r,t,da,h,j=>by
  unfold B3 at h;split at h
  ·rename_i k ag
   cases aP:Nat.beq k.cE cE with
   |true=>
    rw[aP,bw] at h;split at h
    ·rename_i t1 abb
     have gp:=λj=>b4.nS _ _ _ _ _ j abb
     have mr:({k with ro:=true}:hE)=uf cE k:=by simp [uf,aP]
     rw[Hd cE r t1 da h j,gp];by_cases eX:j=m
     ·subst eX
      rw[aN rfl,aN List.mem_cons_self,ag,mr];split
      ·simp [aa_]
      ·rfl
     ·rw[aO eX]
      have:(j∈m::r)↔j∈r:=by simp [eX]
      simp only [this]
    ·cases h
   |false=>
    rw[aP,ei] at h;rw[Hd cE r t da h j];by_cases eX:j=m
    ·subst eX
     rw[aN List.mem_cons_self,ag];have:uf cE k=k:=by simp [uf,aP]
     split<;>simp [this]
    ·have:(j∈m::r)↔j∈r:=by simp [eX]
     simp only [this]
  ·rename_i ag
   rw[Hd cE r t da h j];by_cases eX:j=m
   ·subst eX
    rw[aN List.mem_cons_self,ag];split<;>rfl
   ·have:(j∈m::r)↔j∈r:=by simp [eX]
    simp only [this]
def aW.freeze (A:aW) (k:hE):Option aW:=
 match A.mem.get k.cE with
 |some l=>match B3 k.cE l A.bl with
  |some t=>some {A with bl:=t,low:=l.foldl Nat.min A.low}
  |none=>none
 |none=>none
theorem abd (hr:bR φ A w) {b n:Nat} {k:hE} {c:List U} {e:gZ} (off:Nat) (ag:A.bl.get b=some k) (fq:k.obj= .cells c) (dC:k.ro=false) (he:φ b=some e) (h:A.freeze k=some aV):
  cg φ A w φ aV (w.freeze ⟨e.bf,e.sh+off,none⟩ n):=by
 unfold aW.freeze at h;split at h
 ·rename_i l hl
  split at h
  ·rename_i t aI
   cases h;have gp:=Hd _ _ _ _ aI;obtain⟨rU,abe⟩:=GQ l A.low;obtain⟨d',hg,_,ho⟩:=hr.ep b e he;rw[ag] at hg;cases hg;unfold fy at ho;simp only [fq] at ho;obtain⟨c',jJ,h1,ae,ay,bE,cn⟩:=ho;have fN:∀j dG,t.get j=some dG->∃b5,A.bl.get j=some b5/\dG.cE=b5.cE/\dG.pos=b5.pos/\dG.eB=b5.eB/\dG.ty=b5.ty/\dG.obj=b5.obj/\dG.ro=(b5.ro||Nat.beq b5.cE k.cE):=by
    intro j dG hj;rw[gp] at hj;by_cases kM:j∈l
    ·rw[aN kM] at hj
     obtain⟨b5,q1,rfl⟩:=Option.map_eq_some_iff.1 hj;refine⟨b5,q1,?_⟩;unfold uf;cases aP:Nat.beq b5.cE k.cE<;>simp
    ·rw[aO kM] at hj
     refine⟨dG,hj,rfl,rfl,rfl,rfl,rfl,?_⟩;cases aP:Nat.beq dG.cE k.cE with
     |false=>simp
     |true=>
      exfalso;obtain⟨l',q1,aE⟩:=hr.wf.mem j dG hj;rw[ct aP,hl] at q1;cases q1;exact kM aE
   have pz:∀i,i≠e.bf->(w.freeze ⟨e.bf,e.sh+off,none⟩ n).heap[i]? =w.heap[i]? :=λi af=>by
    unfold World.freeze;split
    ·rfl
    ·simp only [Array.getElem?_modify]
     rw[aO (Ne.symm af)]
   have Lb:∃He,(w.freeze ⟨e.bf,e.sh+off,none⟩ n).heap[e.bf]? =some (.cells c' k.ty He):=by
    unfold World.freeze;split
    ·exact⟨jJ,h1⟩
    ·simp only [Array.getElem?_modify,aN,h1,Option.map_some]
     exact⟨_,rfl⟩
   obtain⟨He,Lb⟩:=Lb;refine {rel:=⟨⟨?_,?_,?_,?_⟩,?_,?_,?_,λi o af=>⟨by rw[pz i (Ne.symm ((hr.dg i o af).2 _ _ he))];exact(hr.dg i o af).1,(hr.dg i o af).2⟩⟩,ep:=λ_ _=>rfl,qW:=λb h1 ae=>absurd ae (by show ¬b<A.n;omega),new:=λb e h1 ae=>absurd (hr.lt ae) ao,py:=bY _,low:=rU,same:= ?_,ro:= ?_,keep:= ?_,fX:= ?_,os:= ?_,tape:= ?_,output:= ?_,drawn:= ?_}
   ·intro j dG hj
    obtain⟨b5,q1,_⟩:=fN j dG hj;exact hr.wf.lt j b5 q1
   ·intro j dG hj
    obtain⟨b5,q1,aE,_⟩:=fN j dG hj;rw[aE];exact hr.wf.s4 j b5 q1
   ·intro j dG hj
    obtain⟨b5,q1,aE,_⟩:=fN j dG hj;rw[aE];exact hr.wf.mem j b5 q1
   ·intro j oW fb oX hj gn aP
    obtain⟨b5,q1,aE,_,_,_,_,b9⟩:=fN j oW hj;obtain⟨dG,t',zZ,_,_,_,_,rX⟩:=fN fb oX gn;rw[aE,zZ] at aP;rw[b9,rX,hr.wf.tW j b5 fb dG q1 t' aP,aP]
   ·intro j fE hj
    obtain⟨b5,hh,vu,hK⟩:=hr.ep j fE hj;obtain⟨dG,R'⟩:∃dG,t.get j=some dG:=by
     rw[gp];split
     ·rw[hh];exact⟨_,rfl⟩
     ·exact⟨b5,hh⟩
    obtain⟨ft,q1,aE,b9,ey,hv,lJ,qa⟩:=fN j dG R';rw[hh] at q1;cases q1;refine⟨dG,R',by rw[ey];exact vu,?_⟩;by_cases jt:fE.bf=e.bf
    ·have oo:b5.cE=k.cE:=by
      rcases Nat.lt_trichotomy b5.cE k.cE with h|h|h
      ·exact absurd jt (hr.apart j fE b5 b e k hj he hh ag ao)
      ·exact h
      ·exact absurd jt (hr.apart j fE b5 b e k hj he hh ag ao)
     have abf:dG.ro=true:=by rw[qa,oo];simp
     unfold fy at hK ⊢;rw[lJ];cases gW:b5.obj with
     |cells z1=>
      simp only [gW] at hK ⊢;obtain⟨DI,DJ,cS,dL,fZ,wN,BS⟩:=hK;rw[jt,h1] at cS;simp only [cx,Obj.cells.injEq] at cS;obtain⟨rfl,hty,rfl⟩:=cS;refine⟨c',He,by rw[jt,hv,<-hty];exact Lb,dL,by rw[ey];exact fZ,wN,λai=> ?_⟩;rw[abf] at ai;cases ai
     |map es eE=>
      simp only [gW] at hK;obtain⟨c9,cS,_⟩:=hK;rw[jt,h1] at cS;cases cS
     |fL x=>
      simp only [gW] at hK;obtain⟨_,o',cS,dL⟩:=hK;rw[jt,h1] at cS;cases cS;exact absurd dL λh=>qV.Rr h
    ·have:=hK.mono (w':=w.freeze ⟨e.bf,e.sh+off,none⟩ n) (λ_ _ h=>h) (pz _ jt)
     unfold fy at this ⊢;rw[lJ];cases gW:b5.obj with
     |cells z1=>
      simp only [gW] at this ⊢;obtain⟨DI,DJ,cS,dL,fZ,wN,BS⟩:=this;refine⟨DI,DJ,by rw[hv];exact cS,dL,by rw[ey];exact fZ,wN,λai=>BS ?_⟩;rw[qa] at ai;simp only [Bool.or_eq_false_iff] at ai;exact ai.1
     |map es eE=>
      simp only [gW] at this ⊢;exact this
     |fL x=>
      simp only [gW] at this ⊢;exact this
   ·intro j fE oW fb p5 oX q1 aE hj gn cC
    obtain⟨b5,cS,dL,_⟩:=fN j oW hj;obtain⟨dG,te,ug,_⟩:=fN fb oX gn;exact hr.apart j fE b5 fb p5 dG q1 aE cS te (by rw[<-dL,<-ug];exact cC)
   ·intro j fE oW fb p5 oX q1 aE hj gn aP ad
    obtain⟨b5,cS,dL,fZ,_⟩:=fN j oW hj;obtain⟨dG,te,ug,B4,_⟩:=fN fb oX gn;rw[fZ,B4];exact hr.along j fE b5 fb p5 dG q1 aE cS te (by rw[<-dL,<-ug];exact aP) ad
   ·intro j hj kM
    show t.get j=_;rw[gp,aO];intro hm;have:=abe j hm;exact absurd kM (by show ¬j<l.foldl Nat.min A.low;omega)
   ·intro j b5 hh qZ
    show t.get j=_;rw[gp];split
    ·rw[hh]
     simp only [Option.map_some,cx];unfold uf;cases aP:Nat.beq b5.cE k.cE with
     |false=>rfl
     |true=>
      obtain⟨ib,f1,hi,s1,ak6,t1⟩:=b5;simp only at qZ;subst qZ;rfl
    ·exact hh
   ·intro i af kL
    refine pz i λrZ=> ?_
    have:=kL b e k he rZ.symm ag;rw[dC] at this;cases this
   ·unfold World.freeze;split
    ·exact bY _
    ·simp
   all_goals (unfold World.freeze;split<;>first|rfl|exact bY _)
  ·cases h
 ·cases h
def Lc (P:aQ) (A:aW) (cM:Array aH) (x n:U):Option (U×aW):=
 match cM[0]?,x,n with
 |some R_,.pointer (some ⟨b,off,none⟩),.int _ n=>match a7 P (elemOf R_),A.bl.get b with
  |some u,some k=>match k.obj with
   | .cells _=>
     bif decide (0<n)&&decide (n<=16777216)&&Nat.beq (P.cellsOf k.ty) 1&&sameLayout P P.depth k.ty u&& !k.ro then
      match A.q0 b off n.toNat with
      |some l=>match La l .empty,A.freeze k with
       |some s,some bt=>some (.string s,bt)
       |_,_=>none
      |none=>none
     else none
   |_=>none
  |_,_=>none
 |_,_,_=>none
theorem abg (hr:bR φ A w) {cM:Array aH} {ty:aH} {x x' n v:U} (ak:aD φ x x') (h:Lc P A cM x n=some (v,aV)):bU (g' v) P φ A w (Builtin.unsafeString_ cM ty #[x',n]) aV:=by
 unfold Lc at h;split at h
 ·rename_i R_ b off ft n abh
  split at h
  ·rename_i u k hu ag
   split at h
   ·rename_i c fq
    cases al:(decide (0<n)&&decide (n<=16777216)&&Nat.beq (P.cellsOf k.ty) 1&&sameLayout P P.depth k.ty u&& !k.ro) with
    |false=>rw[al] at h;cases h
    |true=>
     rw[al,bw] at h;simp only [c0,decide_eq_true_eq,Bool.not_eq_true'] at al;obtain⟨⟨⟨⟨fO,js⟩,uh⟩,Sa⟩,dC⟩:=al;have uh:P.cellsOf k.ty=1:=ct uh;split at h
     ·rename_i l hl
      split at h
      ·rename_i s bt av aP
       simp only [cx,Prod.mk.injEq] at h;obtain⟨rfl,rfl⟩:=h;cases ak with
       |ptr he=>
        rename_i e;obtain⟨hlen,wS⟩:=z6 hl;obtain⟨k',dm,_,ho⟩:=hr.ep b e he;rw[ag] at dm;cases dm;unfold fy at ho;simp only [fq] at ho;obtain⟨c',jJ,h1,ae,ay,bE,cn⟩:=ho;have pC:off+n.toNat<=c.length:=by
         have az:=wS (n.toNat-1) ao;unfold aW.load at az;rw[ag] at az;obtain⟨vt,cE,pos,st,ro,ak7⟩:=k;simp only at fq;subst fq;simp only at az;have:=(List.getElem?_eq_some_iff.1 az).1;omega
        have eQ:=aa' (P:=P) hr he l off .empty s (λj hj=>wS j ao) av;have oY:=abd (n:=n.toNat) hr off ag fq dC he aP;refine⟨φ,_,.string s,?_,.string s,oY⟩;have K':liesAt P P.depth k.ty (c'.size/P.cellsOf k.ty) (e.sh+off) u n.toNat=true:=by
         obtain⟨d,a_⟩:∃d,P.depth=d+1:=⟨_,rfl⟩;rw[a_] at Sa ⊢;unfold liesAt rowAt;rw[a_];simp only [uh,Nat.div_one,Nat.mod_one,beq_self_eq_true,Bool.true_and];have:decide (e.sh+off+n.toNat<=c'.size)=true:=gU ao;simp [this,Sa]
        have aC:(variablesAt ⟨e.bf,e.sh+off,none⟩ u n.toNat).run P w= .ok true w:=by
         unfold variablesAt;refine cK (a:=P) rfl ?_;refine c8 (Hc h1) ?_;simp only [K'];rfl
        refine cK (s:=asInt (.int ft n)) (a:=n) rfl ?_;have wX:¬n>IntKind.i64.max:=by
         have:(16777216:Int)<=IntKind.i64.max:=by decide
         omega
        simp only [abh];rw[aO ao,aO wX,aO ao];refine cK hu ?_;refine c8 aC ?_;rw[aN rfl];refine c8 (by rw[<-hlen];exact eQ) ?_;rfl
      ·cases h
     ·cases h
   ·cases h
  ·cases h
 ·cases h
def Ld (P:aQ) (A:aW) (cM:Array aH) (x:U):Option aW:=
 match cM[0]? with
 |some t=>match a7 P (underlying t),x with
  |some (.slice _),.slice none _ _=>some A
  |some (.slice elem),.slice (some ⟨b,off,none⟩) n _=>bif Nat.beq n 0 then some A else
    match a7 P (zeroValue elem) with
    |some z=>bif plain z&&(cellsOf z).isSome&&Nat.blt 0 z.cells.size then A.p6 b off (Builtin.zeroCells z.cells n).toList else none
    |none=>none
  |_,_=>none
 |none=>none
theorem abi (hr:bR φ A w) {cM:Array aH} {ty:aH} {x x':U} (ak:aD φ x x') (h:Ld P A cM x=some aV):bU (g' undef) P φ A w (Builtin.clear_ cM ty #[x']) aV:=by
 unfold Ld at h;split at h
 ·rename_i t aI
  split at h
  ·rename_i e l c hu
   cases h;cases ak;refine⟨φ,w,undef,?_,aD.yw φ,cg.refl hr⟩;unfold Builtin.clear_;simp only [aI,List.getElem?_toArray,List.getElem?_cons_zero];exact cK hu rfl
  ·rename_i elem b off n c hu
   have abj:∃aS c',x'= .slice (some aS) n c':=by
    cases ak with
    |h_ _ _ h=>exact⟨_,_,rfl⟩
    |ia _ _ _ h _ _ _=>exact⟨_,_,rfl⟩
    |iB aS _=>exact⟨_,_,rfl⟩
   cases aq:Nat.beq n 0 with
   |true=>
    rw[aq] at h;cases h;have fO:n=0:=ct aq;subst fO;obtain⟨aS,c',rfl⟩:=abj;refine⟨φ,w,undef,?_,aD.yw φ,cg.refl hr⟩;unfold Builtin.clear_;simp only [aI,List.getElem?_toArray,List.getElem?_cons_zero];exact cK hu rfl
   |false=>
    rw[aq,ei] at h;have fO:n≠0:=λe=>by subst e;simp at aq
    split at h
    ·rename_i z bG
     cases al:(plain z&&(cellsOf z).isSome&&Nat.blt 0 z.cells.size) with
     |false=>rw[al] at h;cases h
     |true=>
      rw[al,bw] at h;simp only [c0] at al;have q4:=Nat.blt_eq.mp al.2;have pB:=G1 al.1.1 al.1.2 φ;have ka:∀j,j<(Builtin.zeroCells z.cells n).toList.length->aD φ ((Builtin.zeroCells z.cells n).toList.getD j undef) ((Builtin.zeroCells z.cells n).toList.getD j undef):=by
       intro j hj;unfold Builtin.zeroCells at hj ⊢;simp at hj;have hm:=Nat.mod_lt j q4;have:=pB (j%z.cells.size) hm;simp only [e5] at this;simpa [dr,hj,hm,getElem!_pos] using this
      have main:∀(e:gZ) (c':Nat),φ b=some e->x'= .slice (some ⟨e.bf,e.sh+off,none⟩) n c'->bU (g' undef) P φ A w (Builtin.clear_ cM ty #[x']) aV:=by
       intro e c' he q7;obtain⟨w',g1,g2⟩:=BX P he _ A aV w off 0 (Builtin.zeroCells z.cells n).toList hr (by simpa using h) rfl ka;refine⟨φ,w',undef,?_,aD.yw φ,g2⟩;subst q7;unfold Builtin.clear_;simp only [aI,List.getElem?_toArray,List.getElem?_cons_zero];refine cK hu ?_;obtain⟨fz,rfl⟩:∃fz,n=fz+1:=⟨n-1,ao⟩;refine cK bG ?_;exact c8 (by simpa using g1) rfl
      cases ak with
      |h_ _ _ he=>exact main _ _ he rfl
      |ia _ _ _ he _ _ _=>exact main _ _ he rfl
      |iB aS _=>exact absurd rfl fO
    ·cases h
  ·cases h
 ·cases h
end
end AE
namespace AE
variable [aY]
def aW.Ad (A:aW) (b:Nat):Option (List jP×Nat):=
 match A.bl.get b with
 |some k=>match k.obj with
  | .map es eE=>some (es,eE)
  |_=>none
 |none=>none
def aW.wY (A:aW) (b:Nat) (es:List jP) (eE:Nat):Option aW:=
 match A.bl.get b with
 |some k=>match k.obj,A.mem.get k.cE with
  | .map _ _,some [m]=>bif Nat.beq m b&& !k.ro then
      match b4.set {k with obj:= .map es eE} depth A.bl b with
      |some t=>some {A with bl:=t,low:=Nat.min A.low b}
      |none=>none
    else none
  |_,_=>none
 |none=>none
def aW.Le (A:aW) (b:Nat):Option (ByteArray×Nat):=
 match A.bl.get b with
 |some k=>match k.obj with
  | .fL (.wM s p)=>some (s,p)
  |_=>none
 |none=>none
def aW.setIter (A:aW) (b:Nat) (s:ByteArray) (p:Nat):Option aW:=
 match A.bl.get b with
 |some k=>match k.obj,A.mem.get k.cE with
  | .fL _,some [m]=>bif Nat.beq m b&& !k.ro then
      match b4.set {k with obj:= .fL (.wM s p)} depth A.bl b with
      |some t=>some {A with bl:=t,low:=Nat.min A.low b}
      |none=>none
    else none
  |_,_=>none
 |none=>none
def kQ (φ:bQ) (es:List jP) (c9:Array MapEntry):Prop:=
 es.length=c9.size/\∀(j:Nat) (a:jP) (b:MapEntry),es[j]? =some a->c9[j]? =some b->plain a.key=true/\a.key=b.key/\aD φ a.val b.val/\a.born=b.born
section
variable {P:aQ} {φ:bQ} {A aV:aW} {w:au}
theorem D1 (hr:bR φ A w) {b:Nat} {es:List jP} {eE:Nat} {e:gZ} (h:A.Ad b=some (es,eE)) (he:φ b=some e):∃c9,w.heap[e.bf]? =some (.map c9 eE)/\kQ φ es c9:=by
 unfold aW.Ad at h;split at h
 ·rename_i k ag
  obtain⟨k',dm,_,ho⟩:=hr.ep b e he;rw[ag] at dm;cases dm;split at h
  ·rename_i Ae ak8 fq
   cases h;simp only [fy,fq] at ho;obtain⟨c9,h1,ae,ay⟩:=ho;exact⟨c9,h1,ae,ay⟩
  ·cases h
 ·cases h
theorem abk (hr:bR φ A w) {b p:Nat} {s:ByteArray} {e:gZ} (h:A.Le b=some (s,p)) (he:φ b=some e):e.sh=0/\w.heap[e.bf]? =some (.stringIter s p):=by
 unfold aW.Le at h;split at h
 ·rename_i k ag
  obtain⟨k',dm,_,ho⟩:=hr.ep b e he;rw[ag] at dm;cases dm;split at h
  ·rename_i a6 yC fq
   cases h;simp only [fy,fq] at ho;obtain⟨aJ,o',h1,ae⟩:=ho;simp only [qV] at ae;exact⟨aJ,by rw[h1,ae]⟩
  ·cases h
 ·cases h
theorem Sb (hr:bR φ A w) {b:Nat} {k:hE} {o:p3} {t:b4 hE} {e:gZ} {o':Obj} (he:φ b=some e) (ag:A.bl.get b=some k) (mP:A.mem.get k.cE=some [b]) (dC:k.ro=false) (aI:b4.set {k with obj:=o} depth A.bl b=some t)
  (ho:∀w',w'.heap[e.bf]? =some o'->fy φ w' e k->fy φ w' e {k with obj:=o}\/True) (Aa:∀w',w'.heap[e.bf]? =some o'->fy φ w' e {k with obj:=o}):
  cg φ A w φ {A with bl:=t,low:=Nat.min A.low b} {w with heap:=w.heap.setIfInBounds e.bf o'}:=by
 have gp:=λj=>b4.nS _ _ _ _ _ j aI
 obtain⟨d',hg,cB,B5⟩:=hr.ep b e he;rw[ag] at hg;cases hg;have b8:=B5.lt;have Lf:∀j b5,A.bl.get j=some b5->b5.cE=k.cE->j=b:=by
  intro j b5 hj aP;obtain⟨l,q1,aE⟩:=hr.wf.mem j b5 hj;rw[aP,mP] at q1;cases q1;simpa using aE
 have cC:∀j fE,j≠b->φ j=some fE->fE.bf≠e.bf:=by
  intro j fE hj hF;obtain⟨b5,hh,_,_⟩:=hr.ep j fE hF;exact hr.apart j fE b5 b e k hF he hh ag λaP=>hj (Lf j b5 hh aP)
 have pz:∀i,i≠e.bf->(w.heap.setIfInBounds e.bf o')[i]? =w.heap[i]? :=λi af=>by
  rw[Array.getElem?_setIfInBounds_ne (Ne.symm af)]
 have fN:∀j dG,t.get j=some dG->∃b5,A.bl.get j=some b5/\dG.cE=b5.cE/\dG.pos=b5.pos/\dG.ro=b5.ro:=by
  intro j dG hj;rw[gp] at hj;by_cases eX:j=b
  ·rw[aN eX] at hj
   cases hj;subst eX;exact⟨k,ag,rfl,rfl,rfl⟩
  ·rw[aO eX] at hj
   exact⟨dG,hj,rfl,rfl,rfl⟩
 refine {rel:=⟨⟨?_,?_,?_,?_⟩,?_,?_,?_,λi o af=>⟨by rw[pz i (Ne.symm ((hr.dg i o af).2 _ _ he))];exact(hr.dg i o af).1,(hr.dg i o af).2⟩⟩,ep:=λ_ _=>rfl,qW:=λb h1 ae=>absurd ae (by show ¬b<A.n;omega),new:=λb e h1 ae=>absurd (hr.lt ae) ao,py:=bY _,low:=Nat.min_le_left _ _,same:= ?_,ro:= ?_,keep:= ?_,fX:=by simp,os:=rfl,tape:=rfl,output:=rfl,drawn:=bY _}
 ·intro j dG hj
  obtain⟨b5,q1,_⟩:=fN j dG hj;exact hr.wf.lt j b5 q1
 ·intro j dG hj
  obtain⟨b5,q1,aE,_⟩:=fN j dG hj;rw[aE];exact hr.wf.s4 j b5 q1
 ·intro j dG hj
  obtain⟨b5,q1,aE,_⟩:=fN j dG hj;rw[aE];exact hr.wf.mem j b5 q1
 ·intro j oW fb oX hj gn aP
  obtain⟨b5,q1,aE,_,b9⟩:=fN j oW hj;obtain⟨dG,t',zZ,_,rX⟩:=fN fb oX gn;rw[b9,rX];exact hr.wf.tW j b5 fb dG q1 t' (by rw[<-aE,<-zZ];exact aP)
 ·intro j fE hj
  by_cases eX:j=b
  ·subst eX
   rw[he] at hj;cases hj;exact⟨{k with obj:=o},by rw[gp,aN rfl],cB,Aa _ (by show (w.heap.setIfInBounds e.bf o')[e.bf]? =_;rw[Array.getElem?_setIfInBounds_self_of_lt b8])⟩
  ·obtain⟨b5,hh,vu,hK⟩:=hr.ep j fE hj
   exact⟨b5,by rw[gp,aO eX];exact hh,vu,hK.mono (λ_ _ h=>h) (pz _ (cC j fE eX hj))⟩
 ·intro j fE oW fb p5 oX q1 aE hj gn mu
  obtain⟨b5,cS,dL,_⟩:=fN j oW hj;obtain⟨dG,te,ug,_⟩:=fN fb oX gn;exact hr.apart j fE b5 fb p5 dG q1 aE cS te (by rw[<-dL,<-ug];exact mu)
 ·intro j fE oW fb p5 oX q1 aE hj gn aP ad
  obtain⟨b5,cS,dL,fZ,_⟩:=fN j oW hj;obtain⟨dG,te,ug,B4,_⟩:=fN fb oX gn;rw[fZ,B4];exact hr.along j fE b5 fb p5 dG q1 aE cS te (by rw[<-dL,<-ug];exact aP) ad
 ·intro j hj kM
  show t.get j=_;rw[gp,aO];intro eX;subst eX;exact absurd (Nat.lt_of_lt_of_le kM (Nat.min_le_right A.low j)) (Nat.lt_irrefl j)
 ·intro j b5 hh qZ
  show t.get j=_;rw[gp,aO]
  ·exact hh
  ·intro eX
   subst eX;rw[ag] at hh;cases hh;rw[dC] at qZ;cases qZ
 ·intro i af kL
  refine pz i λrZ=> ?_
  have:=kL b e k he rZ.symm ag;rw[dC] at this;cases this
theorem Af (hr:bR φ A w) {b:Nat} {es:List jP} {c9:Array MapEntry} {eE:Nat} {e:gZ} (he:φ b=some e) (h:A.wY b es eE=some aV) (er:kQ φ es c9):cg φ A w φ aV {w with heap:=w.heap.setIfInBounds e.bf (.map c9 eE)}:=by
 unfold aW.wY at h;split at h
 ·rename_i k ag
  split at h
  ·rename_i jg D2 m fq mP
   cases al:(Nat.beq m b&& !k.ro) with
   |false=>rw[al] at h;cases h
   |true=>
    rw[al,bw] at h;simp only [c0,Bool.not_eq_true'] at al;have D3:m=b:=ct al.1;subst D3;split at h
    ·rename_i t aI
     cases h;exact Sb hr he ag mP al.2 aI (λ_ _ _=> .inr trivial) λw' DL=>by
      simp only [fy];exact⟨c9,DL,er.1,er.2⟩
    ·cases h
  ·cases h
 ·cases h
theorem abl (hr:bR φ A w) {b p:Nat} {s:ByteArray} {e:gZ} (he:φ b=some e) (aJ:e.sh=0) (h:A.setIter b s p=some aV):cg φ A w φ aV {w with heap:=w.heap.setIfInBounds e.bf (.stringIter s p)}:=by
 unfold aW.setIter at h;split at h
 ·rename_i k ag
  split at h
  ·rename_i jg m fq mP
   cases al:(Nat.beq m b&& !k.ro) with
   |false=>rw[al] at h;cases h
   |true=>
    rw[al,bw] at h;simp only [c0,Bool.not_eq_true'] at al;have D3:m=b:=ct al.1;subst D3;split at h
    ·rename_i t aI
     cases h;exact Sb hr he ag mP al.2 aI (λ_ _ _=> .inr trivial) λw' DL=>by
      simp only [fy];exact⟨aJ,_,DL,rfl⟩
    ·cases h
  ·cases h
 ·cases h
def ui (es:List jP):List MapEntry:=es.map λe=>{key:=e.key,val:= .bool false,born:=0}
omit [aY] in
theorem Sc (kind:TypeDesc) (key:U):∀(es:List jP) (c9:List MapEntry) (i:Nat),es.map (·.key)=c9.map (·.key)->
  match Instr.findNow kind key (ui es) i with
  |none=>Instr.findNow kind key c9 i=none
  |some none=>Instr.findNow kind key c9 i=some none
  |some (some (j,_))=>∃b,i<=j/\c9[j-i]? =some b/\Instr.findNow kind key c9 i=some (some (j,b.val))
 |[],[],i,_=>by simp [ui,Instr.findNow]
 |[],_::_,_,h=>by simp at h
 |_::_,[],_,h=>by simp at h
 |a::r,b::dY,i,h=>by
  simp only [List.map_cons,List.cons.injEq] at h;have cd:=Sc kind key r dY (i+1) h.2;have a_:ui (a::r)={key:=a.key,val:= .bool false,born:=0}::ui r:=rfl;rw[a_];unfold Instr.findNow;simp only;rw[h.1];cases av:Instr.sameNow kind key b.key with
  |none=>simp
  |some t=>
   cases t with
   |true=>
    simp only;exact⟨b,bY _,by simp,rfl⟩
   |false=>
    simp only;cases aP:Instr.findNow kind key (ui r) (i+1) with
    |none=>rw[aP] at cd;exact cd
    |some o=>cases o with
     |none=>rw[aP] at cd;exact cd
     |some p=>
      obtain⟨j,u⟩:=p;rw[aP] at cd;obtain⟨b',h1,ae,ay⟩:=cd;exact⟨b',ao,by rw[show j-i=(j-(i+1))+1 by omega];exact ae,ay⟩
omit [aY] in
theorem Sd (eR:aH) (key:U):∀(es:List jP) (c9:List MapEntry) (i:Nat) (r:Option (Nat×U)),es.map (·.key)=c9.map (·.key)->a7 P (Instr.findAsking eR key (ui es) i)=some r->
  match r with
  |none=>∀w,(Instr.findAsking eR key c9 i).run P w= .ok none w
  |some (j,_)=>∃b,i<=j/\c9[j-i]? =some b/\∀w,(Instr.findAsking eR key c9 i).run P w= .ok (some (j,b.val)) w
 |[],[],i,r,_,h=>by
  simp only [ui,List.map_nil,Instr.findAsking] at h;cases h;exact λw=>rfl
 |[],_::_,_,_,h,_=>by simp at h
 |_::_,[],_,_,h,_=>by simp at h
 |a::l,b::l',i,r,ag,h=>by
  simp only [List.map_cons,List.cons.injEq] at ag;have a_:ui (a::l)={key:=a.key,val:= .bool false,born:=0}::ui l:=rfl;rw[a_] at h;unfold Instr.findAsking at h;rw[r0] at h;cases he:a7 P (Op.equal eR key a.key) with
  |none=>rw[he] at h;cases h
  |some t=>
   rw[he] at h;simp only [Option.bind_some] at h;have qb:=jc (ag.1▸he);cases t with
   |true=>
    simp only [if_true] at h;cases h;refine⟨b,bY _,by simp,λw=> ?_⟩;unfold Instr.findAsking;exact c8 (qb w) (by simp only [if_true];rfl)
   |false=>
    simp only [Bool.false_eq_true,if_false] at h;have cd:=Sd eR key l l' (i+1) r ag.2 h;cases r with
    |none=>
     intro w;unfold Instr.findAsking;exact c8 (qb w) (by simp only [Bool.false_eq_true,if_false];exact cd w)
    |some p=>
     obtain⟨j,u⟩:=p;obtain⟨b',h1,ae,ay⟩:=cd;refine⟨b',ao,by rw[show j-i=(j-(i+1))+1 by omega];exact ae,λw=> ?_⟩;unfold Instr.findAsking;exact c8 (qb w) (by simp only [Bool.false_eq_true,if_false];exact ay w)
def B6 (P:aQ) (eR:aH) (key:U) (es:List jP):Option (Option Nat):=(a7 P (Instr.findKey eR key (ui es))).map (Option.map (·.1))
omit [aY] in
theorem yD {eR:aH} {key:U} {es:List jP} {c9:List MapEntry} (ag:es.map (·.key)=c9.map (·.key)) {r:Option Nat} (h:B6 P eR key es=some r):
  match (generalizing:=false) r with
  |none=>∀w,(Instr.findKey eR key c9).run P w= .ok none w
  |some j=>∃b,c9[j]? =some b/\∀w,(Instr.findKey eR key c9).run P w= .ok (some (j,b.val)) w:=by
 unfold B6 at h;rw[wL] at h;obtain⟨q,h,rfl⟩:=h;unfold Instr.findKey at h;rw[r0] at h;cases hu:a7 P (underlying eR) with
 |none=>rw[hu] at h;cases h
 |some d=>
  rw[hu] at h;simp only [Option.bind_some] at h;have aq:=Sc d key es c9 0 ag;have Hf:=jc hu;cases aP:Instr.findNow d key (ui es) 0 with
  |none=>
   rw[aP] at h aq;simp only at h aq;have ha:=Sd (P:=P) eR key es c9 0 q ag h;cases q with
   |none=>
    intro w;unfold Instr.findKey;exact c8 (Hf w) (by rw[aq];exact ha w)
   |some p=>
    obtain⟨j,u⟩:=p;obtain⟨b,_,ae,ay⟩:=ha;refine⟨b,by simpa using ae,λw=> ?_⟩;unfold Instr.findKey;exact c8 (Hf w) (by rw[aq];exact ay w)
  |some o=>
   rw[aP] at h aq;simp only at h;have eW:o=q:=by
    have:some o=some q:=h;cases this;rfl
   subst eW;cases o with
   |none=>
    intro w;unfold Instr.findKey;exact c8 (Hf w) (by rw[aq];rfl)
   |some p=>
    obtain⟨j,u⟩:=p;obtain⟨b,_,ae,ay⟩:=aq;refine⟨b,by simpa using ae,λw=> ?_⟩;unfold Instr.findKey;exact c8 (Hf w) (by rw[ay];rfl)
theorem kQ.keys {es:List jP} {c9:Array MapEntry} (h:kQ φ es c9):es.map (·.key)=c9.toList.map (·.key):=by
 refine List.ext_getElem? λj=> ?_
 simp only [List.getElem?_map,Array.getElem?_toList];cases h1:es[j]? with
 |none=>
  have:c9[j]? =none:=by
   rw[Array.getElem?_eq_none_iff,<-h.1];exact List.getElem?_eq_none_iff.1 h1
  rw[this];rfl
 |some a=>
  have b8:j<c9.size:=by rw[<-h.1];exact(List.getElem?_eq_some_iff.1 h1).1
  obtain⟨b,ad⟩:∃b,c9[j]? =some b:=⟨_,Array.getElem?_eq_getElem b8⟩;rw[ad];simp only [Option.map_some,cx];exact(h.2 j a b h1 ad).2.1
theorem kQ.isEmpty {es:List jP} {c9:Array MapEntry} (h:kQ φ es c9):es.isEmpty=c9.isEmpty:=by
 have:=h.1;cases es with
 |nil=>simp at this;simp [Array.isEmpty,<-this]
 |cons a r=>simp at this;simp [Array.isEmpty,<-this]
theorem kQ.nil:kQ φ [] #[]:=⟨rfl,λj a b h=>by simp at h⟩
def Lg (P:aQ) (A:aW) (t:aH) (r:Option U):Option (U×aW):=
 match (match r with
  |none=>some ()
  |some h=>match a7 P (underlying t),a7 P (asInt h) with
   |some (.map _ _),some _=>some ()
   |_,_=>none) with
 |some _=>match A.push (.map [] 0) 0 0 with
  |some (b,bt)=>some (.map (some b),bt)
  |none=>none
 |none=>none
theorem abm (hr:bR φ A w) {t:aH} {r:Option U} {v:U} (h:Lg P A t r=some (v,aV)):bU (g' v) P φ A w (Instr.makeMap t r) aV:=by
 unfold Lg at h;split at h
 ·rename_i al
  split at h
  ·rename_i b bt hp
   cases h;have cB:=BV (e:=⟨w.heap.size,0,0,0⟩) (o':= .map #[] 0) hr hp J J (by simp only [fy];exact⟨#[],by simp,rfl,λj a b h=>by simp at h⟩);have aC:aD (gG φ b ⟨w.heap.size,0,0,0⟩) (.map (some b)) (.map (some w.heap.size)):= .map (e:=⟨w.heap.size,0,0,0⟩) (by simp [gG]);refine⟨_,_,.map (some w.heap.size),?_,aC,cB⟩;unfold Instr.makeMap;cases r with
   |none=>rfl
   |some hint=>
    simp only at al;split at al
    ·rename_i a b' hu af
     refine cK hu ?_;simp only;refine cK af ?_;rfl
    ·cases al
  ·cases h
 ·cases h
def mapOf (A:aW):U->Option (List jP)
 | .map none=>some []
 | .map (some b)=>(A.Ad b).map (·.1)
 |_=>none
def Hg (P:aQ) (A:aW) (t:aH) (x eA:U) (ok:Bool):Option U:=
 bif plain eA then match a7 P (underlying t) with
  |some (.map eR elem)=>match mapOf A x with
   |some es=>match a7 P (Instr.checkKey es.isEmpty 10000 eR eA) with
    |some _=>match B6 P eR eA es with
     |some (some j)=>match es[j]? with
      |some e=>some (bif ok then .tuple ⟨[e.val,.bool true]⟩ else e.val)
      |none=>none
     |some none=>match a7 P (zeroValue elem) with
      |some z=>bif plain z then some (bif ok then .tuple ⟨[z,.bool false]⟩ else z) else none
      |none=>none
     |none=>none
    |none=>none
   |none=>none
  |_=>none
 else none
theorem Se {a aS:U} (h:aD φ a aS) (b:Bool):aD φ (.tuple ⟨[a,.bool b]⟩) (.tuple #[aS,.bool b]):= .tuple _ _ rfl λi af=>by
 have:i<2:=by simpa using af
 rcases(by omega:i=0\/i=1) with rfl|rfl
 ·simpa using h
 ·simpa using aD.bool b
omit [aY] in
theorem Hh {t eR elem:aH} {x' eA z:U} {ok:Bool} {c9:Array MapEntry} {u:Unit} {D4:Option (Nat×U)} (ak:(x'= .map none/\c9= #[])\/∃r eE,x'= .map (some r)/\w.heap[r]? =some (.map c9 eE)) (hu:a7 P (underlying t)=some (.map eR elem))
  (mv:a7 P (Instr.checkKey c9.isEmpty 10000 eR eA)=some u) (aP:(Instr.findKey eR eA c9.toList).run P w= .ok D4 w) (bG:D4=none->a7 P (zeroValue elem)=some z):
  (Instr.lookup t x' eA ok).run P w= .ok (match (generalizing:=false) D4 with|some p=>(if ok then .tuple #[p.2,.bool true] else p.2)|none=>(if ok then .tuple #[z,.bool false] else z)) w:=by
 unfold Instr.lookup;refine cK hu ?_;rcases ak with ⟨rfl,rfl⟩|⟨r,eE,rfl,az⟩
 ·simp only
  refine c8 (a:=(#[]:Array MapEntry)) (w1:=w) rfl ?_;refine cK mv ?_;refine c8 aP ?_;cases D4 with
  |some p=>
   obtain⟨j,v⟩:=p;simp only;refine c8 (a:=(v,true)) (w1:=w) rfl ?_;cases ok<;>rfl
  |none=>
   simp only;refine cK (bG rfl) ?_;refine c8 (a:=(z,false)) (w1:=w) rfl ?_;cases ok<;>rfl
 ·simp only
  refine c8 (p_ az (by simp)) ?_;simp only;refine c8 (a:=c9) (w1:=w) rfl ?_;refine cK mv ?_;refine c8 aP ?_;cases D4 with
  |some p=>
   obtain⟨j,v⟩:=p;simp only;refine c8 (a:=(v,true)) (w1:=w) rfl ?_;cases ok<;>rfl
  |none=>
   simp only;refine cK (bG rfl) ?_;refine c8 (a:=(z,false)) (w1:=w) rfl ?_;cases ok<;>rfl
theorem abn (hr:bR φ A w) {t:aH} {x x' eA v:U} {ok:Bool} (ak:aD φ x x') (h:Hg P A t x eA ok=some v):bU (g' v) P φ A w (Instr.lookup t x' eA ok) A:=by
 unfold Hg at h;cases fF:plain eA with
 |false=>rw[fF] at h;cases h
 |true=>
  rw[fF,bw] at h;split at h
  ·rename_i eR elem hu
   split at h
   ·rename_i es s_
    split at h
    ·rename_i mv
     have yE:∃c9:Array MapEntry,kQ φ es c9/\((x'= .map none/\c9= #[])\/∃r eE,x'= .map (some r)/\w.heap[r]? =some (.map c9 eE)):=by
      unfold mapOf at s_;split at s_
      ·cases s_
       cases ak;exact⟨#[],kQ.nil,.inl ⟨rfl,rfl⟩⟩
      ·rw[wL] at s_
       obtain⟨⟨Ae,eE⟩,az,rfl⟩:=s_;cases ak with
       |map he=>
        obtain⟨c9,h1,ae⟩:=D1 hr az he;exact⟨c9,ae,.inr ⟨_,_,rfl,h1⟩⟩
      ·cases s_
     obtain⟨c9,er,q7⟩:=yE;have Sf:a7 P (Instr.checkKey c9.isEmpty 10000 eR eA)=some ():=by rw[<-er.isEmpty];exact mv
     split at h
     ·rename_i j hj
      split at h
      ·rename_i e wZ
       simp only [cx] at h;subst h;obtain⟨b,ad,aP⟩:=yD er.keys hj;rw[Array.getElem?_toList] at ad;have aC:=(er.2 j e b wZ ad).2.2.1;refine⟨φ,w,(if ok then .tuple #[b.val,.bool true] else b.val),Hh (z:=undef) q7 hu Sf (aP w) (λh=>by cases h),?_,cg.refl hr⟩;cases ok with
       |true=>exact Se aC true
       |false=>exact aC
      ·cases h
     ·rename_i hj
      split at h
      ·rename_i z bG
       cases kO:plain z with
       |false=>rw[kO] at h;cases h
       |true=>
        rw[kO,bw,cx] at h;subst h;have aP:=yD er.keys hj;refine⟨φ,w,(if ok then .tuple #[z,.bool false] else z),Hh q7 hu Sf (aP w) (λ_=>bG),?_,cg.refl hr⟩;cases ok with
        |true=>exact Se (aD.ku φ z kO) false
        |false=>exact aD.ku φ z kO
      ·cases h
     ·cases h
    ·cases h
   ·cases h
  ·cases h
def D5 (P:aQ) (A:aW) (t:aH) (m key val:U):Option aW:=
 bif plain key then match a7 P (underlying t),m with
  |some (.map eR _),.map (some b)=>match A.Ad b with
   |some (es,eE)=>match a7 P (Instr.checkKey false 10000 eR key),B6 P eR key es with
    |some _,some (some j)=>match es[j]? with
     |some e=>bif Instr.sameBits 10000 e.key key then A.wY b (es.set j {e with key:=key,val:=val}) eE else none
     |none=>none
    |some _,some none=>A.wY b (es++[{key:=key,val:=val,born:=eE}]) (eE+1)
    |_,_=>none
   |none=>none
  |_,_=>none
 else none
theorem kQ.push {es:List jP} {c9:Array MapEntry} (h:kQ φ es c9) {key val val':U} {eE:Nat} (ag:plain key=true) (aC:aD φ val val'):kQ φ (es++[{key:=key,val:=val,born:=eE}]) (c9.push {key:=key,val:=val',born:=eE}):=by
 refine⟨by simp [h.1],λj a b ha ad=> ?_⟩;rw[List.getElem?_append] at ha;rw[Array.getElem?_push] at ad;by_cases hj:j<es.length
 ·rw[aN hj] at ha
  rw[aO (by rw[<-h.1];omega)] at ad;exact h.2 j a b ha ad
 ·rw[aO hj] at ha
  by_cases gn:j=c9.size
  ·rw[aN gn] at ad
   cases ad;rw[show j-es.length=0 by rw[h.1];omega] at ha;simp only [List.getElem?_cons_zero,cx] at ha;subst ha;exact⟨ag,rfl,aC,rfl⟩
  ·rw[aO gn] at ad
   have:=(Array.getElem?_eq_some_iff.1 ad).1;have:=h.1;omega
theorem kQ.modify {es:List jP} {c9:Array MapEntry} (h:kQ φ es c9) {j:Nat} {e:jP} (hj:es[j]? =some e) {key val val':U} (ag:plain key=true) (aC:aD φ val val'):
  kQ φ (es.set j {e with key:=key,val:=val}) (c9.modify j λe=>{e with key:=key,val:=val'}):=by
 refine⟨by simp [h.1],λi a b ha ad=> ?_⟩;rw[List.getElem?_set] at ha;rw[Array.getElem?_modify] at ad;by_cases pD:j=i
 ·subst pD
  rw[aN rfl,aN (List.getElem?_eq_some_iff.1 hj).1] at ha;rw[aN rfl] at ad;cases ha;rw[wL] at ad;obtain⟨cX,gw,rfl⟩:=ad;exact⟨ag,rfl,aC,(h.2 j e cX hj gw).2.2.2⟩
 ·rw[aO pD] at ha
  rw[aO pD] at ad;exact h.2 i a b ha ad
omit [aY] in
theorem vC {o o':Obj} {r:Nat} (h:w.heap[r]? =some o) (al:∀c t f,o≠.cells c t f):(setObj r o').run P w= .ok () {w with heap:=w.heap.setIfInBounds r o'}:=by
 unfold setObj;simp only [Sem.run,h]
theorem Sg (hr:bR φ A w) {t:aH} {m m' key val val':U} (hm:aD φ m m') (aC:aD φ val val') (h:D5 P A t m key val=some aV):bU (λ_ _=>True) P φ A w (Instr.mapUpdate t m' key val') aV:=by
 unfold D5 at h;cases fF:plain key with
 |false=>rw[fF] at h;cases h
 |true=>
  rw[fF,bw] at h;split at h
  ·rename_i eR elem b hu
   split at h
   ·rename_i es eE az
    cases hm with
    |map he=>
     rename_i em;obtain⟨c9,h1,er⟩:=D1 hr az he;split at h
     ·rename_i j mv hj
      split at h
      ·rename_i e wZ
       cases Ag:Instr.sameBits 10000 e.key key with
       |false=>rw[Ag] at h;cases h
       |true=>
        rw[Ag,bw] at h;obtain⟨cX,ad,aP⟩:=yD er.keys hj;rw[Array.getElem?_toList] at ad;have Lh:=(er.2 j e cX wZ ad).2.1;refine⟨φ,_,(),?_,trivial,Af hr he h (er.modify wZ fF aC)⟩;unfold Instr.mapUpdate;refine cK hu ?_;simp only;refine c8 (p_ h1 (by simp)) ?_;simp only;refine cK mv ?_;refine c8 (aP w) ?_;simp only;rw[show (((c9[j]?).map (·.key)).getD key)=e.key by rw[ad];exact Lh.symm];refine c8 (a:=key) (w1:=w) (by unfold Instr.keyThatStays;rw[aN Ag];rfl) ?_;exact vC h1 (by simp)
      ·cases h
     ·rename_i mv hj
      have aP:=yD er.keys hj;refine⟨φ,_,(),?_,trivial,Af hr he h (er.push fF aC)⟩;unfold Instr.mapUpdate;refine cK hu ?_;simp only;refine c8 (p_ h1 (by simp)) ?_;simp only;refine cK mv ?_;refine c8 (aP w) ?_;simp only;exact vC h1 (by simp)
     ·cases h
    |_=>simp [aj,cL] at*
   ·cases h
  ·cases h
def Hi (P:aQ) (A:aW) (t:aH) (m key:U):Option (U×aW):=
 bif plain key then match a7 P (underlying t),m with
  |some (.map eR elem),.map (some b)=>match A.Ad b with
   |some (es,eE)=>match a7 P (Instr.checkKey false 10000 eR key),B6 P eR key es with
    |some _,some (some j)=>match es[j]? with
     |some e=>bif Instr.sameBits 10000 e.key key then match A.wY b (es.set j {e with key:=key,val:=e.val}) eE with
       |some bt=>some (.tuple ⟨[e.val,.int .i64 e.born]⟩,bt)
       |none=>none
      else none
     |none=>none
    |some _,some none=>match a7 P (zeroValue elem) with
     |some z=>bif plain z then match A.wY b (es++[{key:=key,val:=z,born:=eE}]) (eE+1) with
       |some bt=>some (.tuple ⟨[z,.int .i64 eE]⟩,bt)
       |none=>none
      else none
     |none=>none
    |_,_=>none
   |none=>none
  |_,_=>none
 else none
theorem Sh {a aS:U} (h:aD φ a aS) (n:Int):aD φ (.tuple ⟨[a,.int .i64 n]⟩) (.tuple #[aS,.int .i64 n]):= .tuple _ _ rfl λi af=>by
 have:i<2:=by simpa using af
 rcases(by omega:i=0\/i=1) with rfl|rfl
 ·simpa using h
 ·simpa using aD.int .i64 n
theorem kQ.abo {es:List jP} {c9:Array MapEntry} (h:kQ φ es c9) {j:Nat} {e:jP} (hj:es[j]? =some e) {key:U} (ag:plain key=true):
  kQ φ (es.set j {e with key:=key,val:=e.val}) (c9.modify j λe=>{e with key:=key}):=by
 refine⟨by simp [h.1],λi a b ha ad=> ?_⟩;rw[List.getElem?_set] at ha;rw[Array.getElem?_modify] at ad;by_cases pD:j=i
 ·subst pD
  rw[aN rfl,aN (List.getElem?_eq_some_iff.1 hj).1] at ha;rw[aN rfl] at ad;cases ha;rw[wL] at ad;obtain⟨cX,gw,rfl⟩:=ad;exact⟨ag,rfl,(h.2 j e cX hj gw).2.2.1,(h.2 j e cX hj gw).2.2.2⟩
 ·rw[aO pD] at ha
  rw[aO pD] at ad;exact h.2 i a b ha ad
theorem abp (hr:bR φ A w) {t:aH} {m m' key v:U} (hm:aD φ m m') (h:Hi P A t m key=some (v,aV)):bU (g' v) P φ A w (Instr.mapEntry t m' key) aV:=by
 unfold Hi at h;cases fF:plain key with
 |false=>rw[fF] at h;cases h
 |true=>
  rw[fF,bw] at h;split at h
  ·rename_i eR elem b hu
   split at h
   ·rename_i es eE az
    cases hm with
    |map he=>
     rename_i em;obtain⟨c9,h1,er⟩:=D1 hr az he;split at h
     ·rename_i j mv hj
      split at h
      ·rename_i e wZ
       cases Ag:Instr.sameBits 10000 e.key key with
       |false=>rw[Ag] at h;cases h
       |true=>
        rw[Ag,bw] at h;split at h
        ·rename_i bt eZ
         cases h;obtain⟨cX,ad,aP⟩:=yD er.keys hj;rw[Array.getElem?_toList] at ad;obtain⟨_,Lh,abq,rV⟩:=er.2 j e cX wZ ad;refine⟨φ,_,.tuple #[cX.val,.int .i64 e.born],?_,Sh abq _,Af hr he eZ (er.abo wZ fF)⟩;unfold Instr.mapEntry;refine cK hu ?_;simp only;refine c8 (p_ h1 (by simp)) ?_;simp only;refine cK mv ?_;refine c8 (aP w) ?_;simp only;rw[show (((c9[j]?).map (·.key)).getD key)=e.key by rw[ad];exact Lh.symm];refine c8 (a:=key) (w1:=w) (by unfold Instr.keyThatStays;rw[aN Ag];rfl) ?_;refine c8 (vC h1 (by simp)) ?_;rw[show ((c9[j]?).map λx=>(x.born:Int)).getD 0=(e.born:Int) by rw[ad,rV];rfl];rfl
        ·cases h
      ·cases h
     ·rename_i mv hj
      split at h
      ·rename_i z bG
       cases kO:plain z with
       |false=>rw[kO] at h;cases h
       |true=>
        rw[kO,bw] at h;split at h
        ·rename_i bt eZ
         cases h;have aP:=yD er.keys hj;refine⟨φ,_,.tuple #[z,.int .i64 eE],?_,Sh (aD.ku φ z kO) _,Af hr he eZ (er.push fF (aD.ku φ z kO))⟩;unfold Instr.mapEntry;refine cK hu ?_;simp only;refine c8 (p_ h1 (by simp)) ?_;simp only;refine cK mv ?_;refine c8 (aP w) ?_;simp only;refine cK bG ?_;refine c8 (vC h1 (by simp)) ?_;rfl
        ·cases h
      ·cases h
     ·cases h
    |_=>simp [aj,cL] at*
   ·cases h
  ·cases h
def Li (es:List jP) (born:Int):Option Nat:=es.findIdx? λe=>(e.born:Int)==born
def Hj (P:aQ) (A:aW) (m B7 val:U):Option aW:=
 match m with
 | .map (some b)=>match A.Ad b with
   |some (es,eE)=>bif plain B7 then match a7 P (asInt B7) with
    |some born=>match Li es born with
     |some j=>match es[j]? with
      |some e=>A.wY b (es.set j {e with val:=val}) eE
      |none=>none
     |none=>none
    |none=>none
    else none
   |none=>none
 |_=>none
theorem kQ.abr {es:List jP} {c9:Array MapEntry} (h:kQ φ es c9) {j:Nat} {e:jP} (hj:es[j]? =some e) {val val':U} (aC:aD φ val val'):
  kQ φ (es.set j {e with val:=val}) (c9.modify j λe=>{e with val:=val'}):=by
 refine⟨by simp [h.1],λi a b ha ad=> ?_⟩;rw[List.getElem?_set] at ha;rw[Array.getElem?_modify] at ad;by_cases pD:j=i
 ·subst pD
  rw[aN rfl,aN (List.getElem?_eq_some_iff.1 hj).1] at ha;rw[aN rfl] at ad;cases ha;rw[wL] at ad;obtain⟨cX,gw,rfl⟩:=ad;obtain⟨q1,aE,_,ey⟩:=h.2 j e cX hj gw;exact⟨q1,aE,aC,ey⟩
 ·rw[aO pD] at ha
  rw[aO pD] at ad;exact h.2 i a b ha ad
theorem kQ.born {es:List jP} {c9:Array MapEntry} (h:kQ φ es c9) (born:Int):c9.findIdx? (λe=>(e.born:Int)==born)=Li es born:=by
 unfold Li;rw[show c9.findIdx? (λe=>(e.born:Int)==born)=c9.toList.findIdx? (λe=>(e.born:Int)==born) by obtain⟨l⟩:=c9;simp];have ad:es.map (·.born)=c9.toList.map (·.born):=by
  refine List.ext_getElem? λj=> ?_
  simp only [List.getElem?_map,Array.getElem?_toList];cases h1:es[j]? with
  |none=>
   have:c9[j]? =none:=by
    rw[Array.getElem?_eq_none_iff,<-h.1];exact List.getElem?_eq_none_iff.1 h1
   rw[this];rfl
  |some a=>
   have b8:j<c9.size:=by rw[<-h.1];exact(List.getElem?_eq_some_iff.1 h1).1
   obtain⟨b,ad⟩:∃b,c9[j]? =some b:=⟨_,Array.getElem?_eq_getElem b8⟩;rw[ad];simp only [Option.map_some,cx];exact(h.2 j a b h1 ad).2.2.2
 have e1:∀l:List MapEntry,l.findIdx? (λe=>(e.born:Int)==born)=(l.map (·.born)).findIdx? λ(n:Nat)=>(n:Int)==born:=λl=>by rw[List.findIdx?_map];rfl
 have e2:∀l:List jP,l.findIdx? (λe=>(e.born:Int)==born)=(l.map (·.born)).findIdx? λ(n:Nat)=>(n:Int)==born:=λl=>by rw[List.findIdx?_map];rfl
 rw[e1,e2,ad]
theorem abt (hr:bR φ A w) {t:aH} {m m' B7 val val':U} (hm:aD φ m m') (aC:aD φ val val') (h:Hj P A m B7 val=some aV):bU (λ_ _=>True) P φ A w (Instr.entryStore t m' B7 val') aV:=by
 unfold Hj at h;split at h
 ·rename_i b
  split at h
  ·rename_i es eE az
   cases fF:plain B7 with
   |false=>rw[fF] at h;cases h
   |true=>
    rw[fF,bw] at h;cases hm with
    |map he=>
     rename_i em;obtain⟨c9,h1,er⟩:=D1 hr az he;split at h
     ·rename_i born av
      split at h
      ·rename_i j hj
       split at h
       ·rename_i e wZ
        refine⟨φ,_,(),?_,trivial,Af hr he h (er.abr wZ aC)⟩;unfold Instr.entryStore;simp only;refine c8 (p_ h1 (by simp)) ?_;simp only;refine cK av ?_;rw[er.born,hj];simp only;exact vC h1 (by simp)
       ·cases h
      ·cases h
     ·cases h
  ·cases h
 ·cases h
def Hk (P:aQ) (A:aW) (cM:Array aH) (m key:U):Option aW:=
 match cM[0]?,m with
 |some t,.map (some b)=>bif plain key then match a7 P (underlying t) with
  |some (.map eR _)=>match A.Ad b with
   |some (es,eE)=>match a7 P (Instr.checkKey es.isEmpty 10000 eR key),B6 P eR key es with
    |some _,some (some j)=>A.wY b (es.eraseIdx j) eE
    |some _,some none=>A.wY b es eE
    |_,_=>none
   |none=>none
  |_=>none
  else none
 |_,_=>none
theorem kQ.erase {es:List jP} {c9:Array MapEntry} (h:kQ φ es c9) (j:Nat):kQ φ (es.eraseIdx j) (c9.eraseIdxIfInBounds j):=by
 have hl:(c9.eraseIdxIfInBounds j).toList=c9.toList.eraseIdx j:=by
  unfold Array.eraseIdxIfInBounds;split
  ·simp
  ·rename_i kx
   rw[List.eraseIdx_of_length_le];simpa using kx
 refine⟨?_,λi a b ha ad=> ?_⟩
 ·have ae:(c9.eraseIdxIfInBounds j).size=(c9.toList.eraseIdx j).length:=by rw[<-hl,Array.length_toList]
  rw[ae];simp only [List.length_eraseIdx,h.1,Array.length_toList]
 ·rw[<-Array.getElem?_toList,hl] at ad
  rw[List.getElem?_eraseIdx] at ha ad;split at ha
  ·rename_i b8
   rw[aN b8] at ad;exact h.2 i a b ha (by simpa using ad)
  ·rename_i kx
   rw[aO kx] at ad;exact h.2 (i+1) a b ha (by simpa using ad)
theorem abu (hr:bR φ A w) {cM:Array aH} {ty:aH} {m m' key:U} (hm:aD φ m m') (h:Hk P A cM m key=some aV):bU (g' (.tuple ⟨[]⟩)) P φ A w (Builtin.delete_ cM ty #[m',key]) aV:=by
 unfold Hk at h;split at h
 ·rename_i t b aI
  cases fF:plain key with
  |false=>rw[fF] at h;cases h
  |true=>
   rw[fF,bw] at h;split at h
   ·rename_i eR elem hu
    split at h
    ·rename_i es eE az
     cases hm with
     |map he=>
      rename_i em;obtain⟨c9,h1,er⟩:=D1 hr az he;split at h
      ·rename_i j mv hj
       obtain⟨cX,ad,aP⟩:=yD er.keys hj;refine⟨φ,_,.tuple #[],?_,.tuple _ _ rfl (λi af=>absurd af (by simp)),Af hr he h (er.erase j)⟩;unfold Builtin.delete_;simp only [aI,List.getElem?_toArray,List.getElem?_cons_zero,List.getElem?_cons_succ];refine cK hu ?_;simp only;refine c8 (p_ h1 (by simp)) ?_;simp only;refine cK (by rw[<-er.isEmpty];exact mv) ?_;refine c8 (aP w) ?_;simp only;exact c8 (vC h1 (by simp)) rfl
      ·rename_i mv hj
       have aP:=yD er.keys hj;refine⟨φ,_,.tuple #[],?_,.tuple _ _ rfl (λi af=>absurd af (by simp)),Af hr he h er⟩;unfold Builtin.delete_;simp only [aI,List.getElem?_toArray,List.getElem?_cons_zero,List.getElem?_cons_succ];refine cK hu ?_;simp only;refine c8 (p_ h1 (by simp)) ?_;simp only;refine cK (by rw[<-er.isEmpty];exact mv) ?_;refine c8 (aP w) ?_;simp only;exact c8 (vC h1 (by simp)) rfl
      ·cases h
    ·cases h
   ·cases h
 ·cases h
def Lj (P:aQ) (A:aW) (t:aH):U->Option (U×aW)
 | .string s=>match a7 P (underlying t) with
   |some .string=>match A.push (.fL (.wM s 0)) 0 0 with
    |some (b,bt)=>some (.pointer (some ⟨b,0,none⟩),bt)
    |none=>none
   |_=>none
 |_=>none
theorem abv (hr:bR φ A w) {t:aH} {x x' v:U} (ak:aD φ x x') (h:Lj P A t x=some (v,aV)):bU (g' v) P φ A w (Instr.range t x') aV:=by
 unfold Lj at h;split at h
 ·rename_i s
  cases ak;split at h
  ·rename_i hu
   split at h
   ·rename_i b bt hp
    cases h;have cB:=BV (e:=⟨w.heap.size,0,0,0⟩) (o':= .stringIter s 0) hr hp J J (by simp only [fy];exact⟨trivial,_,by simp,rfl⟩);have aC:aD (gG φ b ⟨w.heap.size,0,0,0⟩) (.pointer (some ⟨b,0,none⟩)) (.pointer (some ⟨w.heap.size,0,none⟩)):= .ptr (e:=⟨w.heap.size,0,0,0⟩) (by simp [gG]);refine⟨_,_,.pointer (some ⟨w.heap.size,0,none⟩),?_,aC,cB⟩;unfold Instr.range;refine cK hu ?_;rfl
   ·cases h
  ·cases h
 ·cases h
def Lk (A:aW) (it:U) (abw:Bool):Option (U×aW):=
 match it,abw with
 | .pointer (some ⟨b,0,none⟩),true=>match A.Le b with
   |some (s,p)=>bif Nat.blt p s.size then match A.setIter b s (p+(Utf8.decode s p).2) with
     |some bt=>some (.tuple ⟨[.bool true,.int .i64 p,.int .i32 (Utf8.decode s p).1]⟩,bt)
     |none=>none
    else some (.tuple ⟨[.bool false]⟩,A)
   |none=>none
 |_,_=>none
theorem abx (hr:bR φ A w) {it Si v:U} {st:Bool} {ty:aH} (ak:aD φ it Si) (h:Lk A it st=some (v,aV)):bU (g' v) P φ A w (Instr.next Si st ty) aV:=by
 unfold Lk at h;split at h
 ·rename_i b
  split at h
  ·rename_i s p az
   cases ak with
   |ptr he=>
    rename_i e;obtain⟨aJ,h1⟩:=abk hr az he;rw[aJ,Nat.zero_add];have oq:(getObj e.bf).run P w= .ok (.stringIter s p) w:=p_ h1 (by simp);cases ad:Nat.blt p s.size with
    |true=>
     rw[ad,bw] at h;have b8:p<s.size:=Nat.blt_eq.mp ad;split at h
     ·rename_i bt eZ
      cases h;refine⟨φ,_,_,?_,aD.ku φ _ (by simp [plain,om]),abl hr he aJ eZ⟩;unfold Instr.next
      simp only;refine c8 oq ?_;simp only [b8,if_true];refine c8 (vC h1 (by simp)) ?_;rfl
     ·cases h
    |false=>
     rw[ad,ei] at h;cases h;have kx:¬p<s.size:=λb8=>by rw[Nat.blt_eq.mpr b8] at ad;cases ad
     refine⟨φ,w,.tuple #[.bool false],?_,aD.ku φ _ (by simp [plain,om]),cg.refl hr⟩;unfold Instr.next
     simp only;refine c8 oq ?_;simp only [kx,if_false];rfl
  ·cases h
 ·cases h
end
end AE
namespace AE
variable [aY]
inductive r2 where
 |value (v:U)
 |skip
 |enter (f:FuncId) (args:List U)
def vD:r2->bQ->Next->Prop
 | .value v,φ,n=>∃aB,n= .value aB/\aD φ v aB
 | .skip,_,n=>n= .skip
 | .enter f args,φ,n=>∃fM:Array U,n= .enter f fM/\hy args φ fM
def tf (P:aQ) (s:Sem U):Option U:=
 match a7 P s with
 |some v=>bif plain v then some v else none
 |none=>none
section
variable {P:aQ} {φ:bQ} {A aV:aW} {w:au}
theorem B8 (hr:bR φ A w) {s:Sem U} {v:U} (h:tf P s=some v):bU (g' v) P φ A w s A:=by
 unfold tf at h;split at h
 ·rename_i u hu
  cases hp:plain u with
  |false=>rw[hp] at h;cases h
  |true=>
   rw[hp,bw,cx] at h;subst h;exact bU.pure_run hr hu (aD.ku φ u hp)
 ·cases h
def D6 (P:aQ) (s:Array U->Sem U) (args:List U):Option U:=
 bif om args then tf P (s ⟨args⟩) else none
def Ll (x:U):Option U:=
 match x with
 | .slice none _ _=>some (.pointer none)
 | .slice (some ⟨b,off,none⟩) _ c=>bif Nat.beq c 0 then none else some (.pointer (some ⟨b,off,none⟩))
 |_=>none
def Lm (P:aQ) (cM:Array aH) (x:U):Option U:=
 match cM[0]? with
 |some t=>match a7 P (underlying t),x with
  |some (.slice _),.slice none _ c=>some (.int .i64 c)
  |some (.slice _),.slice (some _) _ _=>some cL
  |some (.array n _),_=>some (.int .i64 n)
  |_,_=>none
 |none=>none
def Ln (P:aQ) (A:aW) (b:Builtin) (cM:Array aH) (ty:aH) (args:List U):Option (U×aW):=
 match b,args with
 | .len,[x]=>match KZ P A cM x with
   |some v=>some (v,A)
   |none=>match D6 P (Builtin.len_ cM ty) [x] with
    |some v=>some (v,A)
    |none=>none
 | .append,[s,x]=>KH P A cM s x
 | .copy,[d,s]=>KW P A cM d s
 | .cap,[x]=>(Lm P cM x).map (·,A)
 | .max,l=>(D6 P (Builtin.max_ cM ty) l).map (·,A)
 | .min,l=>(D6 P (Builtin.min_ cM ty) l).map (·,A)
 | .unsafeSliceData,[x]=>(Ll x).map (·,A)
 | .clear,[x]=>match Ld P A cM x with
   |some bt=>some (undef,bt)
   |none=>none
 | .unsafeString,[x,n]=>bif plain n then Lc P A cM x n else none
 | .delete,[m,k]=>match Hk P A cM m k with
   |some bt=>some (.tuple ⟨[]⟩,bt)
   |none=>none
 |_,_=>none
theorem hy.eq {l:List U} {a:Array U} (hp:om l=true) (h:hy l φ a):a=⟨l⟩:=by
 obtain⟨Lo⟩:=a;have:Lo=l:=aD.DM (φ:=φ) l Lo hp (by simpa using h.1.symm) (λi af=>by simpa [e5] using h.2 i af);rw[this]
theorem Lp (hr:bR φ A w) {s:Array U->Sem U} {l:List U} {a:Array U} {v:U} (hl:hy l φ a) (h:D6 P s l=some v):bU (g' v) P φ A w (s a) A:=by
 unfold D6 at h;cases hp:om l with
 |false=>rw[hp] at h;cases h
 |true=>
  rw[hp,bw] at h;rw[hl.eq hp];exact B8 hr h
theorem hy.one {x:U} {a:Array U} (h:hy [x] φ a):∃x',a= #[x']/\aD φ x x':=by
 obtain⟨l⟩:=a;obtain⟨h1,ae⟩:=h
 match l,h1 with
 |[x'],_=>exact⟨x',rfl,by simpa using ae 0 (by simp)⟩
theorem hy.two {x y:U} {a:Array U} (h:hy [x,y] φ a):∃x' gV,a= #[x',gV]/\aD φ x x'/\aD φ y gV:=by
 obtain⟨l⟩:=a;obtain⟨h1,ae⟩:=h
 match l,h1 with
 |[x',gV],_=>exact⟨x',gV,rfl,by simpa using ae 0 (by simp),by simpa using ae 1 (by simp)⟩
theorem aby (hr:bR φ A w) {cM:Array aH} {ty:aH} {x x' v:U} (ak:aD φ x x') (h:Lm P cM x=some v):bU (g' v) P φ A w (Builtin.cap_ cM ty #[x']) A:=by
 unfold Lm at h;split at h
 ·rename_i t aI
  have hm:∀aB,(do match <-underlying t,x' with
   | .array n _,_=>pure (goInt n)
   | .pointer arr,_=>
     let .array n _ <-underlying arr|stuck "cap: pointer to array expected"
     pure (goInt n)
   | .slice _,.slice _ _ n=>pure (goInt n)
   | .chan _ _,.chan none=>pure (goInt 0)
   | .chan _ _,.chan (some r)=>
     let .chan n _ _ _ _ timer <-getObj r|stuck "cap: channel expected"
     pure (goInt (if timer then 0 else n))
   |_,_=>stuck "cap: array, pointer to array, slice or channel expected":Sem U).run P w= .ok aB w->(Builtin.cap_ cM ty #[x']).run P w= .ok aB w:=by
   intro aB aC;rw[<-aC];unfold Builtin.cap_;simp only [aI];rfl
  split at h
  ·rename_i e l c hu
   simp only [cx] at h;subst h;cases ak;exact⟨φ,w,_,hm _ (cK hu rfl),.int _ _,cg.refl hr⟩
  ·rename_i e a l c hu
   simp only [cx] at h;subst h;cases ak<;>exact⟨φ,w,_,hm _ (cK hu rfl),.cL _,cg.refl hr⟩
  ·rename_i n e hu
   simp only [cx] at h;subst h;exact⟨φ,w,_,hm _ (cK hu rfl),.int _ _,cg.refl hr⟩
  ·cases h
 ·cases h
theorem abz (hr:bR φ A w) {cM:Array aH} {ty:aH} {x x' v:U} (ak:aD φ x x') (h:Ll x=some v):bU (g' v) P φ A w (Builtin.unsafeSliceData_ cM ty #[x']) A:=by
 unfold Ll at h;split at h
 ·simp only [cx] at h
  subst h;cases ak;exact bU.ret hr .yv
 ·rename_i b off n c
  cases al:Nat.beq c 0 with
  |true=>rw[al] at h;cases h
  |false=>
   rw[al,ei,cx] at h;subst h;have Ah:c≠0:=λai=>by rw[ai] at al;exact absurd al cv
   have key:∀(a:Addr) (n c:Nat),c≠0->(Builtin.unsafeSliceData_ cM ty #[.slice (some a) n c]).run P w= .ok (.pointer (some a)) w:=by
    intro a n c al;have e:Builtin.unsafeSliceData_ cM ty #[.slice (some a) n c]=(if c≠0 then pure (.pointer (some a)) else do
     if (<-viewAt a.block).isSome then pure (.pointer (some a)) else pure (.pointer (some ⟨<-newObj (.view a (<-elemOf ty)),0,none⟩))):=rfl
    rw[e,aN al];rfl
   cases ak with
   |iB=>exact absurd rfl Ah
   |h_ n c he=>exact⟨φ,w,_,key _ _ _ Ah,.ptr he,cg.refl hr⟩
   |ia n c c' he h1 ae ay=>exact⟨φ,w,_,key _ _ _ ao,.ptr he,cg.refl hr⟩
 ·cases h
theorem abA (hr:bR φ A w) {b:Builtin} {cM:Array aH} {ty:aH} {cs:Array Bool} {l:List U} {a:Array U} {v:U} (hl:hy l φ a) (h:Ln P A b cM ty l=some (v,aV)):
  bU (vD (.value v)) P φ A w (builtin b cM ty cs a) aV:=by
 have fG:∀{s:Sem U},bU (g' v) P φ A w s aV->bU (vD (.value v)) P φ A w (do pure (.value (<-s))) aV:=λav=>bU.map av λφ a ha=>⟨a,rfl,ha⟩
 unfold Ln at h;split at h
 ·obtain⟨x',rfl,ak⟩:=hl.one
  split at h
  ·rename_i aB aC
   cases h;exact fG (aa0 hr ak aC)
  ·split at h
   ·rename_i aB aC
    cases h;exact fG (Lp hr hl aC)
   ·cases h
 ·obtain⟨x',gV,rfl,ak,bg⟩:=hl.two
  exact fG (aaO hr ak bg h)
 ·obtain⟨x',gV,rfl,ak,bg⟩:=hl.two
  exact fG (aaW hr ak bg h)
 ·obtain⟨x',rfl,ak⟩:=hl.one
  obtain⟨aB,aC,he⟩:=Option.map_eq_some_iff.1 h;cases he;exact fG (aby hr ak aC)
 ·obtain⟨aB,aC,he⟩:=Option.map_eq_some_iff.1 h
  cases he;exact fG (Lp hr hl aC)
 ·obtain⟨aB,aC,he⟩:=Option.map_eq_some_iff.1 h
  cases he;exact fG (Lp hr hl aC)
 ·obtain⟨x',rfl,ak⟩:=hl.one
  obtain⟨aB,aC,he⟩:=Option.map_eq_some_iff.1 h;cases he;exact fG (abz hr ak aC)
 ·obtain⟨x',rfl,ak⟩:=hl.one
  split at h
  ·rename_i bt vE
   cases h;exact fG (abi hr ak vE)
  ·cases h
 ·rename_i x n
  obtain⟨x',gV,rfl,ak,bg⟩:=hl.two;cases hp:plain n with
  |false=>rw[hp] at h;cases h
  |true=>
   rw[hp,bw] at h;rw[aD.kN _ hp bg];exact fG (abg hr ak h)
 ·rename_i m k
  obtain⟨x',gV,rfl,ak,bg⟩:=hl.two;split at h
  ·rename_i bt vE
   cases h;have hp:plain k=true:=by
    unfold Hk at vE;split at vE
    ·cases hp:plain k with
     |true=>rfl
     |false=>rw[hp] at vE;cases vE
    ·cases vE
   rw[aD.kN _ hp bg];exact fG (abu hr ak vE)
  ·cases h
 ·cases h
def enters (P:aQ) (f:FuncId):Bool:=
 match P.funcs[f]? with
 |some fn=> !(fn.name== "runtime.NumGoroutine")&&fn.body.isSome
 |none=>false
omit [aY] in
theorem Hl {f:FuncId} (h:enters P f=true) (args:Array U):a7 P (callFunc f args)=some (.enter f args):=by
 unfold enters at h;split at h
 ·rename_i fn aP
  simp only [c0,Bool.not_eq_true'] at h;obtain⟨h1,ae⟩:=h;have ay:fn.body.isNone=false:=by cases ad:fn.body<;>simp_all
  unfold callFunc;show a7 P (match P.funcs[f]? with|none=>_|some fn=>_)=_;simp only [aP,h1,ay,Bool.false_eq_true,if_false];rfl
 ·cases h
def Sj (P:aQ) (f:FuncId) (args:List U):Option r2:=
 bif om args then match a7 P (callFunc f ⟨args⟩) with
  |some (.value v)=>bif plain v then some (.value v) else none
  |_=>none
 else none
def Lq (P:aQ) [Lib P] (A:aW) (f:FuncId):List U->Option (U×aW)
 |[x]=>bif (Lib.same P).contains f then some (x,A) else
  match (Lib.K8 P).find? λp=>Nat.beq p.1 f,x with
  |some p,.int .i64 n=>K_ A p.2 n
  |_,_=>none
 |_=>none
def Hm (P:aQ) [Lib P] (A:aW) (f:FuncId) (args:List U):Option (r2×aW):=
 bif enters P f then some (.enter f args,A) else
  match Lq P A f args with
  |some (v,bt)=>some (.value v,bt)
  |none=>match Sj P f args with
   |some n=>some (n,A)
   |none=>none
theorem abB [Lib P] (hr:bR φ A w) {f:FuncId} {l:List U} {a:Array U} {v:U} (hl:hy l φ a) (h:Lq P A f l=some (v,aV)):bU (vD (.value v)) P φ A w (callFunc f a) aV:=by
 unfold Lq at h;split at h
 ·rename_i x
  obtain⟨x',rfl,ak⟩:=hl.one;cases al:(Lib.same P).contains f with
  |true=>
   rw[al] at h;cases h;exact bU.pure_run hr (Lib.R5 f (by simpa using al) x') ⟨x',rfl,ak⟩
  |false=>
   rw[al,ei] at h;split at h
   ·rename_i p n aP
    cases ak;have hV:p.1=f:=by
     have:=List.find?_some aP;exact ct this
    obtain⟨ps,q8,t,h1,ae,ay⟩:=Lib.R6 p (List.mem_of_find?_eq_some aP);obtain⟨fY,w1,v1,g1,g2,g3⟩:=aa9 (ps:=ps) hr ae ay h;refine⟨fY,w1,.value v1,?_,⟨v1,rfl,g2⟩,g3⟩;rw[<-hV,h1];exact c8 g1 rfl
   ·cases h
 ·cases h
theorem Sk [Lib P] (hr:bR φ A w) {f:FuncId} {l:List U} {a:Array U} {n:r2} (hl:hy l φ a) (h:Hm P A f l=some (n,aV)):bU (vD n) P φ A w (callFunc f a) aV:=by
 unfold Hm at h;cases he:enters P f with
 |true=>
  rw[he] at h;cases h;exact bU.pure_run hr (Hl he a) ⟨a,rfl,hl⟩
 |false=>
  rw[he,ei] at h;split at h
  ·rename_i v bt ag
   cases h;exact abB hr hl ag
  ·split at h
   ·rename_i n aq
    cases h;unfold Sj at aq;cases hp:om l with
    |false=>rw[hp] at aq;cases aq
    |true=>
     rw[hp,bw] at aq;split at aq
     ·rename_i v aC
      cases uj:plain v with
      |false=>rw[uj] at aq;cases aq
      |true=>
       rw[uj,bw,cx] at aq;subst aq;rw[hl.eq hp];exact bU.pure_run hr aC ⟨v,rfl,aD.ku φ v uj⟩
     ·cases aq
   ·cases h
def Lr (P:aQ) [Lib P] (A:aW) (a':Operand->U) (c:Call) (ty:aH):Option (r2×aW):=
 match c.callee with
 | .builtin b=>(Ln P A b c.argTypes ty (c.args.toList.map a')).map λr=>(.value r.1,r.2)
 | .value f=>match a' f with
   | .func (.func g) ⟨first⟩ ⟨B9⟩=>Hm P A g (first++c.args.toList.map a'++B9)
   |_=>none
 | .invoke recv name=>match a' recv with
   | .iface t v=>bif plain v then match a7 P (method (P.types.size+Made.depth) t v name) with
       |some (f,r)=>bif plain r then Hm P A f (r::c.args.toList.map a') else none
       |none=>none
     else none
   |_=>none
theorem hy.append {l1 lq:List U} {dD ej:Array U} (h1:hy l1 φ dD) (ae:hy lq φ ej):hy (l1++lq) φ (dD++ej):=by
 obtain⟨Lo⟩:=dD;obtain⟨Hn⟩:=ej;obtain⟨s1,v1⟩:=h1;obtain⟨s2,fi⟩:=ae;simp only [List.size_toArray] at s1 s2;refine⟨by simp [s1,s2],λj hj=> ?_⟩;simp only [List.append_toArray,e5,List.getElem?_toArray,dr] at v1 fi ⊢;rcases Nat.lt_or_ge j l1.length with h|h
 ·rw[List.getElem?_append_left h,List.getElem?_append_left ao]
  exact v1 j h
 ·rw[List.getElem?_append_right h,List.getElem?_append_right ao,s1]
  exact fi _ (by simp at hj;omega)
theorem hy.map {l:Array Operand} {ρ ρ':Operand->U} (h:∀x∈l,aD φ (ρ x) (ρ' x)):hy (l.toList.map ρ) φ (l.map ρ'):=by
 obtain⟨l⟩:=l;refine⟨by simp,λj hj=> ?_⟩;simp only [List.length_map] at hj;simp only [List.map_toArray,e5,List.getElem?_toArray,dr,List.getElem?_map,fP hj,Option.map_some,Option.getD_some];exact h _ (by simp)
theorem hy.of {cs cs':Array U} (h1:cs.size=cs'.size) (h:∀i,i<cs.size->aD φ (cs.getD i undef) (cs'.getD i undef)):hy cs.toList φ cs':=by
 obtain⟨l⟩:=cs;refine⟨by simpa using h1.symm,λj hj=> ?_⟩;simpa [e5] using h j (by simpa using hj)
theorem abC [Lib P] (hr:bR φ A w) {ρ ρ':Operand->U} {c:Call} {ty:aH} {n:r2} (cJ:∀x,aD φ (ρ x) (ρ' x)) (h:Lr P A ρ c ty=some (n,aV)):
  bU (vD n) P φ A w (do let d <-resolve ρ' c ty;invoke d.target d.args) aV:=by
 unfold Lr at h;have gf:hy (c.args.toList.map ρ) φ (c.args.map ρ'):=hy.map λx _=>cJ x
 split at h
 ·rename_i b al
  obtain⟨⟨v,bt⟩,ad,he⟩:=Option.map_eq_some_iff.1 h;cases he;obtain⟨e_,w2,n2,g1,g2,g3⟩:=abA (cs:=c.args.map λ| .const _=>true|_=>false) hr gf ad;refine⟨e_,w2,n2,?_,g2,g3⟩;rw[<-g1];unfold resolve;rw[al];rfl
 ·rename_i f al
  split at h
  ·rename_i g first B9 aP
   have ad:=h;have aC:=cJ f;rw[aP] at aC;cases nt:ρ' f with
   |func fn j_ cs'=>
    rw[nt] at aC;cases aC with
    |func fs j_ cs cs' aq h1 ae Ls gv=>
     have:=(hy.of h1 Ls).append gf |>.append (hy.of ae gv);obtain⟨e_,w2,n2,g1,g2,g3⟩:=Sk hr this ad;refine⟨e_,w2,n2,?_,g2,g3⟩;rw[<-g1];unfold resolve;rw[al];simp only [nt];rfl
   |_=>rw[nt] at aC;cases aC
  ·cases h
 ·rename_i recv name al
  split at h
  ·rename_i t v aC
   cases hp:plain v with
   |false=>rw[hp] at h;cases h
   |true=>
    rw[hp,bw] at h;split at h
    ·rename_i f r hm
     cases Ai:plain r with
     |false=>rw[Ai] at h;cases h
     |true=>
      rw[Ai,bw] at h;have ad:=h;have D7:=cJ recv;rw[aC] at D7;cases nt:ρ' recv with
      |iface da aB=>
       rw[nt] at D7;cases D7 with
       |iface _ w3=>
        have abD:=aD.kN v hp w3;subst abD;have h1:hy [r] φ #[r]:=⟨rfl,λj hj=>by
         have:j=0:=by simpa using hj
         subst this
         exact aD.ku φ r Ai⟩
        obtain⟨e_,w2,n2,g1,g2,g3⟩:=Sk hr (h1.append gf) ad;refine⟨e_,w2,n2,?_,g2,g3⟩;rw[<-g1];unfold resolve;rw[al];simp only [nt];refine cK (a:={target:= .fn (.method name) #[],args:= #[.iface t aB]++c.args.map ρ'}) rfl ?_;unfold invoke;have bk:(#[Value.iface t aB]++c.args.map ρ')[0]? =some (.iface t aB):=by
         simp [Array.getElem?_append]
        have e1:(#[Value.iface t aB]++c.args.map ρ').extract 1 (#[Value.iface t aB]++c.args.map ρ').size=c.args.map ρ':=by
         apply Array.ext';simp [List.take_of_length_le]
        simp only [bk,e1];unfold callMethod;refine cK (a:=P) rfl ?_;exact cK hm rfl
      |_=>rw[nt] at D7;cases D7
    ·cases h
  ·cases h
end
end AE
namespace AE
variable [aY]
def w4 (a':Operand->U):Option Operand->Bool
 |none=>true
 |some x=>plain (a' x)
def Lt (P:aQ) (A:aW) (ou dst:aH) (x:U):Option (U×aW):=
 match (bif plain x then tf P (convert ou dst x) else none) with
 |some v=>some (v,A)
 |none=>match K9 P A ou dst x with
  |some v=>some (v,A)
  |none=>match a7 P (underlying ou),a7 P (underlying dst),x with
   |some _,some (.slice e),.string s=>match a7 P (underlying e) with
    |some (.int .u8)=>K2 A e s
    |_=>none
   |some (.slice e),some .string,.slice a n c=>match a7 P (underlying e) with
    |some (.int .u8)=>(K1 P A (.slice a n c)).map (·,A)
    |_=>none
   |_,_,_=>none
def Sl (x:U):Option U:=
 match x with
 | .pointer (some _)=>some x
 | .func (.func _) _ _=>some x
 | .iface _ _=>some x
 |_=>none
def Sm:Fn->Bool
 | .yield _=>true
 |_=>false
def val (A:aW):Option U->Option (r2×aW)
 |some v=>some (.value v,A)
 |none=>none
def tg:Option (U×aW)->Option (r2×aW)
 |some (v,A)=>some (.value v,A)
 |none=>none
def D8 (P:aQ) [Lib P] (a':Operand->U) (A:aW) (o:Oper):Option (r2×aW):=
 match o.op with
 | .move x| .assign x=>some (.value (a' x),A)
 | .pick c a b=>match a' c with
   | .bool t=>some (.value (bif t then a' a else a' b),A)
   |_=>none
 | .alloc t=>tg (Kx P A t)
 | .box t x=>tg (GZ A t (a' x))
 | .build t parts=>val A (KC P t (parts.map λ(i,x)=>(i,a' x)))
 | .buildSlice t len parts=>bif Nat.beq len 0&&Nat.beq parts.size 0 then tg (KF P A t) else tg (KE P A t len (parts.map λ(i,x)=>(i,a' x)))
 | .load t a=>val A (BZ P A t (a' a))
 | .store t a x=>match Kw P A t (a' x) (a' a) with
   |some bt=>some (.skip,bt)
   |none=>none
 | .nilCheck x=>val A (Sl (a' x))
 | .binOp op t x y _=>match (bif plain (a' x)&&plain (a' y) then tf P (do eqGuard op t x y (a' x) (a' y);binOp op t (a' x) (a' y)) else none) with
   |some v=>some (.value v,A)
   |none=>val A (K4 P op t (a' x) (a' y))
 | .unOp op _ x=>bif plain (a' x) then val A (tf P (Op.unary op (a' x))) else none
 | .convert ou dst x=>tg (Lt P A ou dst (a' x))
 | .makeInterface t x=>val A (K5 P t (a' x))
 | .makeFunc fn first B9=>bif Sm fn then none else some (.value (.func fn ⟨first.toList.map a'⟩ ⟨B9.toList.map a'⟩),A)
 | .makeSlice t l c=>bif plain (a' l)&&plain (a' c) then tg (KY P A t (a' l) (a' c)) else none
 | .slice t x eY af d_=>bif w4 a' eY&&(w4 a' af&&w4 a' d_) then val A (match KR P A t (a' x) (eY.map a') (af.map a') (d_.map a') with
     |some v=>some v
     |none=>bif plain (a' x) then tf P (Instr.sliceAt t (a' x) (eY.map a') (af.map a') (d_.map a')) else none) else none
 | .fieldAddr s x f=>val A (DO P s f (a' x))
 | .field t x f=>val A (Ky P t (a' x) f)
 | .indexAddr t x eA=>bif plain (a' eA) then val A (DP P t (a' x) (a' eA)) else none
 | .index t x eA=>bif plain (a' eA) then val A (match Kz P t (a' x) (a' eA) with
     |some v=>some v
     |none=>bif plain (a' x) then tf P (Instr.index t (a' x) (a' eA)) else none) else none
 | .typeAssert x _ asserted ok=>val A (K6 P (a' x) asserted ok)
 | .extract t eA=>val A (DS (a' t) eA)
 | .call c=>Lr P A a' c o.type
 | .makeMap t r=>bif w4 a' r then tg (Lg P A t (r.map a')) else none
 | .lookup t x eA ok=>val A (Hg P A t (a' x) (a' eA) ok)
 | .mapUpdate t m k x| .insert t m k x=>match D5 P A t (a' m) (a' k) (a' x) with
   |some bt=>some (.skip,bt)
   |none=>none
 | .mapEntry t m k=>tg (Hi P A t (a' m) (a' k))
 | .entryStore _ m st x=>match Hj P A (a' m) (a' st) (a' x) with
   |some bt=>some (.skip,bt)
   |none=>none
 | .range t x=>tg (Lj P A t (a' x))
 | .next it Sn=>tg (Lk A (a' it) Sn)
 |_=>none
section
variable {P:aQ} {φ:bQ} {A aV:aW} {w:au}
theorem abE (hr:bR φ A w) {ou dst:aH} {x x' v:U} (ak:aD φ x x') (h:Lt P A ou dst x=some (v,aV)):bU (g' v) P φ A w (convert ou dst x') aV:=by
 unfold Lt at h;split at h
 ·rename_i u hu
  simp only [cx,Prod.mk.injEq] at h;obtain⟨rfl,rfl⟩:=h;cases hp:plain x with
  |false=>rw[hp] at hu;cases hu
  |true=>
   rw[hp,bw] at hu;rw[aD.kN x hp ak];exact B8 hr hu
 split at h
 ·rename_i u hu
  cases h;exact aa7 hr ak hu
 ·split at h
  ·rename_i d e s h1 ae _ _
   split at h
   ·rename_i ay
    cases ak;unfold convert;refine bU.pre h1 (bU.pre ae ?_);simp only;refine bU.pre ay ?_;exact aa2 hr h
   ·cases h
  ·rename_i e a n c h1 ae _ _
   split at h
   ·rename_i ay
    obtain⟨aB,aC,he⟩:=Option.map_eq_some_iff.1 h;cases he;have av:=aa1 hr ak aC;unfold convert;refine bU.pre h1 (bU.pre ae ?_);cases ak<;>exact bU.pre ay av
   ·cases h
  ·cases h
theorem Ho {ρ ρ':Operand->U} (cJ:∀x,aD φ (ρ x) (ρ' x)) {o:Option Operand} (h:w4 ρ o=true):o.map ρ'=o.map ρ:=by
 cases o with
 |none=>rfl
 |some x=>simp only [Option.map_some];rw[aD.kN _ h (cJ x)]
theorem Sp [Lib P] (hr:bR φ A w) {ρ ρ':Operand->U} {o:Oper} {n:r2} (cJ:∀x,aD φ (ρ x) (ρ' x)) (h:D8 P ρ A o=some (n,aV)):bU (vD n) P φ A w (execOp ρ' o) aV:=by
 have fG:∀{v:U} {s:Sem U},bU (g' v) P φ A w s aV->bU (vD (.value v)) P φ A w (do pure (.value (<-s))) aV:=λav=>bU.map av λφ a ha=>⟨a,rfl,ha⟩
 have hval:∀{r:Option U},val A r=some (n,aV)->∃v,r=some v/\n= .value v/\aV=A:=by
  intro r aC;cases r with
  |none=>cases aC
  |some v=>simp only [val,cx,Prod.mk.injEq] at aC;exact⟨v,rfl,aC.1.symm,aC.2.symm⟩
 have vF:∀{r:Option (U×aW)},tg r=some (n,aV)->∃v,r=some (v,aV)/\n= .value v:=by
  intro r aC;cases r with
  |none=>cases aC
  |some p=>obtain⟨v,bt⟩:=p;simp only [tg,cx,Prod.mk.injEq] at aC;exact⟨v,by rw[aC.2],aC.1.symm⟩
 obtain⟨dst,op,type,pos,after,guard⟩:=o;unfold D8 at h;unfold execOp;cases op<;>simp only at h ⊢<;>try (cases h;done)
 case move x=>cases h;exact bU.ret hr ⟨_,rfl,cJ x⟩
 case assign x=>cases h;exact bU.ret hr ⟨_,rfl,cJ x⟩
 case pick c a b=>
  split at h
  ·rename_i t al
   cases h;have:=cJ c;rw[al] at this;cases Ah:ρ' c<;>rw[Ah] at this<;>cases this
   refine bU.pre (a:=t) rfl ?_;cases t
   ·exact bU.ret hr ⟨_,rfl,cJ b⟩
   ·exact bU.ret hr ⟨_,rfl,cJ a⟩
  ·cases h
 case alloc t=>
  obtain⟨v,h1,rfl⟩:=vF h;exact fG (aaw hr h1)
 case box t x=>
  obtain⟨v,h1,rfl⟩:=vF h;exact fG (RC hr (cJ x) h1)
 case build t parts=>
  obtain⟨v,h1,rfl,rfl⟩:=hval h;exact fG (aaC hr (λp _=>cJ p.2) h1)
 case buildSlice t len parts=>
  cases ad:(Nat.beq len 0&&Nat.beq parts.size 0) with
  |true=>
   rw[ad,bw] at h;simp only [c0] at ad;obtain⟨v,h1,rfl⟩:=vF h;have e1:len=0:=ct ad.1;have e2:parts= #[]:=Array.eq_empty_of_size_eq_zero (ct ad.2);subst e1;subst e2;exact fG (by simpa using aaE hr h1)
  |false=>
   rw[ad,ei] at h;obtain⟨v,h1,rfl⟩:=vF h;exact fG (aaD hr (λp _=>cJ p.2) h1)
 case load t a=>
  obtain⟨v,h1,rfl,rfl⟩:=hval h;exact fG (aat hr (cJ a) h1)
 case store t a x=>
  split at h
  ·rename_i bt h1
   cases h;exact bU.map (aav hr (cJ a) (cJ x) h1) λ_ _ _=>rfl
  ·cases h
 case nilCheck x=>
  obtain⟨v,h1,rfl,rfl⟩:=hval h;have ak:=cJ x;unfold Sl at h1;split at h1
  ·rename_i a ha
   cases h1;rw[ha] at ak;cases q7:ρ' x<;>rw[q7] at ak
   all_goals cases ak
   rename_i h;exact bU.ret hr ⟨_,rfl,ha▸.ptr h⟩
  ·rename_i f fs cs ha
   cases h1;rw[ha] at ak;cases q7:ρ' x<;>rw[q7] at ak
   all_goals cases ak
   rename_i h1 ae ay bE cn;exact bU.ret hr ⟨_,rfl,ha▸.func _ _ _ _ h1 ae bE ay cn⟩
  ·rename_i t u ha
   cases h1;rw[ha] at ak;cases q7:ρ' x<;>rw[q7] at ak
   all_goals cases ak
   rename_i h;exact bU.ret hr ⟨_,rfl,ha▸.iface _ h⟩
  ·cases h1
 case binOp op t x y Sq=>
  split at h
  ·rename_i v aC
   cases h;cases hp:plain (ρ x) with
   |false=>simp only [hp,Bool.false_and,ei] at aC;cases aC
   |true=>
    cases a1:plain (ρ y) with
    |false=>simp only [a1,Bool.and_false,ei] at aC;cases aC
    |true=>
     simp only [hp,a1,Bool.and_true,bw] at aC;rw[aD.kN _ hp (cJ x),aD.kN _ a1 (cJ y)];exact fG (B8 hr aC)
  ·obtain⟨v,h1,rfl,rfl⟩:=hval h
   exact fG (aa4 hr (cJ x) (cJ y) h1)
 case unOp op t x=>
  cases hp:plain (ρ x) with
  |false=>rw[hp] at h;cases h
  |true=>
   rw[hp,bw] at h;obtain⟨v,h1,rfl,rfl⟩:=hval h;rw[aD.kN _ hp (cJ x)];exact fG (B8 hr h1)
 case convert ou dst x=>
  obtain⟨v,h1,rfl⟩:=vF h;exact fG (abE hr (cJ x) h1)
 case makeInterface t x=>
  obtain⟨v,h1,rfl,rfl⟩:=hval h;exact fG (aa5 hr (cJ x) h1)
 case makeFunc fn first B9=>
  cases bg:Sm fn with
  |true=>rw[bg] at h;cases h
  |false=>
   rw[bg] at h;cases h;have cS:=hy.map (φ:=φ) (l:=first) (ρ:=ρ) (ρ':=ρ') λx _=>cJ x
   have dL:=hy.map (φ:=φ) (l:=B9) (ρ:=ρ) (ρ':=ρ') λx _=>cJ x
   refine bU.ret hr ⟨_,rfl,.func _ _ _ _ (λl hl=>by subst hl;cases bg) (by simp) (by simp) (λi af=> ?_) (λi af=> ?_)⟩
   ·have:=cS.2 i (by simpa using af)
    simpa [e5] using this
   ·have:=dL.2 i (by simpa using af)
    simpa [e5] using this
 case makeSlice t l c=>
  cases hp:plain (ρ l) with
  |false=>simp only [hp,Bool.false_and,ei] at h;cases h
  |true=>
   cases a1:plain (ρ c) with
   |false=>simp only [a1,Bool.and_false,ei] at h;cases h
   |true=>
    simp only [hp,a1,Bool.and_true,bw] at h;obtain⟨v,h1,rfl⟩:=vF h;rw[aD.kN _ hp (cJ l),aD.kN _ a1 (cJ c)];exact fG (aaY hr h1)
 case slice t x eY af d_=>
  cases hp:(w4 ρ eY&&(w4 ρ af&&w4 ρ d_)) with
  |false=>rw[hp] at h;cases h
  |true=>
   rw[hp,bw] at h;simp only [c0] at hp;obtain⟨v,h1,rfl,rfl⟩:=hval h;rw[Ho cJ hp.1,Ho cJ hp.2.1,Ho cJ hp.2.2];split at h1
   ·rename_i u hu
    cases h1;exact fG (aaU hr (cJ x) hu)
   ·cases a1:plain (ρ x) with
    |false=>rw[a1] at h1;cases h1
    |true=>
     rw[a1,bw] at h1;rw[aD.kN _ a1 (cJ x)];exact fG (B8 hr h1)
 case fieldAddr s x f=>
  obtain⟨v,h1,rfl,rfl⟩:=hval h;exact fG (aax hr (cJ x) h1)
 case field t x f=>
  obtain⟨v,h1,rfl,rfl⟩:=hval h;exact fG (aaz hr (cJ x) h1)
 case indexAddr t x eA=>
  cases hp:plain (ρ eA) with
  |false=>rw[hp] at h;cases h
  |true=>
   rw[hp,bw] at h;obtain⟨v,h1,rfl,rfl⟩:=hval h;rw[aD.kN _ hp (cJ eA)];exact fG (aay hr (cJ x) h1)
 case index t x eA=>
  cases hp:plain (ρ eA) with
  |false=>rw[hp] at h;cases h
  |true=>
   rw[hp,bw] at h;obtain⟨v,h1,rfl,rfl⟩:=hval h;rw[aD.kN _ hp (cJ eA)];split at h1
   ·rename_i u hu
    cases h1;exact fG (aaA hr (cJ x) hu)
   ·cases a1:plain (ρ x) with
    |false=>rw[a1] at h1;cases h1
    |true=>
     rw[a1,bw] at h1;rw[aD.kN _ a1 (cJ x)];exact fG (B8 hr h1)
 case typeAssert x R4 asserted ok=>
  obtain⟨v,h1,rfl,rfl⟩:=hval h;exact fG (aa6 hr (cJ x) h1)
 case extract t eA=>
  obtain⟨v,h1,rfl,rfl⟩:=hval h;exact fG (aaB hr (cJ t) h1)
 case call c=>exact abC hr cJ h
 case makeMap t r=>
  cases hp:w4 ρ r with
  |false=>rw[hp] at h;cases h
  |true=>
   rw[hp,bw] at h;obtain⟨v,h1,rfl⟩:=vF h;rw[Ho cJ hp];exact fG (abm hr h1)
 case lookup t x eA ok=>
  obtain⟨v,h1,rfl,rfl⟩:=hval h;have hp:plain (ρ eA)=true:=by
   unfold Hg at h1;cases hp:plain (ρ eA) with
   |true=>rfl
   |false=>rw[hp] at h1;cases h1
  rw[aD.kN _ hp (cJ eA)];exact fG (abn hr (cJ x) h1)
 case mapUpdate t m k x=>
  split at h
  ·rename_i bt h1
   cases h;have hp:plain (ρ k)=true:=by
    unfold D5 at h1;cases hp:plain (ρ k) with
    |true=>rfl
    |false=>rw[hp] at h1;cases h1
   rw[aD.kN _ hp (cJ k)];exact bU.map (Sg hr (cJ m) (cJ x) h1) λ_ _ _=>rfl
  ·cases h
 case insert t m k x=>
  split at h
  ·rename_i bt h1
   cases h;have hp:plain (ρ k)=true:=by
    unfold D5 at h1;cases hp:plain (ρ k) with
    |true=>rfl
    |false=>rw[hp] at h1;cases h1
   rw[aD.kN _ hp (cJ k)];exact bU.map (Sg hr (cJ m) (cJ x) h1) λ_ _ _=>rfl
  ·cases h
 case mapEntry t m k=>
  obtain⟨v,h1,rfl⟩:=vF h;have hp:plain (ρ k)=true:=by
   unfold Hi at h1;cases hp:plain (ρ k) with
   |true=>rfl
   |false=>rw[hp] at h1;cases h1
  rw[aD.kN _ hp (cJ k)];exact fG (abp hr (cJ m) h1)
 case entryStore t m st x=>
  split at h
  ·rename_i bt h1
   cases h;have hp:plain (ρ st)=true:=by
    unfold Hj at h1;split at h1
    ·split at h1
     ·cases hp:plain (ρ st) with
      |true=>rfl
      |false=>rw[hp] at h1;cases h1
     ·cases h1
    ·cases h1
   rw[aD.kN _ hp (cJ st)];exact bU.map (abt hr (cJ m) (cJ x) h1) λ_ _ _=>rfl
  ·cases h
 case range t x=>
  obtain⟨v,h1,rfl⟩:=vF h;exact fG (abv hr (cJ x) h1)
 case next it Sn=>
  obtain⟨v,h1,rfl⟩:=vF h;exact fG (abx hr (cJ it) h1)
end
end AE
namespace AE
mutual
def fj:U->U->Bool
 | .bool a,.bool b=>a==b
 | .int k n,.int k' fz=>decide (k=k')&&decide (n=fz)
 | .complex .f64 a b,.complex .f64 aS b'=>Nat.beq a aS&&Nat.beq b b'
 | .string s,.string t=>s.data.toList==t.data.toList
 | .pointer none,.pointer none=>true
 | .slice none l c,.slice none l' c'=>Nat.beq l l'&&Nat.beq c c'
 | .map none,.map none=>true
 | .nilFunc,.nilFunc=>true
 | .nilIface,.nilIface=>true
 | .func (.func f) ⟨a⟩ ⟨b⟩,.func (.func g) ⟨aS⟩ ⟨b'⟩=>Nat.beq f g&&(nu a aS&&nu b b')
 | .iface t v,.iface da aB=>Nat.beq t da&&fj v aB
 | .agg ⟨l⟩,.agg ⟨l'⟩=>nu l l'
 | .tuple ⟨l⟩,.tuple ⟨l'⟩=>nu l l'
 |_,_=>false
def nu:List U->List U->Bool
 |[],[]=>true
 |v::r,aB::dY=>fj v aB&&nu r dY
 |_,_=>false
end
mutual
theorem gx:∀(a b:U),fj a b=true->a=b:=by
 intro a b h;unfold fj at h;split at h
 ·rw[eq_of_beq h]
 ·simp only [c0,decide_eq_true_eq] at h;rw[h.1,h.2]
 ·simp only [c0] at h;rw[ct h.1,ct h.2]
 ·rename_i s t
  have:=eq_of_beq h;obtain⟨⟨s⟩⟩:=s;obtain⟨⟨t⟩⟩:=t;simp only at this;rw[this]
 ·rfl
 ·simp only [c0] at h;rw[ct h.1,ct h.2]
 ·rfl
 ·rfl
 ·rfl
 ·simp only [c0] at h;rw[ct h.1,qc _ _ h.2.1,qc _ _ h.2.2]
 ·rename_i t v da aB
  simp only [c0] at h;rw[ct h.1,gx v aB h.2]
 ·rename_i l l'
  rw[qc l l' h]
 ·rename_i l l'
  rw[qc l l' h]
 ·cases h
theorem qc:∀(a b:List U),nu a b=true->a=b
 |[],[],_=>rfl
 |v::r,aB::dY,h=>by
  unfold nu at h;simp only [c0] at h;rw[gx v aB h.1,qc r dY h.2]
 |[],_::_,h=>by simp [nu] at h
 |_::_,[],h=>by simp [nu] at h
end
mutual
def aM:U->Bool
 | .complex .f64 _ b=>Nat.beq b 0
 | .iface _ v=>aM v
 | .agg ⟨l⟩=>dW l
 | .tuple ⟨l⟩=>dW l
 | .bool _| .int .. | .float .. | .string _| .pointer none| .map none| .chan none| .nilFunc| .nilIface=>true
 | .slice none l c=>l==0&&c==0
 | .func (.func _) ⟨a⟩ ⟨b⟩=>dW a&&dW b
 |_=>false
def dW:List U->Bool
 |[]=>true
 |v::r=>aM v&&dW r
end
variable [aY]
mutual
def aK:U->U
 | .complex .f64 k b=>bif Nat.beq b 0 then aY.σ k else .complex .f64 k b
 | .iface t v=> .iface t (aK v)
 | .agg ⟨l⟩=> .agg ⟨et l⟩
 | .tuple ⟨l⟩=> .tuple ⟨et l⟩
 | .func (.func f) ⟨a⟩ ⟨b⟩=> .func (.func f) ⟨et a⟩ ⟨et b⟩
 |v=>v
def et:List U->List U
 |[]=>[]
 |v::r=>aK v::et r
end
theorem Hp (k:Nat):aK (aj k)=aY.σ k:=by simp [aj,aK]
theorem w5:∀l:List U,(et l).length=l.length
 |[]=>rfl
 |v::r=>by simp [et,w5 r]
theorem Lu:∀l:List U,et l=l.map aK
 |[]=>rfl
 |v::r=>by simp [et,Lu r]
mutual
theorem aD.vG (φ:bQ):∀v:U,aM v=true->aD φ v (aK v):=by
 intro v h;unfold aM at h;split at h
 ·rename_i k b
  have:b=0:=ct h;subst this;have:=aD.sym (φ:=φ) k;simpa [aK,aj] using this
 ·rename_i t v
  unfold aK;exact .iface t (aD.vG φ v h)
 ·rename_i l
  unfold aK;exact .agg _ _ (by simp [w5]) λi af=>by simpa using aD.Aj φ l h i (by simpa using af)
 ·rename_i l
  unfold aK;exact .tuple _ _ (by simp [w5]) λi af=>by simpa using aD.Aj φ l h i (by simpa using af)
 all_goals (first|(cases h;done)|skip)
 ·rename_i b;simpa [aK] using aD.ku φ (.bool b) rfl
 ·rename_i k n;simpa [aK] using aD.ku φ (.int k n) rfl
 ·rename_i k n;simpa [aK] using aD.ku φ (.float k n) rfl
 ·rename_i s;simpa [aK] using aD.ku φ (.string s) rfl
 ·simpa [aK] using aD.ku φ (.pointer none) rfl
 ·simpa [aK] using aD.ku φ (.map none) rfl
 ·simpa [aK] using aD.ku φ (.chan none) rfl
 ·simpa [aK] using aD.ku φ .nilFunc rfl
 ·simpa [aK] using aD.ku φ .nilIface rfl
 ·rename_i l c;simpa [aK] using aD.ku φ (.slice none l c) h
 ·rename_i f a b
  simp only [c0] at h;unfold aK;exact .func _ _ _ _ (λl hl=>by cases hl) (by simp [w5]) (by simp [w5]) (λi af=>by simpa using aD.Aj φ a h.1 i (by simpa using af)) (λi af=>by simpa using aD.Aj φ b h.2 i (by simpa using af))
theorem aD.Aj (φ:bQ):∀l:List U,dW l=true->∀i,i<l.length->aD φ (l.getD i Go.undef) ((et l).getD i Go.undef)
 |[],_,i,af=>absurd af (by simp)
 |v::r,h,0,_=>by
   have:=aD.vG φ v (by simp [dW] at h;exact h.1);simpa [et] using this
 |v::r,h,i+1,af=>by
   have:=aD.Aj φ r (by simp [dW] at h;exact h.2) i (by simpa using af);simpa [et] using this
end
theorem aD.abF {φ:bQ} {k:Nat} {aB:U} (h:aD φ (aj k) aB):aB=aY.σ k:=by
 generalize av:aj k=s at h;cases h<;>simp [aj,AE.cL] at av
 subst av;rfl
mutual
theorem aD.iq {φ:bQ}:∀(v:U) {aB:U},aM v=true->aD φ v aB->aB=aK v:=by
 intro v aB hp h;unfold aM at hp;split at hp
 ·rename_i k b
  have:b=0:=ct hp;subst this;rw[aD.abF (k:=k) h];simp [aK]
 ·rename_i t v
  cases h with
  |iface t h=>unfold aK;rw[aD.iq v hp h]
 ·rename_i l
  cases h with
  |agg cs cs' h1 ae=>
   obtain⟨l'⟩:=cs';unfold aK;rw[aD.yF l l' hp (by simpa using h1) (λi af=>by simpa using ae i (by simpa using af))]
 ·rename_i l
  cases h with
  |tuple cs cs' h1 ae=>
   obtain⟨l'⟩:=cs';unfold aK;rw[aD.yF l l' hp (by simpa using h1) (λi af=>by simpa using ae i (by simpa using af))]
 all_goals (first|(cases hp;done)|skip)
 all_goals first|(unfold aK;refine aD.kN _ ?_ h;first|exact hp|rfl;done)|skip
 rename_i f a b;simp only [c0] at hp;cases h with
 |func fs j_ cs cs' aq h1 ae aP al=>
  obtain⟨aS⟩:=j_;obtain⟨b'⟩:=cs';unfold aK;rw[aD.yF a aS hp.1 (by simpa using h1) (λi af=>by simpa using aP i (by simpa using af)),aD.yF b b' hp.2 (by simpa using ae) (λi af=>by simpa using al i (by simpa using af))]
theorem aD.yF {φ:bQ}:∀(l l':List U),dW l=true->l.length=l'.length->(∀i,i<l.length->aD φ (l.getD i Go.undef) (l'.getD i Go.undef))->l'=et l
 |[],[],_,_,_=>rfl
 |[],_::_,_,h,_=>by simp at h
 |_::_,[],_,h,_=>by simp at h
 |v::r,aB::dY,hp,hl,h=>by
   have h1:=aD.iq v (by simp [dW] at hp;exact hp.1) (by simpa using h 0 (by simp));have ae:=aD.yF r dY (by simp [dW] at hp;exact hp.2) (by simpa using hl) (λi af=>by simpa using h (i+1) (by simpa using af));rw[h1,ae];rfl
end
inductive fH where
 |bin (op:BinOp) (t:aH) (x y:U)
 |un (op:UnOp) (x:U)
 |conv (s d:aH) (x:U)
 |lr (t:aH) (x:U) (eY af d_:Option U)
 |cP (t:aH) (x i:U)
 |eA (t:aH) (x i:U)
 |bp (t:aH) (a:U)
 |cu (t:aH) (a:U) (f:Nat)
 |dR (x:U)
 |len (cM:Array aH) (ty:aH) (x:U)
 |d_ (cM:Array aH) (ty:aH) (x y:U)
 |k7 (cM:Array aH) (ty:aH) (x y:U)
 |eo (x:U)
 |mw (t:aH) (x i:U) (ok:Bool)
def D9:Option U->Option U->Bool
 |none,none=>true
 |some a,some b=>fj a b
 |_,_=>false
omit [aY] in
theorem Lv {a b:Option U} (h:D9 a b=true):a=b:=by
 unfold D9 at h;split at h
 ·rfl
 ·rw[gx _ _ h]
 ·cases h
def B':fH->fH->Bool
 | .bin op t x y,.bin Lw da x' gV=>decide (op=Lw)&&(Nat.beq t da&&(fj x x'&&fj y gV))
 | .un op x,.un Lw x'=>decide (op=Lw)&&fj x x'
 | .conv s d x,.conv e6 nr x'=>Nat.beq s e6&&(Nat.beq d nr&&fj x x')
 | .lr t x eY af d_,.lr da x' abG lH abH=>Nat.beq t da&&(fj x x'&&(D9 eY abG&&(D9 af lH&&D9 d_ abH)))
 | .cP t x i,.cP da x' q3=>Nat.beq t da&&(fj x x'&&fj i q3)
 | .eA t x i,.eA da x' q3=>Nat.beq t da&&(fj x x'&&fj i q3)
 | .bp t a,.bp da aS=>Nat.beq t da&&fj a aS
 | .cu t a f,.cu da aS iC=>Nat.beq t da&&(fj a aS&&Nat.beq f iC)
 | .dR x,.dR x'=>fj x x'
 | .len cM ty x,.len D' ty' x'=>decide (cM=D')&&(Nat.beq ty ty'&&fj x x')
 | .d_ cM ty x y,.d_ D' ty' x' gV=>decide (cM=D')&&(Nat.beq ty ty'&&(fj x x'&&fj y gV))
 | .k7 cM ty x y,.k7 D' ty' x' gV=>decide (cM=D')&&(Nat.beq ty ty'&&(fj x x'&&fj y gV))
 | .eo x,.eo x'=>fj x x'
 | .mw t x i ok,.mw da x' q3 abI=>Nat.beq t da&&(fj x x'&&(fj i q3&&decide (ok=abI)))
 |_,_=>false
omit [aY] in
theorem Lx {a b:fH} (h:B' a b=true):a=b:=by
 unfold B' at h;split at h<;>try simp only [c0,decide_eq_true_eq] at h
 case h_1=>rw[h.1,ct h.2.1,gx _ _ h.2.2.1,gx _ _ h.2.2.2]
 case h_2=>rw[h.1,gx _ _ h.2]
 case h_3=>rw[ct h.1,ct h.2.1,gx _ _ h.2.2]
 case h_4=>rw[ct h.1,gx _ _ h.2.1,Lv h.2.2.1,Lv h.2.2.2.1,Lv h.2.2.2.2]
 case h_5=>rw[ct h.1,gx _ _ h.2.1,gx _ _ h.2.2]
 case h_6=>rw[ct h.1,gx _ _ h.2.1,gx _ _ h.2.2]
 case h_7=>rw[ct h.1,gx _ _ h.2]
 case h_8=>rw[ct h.1,gx _ _ h.2.1,ct h.2.2]
 case h_9=>rw[gx _ _ h]
 case h_10=>rw[h.1,ct h.2.1,gx _ _ h.2.2]
 case h_11=>rw[h.1,ct h.2.1,gx _ _ h.2.2.1,gx _ _ h.2.2.2]
 case h_12=>rw[h.1,ct h.2.1,gx _ _ h.2.2.1,gx _ _ h.2.2.2]
 case h_13=>rw[gx _ _ h]
 case h_14=>rw[ct h.1,gx _ _ h.2.1,gx _ _ h.2.2.1,h.2.2.2]
 case h_15=>cases h
def qd (a':Operand->U) (o:Oper):Option fH:=
 match o.op with
 | .binOp op t x y _=>some (.bin op t (a' x) (a' y))
 | .unOp op _ x=>some (.un op (a' x))
 | .convert s d x=>some (.conv s d (a' x))
 | .slice t x eY af d_=>some (.lr t (a' x) (eY.map a') (af.map a') (d_.map a'))
 | .indexAddr t x i=>some (.cP t (a' x) (a' i))
 | .index t x i=>some (.eA t (a' x) (a' i))
 | .load t a=>some (.bp t (a' a))
 | .fieldAddr t a f=>some (.cu t (a' a) f)
 | .nilCheck x=>some (.dR (a' x))
 | .call c=>match c.callee with
   | .builtin .len=>match c.args with
     |⟨[x]⟩=>some (.len c.argTypes o.type (a' x))
     |_=>none
   | .builtin .max=>match c.args with
     |⟨[x,y]⟩=>some (.d_ c.argTypes o.type (a' x) (a' y))
     |_=>none
   | .builtin .min=>match c.args with
     |⟨[x,y]⟩=>some (.k7 c.argTypes o.type (a' x) (a' y))
     |_=>none
   |_=>none
 | .lookup t x i ok=>some (.mw t (a' x) (a' i) ok)
 |_=>none
def fI (dO dP:Operand):fH->Sem Next
 | .bin op t x y=>do pure (.value (<-(do eqGuard op t dO dP x y;binOp op t x y)))
 | .un op x=>do pure (.value (<-Op.unary op x))
 | .conv s d x=>do pure (.value (<-convert s d x))
 | .lr t x eY af d_=>do pure (.value (<-Instr.sliceAt t x eY af d_))
 | .cP t x i=>do pure (.value (<-Instr.indexAt t x i))
 | .eA t x i=>do pure (.value (<-Instr.index t x i))
 | .bp t a=>do pure (.value (<-Instr.loadAt t a))
 | .cu t a f=>do pure (.value (<-Instr.fieldAt t a f))
 | .dR x=>execOp (λ_=>x) ⟨none,.nilCheck (.const undef),0,"",#[],none⟩
 | .len cM ty x=>do pure (.value (<-Builtin.len_ cM ty #[x]))
 | .d_ cM ty x y=>do pure (.value (<-Builtin.max_ cM ty #[x,y]))
 | .k7 cM ty x y=>do pure (.value (<-Builtin.min_ cM ty #[x,y]))
 | .eo x=>pure (.value x)
 | .mw t x i ok=>do pure (.value (<-Instr.lookup t x i ok))
def w6:fH->fH
 | .bin op t x y=> .bin op t (aK x) (aK y)
 | .un op x=> .un op (aK x)
 | .conv s d x=> .conv s d (aK x)
 | .lr t x eY af d_=> .lr t (aK x) (eY.map aK) (af.map aK) (d_.map aK)
 | .cP t x i=> .cP t (aK x) (aK i)
 | .eA t x i=> .eA t (aK x) (aK i)
 | .bp t a=> .bp t (aK a)
 | .cu t a f=> .cu t (aK a) f
 | .dR x=> .dR (aK x)
 | .len cM ty x=> .len cM ty (aK x)
 | .d_ cM ty x y=> .d_ cM ty (aK x) (aK y)
 | .k7 cM ty x y=> .k7 cM ty (aK x) (aK y)
 | .eo x=> .eo (aK x)
 | .mw t x i ok=> .mw t (aK x) (aK i) ok
def plainO:Option U->Bool
 |none=>true
 |some v=>aM v
def nv:fH->Bool
 | .bin _ _ x y| .cP _ x y| .eA _ x y| .d_ _ _ x y| .k7 _ _ x y| .mw _ x y _=>aM x&&aM y
 | .un _ x| .eo x| .conv _ _ x| .bp _ x| .cu _ x _| .dR x| .len _ _ x=>aM x
 | .lr _ x eY af d_=>aM x&&(plainO eY&&(plainO af&&plainO d_))
def B_:fH->Bool
 | .bin .. | .un .. | .eo .. | .cP .. | .cu .. | .len .. | .d_ .. | .k7 .. | .dR _=>true
 |_=>false
def nw (w:au):Prop:=∀i o,aY.dg i=some o->w.heap[i]? =some o
def aR (P:aQ) (p:fH×U):Prop:=
 nv p.1=true/\aM p.2=true/\
 if B_ p.1 then ∀dO dP w,(fI dO dP (w6 p.1)).run P w= .ok (.value (aK p.2)) w
 else ∀dO dP w,nw w->(fI dO dP (w6 p.1)).run P w= .ok (.value (aK p.2)) w
class dX (P:aQ) where
 ops:List (fH×U)
def qe (P:aQ) [dX P]:Prop:=∀p∈dX.ops P,aR P p
def find (f:fH):List (fH×U)->Option U
 |[]=>none
 |p::r=>bif B' f p.1 then some p.2 else find f r
omit [aY] in
theorem Hq {f:fH} {v:U}:∀{l:List (fH×U)},find f l=some v->(f,v)∈l
 |[],h=>by cases h
 |p::r,h=>by
  unfold find at h;cases he:B' f p.1 with
  |true=>
   rw[he,bw,cx] at h;have:=Lx he;subst this;subst h;exact List.mem_cons_self
  |false=>
   rw[he,ei] at h;exact List.mem_cons_of_mem _ (Hq h)
def ti (P:aQ) [dX P] (a':Operand->U) (o:Oper):Option U:=
 match dX.ops P with
 |[]=>none
 |l=>match qd a' o with
  |some f=>find f l
  |none=>none
def Ak (P:aQ) [dX P] (v:U):Option Bool:=
 match dX.ops P with
 |[]=>none
 |l=>match find (.eo v) l with
  |some (.bool b)=>some b
  |_=>none
def abJ:fH->Bool
 | .eo (.bool true)=>true
 |_=>false
def abK (P:aQ) [dX P]:Bool:=
 match dX.ops P with
 |[]=>false
 |p::_=>abJ p.1
def Hr (P:aQ) [dX P] (a':Operand->U) (o:Oper):Option U:=
 match dX.ops P with
 |[]=>none
 |_=>match o.op with
  | .pick c x y=>match Ak P (a' c) with
    |some t=>some (bif t then a' x else a' y)
    |none=>none
  |_=>none
def Ly (t:aH):fH->Bool
 | .eo (.int .i64 (.ofNat m))=>Nat.beq m t
 |_=>false
def Lz (P:aQ) [dX P] (o:Oper):Bool:=match dX.ops P with
 |[]=>false
 |l=>match o.op with
  | .makeMap .. =>abK P
  | .alloc t=>l.any λp=>Ly t p.1
  | .box t _=>l.any λp=>Ly t p.1
  | .buildSlice t n _=>bif Nat.beq n 0 then false else l.any λp=>Ly t p.1
  |_=>false
def Ca (P:aQ) [Lib P] [dX P] (a':Operand->U) (A:aW) (o:Oper):Option (r2×aW):=
 match ti P a' o with
 |some v=>some (.value v,A)
 |none=>match Hr P a' o with
  |some v=>some (.value v,A)
  |none=>bif Lz P o then none else D8 P a' A o
section
variable {P:aQ} {φ:bQ} {A aV:aW} {w:au}
theorem Sr {ρ ρ':Operand->U} {o:Oper} {f:fH} (cJ:∀x,aD φ (ρ x) (ρ' x)) (h:qd ρ o=some f) (hp:nv f=true):qd ρ' o=some (w6 f):=by
 have e:∀x,aM (ρ x)=true->ρ' x=aK (ρ x):=λx ak=>aD.iq _ ak (cJ x)
 have LA:∀x:Option Operand,plainO (x.map ρ)=true->x.map ρ'=(x.map ρ).map aK:=λx ak=>by
  cases x with
  |none=>rfl
  |some x=>simp only [Option.map_some];rw[e x ak]
 unfold qd at h ⊢;split at h<;>try (cases h;done)
 all_goals try (simp only [cx] at h;subst h;simp only [nv,c0] at hp)
 ·rw[e _ hp.1,e _ hp.2];rfl
 ·rw[e _ hp];rfl
 ·rw[e _ hp];rfl
 ·rw[e _ hp.1,LA _ hp.2.1,LA _ hp.2.2.1,LA _ hp.2.2.2];rfl
 ·rw[e _ hp.1,e _ hp.2];rfl
 ·rw[e _ hp.1,e _ hp.2];rfl
 ·rw[e _ hp];rfl
 ·rw[e _ hp];rfl
 ·rw[e _ hp];rfl
 ·split at h<;>try (cases h;done)
  all_goals (split at h<;>try (cases h;done))
  all_goals (simp only [cx] at h;subst h;simp only [nv,c0] at hp)
  ·rw[e _ hp];rfl
  ·rw[e _ hp.1,e _ hp.2];rfl
  ·rw[e _ hp.1,e _ hp.2];rfl
 ·rw[e _ hp.1,e _ hp.2];rfl
omit [aY] in
theorem Ss {ρ:Operand->U} {o:Oper} {f:fH} (h:qd ρ o=some f):∃dO dP,∀P w,(execOp ρ o).run P w=(fI dO dP f).run P w:=by
 obtain⟨dst,op,type,pos,after,guard⟩:=o;unfold qd at h;simp only at h;split at h<;>try (cases h;done)
 case h_1 op t x y Sq=>cases h;exact⟨x,y,λ_ _=>rfl⟩
 case h_10 c=>
  split at h<;>try (cases h;done)
  all_goals (split at h<;>try (cases h;done))
  all_goals (cases h;refine⟨.const undef,.const undef,λP w=> ?_⟩;unfold execOp resolve)
  ·rename_i _ h1 _ _ ae;simp only [h1,ae,List.map_toArray,List.map_cons,List.map_nil];rfl
  ·rename_i _ h1 _ _ _ ae;simp only [h1,ae,List.map_toArray,List.map_cons,List.map_nil];rfl
  ·rename_i _ h1 _ _ _ ae;simp only [h1,ae,List.map_toArray,List.map_cons,List.map_nil];rfl
 all_goals (cases h;exact⟨.const undef,.const undef,λ_ _=>rfl⟩)
theorem abL [dX P] (cF:qe P) (hr:bR φ A w) {ρ ρ':Operand->U} {o:Oper} {v:U} (cJ:∀x,aD φ (ρ x) (ρ' x)) (h:ti P ρ o=some v):bU (vD (.value v)) P φ A w (execOp ρ' o) A:=by
 unfold ti at h;split at h
 ·cases h
 split at h
 ·rename_i f aP
  have hM:=cF _ (Hq h);obtain⟨h1,ae,ay⟩:=hM;simp only at h1 ae ay;obtain⟨dO,dP,he⟩:=Ss (Sr cJ aP h1);have eQ:(fI dO dP (w6 f)).run P w= .ok (.value (aK v)) w:=by
   split at ay
   ·exact ay dO dP w
   ·exact ay dO dP w λi o af=>(hr.dg i o af).1
  exact⟨φ,w,_,(he P w).trans eQ,⟨_,rfl,aD.vG φ v ae⟩,cg.refl hr⟩
 ·cases h
theorem Hs [dX P] (cF:qe P) (w:au) {v aB:U} {b:Bool} (h:Ak P v=some b) (aC:aD φ v aB):aB= .bool b:=by
 unfold Ak at h;split at h
 ·cases h
 split at h
 ·rename_i b' ad
  cases h;obtain⟨h1,ae,ay⟩:=cF _ (Hq ad);have hp:aM v=true:=h1;have bE:=ay (.const undef) (.const undef) w;rw[aD.iq v hp aC];have cn:(Result.ok (Next.value (aK v)) w:Result Next)= .ok (.value (aK (.bool b))) w:=bE;simp only [Result.ok.injEq,Next.value.injEq,and_true] at cn;exact cn
 ·cases h
theorem abM [dX P] (cF:qe P) (hr:bR φ A w) {ρ ρ':Operand->U} {o:Oper} {v:U} (cJ:∀x,aD φ (ρ x) (ρ' x)) (h:Hr P ρ o=some v):bU (vD (.value v)) P φ A w (execOp ρ' o) A:=by
 unfold Hr at h;split at h
 ·cases h
 split at h
 ·rename_i c x y cj
  split at h
  ·rename_i t aI
   cases h;have al:=Hs cF w aI (cJ c);refine⟨φ,w,.value (bif t then ρ' x else ρ' y),?_,?_,cg.refl hr⟩
   ·unfold execOp
    rw[cj];simp only [al];cases t<;>rfl
   ·cases t
    ·exact⟨_,rfl,cJ y⟩
    ·exact⟨_,rfl,cJ x⟩
  ·cases h
 ·cases h
theorem Cb [Lib P] [dX P] (cF:qe P) (hr:bR φ A w) {ρ ρ':Operand->U} {o:Oper} {n:r2} (cJ:∀x,aD φ (ρ x) (ρ' x)) (h:Ca P ρ A o=some (n,aV)):bU (vD n) P φ A w (execOp ρ' o) aV:=by
 unfold Ca at h;split at h
 ·rename_i v aC
  cases h;exact abL cF hr cJ aC
 split at h
 ·rename_i v aC
  cases h;exact abM cF hr cJ aC
 ·cases ad:Lz P o with
  |true=>rw[ad] at h;cases h
  |false=>rw[ad,ei] at h;exact Sp hr cJ h
theorem Cc [dX P] (cF:qe P) {ρ ρ':Operand->U} {o:Oper} {v:U} (cJ:∀x,aD φ (ρ x) (ρ' x)) (h:ti P ρ o=some v) (ag:∀f,qd ρ o=some f->B_ f=true):∃aB,(∀w,(execOp ρ' o).run P w= .ok (.value aB) w)/\aD φ v aB:=by
 unfold ti at h;split at h
 ·cases h
 split at h
 ·rename_i f aP
  obtain⟨h1,ae,ay⟩:=cF _ (Hq h);simp only at h1 ae ay;obtain⟨dO,dP,he⟩:=Ss (Sr cJ aP h1);rw[aN (ag f aP)] at ay;exact⟨_,λw=>(he P w).trans (ay dO dP w),aD.vG φ v ae⟩
 ·cases h
end
end AE
namespace AE
variable [aY]
abbrev aT:=b4 U
abbrev abN:=FuncId->List U->aW->Option (U×aW)
def slot (sl:aT) (t:Nat):U:=
 match sl.get t with
 |some v=>v
 |none=>cL
def ea (gl:b4 Nat) (sl:aT):Operand->U
 | .tmp t=>slot sl t
 | .const v=>bif plain v then v else cL
 | .global g=>match gl.get g with
   |some b=> .pointer (some ⟨b,0,none⟩)
   |none=>aj (eD+g)
 | .func f=> .func (.func f) ⟨[]⟩ ⟨[]⟩
def lZ (gl:b4 Nat) (φ:bQ):Prop:=∀g b,gl.get g=some b->∃e,φ b=some e/\e.bf=g/\e.sh=0
structure fu (N:Nat) (ds:List Deferred) (φ:bQ) (sl:aT) (a:Act):Prop where
 size:a.tmps.size=N
 defers:a.defers=ds
 get:∀t v,sl.get t=some v->aD φ v (a.tmps.getD t undef)
theorem fu.mono {N:Nat} {ds:List Deferred} {φ cR:bQ} {sl:aT} {a:Act} (h:fu N ds φ sl a) (he:∀b e,φ b=some e->cR b=some e):fu N ds cR sl a:=
 ⟨h.size,h.defers,λt v aC=>(h.get t v aC).mono he⟩
omit [aY] in
theorem lZ.mono {gl:b4 Nat} {φ cR:bQ} (h:lZ gl φ) (he:∀b e,φ b=some e->cR b=some e):lZ gl cR:=λg b az=>by
 obtain⟨e,h1,ae⟩:=h g b az;exact⟨e,he _ _ h1,ae⟩
theorem Ht {φ:bQ} {sl:aT} {aB:U} {t:Nat} (h:∀v,sl.get t=some v->aD φ v aB):aD φ (slot sl t) aB:=by
 unfold slot;cases az:sl.get t with
 |none=>exact .cL _
 |some v=>exact h v az
theorem gg {gl:b4 Nat} {φ:bQ} {sl:aT} {a:Act} (az:lZ gl φ) (av:∀t v,sl.get t=some v->aD φ v (a.tmps.getD t undef)) (x:Operand):aD φ (ea gl sl x) (a.eval x):=by
 cases x with
 |tmp t=>exact Ht (av t)
 |const v=>
  simp only [ea];cases hp:plain v with
  |true=>exact aD.ku φ v hp
  |false=>exact .cL _
 |global g=>
  simp only [ea];cases ad:gl.get g with
  |none=>
   have h:=aD.sym (φ:=φ) (eD+g);rw[aY.aak g] at h;exact h
  |some b=>
   obtain⟨e,h1,ae,ay⟩:=az g b ad;have:=aD.ptr (o:=0) h1;rw[ae,ay] at this;exact this
 |func f=>exact .func _ _ _ _ (λl h=>by cases h) J J (λi h=>absurd h (by simp)) (λi h=>absurd h (by simp))
def gy (N:Nat) (sl:aT) (dst:Option Tmp) (v:U):Option aT:=
 match dst with
 |none=>some sl
 |some d=>bif Nat.blt d N then b4.set v depth sl d else none
theorem fu.put {N:Nat} {ds:List Deferred} {φ:bQ} {sl dT:aT} {a:Act} {dst:Option Tmp} {v aB:U} (h:fu N ds φ sl a) (aC:aD φ v aB) (hp:gy N sl dst v=some dT):fu N ds φ dT (a.put dst aB):=by
 unfold gy at hp;cases dst with
 |none=>cases hp;exact h
 |some d=>
  simp only at hp;cases ad:Nat.blt d N with
  |false=>rw[ad] at hp;cases hp
  |true=>
   rw[ad,bw] at hp;have b8:d<N:=Nat.blt_eq.mp ad;refine⟨by simp [Act.put,h.size],h.defers,λt u hu=> ?_⟩;rw[b4.nS _ _ _ _ _ t hp] at hu;have cb:=h.size;by_cases aI:t=d
   ·subst aI
    rw[aN rfl] at hu;cases hu;simp only [Act.put,e5];rw[Array.getElem?_setIfInBounds_self_of_lt (Nat.lt_of_lt_of_eq b8 cb.symm)];exact aC
   ·rw[aO aI] at hu
    have:=h.get t u hu;simp only [Act.put,e5] at this ⊢;rw[Array.getElem?_setIfInBounds_ne (Ne.symm aI)];exact this
def qf (ops:Array Oper) (o:Oper) (sl:aT):Option Bool:=
 match o.guard with
 |none=>some true
 |some (j,want)=>match (ops[j]?).bind (·.dst) with
  |none=>some false
  |some t=>match sl.get t with
   |some (.bool b)=>some (b==want)
   |some (.tuple ⟨[]⟩)=>some false
   |_=>none
theorem nx {φ:bQ} {ops:Array Oper} {o:Oper} {sl:aT} {a:Act} {r:Bool} (av:∀t v,sl.get t=some v->aD φ v (a.tmps.getD t undef)) (h:qf ops o sl=some r):Region.wanted o (yielded ops a.tmps)=r:=by
 unfold qf at h;unfold Region.wanted;split at h
 ·rename_i az
  cases h;rw[az]
 ·rename_i j want az
  rw[az];simp only;unfold yielded;split at h
  ·rename_i a_
   cases h;rw[a_];simp
  ·rename_i t a_
   rw[a_];simp only [Option.bind_some];split at h
   ·rename_i b ad
    have aC:=av t _ ad;cases h;rw[e5] at aC;cases aI:a.tmps[t]? with
    |none=>rw[aI] at aC;simp [undef] at aC;cases aC
    |some u=>
     rw[aI] at aC;simp only [Option.getD_some] at aC;cases aC;cases b<;>cases want<;>rfl
   ·rename_i ad
    have aC:=av t _ ad;cases h;rw[e5] at aC;cases aI:a.tmps[t]? with
    |none=>simp
    |some u=>
     rw[aI] at aC;simp only [Option.getD_some] at aC;cases aC;simp
   ·cases h
def LB (P:aQ) [dX P] (ops:Array Oper) (o:Oper) (sl:aT):Option Bool:=
 match qf ops o sl with
 |some b=>some b
 |none=>match o.guard with
  |none=>none
  |some (j,want)=>match (ops[j]?).bind (·.dst) with
   |none=>none
   |some t=>match sl.get t with
    |some v=>(Ak P v).map (· ==want)
    |none=>none
theorem St {P:aQ} [dX P] (cF:qe P) (w:au) {φ:bQ} {ops:Array Oper} {o:Oper} {sl:aT} {a:Act} {r:Bool} (av:∀t v,sl.get t=some v->aD φ v (a.tmps.getD t undef)) (h:LB P ops o sl=some r):Region.wanted o (yielded ops a.tmps)=r:=by
 unfold LB at h;split at h
 ·rename_i b ad
  cases h;exact nx av ad
 ·split at h
  ·cases h
  ·rename_i j want az
   split at h
   ·cases h
   ·rename_i t a_
    split at h
    ·rename_i v aC
     rw[wL] at h;obtain⟨b,ad,rfl⟩:=h;have dN:=Hs cF w ad (av t v aC);unfold Region.wanted;rw[az];simp only;unfold yielded;rw[a_];simp only [Option.bind_some];rw[e5] at dN;cases aI:a.tmps[t]? with
     |none=>rw[aI] at dN;simp [undef] at dN
     |some u=>
      rw[aI] at dN;simp only [Option.getD_some] at dN;subst dN;cases b<;>cases want<;>rfl
    ·cases h
structure hN where
 call:abN
 round:Nat->List U->aW->Option (U×aW)
def yG (φ:bQ) (A:aW) (w:au) (v:U) (aV:aW):Ending->au->Prop
 | .returned aB,w'=>∃cR,aD cR v aB/\cg φ A w cR aV w'
 |_,_=>False
def Fr (r:Option Nat):Fence:={Fence.wide with round:=r}
omit [aY] in
theorem D_ {r:Option Nat} {n:Nat} {P:aQ} {f:FuncId} {args:Array U} {w:au} {R:Ending->au->Prop} (h:Calls P f args w R):CallsIn (Fr r) n P f args w R:=by
 have eW:CallsIn Fence.wide n P f args w R:=callsIn_wide.2 h;exact eW
structure k8 (P:aQ) [dX P] (gl:b4 Nat) (C:hN):Prop where
 facts:qe P
 call:∀(f:FuncId) (args:List U) (A:aW) (v:U) (aV:aW) (φ:bQ) (w:au) (fM:Array U),C.call f args A=some (v,aV)->bR φ A w->lZ gl φ->hy args φ fM->
  Calls P f fM w (yG φ A w v aV)
 round:∀(b:Nat) (args:List U) (A:aW) (v:U) (aV:aW) (φ:bQ) (w:au) (fM:Array U) (e:gZ) (k:hE) (fk:zT) (r:Loop),C.round b args A=some (v,aV)->bR φ A w->lZ gl φ->hy args φ fM->
  φ b=some e->A.bl.get b=some k->k.obj= .fL (.loop fk)->w.heap[e.bf]? =some (.loop r)->qV φ (.loop fk) (.loop r)->fM.size=r.params.size/\
  RoundIn Fence.wide 0 P e.bf r.fn ((r.params.zip fM).foldl (λtmps (t,a)=>tmps.setIfInBounds t a) r.tmps) r.assign r.body w (yG φ A w v aV)
def yieldOf (a':Operand->U) (o:Oper):Option (Nat×List U):=
 match o.op with
 | .call c=>match c.callee with
   | .value f=>match a' f with
     | .func (.yield b) ⟨[]⟩ ⟨[]⟩=>some (b,c.args.toList.map a')
     |_=>none
   |_=>none
 |_=>none
def Ea (A:aW) (b:Nat):Bool:=
 match A.bl.get b with
 |some k=>match k.obj with
  | .fL (.loop _)=>true
  |_=>false
 |none=>false
def uk (P:aQ) [Lib P] [dX P] (C:hN) (gl:b4 Nat) (ops:Array Oper) (o:Oper) (sl:aT) (A:aW):Option (U×aW):=
 match LB P ops o sl with
 |none=>none
 |some false=>some (undef,A)
 |some true=>match yieldOf (ea gl sl) o with
  |some (b,args)=>bif Ea A b then C.round b args A else none
  |none=>match Ca P (ea gl sl) A o with
   |some (.value v,bt)=>some (v,bt)
   |some (.skip,bt)=>some (undef,bt)
   |some (.enter f args,bt)=>C.call f args bt
   |none=>none
def vH (P:aQ) [Lib P] [dX P] (C:hN) (gl:b4 Nat) (N:Nat) (ops:Array Oper) (o:Oper) (sl:aT) (A:aW):Option (aT×aW):=
 match uk P C gl ops o sl A with
 |some (v,bt)=>match gy N sl o.dst v with
  |some eu=>some (eu,bt)
  |none=>none
 |none=>none
omit [aY] in
theorem LC {P:aQ} [Lib P] [dX P] {C:hN} {gl:b4 Nat} {N:Nat} {ops:Array Oper} {o:Oper} {sl dT:aT} {A aV:aW} (h:vH P C gl N ops o sl A=some (dT,aV)):
  ∃v,uk P C gl ops o sl A=some (v,aV)/\gy N sl o.dst v=some dT:=by
 unfold vH at h;split at h
 ·rename_i v bt aC
  split at h
  ·rename_i eu hp
   cases h;exact⟨v,aC,hp⟩
  ·cases h
 ·cases h
section
variable {P:aQ} [Lib P] [dX P] {C:hN} {gl:b4 Nat} {φ:bQ} {A aV:aW} {w:au} {a:Act}
omit [aY] in
theorem Hu {ρ:Operand->U} {o:Oper} {r:r2×aW} (h:Ca P ρ A o=some r) (c:Call):o.op≠.defer c:=by
 intro al;unfold Ca at h;split at h
 ·rename_i v aC
  unfold ti at aC;split at aC
  ·cases aC
  ·unfold qd at aC
   rw[al] at aC;cases aC
 split at h
 ·rename_i v aC
  unfold Hr at aC;split at aC
  ·cases aC
  ·rw[al] at aC
   cases aC
 ·cases ad:Lz P o with
  |true=>rw[ad] at h;cases h
  |false=>
   rw[ad,ei] at h;unfold D8 at h;rw[al] at h;cases h
omit [aY] in
omit [Lib P] [dX P] in
theorem abO {ρ:Operand->U} {o:Oper} {r:Nat×List U} (h:yieldOf ρ o=some r) (c:Call):o.op≠.defer c:=by
 intro al;unfold yieldOf at h;rw[al] at h;cases h
omit [Lib P] [dX P] in
theorem Su (hr:bR φ A w) {ρ ρ':Operand->U} {o:Oper} {b:Nat} {args:List U} (cJ:∀x,aD φ (ρ x) (ρ' x)) (h:yieldOf ρ o=some (b,args)) (hl:Ea A b=true):
  ∃e k fk r fM,φ b=some e/\A.bl.get b=some k/\k.obj= .fL (.loop fk)/\w.heap[e.bf]? =some (.loop r)/\qV φ (.loop fk) (.loop r)/\hy args φ fM/\
   (fM.size=r.params.size->(execOp ρ' o).run P w= .ok (.round e.bf r.fn ((r.params.zip fM).foldl (λtmps (t,a)=>tmps.setIfInBounds t a) r.tmps) r.assign r.body) w):=by
 unfold yieldOf at h;split at h
 ·rename_i c cj
  split at h
  ·rename_i f qg
   split at h
   ·rename_i b' aP
    simp only [cx,Prod.mk.injEq] at h;obtain⟨rfl,rfl⟩:=h;have aC:=cJ f;rw[aP] at aC;have abP:∃e,φ b'=some e/\ρ' f= .func (.yield e.bf) #[] #[]:=by
     generalize ρ' f=u at aC;cases aC with
     |s3 h=>exact⟨_,h,rfl⟩
     |func _ _ _ _ aq=>exact absurd rfl (aq _)
    obtain⟨e,he,nt⟩:=abP;unfold Ea at hl;split at hl
    ·rename_i k ag
     split at hl
     ·rename_i fk fq
      obtain⟨k',dm,_,ho⟩:=hr.ep b' e he;rw[ag] at dm;cases dm;unfold fy at ho;simp only [fq] at ho;obtain⟨_,o',h1,ae⟩:=ho;obtain⟨r,rfl,vx⟩:=id ae;refine⟨e,k,fk,r,c.args.map ρ',he,ag,fq,h1,ae,hy.map λx _=>cJ x,λcb=> ?_⟩;unfold execOp;rw[cj];simp only;refine cK (a:={target:= .fn (.yield e.bf) #[],args:= #[]++c.args.map ρ'}) (by unfold resolve;rw[qg];simp only [nt];rfl) ?_;simp only [Array.empty_append];show (Instr.yield e.bf (c.args.map ρ')).run P w=_;unfold Instr.yield Instr.getLoop;refine c8 (a:=r) (w1:=w) (by
       refine c8 (a:= .loop r) (w1:=w) (p_ h1 (λ_ _ _ h=>by cases h)) rfl) ?_
      rw[aO (λcC=>cC cb)];rfl
     ·cases hl
    ·cases hl
   ·cases h
  ·cases h
 ·cases h
theorem Hv (cH:k8 P gl C) (hr:bR φ A w) (az:lZ gl φ) {ro:Option Nat} {ops:Array Oper} {o:Oper} {sl:aT} {v:U} (av:∀t v,sl.get t=some v->aD φ v (a.tmps.getD t undef)) (h:uk P C gl ops o sl A=some (v,aV))
  {K:Act->au->Prop} {Q:Exit->Act->au->Prop} (b0:∀cR aB w',aD cR v aB->cg φ A w cR aV w'->K (a.put o.dst aB) w'):
  if Region.wanted o (yielded ops a.tmps) then o.wpIn (Fr ro) 0 P a w K Q else (∀f,o.about P w a.eval=some f->(Fr ro).fn f)/\K (a.put o.dst undef) w:=by
 unfold uk at h;split at h
 ·cases h
 ·rename_i hw
  rw[St cH.facts w av hw];cases h;exact⟨λ_ _=>trivial,b0 φ undef w (aD.yw φ) (cg.refl hr)⟩
 ·rename_i hw
  rw[St cH.facts w av hw,aN rfl];refine⟨λ_ _=>trivial,?_⟩;split at h
  ·rename_i b args bg
   cases hl:Ea A b with
   |false=>rw[hl] at h;cases h
   |true=>
    rw[hl,bw] at h;obtain⟨e,k,fk,r,fM,he,ag,fq,qX,Al,gf,eQ⟩:=Su (P:=P) hr (gg az av) bg hl;obtain⟨cb,LD⟩:=cH.round b args A v aV φ w fM e k fk r h hr az gf he ag fq qX Al;rw[Oper.semAt_eq _ _ _ (abO bg),eQ cb,Oper.uponIn_round];refine⟨λh=>absurd h (by simp [Fr,Fence.wide]),?_⟩;have abQ:RoundIn (Fr ro) (0-1) P e.bf r.fn ((r.params.zip fM).foldl (λtmps (t,a)=>tmps.setIfInBounds t a) r.tmps) r.assign r.body w (yG φ A w v aV):=LD;refine RoundIn.mono abQ λen w2 um=> ?_
    cases en with
    |returned aB=>
     obtain⟨e_,h1,ae⟩:=um;exact b0 e_ aB w2 h1 ae
    |panicked bL=>exact um.elim
    |outgrown=>exact um.elim
  ·split at h
   ·rename_i v1 bt ha
    cases h;obtain⟨fY,w1,n,g1,g2,g3⟩:=Cb cH.facts hr (gg az av) ha;rw[Oper.semAt_eq _ _ _ (Hu ha),g1];obtain⟨aB,rfl,aC⟩:=g2;exact b0 fY aB w1 aC g3
   ·rename_i bt ha
    cases h;obtain⟨fY,w1,n,g1,g2,g3⟩:=Cb cH.facts hr (gg az av) ha;rw[Oper.semAt_eq _ _ _ (Hu ha),g1];cases g2;exact b0 fY undef w1 (aD.yw fY) g3
   ·rename_i f args bt ha
    obtain⟨fY,w1,n,g1,g2,g3⟩:=Cb cH.facts hr (gg az av) ha;rw[Oper.semAt_eq _ _ _ (Hu ha),g1];obtain⟨fM,rfl,gf⟩:=g2;rw[Oper.uponIn_enter];refine⟨λh=>absurd h (by simp [Fr,Fence.wide]),?_⟩;refine CallsIn.mono (D_ (cH.call f args bt v aV fY w1 fM h g3.rel (az.mono (g3.ext hr)) gf)) λe w2 he=> ?_
    cases e with
    |returned aB=>
     obtain⟨e_,h1,ae⟩:=he;exact b0 e_ aB w2 h1 (cg.trans hr g3 ae)
    |panicked bL=>exact he.elim
    |outgrown=>exact he.elim
   ·cases h
def vI (P:aQ) [Lib P] [dX P] (C:hN) (gl:b4 Nat) (N:Nat) (ops:Array Oper):List Oper->aT->aW->Option (aT×aW)
 |[],sl,A=>some (sl,A)
 |o::r,sl,A=>match vH P C gl N ops o sl A with
  |some (eu,bt)=>vI P C gl N ops r eu bt
  |none=>none
theorem LF (cH:k8 P gl C) {ro:Option Nat} {N:Nat} {ds:List Deferred} {ops:Array Oper} {Q:Exit->Act->au->Prop}:∀(l:List Oper) (sl dT:aT) (A aV:aW) (φ:bQ) (w:au) (a:Act),bR φ A w->lZ gl φ->fu N ds φ sl a->vI P C gl N ops l sl A=some (dT,aV)->
  (∀cR aS w',fu N ds cR dT aS->cg φ A w cR aV w'->Q .normal aS w')->wpListIn (Fr ro) 0 P ops Q l a w
 |[],sl,dT,A,aV,φ,w,a,hr,az,av,h,cQ=>by
  cases h;exact cQ φ a w av (cg.refl hr)
 |o::r,sl,dT,A,aV,φ,w,a,hr,az,av,h,cQ=>by
  unfold vI at h;split at h
  ·rename_i eu bt cB
   obtain⟨v,aC,hp⟩:=LC cB;unfold wpListIn;refine Hv cH hr az av.get aC λcR aB w' w3 oY=> ?_
   exact LF cH r eu dT bt aV cR w' (a.put o.dst aB) oY.rel (az.mono (oY.ext hr)) ((av.mono (oY.ext hr)).put w3 hp) h λe_ ej w2 h1 ae=>cQ e_ ej w2 h1 (cg.trans hr oY ae)
  ·cases h
end
end AE
section
section
variable {P:aQ} {ops:Array Oper}
def fl (ops:Array Oper) (j:Nat):Option Tmp:=(ops[j]?).bind (·.dst)
def needs (ops:Array Oper) (m:Nat) (o:Oper):List Nat:=(List.range m).filter λj=>match fl ops j with
 |some d=>(o.looksAt ops).contains d
 |none=>false
def direct (ops:Array Oper) (i j:Nat):Bool:=match ops[i]? with
 |some o=>o.after.any λe=>Region.binds .any e&&e.on==j
 |none=>false
theorem Act.size_put (a:Act) (d:Option Tmp) (v:U):(a.put d v).tmps.size=a.tmps.size:=by cases d<;>simp [Act.put]
theorem Act.Cd (a:Act) (d:Option Tmp) (v:U):(a.put d v).defers=a.defers:=by cases d<;>rfl
theorem Act.r3 (a:Act) (d:Option Tmp) (v:U) (t:Nat) (aI:t<a.tmps.size):(a.put d v).tmps.getD t undef=if d=some t then v else a.tmps.getD t undef:=by
 cases d with
 |none=>simp [Act.put]
 |some d=>
  simp only [Act.put,cx,e5,Array.getElem?_setIfInBounds];by_cases h:d=t
  ·subst h;simp [aI]
  ·simp [h]
structure ak9 (ops:Array Oper) (m:Nat) (G:au->au->Prop) (abR:Nat->U->au->Prop) (Sv:Nat->Bool) (a0:Act) (w0:au) (listed:Array Bool) (a:Act) (w:au):Prop where
 size:listed.size=ops.size
 down:∀i j,listed.getD i false=true->direct ops i j=true->listed.getD j false=true
 tj:∀i,m<=i->listed.getD i false=false
 defers:a.defers=a0.defers
 l0:a.tmps.size=a0.tmps.size
 g:G w0 w
 other:∀t,(∀i,i<m->listed.getD i false=true->fl ops i≠some t)->a.tmps.getD t undef=a0.tmps.getD t undef
 post:∀i t,i<m->listed.getD i false=true->fl ops i=some t->abR i (a.tmps.getD t undef) w
 ak':∀i j t u b o s b' o' e6,i<m->j<m->i≠j->listed.getD i false=true->listed.getD j false=true->Sv i=true->Sv j=true->fl ops i=some t->fl ops j=some u->
  a.tmps.getD t undef= .pointer (some ⟨b,o,s⟩)->a.tmps.getD u undef= .pointer (some ⟨b',o',e6⟩)->b≠b'
theorem vJ {listed:Array Bool} {i:Nat} (h:i∈Region.ready .any ops listed):∀k,direct ops i k=true->listed.getD k false=true:=by
 intro k ag;obtain⟨_,o,ho,kL⟩:=mem_ready.1 h;simp only [direct,ho] at ag;obtain⟨e,he,ad⟩:=Array.any_eq_true'.1 ag;simp only [c0,beq_iff_eq] at ad;exact ad.2▸kL e he ad.1
def tk (listed:Array Bool):Nat:=listed.toList.count false
theorem Sw:∀(l:List Bool) (i:Nat),l[i]? =some false->(l.set i true).count false+1=l.count false
 |[],i,h=>by simp at h
 |b::r,0,h=>by simp at h;subst h;simp
 |b::r,i+1,h=>by
  have:=Sw r i (by simpa using h);simp only [List.set_cons_succ,List.count_cons];omega
theorem Am {listed:Array Bool} {i:Nat} (af:i<listed.size) (h:listed.getD i true=false):tk (listed.setIfInBounds i true)+1=tk listed:=by
 unfold tk;rw[Array.toList_setIfInBounds];refine Sw _ _ ?_;have:listed[i]? =some listed[i]:=Array.getElem?_eq_getElem af;simp only [e5,this,Option.getD_some] at h;rw[Array.getElem?_toList,this,h]
theorem r4 {listed:Array Bool} {i:Nat} (h:i<listed.size):listed.getD i true=listed.getD i false:=by
 simp [e5,h]
end
end
namespace AE
variable [aY]
def hW (N:Nat) (ops:Array Oper) (kb:Nat->U):List Nat->aT->Option aT
 |[],sl=>some sl
 |j::r,sl=>match gy N sl (fl ops j) (kb j) with
  |some s=>hW N ops kb r s
  |none=>none
omit [aY] in
theorem ow {N:Nat} {ops:Array Oper} {kb:Nat->U}:∀(dx:List Nat) (sl dT:aT),hW N ops kb dx sl=some dT->∀t v,dT.get t=some v->
  (∃j∈dx,fl ops j=some t/\v=kb j)\/((∀j∈dx,fl ops j≠some t)/\sl.get t=some v)
 |[],sl,dT,h,t,v,aC=>by
  cases h;exact .inr ⟨λj hj=>absurd hj (by simp),aC⟩
 |j::r,sl,dT,h,t,v,aC=>by
  unfold hW at h;split at h
  ·rename_i s av
   rcases ow r s dT h t v aC with ⟨k,ag,a_,Ao⟩|⟨aq,az⟩
   ·exact .inl ⟨k,List.mem_cons_of_mem _ ag,a_,Ao⟩
   ·unfold gy at av
    cases a_:fl ops j with
    |none=>
     rw[a_] at av;cases av;refine .inr ⟨λk ag=> ?_,az⟩;rcases List.mem_cons.1 ag with rfl|ag
     ·rw[a_];simp
     ·exact aq k ag
    |some d=>
     rw[a_] at av;simp only at av;cases ad:Nat.blt d N with
     |false=>rw[ad] at av;cases av
     |true=>
      rw[ad,bw] at av;rw[b4.nS _ _ _ _ _ t av] at az;by_cases LG:t=d
      ·subst LG
       rw[aN rfl] at az;cases az;exact .inl ⟨j,List.mem_cons_self,a_,rfl⟩
      ·rw[aO LG] at az
       refine .inr ⟨λk ag=> ?_,az⟩;rcases List.mem_cons.1 ag with rfl|ag
       ·rw[a_];simp;exact λh=>LG h.symm
       ·exact aq k ag
  ·cases h
def w7 (o:Oper):Bool:=
 (match o.guard with|none=>true|some _=>false)&&
 match o.op with
 | .move _| .assign _| .binOp .. | .unOp .. | .fieldAddr .. | .indexAddr .. =>true
 |_=>false
def w8 (P:aQ) [dX P] (a':Operand->U) (o:Oper):Option U:=
 match o.op with
 | .move x| .assign x=>some (a' x)
 | .binOp op t x y _=>match ti P a' o with
   |some v=>some v
   |none=>bif plain (a' x)&&plain (a' y) then tf P (do eqGuard op t x y (a' x) (a' y);binOp op t (a' x) (a' y)) else none
 | .unOp op _ x=>match ti P a' o with
   |some v=>some v
   |none=>bif plain (a' x) then tf P (Op.unary op (a' x)) else none
 | .fieldAddr s x f=>match ti P a' o with
   |some v=>some v
   |none=>DO P s f (a' x)
 | .indexAddr t x i=>match ti P a' o with
   |some v=>some v
   |none=>bif plain (a' i) then DP P t (a' x) (a' i) else none
 |_=>none
theorem Eb {P:aQ} [dX P] (cF:qe P) {φ:bQ} {ρ ρ':Operand->U} {o:Oper} {v:U} (cJ:∀x,aD φ (ρ x) (ρ' x)) (h:w8 P ρ o=some v):∃aB,(∀w,(execOp ρ' o).run P w= .ok (.value aB) w)/\aD φ v aB:=by
 have fG:∀{s:Sem U},tf P s=some v->∃aB,(∀w,(do pure (Next.value (<-s)):Sem Next).run P w= .ok (.value aB) w)/\aD φ v aB:=by
  intro s av;unfold tf at av;split at av
  ·rename_i u hu
   cases hp:plain u with
   |false=>rw[hp] at av;cases av
   |true=>
    rw[hp,bw,cx] at av;subst av;exact⟨u,λw=>jc (by rw[r0,hu];rfl) w,aD.ku φ u hp⟩
  ·cases av
 unfold w8 at h;unfold execOp;split at h
 ·rename_i x cj
  cases h;rw[cj];exact⟨_,λ_=>rfl,cJ x⟩
 ·rename_i x cj
  cases h;rw[cj];exact⟨_,λ_=>rfl,cJ x⟩
 ·rename_i op t x y Sq cj
  split at h
  ·rename_i u hu
   cases h;have:=Cc cF cJ hu λf aP=>by
    unfold qd at aP;rw[cj] at aP;cases aP;rfl
   unfold execOp at this;exact this
  ·cases hp:plain (ρ x) with
   |false=>rw[hp] at h;cases h
   |true=>
    cases a1:plain (ρ y) with
    |false=>rw[hp,a1] at h;cases h
    |true=>
     rw[hp,a1] at h;rw[cj];simp only;rw[aD.kN _ hp (cJ x),aD.kN _ a1 (cJ y)];exact fG h
 ·rename_i op t x cj
  split at h
  ·rename_i u hu
   cases h;have:=Cc cF cJ hu λf aP=>by
    unfold qd at aP;rw[cj] at aP;cases aP;rfl
   unfold execOp at this;exact this
  ·cases hp:plain (ρ x) with
   |false=>rw[hp] at h;cases h
   |true=>
    rw[hp] at h;rw[cj];simp only;rw[aD.kN _ hp (cJ x)];exact fG h
 ·rename_i s x f cj
  split at h
  ·rename_i u hu
   cases h;have:=Cc cF cJ hu λf aP=>by
    unfold qd at aP;rw[cj] at aP;cases aP;rfl
   unfold execOp at this;exact this
  ·obtain⟨aB,h1,ae⟩:=RD (cJ x) h
   rw[cj];exact⟨aB,λw=>by simp only [Sem.run_bind,h1 w,Result.andThen_ok];rfl,ae⟩
 ·rename_i t x i cj
  split at h
  ·rename_i u hu
   cases h;have:=Cc cF cJ hu λf aP=>by
    unfold qd at aP;rw[cj] at aP;cases aP;rfl
   unfold execOp at this;exact this
  ·cases hp:plain (ρ i) with
   |false=>rw[hp] at h;cases h
   |true=>
    rw[hp] at h;obtain⟨aB,h1,ae⟩:=RE (cJ x) h;rw[cj];simp only;rw[aD.kN _ hp (cJ i)];exact⟨aB,λw=>by simp only [Sem.run_bind,h1 w,Result.andThen_ok];rfl,ae⟩
 ·cases h
def LH (ops:Array Oper):List Oper->Nat->Array Bool->List Nat
 |[],_,_=>[]
 |o::r,i,listed=>bif w7 o&&((Region.ready .any ops listed).contains i&&Region.free .any ops listed i) then i::LH ops r (i+1) (listed.setIfInBounds i true) else LH ops r (i+1) listed
def uo (ops:Array Oper):List Nat:=LH ops ops.toList 0 (Array.replicate ops.size false)
def vK (ops:Array Oper):List Nat->Array Bool->Bool
 |[],_=>true
 |i::r,listed=>((Region.ready .any ops listed).contains i&&Region.free .any ops listed i)&&((match ops[i]? with|some o=>w7 o|none=>false)&&vK ops r (listed.setIfInBounds i true))
def Ap (o:Oper) (masks:List Nat) (p9:Nat):Nat:=o.after.toList.foldl (λacc e=>bif Region.binds .any e then Nat.lor acc (Nat.lor (Nat.shiftLeft 1 e.on) (masks.getD e.on 0)) else acc) p9
def vL:List Oper->List Nat->List Nat
 |[],ms=>ms
 |o::r,ms=>vL r (ms++[Ap o ms 0])
def Aq (ops:Array Oper):List Nat:=vL ops.toList []
def Ec (ms:List Nat) (i j:Nat):Bool:=(ms.getD i 0).testBit j
def LI (ops:Array Oper) (i j:Nat):Prop:=∀listed:Array Bool,(∀i j,listed.getD i false=true->direct ops i j=true->listed.getD j false=true)->(∀k,direct ops i k=true->listed.getD k false=true)->listed.getD j false=true
omit [aY] in
theorem Sx {masks:List Nat} {j:Nat}:∀(l:List Edge) (p9:Nat),(l.foldl (λacc e=>bif Region.binds .any e then Nat.lor acc (Nat.lor (Nat.shiftLeft 1 e.on) (masks.getD e.on 0)) else acc) p9).testBit j=true->p9.testBit j=true\/∃e∈l,Region.binds .any e=true/\(e.on=j\/(masks.getD e.on 0).testBit j=true)
 |[],p9,h=> .inl h
 |e::r,p9,h=>by
  simp only [List.foldl_cons] at h;rcases Sx r _ h with h|⟨e',qb,eW⟩
  ·cases ad:Region.binds .any e with
   |false=>rw[ad] at h;exact .inl h
   |true=>
    rw[ad,bw] at h;have ae:(p9 ||| ((1 <<< e.on) ||| masks.getD e.on 0)).testBit j=true:=h;rw[Nat.testBit_or,Nat.testBit_or,Nat.one_shiftLeft,Nat.testBit_two_pow] at ae;simp only [Bool.or_eq_true,decide_eq_true_eq] at ae;rcases ae with ae|ae
    ·exact .inl ae
    ·exact .inr ⟨e,List.mem_cons_self,ad,ae⟩
  ·exact .inr ⟨e',List.mem_cons_of_mem _ qb,eW⟩
omit [aY] in
theorem Sy:∀(l:List Oper) (ms:List Nat),(vL l ms).take ms.length=ms/\∀i o,l[i]? =some o->(vL l ms).getD (ms.length+i) 0=Ap o ((vL l ms).take (ms.length+i)) 0
 |[],ms=>⟨by simp [vL],λi o h=>by simp at h⟩
 |o::r,ms=>by
  obtain⟨h1,ae⟩:=Sy r (ms++[Ap o ms 0]);have hm:vL (o::r) ms=vL r (ms++[Ap o ms 0]):=rfl;rw[hm];have ay:(vL r (ms++[Ap o ms 0])).take ms.length=ms:=by
   have:=congrArg (List.take ms.length) h1;rw[List.take_take] at this;simpa using this
  refine⟨ay,λi o' af=> ?_⟩;cases i with
  |zero=>
   simp only [List.getElem?_cons_zero,cx] at af;subst af;rw[Nat.add_zero,ay];have:=congrArg (λl=>l[ms.length]?) h1;simp only [List.getElem?_take,List.length_append,List.length_cons,List.length_nil] at this;rw[aN ao] at this;rw[dr,this];simp
  |succ i=>
   simp only [List.getElem?_cons_succ] at af;have:=ae i o' af;simp only [List.length_append,List.length_cons,List.length_nil] at this;rw[show ms.length+(i+1)=ms.length+(0+1)+i by omega];exact this
omit [aY] in
theorem abS {ops:Array Oper}:∀(i:Nat),i<ops.size->∀j,Ec (Aq ops) i j=true->LI ops i j:=by
 intro i
 induction i using Nat.strongRecOn with
 |_ i cd=>
  intro af j h listed down Sz;have ho:ops.toList[i]? =some ops[i]:=by rw[Array.getElem?_toList];exact Array.getElem?_eq_getElem af
  have av:=(Sy ops.toList []).2 i _ ho;simp only [List.length_nil,Nat.zero_add] at av;unfold Ec Aq at h;rw[av] at h;unfold Ap at h;rcases Sx _ _ h with h|⟨e,he,ad,h⟩
  ·simp at h
  ·have a_:direct ops i e.on=true:=by
    unfold direct;rw[Array.getElem?_eq_getElem af];simp only;exact Array.any_eq_true'.2 ⟨e,by simpa using he,by simp [ad]⟩
   rcases h with rfl|h
   ·exact Sz _ a_
   ·rcases Nat.lt_or_ge e.on i with b8|kx
    ·have az:((vL ops.toList []).take i).getD e.on 0=(Aq ops).getD e.on 0:=by
      unfold Aq;rw[dr,List.getElem?_take,aN b8,dr]
     rw[az] at h;exact cd e.on b8 ao j h listed down λk ag=>down e.on k (Sz _ a_) ag
    ·rw[dr,List.getElem?_take,aO ao] at h
     simp at h
def uq (ops:Array Oper) (L:List Nat) (m N:Nat):Bool:=
 decide (m<=ops.size)&&Region.noSelect ops&&
 ((List.range m).all λi=>(List.range m).all λj=>i==j||fl ops i==none||fl ops i !=fl ops j)&&
 ((List.range m).all λi=>match fl ops i with|some d=>decide (d<N)|none=>true)&&
 ((List.range m).all λi=>match ops[i]? with|some o=>(needs ops m o).all (direct ops i ·)|none=>false)&&
 ((List.range ops.size).all λi=>match ops[i]? with|some o=>o.after.all (λe=> !Region.binds .any e||decide (e.on<i))|none=>false)&&
 ((List.range ops.size).all λi=>decide (i<m)||(List.range i).all λj=>(L.contains j&&decide (j<m))||Ec (Aq ops) i j)
omit [aY] in
theorem Ed {ops:Array Oper} {L:List Nat} {m N:Nat} (h:uq ops L m N=true):m<=ops.size/\Region.noSelect ops=true/\
  (∀i j,i<m->j<m->i≠j->∀t,fl ops i=some t->fl ops j≠some t)/\(∀i t,i<m->fl ops i=some t->t<N)/\
  (∀i o,i<m->ops[i]? =some o->∀j∈needs ops m o,direct ops i j=true)/\(∀i j,i<ops.size->direct ops i j=true->j<i)/\
  (∀i j,i<ops.size->m<=i->j<i->(j∈L/\j<m)\/LI ops i j):=by
 simp only [uq,c0,decide_eq_true_eq,List.all_eq_true,List.mem_range] at h;obtain⟨⟨⟨⟨⟨⟨h1,ae⟩,ay⟩,bE⟩,cn⟩,cy⟩,fx⟩:=h;refine⟨h1,ae,?_,?_,?_,?_,?_⟩
 ·intro i j af hj cC t aI abT
  have:=ay i af j hj;simp [cC,aI,abT] at this
 ·intro i t af aI
  have:=bE i af;simpa [aI] using this
 ·intro i o af ho j hj
  have:=cn i af;simp only [ho,List.all_eq_true] at this;exact this j hj
 ·intro i j af a_
  have:=cy i af;unfold direct at a_;have ho:ops[i]? =some ops[i]:=Array.getElem?_eq_getElem af;simp only [ho] at this a_;obtain⟨e,he,ad⟩:=Array.any_eq_true'.1 a_;simp only [c0,beq_iff_eq] at ad;have eW:=Array.all_eq_true_iff_forall_mem.1 this e he;simp only [ad.1,Bool.not_true,Bool.false_or,decide_eq_true_eq] at eW;exact ad.2▸eW
 ·intro i j af hm hj
  have:=fx i af;simp only [Bool.or_eq_true,decide_eq_true_eq,List.all_eq_true,List.mem_range,c0] at this;have:=this.resolve_left ao j hj;rcases this with h|h
  ·exact .inl (by simpa using h)
  ·exact .inr (abS i af j h)
def LJ (p9:Nat):List Oper->Nat->List Nat->Nat->Nat
 |[],_,_,m=>m
 |o::r,i,masks,m=>let p:=Ap o masks (Nat.land p9 (Nat.shiftLeft 1 i-1));LJ p9 r (i+1) (masks++[p]) (bif Nat.beq p (Nat.shiftLeft 1 i-1) then m else i+1)
def SA (L:List Nat):Nat:=L.foldl (λa i=>Nat.lor a (Nat.shiftLeft 1 i)) 0
def LK (ops:Array Oper) (N:Nat) (gh:Bool):Option (List Nat×Nat):=
 let cN:=bif gh then [] else uo ops
 let m:=LJ (SA cN) ops.toList 0 [] 0
 let L:=cN.filter λi=>Nat.blt i m
 bif uq ops L m N&&vK ops L (Array.replicate ops.size false) then some (L,m) else none
def Ce (P:aQ) [Lib P] [dX P] (C:hN) (gl:b4 Nat) (N:Nat) (ops:Array Oper) (L:List Nat) (m:Nat) (dE:aT):List Oper->Nat->List U->aW->Option (List U×aW)
 |[],_,vs,A=>some (vs,A)
 |o::r,i,vs,A=>match hW N ops (λj=>vs.getD j cL) (needs ops m o) dE with
  |some sl=>bif L.contains i then
    match w8 P (ea gl sl) o with
    |some v=>Ce P C gl N ops L m dE r (i+1) (vs++[v]) A
    |none=>none
   else match uk P C gl ops o sl {A with low:=A.n} with
    |some (v,bt)=>bif Nat.ble A.n bt.low then Ce P C gl N ops L m dE r (i+1) (vs++[v]) {bt with low:=A.low} else none
    |none=>none
  |none=>none
def Hw (P:aQ) [Lib P] [dX P] (C:hN) (gl:b4 Nat) (N:Nat) (gh:Bool) (ops:Array Oper) (sl:aT) (A:aW):Option (aT×aW×List Oper):=
 match LK ops N gh with
 |some (L,m)=>match hW N ops (λ_=>cL) (List.range m) sl with
  |some dE=>match Ce P C gl N ops L m dE (ops.toList.take m) 0 [] A with
   |some (vs,bt)=>bif Nat.ble bt.n dead then
     match hW N ops (λj=>vs.getD j cL) (List.range m) dE with
     |some eu=>some (eu,bt,ops.toList.drop m)
     |none=>none
    else none
   |none=>none
  |none=>none
 |none=>none
def LL (P:aQ) [Lib P] [dX P] (C:hN) (gl:b4 Nat) (N:Nat) (gh:Bool) (ops:Array Oper) (sl:aT) (A:aW):Option (aT×aW):=
 match Hw P C gl N gh ops sl A with
 |some (eu,bt,r)=>vI P C gl N ops r eu bt
 |none=>none
def Cf (P:aQ) [Lib P] [dX P] (C:hN) (gl:b4 Nat) (N:Nat) (ops:Array Oper) (L:List Nat) (m:Nat) (dE:aT) (i:Nat) (o:Oper) (abU:List U) (v:U) (A aV:aW):Prop:=
 ∃sl,hW N ops (λj=>abU.getD j cL) (needs ops m o) dE=some sl/\
  ((i∈L/\w8 P (ea gl sl) o=some v/\aV=A)\/(i∉L/\∃bt,uk P C gl ops o sl {A with low:=A.n}=some (v,bt)/\A.n<=bt.low/\aV={bt with low:=A.low}))
section
variable {P:aQ} [Lib P] [dX P] {C:hN} {gl:b4 Nat} {N:Nat} {ops:Array Oper} {L:List Nat} {m:Nat} {dE:aT}
omit [aY] in
theorem SB:∀(l:List Oper) (i0:Nat) (vs de:List U) (A aV:aW),vs.length=i0->Ce P C gl N ops L m dE l i0 vs A=some (de,aV)->
  ∃(B:Nat->aW),B 0=A/\B l.length=aV/\de.length=vs.length+l.length/\de.take vs.length=vs/\
   ∀i o,l[i]? =some o->Cf P C gl N ops L m dE (i0+i) o (de.take (vs.length+i)) (de.getD (vs.length+i) cL) (B i) (B (i+1))
 |[],i0,vs,de,A,aV,_,h=>by
  cases h;exact⟨λ_=>A,rfl,rfl,by simp,by simp,λi o af=>by simp at af⟩
 |o::r,i0,vs,de,A,aV,Ar,h=>by
  unfold Ce at h;split at h
  ·rename_i sl gH
   have go:∀(v:U) (eH:aW),((i0∈L/\w8 P (ea gl sl) o=some v/\eH=A)\/(i0∉L/\∃bt,uk P C gl ops o sl {A with low:=A.n}=some (v,bt)/\A.n<=bt.low/\eH={bt with low:=A.low}))->
     Ce P C gl N ops L m dE r (i0+1) (vs++[v]) eH=some (de,aV)->
     ∃(B:Nat->aW),B 0=A/\B (o::r).length=aV/\de.length=vs.length+(o::r).length/\de.take vs.length=vs/\
      ∀i o',(o::r)[i]? =some o'->Cf P C gl N ops L m dE (i0+i) o' (de.take (vs.length+i)) (de.getD (vs.length+i) cL) (B i) (B (i+1)):=by
    intro v eH abV h;obtain⟨B,aJ,h1,ae,ay,bE⟩:=SB r (i0+1) (vs++[v]) de _ aV (by simp [Ar]) h;have hlen:(vs++[v]).length=vs.length+1:=by simp
    rw[hlen] at ae ay;have yH:de.take vs.length=vs:=by
     have:=congrArg (List.take vs.length) ay;rw[List.take_take,Nat.min_eq_left ao] at this;simpa using this
    refine⟨λi=>match i with|0=>A|i+1=>B i,rfl,?_,by simp;omega,yH,?_⟩
    ·simpa using h1
    ·intro i o' af
     match i with
     |0=>
      simp only [List.getElem?_cons_zero,cx] at af;subst af;simp only [Nat.add_zero];rw[yH];have gp:de.getD vs.length cL=v:=by
       have:=congrArg (λl=>l[vs.length]?) ay;simp at this;rw[dr,this];rfl
      rw[gp];refine⟨sl,gH,?_⟩;show (_/\_/\B 0=A)\/_;rw[aJ];exact abV
     |i+1=>
      have:=bE i o' (by simpa using af);rw[hlen] at this;rw[show vs.length+(i+1)=vs.length+1+i by omega,show i0+(i+1)=i0+1+i by omega];exact this
   cases al:L.contains i0 with
   |true=>
    rw[al,bw] at h;split at h
    ·rename_i v aC
     exact go v A (.inl ⟨by simpa using al,aC,rfl⟩) h
    ·cases h
   |false=>
    rw[al,ei] at h;split at h
    ·rename_i v bt aC
     cases ad:Nat.ble A.n bt.low with
     |false=>rw[ad] at h;cases h
     |true=>
      rw[ad,bw] at h;exact go v _ (.inr ⟨by simpa using al,bt,aC,Nat.ble_eq.mp ad,rfl⟩) h
    ·cases h
  ·cases h
theorem bR.lower {φ:bQ} {A:aW} {w:au} (h:bR φ A w) (x:Nat):bR φ {A with low:=x} w:=⟨⟨h.wf.lt,h.wf.s4,h.wf.mem,h.wf.tW⟩,h.ep,h.apart,h.along,h.dg⟩
theorem abW {φ:bQ} {A aV:aW} {w:au} (cH:k8 P gl C) (hr:bR φ A w) (az:lZ gl φ) {o:Oper} {sl:aT} {v:U} (av:∀t v,sl.get t=some v->∃aB,aD φ v aB) (h:uk P C gl ops o sl A=some (v,aV)):
  ∃cR aB w',aD cR v aB/\cg φ A w cR aV w':=by
 have mQ:∀x:Operand,∃aB,aD φ (ea gl sl x) aB:=by
  intro x;cases x with
  |tmp t=>
   show ∃aB,aD φ (slot sl t) aB;unfold slot;cases Hx:sl.get t with
   |none=>exact⟨undef,.cL _⟩
   |some v=>exact av t v Hx
  |const v=>exact⟨_,gg (sl:= .nil) (a:=⟨#[],[]⟩) az (λt v h=>by cases h) (.const v)⟩
  |global g=>exact⟨_,gg (sl:= .nil) (a:=⟨#[],[]⟩) az (λt v h=>by cases h) (.global g)⟩
  |func f=>exact⟨_,gg (sl:= .nil) (a:=⟨#[],[]⟩) az (λt v h=>by cases h) (.func f)⟩
 obtain⟨ρ',cJ⟩:=Classical.axiomOfChoice mQ;unfold uk at h;split at h
 ·cases h
 ·cases h
  exact⟨φ,undef,w,aD.yw φ,cg.refl hr⟩
 ·split at h
  ·rename_i b args bg
   cases hl:Ea A b with
   |false=>rw[hl] at h;cases h
   |true=>
    rw[hl,bw] at h;obtain⟨e,k,fk,r,fM,he,ag,fq,qX,Al,gf,eQ⟩:=Su (P:=P) hr cJ bg hl;obtain⟨cb,LD⟩:=cH.round b args A v aV φ w fM e k fk r h hr az gf he ag fq qX Al;obtain⟨en,w2,um,_⟩:=LD.2 default [] (room_wide _);cases en with
    |returned aB=>
     obtain⟨e_,h1,ae⟩:=um;exact⟨e_,aB,w2,h1,ae⟩
    |panicked bL=>exact um.elim
    |outgrown=>exact um.elim
  ·split at h
   ·rename_i v1 bt ha
    cases h;obtain⟨fY,w1,n,g1,g2,g3⟩:=Cb cH.facts hr cJ ha;obtain⟨aB,_,aC⟩:=g2;exact⟨fY,aB,w1,aC,g3⟩
   ·rename_i bt ha
    cases h;obtain⟨fY,w1,n,g1,g2,g3⟩:=Cb cH.facts hr cJ ha;exact⟨fY,undef,w1,aD.yw fY,g3⟩
   ·rename_i f args bt ha
    obtain⟨fY,w1,n,g1,g2,g3⟩:=Cb cH.facts hr cJ ha;obtain⟨fM,_,gf⟩:=g2;obtain⟨e,w2,fr,he,_⟩:=cH.call f args bt v aV fY w1 fM h g3.rel (az.mono (g3.ext hr)) gf [];cases e with
    |returned aB=>
     obtain⟨e_,h1,ae⟩:=he;exact⟨e_,aB,w2,h1,cg.trans hr g3 ae⟩
    |panicked bL=>exact he.elim
    |outgrown=>exact he.elim
   ·cases h
structure ox (e7:bQ) (B:Nat->aW) (vs:List U) (m:Nat):Prop where
 Hy:∀i,i<m->(B i).n<=(B (i+1)).n
 same:∀i b,i<m->b<(B i).n->(B (i+1)).bl.get b=(B i).bl.get b
 abX:∀i,i<m->(B (i+1)).low=(B i).low
 ex:∀i,i<=m->∃φ w,bR φ (B i) w/\(∀b,b<(B 0).n->φ b=e7 b)/\(∀b,(B 0).n<=b->b<(B i).n->φ b≠none)/\∀j,j<i->∃aB,aD φ (vs.getD j cL) aB
theorem abY {e7:bQ} {A:aW} {w0:au} {B:Nat->aW} {vs:List U} {lL:aT} (cH:k8 P gl C) (hr:bR e7 A w0) (az:lZ gl e7) (dI:B 0=A) (Ee:m<=ops.size)
  (av:∀t v,lL.get t=some v->∃aB,aD e7 v aB) (ek:hW N ops (λ_=>cL) (List.range m) lL=some dE)
  (ub:∀i o,i<m->ops[i]? =some o->∀j∈needs ops m o,j<i)
  (hl:∀i o,i<m->ops[i]? =some o->Cf P C gl N ops L m dE i o (vs.take i) (vs.getD i cL) (B i) (B (i+1))):ox e7 B vs m:=by
 have step:∀i,i<m->(∃φ w,bR φ (B i) w/\(∀b,b<(B 0).n->φ b=e7 b)/\(∀b,(B 0).n<=b->b<(B i).n->φ b≠none)/\(B 0).n<=(B i).n/\∀j,j<i->∃aB,aD φ (vs.getD j cL) aB)->
   ((B i).n<=(B (i+1)).n/\(∀b,b<(B i).n->(B (i+1)).bl.get b=(B i).bl.get b)/\(B (i+1)).low=(B i).low)/\
   (∃φ w,bR φ (B (i+1)) w/\(∀b,b<(B 0).n->φ b=e7 b)/\(∀b,(B 0).n<=b->b<(B (i+1)).n->φ b≠none)/\(B 0).n<=(B (i+1)).n/\∀j,j<i+1->∃aB,aD φ (vs.getD j cL) aB):=by
  rintro i af ⟨φ,w,h1,ae,ay,bE,cn⟩;have ho:ops[i]? =some (ops[i]'(by omega)):=Array.getElem?_eq_getElem _;obtain⟨sl,gH,vM⟩:=hl i _ af ho;have r5:∀b e,e7 b=some e->φ b=some e:=λb e ad=>by
   rw[ae b (by rw[dI];exact hr.lt ad)];exact ad
  have Cg:∀t v,sl.get t=some v->∃aB,aD φ v aB:=by
   intro t v oZ;rcases ow _ _ _ gH t v oZ with ⟨j,hj,a_,rfl⟩|⟨_,Ef⟩
   ·have eG:=ub i _ af ho j hj
    obtain⟨aB,mx⟩:=cn j eG;refine⟨aB,?_⟩;have:(vs.take i).getD j cL=vs.getD j cL:=by
     simp only [dr,List.getElem?_take,aN eG]
    rw[this];exact mx
   ·rcases ow _ _ _ ek t v Ef with ⟨j,hj,a_,rfl⟩|⟨_,ur⟩
    ·exact⟨undef,.cL _⟩
    ·obtain⟨aB,mx⟩:=av t v ur
     exact⟨aB,mx.mono r5⟩
  rcases vM with ⟨_,uj,abZ⟩|⟨_,bt,aC,rU,tl⟩
  ·rw[abZ]
   refine⟨⟨bY _,λ_ _=>rfl,rfl⟩,φ,w,h1,ae,ay,bE,λj hj=> ?_⟩;rcases Nat.lt_or_ge j i with b8|kx
   ·exact cn j b8
   ·have:j=i:=by omega
    subst this;have mQ:∀x:Operand,∃aB,aD φ (ea gl sl x) aB:=by
     intro x;cases x with
     |tmp t=>
      show ∃aB,aD φ (slot sl t) aB;unfold slot;cases Hx:sl.get t with
      |none=>exact⟨undef,.cL _⟩
      |some v=>exact Cg t v Hx
     |const v=>exact⟨_,gg (sl:= .nil) (a:=⟨#[],[]⟩) (az.mono r5) (λt v h=>by cases h) (.const v)⟩
     |global g=>exact⟨_,gg (sl:= .nil) (a:=⟨#[],[]⟩) (az.mono r5) (λt v h=>by cases h) (.global g)⟩
     |func f=>exact⟨_,gg (sl:= .nil) (a:=⟨#[],[]⟩) (az.mono r5) (λt v h=>by cases h) (.func f)⟩
    obtain⟨ρ',cJ⟩:=Classical.axiomOfChoice mQ;obtain⟨aB,_,mx⟩:=Eb cH.facts cJ uj;exact⟨aB,mx⟩
  obtain⟨cR,aB,w',g1,g2⟩:=abW cH (h1.lower (B i).n) (az.mono r5) Cg aC;have aq:(B i).n<=bt.n:=g2.py;rw[tl];refine⟨⟨aq,λb ad=>g2.same b ad (by show b<bt.low;omega),rfl⟩,cR,w',g2.rel.lower _,λb ad=> ?_,λb ad dN=> ?_,by simp only;omega,λj hj=> ?_⟩
  ·rw[g2.ep b (by show b<(B i).n;omega),ae b ad]
  ·rcases Nat.lt_or_ge b (B i).n with b8|kx
   ·rw[g2.ep b b8];exact ay b ad b8
   ·exact g2.qW b kx dN
  ·rcases Nat.lt_or_ge j i with b8|kx
   ·obtain⟨u,hu⟩:=cn j b8
    exact⟨u,hu.mono (g2.ext (h1.lower _))⟩
   ·have:j=i:=by omega
    subst this;exact⟨aB,g1⟩
 have all:∀i,i<=m->(∃φ w,bR φ (B i) w/\(∀b,b<(B 0).n->φ b=e7 b)/\(∀b,(B 0).n<=b->b<(B i).n->φ b≠none)/\(B 0).n<=(B i).n/\∀j,j<i->∃aB,aD φ (vs.getD j cL) aB):=by
  intro i
  induction i with
  |zero=>exact λ_=>⟨e7,w0,by rw[dI];exact hr,λ_ _=>rfl,λb h1 ae=>by omega,bY _,λj hj=>by omega⟩
  |succ i cd=>exact λaf=>(step i ao (cd ao)).2
 refine⟨λi af=>(step i af (all i ao)).1.1,λi b af ad=>(step i af (all i ao)).1.2.1 b ad,λi af=>(step i af (all i ao)).1.2.2,λi af=> ?_⟩;obtain⟨φ,w,h1,ae,ay,_,cn⟩:=all i af;exact⟨φ,w,h1,ae,ay,cn⟩
theorem ox.r6 {e7:bQ} {B:Nat->aW} {vs:List U} (h:ox e7 B vs m):∀{i j:Nat},i<=j->j<=m->(B i).n<=(B j).n:=by
 intro i j pD
 induction pD with
 |refl=>exact λ_=>bY _
 |step ag cd=>exact λhm=>Nat.le_trans (cd ao) (h.Hy _ ao)
theorem ox.vN {e7:bQ} {B:Nat->aW} {vs:List U} (h:ox e7 B vs m):∀{i j:Nat},i<=j->j<=m->∀b,b<(B i).n->(B j).bl.get b=(B i).bl.get b:=by
 intro i j pD
 induction pD with
 |refl=>exact λ_ _ _=>rfl
 |step ag cd=>exact λhm b ad=>by rw[h.same _ b ao (Nat.lt_of_lt_of_le ad (h.r6 ag ao)),cd ao b ad]
theorem ox.ab0 {e7:bQ} {B:Nat->aW} {vs:List U} (h:ox e7 B vs m):∀{j:Nat},j<=m->(B j).low=(B 0).low:=by
 intro j
 induction j with
 |zero=>exact λ_=>rfl
 |succ j cd=>exact λhm=>by rw[h.abX j ao,cd ao]
def own (B:Nat->aW) (j b:Nat):Prop:=(B j).n<=b/\b<(B (j+1)).n
theorem ox.SC {e7:bQ} {B:Nat->aW} {vs:List U} (h:ox e7 B vs m) {i j b:Nat} (af:i<m) (hj:j<m) (h1:own B i b) (ae:own B j b):i=j:=by
 unfold own at h1 ae;rcases Nat.lt_trichotomy i j with b8|heq|Hx
 ·have:=h.r6 (i:=i+1) (j:=j) ao ao;omega
 ·exact heq
 ·have:=h.r6 (i:=j+1) (j:=i) ao ao;omega
theorem ox.SD {e7:bQ} {B:Nat->aW} {vs:List U} (ab1:ox e7 B vs m) {b:Nat}:∀{k:Nat},k<=m->(B 0).n<=b->b<(B k).n->∃j,j<k/\own B j b
 |0,_,h1,ae=>by omega
 |k+1,ag,h1,ae=>by
  rcases Nat.lt_or_ge b (B k).n with b8|kx
  ·obtain⟨j,hj,ho⟩:=ox.SD ab1 (k:=k) ao h1 b8
   exact⟨j,ao,ho⟩
  ·exact⟨k,ao,kx,ae⟩
def restrict (φ:bQ) (n:Nat):bQ:=λb=>if b<n then φ b else none
theorem aD.restrict {φ ψ:bQ} {n:Nat} {v aB:U} (a_:∀b e,φ b=some e->b≠dead) (q9:∀b e,ψ b=some e->b<n) (h:aD φ v aB):∀u,aD ψ v u->aD (AE.restrict φ n) v aB:=by
 have lM:∀{b e},φ b=some e->b<n->AE.restrict φ n b=some e:=λh1 ae=>by unfold AE.restrict;rw[aN ae];exact h1
 induction h with
 |cL aB=>exact λ_ _=> .cL aB
 |sym k=>exact λ_ _=> .sym k
 |bool b=>exact λ_ _=> .bool b
 |int k i=>exact λ_ _=> .int k i
 |float k b=>exact λ_ _=> .float k b
 |string s=>exact λ_ _=> .string s
 |yv=>exact λ_ _=> .yv
 |ptr h=>
   intro u hu;cases hu with
   |ptr ae=>exact .ptr (lM h (q9 _ _ ae))
 |slnil l c=>exact λ_ _=> .slnil l c
 |iB aS h=>exact λ_ _=> .iB aS h
 |h_ fz c h=>
   intro u hu;cases hu with
   |h_ _ _ ae=>exact .h_ fz c (lM h (q9 _ _ ae))
   |ia _ _ c' ae _ _ _=>exact .h_ fz c (lM h (q9 _ _ ae))
   |iB aS ae=>exact absurd rfl (a_ _ _ h)
 |ia fz c c' h av al hl=>
   intro u hu;cases hu with
   |h_ _ _ ae=>exact .ia fz c c' (lM h (q9 _ _ ae)) av al hl
   |ia _ _ c' ae _ _ _=>exact .ia fz c _ (lM h (q9 _ _ ae)) av al hl
   |iB aS ae=>exact absurd rfl (a_ _ _ h)
 |zV=>exact λ_ _=> .zV
 |map h=>
   intro u hu;cases hu with
   |map ae=>exact .map (lM h (q9 _ _ ae))
 |chan=>exact λ_ _=> .chan
 |func fs j_ cs cs' aq h1 ae aP al rS rT=>
   intro u hu;cases hu with
   |func _ _ _ _ _ _ _ g1 g2=>exact .func fs j_ cs cs' aq h1 ae (λi af=>rS i af _ (g1 i af)) (λi af=>rT i af _ (g2 i af))
   |s3 ae=>exact absurd rfl (aq _)
 |s3 h=>
   intro u hu;cases hu with
   |s3 ae=>exact .s3 (lM h (q9 _ _ ae))
   |func _ _ _ _ aq=>exact absurd rfl (aq _)
 |nilFunc=>exact λ_ _=> .nilFunc
 |nilIface=>exact λ_ _=> .nilIface
 |iface t h cd=>
   intro u hu;cases hu with
   |iface _ g=>exact .iface t (cd _ g)
 |agg cs cs' h1 h cd=>
   intro u hu;cases hu with
   |agg _ _ _ g=>exact .agg cs cs' h1 λi af=>cd i af _ (g i af)
 |tuple cs cs' h1 h cd=>
   intro u hu;cases hu with
   |tuple _ _ _ g=>exact .tuple cs cs' h1 λi af=>cd i af _ (g i af)
theorem fy.restrict {φ ψ:bQ} {n:Nat} {w w':au} {e e':gZ} {k:hE} (a_:∀b e,φ b=some e->b≠dead) (q9:∀b e,ψ b=some e->b<n) (h:fy φ w e k) (eW:fy ψ w' e' k):fy (AE.restrict φ n) w e k:=by
 unfold fy at*
 cases ag:k.obj with
 |cells c=>
  simp only [ag] at h eW ⊢;obtain⟨c',jJ,h1,ae,ay,bE,cn⟩:=h;obtain⟨nr,He,g1,g2,g3,g4,jQ⟩:=eW;exact⟨c',jJ,h1,ae,ay,λj hj=>(bE j hj).restrict a_ q9 _ (g4 j hj),cn⟩
 |map es eE=>
  simp only [ag] at h eW ⊢;obtain⟨c9,h1,ae,ay⟩:=h;obtain⟨j_,g1,g2,g3⟩:=eW;refine⟨c9,h1,ae,λj a b ha ad=> ?_⟩;obtain⟨q1,aE,b9,ey⟩:=ay j a b ha ad;have hj:j<es.length:=(List.getElem?_eq_some_iff.1 ha).1;obtain⟨_,_,fZ,_⟩:=g3 j a (j_[j]'(by omega)) ha (Array.getElem?_eq_getElem _);exact⟨q1,aE,b9.restrict a_ q9 _ fZ,ey⟩
 |fL x=>
  simp only [ag] at h eW ⊢;obtain⟨aJ,ib,h1,ae⟩:=h;obtain⟨_,kz,g1,g2⟩:=eW;refine⟨aJ,ib,h1,?_⟩;cases x with
  |wM s p=>exact ae
  |deferred=>exact ae
  |gone=>exact ae
  |loop l=>
   obtain⟨r,j2,q1,aE,b9,ey,hv,lJ,⟨kR,qa,gq⟩,As⟩:=ae;obtain⟨dY,yC,hi,gi,q',yI,Ch,Hz,⟨lN,Eg,ak_⟩,ab2⟩:=g2;refine⟨r,j2,q1,aE,b9,ey,hv,lJ,⟨kR,?_,gq⟩,λt v aC=>(As t v aC).restrict a_ q9 _ (ab2 t v aC)⟩;unfold AE.restrict;rw[aN (q9 _ _ Eg)];exact qa
end
end AE
end Go.Proofs.YtepcfjbfkedlpaaGreatDoor
