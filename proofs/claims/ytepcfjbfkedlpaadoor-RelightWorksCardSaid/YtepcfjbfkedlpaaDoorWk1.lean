/- Parts of the proof. -/
import Derived.WalkKit
import Derived.Orders
import Derived.IntWalk
import Derived.CallsIn
import Derived.OrdersIn
import Derived.RangeFuncIn
import Derived.RangeFuncCalls
import Derived.RangeFuncLeaves
import Derived.TacticsIn
set_option maxRecDepth 100000
set_option maxHeartbeats 4000000
namespace Go.Proofs.YtepcfjbfkedlpaaDoor
open Go
section
theorem aj {p:Prop} (h:p:=by omega):p:=h
theorem aY {p:Prop} (h:p:=by assumption):p:=h
theorem aL {p:Prop} (h:p:=by decide):p:=h
theorem ag {p:Prop} (h:p:=by kernel_rfl):p:=h
theorem J.{u} {α:Sort u} {a:α}:a=a:=rfl
abbrev aP:= @if_pos
abbrev aV:= @if_neg
abbrev gO:= @decide_eq_true
abbrev dT:= @decide_eq_false
abbrev eP:= @List.getD_eq_getElem?_getD
abbrev ep:= @Nat.eq_of_beq_eq_true
abbrev ig:= @List.getElem?_eq_getElem
abbrev h3:= @Nat.le_of_ble_eq_true
abbrev dL:= @Option.some.injEq
abbrev akz:= @List.getElem?_eq_some_iff
abbrev gd:= @Array.getD_eq_getD_getElem?
abbrev cN:= @cond_true
abbrev c4:= @Nat.le_refl
abbrev fy:= @Bool.and_eq_true
abbrev fI:= @cond_false
abbrev yu:= @Option.map_eq_some_iff
abbrev nz:= @List.length_replicate
abbrev ad:=Go.Value
abbrev aG:=Go.World
abbrev bB:=Go.Program
abbrev bq:=Go.TypeId
namespace a1
inductive cK (α:Type) where
 |nil
 |node (v:Option α) (l r:cK α)
def cK.get {α:Type}:cK α->Nat->Option α
 | .nil,_=>none
 | .node v l r,i=>bif i==0 then v else bif i%2==1 then l.get (i/2) else r.get (i/2-1)
def cK.set {α:Type} (x:α):Nat->cK α->Nat->Option (cK α)
 |0,_,_=>none
 |f+1,.nil,i=>bif i==0 then some (.node (some x) .nil .nil) else bif i%2==1 then (cK.set x f .nil (i/2)).map (.node none · .nil) else (cK.set x f .nil (i/2-1)).map (.node none .nil ·)
 |f+1,.node v l r,i=>bif i==0 then some (.node (some x) l r) else bif i%2==1 then (cK.set x f l (i/2)).map (.node v · r) else (cK.set x f r (i/2-1)).map (.node v l ·)
theorem cK.pq {α:Type} (x:α):∀(f:Nat) (t fk:cK α) (i j:Nat),cK.set x f t i=some fk->fk.get j=if j=i then some x else t.get j
 |0,_,_,_,_,h=>by simp [cK.set] at h
 |f+1,.nil,fk,i,j,h=>by
  unfold cK.set at h;by_cases ak:i=0
  ·subst ak
   simp only [beq_self_eq_true,cN,dL] at h;subst h;by_cases aq:j=0
   ·simp [aq,cK.get]
   ·have h4:(j==0)=false:=by simpa using aq
    by_cases hm:j%2=1<;>simp [aq,h4,cK.get,hm]
  ·have qs:(i==0)=false:=by simpa using ak
   rw[qs,fI] at h;by_cases hm:i%2=1
   ·rw[show (i%2==1)=true by simpa using hm,cN] at h
    obtain⟨u,hu,rfl⟩:=Option.map_eq_some_iff.1 h;have eJ:=cK.pq x f .nil u (i/2) (j/2) hu;by_cases aq:j=0
    ·subst aq;simp [cK.get,Ne.symm ak]
    ·simp only [cK.get,show (j==0)=false by simpa using aq,fI]
     by_cases td:j%2=1
     ·rw[show (j%2==1)=true by simpa using td,cN,eJ]
      by_cases he:j=i
      ·simp [he]
      ·rw[aV he,aV aj];rfl
     ·rw[show (j%2==1)=false by simpa using td,fI,aV aj]
   ·rw[show (i%2==1)=false by simpa using hm,fI] at h
    obtain⟨u,hu,rfl⟩:=Option.map_eq_some_iff.1 h;have eJ:=cK.pq x f .nil u (i/2-1) (j/2-1) hu;by_cases aq:j=0
    ·subst aq;simp [cK.get,Ne.symm ak]
    ·simp only [cK.get,show (j==0)=false by simpa using aq,fI]
     by_cases td:j%2=1
     ·rw[show (j%2==1)=true by simpa using td,cN,aV aj]
     ·rw[show (j%2==1)=false by simpa using td,fI,eJ]
      by_cases he:j=i
      ·simp [he]
      ·rw[aV he,aV aj];rfl
 |f+1,.node v l r,fk,i,j,h=>by
  unfold cK.set at h;by_cases ak:i=0
  ·subst ak
   simp only [beq_self_eq_true,cN,dL] at h;subst h;by_cases aq:j=0
   ·simp [aq,cK.get]
   ·have h4:(j==0)=false:=by simpa using aq
    simp [aq,h4,cK.get]
  ·have qs:(i==0)=false:=by simpa using ak
   rw[qs,fI] at h;by_cases hm:i%2=1
   ·rw[show (i%2==1)=true by simpa using hm,cN] at h
    obtain⟨u,hu,rfl⟩:=Option.map_eq_some_iff.1 h;have eJ:=cK.pq x f l u (i/2) (j/2) hu;by_cases aq:j=0
    ·subst aq;simp [cK.get,Ne.symm ak]
    ·simp only [cK.get,show (j==0)=false by simpa using aq,fI]
     by_cases td:j%2=1
     ·rw[show (j%2==1)=true by simpa using td,cN,cN,eJ]
      by_cases he:j=i
      ·simp [he]
      ·rw[aV he,aV aj]
     ·rw[show (j%2==1)=false by simpa using td,fI,fI,aV aj]
   ·rw[show (i%2==1)=false by simpa using hm,fI] at h
    obtain⟨u,hu,rfl⟩:=Option.map_eq_some_iff.1 h;have eJ:=cK.pq x f r u (i/2-1) (j/2-1) hu;by_cases aq:j=0
    ·subst aq;simp [cK.get,Ne.symm ak]
    ·simp only [cK.get,show (j==0)=false by simpa using aq,fI]
     by_cases td:j%2=1
     ·rw[show (j%2==1)=true by simpa using td,cN,cN,aV aj]
     ·rw[show (j%2==1)=false by simpa using td,fI,fI,eJ]
      by_cases he:j=i
      ·simp [he]
      ·rw[aV he,aV aj]
def dead:Nat:=1099511627776
def c3:ad:= .complex .f32 77 77
structure lj where
 key:ad
 val:ad
 born:Nat
def v8:Nat:=1000000
class bp where
 σ:Nat->ad
 one:∀k,(∀cs,σ k≠.agg cs/\σ k≠.tuple cs)
 dz:Nat->Option Obj
 ZW:∀g,σ (v8+g)= .pointer (some ⟨g,0,none⟩)
def al (k:Nat):ad:= .complex .f64 k 0
structure A' where
 state:LoopState
 pending:Option Code
 sl:cK ad
 N:Nat
 params:List Tmp
 assign:Code
 body:Code
 E9:Nat
inductive C6 where
 |yv (s:ByteArray) (pos:Nat)
 |deferred
 |gone
 |loop (l:A')
inductive v_ where
 |cells (c:List ad)
 |map (es:List lj) (akA:Nat)
 |hV (x:C6)
structure iX where
 obj:v_
 dG:Nat
 pos:Nat
 fO:Nat
 ro:Bool
 ty:bq
structure bx where
 bl:cK iX
 n:Nat
 mem:cK (List Nat)
 low:Nat
structure iJ where
 bJ:Nat
 sh:Nat
 fO:Nat
 A_:Nat
abbrev cD:=Nat->Option iJ
mutual
def plain:ad->Bool
 | .bool _| .int .. | .float .. | .string _| .pointer none| .map none| .chan none| .nilFunc| .nilIface=>true
 | .slice none l c=>l==0&&c==0
 | .func (.func _) ⟨[]⟩ ⟨[]⟩=>true
 | .iface _ v=>plain v
 | .agg ⟨l⟩=>qt l
 | .tuple ⟨l⟩=>qt l
 |_=>false
def qt:List ad->Bool
 |[]=>true
 |v::r=>plain v&&qt r
end
variable [bp]
inductive aM (φ:cD):ad->ad->Prop where
 |c3 (v':ad):aM φ c3 v'
 |sym (k:Nat):aM φ (al k) (bp.σ k)
 |bool (b:Bool):aM φ (.bool b) (.bool b)
 |int (k:IntKind) (n:Int):aM φ (.int k n) (.int k n)
 |float (k:FloatKind) (b:Nat):aM φ (.float k b) (.float k b)
 |string (s:ByteArray):aM φ (.string s) (.string s)
 |zQ:aM φ (.pointer none) (.pointer none)
 |ptr {b o:Nat} {e:iJ} (h:φ b=some e):aM φ (.pointer (some ⟨b,o,none⟩)) (.pointer (some ⟨e.bJ,e.sh+o,none⟩))
 |slnil (l c:Nat):aM φ (.slice none l c) (.slice none l c)
 |jI {o c':Nat} (bR:Addr) (h:o=0->c'=0):aM φ (.slice (some ⟨dead,o,none⟩) 0 0) (.slice (some bR) 0 c')
 |jk {b o:Nat} {e:iJ} (n c:Nat) (h:φ b=some e):aM φ (.slice (some ⟨b,o,none⟩) n c) (.slice (some ⟨e.bJ,e.sh+o,none⟩) n c)
 |jl {b o:Nat} {e:iJ} (n c c':Nat) (h:φ b=some e) (ay:1<=e.fO) (aA:c<=c') (az:e.sh+o+c'*e.fO<=e.A_):aM φ (.slice (some ⟨b,o,none⟩) n c) (.slice (some ⟨e.bJ,e.sh+o,none⟩) n c')
 |Ba:aM φ (.map none) (.map none)
 |map {b:Nat} {e:iJ} (h:φ b=some e):aM φ (.map (some b)) (.map (some e.bJ))
 |chan:aM φ (.chan none) (.chan none)
 |func {fn:Fn} (fs lI cs cs':Array ad) (aT:∀l,fn≠.yield l) (af:fs.size=lI.size) (ah:cs.size=cs'.size) (bn:∀i,i<fs.size->aM φ (fs.getD i undef) (lI.getD i undef)) (aA:∀i,i<cs.size->aM φ (cs.getD i undef) (cs'.getD i undef)):aM φ (.func fn fs cs) (.func fn lI cs')
 |u5 {b:Nat} {e:iJ} (h:φ b=some e):aM φ (.func (.yield b) #[] #[]) (.func (.yield e.bJ) #[] #[])
 |nilFunc:aM φ .nilFunc .nilFunc
 |nilIface:aM φ .nilIface .nilIface
 |iface (t:bq) {v v':ad} (h:aM φ v v'):aM φ (.iface t v) (.iface t v')
 |agg (cs cs':Array ad) (af:cs.size=cs'.size) (h:∀i,i<cs.size->aM φ (cs.getD i undef) (cs'.getD i undef)):aM φ (.agg cs) (.agg cs')
 |tuple (cs cs':Array ad) (af:cs.size=cs'.size) (h:∀i,i<cs.size->aM φ (cs.getD i undef) (cs'.getD i undef)):aM φ (.tuple cs) (.tuple cs')
theorem aM.Bb (φ:cD):aM φ undef undef:= .tuple _ _ rfl λi h=>absurd h (by simp)
theorem aM.mono {φ dI:cD} (ja:∀b e,φ b=some e->dI b=some e) {v v':ad} (h:aM φ v v'):aM dI v v':=by
 induction h with
 |c3 v'=>exact .c3 v'
 |sym k=>exact .sym k
 |bool b=>exact .bool b
 |int k n=>exact .int k n
 |float k b=>exact .float k b
 |string s=>exact .string s
 |zQ=>exact .zQ
 |ptr h=>exact .ptr (ja _ _ h)
 |slnil l c=>exact .slnil l c
 |jI bR h=>exact .jI bR h
 |jk n c h=>exact .jk n c (ja _ _ h)
 |jl n c c' h ay aA az=>exact .jl n c c' (ja _ _ h) ay aA az
 |Ba=>exact .Ba
 |map h=>exact .map (ja _ _ h)
 |chan=>exact .chan
 |func fs lI cs cs' aT af ah _ _ LR LS=>exact .func fs lI cs cs' aT af ah LR LS
 |u5 h=>exact .u5 (ja _ _ h)
 |nilFunc=>exact .nilFunc
 |nilIface=>exact .nilIface
 |iface t _ eJ=>exact .iface t eJ
 |agg cs cs' af _ eJ=>exact .agg cs cs' af eJ
 |tuple cs cs' af _ eJ=>exact .tuple cs cs' af eJ
mutual
theorem aM.lv (φ:cD):∀v:ad,plain v=true->aM φ v v
 | .bool b,_=> .bool b
 | .int k n,_=> .int k n
 | .float k b,_=> .float k b
 | .string s,_=> .string s
 | .pointer none,_=> .zQ
 | .map none,_=> .Ba
 | .chan none,_=> .chan
 | .nilFunc,_=> .nilFunc
 | .nilIface,_=> .nilIface
 | .slice none l c,_=> .slnil l c
 | .func (.func f) ⟨[]⟩ ⟨[]⟩,_=> .func _ _ _ _ (λl h=>by cases h) J J (λi h=>absurd h (by simp)) (λi h=>absurd h (by simp))
 | .iface t v,h=> .iface t (aM.lv φ v (by simpa [plain] using h))
 | .agg ⟨l⟩,h=> .agg _ _ rfl λi ak=>by
     have:=aM.LU φ l (by simpa [plain] using h) i ak;simpa using this
 | .tuple ⟨l⟩,h=> .tuple _ _ rfl λi ak=>by
     have:=aM.LU φ l (by simpa [plain] using h) i ak;simpa using this
theorem aM.LU (φ:cD):∀l:List ad,qt l=true->∀i,i<l.length->aM φ (l.getD i Go.undef) (l.getD i Go.undef)
 |[],_,i,ak=>absurd ak (by simp)
 |v::r,h,0,_=>by
   have:=aM.lv φ v (by simp [qt] at h;exact h.1);simpa using this
 |v::r,h,i+1,ak=>by
   have:=aM.LU φ r (by simp [qt] at h;exact h.2) i (by simpa using ak);simpa using this
end
end a1
end
namespace a1
variable [bp]
structure Bc (A:bx):Prop where
 lt:∀b k,A.bl.get b=some k->b<A.n
 u6:∀b k,A.bl.get b=some k->k.dG<A.n
 mem:∀b k,A.bl.get b=some k->∃l,A.mem.get k.dG=some l/\b∈l
 wa:∀b k b' k',A.bl.get b=some k->A.bl.get b'=some k'->k.dG=k'.dG->k.ro=k'.ro
def te (φ:cD):C6->Obj->Prop
 | .yv s p,o=>o= .stringIter s p
 | .deferred,o=>o= .deferred (some [])
 | .gone,o=>o= .deferred none
 | .loop l,o=>∃r:Loop,o= .loop r/\r.state=l.state/\r.pending=l.pending/\r.tmps.size=l.N/\r.params=⟨l.params⟩/\r.assign=l.assign/\r.body=l.body/\(∃e,φ l.E9=some e/\r.defers=e.bJ)/\
     (∀t v,l.sl.get t=some v->aM φ v (r.tmps.getD t undef))
theorem te.SK {φ:cD} {x:C6} {c:Array ad} {t:bq} {f:Nat×Nat} (h:te φ x (.cells c t f)):False:=by
 cases x with
 |yv s p=>cases h
 |deferred=>cases h
 |gone=>cases h
 |loop l=>obtain⟨r,h,_⟩:=h;cases h
theorem te.mono {φ dI:cD} {x:C6} {o:Obj} (ja:∀b e,φ b=some e->dI b=some e) (h:te φ x o):te dI x o:=by
 cases x with
 |yv s p=>exact h
 |deferred=>exact h
 |gone=>exact h
 |loop l=>
  obtain⟨r,bd,af,ah,aH,ck,dd,dM,⟨e,gW,qu⟩,jm⟩:=h;exact⟨r,bd,af,ah,aH,ck,dd,dM,⟨e,ja _ _ gW,qu⟩,λt v aR=>(jm t v aR).mono ja⟩
def gL (φ:cD) (w:aG) (e:iJ) (k:iX):Prop:=
 match k.obj with
 | .cells c=>∃c' j5,w.heap[e.bJ]? =some (.cells c' k.ty j5)/\e.A_=c'.size/\(e.sh+c.length<=c'.size/\(k.fO=0->e.sh=0/\c.length=c'.size))/\
     (∀j,j<c.length->aM φ (c.getD j undef) (c'.getD (e.sh+j) undef))/\(k.ro=false->∀i,i<c'.size->¬(j5.1<=i/\i<j5.2))
 | .map es fA=>∃eu,w.heap[e.bJ]? =some (.map eu fA)/\es.length=eu.size/\
     ∀(j:Nat) (a:lj) (b:MapEntry),es[j]? =some a->eu[j]? =some b->plain a.key=true/\a.key=b.key/\aM φ a.val b.val/\a.born=b.born
 | .hV x=>e.sh=0/\∃o',w.heap[e.bJ]? =some o'/\te φ x o'
structure cB (φ:cD) (A:bx) (w:aG):Prop where
 wf:Bc A
 fi:∀b e,φ b=some e->∃k,A.bl.get b=some k/\e.fO=k.fO/\gL φ w e k
 apart:∀b e k b' e' k',φ b=some e->φ b'=some e'->A.bl.get b=some k->A.bl.get b'=some k'->k.dG≠k'.dG->e.bJ≠e'.bJ
 along:∀b e k b' e' k',φ b=some e->φ b'=some e'->A.bl.get b=some k->A.bl.get b'=some k'->k.dG=k'.dG->e.bJ=e'.bJ->e.sh+k'.pos=e'.sh+k.pos
 dz:∀i o,bp.dz i=some o->w.heap[i]? =some o/\∀b e,φ b=some e->e.bJ≠i
abbrev h5 (_:aG):Nat:=0
structure db (φ:cD) (A:bx) (w:aG) (dI:cD) (bK:bx) (w':aG):Prop where
 rel:cB dI bK w'
 fi:∀b,b<A.n->dI b=φ b
 tf:∀b,A.n<=b->b<bK.n->dI b≠none
 new:∀b e,A.n<=b->dI b=some e->w.heap.size<=e.bJ\/∃cj b4 fe,φ cj=some b4/\b4.bJ=e.bJ/\bK.low<=cj/\A.bl.get cj=some fe/\fe.ro=false
 rF:A.n<=bK.n
 low:bK.low<=A.low
 same:∀b,b<A.n->b<bK.low->bK.bl.get b=A.bl.get b
 ro:∀b k,A.bl.get b=some k->k.ro=true->bK.bl.get b=some k
 keep:∀i,i<w.heap.size->(∀b e k,φ b=some e->e.bJ=i->A.bl.get b=some k->k.ro=true)->w'.heap[i]? =w.heap[i]?
 hH:w.heap.size<=w'.heap.size
 os:w'.os=w.os
 tape:w'.tape=w.tape
 output:w'.output=w.output
 drawn:h5 w<=h5 w'
theorem cB.lt {φ:cD} {A:bx} {w:aG} (h:cB φ A w) {b:Nat} {e:iJ} (ai:φ b=some e):b<A.n:=by
 obtain⟨k,ao,_⟩:=h.fi b e ai;exact h.wf.lt b k ao
theorem db.ext {φ dI:cD} {A bK:bx} {w w':aG} (h:db φ A w dI bK w') (ar:cB φ A w):∀b e,φ b=some e->dI b=some e:=λb e ai=>by
 rw[h.fi b (ar.lt ai)];exact ai
theorem db.refl {φ:cD} {A:bx} {w:aG} (h:cB φ A w):db φ A w φ A w where
 rel:=h
 fi:=λ_ _=>rfl
 tf:=λb af ah=>by omega
 new:=λb e af ah=>absurd (h.lt ah) aj
 rF:=c4 _
 low:=c4 _
 same:=λ_ _ _=>rfl
 ro:=λ_ _ h _=>h
 keep:=λ_ _ _=>rfl
 hH:=c4 _
 os:=rfl
 tape:=rfl
 output:=rfl
 drawn:=c4 _
theorem db.trans {φ hO gf:cD} {A cg gP:bx} {w w1 w2:aG} (ar:cB φ A w) (af:db φ A w hO cg w1) (ah:db hO cg w1 gf gP w2):db φ A w gf gP w2 where
 rel:=ah.rel
 fi:=λb ai=>by rw[ah.fi b (Nat.lt_of_lt_of_le ai af.rF),af.fi b ai]
 tf:=λb h gE=>by
  rcases Nat.lt_or_ge b cg.n with c_|lJ
  ·rw[ah.fi b c_];exact af.tf b h c_
  ·exact ah.tf b lJ gE
 new:=by
  have first:∀b e,A.n<=b->hO b=some e->w.heap.size<=e.bJ\/∃cj b4 fe,φ cj=some b4/\b4.bJ=e.bJ/\gP.low<=cj/\A.bl.get cj=some fe/\fe.ro=false:=λb e ai he=>by
   rcases af.new b e ai he with h|⟨cj,b4,fe,q1,aI,bS,fo,iK⟩
   ·exact .inl h
   ·exact .inr ⟨cj,b4,fe,q1,aI,Nat.le_trans ah.low bS,fo,iK⟩
  intro b e ai he;rcases Nat.lt_or_ge b cg.n with c_|lJ
  ·rw[ah.fi b c_] at he
   exact first b e ai he
  ·rcases ah.new b e lJ he with h|⟨cj,b4,fe,q1,aI,bS,fo,iK⟩
   ·exact .inl (Nat.le_trans af.hH h)
   ·rcases Nat.lt_or_ge cj A.n with c_|ZX
    ·rw[af.fi cj c_] at q1
     obtain⟨k,ao,_⟩:=ar.fi cj b4 q1;refine .inr ⟨cj,b4,k,q1,aI,bS,ao,?_⟩;cases ih:k.ro with
     |false=>rfl
     |true=>
      have:=af.ro cj k ao ih;rw[fo] at this;cases this;rw[iK] at ih;exact ih.symm▸rfl
    ·rcases first cj b4 ZX q1 with h|⟨fR,bs,gZ,c9,eF,hx,xA,C7⟩
     ·exact .inl aj
     ·exact .inr ⟨fR,bs,gZ,c9,eF.trans aI,hx,xA,C7⟩
 rF:=Nat.le_trans af.rF ah.rF
 low:=Nat.le_trans ah.low af.low
 same:=λb ai az=>by rw[ah.same b (Nat.lt_of_lt_of_le ai af.rF) az,af.same b ai (Nat.lt_of_lt_of_le az ah.low)]
 ro:=λb k ao ih=>ah.ro b k (af.ro b k ao ih) ih
 keep:=λi ak lK=>by
  rw[ah.keep i (Nat.lt_of_lt_of_le ak af.hH) ?_,af.keep i ak lK];intro b e k ai he ao;rcases Nat.lt_or_ge b A.n with c_|lJ
  ·rw[af.fi b c_] at ai
   obtain⟨fe,ji,_⟩:=ar.fi b e ai;have ih:=lK b e fe ai he ji;have:=af.ro b fe ji ih;rw[ao] at this;cases this;exact ih
  ·rcases af.new b e lJ ai with h|⟨cj,b4,fe,q1,aI,bS,fo,iK⟩
   ·omega
   ·have:=lK cj b4 fe q1 (aI.trans he) fo
    rw[iK] at this;cases this
 hH:=Nat.le_trans af.hH ah.hH
 os:=ah.os.trans af.os
 tape:=ah.tape.trans af.tape
 output:=ah.output.trans af.output
 drawn:=Nat.le_trans af.drawn ah.drawn
theorem db.zR {φ:cD} {A:bx} {w:aG} (h:cB φ A w) (n:Nat) (bu:w.drawn<=n:=by omega):db φ A w φ A {w with drawn:=n}:=
 {db.refl h with rel:=⟨h.wf,h.fi,h.apart,h.along,h.dz⟩,keep:=λ_ _ _=>rfl,drawn:=c4 _}
def depth:Nat:=30
def bx.push (A:bx) (o:v_) (st:Nat) (ty:bq):Option (Nat×bx):=
 match cK.set {obj:=o,dG:=A.n,pos:=0,fO:=st,ro:=false,ty:=ty:iX} depth A.bl A.n,cK.set [A.n] depth A.mem A.n with
 |some bl,some mem=>some (A.n,{A with bl,mem,n:=A.n+1})
 |_,_=>none
def ij (φ:cD) (b:Nat) (e:iJ):cD:=λi=>if i=b then some e else φ i
omit [bp] in
theorem Bc.push {A bK:bx} {o:v_} {st:Nat} {ty:bq} {r:Nat} (h:Bc A) (hp:A.push o st ty=some (r,bK)):
  Bc bK/\r=A.n/\bK.n=A.n+1/\bK.low=A.low/\(∀b,bK.bl.get b=if b=A.n then some {obj:=o,dG:=A.n,pos:=0,fO:=st,ro:=false,ty:=ty} else A.bl.get b):=by
 unfold bx.push at hp;split at hp
 ·rename_i bl mem ai hm
  simp only [dL,Prod.mk.injEq] at hp;obtain⟨rfl,rfl⟩:=hp;have wb:=λb=>cK.pq _ _ _ _ _ b ai
  have C8:=λb=>cK.pq _ _ _ _ _ b hm
  refine⟨⟨?_,?_,?_,?_⟩,rfl,rfl,rfl,wb⟩
  ·intro b k ao
   simp only at ao ⊢;rw[wb] at ao;split at ao
   ·omega
   ·have:=h.lt b k ao;omega
  ·intro b k ao
   simp only at ao ⊢;rw[wb] at ao;split at ao
   ·cases ao;simp
   ·have:=h.u6 b k ao;omega
  ·intro b k ao
   simp only at ao ⊢;rw[wb] at ao;split at ao
   ·rename_i ai
    cases ao;exact⟨[A.n],by rw[C8,aP rfl],by simp [ai]⟩
   ·obtain⟨l,az,t_⟩:=h.mem b k ao
    exact⟨l,by rw[C8,aV (by have:=h.u6 b k ao;omega)];exact az,t_⟩
  ·intro b k b' k' ao eG bn
   simp only at ao eG;rw[wb] at ao eG;split at ao
   ·cases ao
    split at eG
    ·cases eG;rfl
    ·have:=h.u6 b' k' eG;simp only at bn;omega
   ·split at eG
    ·cases eG
     have:=h.u6 b k ao;simp only at bn;omega
    ·exact h.wa b k b' k' ao eG bn
 ·cases hp
theorem gL.mono {φ dI:cD} {w w':aG} {e:iJ} {k:iX} (ja:∀b e,φ b=some e->dI b=some e) (hw:w'.heap[e.bJ]? =w.heap[e.bJ]?) (h:gL φ w e k):gL dI w' e k:=by
 unfold gL at*
 cases ao:k.obj with
 |cells c=>
  simp only [ao] at h ⊢;obtain⟨c',j5,af,ah,aH,ck,dd⟩:=h;exact⟨c',j5,hw.trans af,ah,aH,λj aq=>(ck j aq).mono ja,dd⟩
 |map es fA=>
  simp only [ao] at h ⊢;obtain⟨eu,af,ah,aH⟩:=h;refine⟨eu,hw.trans af,ah,λj a b cG ai=> ?_⟩;obtain⟨q1,aI,bS,fo⟩:=aH j a b cG ai;exact⟨q1,aI,bS.mono ja,fo⟩
 |hV x=>
  simp only [ao] at h ⊢;obtain⟨bd,o',af,ah⟩:=h;exact⟨bd,o',hw.trans af,ah.mono ja⟩
theorem gL.lt {φ:cD} {w:aG} {e:iJ} {k:iX} (h:gL φ w e k):e.bJ<w.heap.size:=by
 unfold gL at h;cases ao:k.obj with
 |cells c=>
  simp only [ao] at h;obtain⟨c',j5,af,_⟩:=h;exact(Array.getElem?_eq_some_iff.1 af).1
 |map es fA=>
  simp only [ao] at h;obtain⟨eu,af,_⟩:=h;exact(Array.getElem?_eq_some_iff.1 af).1
 |hV x=>
  simp only [ao] at h;obtain⟨bd,o',af,ah⟩:=h;exact(Array.getElem?_eq_some_iff.1 af).1
theorem C9 {φ:cD} {A bK:bx} {w:aG} {o:v_} {st:Nat} {ty:bq} {r:Nat} {o':Obj} {e:iJ} (ar:cB φ A w) (hp:A.push o st ty=some (r,bK)) (he:e.bJ=w.heap.size) (eA:e.fO=st)
  (bW:gL (ij φ r e) {w with heap:=w.heap.push o'} e {obj:=o,dG:=A.n,pos:=0,fO:=st,ro:=false,ty:=ty}):
  db φ A w (ij φ r e) bK {w with heap:=w.heap.push o'}:=by
 obtain⟨wc,rfl,aT,n3,hz⟩:=ar.wf.push hp;have hold:∀b bs,φ b=some bs->ij φ A.n e b=some bs:=λb bs ai=>by
  unfold ij;rw[aV (by have:=ar.lt ai;omega)];exact ai
 have tg:∀i,i<w.heap.size->(w.heap.push o')[i]? =w.heap[i]? :=λi ak=>by
  rw[Array.getElem?_push,aV aj]
 have nA:∀b bs,ij φ A.n e b=some bs->(b=A.n/\bs=e)\/(b≠A.n/\φ b=some bs):=λb bs ai=>by
  unfold ij at ai;split at ai
  ·rename_i h;cases ai;exact .inl ⟨h,rfl⟩
  ·rename_i h;exact .inr ⟨h,ai⟩
 refine {rel:=⟨wc,?_,?_,?_,λi o ak=>by
   obtain⟨af,ah⟩:=ar.dz i o ak;have c_:i<w.heap.size:=(Array.getElem?_eq_some_iff.1 af).1;refine⟨by rw[tg i c_];exact af,λb bs ai=> ?_⟩;rcases nA b bs ai with ⟨rfl,rfl⟩|⟨_,ai⟩
   ·omega
   ·exact ah b bs ai⟩,fi:= ?_,tf:= ?_,new:= ?_,rF:=by omega,low:=by omega,same:= ?_,ro:= ?_,keep:= ?_,hH:=by simp,os:=rfl,tape:=rfl,output:=rfl,drawn:=c4 _}
 ·intro b bs ai
  rcases nA b bs ai with ⟨rfl,rfl⟩|⟨dU,ai⟩
  ·exact⟨_,by rw[hz,aP rfl],eA,bW⟩
  ·obtain⟨k,ao,af,ah⟩:=ar.fi b bs ai
   exact⟨k,by rw[hz,aV dU];exact ao,af,ah.mono hold (tg _ ah.lt)⟩
 ·intro b bs k b' pZ k' ai fB ao eG dU
  rw[hz] at ao eG;rcases nA b bs ai with ⟨rfl,rfl⟩|⟨iL,ua⟩
  ·rcases nA b' pZ fB with ⟨rfl,rfl⟩|⟨lk,sb⟩
   ·rw[aP rfl] at ao eG;cases ao;cases eG;exact absurd rfl dU
   ·obtain⟨gZ,_,_,ah⟩:=ar.fi b' pZ sb
    have:=ah.lt;omega
  ·rcases nA b' pZ fB with ⟨rfl,rfl⟩|⟨lk,sb⟩
   ·obtain⟨gZ,_,_,ah⟩:=ar.fi b bs ua
    have:=ah.lt;omega
   ·rw[aV iL] at ao;rw[aV lk] at eG
    exact ar.apart b bs k b' pZ k' ua sb ao eG dU
 ·intro b bs k b' pZ k' ai fB ao eG pt kL
  rw[hz] at ao eG;rcases nA b bs ai with ⟨rfl,rfl⟩|⟨iL,ua⟩
  ·rcases nA b' pZ fB with ⟨rfl,rfl⟩|⟨lk,sb⟩
   ·rw[aP rfl] at ao eG;cases ao;cases eG;rfl
   ·obtain⟨gZ,_,_,ah⟩:=ar.fi b' pZ sb
    have:=ah.lt;omega
  ·rcases nA b' pZ fB with ⟨rfl,rfl⟩|⟨lk,sb⟩
   ·obtain⟨gZ,_,_,ah⟩:=ar.fi b bs ua
    have:=ah.lt;omega
   ·rw[aV iL] at ao;rw[aV lk] at eG
    exact ar.along b bs k b' pZ k' ua sb ao eG pt kL
 ·intro b ai
  unfold ij;rw[aV aj]
 ·intro b af ah
  have:b=A.n:=by omega
  subst this;simp [ij]
 ·intro b bs af ai
  rcases nA b bs ai with ⟨rfl,rfl⟩|⟨iL,ai⟩
  ·exact .inl aj
  ·exact absurd (ar.lt ai) aj
 ·intro b ai _
  rw[hz,aV aj]
 ·intro b k ao _
  rw[hz,aV (by have:=ar.wf.lt b k ao;omega)];exact ao
 ·intro i ak _
  exact tg i ak
end a1
namespace a1
variable [bp]
def bx.load (A:bx) (b off:Nat):Option ad:=
 match A.bl.get b with
 |some {obj:= .cells c,..}=>c[off]?
 |_=>none
theorem wg {φ:cD} {A:bx} {w:aG} (ar:cB φ A w) {b off:Nat} {v:ad} {e:iJ} (h:A.load b off=some v) (he:φ b=some e):
  ∃v',w.cell? ⟨e.bJ,e.sh+off,none⟩=some v'/\aM φ v v':=by
 obtain⟨k,ao,_,bW⟩:=ar.fi b e he;unfold bx.load at h;rw[ao] at h;obtain⟨u7,dG,pos,fO,ro,ty⟩:=k;cases u7 with
 |cells c=>
  simp only [gL] at h bW;obtain⟨c',j5,af,ah,aH,ck,dd⟩:=bW;obtain⟨c_,aR⟩:=List.getElem?_eq_some_iff.1 h;refine⟨c'.getD (e.sh+off) undef,?_,?_⟩
  ·simp only [World.cell?,af]
   simp [show e.sh+off<c'.size by omega]
  ·have:=ck off c_
   rw[eP,h] at this;simpa using this
 |map es fA=>simp at h
 |hV x=>simp at h
def ma (pos:Nat) (k:iX):iX:=
 bif k.ro then k else
 match k.obj with
 | .cells c=>bif Nat.ble k.pos pos then {k with obj:= .cells (c.set (pos-k.pos) c3)} else k
 |_=>k
omit [bp] in
theorem Bd (pos:Nat) (k:iX):(ma pos k).dG=k.dG/\(ma pos k).pos=k.pos/\(ma pos k).fO=k.fO/\(ma pos k).ro=k.ro/\ma pos (ma pos k)=ma pos k/\(k.ro=true->ma pos k=k)/\(ma pos k).ty=k.ty:=by
 obtain⟨u7,dG,p,st,ro,ty⟩:=k;cases ro with
 |true=>simp [ma]
 |false=>
  cases u7 with
  |cells c=>cases h:Nat.ble p pos<;>simp [ma,h]
  |map es fA=>simp [ma]
  |hV x=>simp [ma]
omit [bp] in
theorem ZY (pos:Nat) (k:iX):(ma pos k).dG=k.dG:=(Bd pos k).1
omit [bp] in
theorem ZZ (pos:Nat) (k:iX):(ma pos k).pos=k.pos:=(Bd pos k).2.1
omit [bp] in
theorem LV (pos:Nat) (k:iX):(ma pos k).fO=k.fO:=(Bd pos k).2.2.1
omit [bp] in
theorem Z0 (pos:Nat) (k:iX):(ma pos k).ro=k.ro:=(Bd pos k).2.2.2.1
omit [bp] in
theorem Z1 (pos:Nat) (k:iX):(ma pos k).ty=k.ty:=(Bd pos k).2.2.2.2.2.2
omit [bp] in
theorem Z2 (pos:Nat) (k:iX):ma pos (ma pos k)=ma pos k:=(Bd pos k).2.2.2.2.1
def zS (pos b:Nat):List Nat->cK iX->Option (cK iX)
 |[],t=>some t
 |m::r,t=>bif m==b then zS pos b r t else
  match t.get m with
  |some k=>match cK.set (ma pos k) depth t m with
   |some fk=>zS pos b r fk
   |none=>none
  |none=>zS pos b r t
omit [bp] in
theorem IL (pos b:Nat):∀(l:List Nat) (t fk:cK iX),zS pos b l t=some fk->
  ∀j,fk.get j=if j∈l/\j≠b then (t.get j).map (ma pos) else t.get j
 |[],t,fk,h,j=>by simp [zS] at h;simp [h]
 |m::r,t,fk,h,j=>by
  unfold zS at h;by_cases hm:m=b
  ·rw[show (m==b)=true by simpa using hm,cN] at h
   rw[IL pos b r t fk h j];subst hm;by_cases aq:j∈r/\j≠m
   ·rw[aP aq,aP ⟨List.mem_cons_of_mem _ aq.1,aq.2⟩]
   ·rw[aV aq,aV]
    rintro ⟨af,ah⟩;rcases List.mem_cons.1 af with af|af
    ·exact ah af
    ·exact aq ⟨af,ah⟩
  ·rw[show (m==b)=false by simpa using hm,fI] at h
   cases bg:t.get m with
   |none=>
    rw[bg] at h;rw[IL pos b r t fk h j];by_cases fZ:j=m
    ·subst fZ
     rw[bg];split<;>split<;>rfl
    ·have:(j∈m::r/\j≠b)↔(j∈r/\j≠b):=by simp [fZ]
     simp only [this]
   |some k=>
    rw[bg] at h;simp only at h;cases ay:cK.set (ma pos k) depth t m with
    |none=>rw[ay] at h;cases h
    |some t1=>
     rw[ay] at h;have hz:=λj=>cK.pq _ _ _ _ _ j ay
     rw[IL pos b r t1 fk h j,hz];by_cases fZ:j=m
     ·subst fZ
      rw[aP rfl,aP (show j∈j::r/\j≠b from ⟨List.mem_cons_self,hm⟩),bg];split
      ·simp [Z2]
      ·simp
     ·rw[aV fZ]
      have:(j∈m::r/\j≠b)↔(j∈r/\j≠b):=by simp [fZ]
      simp only [this]
def bx.store (A:bx) (b off:Nat) (v:ad):Option bx:=
 match A.bl.get b with
 |some k=>
  bif k.ro then none else
  match k.obj with
  | .cells c=>bif Nat.blt off c.length then
      match A.mem.get k.dG,cK.set {k with obj:= .cells (c.set off v)} depth A.bl b with
      |some l,some t=>match zS (k.pos+off) b l t with
       |some fk=>some {A with bl:=fk,low:=l.foldl Nat.min A.low}
       |none=>none
      |_,_=>none
    else none
  |_=>none
 |none=>none
omit [bp] in
theorem IM:∀(l:List Nat) (x:Nat),l.foldl Nat.min x<=x/\∀m∈l,l.foldl Nat.min x<=m
 |[],x=>⟨c4 _,λm h=>by cases h⟩
 |a::r,x=>by
  obtain⟨af,ah⟩:=IM r (Nat.min x a);refine⟨Nat.le_trans af (Nat.min_le_left _ _),λm hm=> ?_⟩;rcases List.mem_cons.1 hm with rfl|hm
  ·exact Nat.le_trans af (Nat.min_le_right _ _)
  ·exact ah m hm
omit [bp] in
theorem Z3 {A bK:bx} {b off:Nat} {v:ad} (h:A.store b off v=some bK):
  ∃k c l,A.bl.get b=some k/\k.ro=false/\k.obj= .cells c/\off<c.length/\A.mem.get k.dG=some l/\bK.n=A.n/\bK.mem=A.mem/\bK.low<=A.low/\(∀m∈l,bK.low<=m)/\
   bK.bl.get b=some {k with obj:= .cells (c.set off v)}/\(∀j,j≠b->bK.bl.get j=if j∈l then (A.bl.get j).map (ma (k.pos+off)) else A.bl.get j):=by
 unfold bx.store at h;cases ao:A.bl.get b with
 |none=>rw[ao] at h;cases h
 |some k=>
  rw[ao] at h;obtain⟨u7,dG,pos,fO,ro,ty⟩:=k;simp only at h;cases ro with
  |true=>cases h
  |false=>
   simp only [fI] at h;cases u7 with
   |map es fA=>cases h
   |hV x=>cases h
   |cells c=>
    simp only at h;cases ai:Nat.blt off c.length with
    |false=>rw[ai] at h;cases h
    |true=>
     rw[ai,cN] at h;cases hm:A.mem.get dG with
     |none=>rw[hm] at h;cases h
     |some l=>
      rw[hm] at h;cases ay:cK.set {obj:= .cells (c.set off v),dG:=dG,pos:=pos,fO:=fO,ro:=false,ty:=ty:iX} depth A.bl b with
      |none=>rw[ay] at h;cases h
      |some t=>
       rw[ay] at h;simp only at h;cases hp:zS (pos+off) b l t with
       |none=>rw[hp] at h;cases h
       |some fk=>
        rw[hp] at h;simp only [dL] at h;subst h;have hz:=λj=>cK.pq _ _ _ _ _ j ay
        have lK:=IL _ _ _ _ _ hp;obtain⟨f1,f2⟩:=IM l A.low;refine⟨_,c,l,rfl,rfl,rfl,Nat.blt_eq.mp ai,hm,rfl,rfl,f1,f2,?_,?_⟩
        ·simp only [lK,hz]
         simp
        ·intro j aq
         simp only [lK,hz,aq,ne_eq,not_false_eq_true,and_true,if_false]
theorem SL {φ:cD} {A bK:bx} {w:aG} (ar:cB φ A w) {b off:Nat} {v v':ad} {e:iJ} (h:A.store b off v=some bK) (he:φ b=some e) (aR:aM φ v v'):
  db φ A w φ bK (w.setCell ⟨e.bJ,e.sh+off,none⟩ v')/\(∃u,w.cell? ⟨e.bJ,e.sh+off,none⟩=some u)/\w.frozen? ⟨e.bJ,e.sh+off,none⟩=false:=by
 obtain⟨k,c,l,ao,ih,gF,c_,n4,aT,wh,n3,IN,SM,n5⟩:=Z3 h;obtain⟨fe,ji,eA,bW⟩:=ar.fi b e he;rw[ao] at ji;cases ji;have t_:b∈l:=by
  obtain⟨l',iM,fB⟩:=ar.wf.mem b k ao;rw[n4] at iM;cases iM;exact fB
 have LW:=bW;unfold gL at bW;simp only [gF] at bW;obtain⟨c',j5,af,ah,aH,ck,dd⟩:=bW;have zT:=dd ih;have kL:e.bJ<w.heap.size:=LW.lt;have hw:(w.setCell ⟨e.bJ,e.sh+off,none⟩ v').heap[e.bJ]? =some (.cells (c'.setIfInBounds (e.sh+off) v') k.ty j5):=by
  simp only [World.setCell,Array.getElem?_modify,aP,af];simp
 have rG:∀i,i≠e.bJ->(w.setCell ⟨e.bJ,e.sh+off,none⟩ v').heap[i]? =w.heap[i]? :=λi ak=>by
  simp only [World.setCell,Array.getElem?_modify];rw[aV (Ne.symm ak)]
 have hI:∀j eM,bK.bl.get j=some eM->∃cU,A.bl.get j=some cU/\eM.dG=cU.dG/\eM.pos=cU.pos/\eM.fO=cU.fO/\eM.ro=cU.ro/\eM.ty=cU.ty:=by
  intro j eM aq;by_cases u9:j=b
  ·subst u9
   rw[SM] at aq;cases aq;exact⟨k,ao,rfl,rfl,rfl,rfl,rfl⟩
  ·rw[n5 j u9] at aq
   split at aq
   ·obtain⟨cU,af,rfl⟩:=Option.map_eq_some_iff.1 aq
    exact⟨cU,af,ZY _ _,ZZ _ _,LV _ _,Z0 _ _,Z1 _ _⟩
   ·exact⟨eM,aq,rfl,rfl,rfl,rfl,rfl⟩
 refine⟨{rel:=⟨⟨?_,?_,?_,?_⟩,?_,?_,?_,λi o ak=>⟨by rw[rG i (Ne.symm ((ar.dz i o ak).2 _ _ he))];exact(ar.dz i o ak).1,(ar.dz i o ak).2⟩⟩,fi:=λ_ _=>rfl,tf:=λb af ah=>by omega,new:=λb e af ah=>absurd (ar.lt ah) aj,rF:=by omega,low:=n3,same:= ?_,ro:= ?_,keep:= ?_,hH:=by simp [World.setCell],os:=rfl,tape:=rfl,output:=rfl,drawn:=c4 _},?_,?_⟩
 ·intro j cU aq
  obtain⟨gZ,q1,_⟩:=hI j cU aq;rw[aT];exact ar.wf.lt j gZ q1
 ·intro j cU aq
  obtain⟨gZ,q1,aI,_⟩:=hI j cU aq;rw[aT,aI];exact ar.wf.u6 j gZ q1
 ·intro j cU aq
  obtain⟨gZ,q1,aI,_⟩:=hI j cU aq;rw[wh,aI];exact ar.wf.mem j gZ q1
 ·intro j cU gG eM aq h4 bn
  obtain⟨gZ,q1,aI,_,_,bS,_⟩:=hI j cU aq;obtain⟨Z4,wi,Be,_,_,ub,_⟩:=hI gG eM h4;rw[bS,ub];exact ar.wf.wa j gZ gG Z4 q1 wi (by rw[<-aI,<-Be];exact bn)
 ·intro j g' aq
  obtain⟨cU,iU,xB,jj⟩:=ar.fi j g' aq;by_cases u9:j=b
  ·subst u9
   rw[he] at aq;cases aq;rw[ao] at iU;cases iU;refine⟨_,SM,eA,?_⟩;simp only [gL];refine⟨_,_,hw,by simpa using ah,by simpa using aH,?_,λ_=>by simpa using zT⟩;intro i ak;simp only [List.length_set] at ak;by_cases ko:i=off
   ·subst ko
    rw[eP,List.getElem?_set_self ak];simp only [gd,Array.getElem?_setIfInBounds,aP];rw[aP aj];exact aR
   ·rw[eP,List.getElem?_set_ne (Ne.symm ko),<-eP]
    have:=ck i ak;simp only [gd,Array.getElem?_setIfInBounds] at this ⊢;rw[aV aj];exact this
  ·by_cases yw:g'.bJ=e.bJ
   ·
    have pt:cU.dG=k.dG:=by
     rcases Nat.lt_or_ge cU.dG k.dG with h|h
     ·exact absurd yw (ar.apart j g' cU b e k aq he iU ao aj)
     ·rcases Nat.eq_or_lt_of_le h with h|h
      ·exact h.symm
      ·exact absurd yw (ar.apart j g' cU b e k aq he iU ao aj)
    have lL:j∈l:=by
     obtain⟨l',iM,fB⟩:=ar.wf.mem j cU iU;rw[pt,n4] at iM;cases iM;exact fB
    have Z5:=ar.along j g' cU b e k aq he iU ao pt yw;refine⟨ma (k.pos+off) cU,by rw[n5 j u9,aP lL,iU];rfl,by rw[LV];exact xB,?_⟩;obtain⟨LX,SN,xC,SO,IP,SP⟩:=cU;simp only at pt Z5 xB;cases LX with
    |map es fA=>
     simp only [gL] at jj;obtain⟨eu,g1,_⟩:=jj;rw[yw,af] at g1;cases g1
    |hV x=>
     simp only [gL] at jj;obtain⟨_,o',g1,g2⟩:=jj;rw[yw,af] at g1;cases g1;exact absurd g2 λh=>te.SK h
    |cells Bf=>
     simp only [gL] at jj;obtain⟨E',E_,g1,g2,g3,g4,mb⟩:=jj;rw[yw,af] at g1;simp only [dL,Obj.cells.injEq] at g1;obtain⟨rfl,hty,rfl⟩:=g1;have key:∀(fA:List ad),fA.length=Bf.length->(∀i,i<Bf.length->(g'.sh+i=e.sh+off->fA[i]? =some c3)/\(g'.sh+i≠e.sh+off->fA[i]? =Bf[i]? \/fA[i]? =some c3))->
       gL φ (w.setCell ⟨e.bJ,e.sh+off,none⟩ v') g' {obj:= .cells fA,dG:=SN,pos:=xC,fO:=SO,ro:=IP,ty:=SP}:=by
      intro fA SQ hJ;simp only [gL];refine⟨_,_,by rw[yw,<-hty];exact hw,by simpa using g2,by rw[SQ];simpa using g3,?_,λ_=>by simpa using zT⟩;intro i ak;rw[SQ] at ak;obtain⟨q1,aI⟩:=hJ i ak;by_cases u_:g'.sh+i=e.sh+off
      ·rw[eP,q1 u_]
       exact .c3 _
      ·rcases aI u_ with q|q
       ·rw[eP,q,<-eP]
        have:=g4 i ak;simp only [gd,Array.getElem?_setIfInBounds] at this ⊢;rw[aV aj];exact this
       ·rw[eP,q]
        exact .c3 _
     have ti:IP=false:=by
      have:=ar.wf.wa j _ b k iU ao pt;simpa [ih] using this
     subst ti;unfold ma;simp only [fI];cases IQ:Nat.ble xC (k.pos+off) with
     |false=>
      simp only [fI];refine key Bf rfl λi ak=>⟨λhp=> ?_,λ_=> .inl rfl⟩
      have:¬xC<=k.pos+off:=by
       intro hle;rw[Nat.ble_eq.mpr hle] at IQ;cases IQ
      omega
     |true=>
      have hle:=Nat.ble_eq.mp IQ;simp only [cN];refine key _ (by simp) λi ak=>⟨λhp=> ?_,λhp=> ?_⟩
      ·have:k.pos+off-xC=i:=by omega
       rw[this,List.getElem?_set_self ak]
      ·have:k.pos+off-xC≠i:=by omega
       rw[List.getElem?_set_ne this];exact .inl rfl
   ·
    rw[n5 j u9];by_cases lL:j∈l
    ·rw[aP lL,iU]
     refine⟨_,rfl,by rw[LV];exact xB,?_⟩;have C':gL φ (w.setCell ⟨e.bJ,e.sh+off,none⟩ v') g' cU:=jj.mono (λ_ _ h=>h) (rG _ yw);unfold ma;obtain⟨LX,SN,xC,SO,IP,SP⟩:=cU;cases IP with
     |true=>exact C'
     |false=>
     simp only [fI];cases LX with
     |map es fA=>exact C'
     |hV x=>exact C'
     |cells Bf=>
      simp only;cases IQ:Nat.ble xC (k.pos+off) with
      |false=>exact C'
      |true=>
       simp only [cN];simp only [gL] at C' ⊢;obtain⟨E',E_,g1,g2,g3,g4,mb⟩:=C';refine⟨E',E_,g1,g2,by simpa using g3,λi ak=> ?_,mb⟩;simp only [List.length_set] at ak;by_cases SR:k.pos+off-xC=i
       ·rw[SR,eP,List.getElem?_set_self ak]
        exact .c3 _
       ·rw[eP,List.getElem?_set_ne SR,<-eP]
        exact g4 i ak
    ·rw[aV lL]
     exact⟨cU,iU,xB,jj.mono (λ_ _ h=>h) (rG _ yw)⟩
 ·intro j g' cU gG sc eM q1 aI bS fo iK
  obtain⟨eL,eY,a3,a4,SS,SU,SV⟩:=hI j cU bS;obtain⟨fR,fC,iN,IS,Z6,Z7,Z8⟩:=hI gG eM fo;exact ar.apart j g' eL gG sc fR q1 aI eY fC (by rw[<-a3,<-iN];exact iK)
 ·intro j g' cU gG sc eM q1 aI bS fo iK mK
  obtain⟨eL,eY,a3,a4,SS,SU,SV⟩:=hI j cU bS;obtain⟨fR,fC,iN,IS,Z6,Z7,Z8⟩:=hI gG eM fo;rw[a4,IS];exact ar.along j g' eL gG sc fR q1 aI eY fC (by rw[<-a3,<-iN];exact iK) mK
 ·intro j aq az
  by_cases u9:j=b
  ·subst u9
   have:=IN j t_;omega
  ·rw[n5 j u9,aV]
   intro lL;have:=IN j lL;omega
 ·intro j cU aq ti
  by_cases u9:j=b
  ·subst u9
   rw[ao] at aq;cases aq;rw[ih] at ti;cases ti
  ·rw[n5 j u9]
   by_cases lL:j∈l
   ·rw[aP lL,aq]
    simp only [Option.map_some,dL];exact(Bd _ _).2.2.2.2.2.1 ti
   ·rw[aV lL];exact aq
 ·intro i ak lK
  refine rG i λrH=> ?_
  subst rH;have:=lK b e k he rfl ao;rw[ih] at this;cases this
 ·refine⟨c'.getD (e.sh+off) undef,?_⟩
  simp only [World.cell?,af];simp [show e.sh+off<c'.size by omega]
 ·have:=zT (e.sh+off) aj
  obtain⟨fL,ak⟩:=j5;simp only [World.frozen?,af];simpa using this
end a1
namespace a1
variable [bp]
def bZ {α:Type} (P:bB):Sem α->Option α
 | .pure a=>some a
 | .program k=>bZ P (k P)
 | .mark _ k=>bZ P k
 |_=>none
omit [bp] in
theorem kM {α:Type} {P:bB} {s:Sem α} {a:α} (h:bZ P s=some a) (w:aG):s.run P w= .ok a w:=by
 induction s with
 |pure b=>simp only [bZ,dL] at h;subst h;rfl
 |program k eJ=>exact eJ P h
 |mark m k eJ=>exact eJ h
 |_=>cases h
def yx:ad->Bool
 | .agg _| .tuple _| .complex .f32 _ _=>false
 |_=>true
def cellsOf:ad->Option (List ad)
 | .agg ⟨l⟩=>some l
 | .tuple _| .complex .f32 _ _=>none
 |v=>some [v]
theorem aM.yx {φ:cD} {v v':ad} (h:aM φ v v') (af:yx v=true):∀cs,v'≠.agg cs/\v'≠.tuple cs:=by
 intro cs;cases h
 case sym k=>exact bp.one k cs
 all_goals simp_all [a1.yx,a1.c3]
theorem aM.cells {φ:cD} {v v':ad} {l:List ad} (h:aM φ v v') (az:cellsOf v=some l):
  l.length=v'.cells.size/\∀j,j<l.length->aM φ (l.getD j undef) (v'.cells.getD j undef):=by
 have one:∀{v v':ad},aM φ v v'->(∀cs,v'≠.agg cs)->l=[v]->l.length=v'.cells.size/\∀j,j<l.length->aM φ (l.getD j undef) (v'.cells.getD j undef):=by
  intro v v' h aT e;subst e;have:v'.cells= #[v']:=by cases v'<;>first|rfl|exact absurd rfl (aT _)
  rw[this];refine⟨rfl,λj aq=> ?_⟩;have:j=0:=by simpa using aq
  subst this;simpa using h
 cases h with
 |c3=>cases az
 |sym k=>exact one (.sym k) (λcs=>(bp.one k cs).1) (by simpa [cellsOf,al] using az.symm)
 |agg cs cs' af ah=>
  obtain⟨mL⟩:=cs;simp only [cellsOf,dL] at az;subst az;exact⟨by simpa [Value.cells] using af,λj aq=>by simpa [Value.cells] using ah j (by simpa using aq)⟩
 |tuple=>cases az
 |bool b=>exact one (.bool b) (λ_=>by simp) (by simpa [cellsOf] using az.symm)
 |int k n=>exact one (.int k n) (λ_=>by simp) (by simpa [cellsOf] using az.symm)
 |float k b=>exact one (.float k b) (λ_=>by simp) (by simpa [cellsOf] using az.symm)
 |string s=>exact one (.string s) (λ_=>by simp) (by simpa [cellsOf] using az.symm)
 |zQ=>exact one .zQ (λ_=>by simp) (by simpa [cellsOf] using az.symm)
 |ptr h=>exact one (.ptr h) (λ_=>by simp) (by simpa [cellsOf] using az.symm)
 |slnil a b=>exact one (.slnil a b) (λ_=>by simp) (by simpa [cellsOf] using az.symm)
 |jI b h=>exact one (.jI b h) (λ_=>by simp) (by simpa [cellsOf] using az.symm)
 |jk n c h=>exact one (.jk n c h) (λ_=>by simp) (by simpa [cellsOf] using az.symm)
 |jl n c c' h a b d=>exact one (.jl n c c' h a b d) (λ_=>by simp) (by simpa [cellsOf] using az.symm)
 |Ba=>exact one .Ba (λ_=>by simp) (by simpa [cellsOf] using az.symm)
 |map h=>exact one (.map h) (λ_=>by simp) (by simpa [cellsOf] using az.symm)
 |chan=>exact one .chan (λ_=>by simp) (by simpa [cellsOf] using az.symm)
 |func fs lI cs cs' a b c d e=>exact one (.func fs lI cs cs' a b c d e) (λ_=>by simp) (by simpa [cellsOf] using az.symm)
 |u5 h=>exact one (.u5 h) (λ_=>by simp) (by simpa [cellsOf] using az.symm)
 |nilFunc=>exact one .nilFunc (λ_=>by simp) (by simpa [cellsOf] using az.symm)
 |nilIface=>exact one .nilIface (λ_=>by simp) (by simpa [cellsOf] using az.symm)
 |iface t h=>exact one (.iface t h) (λ_=>by simp) (by simpa [cellsOf] using az.symm)
omit [bp] in
theorem Addr.ly (b o i:Nat):(⟨b,o,none⟩:Addr).add i=⟨b,o+i,none⟩:=by
 unfold Go.Addr.add;split
 ·rename_i h;subst h;rfl
 ·rfl
def bx.tj (A:bx) (b off n:Nat):Option (List ad):=
 match A.bl.get b with
 |some {obj:= .cells c,..}=>bif Nat.ble (off+n) c.length then some ((c.drop off).take n) else none
 |_=>none
omit [bp] in
theorem Bg {A:bx} {b off n:Nat} {a8:List ad} (h:A.tj b off n=some a8):a8.length=n/\∀j,j<n->A.load b (off+j)=some (a8.getD j undef):=by
 unfold bx.tj at h;unfold bx.load;cases ao:A.bl.get b with
 |none=>rw[ao] at h;cases h
 |some k=>
  rw[ao] at h;obtain⟨u7,dG,pos,st,ro,ty⟩:=k;cases u7 with
  |map es fA=>cases h
  |hV x=>cases h
  |cells c=>
   simp only at h ⊢;cases ai:Nat.ble (off+n) c.length with
   |false=>rw[ai] at h;cases h
   |true=>
    rw[ai,cN,dL] at h;have hle:=Nat.ble_eq.mp ai;subst h;refine⟨by simp;omega,λj aq=> ?_⟩;rw[eP,List.getElem?_take,aP aq,List.getElem?_drop];rw[ig aj];rfl
theorem Fa {φ:cD} {A:bx} {w:aG} (ar:cB φ A w) (P:bB) {b off n:Nat} {a8:List ad} {e:iJ} (h:A.tj b off n=some a8) (he:φ b=some e):
  ∃dC:Array ad,(loadCells ⟨e.bJ,e.sh+off,none⟩ n).run P w= .ok dC w/\dC.size=a8.length/\∀j,j<a8.length->aM φ (a8.getD j undef) (dC.getD j undef):=by
 obtain⟨az,aq⟩:=Bg h;have Bh:∀j,j<n->∃v',w.cell? ⟨e.bJ,e.sh+off+j,none⟩=some v'/\aM φ (a8.getD j undef) v':=λj wj=>by
  obtain⟨v',af,ah⟩:=wg ar (aq j wj) he;exact⟨v',by rw[show e.sh+off+j=e.sh+(off+j) by omega];exact af,ah⟩
 let f:Nat->ad:=λj=>(w.cell? ⟨e.bJ,e.sh+off+j,none⟩).getD undef
 have bn:∀j,j<n->w.cell? ((⟨e.bJ,e.sh+off,none⟩:Addr).add j)=some (f j):=λj wj=>by
  obtain⟨v',af,_⟩:=Bh j wj;rw[Addr.ly,af];simp [f,af]
 refine⟨_,run_loadCells _ _ n f bn,by simp [az],λj wj=> ?_⟩;obtain⟨v',af,ah⟩:=Bh j aj;have:f j=v':=by simp [f,af]
 simp only [gd];simp [show j<n by omega,this];simpa using ah
def bx.sd:bx->Nat->Nat->List ad->Option bx
 |A,_,_,[]=>some A
 |A,b,off,v::r=>bif yx v then match A.store b off v with
    |some cg=>cg.sd b (off+1) r
    |none=>none
  else none
omit [bp] in
theorem run_store {P:bB} {w:aG} {a:Addr} {v u:ad} (aR:∀cs,v≠.agg cs/\v≠.tuple cs) (af:w.cell? a=some u) (ah:w.frozen? a=false):(Go.store a v).run P w= .ok () (w.setCell a v):=by
 unfold Go.store;cases v<;>first|(exfalso;exact(aR _).1 rfl)|(exfalso;exact(aR _).2 rfl)|(simp [Sem.run,af,ah])
theorem C_ {φ:cD} (P:bB) {b:Nat} {e:iJ} (he:φ b=some e):∀(a8:List ad) (A bK:bx) (w:aG) (off i:Nat) (dC:List ad),cB φ A w->A.sd b (off+i) a8=some bK->
  dC.length=a8.length->(∀j,j<a8.length->aM φ (a8.getD j undef) (dC.getD j undef))->
  ∃w',(storeCells ⟨e.bJ,e.sh+off,none⟩ dC i).run P w= .ok () w'/\db φ A w φ bK w'
 |[],A,bK,w,off,i,dC,ar,h,az,aR=>by
  simp only [bx.sd,dL] at h;subst h;have:dC=[]:=by simpa using az
  subst this;exact⟨w,rfl,db.refl ar⟩
 |v::r,A,bK,w,off,i,dC,ar,h,az,aR=>by
  cases dC with
  |nil=>simp at az
  |cons v' iA=>
   unfold bx.sd at h;cases af:a1.yx v with
   |false=>rw[af] at h;cases h
   |true=>
    rw[af,cN] at h;cases ay:A.store b (off+i) v with
    |none=>rw[ay] at h;cases h
    |some cg=>
     rw[ay] at h;simp only at h;have Da:aM φ v v':=by simpa using aR 0 (by simp)
     obtain⟨st,⟨u,hu⟩,zT⟩:=SL ar ay he Da;rw[<-Nat.add_assoc] at st hu zT;obtain⟨w',Fb,xD⟩:=C_ P he r cg bK _ off (i+1) iA (by rw[Nat.add_assoc] at st;exact st.rel) (by rw[<-Nat.add_assoc];exact h) (by simpa using az) (λj aq=>by simpa using aR (j+1) (by simpa using aq));refine⟨w',?_,?_⟩
     ·unfold storeCells
      rw[Addr.ly];simp only [Sem.run_bind,run_store (Da.yx af) hu zT,Result.andThen_ok];rw[Nat.add_assoc];exact Fb
     ·exact db.trans ar (by rw[Nat.add_assoc] at st;exact st) xD
theorem Db {φ:cD} {A bK:bx} {w:aG} (ar:cB φ A w) (P:bB) {c:List ad} {c':Array ad} {r st:Nat} (t:bq) (hp:A.push (.cells c) st t=some (r,bK)) (az:c.length<=c'.size) (aw:st=0->c.length=c'.size)
  (aR:∀j,j<c.length->aM φ (c.getD j undef) (c'.getD j undef)):
  ∃dI w',(newRow t c').run P w= .ok ⟨w.heap.size,0,none⟩ w'/\dI r=some ⟨w.heap.size,0,st,c'.size⟩/\db φ A w dI bK w'/\w'={w with heap:=w.heap.push (.cells c' t)}:=by
 have SW:=(ar.wf.push hp).2.1;have hmono:∀b e,φ b=some e->ij φ r ⟨w.heap.size,0,st,c'.size⟩ b=some e:=λb e ai=>by
  unfold ij;rw[aV (by have:=ar.lt ai;omega)];exact ai
 refine⟨ij φ r ⟨w.heap.size,0,st,c'.size⟩,{w with heap:=w.heap.push (.cells c' t)},?_,by simp [ij],?_,rfl⟩
 ·simp [newRow,newObj,Sem.run]
 ·refine C9 ar hp J J ?_
  simp only [gL];refine⟨c',(0,0),by simp,rfl,by simp;exact⟨az,aw⟩,λj aq=> ?_,λ_ i _=>by simp⟩;simp only [Nat.zero_add];exact(aR j aq).mono hmono
end a1
namespace a1
variable [bp]
mutual
theorem aM.mc {φ:cD}:∀(v:ad) {v':ad},plain v=true->aM φ v v'->v'=v
 | .bool b,_,_,h=>by cases h;rfl
 | .int k n,_,_,h=>by cases h;rfl
 | .float k b,_,_,h=>by cases h;rfl
 | .string s,_,_,h=>by cases h;rfl
 | .pointer none,_,_,h=>by cases h;rfl
 | .map none,_,_,h=>by cases h;rfl
 | .chan none,_,_,h=>by cases h;rfl
 | .nilFunc,_,_,h=>by cases h;rfl
 | .nilIface,_,_,h=>by cases h;rfl
 | .slice none l c,_,_,h=>by cases h;rfl
 | .func (.func f) ⟨[]⟩ ⟨[]⟩,_,_,h=>by
     cases h with
     |func fs lI cs cs' aT af ah bn aA=>
      have bs:lI= #[]:=Array.eq_empty_of_size_eq_zero af.symm;have cw:cs'= #[]:=Array.eq_empty_of_size_eq_zero ah.symm;rw[bs,cw]
 | .iface t v,_,hp,h=>by
     cases h with
     |iface t h=>rw[aM.mc v (by simpa [plain] using hp) h]
 | .agg ⟨l⟩,_,hp,h=>by
     cases h with
     |agg cs cs' af ah=>
      obtain⟨l'⟩:=cs';rw[aM.Fc l l' (by simpa [plain] using hp) (by simpa using af) (λi ak=>by simpa using ah i (by simpa using ak))]
 | .tuple ⟨l⟩,_,hp,h=>by
     cases h with
     |tuple cs cs' af ah=>
      obtain⟨l'⟩:=cs';rw[aM.Fc l l' (by simpa [plain] using hp) (by simpa using af) (λi ak=>by simpa using ah i (by simpa using ak))]
theorem aM.Fc {φ:cD}:∀(l l':List ad),qt l=true->l.length=l'.length->(∀i,i<l.length->aM φ (l.getD i Go.undef) (l'.getD i Go.undef))->l'=l
 |[],[],_,_,_=>rfl
 |[],_::_,_,h,_=>by simp at h
 |_::_,[],_,h,_=>by simp at h
 |v::r,v'::iA,hp,az,h=>by
   have af:=aM.mc v (by simp [qt] at hp;exact hp.1) (by simpa using h 0 (by simp));have ah:=aM.Fc r iA (by simp [qt] at hp;exact hp.2) (by simpa using az) (λi ak=>by simpa using h (i+1) (by simpa using ak));rw[af,ah]
end
def cH {α:Type} (R:cD->α->Prop) (P:bB) (φ:cD) (A:bx) (w:aG) (s:Sem α) (bK:bx):Prop:=
 ∃dI w' a,s.run P w= .ok a w'/\R dI a/\db φ A w dI bK w'
theorem cH.pure_run {α:Type} {R:cD->α->Prop} {P:bB} {φ:cD} {A:bx} {w:aG} (ar:cB φ A w) {s:Sem α} {a:α} (h:bZ P s=some a) (me:R φ a):cH R P φ A w s A:=
 ⟨φ,w,a,kM h w,me,db.refl ar⟩
theorem cH.bind {α qv:Type} {R:cD->α->Prop} {S:cD->qv->Prop} {P:bB} {φ:cD} {A cg gP:bx} {w:aG} (ar:cB φ A w) {s:Sem α} {k:α->Sem qv} (h:cH R P φ A w s cg)
  (ao:∀hO w1 a,cB hO cg w1->(∀b e,φ b=some e->hO b=some e)->R hO a->cH S P hO cg w1 (k a) gP):cH S P φ A w (s >>= k) gP:=by
 obtain⟨hO,w1,a,af,ah,aH⟩:=h;obtain⟨gf,w2,b,g1,g2,g3⟩:=ao hO w1 a aH.rel (aH.ext ar) ah;exact⟨gf,w2,b,by rw[Sem.run_bind,af];exact g1,g2,db.trans ar aH g3⟩
theorem cH.map {α qv:Type} {R:cD->α->Prop} {S:cD->qv->Prop} {P:bB} {φ:cD} {A cg:bx} {w:aG} {s:Sem α} {f:α->qv} (h:cH R P φ A w s cg) (bn:∀φ a,R φ a->S φ (f a)):cH S P φ A w (s >>= λa=>pure (f a)) cg:=by
 obtain⟨hO,w1,a,af,ah,aH⟩:=h;exact⟨hO,w1,f a,by rw[Sem.run_bind,af];rfl,bn _ _ ah,aH⟩
theorem cH.pre {α qv:Type} {S:cD->qv->Prop} {P:bB} {φ:cD} {A gP:bx} {w:aG} {s:Sem α} {a:α} {k:α->Sem qv} (h:bZ P s=some a) (ao:cH S P φ A w (k a) gP):cH S P φ A w (s >>= k) gP:=by
 obtain⟨gf,w2,b,g1,g2,g3⟩:=ao;exact⟨gf,w2,b,by rw[Sem.run_bind,kM h w];exact g1,g2,g3⟩
theorem cH.ret {α:Type} {R:cD->α->Prop} {P:bB} {φ:cD} {A:bx} {w:aG} (ar:cB φ A w) {a:α} (me:R φ a):cH R P φ A w (pure a) A:=⟨φ,w,a,rfl,me,db.refl ar⟩
abbrev iO (v:ad):cD->ad->Prop:=λφ v'=>aM φ v v'
abbrev iY (l:List ad):cD->Array ad->Prop:=λφ a=>a.size=l.length/\∀j,j<l.length->aM φ (l.getD j undef) (a.getD j undef)
section
variable {P:bB} {φ:cD} {A bK:bx} {w:aG}
theorem SX (ar:cB φ A w) {b off n:Nat} {a8:List ad} {e:iJ} (h:A.tj b off n=some a8) (he:φ b=some e):cH (iY a8) P φ A w (loadCells ⟨e.bJ,e.sh+off,none⟩ n) A:=by
 obtain⟨dC,af,ah,aH⟩:=Fa ar P h he;exact⟨φ,w,dC,af,⟨ah,aH⟩,db.refl ar⟩
def Dc (P:bB) (A:bx) (t:bq):ad->Option ad
 | .pointer (some ⟨b,off,none⟩)=>match bZ P (isAgg t) with
   |some true=>match bZ P (sizeOf t) with
    |some n=>(A.tj b off n).map λl=> .agg ⟨l⟩
    |none=>none
   |some false=>A.load b off
   |none=>none
 |_=>none
theorem Z9 (ar:cB φ A w) {t:bq} {p p' v:ad} (hp:aM φ p p') (h:Dc P A t p=some v):cH (iO v) P φ A w (Instr.loadAt t p') A:=by
 unfold Dc at h;split at h
 ·rename_i b off
  cases hp with
  |ptr he=>
   unfold Instr.loadAt;refine cH.pre (a:=(⟨_,_,none⟩:Addr)) rfl ?_;unfold loadVar;cases rI:bZ P (isAgg t) with
   |none=>rw[rI] at h;cases h
   |some qU=>
    rw[rI] at h;refine cH.pre rI ?_;cases qU with
    |false=>
     simp only at h;obtain⟨v',af,ah⟩:=wg ar h he;refine⟨φ,w,v',?_,ah,db.refl ar⟩;simp [Go.load,Sem.run,af]
    |true=>
     simp only at h;cases dV:bZ P (sizeOf t) with
     |none=>rw[dV] at h;cases h
     |some n=>
      rw[dV] at h;simp only at h;obtain⟨l,az,rfl⟩:=Option.map_eq_some_iff.1 h;simp only [if_true];refine cH.pre dV ?_;refine cH.map (SX ar az he) λφ a ⟨af,ah⟩=> ?_
      exact .agg _ _ (by simp [af]) λi ak=>by simpa using ah i (by simpa using ak)
 ·cases h
def LY (P:bB) (A:bx) (t:bq) (v:ad):ad->Option bx
 | .pointer (some ⟨b,off,none⟩)=>match cellsOf v,bZ P (sizeOf t) with
   |some l,some n=>bif Nat.beq l.length n then A.sd b off l else none
   |_,_=>none
 |_=>none
theorem Z' (ar:cB φ A w) {t:bq} {b off:Nat} {e:iJ} {v v':ad} (he:φ b=some e) (aR:aM φ v v') {l:List ad} {n:Nat} (az:cellsOf v=some l) (aT:bZ P (sizeOf t)=some n)
  (akB:l.length=n) (h:A.sd b off l=some bK):cH (λ_ _=>True) P φ A w (storeVar t ⟨e.bJ,e.sh+off,none⟩ v') bK:=by
 obtain⟨fP,ew⟩:=aR.cells az;unfold storeVar;refine cH.pre aT ?_;rw[aV aj];obtain⟨w',af,ah⟩:=C_ P he l A bK w off 0 v'.cells.toList ar h (by simpa using fP.symm) (λj aq=>by
  have:=ew j aq;simp only [gd] at this
  simpa [eP] using this)
 refine⟨φ,w',(),?_,trivial,ah⟩;simpa using af
theorem Z_ (ar:cB φ A w) {t:bq} {p p' v v':ad} (hp:aM φ p p') (aR:aM φ v v') (h:LY P A t v p=some bK):cH (λ_ _=>True) P φ A w (Instr.storeAt t p' v') bK:=by
 unfold LY at h;split at h
 ·rename_i b off
  split at h
  ·rename_i l n az aT
   cases ai:Nat.beq l.length n with
   |false=>rw[ai] at h;cases h
   |true=>
    rw[ai,cN] at h;cases hp with
    |ptr he=>
     unfold Instr.storeAt;refine cH.pre (a:=(⟨_,_,none⟩:Addr)) rfl ?_;exact Z' ar he aR az aT (ep ai) h
  ·cases h
 ·cases h
def IT (A:bx) (t:bq) (v:ad):Option (ad×bx):=
 match cellsOf v with
 |some l=>match A.push (.cells l) 0 t with
  |some (r,cg)=>some (.pointer (some ⟨r,0,none⟩),cg)
  |none=>none
 |none=>none
theorem SY (ar:cB φ A w) {t:bq} {v v' p:ad} (aR:aM φ v v') (h:IT A t v=some (p,bK)):cH (iO p) P φ A w (do pure (.pointer (some (<-newVar t v')))) bK:=by
 unfold IT at h;cases az:cellsOf v with
 |none=>rw[az] at h;cases h
 |some l=>
  rw[az] at h;simp only at h;cases hp:A.push (.cells l) 0 t with
  |none=>rw[hp] at h;cases h
  |some q=>
   obtain⟨r,cg⟩:=q;rw[hp] at h;simp only [dL,Prod.mk.injEq] at h;obtain⟨rfl,rfl⟩:=h;obtain⟨fP,ew⟩:=aR.cells az;obtain⟨dI,w',af,ah,aH,_⟩:=Db ar P t hp (Nat.le_of_eq fP) (λ_=>fP) ew;refine⟨dI,w',_,by rw[Sem.run_bind,newVar,af];rfl,?_,aH⟩;have:=aM.ptr (φ:=dI) (b:=r) (o:=0) ah;simpa using this
def LZ (P:bB) (A:bx) (t:bq):Option (ad×bx):=
 match bZ P (zeroValue t) with
 |some z=>bif plain z then IT A t z else none
 |none=>none
theorem aac (ar:cB φ A w) {t:bq} {p old:ad} (h:LZ P A t=some (p,bK)):cH (iO p) P φ A w (Instr.alloc t true old) bK:=by
 unfold LZ at h;cases de:bZ P (zeroValue t) with
 |none=>rw[de] at h;cases h
 |some z=>
  rw[de] at h;simp only at h;cases hp:plain z with
  |false=>rw[hp] at h;cases h
  |true=>
   rw[hp,cN] at h;unfold Instr.alloc;refine cH.pre de ?_;exact SY ar (aM.lv φ z hp) h
def Fe (P:bB) (s:bq) (f:Nat):ad->Option ad
 | .pointer (some ⟨b,off,none⟩)=>match bZ P (underlying s) with
   |some (.struct fields)=>match fields[f]? with
    |some kV=>match bZ P (sizeOf kV.type) with
     |some n=>bif n==0 then none else some (.pointer (some ⟨b,off+kV.offset,none⟩))
     |none=>none
    |none=>none
   |_=>none
 |_=>none
theorem SZ {s:bq} {f:Nat} {p p' v:ad} (hp:aM φ p p') (h:Fe P s f p=some v):∃v',(∀w,(Instr.fieldAt s p' f).run P w= .ok v' w)/\aM φ v v':=by
 unfold Fe at h;split at h
 ·rename_i b off
  split at h
  ·rename_i fields hu
   split at h
   ·rename_i kV bn
    split at h
    ·rename_i n aT
     cases bd:(n==0) with
     |true=>rw[bd] at h;cases h
     |false=>
      rw[bd,fI,dL] at h;subst h;cases hp with
      |ptr he=>
       rename_i e;refine⟨.pointer (some ⟨e.bJ,e.sh+(off+kV.offset),none⟩),λw=> ?_,.ptr he⟩;unfold Instr.fieldAt;have dU:n≠0:=by simpa using bd
       rw[Sem.run_bind,kM hu w];simp only [Result.andThen_ok,bn];rw[Sem.run_bind];have bs:(Instr.sureAddr (.pointer (some ⟨e.bJ,e.sh+off,none⟩))).run P w= .ok ⟨e.bJ,e.sh+off,none⟩ w:=rfl;rw[bs];unfold fieldPlace;simp only [Sem.run_bind,kM aT w,Result.andThen_ok,aV dU,Addr.ly];rw[Nat.add_assoc];rfl
    ·cases h
   ·cases h
  ·cases h
 ·cases h
theorem aad (ar:cB φ A w) {s:bq} {f:Nat} {p p' v:ad} (hp:aM φ p p') (h:Fe P s f p=some v):cH (iO v) P φ A w (Instr.fieldAt s p' f) A:=by
 obtain⟨v',af,ah⟩:=SZ hp h;exact⟨φ,w,v',af w,ah,db.refl ar⟩
def Ff (P:bB) (t:bq) (x:ad) (i:ad):Option ad:=
 match i with
 | .int _ i=>match bZ P (underlying t),x with
   |some (.array len elem),.pointer (some ⟨b,off,none⟩)=>match bZ P (sizeOf elem) with
    |some n=>bif decide (0<=i)&&decide (i<(len:Int)) then some (.pointer (some ⟨b,off+i.toNat*n,none⟩)) else none
    |none=>none
   |some (.slice elem),.slice (some ⟨b,off,none⟩) len _=>match bZ P (sizeOf elem) with
    |some n=>bif decide (0<=i)&&decide (i<(len:Int)) then some (.pointer (some ⟨b,off+i.toNat*n,none⟩)) else none
    |none=>none
   |_,_=>none
 |_=>none
theorem S0 {t:bq} {x x' i v:ad} (aw:aM φ x x') (h:Ff P t x i=some v):∃v',(∀w,(Instr.indexAt t x' i).run P w= .ok v' w)/\aM φ v v':=by
 unfold Ff at h;split at h
 ·rename_i k i
  unfold Instr.indexAt;have b4:∀w,(asIntOf (.int k i)).run P w= .ok (k,i) w:=λw=>rfl
  have bs:∀w,∀a:Addr,(pure a:Sem Addr).run P w= .ok a w:=λ_ _=>rfl
  split at h
  ·rename_i len elem b off hu
   split at h
   ·rename_i n aT
    cases ai:(decide (0<=i)&&decide (i<(len:Int))) with
    |false=>rw[ai] at h;cases h
    |true=>
     rw[ai,cN,dL] at h;subst h;have xE:0<=i/\i<(len:Int):=by simpa using ai
     cases aw with
     |ptr he=>
      rename_i e;refine⟨.pointer (some ⟨e.bJ,e.sh+(off+i.toNat*n),none⟩),λw=> ?_,.ptr he⟩;simp only [Sem.run_bind,b4,kM hu w,Result.andThen_ok,Instr.sureAddr];simp [xE,kM aT w,kM hu w,Addr.ly,Nat.add_assoc,bs]
   ·cases h
  ·rename_i elem b off len cap hu
   split at h
   ·rename_i n aT
    cases ai:(decide (0<=i)&&decide (i<(len:Int))) with
    |false=>rw[ai] at h;cases h
    |true=>
     rw[ai,cN,dL] at h;subst h;have xE:0<=i/\i<(len:Int):=by simpa using ai
     cases aw with
     |jk mr c' he=>
      rename_i e;refine⟨.pointer (some ⟨e.bJ,e.sh+(off+i.toNat*n),none⟩),λw=> ?_,.ptr he⟩;simp [b4,xE,kM aT w,kM hu w,Addr.ly,Nat.add_assoc]
     |jl mr fP ew he q1 aI bS=>
      rename_i e;refine⟨.pointer (some ⟨e.bJ,e.sh+(off+i.toNat*n),none⟩),λw=> ?_,.ptr he⟩;simp [b4,xE,kM aT w,kM hu w,Addr.ly,Nat.add_assoc]
     |jI=>omega
   ·cases h
  ·cases h
 ·cases h
theorem aae (ar:cB φ A w) {t:bq} {x x' i v:ad} (aw:aM φ x x') (h:Ff P t x i=some v):cH (iO v) P φ A w (Instr.indexAt t x' i) A:=by
 obtain⟨v',af,ah⟩:=S0 aw h;exact⟨φ,w,v',af w,ah,db.refl ar⟩
end
end a1
namespace a1
variable [bp]
omit [bp] in
theorem uc {α qv:Type} (P:bB) (s:Sem α) (k:α->Sem qv):bZ P (s >>= k)=(bZ P s).bind λa=>bZ P (k a):=by
 show bZ P (s.bind k)=_
 induction s with
 |pure a=>rfl
 |program f eJ=>exact eJ P
 |mark m s eJ=>exact eJ
 |_=>rfl
omit [bp] in
theorem Fg {α:Type} (P:bB) (a:α):bZ P (pure a:Sem α)=some a:=rfl
section
variable {P:bB} {φ:cD} {A bK:bx} {w:aG}
def IU (P:bB) (t:bq) (cs:List ad) (off:Nat):Option ad:=
 match bZ P (isAgg t) with
 |some true=>match bZ P (sizeOf t) with
  |some n=>some (.agg ⟨(cs.drop off).take n⟩)
  |none=>none
 |some false=>cs[off]?
 |none=>none
theorem S1 (ar:cB φ A w) {t:bq} {cs:List ad} {cs':Array ad} {off:Nat} {v:ad} (aA:iY cs φ cs') (h:IU P t cs off=some v):cH (iO v) P φ A w (part t cs' off) A:=by
 obtain⟨az,aR⟩:=aA;unfold IU at h;unfold part;cases rI:bZ P (isAgg t) with
 |none=>rw[rI] at h;cases h
 |some qU=>
  rw[rI] at h;refine cH.pre rI ?_;cases qU with
  |false=>
   simp only at h;obtain⟨c_,Da⟩:=List.getElem?_eq_some_iff.1 h;have wk:off<cs'.size:=by omega
   refine⟨φ,w,cs'[off],by simp [wk,Sem.run,pure],?_,db.refl ar⟩;have:=aR off c_;rw[eP,h] at this;simpa [wk] using this
  |true=>
   simp only at h;cases dV:bZ P (sizeOf t) with
   |none=>rw[dV] at h;cases h
   |some n=>
    rw[dV] at h;simp only [dL] at h;subst h;simp only [if_true];refine cH.pre dV (cH.ret ar (.agg _ _ (by simp [az];omega) λi ak=> ?_));simp at ak;have:=aR (off+i) aj;simp only [gd,eP,Array.getElem?_extract] at this ⊢;rw[aP aj,List.getElem?_toArray,List.getElem?_take,aP aj,List.getElem?_drop];exact this
def L0 (P:bB) (s:bq) (x:ad) (f:Nat):Option ad:=
 match x,bZ P (underlying s) with
 | .agg ⟨cs⟩,some (.struct fields)=>match fields[f]? with
   |some kV=>IU P kV.type cs kV.offset
   |none=>none
 |_,_=>none
theorem aaf (ar:cB φ A w) {s:bq} {f:Nat} {x x' v:ad} (aw:aM φ x x') (h:L0 P s x f=some v):cH (iO v) P φ A w (Instr.field s x' f) A:=by
 unfold L0 at h;split at h
 ·rename_i cs fields hu
  split at h
  ·rename_i kV bn
   cases aw with
   |agg Fh cs' af ah=>
    unfold Instr.field;refine cH.pre hu ?_;simp only [bn];refine cH.pre (a:=cs') rfl ?_;exact S1 ar ⟨by simpa using af.symm,λj aq=>by simpa using ah j (by simpa using aq)⟩ h
  ·cases h
 ·cases h
def L1 (P:bB) (t:bq) (x i:ad):Option ad:=
 match x,i,bZ P (underlying t) with
 | .agg ⟨cs⟩,.int _ i,some (.array len elem)=>match bZ P (sizeOf elem) with
   |some n=>bif decide (0<=i)&&decide (i<(len:Int)) then IU P elem cs (i.toNat*n) else none
   |none=>none
 |_,_,_=>none
theorem aag (ar:cB φ A w) {t:bq} {x x' i v:ad} (aw:aM φ x x') (h:L1 P t x i=some v):cH (iO v) P φ A w (Instr.index t x' i) A:=by
 unfold L1 at h;split at h
 ·rename_i cs k i len elem hu
  split at h
  ·rename_i n aT
   cases ai:(decide (0<=i)&&decide (i<(len:Int))) with
   |false=>rw[ai] at h;cases h
   |true=>
    rw[ai,cN] at h;have xE:0<=i/\i<(len:Int):=by simpa using ai
    cases aw with
    |agg Fh cs' af ah=>
     unfold Instr.index;refine cH.pre (a:=(k,i)) rfl ?_;simp only;refine cH.pre hu ?_;simp only [aP xE];refine cH.pre aT ?_;exact S1 ar ⟨by simpa using af.symm,λj aq=>by simpa using ah j (by simpa using aq)⟩ h
  ·cases h
 ·cases h
def L2:ad->Nat->Option ad
 | .tuple ⟨cs⟩,i=>cs[i]?
 |_,_=>none
theorem aah (ar:cB φ A w) {x x' v:ad} {i:Nat} (aw:aM φ x x') (h:L2 x i=some v):cH (iO v) P φ A w (Instr.extract x' i) A:=by
 unfold L2 at h;split at h
 ·rename_i cs
  cases aw with
  |tuple Fh cs' af ah=>
   obtain⟨c_,_⟩:=List.getElem?_eq_some_iff.1 h;have S2:cs.length=cs'.size:=by simpa using af
   have wk:i<cs'.size:=by omega
   refine⟨φ,w,cs'[i],by simp [Instr.extract,wk,Sem.run,pure],?_,db.refl ar⟩;have:=ah i (by simpa using c_);simp only [gd,List.getElem?_toArray,h,Option.getD_some] at this;simpa [wk] using this
 ·cases h
theorem S3 (off:Nat):∀(l l':List ad) (k:Nat) (c c':Array ad),l.length=l'.length->(∀j,j<l.length->aM φ (l.getD j undef) (l'.getD j undef))->c.size=c'.size->(∀j,j<c.size->aM φ (c.getD j undef) (c'.getD j undef))->
  ((l.zipIdx k).foldl (λcs (x:ad×Nat)=>cs.setIfInBounds (off+x.2) x.1) c).size=((l'.zipIdx k).foldl (λcs (x:ad×Nat)=>cs.setIfInBounds (off+x.2) x.1) c').size/\
  ∀j,j<((l.zipIdx k).foldl (λcs (x:ad×Nat)=>cs.setIfInBounds (off+x.2) x.1) c).size->aM φ (((l.zipIdx k).foldl (λcs (x:ad×Nat)=>cs.setIfInBounds (off+x.2) x.1) c).getD j undef) (((l'.zipIdx k).foldl (λcs (x:ad×Nat)=>cs.setIfInBounds (off+x.2) x.1) c').getD j undef)
 |[],[],_,c,c',_,_,af,ah=>⟨af,ah⟩
 |[],_::_,_,_,_,h,_,_,_=>by simp at h
 |_::_,[],_,_,_,h,_,_,_=>by simp at h
 |v::r,v'::iA,k,c,c',az,aR,af,ah=>by
  simp only [List.zipIdx_cons,List.foldl_cons];refine S3 off r iA (k+1) _ _ (by simpa using az) (λj aq=>by simpa using aR (j+1) (by simpa using aq)) (by simpa using af) λj aq=> ?_
  have bd:aM φ v v':=by simpa using aR 0 (by simp)
  simp only [Array.size_setIfInBounds] at aq;have:=ah j aq;simp only [gd,Array.getElem?_setIfInBounds] at this ⊢;by_cases ao:off+k=j
  ·rw[aP ao,aP ao,aP aj,aP aj]
   exact bd
  ·rw[aV ao,aV ao]
   exact this
omit [bp] in
theorem S4 {v:ad} {l:List ad} (h:cellsOf v=some l):v.cells=⟨l⟩:=by
 cases v<;>simp_all [cellsOf,Value.cells]
 case complex k re akC=>cases k<;>simp_all
 case agg cs=>obtain⟨cs⟩:=cs;simp [cellsOf] at h;rw[h]
def S5 (φ:cD) (p p':Nat×ad):Prop:=p.1=p'.1/\(cellsOf p.2).isSome=true/\aM φ p.2 p'.2
theorem L3 (place:Nat->Option (Nat×Nat)):∀(ps L4:List (Nat×ad)) (c c' out:Array ad),ps.length=L4.length->(∀(j:Nat) (a b:Nat×ad),ps[j]? =some a->L4[j]? =some b->S5 φ a b)->c.size=c'.size->(∀j,j<c.size->aM φ (c.getD j undef) (c'.getD j undef))->
  Instr.fill place c ps=some out->∃va,Instr.fill place c' L4=some va/\out.size=va.size/\∀j,j<out.size->aM φ (out.getD j undef) (va.getD j undef)
 |[],[],c,c',out,_,_,af,ah,h=>by
  simp only [Instr.fill,dL] at h;subst h;exact⟨c',rfl,af,ah⟩
 |[],_::_,_,_,_,h,_,_,_,_=>by simp at h
 |_::_,[],_,_,_,h,_,_,_,_=>by simp at h
 |(i,v)::r,(xF,v')::iA,c,c',out,az,hp,af,ah,h=>by
  obtain⟨bs,cw,dD⟩:=hp 0 _ _ J J;simp only at bs cw dD;subst bs;obtain⟨l,rJ⟩:=Option.isSome_iff_exists.1 cw;obtain⟨fP,ew⟩:=dD.cells rJ;have Fi:v.cells=⟨l⟩:=S4 rJ;unfold Instr.fill at h ⊢;cases gH:place i with
  |none=>rw[gH] at h;cases h
  |some os=>
   obtain⟨off,size⟩:=os;rw[gH] at h;simp only at h ⊢;have hJ:v.cells.size=v'.cells.size:=by rw[Fi];simpa using fP
   split at h
   ·cases h
   ·rename_i aT
    rw[aV (by rw[<-hJ,<-af];exact aT)];have key:=S3 (φ:=φ) off l v'.cells.toList 0 c c' (by simpa using fP) (λj aq=>by simpa [gd,eP] using ew j aq) af ah;refine L3 place r iA _ _ out (by simpa using az) (λj a b cG ai=>hp (j+1) a b (by simpa using cG) (by simpa using ai)) ?_ ?_ h
    ·rw[Fi,<-Array.foldl_toList,<-Array.foldl_toList,Array.toList_zipIdx,Array.toList_zipIdx]
     exact key.1
    ·rw[Fi,<-Array.foldl_toList,<-Array.foldl_toList,Array.toList_zipIdx,Array.toList_zipIdx]
     exact key.2
def Fj (ps:Array (Nat×ad)):Bool:=ps.toList.all λp=>(cellsOf p.2).isSome
theorem S6 {ps:Array (Nat×Operand)} {ρ ρ':Operand->ad} (eh:∀p∈ps,aM φ (ρ p.2) (ρ' p.2)) (iB:Fj (ps.map λ(i,x)=>(i,ρ x))=true):
  ∀(j:Nat) (a b:Nat×ad),((ps.map λ(i,x)=>(i,ρ x)).toList)[j]? =some a->((ps.map λ(i,x)=>(i,ρ' x)).toList)[j]? =some b->S5 φ a b:=by
 intro j a b cG ai;have n4:=List.mem_of_getElem? cG;simp only [Array.toList_map,List.getElem?_map,yu] at cG ai;obtain⟨p,hp,rfl⟩:=cG;obtain⟨p',S7,rfl⟩:=ai;rw[hp] at S7;cases S7;refine⟨rfl,?_,eh p (by simpa using List.mem_of_getElem? hp)⟩;exact List.all_eq_true.1 iB _ n4
def L5 (P:bB) (t:bq) (parts:Array (Nat×ad)):Option ad:=
 bif Fj parts then
  match bZ P (zeroValue t) with
  |some z=>bif plain z&&(cellsOf z).isSome then
    match bZ P (underlying t) with
    |some (.struct fields)=>match bZ P (fields.mapM λf=>do pure (f.offset,<-sizeOf f.type)) with
     |some S8=>(Instr.fill (S8[·]?) z.cells parts.toList).map .agg
     |none=>none
    |some (.array _ elem)=>match bZ P (sizeOf elem) with
     |some size=>(Instr.fill (λi=>some (i*size,size)) z.cells parts.toList).map .agg
     |none=>none
    |_=>none
   else none
  |none=>none
 else none
theorem IV {z:ad} (h:plain z=true) (aA:(cellsOf z).isSome=true) (φ:cD):∀j,j<z.cells.size->aM φ (z.cells.getD j undef) (z.cells.getD j undef):=by
 obtain⟨l,az⟩:=Option.isSome_iff_exists.1 aA;obtain⟨af,ah⟩:=(aM.lv φ z h).cells az;intro j aq;have Fi:z.cells=⟨l⟩:=S4 az;have:=ah j aj;simp only [Fi] at this ⊢;simpa [gd,eP] using this
theorem aai (ar:cB φ A w) {t:bq} {ps:Array (Nat×Operand)} {ρ ρ':Operand->ad} {v:ad} (eh:∀p∈ps,aM φ (ρ p.2) (ρ' p.2)) (h:L5 P t (ps.map λ(i,x)=>(i,ρ x))=some v):
  cH (iO v) P φ A w (Instr.build t (ps.map λ(i,x)=>(i,ρ' x))) A:=by
 unfold L5 at h;cases iB:Fj (ps.map λ(i,x)=>(i,ρ x)) with
 |false=>rw[iB] at h;cases h
 |true=>
  rw[iB,cN] at h;have xG:=S6 eh iB;cases de:bZ P (zeroValue t) with
  |none=>rw[de] at h;cases h
  |some z=>
   rw[de] at h;simp only at h;cases mu:(plain z&&(cellsOf z).isSome) with
   |false=>rw[mu] at h;cases h
   |true=>
    rw[mu,cN] at h;simp only [fy] at mu;have tk:=IV mu.1 mu.2 φ;unfold Instr.build;refine cH.pre de ?_;simp only;have g_:∀(place:Nat->Option (Nat×Nat)),(Instr.fill place z.cells (ps.map λ(i,x)=>(i,ρ x)).toList).map Value.agg=some v->
      ∃va,Instr.fill place z.cells (ps.map λ(i,x)=>(i,ρ' x)).toList=some va/\aM φ v (.agg va):=by
     intro place bn;obtain⟨out,bW,rfl⟩:=Option.map_eq_some_iff.1 bn;obtain⟨va,g1,g2,g3⟩:=L3 place _ _ _ _ out (by simp) xG rfl tk bW;exact⟨va,g1,.agg _ _ g2 g3⟩
    split at h
    ·rename_i fields hu
     refine cH.pre hu ?_;simp only;split at h
     ·rename_i S8 gH
      refine cH.pre gH ?_;obtain⟨va,g1,g2⟩:=g_ _ h;simp only [g1];exact cH.ret ar g2
     ·cases h
    ·rename_i n elem hu
     refine cH.pre hu ?_;simp only;split at h
     ·rename_i size dV
      refine cH.pre dV ?_;obtain⟨va,g1,g2⟩:=g_ _ h;simp only [g1];exact cH.ret ar g2
     ·cases h
    ·cases h
def L6 (P:bB) (A:bx) (t:bq) (len:Nat) (parts:Array (Nat×ad)):Option (ad×bx):=
 bif Fj parts then
  match bZ P (underlying t) with
  |some (.slice elem)=>match bZ P (sizeOf elem) with
   |some size=>bif Nat.blt 0 (len*size)&&Nat.ble (len*size) 16777216 then
     match bZ P (zeroValue elem) with
     |some z=>bif plain z&&(cellsOf z).isSome&&Nat.blt 0 z.cells.size then
       match Instr.fill (λi=>some (i*size,size)) ((Array.range (len*size)).map (z.cells[· %z.cells.size]!)) parts.toList with
       |some out=>match A.push (.cells out.toList) 0 elem with
        |some (r,cg)=>some (.slice (some ⟨r,0,none⟩) len len,cg)
        |none=>none
       |none=>none
      else none
     |none=>none
    else none
   |none=>none
  |_=>none
 else none
theorem aaj (ar:cB φ A w) {t:bq} {len:Nat} {ps:Array (Nat×Operand)} {ρ ρ':Operand->ad} {v:ad} (eh:∀p∈ps,aM φ (ρ p.2) (ρ' p.2)) (h:L6 P A t len (ps.map λ(i,x)=>(i,ρ x))=some (v,bK)):
  cH (iO v) P φ A w (Instr.buildSlice t len (ps.map λ(i,x)=>(i,ρ' x))) bK:=by
 unfold L6 at h;cases iB:Fj (ps.map λ(i,x)=>(i,ρ x)) with
 |false=>rw[iB] at h;cases h
 |true=>
  rw[iB,cN] at h;have xG:=S6 eh iB;split at h
  ·rename_i elem hu
   split at h
   ·rename_i size dV
    cases ai:(Nat.blt 0 (len*size)&&Nat.ble (len*size) 16777216) with
    |false=>rw[ai] at h;cases h
    |true=>
     rw[ai,cN] at h;simp only [fy] at ai;have nf:=Nat.blt_eq.mp ai.1;have jb:=Nat.ble_eq.mp ai.2;split at h
     ·rename_i z de
      cases mu:(plain z&&(cellsOf z).isSome&&Nat.blt 0 z.cells.size) with
      |false=>rw[mu] at h;cases h
      |true=>
       rw[mu,cN] at h;simp only [fy] at mu;have tl:=Nat.blt_eq.mp mu.2;have tk:=IV mu.1.1 mu.1.2 φ;split at h
       ·rename_i out bW
        split at h
        ·rename_i r cg hp
         simp only [dL,Prod.mk.injEq] at h;obtain⟨rfl,rfl⟩:=h;unfold Instr.buildSlice;refine cH.pre hu ?_;simp only;refine cH.pre dV ?_;rw[aV aj];rw[aV aj];have yy:∀j,j<((Array.range (len*size)).map (z.cells[· %z.cells.size]!)).size->aM φ (((Array.range (len*size)).map (z.cells[· %z.cells.size]!)).getD j undef) (((Array.range (len*size)).map (z.cells[· %z.cells.size]!)).getD j undef):=by
          intro j aq;simp at aq;have hm:=Nat.mod_lt j tl;have:=tk (j%z.cells.size) hm;simp only [gd] at this ⊢;simpa [aq,hm,getElem!_pos] using this
         obtain⟨va,g1,g2,g3⟩:=L3 (φ:=φ) (λi=>some (i*size,size)) _ _ _ _ out (by simp) xG rfl yy bW;refine cH.pre de ?_;refine cH.pre (a:=z.cells) rfl ?_;simp only [g1];obtain⟨dI,w',q1,aI,bS,_⟩:=Db ar P elem hp (c':=va) (by simpa using Nat.le_of_eq g2) (λ_=>by simpa using g2) (λj aq=>by
          have:=g3 j (by simpa using aq);simp only [gd] at this
          simpa [eP] using this)
         refine⟨dI,w',.slice (some ⟨w.heap.size,0,none⟩) len len,by rw[Sem.run_bind,q1];rfl,?_,bS⟩;have:=aM.jk (φ:=dI) (b:=r) (o:=0) len len aI;simpa using this
        ·cases h
       ·cases h
     ·cases h
   ·cases h
  ·cases h
def L7 (P:bB) (A:bx) (t:bq):Option (ad×bx):=
 match bZ P (underlying t) with
 |some (.slice elem)=>match bZ P (sizeOf elem) with
  |some _=>match A.push (.cells []) 0 elem with
   |some (r,cg)=>some (.slice (some ⟨r,0,none⟩) 0 0,cg)
   |none=>none
  |none=>none
 |_=>none
theorem aak (ar:cB φ A w) {t:bq} {v:ad} (h:L7 P A t=some (v,bK)):cH (iO v) P φ A w (Instr.buildSlice t 0 #[]) bK:=by
 unfold L7 at h;split at h
 ·rename_i elem hu
  split at h
  ·rename_i size dV
   split at h
   ·rename_i r cg hp
    simp only [dL,Prod.mk.injEq] at h;obtain⟨rfl,rfl⟩:=h;unfold Instr.buildSlice;refine cH.pre hu ?_;simp only;refine cH.pre dV ?_;rw[aV aj,aP aj];refine cH.pre (a:=(#[]:Array ad)) rfl ?_;obtain⟨dI,w',q1,aI,bS,_⟩:=Db ar P (c':= #[]) elem hp (by simp) (λ_=>by simp) (λj aq=>by simp at aq);have e:((Array.range (0*size)).map ((#[]:Array ad)[· %(#[]:Array ad).size]!))= #[]:=by simp
    rw[e];simp only [Instr.fill];refine⟨dI,w',.slice (some ⟨w.heap.size,0,none⟩) 0 0,by rw[Sem.run_bind,q1];rfl,?_,bS⟩;have:=aM.jk (φ:=dI) (b:=r) (o:=0) 0 0 aI;simpa using this
   ·cases h
  ·cases h
 ·cases h
end
end a1
namespace a1
variable [bp]
def bx.IW (A:bx) (b pos st:Nat) (ty:bq) (c:List ad):Option (Nat×bx):=
 match A.bl.get b with
 |some k=>match k.obj,A.mem.get k.dG with
  | .cells _,some l=>bif k.ro||bne k.ty ty then none else
    match cK.set {obj:= .cells c,dG:=k.dG,pos:=pos,fO:=st,ro:=false,ty:=ty:iX} depth A.bl A.n,cK.set (A.n::l) depth A.mem k.dG with
    |some bl,some mem=>some (A.n,{bl,mem,n:=A.n+1,low:=l.foldl Nat.min A.low})
    |_,_=>none
  |_,_=>none
 |none=>none
omit [bp] in
theorem L8 {A bK:bx} {b pos st:Nat} {ty:bq} {c:List ad} {r:Nat} (h:A.IW b pos st ty c=some (r,bK)) (wc:Bc A):
  ∃k eN l,A.bl.get b=some k/\k.obj= .cells eN/\k.ro=false/\k.ty=ty/\A.mem.get k.dG=some l/\r=A.n/\Bc bK/\bK.n=A.n+1/\bK.low<=A.low/\(∀m∈l,bK.low<=m)/\
   (∀j,bK.bl.get j=if j=A.n then some {obj:= .cells c,dG:=k.dG,pos:=pos,fO:=st,ro:=false,ty:=ty} else A.bl.get j):=by
 unfold bx.IW at h;cases ao:A.bl.get b with
 |none=>rw[ao] at h;cases h
 |some k=>
  rw[ao] at h;obtain⟨u7,dG,akD,akE,ro,aal⟩:=k;simp only at h;cases u7 with
  |map es fA=>cases h
  |hV x=>cases h
  |cells eN=>
   cases hm:A.mem.get dG with
   |none=>rw[hm] at h;cases h
   |some l=>
    rw[hm] at h;simp only at h;cases aA:(ro||bne aal ty) with
    |true=>rw[aA] at h;cases h
    |false=>
     rw[aA,fI] at h;simp only [Bool.or_eq_false_iff,bne_eq_false_iff_eq] at aA;obtain⟨rfl,rfl⟩:=aA;split at h
     ·rename_i bl mem ai wh
      simp only [dL,Prod.mk.injEq] at h;obtain⟨rfl,rfl⟩:=h;have wb:=λb=>cK.pq _ _ _ _ _ b ai
      have C8:=λb=>cK.pq _ _ _ _ _ b wh
      obtain⟨f1,f2⟩:=IM l A.low;have pt:=wc.u6 b _ ao;refine⟨_,eN,l,rfl,rfl,rfl,rfl,hm,rfl,⟨?_,?_,?_,?_⟩,rfl,f1,f2,wb⟩
      ·intro j cU aq
       simp only at aq ⊢;rw[wb] at aq;split at aq
       ·omega
       ·have:=wc.lt j cU aq;omega
      ·intro j cU aq
       simp only at aq ⊢ pt;rw[wb] at aq;split at aq
       ·cases aq;simp only;omega
       ·have:=wc.u6 j cU aq;omega
      ·intro j cU aq
       simp only at aq ⊢;rw[wb] at aq;split at aq
       ·rename_i wj
        cases aq;exact⟨_,by rw[C8,aP rfl],by simp [wj]⟩
       ·obtain⟨l',iM,lL⟩:=wc.mem j cU aq
        by_cases bn:cU.dG=dG
        ·rw[bn,hm] at iM
         cases iM;exact⟨_,by rw[C8,aP bn],List.mem_cons_of_mem _ lL⟩
        ·exact⟨l',by rw[C8,aV bn];exact iM,lL⟩
      ·intro j cU gG eM aq h4 bn
       simp only at aq h4;rw[wb] at aq h4;split at aq
       ·cases aq
        split at h4
        ·cases h4;rfl
        ·have:=wc.wa b _ gG eM ao h4 bn
         exact this
       ·split at h4
        ·cases h4
         have:=wc.wa j cU b _ aq ao bn;exact this
        ·exact wc.wa j cU gG eM aq h4 bn
     ·cases h
theorem S9 {φ:cD} {A bK:bx} {w w':aG} (ar:cB φ A w) {b pos st:Nat} {ty:bq} {c:List ad} {r:Nat} {e:iJ} (h:A.IW b pos st ty c=some (r,bK)) (eA:e.fO=st)
  (hw:(e.bJ=w.heap.size/\∃o,w'={w with heap:=w.heap.push o})\/(w'=w/\∃b4 k,φ b=some b4/\A.bl.get b=some k/\e.bJ=b4.bJ/\e.sh+k.pos=b4.sh+pos))
  (bW:∀k,A.bl.get b=some k->gL (ij φ r e) w' e {obj:= .cells c,dG:=k.dG,pos:=pos,fO:=st,ro:=false,ty:=ty}):
  db φ A w (ij φ r e) bK w':=by
 obtain⟨k,eN,l,ao,gF,ih,hty,n4,rfl,wc,aT,n3,IN,hz⟩:=L8 h ar.wf;have bW:=bW k ao;have hold:∀b bs,φ b=some bs->ij φ A.n e b=some bs:=λb bs ai=>by
  unfold ij;rw[aV (by have:=ar.lt ai;omega)];exact ai
 have tg:∀i,i<w.heap.size->w'.heap[i]? =w.heap[i]? :=λi ak=>by
  rcases hw with ⟨_,o,rfl⟩|⟨rfl,_⟩
  ·show (w.heap.push o)[i]? =_
   rw[Array.getElem?_push,aV aj]
  ·rfl
 have dV:w.heap.size<=w'.heap.size:=by
  rcases hw with ⟨_,o,rfl⟩|⟨rfl,_⟩
  ·simp
  ·exact c4 _
 have xH:w'.os=w.os/\w'.tape=w.tape/\w'.output=w.output:=by
  rcases hw with ⟨_,o,rfl⟩|⟨rfl,_⟩<;>exact⟨rfl,rfl,rfl⟩
 have nA:∀j bs,ij φ A.n e j=some bs->(j=A.n/\bs=e)\/(j≠A.n/\φ j=some bs):=λj bs ai=>by
  unfold ij at ai;split at ai
  ·rename_i h;cases ai;exact .inl ⟨h,rfl⟩
  ·rename_i h;exact .inr ⟨h,ai⟩
 have t_:b∈l:=by
  obtain⟨l',iM,fB⟩:=ar.wf.mem b k ao;rw[n4] at iM;cases iM;exact fB
 have IX:∀j g' cU,φ j=some g'->A.bl.get j=some cU->(k.dG≠cU.dG->e.bJ≠g'.bJ)/\(k.dG=cU.dG->e.bJ=g'.bJ->e.sh+cU.pos=g'.sh+pos):=by
  intro j g' cU aq iU;rcases hw with ⟨he,_⟩|⟨_,b4,k',zU,eG,kL,u_⟩
  ·obtain⟨_,_,_,ah⟩:=ar.fi j g' aq
   have:=ah.lt;exact⟨λ_=>by omega,λ_ _=>by omega⟩
  ·rw[ao] at eG;cases eG
   refine⟨λdU=> ?_,λbn ai=> ?_⟩
   ·rw[kL];exact ar.apart b b4 k j g' cU zU aq ao iU dU
   ·have:=ar.along b b4 k j g' cU zU aq ao iU bn (by rw[<-kL];exact ai)
    omega
 refine {rel:=⟨wc,?_,?_,?_,λi o ak=>by
   obtain⟨af,ah⟩:=ar.dz i o ak;have c_:i<w.heap.size:=(Array.getElem?_eq_some_iff.1 af).1;refine⟨by rw[tg i c_];exact af,λj bs aq=> ?_⟩;rcases nA j bs aq with ⟨rfl,rfl⟩|⟨_,aq⟩
   ·rcases hw with ⟨he,_⟩|⟨_,b4,k',zU,eG,kL,u_⟩
    ·omega
    ·rw[kL];exact ah b b4 zU
   ·exact ah j bs aq⟩,fi:= ?_,tf:= ?_,new:= ?_,rF:=by omega,low:=n3,same:= ?_,ro:= ?_,keep:= ?_,hH:=dV,os:=xH.1,tape:=xH.2.1,output:=xH.2.2,drawn:=c4 _}
 ·intro j bs ai
  rcases nA j bs ai with ⟨rfl,rfl⟩|⟨dU,ai⟩
  ·exact⟨_,by rw[hz,aP rfl],eA,bW⟩
  ·obtain⟨cU,iU,af,ah⟩:=ar.fi j bs ai
   exact⟨cU,by rw[hz,aV dU];exact iU,af,ah.mono hold (tg _ ah.lt)⟩
 ·intro j bs cU gG pZ eM ai fB oB p0 dU
  rw[hz] at oB p0;rcases nA j bs ai with ⟨rfl,rfl⟩|⟨iL,ua⟩
  ·rcases nA gG pZ fB with ⟨rfl,rfl⟩|⟨lk,sb⟩
   ·rw[aP rfl] at oB p0;cases oB;cases p0;exact absurd rfl dU
   ·rw[aP rfl] at oB;rw[aV lk] at p0;cases oB
    exact(IX gG pZ eM sb p0).1 dU
  ·rcases nA gG pZ fB with ⟨rfl,rfl⟩|⟨lk,sb⟩
   ·rw[aP rfl] at p0;rw[aV iL] at oB;cases p0
    exact Ne.symm ((IX j bs cU ua oB).1 (Ne.symm dU))
   ·rw[aV iL] at oB;rw[aV lk] at p0
    exact ar.apart j bs cU gG pZ eM ua sb oB p0 dU
 ·intro j bs cU gG pZ eM ai fB oB p0 pt kL
  rw[hz] at oB p0;rcases nA j bs ai with ⟨rfl,rfl⟩|⟨iL,ua⟩
  ·rcases nA gG pZ fB with ⟨rfl,rfl⟩|⟨lk,sb⟩
   ·rw[aP rfl] at oB p0;cases oB;cases p0;rfl
   ·rw[aP rfl] at oB;rw[aV lk] at p0;cases oB
    exact(IX gG pZ eM sb p0).2 pt kL
  ·rcases nA gG pZ fB with ⟨rfl,rfl⟩|⟨lk,sb⟩
   ·rw[aP rfl] at p0;rw[aV iL] at oB;cases p0
    exact((IX j bs cU ua oB).2 pt.symm kL.symm).symm
   ·rw[aV iL] at oB;rw[aV lk] at p0
    exact ar.along j bs cU gG pZ eM ua sb oB p0 pt kL
 ·intro j aq
  unfold ij;rw[aV aj]
 ·intro j af ah
  have:j=A.n:=by omega
  subst this;simp [ij]
 ·intro j bs af ai
  rcases nA j bs ai with ⟨rfl,rfl⟩|⟨iL,ai⟩
  ·rcases hw with ⟨he,_⟩|⟨_,b4,k',zU,eG,kL,u_⟩
   ·exact .inl aj
   ·exact .inr ⟨b,b4,k,zU,kL.symm,IN b t_,ao,ih⟩
  ·exact absurd (ar.lt ai) aj
 ·intro j aq _
  rw[hz,aV aj]
 ·intro j cU iU _
  rw[hz,aV (by have:=ar.wf.lt j cU iU;omega)];exact iU
 ·intro i ak _
  exact tg i ak
theorem aam {φ:cD} {A bK:bx} {w:aG} (ar:cB φ A w) {b off:Nat} {v v':ad} {e:iJ} (h:A.store b off v=some bK) (he:φ b=some e) (aR:aM φ v v') (aA:w.cell? ⟨e.bJ,e.sh+off,none⟩=some v'):
  db φ A w φ bK w:=by
 obtain⟨st,_,_⟩:=SL ar h he aR;have:w.setCell ⟨e.bJ,e.sh+off,none⟩ v'=w:=by
  unfold World.setCell;have:w.heap.modify e.bJ (λ
   | .cells c elem frozen=> .cells (if (none:Option Nat).isSome then c else c.setIfInBounds (e.sh+off) v') elem frozen
   |o=>o)=w.heap:=by
   apply Array.ext_getElem?;intro i;rw[Array.getElem?_modify];split
   ·rename_i ak
    subst ak;cases ae:w.heap[e.bJ]? with
    |none=>rfl
    |some o=>
     cases o<;>try rfl
     rename_i c t fr;simp only [Option.map_some,Option.isSome_none,Bool.false_eq_true,if_false,dL,Obj.cells.injEq,and_true];simp only [World.cell?,ae,Option.isSome_none,Bool.false_eq_true,if_false] at aA;apply Array.ext_getElem?;intro j;rw[Array.getElem?_setIfInBounds];split
     ·rename_i aq;subst aq
      obtain⟨c_,_⟩:=Array.getElem?_eq_some_iff.1 aA;rw[aP c_,aA]
     ·rfl
   ·rfl
  exact congrArg (λh=>{w with heap:=h}) this
 rw[this] at st;exact st
theorem S' {φ:cD} {b:Nat} {e:iJ} (he:φ b=some e) {w:aG}:∀(a8:List ad) (A bK:bx) (off:Nat),cB φ A w->A.sd b off a8=some bK->
  (∀j,j<a8.length->∃v',w.cell? ⟨e.bJ,e.sh+(off+j),none⟩=some v'/\aM φ (a8.getD j undef) v')->db φ A w φ bK w
 |[],A,bK,off,ar,h,_=>by
  simp only [bx.sd,dL] at h;subst h;exact db.refl ar
 |v::r,A,bK,off,ar,h,aR=>by
  unfold bx.sd at h;cases af:a1.yx v with
  |false=>rw[af] at h;cases h
  |true=>
   rw[af,cN] at h;cases ay:A.store b off v with
   |none=>rw[ay] at h;cases h
   |some cg=>
    rw[ay] at h;simp only at h;obtain⟨v',g1,g2⟩:=aR 0 (by simp);have st:=aam ar ay he (by simpa using g2) (by simpa using g1);exact db.trans ar st (S' he r cg bK (off+1) st.rel h λj aq=>by
     obtain⟨aan,q1,aI⟩:=aR (j+1) (by simpa using aq)
     exact⟨aan,by rw[show off+1+j=off+(j+1) by omega];exact q1,by simpa using aI⟩)
end a1
namespace a1
variable [bp]
omit [bp] in
theorem S_ (Ta:Nat):∀(r c:Nat),Builtin.growBy Ta r c<=(c+768)*2^r
 |0,c=>by simp [Builtin.growBy]
 |r+1,c=>by
  unfold Builtin.growBy;split
  ·have:1<=2^(r+1):=Nat.one_le_two_pow
   calc c<=c+768:=by omega
    _=(c+768)*1:=by omega
    _<=(c+768)*2^(r+1):=Nat.mul_le_mul_left _ this
  ·have h:=S_ Ta r (c+(c+768)/4)
   calc _<=(c+(c+768)/4+768)*2^r:=h
    _<=((c+768)*2)*2^r:=Nat.mul_le_mul_right _ aj
    _=(c+768)*2^(r+1):=by rw[Nat.pow_succ,Nat.mul_assoc,Nat.mul_comm 2]
omit [bp] in
theorem aao {need c:Nat} (h:c<need) (aT:need<=1048576):Builtin.nextslicecap need c<=33554432:=by
 unfold Builtin.nextslicecap;split
 ·omega
 ·split
  ·omega
  ·have ck:=S_ need 4 c
   have aap:(c+768)*2^4<=33554432:=by
    rw[show (2:Nat)^4=16 from rfl];omega
   exact Nat.le_trans ck aap
omit [bp] in
theorem Tb (z:Array ad) (n:Nat):(Builtin.zeroCells z n).size=n*z.size:=by simp [Builtin.zeroCells]
section
variable {P:bB} {φ:cD} {A bK:bx} {w:aG}
omit [bp] in
theorem Tc (a:Addr) (n:Nat) {v:Array ad} (h:(loadCells a n).run P w= .ok v w) (d:Nat) (aA:∀j,j<n->∃u,w.cell? (a.add j)=some u):(loadCells a n).run P {w with drawn:=d}= .ok v {w with drawn:=d}:=by
 let f:Nat->ad:=λj=>(w.cell? (a.add j)).getD undef
 have bn:∀j,j<n->w.cell? (a.add j)=some (f j):=λj aq=>by
  obtain⟨u,hu⟩:=aA j aq;simp [f,hu]
 have af:=run_loadCells (P:=P) w a n f bn;rw[h] at af;have ah:=run_loadCells (P:=P) {w with drawn:=d} a n f bn;rw[ah];injection af with af;rw[af]
def IY (A:bx) (sz:Nat):ad->Option (Nat×List ad)
 | .slice (some ⟨b,off,none⟩) n _=>(A.tj b off (n*sz)).map λl=>(n,l)
 | .slice none 0 0=>some (0,[])
 | .string s=>bif sz==1 then some (s.size,s.data.toList.map λb=> .int .u8 b.toNat) else none
 |_=>none
theorem aaq (ar:cB φ A w) {sz n:Nat} {x x':ad} {l:List ad} (aw:aM φ x x') (h:IY A sz x=some (n,l)):
  l.length=n*sz/\∃lz:Array ad,lz.size=l.length/\(∀j,j<l.length->aM φ (l.getD j undef) (lz.getD j undef))/\
    (∀d,(Builtin.lenOf x').run P {w with drawn:=d}= .ok n {w with drawn:=d})/\∀d,(Builtin.firstCells sz n x').run P {w with drawn:=d}= .ok lz {w with drawn:=d}:=by
 unfold IY at h;split at h
 ·rename_i b off mr c
  obtain⟨l',iM,heq⟩:=Option.map_eq_some_iff.1 h;simp only [Prod.mk.injEq] at heq;obtain⟨rfl,rfl⟩:=heq;obtain⟨hlen,wm⟩:=Bg iM;have main:∀(e:iJ) (c':Nat),φ b=some e->∃lz:Array ad,lz.size=l'.length/\(∀j,j<l'.length->aM φ (l'.getD j undef) (lz.getD j undef))/\
   (∀d,(Builtin.lenOf (.slice (some ⟨e.bJ,e.sh+off,none⟩) mr c')).run P {w with drawn:=d}= .ok mr {w with drawn:=d})/\∀d,(Builtin.firstCells sz mr (.slice (some ⟨e.bJ,e.sh+off,none⟩) mr c')).run P {w with drawn:=d}= .ok lz {w with drawn:=d}:=by
   intro e c' he;obtain⟨dC,af,ah,aH⟩:=Fa ar P iM he;refine⟨dC,ah,aH,λd=>rfl,λd=> ?_⟩;exact Tc _ _ af d λj aq=>by
    obtain⟨v',g1,_⟩:=wg ar (wm j aq) he;exact⟨v',by rw[Addr.ly,Nat.add_assoc];exact g1⟩
  cases aw with
  |jk _ c' he=>exact⟨hlen,main _ _ he⟩
  |jl _ _ c' he _ _ _=>exact⟨hlen,main _ _ he⟩
  |jI bR _=>
   have:l'=[]:=by simpa using hlen
   subst this;refine⟨by simp,#[],rfl,λj aq=>absurd aq (by simp),λd=>rfl,λd=> ?_⟩;simp [Builtin.firstCells,loadCells,loadCellsFrom,Sem.run,pure]
 ·simp only [dL,Prod.mk.injEq] at h
  obtain⟨rfl,rfl⟩:=h;cases aw with
  |slnil=>exact⟨by simp,#[],rfl,λj aq=>absurd aq (by simp),λd=>rfl,λd=>rfl⟩
 ·rename_i s
  cases ay:(sz==1) with
  |false=>rw[ay] at h;cases h
  |true=>
   rw[ay,cN] at h;simp only [dL,Prod.mk.injEq] at h;obtain⟨rfl,rfl⟩:=h;have mf:sz=1:=by simpa using ay
   cases aw with
   |string=>
    refine⟨by simp [mf],(s.data.toList.map λb=>Value.int .u8 b.toNat).toArray,by simp,λj aq=> ?_,λd=>rfl,λd=> ?_⟩
    ·simp only [gd,List.getElem?_toArray,eP]
     have h4:j<s.data.toList.length:=by simpa using aq
     simp only [List.getElem?_map,ig h4,Option.map_some,Option.getD_some];exact .int _ _
    ·simp only [Builtin.firstCells]
     show Result.ok _ _=Result.ok _ _;congr 1;have:(s.extract 0 s.size)=s:=by simp
     rw[this];apply Array.ext';simp
 ·cases h
omit [bp] in
theorem ei {α qv:Type} {s:Sem α} {k:α->Sem qv} {a:α} {w:aG} {r:Result qv} (h:bZ P s=some a) (ao:(k a).run P w=r):(s >>= k).run P w=r:=by
 rw[Sem.run_bind,kM h w];exact ao
omit [bp] in
theorem ev {α qv:Type} {s:Sem α} {k:α->Sem qv} {a:α} {w w1:aG} {r:Result qv} (h:s.run P w= .ok a w1) (ao:(k a).run P w1=r):(s >>= k).run P w=r:=by
 rw[Sem.run_bind,h];exact ao
def IZ:TypeDesc->Bool
 | .int _=>true
 |_=>false
omit [bp] in
theorem I0 {eo:Array bq} {t t2 elem ty:bq} {sz n pv tm:Nat} {base:Option Addr} {x':ad} {lz:Array ad} (bd:eo[0]? =some t) (af:eo[1]? =some t2)
  (hu:bZ P (underlying t)=some (.slice elem)) {qV:TypeDesc} (vb:bZ P (underlying t2)=some qV) (bu:IZ qV=false) (dV:bZ P (sizeOf elem)=some sz)
  (hlen:(Builtin.lenOf x').run P w= .ok n w) (xI:(Builtin.firstCells sz n x').run P w= .ok lz w) (rK:pv+n<=tm) {w':aG}
  (eA:(match base with|some a=>storeCells (a.add (pv*sz)) lz.toList|none=>pure ()).run P w= .ok () w'):
  (Builtin.append_ eo ty #[.slice base pv tm,x']).run P w= .ok (.slice base (pv+n) tm) w':=by
 unfold Builtin.append_;simp only [bd,af,List.getElem?_toArray,List.getElem?_cons_zero,List.getElem?_cons_succ];refine ei hu ?_;simp only;refine ei dV ?_;refine ei vb ?_;refine ei (a:=false) (by cases qV<;>first|rfl|cases bu) ?_;simp only [Bool.false_eq_true,if_false];refine ev hlen ?_;rw[aP rK];simp only [Bool.not_false,if_true];refine ev xI ?_;cases base with
 |none=>
  have:w'=w:=by
   have h:Result.ok () w=Result.ok () w':=eA;injection h with _ h;exact h.symm
  subst this;rfl
 |some a=>exact ev eA rfl
omit [bp] in
theorem Td {eo:Array bq} {t t2 elem ty:bq} {info:TypeInfo} {z:ad} {sz n pv tm:Nat} {base:Option Addr} {x':ad} {kp lz:Array ad} (bd:eo[0]? =some t) (af:eo[1]? =some t2)
  (hu:bZ P (underlying t)=some (.slice elem)) {qV:TypeDesc} (vb:bZ P (underlying t2)=some qV) (bu:IZ qV=false) (dV:bZ P (sizeOf elem)=some sz)
  (ak:bZ P (typeInfo elem)=some info) (aar:bZ P (zeroValue elem)=some z) (fD:info.bytes≠0) (ai:info.bytes<=65536) (qW:pv+n<=1048576)
  (hlen:(Builtin.lenOf x').run P w= .ok n w) (xI:∀d,(Builtin.firstCells sz n x').run P {w with drawn:=d}= .ok lz {w with drawn:=d})
  (hold:∀d,(Builtin.firstCells sz pv (.slice base pv tm)).run P {w with drawn:=d}= .ok kp {w with drawn:=d}) (rK:tm<pv+n):
  ∃ng,pv+n<=ng/\(Builtin.append_ eo ty #[.slice base pv tm,x']).run P w=
   .ok (.slice (some ⟨w.heap.size,0,none⟩) (pv+n) ng) {w with drawn:=w.drawn+1,heap:=w.heap.push (.cells (kp++lz++Builtin.zeroCells z.cells (ng-(pv+n))) elem)}:=by
 refine⟨(Question.appendCap (pv+n) tm elem).cut (w.tape w.drawn (.appendCap (pv+n) tm elem)),by simp [Question.cut],?_⟩;unfold Builtin.append_;simp only [bd,af,List.getElem?_toArray,List.getElem?_cons_zero,List.getElem?_cons_succ];refine ei hu ?_;simp only;refine ei dV ?_;refine ei vb ?_;refine ei (a:=false) (by cases qV<;>first|rfl|cases bu) ?_;simp only [Bool.false_eq_true,if_false];refine ev hlen ?_;rw[aV aj];refine ei ak ?_;rw[aV (by simp [fD])];refine ei ak ?_;have mM:=aao rK qW;have hle:¬(Builtin.nextslicecap (pv+n) tm*info.bytes>2^48):=by
  have h:=Nat.mul_le_mul mM ai;have ah:33554432*65536<=2^48:=by decide
  omega
 rw[aV hle];refine ev (w1:={w with drawn:=w.drawn+1}) (a:=(Question.appendCap (pv+n) tm elem).cut (w.tape w.drawn (.appendCap (pv+n) tm elem))) (by simp [choose,Sem.run,Question.forced]) ?_;refine ei ak ?_;refine ev (w1:={w with drawn:=w.drawn+1}) (a:=()) (by unfold askRoom;split<;>rfl) ?_;refine ev (hold _) ?_;simp only [Bool.not_false,if_true];refine ev (xI _) ?_;refine ei aar ?_;refine ev (a:=(⟨w.heap.size,0,none⟩:Addr)) (by simp only [newRow,newObj];rfl) ?_;rfl
end
end a1
namespace a1
variable [bp]
section
variable {P:bB} {φ:cD} {A bK:bx} {w:aG}
def L9 (P:bB) (A:bx) (eo:Array bq) (s x:ad):Option (ad×bx):=
 match eo[0]?,eo[1]? with
 |some t,some t2=>match bZ P (underlying t),bZ P (underlying t2) with
  |some (.slice elem),some qV=>
   match bZ P (sizeOf elem),bZ P (typeInfo elem),bZ P (zeroValue elem) with
   |some sz,some info,some z=>
    bif IZ qV||Nat.beq sz 0||Nat.beq info.bytes 0|| !Nat.ble info.bytes 65536|| !Nat.beq z.cells.size sz then none else
     match IY A sz x with
     |some (n,k_)=>
      bif !Nat.ble n 524288 then none else
      match s with
      | .slice none 0 0=>bif Nat.beq n 0 then some (.slice none 0 0,A) else
          match A.push (.cells k_) sz elem with
          |some (r,cg)=>some (.slice (some ⟨r,0,none⟩) n n,cg)
          |none=>none
      | .slice (some ⟨b,off,none⟩) sl se=>
        bif !Nat.ble sl 524288||(Nat.beq b dead&& !Nat.beq off 0) then none else
         bif Nat.ble (sl+n) se then
          match A.sd b (off+sl*sz) k_ with
          |some cg=>some (.slice (some ⟨b,off,none⟩) (sl+n) se,cg)
          |none=>none
         else match A.bl.get b with
          |none=>bif Nat.beq sl 0&&Nat.beq se 0 then
            match A.push (.cells k_) sz elem with
            |some (r,cg)=>some (.slice (some ⟨r,0,none⟩) n n,cg)
            |none=>none
           else none
          |some k=>match A.tj b off (sl*sz) with
           |some old=>
            bif Nat.beq k.fO 0 then
             match A.push (.cells (old++k_)) sz elem with
             |some (r,cg)=>some (.slice (some ⟨r,0,none⟩) (sl+n) (sl+n),cg)
             |none=>none
            else bif Nat.beq k.fO sz then
             match A.IW b (k.pos+off) sz elem (old++List.replicate (n*sz) c3) with
             |some (r,cg)=>match cg.sd r (sl*sz) k_ with
              |some gP=>some (.slice (some ⟨r,0,none⟩) (sl+n) (sl+n),gP)
              |none=>none
             |none=>none
            else none
           |none=>none
      |_=>none
     |none=>none
   |_,_,_=>none
  |_,_=>none
 |_,_=>none
theorem L_ (ar:cB φ A w) (d:Nat):cB φ A {w with drawn:=d}:=⟨ar.wf,ar.fi,ar.apart,ar.along,ar.dz⟩
theorem Te {old k_:List ad} {kp lz rest:Array ad} (af:kp.size=old.length) (ah:∀j,j<old.length->aM φ (old.getD j undef) (kp.getD j undef)) (aH:lz.size=k_.length)
  (ck:∀j,j<k_.length->aM φ (k_.getD j undef) (lz.getD j undef)):∀j,j<(old++k_).length->aM φ ((old++k_).getD j undef) ((kp++lz++rest).getD j undef):=by
 intro j aq;simp only [List.length_append] at aq;simp only [eP,gd,List.getElem?_append,Array.getElem?_append,Array.size_append] at ah ck ⊢;by_cases Bi:j<old.length
 ·rw[aP Bi,aP aj,aP aj]
  exact ah j Bi
 ·rw[aV Bi,aP aj,aV aj,af]
  exact ck (j-old.length) aj
theorem aas (ar:cB φ A w) {elem:bq} {sz sl n:Nat} {old k_:List ad} {kp lz rest:Array ad} {r ng:Nat} (dV:1<=sz) (hp:A.push (.cells (old++k_)) sz elem=some (r,bK))
  (af:kp.size=old.length) (ah:∀j,j<old.length->aM φ (old.getD j undef) (kp.getD j undef)) (aH:lz.size=k_.length) (ck:∀j,j<k_.length->aM φ (k_.getD j undef) (lz.getD j undef))
  (wo:old.length=sl*sz) (Bj:k_.length=n*sz) (mM:sl+n<=ng) (xH:rest.size=(ng-(sl+n))*sz):
  ∃dI w',w'={w with drawn:=w.drawn+1,heap:=w.heap.push (.cells (kp++lz++rest) elem)}/\
   aM dI (.slice (some ⟨r,0,none⟩) (sl+n) (sl+n)) (.slice (some ⟨w.heap.size,0,none⟩) (sl+n) ng)/\db φ A w dI bK w':=by
 have la:=L_ ar (w.drawn+1);obtain⟨dI,w',g1,g2,g3,g4⟩:=Db la (default:bB) (c':=kp++lz++rest) elem hp (by simp;omega) (λh=>absurd (show sz=0 from h) aj) (Te af ah aH ck);refine⟨dI,w',g4,?_,db.trans ar (db.zR ar (w.drawn+1)) g3⟩;have aat:(kp++lz++rest).size=ng*sz:=by
  simp only [Array.size_append,af,aH,wo,Bj,xH];rw[<-Nat.add_mul,<-Nat.add_mul];congr 1;omega
 have:=aM.jl (φ:=dI) (b:=r) (o:=0) (sl+n) (sl+n) ng g2 dV mM (by
  simp only [Nat.zero_add]
  rw[aat];exact c4 _)
 simpa using this
theorem aau (ar:cB φ A w) {eo:Array bq} {ty:bq} {s hA x x' v:ad} (ay:aM φ s hA) (aw:aM φ x x') (h:L9 P A eo s x=some (v,bK)):cH (iO v) P φ A w (Builtin.append_ eo ty #[hA,x']) bK:=by
 unfold L9 at h;split at h
 ·rename_i t t2 bw Dd
  split at h
  ·rename_i elem qV hu vb
   split at h
   ·rename_i sz info z dV ak de
    cases aA:(IZ qV||Nat.beq sz 0||Nat.beq info.bytes 0|| !Nat.ble info.bytes 65536|| !Nat.beq z.cells.size sz) with
    |true=>rw[aA] at h;cases h
    |false=>
     rw[aA,fI] at h;simp only [Bool.or_eq_false_iff,Bool.not_eq_false'] at aA;obtain⟨⟨⟨⟨bu,fP⟩,ew⟩,qX⟩,Bk⟩:=aA;have Ma:1<=sz:=by
      rcases Nat.eq_zero_or_pos sz with bd|bd
      ·subst bd;simp at fP
      ·exact bd
     have fD:info.bytes≠0:=by
      intro bd;rw[bd] at ew;simp at ew
     have ai:info.bytes<=65536:=Nat.ble_eq.mp qX;have tk:z.cells.size=sz:=ep Bk;cases Bl:IY A sz x with
     |none=>rw[Bl] at h;cases h
     |some q=>
      obtain⟨n,k_⟩:=q;rw[Bl] at h;simp only at h;obtain⟨Bj,lz,iL,lk,De,xI⟩:=aaq (P:=P) ar aw Bl;cases Bm:Nat.ble n 524288 with
      |false=>rw[Bm] at h;cases h
      |true=>
       rw[Bm,Bool.not_true,fI] at h;have aT:=Nat.ble_eq.mp Bm;have fresh:∀(sl:Nat) (old:List ad) (kp:Array ad) (base:Option Addr) (n7 r:Nat),sl<=524288->old.length=sl*sz->kp.size=old.length->(∀j,j<old.length->aM φ (old.getD j undef) (kp.getD j undef))->
         (∀d,(Builtin.firstCells sz sl (.slice base sl n7)).run P {w with drawn:=d}= .ok kp {w with drawn:=d})->n7<sl+n->A.push (.cells (old++k_)) sz elem=some (r,bK)->
         cH (iO (.slice (some ⟨r,0,none⟩) (sl+n) (sl+n))) P φ A w (Builtin.append_ eo ty #[.slice base sl n7,x']) bK:=by
        intro sl old kp base n7 r hg wo aav Mb hold rK hp;obtain⟨ng,mM,ho⟩:=Td (ty:=ty) bw Dd hu vb bu dV ak de fD ai aj (De w.drawn) xI hold rK;obtain⟨dI,w',bs,cw,dD⟩:=aas ar Ma hp aav Mb iL lk wo Bj mM (rest:=Builtin.zeroCells z.cells (ng-(sl+n))) (by rw[Tb,tk]);subst bs;exact⟨dI,_,_,ho,cw,dD⟩
       split at h
       ·
        cases ay;cases hh:Nat.beq n 0 with
        |true=>
         rw[hh,cN] at h;simp only [dL,Prod.mk.injEq] at h;obtain⟨rfl,rfl⟩:=h;have Tf:n=0:=ep hh;subst Tf;exact⟨φ,w,_,I0 bw Dd hu vb bu dV (De w.drawn) (xI w.drawn) (c4 _) rfl,.slnil _ _,db.refl ar⟩
        |false=>
         rw[hh,fI] at h;split at h
         ·rename_i r cg hp
          simp only [dL,Prod.mk.injEq] at h;obtain⟨rfl,rfl⟩:=h;have Tf:n≠0:=λe=>by subst e;simp at hh
          have:=fresh 0 [] #[] none 0 r aj (by simp) rfl (λj aq=>absurd aq (by simp)) (λd=>rfl) aj (by simpa using hp);simpa using this
         ·cases h
       ·rename_i b off sl se
        cases Mc:Nat.ble sl 524288 with
        |false=>rw[Mc] at h;cases h
        |true=>
         rw[Mc,Bool.not_true,Bool.false_or] at h;cases I1:(Nat.beq b dead&& !Nat.beq off 0) with
         |true=>rw[I1] at h;cases h
         |false=>
         rw[I1,fI] at h;have I2:b=dead->off=0:=λe=>by
          subst e;rw[Nat.beq_refl,Bool.true_and,Bool.not_eq_false'] at I1;exact ep I1
         have hg:=Nat.ble_eq.mp Mc;cases rK:Nat.ble (sl+n) se with
         |true=>
          rw[rK,cN] at h;have Fk:=Nat.ble_eq.mp rK;split at h
          ·rename_i cg eA
           simp only [dL,Prod.mk.injEq] at h;obtain⟨rfl,rfl⟩:=h;have room:∀(e:iJ) (n7:Nat),φ b=some e->sl+n<=n7->∃w',db φ A w φ cg w'/\(Builtin.append_ eo ty #[.slice (some ⟨e.bJ,e.sh+off,none⟩) sl n7,x']).run P w= .ok (.slice (some ⟨e.bJ,e.sh+off,none⟩) (sl+n) n7) w':=by
            intro e n7 he hle;obtain⟨w',g1,g2⟩:=C_ P he k_ A cg w (off+sl*sz) 0 lz.toList ar eA (by simpa using iL) (λj aq=>by
             have:=lk j aq;simp only [gd] at this
             simpa [eP] using this)
            refine⟨w',g2,I0 bw Dd hu vb bu dV (De w.drawn) (xI w.drawn) hle ?_⟩;simp only [Addr.ly];rw[Nat.add_assoc];exact g1
           cases ay with
           |jk _ _ he=>
            obtain⟨w',g1,g2⟩:=room _ _ he Fk;exact⟨φ,w',_,g2,.jk _ _ he,g1⟩
           |jl _ _ c' he q1 aI bS=>
            obtain⟨w',g1,g2⟩:=room _ c' he aj;exact⟨φ,w',_,g2,.jl _ _ _ he q1 aI bS,g1⟩
           |jI bR tl=>
            have kq:=tl (I2 rfl);subst kq;have hh:n=0:=by omega
            subst hh;have aaw:k_=[]:=by simpa using Bj
            subst aaw;simp only [bx.sd,dL] at eA;subst eA;have Md:lz= #[]:=Array.eq_empty_of_size_eq_zero iL;subst Md;exact⟨φ,w,_,I0 bw Dd hu vb bu dV (De w.drawn) (xI w.drawn) (c4 _) rfl,.jI _ tl,db.refl ar⟩
          ·cases h
         |false=>
          rw[rK,fI] at h;have Fk:se<sl+n:=by
           rcases Nat.lt_or_ge se (sl+n) with af|af
           ·exact af
           ·rw[Nat.ble_eq.mpr af] at rK;cases rK
          cases ao:A.bl.get b with
          |none=>
           rw[ao] at h;simp only at h;cases vd:(Nat.beq sl 0&&Nat.beq se 0) with
           |false=>rw[vd] at h;cases h
           |true=>
            rw[vd,cN] at h;simp only [fy] at vd;have bs:sl=0:=ep vd.1;have cw:se=0:=ep vd.2;subst bs;subst cw;split at h
            ·rename_i r cg hp
             simp only [dL,Prod.mk.injEq] at h;obtain⟨rfl,rfl⟩:=h;have Fl:∀e,φ b≠some e:=λe he=>by
              obtain⟨k,eG,_⟩:=ar.fi b e he;rw[ao] at eG;cases eG
             cases ay with
             |jk _ _ he=>exact absurd he (Fl _)
             |jl _ _ c' he q1 aI bS=>exact absurd he (Fl _)
             |jI bR tl=>
              have kq:=tl (I2 rfl);subst kq;have:=fresh 0 [] #[] (some bR) 0 r aj (by simp) rfl (λj aq=>absurd aq (by simp)) (λd=>by simp [Builtin.firstCells,loadCells,loadCellsFrom,Sem.run,pure]) aj (by simpa using hp);simpa using this
            ·cases h
          |some k=>
           rw[ao] at h;simp only at h;cases hold:A.tj b off (sl*sz) with
           |none=>rw[hold] at h;cases h
           |some old=>
            rw[hold] at h;simp only at h;obtain⟨wo,wm⟩:=Bg hold;have Me:∀(e:iJ) (n7:Nat),φ b=some e->∃kp:Array ad,kp.size=old.length/\(∀j,j<old.length->aM φ (old.getD j undef) (kp.getD j undef))/\
              ∀d,(Builtin.firstCells sz sl (.slice (some ⟨e.bJ,e.sh+off,none⟩) sl n7)).run P {w with drawn:=d}= .ok kp {w with drawn:=d}:=by
             intro e n7 he;obtain⟨dC,af,ah,aH⟩:=Fa ar P hold he;exact⟨dC,ah,aH,λd=>Tc _ _ af d λj aq=>by
              obtain⟨v',g1,_⟩:=wg ar (wm j aq) he
              exact⟨v',by rw[Addr.ly,Nat.add_assoc];exact g1⟩⟩
            have Tg:∀(bR:Addr),sl=0->∀d,(Builtin.firstCells sz sl (.slice (some bR) sl 0)).run P {w with drawn:=d}= .ok #[] {w with drawn:=d}:=by
             intro bR e d;subst e;simp [Builtin.firstCells,loadCells,loadCellsFrom,Sem.run,pure]
            cases wq:Nat.beq k.fO 0 with
            |true=>
             rw[wq,cN] at h;have ji:k.fO=0:=ep wq;split at h
             ·rename_i r cg hp
              simp only [dL,Prod.mk.injEq] at h;obtain⟨rfl,rfl⟩:=h;cases ay with
              |jk _ _ he=>
               obtain⟨kp,eU,fj,gu⟩:=Me _ se he;exact fresh sl old kp _ se r hg wo eU fj gu Fk hp
              |jl _ _ c' he q1 aI bS=>
               obtain⟨k',eG,eA,_⟩:=ar.fi b _ he;rw[ao] at eG;cases eG;omega
              |jI bR tl=>
               have kq:=tl (I2 rfl);subst kq;have Mf:old=[]:=by simpa using wo
               subst Mf;exact fresh 0 [] #[] (some bR) 0 r aj (by simp) rfl (λj aq=>absurd aq (by simp)) (Tg bR rfl) aj hp
             ·cases h
            |false=>
             rw[wq,fI] at h;cases Fm:Nat.beq k.fO sz with
             |false=>rw[Fm] at h;cases h
             |true=>
              rw[Fm,cN] at h;have Fo:k.fO=sz:=ep Fm;split at h
              ·rename_i r cg hp
               split at h
               ·rename_i gP Th
                simp only [dL,Prod.mk.injEq] at h;obtain⟨rfl,rfl⟩:=h;obtain⟨_,_,_,Df,_,ih,_,_,rfl,_,_,_,_,_⟩:=L8 hp ar.wf;have c_:∀b e,φ b=some e->∀em,ij φ A.n em b=some e:=λb e ai em=>by
                 unfold ij;rw[aV (by have:=ar.lt ai;omega)];exact ai
                have Mg:∀(base:Option Addr) (n7:Nat) (kp:Array ad),kp.size=old.length->(∀j,j<old.length->aM φ (old.getD j undef) (kp.getD j undef))->
                  (∀d,(Builtin.firstCells sz sl (.slice base sl n7)).run P {w with drawn:=d}= .ok kp {w with drawn:=d})->n7<sl+n->
                  cH (iO (.slice (some ⟨A.n,0,none⟩) (sl+n) (sl+n))) P φ A w (Builtin.append_ eo ty #[.slice base sl n7,x']) gP:=by
                 intro base n7 kp eU fj gu bn;obtain⟨ng,mM,ho⟩:=Td (ty:=ty) bw Dd hu vb bu dV ak de fD ai aj (De w.drawn) xI gu bn;have pw:(kp++lz++Builtin.zeroCells z.cells (ng-(sl+n))).size=ng*sz:=by
                  simp only [Array.size_append,eU,iL,wo,Bj,Tb,tk];rw[<-Nat.add_mul,<-Nat.add_mul];congr 1;omega
                 have la:=L_ ar (w.drawn+1);have ll:=Te (rest:=Builtin.zeroCells z.cells (ng-(sl+n))) eU fj iL lk;have hle:(sl+n)*sz<=ng*sz:=Nat.mul_le_mul_right _ mM;have aax:sl*sz+n*sz=(sl+n)*sz:=(Nat.add_mul _ _ _).symm;have qw:=S9 (e:=⟨w.heap.size,0,sz,ng*sz⟩) la hp rfl (.inl ⟨rfl,.cells (kp++lz++Builtin.zeroCells z.cells (ng-(sl+n))) elem,rfl⟩) (λk' eG=>by
                  simp only [gL];refine⟨_,(0,0),by simp,pw.symm,⟨by simp only [List.length_append,nz,Nat.zero_add,wo,pw];omega,λh=>absurd (show sz=0 from h) aj⟩,λj aq=> ?_,λ_ i _=>by simp⟩;simp only [List.length_append,nz] at aq;simp only [Nat.zero_add];by_cases Bi:j<old.length
                  ·have:=(ll j (by simp;omega)).mono λfR bs nf=>c_ fR bs nf ⟨w.heap.size,0,sz,ng*sz⟩
                   rw[eP,List.getElem?_append_left Bi] at this ⊢;exact this
                  ·rw[eP,List.getElem?_append_right aj,List.getElem?_replicate,aP aj]
                   exact .c3 _)
                 have xD:=S' (e:=⟨w.heap.size,0,sz,ng*sz⟩) (by simp [ij]) k_ cg gP (sl*sz) qw.rel Th (λj aq=>by
                  have:=(ll (sl*sz+j) (by simp;omega)).mono λfR bs nf=>c_ fR bs nf ⟨w.heap.size,0,sz,ng*sz⟩
                  rw[eP,List.getElem?_append_right aj,wo,Nat.add_sub_cancel_left,<-eP] at this;refine⟨_,?_,this⟩;simp only [World.cell?,Nat.zero_add];have oX:sl*sz+j<(kp++lz++Builtin.zeroCells z.cells (ng-(sl+n))).size:=by rw[pw];omega
                  simp only [Array.getElem?_push_size,Option.isSome_none,Bool.false_eq_true,if_false,gd];rw[Array.getElem?_eq_getElem oX]
                  rfl)
                 refine⟨_,_,_,ho,?_,db.trans ar (db.zR ar (w.drawn+1)) (db.trans la qw xD)⟩;have:=aM.jl (φ:=ij φ A.n ⟨w.heap.size,0,sz,ng*sz⟩) (b:=A.n) (o:=0) (e:=⟨w.heap.size,0,sz,ng*sz⟩) (sl+n) (sl+n) ng (by simp [ij]) Ma mM (by simp);simpa using this
                cases ay with
                |jk _ _ he=>
                 obtain⟨kp,eU,fj,gu⟩:=Me _ se he;exact Mg _ _ kp eU fj gu Fk
                |jI bR tl=>
                 have kq:=tl (I2 rfl);subst kq;have Mf:old=[]:=by simpa using wo
                 subst Mf;exact Mg (some bR) 0 #[] rfl (λj aq=>absurd aq (by simp)) (Tg bR rfl) Fk
                |jl _ _ c' he q1 aI bS=>
                 rename_i e;obtain⟨kp,eU,fj,gu⟩:=Me _ c' he;rcases Nat.lt_or_ge c' (sl+n) with wk|lJ
                 ·exact Mg _ _ kp eU fj gu wk
                 ·
                  obtain⟨k',eG,Mh,aay⟩:=ar.fi b e he;rw[ao] at eG;cases eG;have ve:e.fO=sz:=Mh.trans Fo;have aax:sl*sz+n*sz=(sl+n)*sz:=(Nat.add_mul _ _ _).symm;have hle:(sl+n)*sz<=c'*sz:=Nat.mul_le_mul_right _ lJ;rw[ve] at bS;have qw:=S9 (e:=⟨e.bJ,e.sh+off,sz,e.A_⟩) ar hp rfl (.inr ⟨rfl,e,k,he,ao,rfl,by simp only;omega⟩) (λk' eG=>by
                   rw[ao] at eG;cases eG;obtain⟨jn,ew,jo,g1,g2,g3,g4,_⟩:=L8 hp ar.wf;rw[ao] at g1;cases g1;have Mi:=aay;unfold gL at Mi;simp only [g2] at Mi;obtain⟨qX,aaz,c9,eF,hx,xA,C7⟩:=Mi;simp only [gL];refine⟨qX,aaz,by rw[<-g4];exact c9,eF,⟨by simp only [List.length_append,nz,wo];omega,λh=>absurd (show sz=0 from h) aj⟩,λj aq=> ?_,λ_=>C7 g3⟩;simp only [List.length_append,nz] at aq;by_cases Bi:j<old.length
                   ·rw[eP,List.getElem?_append_left Bi,<-eP]
                    obtain⟨v',fo,iK⟩:=wg ar (wm j aj) he;simp only [World.cell?,c9,Option.isSome_none,Bool.false_eq_true,if_false] at fo;rw[gd,Nat.add_assoc,fo];exact iK.mono λfR bs nf=>c_ fR bs nf _
                   ·rw[eP,List.getElem?_append_right aj,List.getElem?_replicate,aP aj]
                    exact .c3 _)
                  obtain⟨w',g1,g2⟩:=C_ P (e:=⟨e.bJ,e.sh+off,sz,e.A_⟩) (by simp [ij]) k_ cg gP w (sl*sz) 0 lz.toList qw.rel Th (by simpa using iL) (λj aq=>by
                   have:=(lk j aq).mono λfR bs nf=>c_ fR bs nf ⟨e.bJ,e.sh+off,sz,e.A_⟩
                   simp only [gd] at this
                   simpa [eP] using this)
                  refine⟨_,w',_,I0 bw Dd hu vb bu dV (De w.drawn) (xI w.drawn) lJ (w':=w') ?_,?_,db.trans ar qw g2⟩
                  ·simp only [Addr.ly]
                   exact g1
                  ·have:=aM.jl (φ:=ij φ A.n ⟨e.bJ,e.sh+off,sz,e.A_⟩) (b:=A.n) (o:=0) (e:=⟨e.bJ,e.sh+off,sz,e.A_⟩) (sl+n) (sl+n) c' (by simp [ij]) Ma lJ (by simp only [Nat.add_zero];exact bS)
                   simpa using this
               ·cases h
              ·cases h
       ·cases h
   ·cases h
  ·cases h
 ·cases h
end
end a1
namespace a1
variable [bp]
section
variable {P:bB} {φ:cD} {A bK:bx} {w:aG}
omit [bp] in
theorem aaA {α:Type} (k:IntKind) (x y:Int) (c:BoundsCode):bZ P (boundsPanic k x y c:Sem α)=none:=by
 unfold boundsPanic;dsimp only;split
 ·rw[uc]
  have:bZ P (Functor.map (λx=>x==1) (choose (.extern "runtime.boundsError.signed" 2)))=none:=rfl;rw[this];rfl
 ·rw[uc];rfl
omit [bp] in
theorem I3 {v:ad} {y:Nat} {c:BoundsCode} {r:Nat} (h:bZ P (Instr.sliceBound v y c)=some r):∃k i,v= .int k i/\0<=i/\i<=y/\r=i.toNat:=by
 unfold Instr.sliceBound at h;rw[uc] at h;cases v with
 |int k i=>
  simp only [asIntOf,Fg,Option.bind_some] at h;split at h
  ·rename_i ai
   simp only [Fg,dL] at h;exact⟨k,i,rfl,ai.1,ai.2,h.symm⟩
  ·rw[aaA] at h;cases h
 |pointer a=>cases a<;>cases h
 |_=>cases h
omit [bp] in
theorem Ti (k:IntKind) (i:Int) (y:Nat) (c:BoundsCode) (bd:0<=i) (af:i<=y):bZ P (Instr.sliceBound (.int k i) y c)=some i.toNat:=by
 unfold Instr.sliceBound;rw[uc];simp only [asIntOf,Fg,Option.bind_some];rw[aP ⟨bd,af⟩];rfl
omit [bp] in
theorem zV {b:Bool} {len c c' l h m:Nat} {fL ak eZ:Option ad} (aA:c<=c') (ai:bZ P (Instr.sliceBounds b len c fL ak eZ)=some (l,h,m)):
  bZ P (Instr.sliceBounds b len c' fL ak eZ)=some (l,h,if eZ.isSome then m else c')/\(eZ=none->m=c)/\m<=c/\l<=h/\(eZ.isSome=true->h<=m):=by
 have low:∀(y sf xJ:Nat) (I4:BoundsCode) {l h m:Nat},bZ P (do
   let l <-match fL with
    |some v=>Instr.sliceBound v y I4
    |none=>pure 0
   pure (l,y,sf))=some (l,h,m)->bZ P (do
   let l <-match fL with
    |some v=>Instr.sliceBound v y I4
    |none=>pure 0
   pure (l,y,xJ))=some (l,h,xJ)/\h=y/\m=sf/\l<=y:=by
  intro y sf xJ I4 l h m az;cases fL with
  |none=>
   simp only [uc,Fg,Option.bind_some,dL,Prod.mk.injEq] at az ⊢;obtain⟨rfl,rfl,rfl⟩:=az;simp
  |some v=>
   simp only [uc] at az ⊢;cases ay:bZ P (Instr.sliceBound v y I4) with
   |none=>rw[ay] at az;cases az
   |some r=>
    rw[ay] at az;simp only [Option.bind_some,Fg,dL,Prod.mk.injEq] at az ⊢;obtain⟨k,i,_,bd,af,ah⟩:=I3 ay;obtain⟨rfl,rfl,rfl⟩:=az;refine⟨by simp,rfl,rfl,aj⟩
 cases eZ with
 |none=>
  cases ak with
  |none=>
   have e:∀eN,Instr.sliceBounds b len eN fL none none=(do
     let l <-match fL with
      |some v=>Instr.sliceBound v len (if (none:Option ad).isSome then .slice3C else .sliceB)
      |none=>pure 0
     pure (l,len,eN)):=λeN=>by unfold Instr.sliceBounds;cases fL<;>rfl
   rw[e] at ai ⊢;obtain⟨g1,g2,g3,g4⟩:=low len c c' _ ai;subst g2;subst g3;exact⟨by simpa using g1,λ_=>rfl,c4 _,g4,λh=>by cases h⟩
  |some Bn=>
   have e:∀eN,Instr.sliceBounds b len eN fL (some Bn) none=(do
     let h <-Instr.sliceBound Bn eN (if b then .sliceAcap else .sliceAlen)
     let l <-match fL with
      |some v=>Instr.sliceBound v h (if (none:Option ad).isSome then .slice3C else .sliceB)
      |none=>pure 0
     pure (l,h,eN)):=λeN=>by unfold Instr.sliceBounds;cases fL<;>rfl
   rw[e] at ai ⊢;rw[uc] at ai ⊢;cases ay:bZ P (Instr.sliceBound Bn c (if b=true then .sliceAcap else .sliceAlen)) with
   |none=>rw[ay] at ai;cases ai
   |some r=>
    rw[ay,Option.bind_some] at ai;obtain⟨k,i,rfl,bd,af,rfl⟩:=I3 ay;rw[Ti k i c' _ bd aj,Option.bind_some];obtain⟨g1,g2,g3,g4⟩:=low i.toNat c c' _ ai;subst g2;subst g3;exact⟨by simpa using g1,λ_=>rfl,c4 _,g4,λh=>by cases h⟩
 |some xK=>
  cases ak with
  |none=>
   exfalso;have e:Instr.sliceBounds b len c fL none (some xK)=(do
     let m <-Instr.sliceBound xK c (if b then .slice3Acap else .slice3Alen)
     let h <-(stuck "Slice: max without high":Sem Nat)
     let l <-match fL with
      |some v=>Instr.sliceBound v h (if (some xK).isSome then .slice3C else .sliceB)
      |none=>pure 0
     pure (l,h,m)):=by unfold Instr.sliceBounds;cases fL<;>rfl
   rw[e,uc] at ai;cases ay:bZ P (Instr.sliceBound xK c (if b=true then .slice3Acap else .slice3Alen)) with
   |none=>rw[ay] at ai;cases ai
   |some r=>rw[ay] at ai;cases ai
  |some Bn=>
   have e:∀eN,Instr.sliceBounds b len eN fL (some Bn) (some xK)=(do
     let m <-Instr.sliceBound xK eN (if b then .slice3Acap else .slice3Alen)
     let h <-Instr.sliceBound Bn m .slice3B
     let l <-match fL with
      |some v=>Instr.sliceBound v h (if (some xK).isSome then .slice3C else .sliceB)
      |none=>pure 0
     pure (l,h,m)):=λeN=>by unfold Instr.sliceBounds;cases fL<;>rfl
   rw[e,uc] at ai ⊢;cases ay:bZ P (Instr.sliceBound xK c (if b=true then .slice3Acap else .slice3Alen)) with
   |none=>rw[ay] at ai;cases ai
   |some r=>
    rw[ay,Option.bind_some] at ai;obtain⟨k,i,rfl,bd,af,rfl⟩:=I3 ay;rw[Ti k i c' _ bd aj,Option.bind_some];rw[uc] at ai ⊢;cases mf:bZ P (Instr.sliceBound Bn i.toNat .slice3B) with
    |none=>rw[mf] at ai;cases ai
    |some c9=>
     rw[mf,Option.bind_some] at ai;rw[Option.bind_some];obtain⟨akF,i4,_,ea,q1,aI⟩:=I3 mf;obtain⟨g1,g2,g3,g4⟩:=low c9 i.toNat i.toNat _ ai;subst g2;subst g3;refine⟨by simpa using g1,λh=>by simp at h,aj,g4,λ_=>by omega⟩
def Mj (P:bB) (A:bx) (t:bq) (x:ad) (fL ak eZ:Option ad):Option ad:=
 match bZ P (underlying t),x with
 |some (.array n elem),.pointer (some ⟨b,off,none⟩)=>
  match bZ P (Instr.sliceBounds false n n fL ak eZ),bZ P (sizeOf elem) with
  |some (l,h,m),some sz=>some (.slice (some ⟨b,if m=l then off else off+l*sz,none⟩) (h-l) (m-l))
  |_,_=>none
 |some (.slice elem),.slice (some ⟨b,off,none⟩) len cap=>
  match bZ P (Instr.sliceBounds true len cap fL ak eZ),bZ P (sizeOf elem),A.bl.get b with
  |some (l,h,m),some sz,some k=>
   bif Nat.beq k.fO 0||Nat.beq k.fO sz then
    match eZ with
    |some _=>bif Nat.beq m l then some (.slice (some ⟨dead,0,none⟩) 0 0) else some (.slice (some ⟨b,off+l*sz,none⟩) (h-l) (m-l))
    |none=>bif Nat.ble h m then (bif Nat.beq m l then some (.slice (some ⟨dead,1,none⟩) 0 0) else some (.slice (some ⟨b,off+l*sz,none⟩) (h-l) (m-l))) else none
   else none
  |some (_,h,m),some _,none=>bif Nat.beq cap 0&&Nat.beq len 0&&Nat.ble h m then some (.slice (some ⟨b,off,none⟩) 0 0) else none
  |_,_,_=>none
 |_,_=>none
theorem aaB (ar:cB φ A w) {t:bq} {x x' v:ad} {fL ak eZ:Option ad} (aw:aM φ x x') (h:Mj P A t x fL ak eZ=some v):cH (iO v) P φ A w (Instr.sliceAt t x' fL ak eZ) A:=by
 unfold Mj at h;split at h
 ·rename_i n elem b off hu
  split at h
  ·rename_i l ae m sz ai dV
   simp only [dL] at h;subst h;cases aw with
   |ptr he=>
    rename_i e;unfold Instr.sliceAt;refine cH.pre hu ?_;simp only;refine cH.pre (a:=(⟨e.bJ,e.sh+off,none⟩:Addr)) rfl ?_;refine cH.pre ai ?_;simp only;refine cH.pre dV ?_;have:=aM.jk (φ:=φ) (b:=b) (o:=if m=l then off else off+l*sz) (ae-l) (m-l) he;refine cH.ret ar ?_;show aM φ _ _;by_cases hm:m=l
    ·simp only [hm,if_true] at this ⊢
     exact this
    ·simp only [hm,if_false,Addr.ly] at this ⊢
     rw[<-Nat.add_assoc] at this;exact this
  ·cases h
 ·rename_i elem b off len cap hu
  have run:∀(a:Addr) (xL l ae m sz:Nat),bZ P (Instr.sliceBounds true len xL fL ak eZ)=some (l,ae,m)->bZ P (sizeOf elem)=some sz->
    (Instr.sliceAt t (.slice (some a) len xL) fL ak eZ).run P w= .ok (.slice (if m=l then some a else some (a.add (l*sz))) (ae-l) (m-l)) w:=by
   intro a xL l ae m sz ai dV;unfold Instr.sliceAt;refine ei hu ?_;simp only;unfold Instr.slice;refine ei hu ?_;simp only;refine ei ai ?_;simp only;refine ei dV ?_;rfl
  split at h
  ·rename_i l ae m sz k ai dV ao
   cases eA:(Nat.beq k.fO 0||Nat.beq k.fO sz) with
   |false=>rw[eA] at h;cases h
   |true=>
    rw[eA,cN] at h;have aaC:k.fO=0\/k.fO=sz:=by
     simp only [Bool.or_eq_true] at eA;exact eA.imp ep ep
    split at h
    ·rename_i xK
     have both:∀(e:iJ) (xL:Nat),φ b=some e->cap<=xL->cH (iO v) P φ A w (Instr.sliceAt t (.slice (some ⟨e.bJ,e.sh+off,none⟩) len xL) fL ak (some xK)) A:=by
      intro e xL he hle;obtain⟨g1,g2,g3,g4,mb⟩:=zV hle ai;simp only [Option.isSome_some,if_true] at g1 mb;have la:=run ⟨e.bJ,e.sh+off,none⟩ xL l ae m sz g1 dV;refine⟨φ,w,_,la,?_,db.refl ar⟩;cases tn:Nat.beq m l with
      |true=>
       rw[tn,cN,dL] at h;subst h;have yz:m=l:=ep tn;have af:ae-l=0:=by have:=mb trivial;omega
       have ah:m-l=0:=by omega
       rw[aP yz,af,ah];exact .jI _ (λ_=>rfl)
      |false=>
       rw[tn,fI,dL] at h;subst h;have yz:m≠l:=λe=>by subst e;simp at tn
       rw[aV yz,Addr.ly];have:=aM.jk (φ:=φ) (b:=b) (o:=off+l*sz) (ae-l) (m-l) he;rw[<-Nat.add_assoc] at this;exact this
     cases aw with
     |jk _ _ he=>exact both _ _ he (c4 _)
     |jl _ _ c' he q1 aI bS=>exact both _ _ he aI
     |jI bR de=>
      rename_i c';obtain⟨f1,_⟩:=zV (Nat.zero_le c') ai;have la:=run bR c' l ae m sz (by simpa using f1) dV;obtain⟨g1,g2,g3,g4,mb⟩:=zV (c4 _) ai;have:=mb rfl;have bs:l=0:=by omega
      have cw:ae=0:=by omega
      have dD:m=0:=by omega
      subst bs;subst cw;subst dD;refine⟨φ,w,_,la,?_,db.refl ar⟩;simp only [Nat.beq_refl,cN,dL] at h;subst h;simp only [if_true,Nat.sub_self];exact .jI _ (λ_=>rfl)
    ·
     cases Mk:Nat.ble ae m with
     |false=>rw[Mk] at h;cases h
     |true=>
     rw[Mk,cN] at h;have akG:=Nat.ble_eq.mp Mk;obtain⟨g1,g2,g3,g4,mb⟩:=zV (c4 _) ai;have Ml:=g2 rfl;subst Ml;have empty:∀(bR:Addr) (c':Nat),m=l->∀x',(x'=some bR\/∃I5,x'=some I5)->aM φ (.slice (some ⟨dead,1,none⟩) 0 0) (.slice x' (ae-l) (c'-l)):=by
      intro bR c' tn x' tp;rw[show ae-l=0 by omega];rcases tp with rfl|⟨I5,rfl⟩<;>exact .jI _ (λh=>absurd h aL)
     have Mm:∀(p:Prop) [Decidable p] (a b:Addr),∃I5,(if p then some a else some b)=some I5:=λp _ a b=>by
      by_cases hp:p
      ·exact⟨a,aP hp⟩
      ·exact⟨b,aV hp⟩
     cases tn:Nat.beq m l with
     |true=>
      have yz:m=l:=ep tn;rw[tn,cN,dL] at h;subst h;cases aw with
      |jk _ _ he=>
       rename_i e;refine⟨φ,w,_,run ⟨e.bJ,e.sh+off,none⟩ m l ae m sz ai dV,empty ⟨e.bJ,e.sh+off,none⟩ m yz _ (.inr (Mm _ _ _)),db.refl ar⟩
      |jl _ _ c' he q1 aI bS=>
       rename_i e;obtain⟨f1,_⟩:=zV aI ai;exact⟨φ,w,_,run ⟨e.bJ,e.sh+off,none⟩ c' l ae c' sz (by simpa using f1) dV,empty ⟨e.bJ,e.sh+off,none⟩ c' yz _ (.inr (Mm _ _ _)),db.refl ar⟩
      |jI bR de=>
       rename_i c';obtain⟨f1,_⟩:=zV (Nat.zero_le c') ai;exact⟨φ,w,_,run bR c' l ae c' sz (by simpa using f1) dV,empty bR c' yz _ (.inr (Mm _ _ _)),db.refl ar⟩
     |false=>
      have yz:m≠l:=λe=>by subst e;simp at tn
      rw[tn,fI,dL] at h;subst h;cases aw with
      |jk _ _ he=>
       rename_i e;have la:=run ⟨e.bJ,e.sh+off,none⟩ m l ae m sz ai dV;refine⟨φ,w,_,la,?_,db.refl ar⟩;rw[aV yz,Addr.ly];have:=aM.jk (φ:=φ) (b:=b) (o:=off+l*sz) (ae-l) (m-l) he;rw[<-Nat.add_assoc] at this;exact this
      |jl _ _ c' he q1 aI bS=>
       rename_i e;obtain⟨f1,_⟩:=zV aI ai;have la:=run ⟨e.bJ,e.sh+off,none⟩ c' l ae c' sz (by simpa using f1) dV;refine⟨φ,w,_,la,?_,db.refl ar⟩;rw[aV aj,Addr.ly];obtain⟨k',eG,Mh,_⟩:=ar.fi b e he;rw[ao] at eG;cases eG;have ve:e.fO=sz:=by
        rcases aaC with bd|bd
        ·omega
        ·exact Mh.trans bd
       have Mn:l*sz+(c'-l)*sz=c'*sz:=by rw[<-Nat.add_mul];congr 1;omega
       have:=aM.jl (φ:=φ) (b:=b) (o:=off+l*sz) (ae-l) (m-l) (c'-l) he q1 aj (by rw[ve] at bS ⊢;omega);rw[<-Nat.add_assoc] at this;exact this
      |jI bR de=>omega
  ·rename_i l ae m sz ai dV ao
   cases vd:(Nat.beq cap 0&&Nat.beq len 0&&Nat.ble ae m) with
   |false=>rw[vd] at h;cases h
   |true=>
    rw[vd,cN,dL] at h;subst h;simp only [fy] at vd;have bs:cap=0:=ep vd.1.1;have cw:len=0:=ep vd.1.2;have dD:ae<=m:=Nat.ble_eq.mp vd.2;subst bs;subst cw;have Fl:∀e,φ b≠some e:=λe he=>by
     obtain⟨k,eG,_⟩:=ar.fi b e he;rw[ao] at eG;cases eG
    cases aw with
    |jk _ _ he=>exact absurd he (Fl _)
    |jl _ _ c' he q1 aI bS=>exact absurd he (Fl _)
    |jI bR de=>
     rename_i c';obtain⟨g1,g2,g3,g4,mb⟩:=zV (Nat.zero_le c') ai;have la:=run bR c' l ae _ sz g1 dV;refine⟨φ,w,_,la,?_,db.refl ar⟩;have hm:m=0:=by omega
     have bs:l=0:=by omega
     have cw:ae=0:=by omega
     subst hm;subst bs;subst cw;have aA:off=0->(if eZ.isSome=true then 0 else c')-0=0:=λbW=>by
      by_cases Fp:eZ.isSome=true
      ·simp [Fp]
      ·simp [Fp,de bW]
     show aM φ _ (.slice (if (if eZ.isSome=true then 0 else c')=0 then some bR else some (bR.add (0*sz))) 0 ((if eZ.isSome=true then 0 else c')-0));by_cases px:(if eZ.isSome=true then 0 else c')=0
     ·rw[aP px];exact .jI _ aA
     ·rw[aV px];exact .jI _ aA
  ·cases h
 ·cases h
end
end a1
namespace a1
variable [bp]
section
variable {P:bB} {φ:cD} {A bK:bx} {w:aG}
def Mo (P:bB) (A:bx) (eo:Array bq) (dst qx:ad):Option (ad×bx):=
 match eo[0]? with
 |some t=>match bZ P (underlying t) with
  |some (.slice elem)=>match bZ P (sizeOf elem) with
   |some sz=>match dst,qx with
    | .slice (some ⟨b,off,none⟩) vf _,.slice (some ⟨fC,Fq,none⟩) sl _=>
      match A.tj fC Fq (Nat.min sl vf*sz) with
      |some l=>match A.sd b off l with
       |some cg=>some (.int .i64 (Nat.min sl vf),cg)
       |none=>none
      |none=>none
    | .slice (some _) vf _,.slice none sl _=>some (.int .i64 (Nat.min sl vf),A)
    |_,_=>none
   |none=>none
  |_=>none
 |none=>none
theorem aaD (ar:cB φ A w) {eo:Array bq} {ty:bq} {d wu s hA v:ad} (bu:aM φ d wu) (ay:aM φ s hA) (h:Mo P A eo d s=some (v,bK)):cH (iO v) P φ A w (Builtin.copy_ eo ty #[wu,hA]) bK:=by
 unfold Mo at h;split at h
 ·rename_i t bw
  split at h
  ·rename_i elem hu
   split at h
   ·rename_i sz dV
    split at h
    ·rename_i b off vf Fs fC Fq sl se
     split at h
     ·rename_i l az
      split at h
      ·rename_i cg eA
       simp only [dL,Prod.mk.injEq] at h;obtain⟨rfl,rfl⟩:=h;unfold Builtin.copy_;simp only [bw,List.getElem?_toArray,List.getElem?_cons_zero,List.getElem?_cons_succ];refine cH.pre hu ?_;obtain⟨py,n8⟩:=Bg az;have main:∀(e cw:iJ) (n7:Nat),φ b=some e->φ fC=some cw->cH (iO (.int .i64 (Nat.min sl vf))) P φ A w (do
         let n:=Nat.min (<-Builtin.lenOf (.slice (some ⟨cw.bJ,cw.sh+Fq,none⟩) sl n7)) vf
         let cells <-Builtin.firstCells (<-sizeOf elem) n (.slice (some ⟨cw.bJ,cw.sh+Fq,none⟩) sl n7)
         storeCells ⟨e.bJ,e.sh+off,none⟩ cells.toList
         pure (goInt n)) cg:=by
        intro e cw n7 he vg;refine cH.pre (a:=sl) rfl ?_;refine cH.pre dV ?_;refine cH.bind ar (SX ar az vg) λhO w1 cells la hmono ⟨fP,ew⟩=> ?_
        obtain⟨w',g1,g2⟩:=C_ P (hmono _ _ he) l A cg w1 off 0 cells.toList la eA (by simpa using fP) (λj aq=>by
         have:=ew j aq;simp only [gd] at this
         simpa [eP] using this)
        refine⟨hO,w',_,ev (by simpa using g1) rfl,.int _ _,g2⟩
       have zero:∀(a bR:Option Addr) (aaE n7:Nat),Nat.min sl vf*sz=0->Nat.min sl vf=0->cg=A:=by
        intro a bR aaE n7 bd _;rw[bd] at py;have:l=[]:=by simpa using py
        subst this;simpa [bx.sd] using eA.symm
       cases bu with
       |jk _ _ he=>cases ay with
        |jk _ _ vg=>exact main _ _ _ he vg
        |jl _ _ c' vg _ _ _=>exact main _ _ _ he vg
        |jI bR _=>
         have:=zero none none 0 0 (by simp) (by simp);subst this;refine⟨φ,w,.int .i64 0,?_,by simpa using aM.int .i64 0,db.refl ar⟩;simp [kM dV w,Builtin.firstCells,Builtin.lenOf,loadCells,loadCellsFrom,Sem.run,pure,storeCells,goInt]
       |jl _ _ fP he _ _ _=>cases ay with
        |jk _ _ vg=>exact main _ _ _ he vg
        |jl _ _ c' vg _ _ _=>exact main _ _ _ he vg
        |jI bR _=>
         have:=zero none none 0 0 (by simp) (by simp);subst this;refine⟨φ,w,.int .i64 0,?_,by simpa using aM.int .i64 0,db.refl ar⟩;simp [kM dV w,Builtin.firstCells,Builtin.lenOf,loadCells,loadCellsFrom,Sem.run,pure,storeCells,goInt]
       |jI bR _=>
        have:=zero none none 0 0 (by simp) (by simp);subst this;have hlen:∀hA,aM φ (.slice (some ⟨fC,Fq,none⟩) sl se) hA->∃eY ew,hA= .slice (some eY) sl ew:=λhA h=>by
         cases h with
         |jk _ _ h=>exact⟨_,_,rfl⟩
         |jl _ _ _ h _ _ _=>exact⟨_,_,rfl⟩
         |jI bR _=>exact⟨_,_,rfl⟩
        obtain⟨eY,ew,rfl⟩:=hlen hA ay;refine⟨φ,w,.int .i64 0,?_,by simpa using aM.int .i64 0,db.refl ar⟩;simp [kM dV w,Builtin.firstCells,Builtin.lenOf,loadCells,loadCellsFrom,Sem.run,pure,storeCells,goInt]
      ·cases h
     ·cases h
    ·rename_i a vf Fs sl se
     simp only [dL,Prod.mk.injEq] at h;obtain⟨rfl,rfl⟩:=h;have aaF:∃bR c',wu= .slice (some bR) vf c':=by
      cases bu with
      |jk _ _ h=>exact⟨_,_,rfl⟩
      |jl _ _ _ h _ _ _=>exact⟨_,_,rfl⟩
      |jI bR _=>exact⟨_,_,rfl⟩
     obtain⟨bR,c',rfl⟩:=aaF;cases ay;refine⟨φ,w,.int .i64 (Nat.min sl vf),?_,.int _ _,db.refl ar⟩;unfold Builtin.copy_;simp only [bw,List.getElem?_toArray,List.getElem?_cons_zero,List.getElem?_cons_succ];refine ei hu ?_;refine ei (a:=sl) rfl ?_;exact ei dV rfl
    ·cases h
   ·cases h
  ·cases h
 ·cases h
def Mp (P:bB) (A:bx) (t:bq) (len cap:ad):Option (ad×bx):=
 match len,cap with
 | .int _ l,.int _ c=>
   bif decide (0<=l)&&decide (l<=c)&&decide (c<=1048576) then
    match bZ P (underlying t) with
    |some (.slice elem)=>match bZ P (typeInfo elem),bZ P (sizeOf elem),bZ P (zeroValue elem) with
     |some info,some sz,some z=>
      bif Nat.ble info.bytes 65536&&plain z&&(cellsOf z).isSome&&Nat.blt 0 z.cells.size then
       match A.push (.cells ((Array.range (c.toNat*sz)).map (z.cells[· %z.cells.size]!)).toList) 0 elem with
       |some (r,cg)=>some (.slice (some ⟨r,0,none⟩) l.toNat c.toNat,cg)
       |none=>none
      else none
     |_,_,_=>none
    |_=>none
   else none
 |_,_=>none
theorem aaG (ar:cB φ A w) {t:bq} {len cap v:ad} (h:Mp P A t len cap=some (v,bK)):cH (iO v) P φ A w (Instr.makeSlice t len cap) bK:=by
 unfold Mp at h;split at h
 ·rename_i gZ l jn c
  cases ai:(decide (0<=l)&&decide (l<=c)&&decide (c<=1048576)) with
  |false=>rw[ai] at h;cases h
  |true=>
   rw[ai,cN] at h;simp only [fy,decide_eq_true_eq] at ai;obtain⟨⟨fR,fC⟩,iN⟩:=ai;split at h
   ·rename_i elem hu
    split at h
    ·rename_i info sz z ak dV de
     cases mu:(Nat.ble info.bytes 65536&&plain z&&(cellsOf z).isSome&&Nat.blt 0 z.cells.size) with
     |false=>rw[mu] at h;cases h
     |true=>
      rw[mu,cN] at h;simp only [fy] at mu;obtain⟨⟨⟨q1,aI⟩,bS⟩,fo⟩:=mu;have mN:=Nat.ble_eq.mp q1;have tl:=Nat.blt_eq.mp fo;have tk:=IV aI bS φ;split at h
      ·rename_i r cg hp
       simp only [dL,Prod.mk.injEq] at h;obtain⟨rfl,rfl⟩:=h;have wl:IntKind.i64.wrap l=l:=IntWalk.i64_in _ aj;have aaH:IntKind.i64.wrap c=c:=IntWalk.i64_in _ aj;unfold Instr.makeSlice;refine cH.pre hu ?_;simp only;refine cH.pre (a:=l) rfl ?_;refine cH.pre (a:=c) rfl ?_;refine cH.pre ak ?_;have Tj:(info.bytes:Int)*c<=2^48:=by
        have af:(info.bytes:Int)*c<=65536*1048576:=by
         have eL:(info.bytes:Int)<=65536:=by omega
         exact Int.mul_le_mul eL iN aj aj
        have ah:(65536:Int)*1048576<=2^48:=by decide
        omega
       have I6:(decide (c<0)||decide ((info.bytes:Int)*c>2^48)||decide (l<0)||decide (l>c))=false:=by
        simp only [Bool.or_eq_false_iff,decide_eq_false_iff_not];omega
       simp only [wl,aaH];rw[aV (by rw[I6];simp)];refine cH.pre (a:=()) (by unfold askRoom;split<;>rfl) ?_;refine cH.pre dV ?_;have yy:∀j,j<((Array.range (c.toNat*sz)).map (z.cells[· %z.cells.size]!)).size->aM φ (((Array.range (c.toNat*sz)).map (z.cells[· %z.cells.size]!)).getD j undef) (((Array.range (c.toNat*sz)).map (z.cells[· %z.cells.size]!)).getD j undef):=by
        intro j aq;simp at aq;have hm:=Nat.mod_lt j tl;have:=tk (j%z.cells.size) hm;simp only [gd] at this ⊢;simpa [aq,hm,getElem!_pos] using this
       have g_:cH (iO (.slice (some ⟨r,0,none⟩) l.toNat c.toNat)) P φ A w (do
         let a <-newRow elem ((Array.range (c.toNat*sz)).map (z.cells[· %z.cells.size]!))
         pure (.slice (some a) l.toNat c.toNat)) cg:=by
        obtain⟨dI,w',g1,g2,g3,_⟩:=Db ar P elem hp (c':=(Array.range (c.toNat*sz)).map (z.cells[· %z.cells.size]!)) (by simp) (λ_=>by simp) (λj aq=>by
         have:=yy j (by simpa using aq);simp only [gd] at this;simp only [eP,Array.getElem?_toList,gd]
         exact this)
        refine⟨dI,w',_,ev g1 rfl,?_,g3⟩;have:=aM.jk (φ:=dI) (b:=r) (o:=0) l.toNat c.toNat g2;simpa using this
       by_cases aT:c.toNat*sz=0
       ·simp only [aT,if_true] at g_ ⊢
        refine cH.pre (a:= #[]) rfl ?_;have b4:∀f:Nat->ad,(Array.range 0).map f= #[]:=λf=>by simp
        rw[b4] at g_ ⊢;exact g_
       ·simp only [aT,if_false]
        refine cH.pre de ?_;refine cH.pre (a:=z.cells) rfl ?_;exact g_
      ·cases h
    ·cases h
   ·cases h
 ·cases h
def Mq (P:bB) (A:bx) (eo:Array bq) (x:ad):Option ad:=
 match eo[0]? with
 |some t=>match bZ P (underlying t),x with
  |some (.slice _),.slice _ n _=>some (.int .i64 n)
  |some (.map _ _),.map none=>some (.int .i64 0)
  |some (.map _ _),.map (some b)=>match A.bl.get b with
   |some {obj:= .map es _,..}=>some (.int .i64 es.length)
   |_=>none
  |some (.array n _),_=>some (.int .i64 n)
  |_,_=>none
 |none=>none
omit [bp] in
theorem tq {o:Obj} {r:Nat} (h:w.heap[r]? =some o) (aA:∀c t f,o≠.cells c t f):(getObj r).run P w= .ok o w:=by
 unfold getObj;simp only [Sem.run,h]
theorem aaI (ar:cB φ A w) {eo:Array bq} {ty:bq} {x x' v:ad} (aw:aM φ x x') (h:Mq P A eo x=some v):cH (iO v) P φ A w (Builtin.len_ eo ty #[x']) A:=by
 unfold Mq at h;split at h
 ·rename_i t bw
  unfold Builtin.len_;simp only [bw,List.getElem?_toArray,List.getElem?_cons_zero];split at h
  ·rename_i e a n c hu
   simp only [dL] at h;subst h;refine cH.pre hu ?_;have:∃eY ew,x'= .slice eY n ew:=by cases aw<;>exact⟨_,_,rfl⟩
   obtain⟨eY,ew,rfl⟩:=this;exact cH.ret ar (.int _ _)
  ·rename_i k e hu
   simp only [dL] at h;subst h;refine cH.pre hu ?_;cases aw;exact cH.ret ar (.int _ _)
  ·rename_i k e b hu
   split at h
   ·rename_i es fA dG pos st ro ty' ai
    simp only [dL] at h;subst h;refine cH.pre hu ?_;cases aw with
    |map he=>
     obtain⟨fE,ao,_,bW⟩:=ar.fi b _ he;rw[ai] at ao;cases ao;simp only [gL] at bW;obtain⟨eu,af,ah,_⟩:=bW;refine⟨φ,w,.int .i64 es.length,ev (tq af (by simp)) ?_,.int _ _,db.refl ar⟩;simp only [goInt,ah];rfl
   ·cases h
  ·rename_i n e hu
   simp only [dL] at h;subst h;refine cH.pre hu ?_;exact cH.ret ar (.int _ _)
  ·cases h
 ·cases h
end
end a1
namespace a1
variable [bp]
section
variable {P:bB} {φ:cD} {A bK:bx} {w:aG}
def Mr (cells:Array ad):Sem ad:=do
 let mut s:=ByteArray.empty
 for c in cells do
  let .int .u8 n:=c|stuck "bytesToString: byte expected"
  s:=s.push (UInt8.ofNat n.toNat)
 pure (.string s)
omit [bp] in
theorem Tk (a:Addr) (len c:Nat):Conv.bytesToString (.slice (some a) len c)=loadCells a len >>= Mr:=rfl
def Ms (P:bB) (A:bx):ad->Option ad
 | .slice none _ _=>some (.string .empty)
 | .slice (some ⟨b,off,none⟩) n _=>bif Nat.beq n 0 then some (.string .empty) else match A.tj b off n with
   |some l=>bif qt l then match bZ P (Mr ⟨l⟩) with
    |some (.string s)=>some (.string s)
    |_=>none
    else none
   |none=>none
 |_=>none
theorem aaJ (ar:cB φ A w) {x x' v:ad} (aw:aM φ x x') (h:Ms P A x=some v):cH (iO v) P φ A w (Conv.bytesToString x') A:=by
 unfold Ms at h;split at h
 ·simp only [dL] at h
  subst h;cases aw;exact cH.ret ar (.string _)
 ·rename_i b off n c
  have Tl:∀(a:Addr) (c:Nat),(Conv.bytesToString (.slice (some a) 0 c)).run P w= .ok (.string .empty) w:=λa c=>by
   rw[Tk];simp [loadCells,loadCellsFrom,Mr,Sem.run,pure]
  have main:∀(e:iJ) (c':Nat),φ b=some e->cH (iO v) P φ A w (Conv.bytesToString (.slice (some ⟨e.bJ,e.sh+off,none⟩) n c')) A:=by
   intro e c' he;cases aT:Nat.beq n 0 with
   |true=>
    rw[aT,cN,dL] at h;subst h;have:n=0:=ep aT;subst this;exact⟨φ,w,_,Tl _ _,.string _,db.refl ar⟩
   |false=>
    rw[aT,fI] at h;split at h
    ·rename_i l az
     cases hp:qt l with
     |false=>rw[hp] at h;cases h
     |true=>
      rw[hp,cN] at h;split at h
      ·rename_i s ay
       simp only [dL] at h;subst h;rw[Tk];obtain⟨dC,af,ah,aH⟩:=Fa ar P az he;have:dC=⟨l⟩:=by
        obtain⟨l'⟩:=dC;have:=aM.Fc l l' hp (by simpa using ah.symm) (λi ak=>by simpa using aH i ak);rw[this]
       subst this;exact⟨φ,w,_,ev af (kM ay w),.string _,db.refl ar⟩
      ·cases h
    ·cases h
  cases aw with
  |jk _ _ he=>exact main _ _ he
  |jl _ _ c' he _ _ _=>exact main _ _ he
  |jI bR _=>
   rw[Nat.beq_refl,cN,dL] at h;subst h;exact⟨φ,w,_,Tl _ _,.string _,db.refl ar⟩
 ·cases h
def Mt (A:bx) (elem:bq) (s:ByteArray):Option (ad×bx):=
 match A.push (.cells (s.data.toList.map λb=> .int .u8 b.toNat)) 1 elem with
 |some (r,cg)=>some (.slice (some ⟨r,0,none⟩) s.size s.size,cg)
 |none=>none
theorem aaK (ar:cB φ A w) {elem:bq} {s:ByteArray} {v:ad} (h:Mt A elem s=some (v,bK)):cH (iO v) P φ A w (Conv.stringToBytes elem s) bK:=by
 unfold Mt at h;split at h
 ·rename_i r cg hp
  simp only [dL,Prod.mk.injEq] at h;obtain⟨rfl,rfl⟩:=h;unfold Conv.stringToBytes
  let cap:=(Question.appendCap s.size 0 elem).cut (w.tape w.drawn (.appendCap s.size 0 elem))
  have mM:s.size<=cap:=by simp [cap,Question.cut]
  let row:Array ad:=(s.data.map λb=>Value.int .u8 b.toNat)++Array.replicate (cap-s.size) (.int .u8 0)
  have pw:row.size=cap:=by
   simp only [row,Array.size_append,Array.size_map,Array.size_replicate];have:s.data.size=s.size:=rfl;omega
  have la:=L_ ar (w.drawn+1);have aaL:=(la.wf.push hp).2.1;have st:=C9 (o':= .cells row elem (cap,cap+1)) (e:=⟨w.heap.size,0,1,cap⟩) la hp J J (by
   simp only [gL];refine⟨row,(cap,cap+1),by simp,pw.symm,⟨by simp only [List.length_map,Nat.zero_add,Array.length_toList];rw[pw];exact mM,λh=>absurd h aL⟩,λj aq=> ?_,λ_ i ak=>by rw[pw] at ak;simp;omega⟩;simp only [List.length_map,Array.length_toList] at aq;simp only [eP,gd,Nat.zero_add,row];rw[Array.getElem?_append_left (by simpa using aq)];simp only [List.getElem?_map,Array.getElem?_toList,Array.getElem?_map,Array.getElem?_eq_getElem aq,Option.map_some,Option.getD_some]
   exact .int _ _)
  refine⟨_,_,.slice (some ⟨w.heap.size,0,none⟩) s.size cap,?_,?_,db.trans ar (db.zR ar (w.drawn+1)) st⟩
  ·refine ev (w1:={w with drawn:=w.drawn+1}) (a:=cap) (by simp [choose,Sem.run,Question.forced,cap]) ?_
   refine ev (a:=(⟨w.heap.size,0,none⟩:Addr)) (by simp only [newRow,newObj];rfl) ?_;have Bo:({w with drawn:=w.drawn+1,heap:=w.heap.push (.cells row elem)}:aG).shape? w.heap.size=some (elem,cap):=by
    simp [World.shape?,pw]
   refine ev (w1:={w with drawn:=w.drawn+1,heap:=w.heap.push (.cells row elem (cap,cap+1))}) (a:=()) ?_ rfl;unfold markStringish;refine ev (a:=some (elem,cap)) (by simp only [shape,Sem.run];exact congrArg (Result.ok · _) Bo) ?_;simp only [freeze,Sem.run,World.freeze];rw[aV aj];refine congrArg (Result.ok ()) ?_;simp only [World.mk.injEq,and_true,true_and];apply Array.ext_getElem?;intro i;rw[Array.getElem?_modify];split
   ·rename_i ak
    subst ak;simp [row]
   ·rename_i ak
    rw[Array.getElem?_push,Array.getElem?_push];rw[aV (Ne.symm ak),aV (Ne.symm ak)]
  ·subst aaL
   have:=aM.jl (φ:=ij φ A.n ⟨w.heap.size,0,1,cap⟩) (b:=A.n) (o:=0) (e:=⟨w.heap.size,0,1,cap⟩) s.size s.size cap (by simp [ij]) (c4 _) mM (by simp);simpa using this
 ·cases h
def Dg (P:bB) (t:bq) (x y:ad):Option Bool:=
 match bZ P (underlying t),x,y with
 |some (.pointer _),.pointer (some _),.pointer none=>some false
 |some (.pointer _),.pointer none,.pointer (some _)=>some false
 |some (.pointer e),.pointer (some ⟨b,o,none⟩),.pointer (some ⟨b',o',none⟩)=>match bZ P (sizeOf e) with
  |some n=>bif Nat.beq b b'&& !Nat.beq n 0 then some (Nat.beq o o') else none
  |none=>none
 |some (.slice _),.slice (some _) _ _,.slice none _ _=>some false
 |some (.slice _),.slice none _ _,.slice (some _) _ _=>some false
 |some (.map _ _),.map (some _),.map none=>some false
 |some (.map _ _),.map none,.map (some _)=>some false
 |some (.interface _),.iface _ _,.nilIface=>some false
 |some (.interface _),.nilIface,.iface _ _=>some false
 |some (.func _ _ _),.func _ _ _,.nilFunc=>some false
 |some (.func _ _ _),.nilFunc,.func _ _ _=>some false
 |_,_,_=>none
theorem Tm {t:bq} {x x' y gQ:ad} {r:Bool} (aw:aM φ x x') (hy:aM φ y gQ) (h:Dg P t x y=some r):(Op.equal t x' gQ).run P w= .ok r w/\∀op (eU fj:Operand),(eqGuard op t eU fj x' gQ).run P w= .ok () w:=by
 unfold Dg at h;have guard:∀(x' gQ:ad),(¬(x'= .nilIface/\gQ= .nilIface))->(¬∃a b,x'= .agg a/\gQ= .agg b)->∀op (eU fj:Operand),(eqGuard op t eU fj x' gQ).run P w= .ok () w:=by
  intro x' gQ af ah op eU fj;unfold eqGuard;by_cases eb:op= .eql\/op= .neq
  ·cases x'<;>cases gQ<;>rcases eb with rfl|rfl<;>first|rfl|exact absurd ⟨rfl,rfl⟩ af|exact absurd ⟨_,_,rfl,rfl⟩ ah
  ·cases op<;>first|rfl|exact absurd (.inl rfl) eb|exact absurd (.inr rfl) eb
 split at h
 all_goals try (cases h;done)
 all_goals rename_i hu
 ·simp only [dL] at h
  subst h;cases aw with
  |ptr he=>cases hy;exact⟨by unfold Op.equal Op.maxDepth Op.equalIn;exact ei hu rfl,guard _ _ (by simp) (by simp)⟩
 ·simp only [dL] at h
  subst h;cases hy with
  |ptr he=>cases aw;exact⟨by unfold Op.equal Op.maxDepth Op.equalIn;exact ei hu rfl,guard _ _ (by simp) (by simp)⟩
 ·split at h
  ·rename_i b o b' o' akH n aT
   cases ai:(Nat.beq b b'&& !Nat.beq n 0) with
   |false=>rw[ai] at h;cases h
   |true=>
    rw[ai,cN,dL] at h;subst h;simp only [fy,Bool.not_eq_true'] at ai;have qy:b=b':=ep ai.1;subst qy;have hh:n≠0:=λe=>by subst e;simp at ai
    cases aw with
    |ptr he=>cases hy with
     |ptr vg=>
      rw[he] at vg;cases vg;refine⟨?_,guard _ _ (by simp) (by simp)⟩;unfold Op.equal Op.maxDepth Op.equalIn;refine ei hu ?_;simp only;refine ei aT ?_;rw[aP hh];unfold sameAddr;simp only [beq_self_eq_true,if_true];show Result.ok _ w=Result.ok _ w;congr 1;by_cases Mu:o=o'
      ·subst Mu;simp
      ·have af:Nat.beq o o'=false:=by
        cases ae:Nat.beq o o' with
        |false=>rfl
        |true=>exact absurd (ep ae) Mu
       rw[af];simp [Mu]
  ·cases h
 all_goals simp only [dL] at h
 all_goals subst h
 all_goals cases aw<;>cases hy<;>exact⟨by unfold Op.equal Op.maxDepth Op.equalIn;exact ei hu rfl,guard _ _ (by simp) (by simp)⟩
def Mv (P:bB) (op:BinOp) (t:bq) (x y:ad):Option ad:=
 match op with
 | .eql=>(Dg P t x y).map .bool
 | .neq=>(Dg P t x y).map λb=> .bool !b
 |_=>none
theorem aaM (ar:cB φ A w) {op:BinOp} {t:bq} {eU fj:Operand} {x x' y gQ v:ad} (aw:aM φ x x') (hy:aM φ y gQ) (h:Mv P op t x y=some v):cH (iO v) P φ A w (do eqGuard op t eU fj x' gQ;binOp op t x' gQ) A:=by
 unfold Mv at h;have Tn:∀r,Dg P t x y=some r->(binOp .eql t x' gQ=do pure (.bool (<-Op.equal t x' gQ)))/\(binOp .neq t x' gQ=do pure (.bool (!(<-Op.equal t x' gQ)))):=by
  intro r ay;unfold Dg at ay;split at ay
  all_goals try (cases ay;done)
  all_goals cases aw<;>cases hy<;>exact⟨rfl,rfl⟩
 split at h
 ·obtain⟨r,ay,rfl⟩:=Option.map_eq_some_iff.1 h
  obtain⟨af,ah⟩:=Tm (P:=P) (w:=w) aw hy ay;refine⟨φ,w,.bool r,ev (ah _ _ _) ?_,.bool _,db.refl ar⟩;rw[(Tn r ay).1];exact ev af rfl
 ·obtain⟨r,ay,rfl⟩:=Option.map_eq_some_iff.1 h
  obtain⟨af,ah⟩:=Tm (P:=P) (w:=w) aw hy ay;refine⟨φ,w,.bool !r,ev (ah _ _ _) ?_,.bool _,db.refl ar⟩;rw[(Tn r ay).2];exact ev af rfl
 ·cases h
def I7:TypeDesc->Bool
 | .interface _=>true
 |_=>false
def Mw (P:bB) (t:bq) (x:ad):Option ad:=
 match bZ P (underlying t) with
 |some d=>bif I7 d then none else some (.iface t x)
 |none=>none
theorem aaN (ar:cB φ A w) {t:bq} {x x' v:ad} (aw:aM φ x x') (h:Mw P t x=some v):cH (iO v) P φ A w (Instr.makeInterface t x') A:=by
 unfold Mw at h;split at h
 ·rename_i d hu
  cases bu:I7 d with
  |true=>rw[bu] at h;cases h
  |false=>
   rw[bu,fI,dL] at h;subst h;unfold Instr.makeInterface;refine cH.pre hu ?_;cases d<;>first|(cases bu;done)|exact cH.ret ar (.iface _ aw)
 ·cases h
def Mx (P:bB) (x:ad) (asserted:bq) (ok:Bool):Option ad:=
 match bZ P (underlying asserted),x with
 |some (.interface want),.iface t _=>match bZ P (typeInfo t) with
  |some info=>match Instr.missingMethod want info.methods with
   |none=>some (if ok then .tuple #[x,.bool true] else x)
   |some _=>none
  |none=>none
 |some d,.iface t v=>bif I7 d then none else
   if t=asserted then some (if ok then .tuple #[v,.bool true] else v) else
    bif ok then match bZ P (zeroValue asserted) with
     |some z=>bif plain z then some (.tuple #[z,.bool false]) else none
     |none=>none
    else none
 |_,_=>none
theorem My {a bR:ad} (h:aM φ a bR) (b:Bool):aM φ (.tuple #[a,.bool b]) (.tuple #[bR,.bool b]):= .tuple _ _ rfl λi ak=>by
 have:i=0\/i=1:=by simp at ak;omega
 rcases this with rfl|rfl
 ·simpa using h
 ·simpa using aM.bool b
theorem aaO (ar:cB φ A w) {x x' v:ad} {Tp asserted:bq} {ok:Bool} (aw:aM φ x x') (h:Mx P x asserted ok=some v):cH (iO v) P φ A w (Instr.typeAssert x' Tp asserted ok) A:=by
 unfold Mx at h;split at h
 ·rename_i want t u hu
  split at h
  ·rename_i info ak
   split at h
   ·rename_i hm
    simp only [dL] at h;subst h;cases aw with
    |iface t aR=>
     unfold Instr.typeAssert;refine cH.pre hu ?_;simp only;refine cH.pre ak ?_;simp only [hm];refine cH.ret ar ?_;cases ok
     ·exact .iface t aR
     ·exact My (.iface t aR) true
   ·cases h
  ·cases h
 ·rename_i d t u _ hu
  cases bu:I7 d with
  |true=>rw[bu] at h;cases h
  |false=>
   rw[bu,fI] at h;cases aw with
   |iface t aR=>
    unfold Instr.typeAssert;refine cH.pre hu ?_;by_cases bw:t=asserted
    ·rw[aP bw,dL] at h
     subst h;cases d<;>first
      |(cases bu;done)
      |(simp only [aP bw]
        refine cH.ret ar ?_;cases ok
        ·exact aR
        ·exact My aR true)
    ·rw[aV bw] at h
     cases ok with
     |false=>cases h
     |true=>
      rw[cN] at h;split at h
      ·rename_i z de
       cases hp:plain z with
       |false=>rw[hp] at h;cases h
       |true=>
        rw[hp,cN,dL] at h;subst h;cases d<;>first
          |(cases bu;done)
          |(simp only [aV bw,if_true]
            refine cH.pre de ?_
            exact cH.ret ar (My (aM.lv φ z hp) false))
      ·cases h
 ·cases h
end
end a1
namespace a1
variable [bp]
class Lib (P:bB) where
 same:List FuncId
 Tq:∀f∈same,∀x:ad,bZ P (callFunc f #[x])=some (.value x)
 Mz:List (FuncId×bq)
 Tr:∀p∈Mz,∃ps Bp t,(∀n w,(callFunc p.1 #[.int .i64 n]).run P w=(do pure (Next.value (<-Extern.BytealgMakeNoZero.makeNoZero ps Bp #[.int .i64 n])):Sem Next).run P w)/\Bp[0]? =some t/\bZ P (underlying t)=some (.slice p.2)
section
variable {P:bB} {φ:cD} {A bK:bx} {w:aG}
omit [bp] in
theorem I8 {r:Nat} {c:Array ad} {t:bq} {f:Nat×Nat} (h:w.heap[r]? =some (.cells c t f)):(shape r).run P w= .ok (some (t,c.size)) w:=by
 simp only [shape,Sem.run,World.shape?,h]
omit [bp] in
theorem Ts {a:Addr} {c:Array ad} {t:bq} {f:Nat×Nat} (h:w.heap[a.block]? =some (.cells c t f)):(Conv.seenAt a).run P w= .ok a w:=by
 unfold Conv.seenAt viewAt;refine ev (a:=none) (ev (I8 h) rfl) rfl
def MA (P:bB) (A:bx) (qx dst:bq) (x:ad):Option ad:=
 match bZ P (underlying qx),bZ P (underlying dst),x with
 |some (.pointer t),some .unsafePointer,.pointer (some ⟨b,off,none⟩)=>match bZ P (sizeOf t),A.bl.get b with
  |some n,some k=>match k.obj with
   | .cells c=>bif Nat.beq n 0|| !Nat.blt off c.length then none else some (.pointer (some ⟨b,off,none⟩))
   |_=>none
  |_,_=>none
 |some .unsafePointer,some (.pointer u),.pointer (some ⟨b,off,none⟩)=>match bZ P (sizeOf u),A.bl.get b with
  |some _,some k=>match k.obj with
   | .cells c=>bif Nat.beq k.fO 0&&liesAt P P.depth k.ty (c.length/P.cellsOf k.ty) off u 1 then some (.pointer (some ⟨b,off,none⟩)) else none
   |_=>none
  |_,_=>none
 |_,_,_=>none
theorem aaP (ar:cB φ A w) {qx dst:bq} {x x' v:ad} (aw:aM φ x x') (h:MA P A qx dst x=some v):cH (iO v) P φ A w (convert qx dst x') A:=by
 unfold MA at h;split at h
 ·rename_i t b off ay bu
  split at h
  ·rename_i n k aT ao
   split at h
   ·rename_i c gF
    cases aA:(Nat.beq n 0|| !Nat.blt off c.length) with
    |true=>rw[aA] at h;cases h
    |false=>
     rw[aA,fI,dL] at h;subst h;simp only [Bool.or_eq_false_iff,Bool.not_eq_false'] at aA;have akI:off<c.length:=Nat.blt_eq.mp aA.2;have hh:n≠0:=λe=>by subst e;simp at aA
     cases aw with
     |ptr he=>
      rename_i e;obtain⟨k',eG,_,bW⟩:=ar.fi b e he;rw[ao] at eG;cases eG;unfold gL at bW;simp only [gF] at bW;obtain⟨c',j5,af,ah,aH,ck,dd⟩:=bW;refine⟨φ,w,.pointer (some ⟨e.bJ,e.sh+off,none⟩),?_,.ptr he,db.refl ar⟩;unfold convert;refine ei ay (ei bu ?_);show (Conv.unsafePointer qx dst (.pointer (some ⟨e.bJ,e.sh+off,none⟩))).run P w=_;unfold Conv.unsafePointer;refine ei ay (ei bu ?_);simp only;refine ev (Ts af) ?_;refine ev (a:=some c'.size) (by unfold cellsIn;exact ev (I8 af) rfl) ?_;refine ei aT ?_;have lJ:¬(c'.size<=e.sh+off):=by omega
      simp only [hh,decide_false,ge_iff_le,lJ,Bool.false_and,Bool.or_false,Bool.false_eq_true,if_false];rfl
   ·cases h
  ·cases h
 ·rename_i u b off ay bu
  split at h
  ·rename_i akJ k aaQ ao
   split at h
   ·rename_i c gF
    cases aA:(Nat.beq k.fO 0&&liesAt P P.depth k.ty (c.length/P.cellsOf k.ty) off u 1) with
    |false=>rw[aA] at h;cases h
    |true=>
     rw[aA,cN,dL] at h;subst h;simp only [fy] at aA;have eA:k.fO=0:=ep aA.1;cases aw with
     |ptr he=>
      rename_i e;obtain⟨k',eG,_,bW⟩:=ar.fi b e he;rw[ao] at eG;cases eG;unfold gL at bW;simp only [gF] at bW;obtain⟨c',j5,af,ah,aH,ck,dd⟩:=bW;obtain⟨Bo,dV⟩:=aH.2 eA;have MB:liesAt P P.depth k.ty (c'.size/P.cellsOf k.ty) (e.sh+off) u 1=true:=by rw[Bo,Nat.zero_add,<-dV];exact aA.2
      refine⟨φ,w,.pointer (some ⟨e.bJ,e.sh+off,none⟩),?_,.ptr he,db.refl ar⟩;unfold convert;refine ei ay (ei bu ?_);show (Conv.unsafePointer qx dst (.pointer (some ⟨e.bJ,e.sh+off,none⟩))).run P w=_;unfold Conv.unsafePointer;refine ei ay (ei bu ?_);simp only;refine ev (Ts af) ?_;have aR:(variablesAt ⟨e.bJ,e.sh+off,none⟩ u 1).run P w= .ok true w:=by
       unfold variablesAt;refine ei (a:=P) rfl ?_;refine ev (I8 af) ?_;simp only [MB];rfl
      refine ei aaQ ?_;refine ev aR ?_;simp only [Bool.or_true,if_true];rfl
   ·cases h
  ·cases h
 ·cases h
def MC (A:bx) (elem:bq) (n:Int):Option (ad×bx):=
 bif decide (0<=n)&&decide (n<=524288) then
  match A.push (.cells (List.replicate n.toNat c3)) 1 elem with
  |some (r,cg)=>some (.slice (some ⟨r,0,none⟩) n.toNat n.toNat,cg)
  |none=>none
 else none
omit [bp] in
theorem Tt:∀(n t:Nat) (acc:Array ad),(Extern.BytealgMakeNoZero.digits n t acc).size=acc.size+n
 |0,_,_=>rfl
 |n+1,t,acc=>by
  unfold Extern.BytealgMakeNoZero.digits;rw[Tt n];simp;omega
theorem aaR (ar:cB φ A w) {ps Bp:Array bq} {t elem:bq} {n:Int} {v:ad} (bw:Bp[0]? =some t) (hu:bZ P (underlying t)=some (.slice elem)) (h:MC A elem n=some (v,bK)):
  cH (iO v) P φ A w (Extern.BytealgMakeNoZero.makeNoZero ps Bp #[.int .i64 n]) bK:=by
 unfold MC at h;cases aA:(decide (0<=n)&&decide (n<=524288)) with
 |false=>rw[aA] at h;cases h
 |true=>
  rw[aA,cN] at h;simp only [fy,decide_eq_true_eq] at aA;split at h
  ·rename_i r cg hp
   simp only [dL,Prod.mk.injEq] at h;obtain⟨rfl,rfl⟩:=h
   let q:Question:= .appendCap n.toNat 0 elem
   let cap:=q.cut (w.tape w.drawn q)
   have mM:n.toNat<=cap:=by simp [cap,q,Question.cut]
   let aI:Question:= .extern "internal/bytealg.MakeNoZero.bytes" 0
   have la:cB φ A {w with drawn:=w.drawn+1+1}:=(db.zR ar (w.drawn+1+1)).rel
   let row:=Extern.BytealgMakeNoZero.digits cap (aI.cut (w.tape (w.drawn+1) aI)) #[]
   have pw:row.size=cap:=by simp [row,Tt]
   obtain⟨dI,w',g1,g2,g3,g4⟩:=Db la P (c':=row) elem hp (by rw[pw,nz];exact mM) (λh=>absurd h aL) (λj aq=>by
    rw[eP,List.getElem?_replicate,aP (by simpa using aq)]
    exact .c3 _)
   refine⟨dI,w',.slice (some ⟨w.heap.size,0,none⟩) n.toNat cap,?_,?_,db.trans ar (db.zR ar (w.drawn+1+1)) g3⟩
   ·obtain⟨Tu⟩:=Bp
    obtain⟨rest,rfl⟩:∃rest,Tu=t::rest:=by
     cases Tu with
     |nil=>simp at bw
     |cons a r=>simp at bw;exact⟨r,by rw[bw]⟩
    refine ei (s:=underlying t) hu ?_;simp only;rw[aV (by simp;omega)];refine ev (w1:={w with drawn:=w.drawn+1}) (a:=cap) (by simp [choose,Sem.run,Question.forced,cap,q]) ?_;refine ev (w1:={w with drawn:=w.drawn+1}) (a:=()) (by unfold askRoom;split<;>rfl) ?_;refine ev (w1:={w with drawn:=w.drawn+1+1}) (a:=aI.cut (w.tape (w.drawn+1) aI)) (by simp only [choose,Sem.run];rfl) ?_;exact ev g1 rfl
   ·have:=aM.jl (φ:=dI) (b:=r) (o:=0) n.toNat n.toNat cap g2 (c4 _) mM (by simp [pw])
    simpa using this
  ·cases h
def MD:List ad->ByteArray->Option ByteArray
 |[],acc=>some acc
 | .int .u8 b::r,acc=>MD r (acc.push b.toNat.toUInt8)
 |_::_,_=>none
theorem aaS (ar:cB φ A w) {b:Nat} {e:iJ} (he:φ b=some e):∀(l:List ad) (off:Nat) (acc s:ByteArray),(∀j,j<l.length->A.load b (off+j)=some (l.getD j undef))->MD l acc=some s->
  (loadBytes ⟨e.bJ,e.sh+off,none⟩ acc l.length).run P w= .ok s w:=by
 intro l
 induction l with
 |nil=>
  intro off acc s _ h;cases h;rfl
 |cons v r eJ=>
  intro off acc s az h;cases v with
  |int k x=>
   cases k<;>try (cases h;done)
   have bd:=az 0 (by simp);obtain⟨v',af,ah⟩:=wg ar bd he;simp only [List.getD_cons_zero] at ah;cases ah;have S2:w.cell? ⟨e.bJ,e.sh+off,none⟩=some (.int .u8 x):=by simpa using af
   have xH:∀j,j<r.length->A.load b (off+1+j)=some (r.getD j undef):=λj aq=>by
    have:=az (j+1) (by simpa using aq);rw[show off+(j+1)=off+1+j by omega] at this;simpa using this
   have:=eJ (off+1) (acc.push x.toNat.toUInt8) s xH h;show (loadBytes _ acc (r.length+1)).run P w=_;unfold loadBytes;refine ev (a:= .int .u8 x) (w1:=w) (by simp [Go.load,Sem.run,S2]) ?_;simp only [Addr.ly];rw[Nat.add_assoc];exact this
  |_=>cases h
def Dh (dG:Nat):List Nat->cK iX->Option (cK iX)
 |[],t=>some t
 |m::r,t=>match t.get m with
  |some k=>bif Nat.beq k.dG dG then
    match cK.set {k with ro:=true} depth t m with
    |some fk=>Dh dG r fk
    |none=>none
   else Dh dG r t
  |none=>Dh dG r t
def wv (dG:Nat) (k:iX):iX:=bif Nat.beq k.dG dG then {k with ro:=true} else k
omit [bp] in
theorem aaT (dG:Nat) (k:iX):wv dG (wv dG k)=wv dG k:=by
 unfold wv;cases h:Nat.beq k.dG dG<;>simp [h]
omit [bp] in
theorem I9 (dG:Nat):∀(l:List Nat) (t fk:cK iX),Dh dG l t=some fk->∀j,fk.get j=if j∈l then (t.get j).map (wv dG) else t.get j
 |[],t,fk,h,j=>by cases h;simp
 |m::r,t,fk,h,j=>by
  unfold Dh at h;split at h
  ·rename_i k ao
   cases bn:Nat.beq k.dG dG with
   |true=>
    rw[bn,cN] at h;split at h
    ·rename_i t1 aaU
     have hz:=λj=>cK.pq _ _ _ _ _ j aaU
     have oB:({k with ro:=true}:iX)=wv dG k:=by simp [wv,bn]
     rw[I9 dG r t1 fk h j,hz];by_cases fZ:j=m
     ·subst fZ
      rw[aP rfl,aP List.mem_cons_self,ao,oB];split
      ·simp [aaT]
      ·rfl
     ·rw[aV fZ]
      have:(j∈m::r)↔j∈r:=by simp [fZ]
      simp only [this]
    ·cases h
   |false=>
    rw[bn,fI] at h;rw[I9 dG r t fk h j];by_cases fZ:j=m
    ·subst fZ
     rw[aP List.mem_cons_self,ao];have:wv dG k=k:=by simp [wv,bn]
     split<;>simp [this]
    ·have:(j∈m::r)↔j∈r:=by simp [fZ]
     simp only [this]
  ·rename_i ao
   rw[I9 dG r t fk h j];by_cases fZ:j=m
   ·subst fZ
    rw[aP List.mem_cons_self,ao];split<;>rfl
   ·have:(j∈m::r)↔j∈r:=by simp [fZ]
    simp only [this]
def bx.freeze (A:bx) (k:iX):Option bx:=
 match A.mem.get k.dG with
 |some l=>match Dh k.dG l A.bl with
  |some t=>some {A with bl:=t,low:=l.foldl Nat.min A.low}
  |none=>none
 |none=>none
theorem aaV (ar:cB φ A w) {b n:Nat} {k:iX} {c:List ad} {e:iJ} (off:Nat) (ao:A.bl.get b=some k) (gF:k.obj= .cells c) (ih:k.ro=false) (he:φ b=some e) (h:A.freeze k=some bK):
  db φ A w φ bK (w.freeze ⟨e.bJ,e.sh+off,none⟩ n):=by
 unfold bx.freeze at h;split at h
 ·rename_i l az
  split at h
  ·rename_i t bw
   cases h;have hz:=I9 _ _ _ _ bw;obtain⟨n3,aaW⟩:=IM l A.low;obtain⟨fe,ji,_,bW⟩:=ar.fi b e he;rw[ao] at ji;cases ji;unfold gL at bW;simp only [gF] at bW;obtain⟨c',j5,af,ah,aH,ck,dd⟩:=bW;have hI:∀j eM,t.get j=some eM->∃cU,A.bl.get j=some cU/\eM.dG=cU.dG/\eM.pos=cU.pos/\eM.fO=cU.fO/\eM.ty=cU.ty/\eM.obj=cU.obj/\eM.ro=(cU.ro||Nat.beq cU.dG k.dG):=by
    intro j eM aq;rw[hz] at aq;by_cases lL:j∈l
    ·rw[aP lL] at aq
     obtain⟨cU,q1,rfl⟩:=Option.map_eq_some_iff.1 aq;refine⟨cU,q1,?_⟩;unfold wv;cases bn:Nat.beq cU.dG k.dG<;>simp
    ·rw[aV lL] at aq
     refine⟨eM,aq,rfl,rfl,rfl,rfl,rfl,?_⟩;cases bn:Nat.beq eM.dG k.dG with
     |false=>simp
     |true=>
      exfalso;obtain⟨l',q1,aI⟩:=ar.wf.mem j eM aq;rw[ep bn,az] at q1;cases q1;exact lL aI
   have rG:∀i,i≠e.bJ->(w.freeze ⟨e.bJ,e.sh+off,none⟩ n).heap[i]? =w.heap[i]? :=λi ak=>by
    unfold World.freeze;split
    ·rfl
    ·simp only [Array.getElem?_modify]
     rw[aV (Ne.symm ak)]
   have ME:∃I',(w.freeze ⟨e.bJ,e.sh+off,none⟩ n).heap[e.bJ]? =some (.cells c' k.ty I'):=by
    unfold World.freeze;split
    ·exact⟨j5,af⟩
    ·simp only [Array.getElem?_modify,aP,af,Option.map_some]
     exact⟨_,rfl⟩
   obtain⟨I',ME⟩:=ME;refine {rel:=⟨⟨?_,?_,?_,?_⟩,?_,?_,?_,λi o ak=>⟨by rw[rG i (Ne.symm ((ar.dz i o ak).2 _ _ he))];exact(ar.dz i o ak).1,(ar.dz i o ak).2⟩⟩,fi:=λ_ _=>rfl,tf:=λb af ah=>absurd ah (by show ¬b<A.n;omega),new:=λb e af ah=>absurd (ar.lt ah) aj,rF:=c4 _,low:=n3,same:= ?_,ro:= ?_,keep:= ?_,hH:= ?_,os:= ?_,tape:= ?_,output:= ?_,drawn:= ?_}
   ·intro j eM aq
    obtain⟨cU,q1,_⟩:=hI j eM aq;exact ar.wf.lt j cU q1
   ·intro j eM aq
    obtain⟨cU,q1,aI,_⟩:=hI j eM aq;rw[aI];exact ar.wf.u6 j cU q1
   ·intro j eM aq
    obtain⟨cU,q1,aI,_⟩:=hI j eM aq;rw[aI];exact ar.wf.mem j cU q1
   ·intro j qY gG qZ aq h4 bn
    obtain⟨cU,q1,aI,_,_,_,_,bS⟩:=hI j qY aq;obtain⟨eM,wi,Be,_,_,_,_,ub⟩:=hI gG qZ h4;rw[aI,Be] at bn;rw[bS,ub,ar.wf.wa j cU gG eM q1 wi bn,bn]
   ·intro j g' aq
    obtain⟨cU,iU,xB,jj⟩:=ar.fi j g' aq;obtain⟨eM,Tv⟩:∃eM,t.get j=some eM:=by
     rw[hz];split
     ·rw[iU];exact⟨_,rfl⟩
     ·exact⟨cU,iU⟩
    obtain⟨fE,q1,aI,bS,fo,iK,mK,p1⟩:=hI j eM Tv;rw[iU] at q1;cases q1;refine⟨eM,Tv,by rw[fo];exact xB,?_⟩;by_cases kL:g'.bJ=e.bJ
    ·have pt:cU.dG=k.dG:=by
      rcases Nat.lt_trichotomy cU.dG k.dG with h|h|h
      ·exact absurd kL (ar.apart j g' cU b e k aq he iU ao aj)
      ·exact h
      ·exact absurd kL (ar.apart j g' cU b e k aq he iU ao aj)
     have aaX:eM.ro=true:=by rw[p1,pt];simp
     unfold gL at jj ⊢;rw[mK];cases ud:cU.obj with
     |cells Bf=>
      simp only [ud] at jj ⊢;obtain⟨E',E_,c9,eF,hx,xA,C7⟩:=jj;rw[kL,af] at c9;simp only [dL,Obj.cells.injEq] at c9;obtain⟨rfl,hty,rfl⟩:=c9;refine⟨c',I',by rw[kL,iK,<-hty];exact ME,eF,by rw[fo];exact hx,xA,λae=> ?_⟩;rw[aaX] at ae;cases ae
     |map es fA=>
      simp only [ud] at jj;obtain⟨eu,c9,_⟩:=jj;rw[kL,af] at c9;cases c9
     |hV x=>
      simp only [ud] at jj;obtain⟨_,o',c9,eF⟩:=jj;rw[kL,af] at c9;cases c9;exact absurd eF λh=>te.SK h
    ·have:=jj.mono (w':=w.freeze ⟨e.bJ,e.sh+off,none⟩ n) (λ_ _ h=>h) (rG _ kL)
     unfold gL at this ⊢;rw[mK];cases ud:cU.obj with
     |cells Bf=>
      simp only [ud] at this ⊢;obtain⟨E',E_,c9,eF,hx,xA,C7⟩:=this;refine⟨E',E_,by rw[iK];exact c9,eF,by rw[fo];exact hx,xA,λae=>C7 ?_⟩;rw[p1] at ae;simp only [Bool.or_eq_false_iff] at ae;exact ae.1
     |map es fA=>
      simp only [ud] at this ⊢;exact this
     |hV x=>
      simp only [ud] at this ⊢;exact this
   ·intro j g' qY gG sc qZ q1 aI aq h4 dU
    obtain⟨cU,c9,eF,_⟩:=hI j qY aq;obtain⟨eM,vh,wx,_⟩:=hI gG qZ h4;exact ar.apart j g' cU gG sc eM q1 aI c9 vh (by rw[<-eF,<-wx];exact dU)
   ·intro j g' qY gG sc qZ q1 aI aq h4 bn ai
    obtain⟨cU,c9,eF,hx,_⟩:=hI j qY aq;obtain⟨eM,vh,wx,Di,_⟩:=hI gG qZ h4;rw[hx,Di];exact ar.along j g' cU gG sc eM q1 aI c9 vh (by rw[<-eF,<-wx];exact bn) ai
   ·intro j aq lL
    show t.get j=_;rw[hz,aV];intro hm;have:=aaW j hm;exact absurd lL (by show ¬j<l.foldl Nat.min A.low;omega)
   ·intro j cU iU ti
    show t.get j=_;rw[hz];split
    ·rw[iU]
     simp only [Option.map_some,dL];unfold wv;cases bn:Nat.beq cU.dG k.dG with
     |false=>rfl
     |true=>
      obtain⟨eU,f1,jc,s1,akK,t1⟩:=cU;simp only at ti;subst ti;rfl
    ·exact iU
   ·intro i ak lK
    refine rG i λrH=> ?_
    have:=lK b e k he rH.symm ao;rw[ih] at this;cases this
   ·unfold World.freeze;split
    ·exact c4 _
    ·simp
   all_goals (unfold World.freeze;split<;>first|rfl|exact c4 _)
  ·cases h
 ·cases h
def MF (P:bB) (A:bx) (eo:Array bq) (x n:ad):Option (ad×bx):=
 match eo[0]?,x,n with
 |some Tw,.pointer (some ⟨b,off,none⟩),.int _ n=>match bZ P (elemOf Tw),A.bl.get b with
  |some u,some k=>match k.obj with
   | .cells _=>
     bif decide (0<n)&&decide (n<=16777216)&&Nat.beq (P.cellsOf k.ty) 1&&sameLayout P P.depth k.ty u&& !k.ro then
      match A.tj b off n.toNat with
      |some l=>match MD l .empty,A.freeze k with
       |some s,some cg=>some (.string s,cg)
       |_,_=>none
      |none=>none
     else none
   |_=>none
  |_,_=>none
 |_,_,_=>none
theorem aaY (ar:cB φ A w) {eo:Array bq} {ty:bq} {x x' n v:ad} (aw:aM φ x x') (h:MF P A eo x n=some (v,bK)):cH (iO v) P φ A w (Builtin.unsafeString_ eo ty #[x',n]) bK:=by
 unfold MF at h;split at h
 ·rename_i Tw b off fE n aaZ
  split at h
  ·rename_i u k hu ao
   split at h
   ·rename_i c gF
    cases aA:(decide (0<n)&&decide (n<=16777216)&&Nat.beq (P.cellsOf k.ty) 1&&sameLayout P P.depth k.ty u&& !k.ro) with
    |false=>rw[aA] at h;cases h
    |true=>
     rw[aA,cN] at h;simp only [fy,decide_eq_true_eq,Bool.not_eq_true'] at aA;obtain⟨⟨⟨⟨hh,iL⟩,Ft⟩,Tx⟩,ih⟩:=aA;have Ft:P.cellsOf k.ty=1:=ep Ft;split at h
     ·rename_i l az
      split at h
      ·rename_i s cg ay bn
       simp only [dL,Prod.mk.injEq] at h;obtain⟨rfl,rfl⟩:=h;cases aw with
       |ptr he=>
        rename_i e;obtain⟨hlen,wm⟩:=Bg az;obtain⟨k',eG,_,bW⟩:=ar.fi b e he;rw[ao] at eG;cases eG;unfold gL at bW;simp only [gF] at bW;obtain⟨c',j5,af,ah,aH,ck,dd⟩:=bW;have rK:off+n.toNat<=c.length:=by
         have bg:=wm (n.toNat-1) aj;unfold bx.load at bg;rw[ao] at bg;obtain⟨u7,dG,pos,st,ro,akL⟩:=k;simp only at gF;subst gF;simp only at bg;have:=(List.getElem?_eq_some_iff.1 bg).1;omega
        have ho:=aaS (P:=P) ar he l off .empty s (λj aq=>wm j aj) ay;have p2:=aaV (n:=n.toNat) ar off ao gF ih he bn;refine⟨φ,_,.string s,?_,.string s,p2⟩;have MB:liesAt P P.depth k.ty (c'.size/P.cellsOf k.ty) (e.sh+off) u n.toNat=true:=by
         obtain⟨d,bu⟩:∃d,P.depth=d+1:=⟨_,rfl⟩;rw[bu] at Tx ⊢;unfold liesAt rowAt;rw[bu];simp only [Ft,Nat.div_one,Nat.mod_one,beq_self_eq_true,Bool.true_and];have:decide (e.sh+off+n.toNat<=c'.size)=true:=gO aj;simp [this,Tx]
        have aR:(variablesAt ⟨e.bJ,e.sh+off,none⟩ u n.toNat).run P w= .ok true w:=by
         unfold variablesAt;refine ei (a:=P) rfl ?_;refine ev (I8 af) ?_;simp only [MB];rfl
        refine ei (s:=asInt (.int fE n)) (a:=n) rfl ?_;have xM:¬n>IntKind.i64.max:=by
         have:(16777216:Int)<=IntKind.i64.max:=by decide
         omega
        simp only [aaZ];rw[aV aj,aV xM,aV aj];refine ei hu ?_;refine ev aR ?_;rw[aP rfl];refine ev (by rw[<-hlen];exact ho) ?_;rfl
      ·cases h
     ·cases h
   ·cases h
  ·cases h
 ·cases h
def MG (P:bB) (A:bx) (eo:Array bq) (x:ad):Option bx:=
 match eo[0]? with
 |some t=>match bZ P (underlying t),x with
  |some (.slice _),.slice none _ _=>some A
  |some (.slice elem),.slice (some ⟨b,off,none⟩) n _=>bif Nat.beq n 0 then some A else
    match bZ P (zeroValue elem) with
    |some z=>bif plain z&&(cellsOf z).isSome&&Nat.blt 0 z.cells.size then A.sd b off (Builtin.zeroCells z.cells n).toList else none
    |none=>none
  |_,_=>none
 |none=>none
theorem aa0 (ar:cB φ A w) {eo:Array bq} {ty:bq} {x x':ad} (aw:aM φ x x') (h:MG P A eo x=some bK):cH (iO undef) P φ A w (Builtin.clear_ eo ty #[x']) bK:=by
 unfold MG at h;split at h
 ·rename_i t bw
  split at h
  ·rename_i e l c hu
   cases h;cases aw;refine⟨φ,w,undef,?_,aM.Bb φ,db.refl ar⟩;unfold Builtin.clear_;simp only [bw,List.getElem?_toArray,List.getElem?_cons_zero];exact ei hu rfl
  ·rename_i elem b off n c hu
   have aa1:∃bR c',x'= .slice (some bR) n c':=by
    cases aw with
    |jk _ _ h=>exact⟨_,_,rfl⟩
    |jl _ _ _ h _ _ _=>exact⟨_,_,rfl⟩
    |jI bR _=>exact⟨_,_,rfl⟩
   cases aT:Nat.beq n 0 with
   |true=>
    rw[aT] at h;cases h;have hh:n=0:=ep aT;subst hh;obtain⟨bR,c',rfl⟩:=aa1;refine⟨φ,w,undef,?_,aM.Bb φ,db.refl ar⟩;unfold Builtin.clear_;simp only [bw,List.getElem?_toArray,List.getElem?_cons_zero];exact ei hu rfl
   |false=>
    rw[aT,fI] at h;have hh:n≠0:=λe=>by subst e;simp at aT
    split at h
    ·rename_i z de
     cases aA:(plain z&&(cellsOf z).isSome&&Nat.blt 0 z.cells.size) with
     |false=>rw[aA] at h;cases h
     |true=>
      rw[aA,cN] at h;simp only [fy] at aA;have tl:=Nat.blt_eq.mp aA.2;have tk:=IV aA.1.1 aA.1.2 φ;have ll:∀j,j<(Builtin.zeroCells z.cells n).toList.length->aM φ ((Builtin.zeroCells z.cells n).toList.getD j undef) ((Builtin.zeroCells z.cells n).toList.getD j undef):=by
       intro j aq;unfold Builtin.zeroCells at aq ⊢;simp at aq;have hm:=Nat.mod_lt j tl;have:=tk (j%z.cells.size) hm;simp only [gd] at this;simpa [eP,aq,hm,getElem!_pos] using this
      have main:∀(e:iJ) (c':Nat),φ b=some e->x'= .slice (some ⟨e.bJ,e.sh+off,none⟩) n c'->cH (iO undef) P φ A w (Builtin.clear_ eo ty #[x']) bK:=by
       intro e c' he tp;obtain⟨w',g1,g2⟩:=C_ P he _ A bK w off 0 (Builtin.zeroCells z.cells n).toList ar (by simpa using h) rfl ll;refine⟨φ,w',undef,?_,aM.Bb φ,g2⟩;subst tp;unfold Builtin.clear_;simp only [bw,List.getElem?_toArray,List.getElem?_cons_zero];refine ei hu ?_;obtain⟨mr,rfl⟩:∃mr,n=mr+1:=⟨n-1,aj⟩;refine ei de ?_;exact ev (by simpa using g1) rfl
      cases aw with
      |jk _ _ he=>exact main _ _ he rfl
      |jl _ _ _ he _ _ _=>exact main _ _ he rfl
      |jI bR _=>exact absurd rfl hh
    ·cases h
  ·cases h
 ·cases h
end
end a1
namespace a1
variable [bp]
def bx.Bq (A:bx) (b:Nat):Option (List lj×Nat):=
 match A.bl.get b with
 |some k=>match k.obj with
  | .map es fA=>some (es,fA)
  |_=>none
 |none=>none
def bx.yA (A:bx) (b:Nat) (es:List lj) (fA:Nat):Option bx:=
 match A.bl.get b with
 |some k=>match k.obj,A.mem.get k.dG with
  | .map _ _,some [m]=>bif Nat.beq m b&& !k.ro then
      match cK.set {k with obj:= .map es fA} depth A.bl b with
      |some t=>some {A with bl:=t,low:=Nat.min A.low b}
      |none=>none
    else none
  |_,_=>none
 |none=>none
def bx.MH (A:bx) (b:Nat):Option (ByteArray×Nat):=
 match A.bl.get b with
 |some k=>match k.obj with
  | .hV (.yv s p)=>some (s,p)
  |_=>none
 |none=>none
def bx.setIter (A:bx) (b:Nat) (s:ByteArray) (p:Nat):Option bx:=
 match A.bl.get b with
 |some k=>match k.obj,A.mem.get k.dG with
  | .hV _,some [m]=>bif Nat.beq m b&& !k.ro then
      match cK.set {k with obj:= .hV (.yv s p)} depth A.bl b with
      |some t=>some {A with bl:=t,low:=Nat.min A.low b}
      |none=>none
    else none
  |_,_=>none
 |none=>none
def mv (φ:cD) (es:List lj) (eu:Array MapEntry):Prop:=
 es.length=eu.size/\∀(j:Nat) (a:lj) (b:MapEntry),es[j]? =some a->eu[j]? =some b->plain a.key=true/\a.key=b.key/\aM φ a.val b.val/\a.born=b.born
section
variable {P:bB} {φ:cD} {A bK:bx} {w:aG}
theorem Fu (ar:cB φ A w) {b:Nat} {es:List lj} {fA:Nat} {e:iJ} (h:A.Bq b=some (es,fA)) (he:φ b=some e):∃eu,w.heap[e.bJ]? =some (.map eu fA)/\mv φ es eu:=by
 unfold bx.Bq at h;split at h
 ·rename_i k ao
  obtain⟨k',eG,_,bW⟩:=ar.fi b e he;rw[ao] at eG;cases eG;split at h
  ·rename_i Dj akM gF
   cases h;simp only [gL,gF] at bW;obtain⟨eu,af,ah,aH⟩:=bW;exact⟨eu,af,ah,aH⟩
  ·cases h
 ·cases h
theorem aa2 (ar:cB φ A w) {b p:Nat} {s:ByteArray} {e:iJ} (h:A.MH b=some (s,p)) (he:φ b=some e):e.sh=0/\w.heap[e.bJ]? =some (.stringIter s p):=by
 unfold bx.MH at h;split at h
 ·rename_i k ao
  obtain⟨k',eG,_,bW⟩:=ar.fi b e he;rw[ao] at eG;cases eG;split at h
  ·rename_i aZ lM gF
   cases h;simp only [gL,gF] at bW;obtain⟨bd,o',af,ah⟩:=bW;simp only [te] at ah;exact⟨bd,by rw[af,ah]⟩
  ·cases h
 ·cases h
theorem Ty (ar:cB φ A w) {b:Nat} {k:iX} {o:v_} {t:cK iX} {e:iJ} {o':Obj} (he:φ b=some e) (ao:A.bl.get b=some k) (n4:A.mem.get k.dG=some [b]) (ih:k.ro=false) (bw:cK.set {k with obj:=o} depth A.bl b=some t)
  (bW:∀w',w'.heap[e.bJ]? =some o'->gL φ w' e k->gL φ w' e {k with obj:=o}\/True) (Mb:∀w',w'.heap[e.bJ]? =some o'->gL φ w' e {k with obj:=o}):
  db φ A w φ {A with bl:=t,low:=Nat.min A.low b} {w with heap:=w.heap.setIfInBounds e.bJ o'}:=by
 have hz:=λj=>cK.pq _ _ _ _ _ j bw
 obtain⟨fe,ji,eA,Dk⟩:=ar.fi b e he;rw[ao] at ji;cases ji;have c_:=Dk.lt;have MI:∀j cU,A.bl.get j=some cU->cU.dG=k.dG->j=b:=by
  intro j cU aq bn;obtain⟨l,q1,aI⟩:=ar.wf.mem j cU aq;rw[bn,n4] at q1;cases q1;simpa using aI
 have dU:∀j g',j≠b->φ j=some g'->g'.bJ≠e.bJ:=by
  intro j g' aq ja;obtain⟨cU,iU,_,_⟩:=ar.fi j g' ja;exact ar.apart j g' cU b e k ja he iU ao λbn=>aq (MI j cU iU bn)
 have rG:∀i,i≠e.bJ->(w.heap.setIfInBounds e.bJ o')[i]? =w.heap[i]? :=λi ak=>by
  rw[Array.getElem?_setIfInBounds_ne (Ne.symm ak)]
 have hI:∀j eM,t.get j=some eM->∃cU,A.bl.get j=some cU/\eM.dG=cU.dG/\eM.pos=cU.pos/\eM.ro=cU.ro:=by
  intro j eM aq;rw[hz] at aq;by_cases fZ:j=b
  ·rw[aP fZ] at aq
   cases aq;subst fZ;exact⟨k,ao,rfl,rfl,rfl⟩
  ·rw[aV fZ] at aq
   exact⟨eM,aq,rfl,rfl,rfl⟩
 refine {rel:=⟨⟨?_,?_,?_,?_⟩,?_,?_,?_,λi o ak=>⟨by rw[rG i (Ne.symm ((ar.dz i o ak).2 _ _ he))];exact(ar.dz i o ak).1,(ar.dz i o ak).2⟩⟩,fi:=λ_ _=>rfl,tf:=λb af ah=>absurd ah (by show ¬b<A.n;omega),new:=λb e af ah=>absurd (ar.lt ah) aj,rF:=c4 _,low:=Nat.min_le_left _ _,same:= ?_,ro:= ?_,keep:= ?_,hH:=by simp,os:=rfl,tape:=rfl,output:=rfl,drawn:=c4 _}
 ·intro j eM aq
  obtain⟨cU,q1,_⟩:=hI j eM aq;exact ar.wf.lt j cU q1
 ·intro j eM aq
  obtain⟨cU,q1,aI,_⟩:=hI j eM aq;rw[aI];exact ar.wf.u6 j cU q1
 ·intro j eM aq
  obtain⟨cU,q1,aI,_⟩:=hI j eM aq;rw[aI];exact ar.wf.mem j cU q1
 ·intro j qY gG qZ aq h4 bn
  obtain⟨cU,q1,aI,_,bS⟩:=hI j qY aq;obtain⟨eM,wi,Be,_,ub⟩:=hI gG qZ h4;rw[bS,ub];exact ar.wf.wa j cU gG eM q1 wi (by rw[<-aI,<-Be];exact bn)
 ·intro j g' aq
  by_cases fZ:j=b
  ·subst fZ
   rw[he] at aq;cases aq;exact⟨{k with obj:=o},by rw[hz,aP rfl],eA,Mb _ (by show (w.heap.setIfInBounds e.bJ o')[e.bJ]? =_;rw[Array.getElem?_setIfInBounds_self_of_lt c_])⟩
  ·obtain⟨cU,iU,xB,jj⟩:=ar.fi j g' aq
   exact⟨cU,by rw[hz,aV fZ];exact iU,xB,jj.mono (λ_ _ h=>h) (rG _ (dU j g' fZ aq))⟩
 ·intro j g' qY gG sc qZ q1 aI aq h4 MJ
  obtain⟨cU,c9,eF,_⟩:=hI j qY aq;obtain⟨eM,vh,wx,_⟩:=hI gG qZ h4;exact ar.apart j g' cU gG sc eM q1 aI c9 vh (by rw[<-eF,<-wx];exact MJ)
 ·intro j g' qY gG sc qZ q1 aI aq h4 bn ai
  obtain⟨cU,c9,eF,hx,_⟩:=hI j qY aq;obtain⟨eM,vh,wx,Di,_⟩:=hI gG qZ h4;rw[hx,Di];exact ar.along j g' cU gG sc eM q1 aI c9 vh (by rw[<-eF,<-wx];exact bn) ai
 ·intro j aq lL
  show t.get j=_;rw[hz,aV];intro fZ;subst fZ;exact absurd (Nat.lt_of_lt_of_le lL (Nat.min_le_right A.low j)) (Nat.lt_irrefl j)
 ·intro j cU iU ti
  show t.get j=_;rw[hz,aV]
  ·exact iU
  ·intro fZ
   subst fZ;rw[ao] at iU;cases iU;rw[ih] at ti;cases ti
 ·intro i ak lK
  refine rG i λrH=> ?_
  have:=lK b e k he rH.symm ao;rw[ih] at this;cases this
theorem Br (ar:cB φ A w) {b:Nat} {es:List lj} {eu:Array MapEntry} {fA:Nat} {e:iJ} (he:φ b=some e) (h:A.yA b es fA=some bK) (fV:mv φ es eu):db φ A w φ bK {w with heap:=w.heap.setIfInBounds e.bJ (.map eu fA)}:=by
 unfold bx.yA at h;split at h
 ·rename_i k ao
  split at h
  ·rename_i gI vi m gF n4
   cases aA:(Nat.beq m b&& !k.ro) with
   |false=>rw[aA] at h;cases h
   |true=>
    rw[aA,cN] at h;simp only [fy,Bool.not_eq_true'] at aA;have Fv:m=b:=ep aA.1;subst Fv;split at h
    ·rename_i t bw
     cases h;exact Ty ar he ao n4 aA.2 bw (λ_ _ _=> .inr trivial) λw' Fb=>by
      simp only [gL];exact⟨eu,Fb,fV.1,fV.2⟩
    ·cases h
  ·cases h
 ·cases h
theorem aa3 (ar:cB φ A w) {b p:Nat} {s:ByteArray} {e:iJ} (he:φ b=some e) (bd:e.sh=0) (h:A.setIter b s p=some bK):db φ A w φ bK {w with heap:=w.heap.setIfInBounds e.bJ (.stringIter s p)}:=by
 unfold bx.setIter at h;split at h
 ·rename_i k ao
  split at h
  ·rename_i gI m gF n4
   cases aA:(Nat.beq m b&& !k.ro) with
   |false=>rw[aA] at h;cases h
   |true=>
    rw[aA,cN] at h;simp only [fy,Bool.not_eq_true'] at aA;have Fv:m=b:=ep aA.1;subst Fv;split at h
    ·rename_i t bw
     cases h;exact Ty ar he ao n4 aA.2 bw (λ_ _ _=> .inr trivial) λw' Fb=>by
      simp only [gL];exact⟨bd,_,Fb,rfl⟩
    ·cases h
  ·cases h
 ·cases h
def wy (es:List lj):List MapEntry:=es.map λe=>{key:=e.key,val:= .bool false,born:=0}
omit [bp] in
theorem Tz (kind:TypeDesc) (key:ad):∀(es:List lj) (eu:List MapEntry) (i:Nat),es.map (·.key)=eu.map (·.key)->
  match Instr.findNow kind key (wy es) i with
  |none=>Instr.findNow kind key eu i=none
  |some none=>Instr.findNow kind key eu i=some none
  |some (some (j,_))=>∃b,i<=j/\eu[j-i]? =some b/\Instr.findNow kind key eu i=some (some (j,b.val))
 |[],[],i,_=>by simp [wy,Instr.findNow]
 |[],_::_,_,h=>by simp at h
 |_::_,[],_,h=>by simp at h
 |a::r,b::iA,i,h=>by
  simp only [List.map_cons,List.cons.injEq] at h;have eJ:=Tz kind key r iA (i+1) h.2;have bu:wy (a::r)={key:=a.key,val:= .bool false,born:=0}::wy r:=rfl;rw[bu];unfold Instr.findNow;simp only;rw[h.1];cases ay:Instr.sameNow kind key b.key with
  |none=>simp
  |some t=>
   cases t with
   |true=>
    simp only;exact⟨b,c4 _,by simp,rfl⟩
   |false=>
    simp only;cases bn:Instr.findNow kind key (wy r) (i+1) with
    |none=>rw[bn] at eJ;exact eJ
    |some o=>cases o with
     |none=>rw[bn] at eJ;exact eJ
     |some p=>
      obtain⟨j,u⟩:=p;rw[bn] at eJ;obtain⟨b',af,ah,aH⟩:=eJ;exact⟨b',aj,by rw[show j-i=(j-(i+1))+1 by omega];exact ah,aH⟩
omit [bp] in
theorem TA (ik:bq) (key:ad):∀(es:List lj) (eu:List MapEntry) (i:Nat) (r:Option (Nat×ad)),es.map (·.key)=eu.map (·.key)->bZ P (Instr.findAsking ik key (wy es) i)=some r->
  match r with
  |none=>∀w,(Instr.findAsking ik key eu i).run P w= .ok none w
  |some (j,_)=>∃b,i<=j/\eu[j-i]? =some b/\∀w,(Instr.findAsking ik key eu i).run P w= .ok (some (j,b.val)) w
 |[],[],i,r,_,h=>by
  simp only [wy,List.map_nil,Instr.findAsking] at h;cases h;exact λw=>rfl
 |[],_::_,_,_,h,_=>by simp at h
 |_::_,[],_,_,h,_=>by simp at h
 |a::l,b::l',i,r,ao,h=>by
  simp only [List.map_cons,List.cons.injEq] at ao;have bu:wy (a::l)={key:=a.key,val:= .bool false,born:=0}::wy l:=rfl;rw[bu] at h;unfold Instr.findAsking at h;rw[uc] at h;cases he:bZ P (Op.equal ik key a.key) with
  |none=>rw[he] at h;cases h
  |some t=>
   rw[he] at h;simp only [Option.bind_some] at h;have p3:=kM (ao.1▸he);cases t with
   |true=>
    simp only [if_true] at h;cases h;refine⟨b,c4 _,by simp,λw=> ?_⟩;unfold Instr.findAsking;exact ev (p3 w) (by simp only [if_true];rfl)
   |false=>
    simp only [Bool.false_eq_true,if_false] at h;have eJ:=TA ik key l l' (i+1) r ao.2 h;cases r with
    |none=>
     intro w;unfold Instr.findAsking;exact ev (p3 w) (by simp only [Bool.false_eq_true,if_false];exact eJ w)
    |some p=>
     obtain⟨j,u⟩:=p;obtain⟨b',af,ah,aH⟩:=eJ;refine⟨b',aj,by rw[show j-i=(j-(i+1))+1 by omega];exact ah,λw=> ?_⟩;unfold Instr.findAsking;exact ev (p3 w) (by simp only [Bool.false_eq_true,if_false];exact aH w)
def Dl (P:bB) (ik:bq) (key:ad) (es:List lj):Option (Option Nat):=(bZ P (Instr.findKey ik key (wy es))).map (Option.map (·.1))
omit [bp] in
theorem zW {ik:bq} {key:ad} {es:List lj} {eu:List MapEntry} (ao:es.map (·.key)=eu.map (·.key)) {r:Option Nat} (h:Dl P ik key es=some r):
  match (generalizing:=false) r with
  |none=>∀w,(Instr.findKey ik key eu).run P w= .ok none w
  |some j=>∃b,eu[j]? =some b/\∀w,(Instr.findKey ik key eu).run P w= .ok (some (j,b.val)) w:=by
 unfold Dl at h;rw[yu] at h;obtain⟨q,h,rfl⟩:=h;unfold Instr.findKey at h;rw[uc] at h;cases hu:bZ P (underlying ik) with
 |none=>rw[hu] at h;cases h
 |some d=>
  rw[hu] at h;simp only [Option.bind_some] at h;have aT:=Tz d key es eu 0 ao;have I_:=kM hu;cases bn:Instr.findNow d key (wy es) 0 with
  |none=>
   rw[bn] at h aT;simp only at h aT;have cG:=TA (P:=P) ik key es eu 0 q ao h;cases q with
   |none=>
    intro w;unfold Instr.findKey;exact ev (I_ w) (by rw[aT];exact cG w)
   |some p=>
    obtain⟨j,u⟩:=p;obtain⟨b,_,ah,aH⟩:=cG;refine⟨b,by simpa using ah,λw=> ?_⟩;unfold Instr.findKey;exact ev (I_ w) (by rw[aT];exact aH w)
  |some o=>
   rw[bn] at h aT;simp only at h;have gE:o=q:=by
    have:some o=some q:=h;cases this;rfl
   subst gE;cases o with
   |none=>
    intro w;unfold Instr.findKey;exact ev (I_ w) (by rw[aT];rfl)
   |some p=>
    obtain⟨j,u⟩:=p;obtain⟨b,_,ah,aH⟩:=aT;refine⟨b,by simpa using ah,λw=> ?_⟩;unfold Instr.findKey;exact ev (I_ w) (by rw[aH];rfl)
theorem mv.keys {es:List lj} {eu:Array MapEntry} (h:mv φ es eu):es.map (·.key)=eu.toList.map (·.key):=by
 refine List.ext_getElem? λj=> ?_
 simp only [List.getElem?_map,Array.getElem?_toList];cases af:es[j]? with
 |none=>
  have:eu[j]? =none:=by
   rw[Array.getElem?_eq_none_iff,<-h.1];exact List.getElem?_eq_none_iff.1 af
  rw[this];rfl
 |some a=>
  have c_:j<eu.size:=by rw[<-h.1];exact(List.getElem?_eq_some_iff.1 af).1
  obtain⟨b,ai⟩:∃b,eu[j]? =some b:=⟨_,Array.getElem?_eq_getElem c_⟩;rw[ai];simp only [Option.map_some,dL];exact(h.2 j a b af ai).2.1
theorem mv.isEmpty {es:List lj} {eu:Array MapEntry} (h:mv φ es eu):es.isEmpty=eu.isEmpty:=by
 have:=h.1;cases es with
 |nil=>simp at this;simp [Array.isEmpty,<-this]
 |cons a r=>simp at this;simp [Array.isEmpty,<-this]
theorem mv.nil:mv φ [] #[]:=⟨rfl,λj a b h=>by simp at h⟩
def MK (P:bB) (A:bx) (t:bq) (r:Option ad):Option (ad×bx):=
 match (match r with
  |none=>some ()
  |some h=>match bZ P (underlying t),bZ P (asInt h) with
   |some (.map _ _),some _=>some ()
   |_,_=>none) with
 |some _=>match A.push (.map [] 0) 0 0 with
  |some (b,cg)=>some (.map (some b),cg)
  |none=>none
 |none=>none
theorem aa4 (ar:cB φ A w) {t:bq} {r:Option ad} {v:ad} (h:MK P A t r=some (v,bK)):cH (iO v) P φ A w (Instr.makeMap t r) bK:=by
 unfold MK at h;split at h
 ·rename_i aA
  split at h
  ·rename_i b cg hp
   cases h;have eA:=C9 (e:=⟨w.heap.size,0,0,0⟩) (o':= .map #[] 0) ar hp J J (by simp only [gL];exact⟨#[],by simp,rfl,λj a b h=>by simp at h⟩);have aR:aM (ij φ b ⟨w.heap.size,0,0,0⟩) (.map (some b)) (.map (some w.heap.size)):= .map (e:=⟨w.heap.size,0,0,0⟩) (by simp [ij]);refine⟨_,_,.map (some w.heap.size),?_,aR,eA⟩;unfold Instr.makeMap;cases r with
   |none=>rfl
   |some hint=>
    simp only at aA;split at aA
    ·rename_i a b' hu ak
     refine ei hu ?_;simp only;refine ei ak ?_;rfl
    ·cases aA
  ·cases h
 ·cases h
def mapOf (A:bx):ad->Option (List lj)
 | .map none=>some []
 | .map (some b)=>(A.Bq b).map (·.1)
 |_=>none
def Ja (P:bB) (A:bx) (t:bq) (x h6:ad) (ok:Bool):Option ad:=
 bif plain h6 then match bZ P (underlying t) with
  |some (.map ik elem)=>match mapOf A x with
   |some es=>match bZ P (Instr.checkKey es.isEmpty 10000 ik h6) with
    |some _=>match Dl P ik h6 es with
     |some (some j)=>match es[j]? with
      |some e=>some (bif ok then .tuple ⟨[e.val,.bool true]⟩ else e.val)
      |none=>none
     |some none=>match bZ P (zeroValue elem) with
      |some z=>bif plain z then some (bif ok then .tuple ⟨[z,.bool false]⟩ else z) else none
      |none=>none
     |none=>none
    |none=>none
   |none=>none
  |_=>none
 else none
theorem TB {a bR:ad} (h:aM φ a bR) (b:Bool):aM φ (.tuple ⟨[a,.bool b]⟩) (.tuple #[bR,.bool b]):= .tuple _ _ rfl λi ak=>by
 have:i<2:=by simpa using ak
 rcases(by omega:i=0\/i=1) with rfl|rfl
 ·simpa using h
 ·simpa using aM.bool b
omit [bp] in
theorem Jb {t ik elem:bq} {x' h6 z:ad} {ok:Bool} {eu:Array MapEntry} {u:Unit} {Fw:Option (Nat×ad)} (aw:(x'= .map none/\eu= #[])\/∃r fA,x'= .map (some r)/\w.heap[r]? =some (.map eu fA)) (hu:bZ P (underlying t)=some (.map ik elem))
  (oC:bZ P (Instr.checkKey eu.isEmpty 10000 ik h6)=some u) (bn:(Instr.findKey ik h6 eu.toList).run P w= .ok Fw w) (de:Fw=none->bZ P (zeroValue elem)=some z):
  (Instr.lookup t x' h6 ok).run P w= .ok (match (generalizing:=false) Fw with|some p=>(if ok then .tuple #[p.2,.bool true] else p.2)|none=>(if ok then .tuple #[z,.bool false] else z)) w:=by
 unfold Instr.lookup;refine ei hu ?_;rcases aw with ⟨rfl,rfl⟩|⟨r,fA,rfl,bg⟩
 ·simp only
  refine ev (a:=(#[]:Array MapEntry)) (w1:=w) rfl ?_;refine ei oC ?_;refine ev bn ?_;cases Fw with
  |some p=>
   obtain⟨j,v⟩:=p;simp only;refine ev (a:=(v,true)) (w1:=w) rfl ?_;cases ok<;>rfl
  |none=>
   simp only;refine ei (de rfl) ?_;refine ev (a:=(z,false)) (w1:=w) rfl ?_;cases ok<;>rfl
 ·simp only
  refine ev (tq bg (by simp)) ?_;simp only;refine ev (a:=eu) (w1:=w) rfl ?_;refine ei oC ?_;refine ev bn ?_;cases Fw with
  |some p=>
   obtain⟨j,v⟩:=p;simp only;refine ev (a:=(v,true)) (w1:=w) rfl ?_;cases ok<;>rfl
  |none=>
   simp only;refine ei (de rfl) ?_;refine ev (a:=(z,false)) (w1:=w) rfl ?_;cases ok<;>rfl
theorem aa5 (ar:cB φ A w) {t:bq} {x x' h6 v:ad} {ok:Bool} (aw:aM φ x x') (h:Ja P A t x h6 ok=some v):cH (iO v) P φ A w (Instr.lookup t x' h6 ok) A:=by
 unfold Ja at h;cases gH:plain h6 with
 |false=>rw[gH] at h;cases h
 |true=>
  rw[gH,cN] at h;split at h
  ·rename_i ik elem hu
   split at h
   ·rename_i es ve
    split at h
    ·rename_i oC
     have aa6:∃eu:Array MapEntry,mv φ es eu/\((x'= .map none/\eu= #[])\/∃r fA,x'= .map (some r)/\w.heap[r]? =some (.map eu fA)):=by
      unfold mapOf at ve;split at ve
      ·cases ve
       cases aw;exact⟨#[],mv.nil,.inl ⟨rfl,rfl⟩⟩
      ·rw[yu] at ve
       obtain⟨⟨Dj,fA⟩,bg,rfl⟩:=ve;cases aw with
       |map he=>
        obtain⟨eu,af,ah⟩:=Fu ar bg he;exact⟨eu,ah,.inr ⟨_,_,rfl,af⟩⟩
      ·cases ve
     obtain⟨eu,fV,tp⟩:=aa6;have TC:bZ P (Instr.checkKey eu.isEmpty 10000 ik h6)=some ():=by rw[<-fV.isEmpty];exact oC
     split at h
     ·rename_i j aq
      split at h
      ·rename_i e yB
       simp only [dL] at h;subst h;obtain⟨b,ai,bn⟩:=zW fV.keys aq;rw[Array.getElem?_toList] at ai;have aR:=(fV.2 j e b yB ai).2.2.1;refine⟨φ,w,(if ok then .tuple #[b.val,.bool true] else b.val),Jb (z:=undef) tp hu TC (bn w) (λh=>by cases h),?_,db.refl ar⟩;cases ok with
       |true=>exact TB aR true
       |false=>exact aR
      ·cases h
     ·rename_i aq
      split at h
      ·rename_i z de
       cases mu:plain z with
       |false=>rw[mu] at h;cases h
       |true=>
        rw[mu,cN,dL] at h;subst h;have bn:=zW fV.keys aq;refine⟨φ,w,(if ok then .tuple #[z,.bool false] else z),Jb tp hu TC (bn w) (λ_=>de),?_,db.refl ar⟩;cases ok with
        |true=>exact TB (aM.lv φ z mu) false
        |false=>exact aM.lv φ z mu
      ·cases h
     ·cases h
    ·cases h
   ·cases h
  ·cases h
def Fx (P:bB) (A:bx) (t:bq) (m key val:ad):Option bx:=
 bif plain key then match bZ P (underlying t),m with
  |some (.map ik _),.map (some b)=>match A.Bq b with
   |some (es,fA)=>match bZ P (Instr.checkKey false 10000 ik key),Dl P ik key es with
    |some _,some (some j)=>match es[j]? with
     |some e=>bif Instr.sameBits 10000 e.key key then A.yA b (es.set j {e with key:=key,val:=val}) fA else none
     |none=>none
    |some _,some none=>A.yA b (es++[{key:=key,val:=val,born:=fA}]) (fA+1)
    |_,_=>none
   |none=>none
  |_,_=>none
 else none
theorem mv.push {es:List lj} {eu:Array MapEntry} (h:mv φ es eu) {key val val':ad} {fA:Nat} (ao:plain key=true) (aR:aM φ val val'):mv φ (es++[{key:=key,val:=val,born:=fA}]) (eu.push {key:=key,val:=val',born:=fA}):=by
 refine⟨by simp [h.1],λj a b cG ai=> ?_⟩;rw[List.getElem?_append] at cG;rw[Array.getElem?_push] at ai;by_cases aq:j<es.length
 ·rw[aP aq] at cG
  rw[aV (by rw[<-h.1];omega)] at ai;exact h.2 j a b cG ai
 ·rw[aV aq] at cG
  by_cases h4:j=eu.size
  ·rw[aP h4] at ai
   cases ai;rw[show j-es.length=0 by rw[h.1];omega] at cG;simp only [List.getElem?_cons_zero,dL] at cG;subst cG;exact⟨ao,rfl,aR,rfl⟩
  ·rw[aV h4] at ai
   have:=(Array.getElem?_eq_some_iff.1 ai).1;have:=h.1;omega
theorem mv.modify {es:List lj} {eu:Array MapEntry} (h:mv φ es eu) {j:Nat} {e:lj} (aq:es[j]? =some e) {key val val':ad} (ao:plain key=true) (aR:aM φ val val'):
  mv φ (es.set j {e with key:=key,val:=val}) (eu.modify j λe=>{e with key:=key,val:=val'}):=by
 refine⟨by simp [h.1],λi a b cG ai=> ?_⟩;rw[List.getElem?_set] at cG;rw[Array.getElem?_modify] at ai;by_cases pz:j=i
 ·subst pz
  rw[aP rfl,aP (List.getElem?_eq_some_iff.1 aq).1] at cG;rw[aP rfl] at ai;cases cG;rw[yu] at ai;obtain⟨cj,fD,rfl⟩:=ai;exact⟨ao,rfl,aR,(h.2 j e cj aq fD).2.2.2⟩
 ·rw[aV pz] at cG
  rw[aV pz] at ai;exact h.2 i a b cG ai
omit [bp] in
theorem yC {o o':Obj} {r:Nat} (h:w.heap[r]? =some o) (aA:∀c t f,o≠.cells c t f):(setObj r o').run P w= .ok () {w with heap:=w.heap.setIfInBounds r o'}:=by
 unfold setObj;simp only [Sem.run,h]
theorem TD (ar:cB φ A w) {t:bq} {m oY key val val':ad} (hm:aM φ m oY) (aR:aM φ val val') (h:Fx P A t m key val=some bK):cH (λ_ _=>True) P φ A w (Instr.mapUpdate t oY key val') bK:=by
 unfold Fx at h;cases gH:plain key with
 |false=>rw[gH] at h;cases h
 |true=>
  rw[gH,cN] at h;split at h
  ·rename_i ik elem b hu
   split at h
   ·rename_i es fA bg
    cases hm with
    |map he=>
     rename_i em;obtain⟨eu,af,fV⟩:=Fu ar bg he;split at h
     ·rename_i j oC aq
      split at h
      ·rename_i e yB
       cases Bs:Instr.sameBits 10000 e.key key with
       |false=>rw[Bs] at h;cases h
       |true=>
        rw[Bs,cN] at h;obtain⟨cj,ai,bn⟩:=zW fV.keys aq;rw[Array.getElem?_toList] at ai;have ML:=(fV.2 j e cj yB ai).2.1;refine⟨φ,_,(),?_,trivial,Br ar he h (fV.modify yB gH aR)⟩;unfold Instr.mapUpdate;refine ei hu ?_;simp only;refine ev (tq af (by simp)) ?_;simp only;refine ei oC ?_;refine ev (bn w) ?_;simp only;rw[show (((eu[j]?).map (·.key)).getD key)=e.key by rw[ai];exact ML.symm];refine ev (a:=key) (w1:=w) (by unfold Instr.keyThatStays;rw[aP Bs];rfl) ?_;exact yC af (by simp)
      ·cases h
     ·rename_i oC aq
      have bn:=zW fV.keys aq;refine⟨φ,_,(),?_,trivial,Br ar he h (fV.push gH aR)⟩;unfold Instr.mapUpdate;refine ei hu ?_;simp only;refine ev (tq af (by simp)) ?_;simp only;refine ei oC ?_;refine ev (bn w) ?_;simp only;exact yC af (by simp)
     ·cases h
    |_=>simp [al,c3] at*
   ·cases h
  ·cases h
def Jc (P:bB) (A:bx) (t:bq) (m key:ad):Option (ad×bx):=
 bif plain key then match bZ P (underlying t),m with
  |some (.map ik elem),.map (some b)=>match A.Bq b with
   |some (es,fA)=>match bZ P (Instr.checkKey false 10000 ik key),Dl P ik key es with
    |some _,some (some j)=>match es[j]? with
     |some e=>bif Instr.sameBits 10000 e.key key then match A.yA b (es.set j {e with key:=key,val:=e.val}) fA with
       |some cg=>some (.tuple ⟨[e.val,.int .i64 e.born]⟩,cg)
       |none=>none
      else none
     |none=>none
    |some _,some none=>match bZ P (zeroValue elem) with
     |some z=>bif plain z then match A.yA b (es++[{key:=key,val:=z,born:=fA}]) (fA+1) with
       |some cg=>some (.tuple ⟨[z,.int .i64 fA]⟩,cg)
       |none=>none
      else none
     |none=>none
    |_,_=>none
   |none=>none
  |_,_=>none
 else none
theorem TE {a bR:ad} (h:aM φ a bR) (n:Int):aM φ (.tuple ⟨[a,.int .i64 n]⟩) (.tuple #[bR,.int .i64 n]):= .tuple _ _ rfl λi ak=>by
 have:i<2:=by simpa using ak
 rcases(by omega:i=0\/i=1) with rfl|rfl
 ·simpa using h
 ·simpa using aM.int .i64 n
theorem mv.aa7 {es:List lj} {eu:Array MapEntry} (h:mv φ es eu) {j:Nat} {e:lj} (aq:es[j]? =some e) {key:ad} (ao:plain key=true):
  mv φ (es.set j {e with key:=key,val:=e.val}) (eu.modify j λe=>{e with key:=key}):=by
 refine⟨by simp [h.1],λi a b cG ai=> ?_⟩;rw[List.getElem?_set] at cG;rw[Array.getElem?_modify] at ai;by_cases pz:j=i
 ·subst pz
  rw[aP rfl,aP (List.getElem?_eq_some_iff.1 aq).1] at cG;rw[aP rfl] at ai;cases cG;rw[yu] at ai;obtain⟨cj,fD,rfl⟩:=ai;exact⟨ao,rfl,(h.2 j e cj aq fD).2.2.1,(h.2 j e cj aq fD).2.2.2⟩
 ·rw[aV pz] at cG
  rw[aV pz] at ai;exact h.2 i a b cG ai
theorem aa8 (ar:cB φ A w) {t:bq} {m oY key v:ad} (hm:aM φ m oY) (h:Jc P A t m key=some (v,bK)):cH (iO v) P φ A w (Instr.mapEntry t oY key) bK:=by
 unfold Jc at h;cases gH:plain key with
 |false=>rw[gH] at h;cases h
 |true=>
  rw[gH,cN] at h;split at h
  ·rename_i ik elem b hu
   split at h
   ·rename_i es fA bg
    cases hm with
    |map he=>
     rename_i em;obtain⟨eu,af,fV⟩:=Fu ar bg he;split at h
     ·rename_i j oC aq
      split at h
      ·rename_i e yB
       cases Bs:Instr.sameBits 10000 e.key key with
       |false=>rw[Bs] at h;cases h
       |true=>
        rw[Bs,cN] at h;split at h
        ·rename_i cg gn
         cases h;obtain⟨cj,ai,bn⟩:=zW fV.keys aq;rw[Array.getElem?_toList] at ai;obtain⟨_,ML,aa9,ua⟩:=fV.2 j e cj yB ai;refine⟨φ,_,.tuple #[cj.val,.int .i64 e.born],?_,TE aa9 _,Br ar he gn (fV.aa7 yB gH)⟩;unfold Instr.mapEntry;refine ei hu ?_;simp only;refine ev (tq af (by simp)) ?_;simp only;refine ei oC ?_;refine ev (bn w) ?_;simp only;rw[show (((eu[j]?).map (·.key)).getD key)=e.key by rw[ai];exact ML.symm];refine ev (a:=key) (w1:=w) (by unfold Instr.keyThatStays;rw[aP Bs];rfl) ?_;refine ev (yC af (by simp)) ?_;rw[show ((eu[j]?).map λx=>(x.born:Int)).getD 0=(e.born:Int) by rw[ai,ua];rfl];rfl
        ·cases h
      ·cases h
     ·rename_i oC aq
      split at h
      ·rename_i z de
       cases mu:plain z with
       |false=>rw[mu] at h;cases h
       |true=>
        rw[mu,cN] at h;split at h
        ·rename_i cg gn
         cases h;have bn:=zW fV.keys aq;refine⟨φ,_,.tuple #[z,.int .i64 fA],?_,TE (aM.lv φ z mu) _,Br ar he gn (fV.push gH (aM.lv φ z mu))⟩;unfold Instr.mapEntry;refine ei hu ?_;simp only;refine ev (tq af (by simp)) ?_;simp only;refine ei oC ?_;refine ev (bn w) ?_;simp only;refine ei de ?_;refine ev (yC af (by simp)) ?_;rfl
        ·cases h
      ·cases h
     ·cases h
    |_=>simp [al,c3] at*
   ·cases h
  ·cases h
def MN (es:List lj) (born:Int):Option Nat:=es.findIdx? λe=>(e.born:Int)==born
def Jd (P:bB) (A:bx) (m Dm val:ad):Option bx:=
 match m with
 | .map (some b)=>match A.Bq b with
   |some (es,fA)=>bif plain Dm then match bZ P (asInt Dm) with
    |some born=>match MN es born with
     |some j=>match es[j]? with
      |some e=>A.yA b (es.set j {e with val:=val}) fA
      |none=>none
     |none=>none
    |none=>none
    else none
   |none=>none
 |_=>none
theorem mv.aa' {es:List lj} {eu:Array MapEntry} (h:mv φ es eu) {j:Nat} {e:lj} (aq:es[j]? =some e) {val val':ad} (aR:aM φ val val'):
  mv φ (es.set j {e with val:=val}) (eu.modify j λe=>{e with val:=val'}):=by
 refine⟨by simp [h.1],λi a b cG ai=> ?_⟩;rw[List.getElem?_set] at cG;rw[Array.getElem?_modify] at ai;by_cases pz:j=i
 ·subst pz
  rw[aP rfl,aP (List.getElem?_eq_some_iff.1 aq).1] at cG;rw[aP rfl] at ai;cases cG;rw[yu] at ai;obtain⟨cj,fD,rfl⟩:=ai;obtain⟨q1,aI,_,fo⟩:=h.2 j e cj aq fD;exact⟨q1,aI,aR,fo⟩
 ·rw[aV pz] at cG
  rw[aV pz] at ai;exact h.2 i a b cG ai
theorem mv.born {es:List lj} {eu:Array MapEntry} (h:mv φ es eu) (born:Int):eu.findIdx? (λe=>(e.born:Int)==born)=MN es born:=by
 unfold MN;rw[show eu.findIdx? (λe=>(e.born:Int)==born)=eu.toList.findIdx? (λe=>(e.born:Int)==born) by obtain⟨l⟩:=eu;simp];have ai:es.map (·.born)=eu.toList.map (·.born):=by
  refine List.ext_getElem? λj=> ?_
  simp only [List.getElem?_map,Array.getElem?_toList];cases af:es[j]? with
  |none=>
   have:eu[j]? =none:=by
    rw[Array.getElem?_eq_none_iff,<-h.1];exact List.getElem?_eq_none_iff.1 af
   rw[this];rfl
  |some a=>
   have c_:j<eu.size:=by rw[<-h.1];exact(List.getElem?_eq_some_iff.1 af).1
   obtain⟨b,ai⟩:∃b,eu[j]? =some b:=⟨_,Array.getElem?_eq_getElem c_⟩;rw[ai];simp only [Option.map_some,dL];exact(h.2 j a b af ai).2.2.2
 have bs:∀l:List MapEntry,l.findIdx? (λe=>(e.born:Int)==born)=(l.map (·.born)).findIdx? λ(n:Nat)=>(n:Int)==born:=λl=>by rw[List.findIdx?_map];rfl
 have cw:∀l:List lj,l.findIdx? (λe=>(e.born:Int)==born)=(l.map (·.born)).findIdx? λ(n:Nat)=>(n:Int)==born:=λl=>by rw[List.findIdx?_map];rfl
 rw[bs,cw,ai]
theorem aa_ (ar:cB φ A w) {t:bq} {m oY Dm val val':ad} (hm:aM φ m oY) (aR:aM φ val val') (h:Jd P A m Dm val=some bK):cH (λ_ _=>True) P φ A w (Instr.entryStore t oY Dm val') bK:=by
 unfold Jd at h;split at h
 ·rename_i b
  split at h
  ·rename_i es fA bg
   cases gH:plain Dm with
   |false=>rw[gH] at h;cases h
   |true=>
    rw[gH,cN] at h;cases hm with
    |map he=>
     rename_i em;obtain⟨eu,af,fV⟩:=Fu ar bg he;split at h
     ·rename_i born ay
      split at h
      ·rename_i j aq
       split at h
       ·rename_i e yB
        refine⟨φ,_,(),?_,trivial,Br ar he h (fV.aa' yB aR)⟩;unfold Instr.entryStore;simp only;refine ev (tq af (by simp)) ?_;simp only;refine ei ay ?_;rw[fV.born,aq];simp only;exact yC af (by simp)
       ·cases h
      ·cases h
     ·cases h
  ·cases h
 ·cases h
def Je (P:bB) (A:bx) (eo:Array bq) (m key:ad):Option bx:=
 match eo[0]?,m with
 |some t,.map (some b)=>bif plain key then match bZ P (underlying t) with
  |some (.map ik _)=>match A.Bq b with
   |some (es,fA)=>match bZ P (Instr.checkKey es.isEmpty 10000 ik key),Dl P ik key es with
    |some _,some (some j)=>A.yA b (es.eraseIdx j) fA
    |some _,some none=>A.yA b es fA
    |_,_=>none
   |none=>none
  |_=>none
  else none
 |_,_=>none
theorem mv.erase {es:List lj} {eu:Array MapEntry} (h:mv φ es eu) (j:Nat):mv φ (es.eraseIdx j) (eu.eraseIdxIfInBounds j):=by
 have az:(eu.eraseIdxIfInBounds j).toList=eu.toList.eraseIdx j:=by
  unfold Array.eraseIdxIfInBounds;split
  ·simp
  ·rename_i lJ
   rw[List.eraseIdx_of_length_le];simpa using lJ
 refine⟨?_,λi a b cG ai=> ?_⟩
 ·have ah:(eu.eraseIdxIfInBounds j).size=(eu.toList.eraseIdx j).length:=by rw[<-az,Array.length_toList]
  rw[ah];simp only [List.length_eraseIdx,h.1,Array.length_toList]
 ·rw[<-Array.getElem?_toList,az] at ai
  rw[List.getElem?_eraseIdx] at cG ai;split at cG
  ·rename_i c_
   rw[aP c_] at ai;exact h.2 i a b cG (by simpa using ai)
  ·rename_i lJ
   rw[aV lJ] at ai;exact h.2 (i+1) a b cG (by simpa using ai)
theorem abb (ar:cB φ A w) {eo:Array bq} {ty:bq} {m oY key:ad} (hm:aM φ m oY) (h:Je P A eo m key=some bK):cH (iO (.tuple ⟨[]⟩)) P φ A w (Builtin.delete_ eo ty #[oY,key]) bK:=by
 unfold Je at h;split at h
 ·rename_i t b bw
  cases gH:plain key with
  |false=>rw[gH] at h;cases h
  |true=>
   rw[gH,cN] at h;split at h
   ·rename_i ik elem hu
    split at h
    ·rename_i es fA bg
     cases hm with
     |map he=>
      rename_i em;obtain⟨eu,af,fV⟩:=Fu ar bg he;split at h
      ·rename_i j oC aq
       obtain⟨cj,ai,bn⟩:=zW fV.keys aq;refine⟨φ,_,.tuple #[],?_,.tuple _ _ rfl (λi ak=>absurd ak (by simp)),Br ar he h (fV.erase j)⟩;unfold Builtin.delete_;simp only [bw,List.getElem?_toArray,List.getElem?_cons_zero,List.getElem?_cons_succ];refine ei hu ?_;simp only;refine ev (tq af (by simp)) ?_;simp only;refine ei (by rw[<-fV.isEmpty];exact oC) ?_;refine ev (bn w) ?_;simp only;exact ev (yC af (by simp)) rfl
      ·rename_i oC aq
       have bn:=zW fV.keys aq;refine⟨φ,_,.tuple #[],?_,.tuple _ _ rfl (λi ak=>absurd ak (by simp)),Br ar he h fV⟩;unfold Builtin.delete_;simp only [bw,List.getElem?_toArray,List.getElem?_cons_zero,List.getElem?_cons_succ];refine ei hu ?_;simp only;refine ev (tq af (by simp)) ?_;simp only;refine ei (by rw[<-fV.isEmpty];exact oC) ?_;refine ev (bn w) ?_;simp only;exact ev (yC af (by simp)) rfl
      ·cases h
    ·cases h
   ·cases h
 ·cases h
def MO (P:bB) (A:bx) (t:bq):ad->Option (ad×bx)
 | .string s=>match bZ P (underlying t) with
   |some .string=>match A.push (.hV (.yv s 0)) 0 0 with
    |some (b,cg)=>some (.pointer (some ⟨b,0,none⟩),cg)
    |none=>none
   |_=>none
 |_=>none
theorem abd (ar:cB φ A w) {t:bq} {x x' v:ad} (aw:aM φ x x') (h:MO P A t x=some (v,bK)):cH (iO v) P φ A w (Instr.range t x') bK:=by
 unfold MO at h;split at h
 ·rename_i s
  cases aw;split at h
  ·rename_i hu
   split at h
   ·rename_i b cg hp
    cases h;have eA:=C9 (e:=⟨w.heap.size,0,0,0⟩) (o':= .stringIter s 0) ar hp J J (by simp only [gL];exact⟨trivial,_,by simp,rfl⟩);have aR:aM (ij φ b ⟨w.heap.size,0,0,0⟩) (.pointer (some ⟨b,0,none⟩)) (.pointer (some ⟨w.heap.size,0,none⟩)):= .ptr (e:=⟨w.heap.size,0,0,0⟩) (by simp [ij]);refine⟨_,_,.pointer (some ⟨w.heap.size,0,none⟩),?_,aR,eA⟩;unfold Instr.range;refine ei hu ?_;rfl
   ·cases h
  ·cases h
 ·cases h
def MP (A:bx) (it:ad) (abe:Bool):Option (ad×bx):=
 match it,abe with
 | .pointer (some ⟨b,0,none⟩),true=>match A.MH b with
   |some (s,p)=>bif Nat.blt p s.size then match A.setIter b s (p+(Utf8.decode s p).2) with
     |some cg=>some (.tuple ⟨[.bool true,.int .i64 p,.int .i32 (Utf8.decode s p).1]⟩,cg)
     |none=>none
    else some (.tuple ⟨[.bool false]⟩,A)
   |none=>none
 |_,_=>none
theorem abf (ar:cB φ A w) {it TF v:ad} {st:Bool} {ty:bq} (aw:aM φ it TF) (h:MP A it st=some (v,bK)):cH (iO v) P φ A w (Instr.next TF st ty) bK:=by
 unfold MP at h;split at h
 ·rename_i b
  split at h
  ·rename_i s p bg
   cases aw with
   |ptr he=>
    rename_i e;obtain⟨bd,af⟩:=aa2 ar bg he;rw[bd,Nat.zero_add];have n5:(getObj e.bJ).run P w= .ok (.stringIter s p) w:=tq af (by simp);cases ai:Nat.blt p s.size with
    |true=>
     rw[ai,cN] at h;have c_:p<s.size:=Nat.blt_eq.mp ai;split at h
     ·rename_i cg gn
      cases h;refine⟨φ,_,_,?_,aM.lv φ _ (by simp [plain,qt]),aa3 ar he bd gn⟩;unfold Instr.next
      simp only;refine ev n5 ?_;simp only [c_,if_true];refine ev (yC af (by simp)) ?_;rfl
     ·cases h
    |false=>
     rw[ai,fI] at h;cases h;have lJ:¬p<s.size:=λc_=>by rw[Nat.blt_eq.mpr c_] at ai;cases ai
     refine⟨φ,w,.tuple #[.bool false],?_,aM.lv φ _ (by simp [plain,qt]),db.refl ar⟩;unfold Instr.next
     simp only;refine ev n5 ?_;simp only [lJ,if_false];rfl
  ·cases h
 ·cases h
end
end a1
namespace a1
variable [bp]
inductive uf where
 |value (v:ad)
 |skip
 |enter (f:FuncId) (args:List ad)
def xN:uf->cD->Next->Prop
 | .value v,φ,n=>∃v',n= .value v'/\aM φ v v'
 | .skip,_,n=>n= .skip
 | .enter f args,φ,n=>∃hK:Array ad,n= .enter f hK/\iY args φ hK
def vj (P:bB) (s:Sem ad):Option ad:=
 match bZ P s with
 |some v=>bif plain v then some v else none
 |none=>none
section
variable {P:bB} {φ:cD} {A bK:bx} {w:aG}
theorem Dn (ar:cB φ A w) {s:Sem ad} {v:ad} (h:vj P s=some v):cH (iO v) P φ A w s A:=by
 unfold vj at h;split at h
 ·rename_i u hu
  cases hp:plain u with
  |false=>rw[hp] at h;cases h
  |true=>
   rw[hp,cN,dL] at h;subst h;exact cH.pure_run ar hu (aM.lv φ u hp)
 ·cases h
def Fy (P:bB) (s:Array ad->Sem ad) (args:List ad):Option ad:=
 bif qt args then vj P (s ⟨args⟩) else none
def MQ (x:ad):Option ad:=
 match x with
 | .slice none _ _=>some (.pointer none)
 | .slice (some ⟨b,off,none⟩) _ c=>bif Nat.beq c 0 then none else some (.pointer (some ⟨b,off,none⟩))
 |_=>none
def MR (P:bB) (eo:Array bq) (x:ad):Option ad:=
 match eo[0]? with
 |some t=>match bZ P (underlying t),x with
  |some (.slice _),.slice none _ c=>some (.int .i64 c)
  |some (.slice _),.slice (some _) _ _=>some c3
  |some (.array n _),_=>some (.int .i64 n)
  |_,_=>none
 |none=>none
def MS (P:bB) (A:bx) (b:Builtin) (eo:Array bq) (ty:bq) (args:List ad):Option (ad×bx):=
 match b,args with
 | .len,[x]=>match Mq P A eo x with
   |some v=>some (v,A)
   |none=>match Fy P (Builtin.len_ eo ty) [x] with
    |some v=>some (v,A)
    |none=>none
 | .append,[s,x]=>L9 P A eo s x
 | .copy,[d,s]=>Mo P A eo d s
 | .cap,[x]=>(MR P eo x).map (·,A)
 | .max,l=>(Fy P (Builtin.max_ eo ty) l).map (·,A)
 | .min,l=>(Fy P (Builtin.min_ eo ty) l).map (·,A)
 | .unsafeSliceData,[x]=>(MQ x).map (·,A)
 | .clear,[x]=>match MG P A eo x with
   |some cg=>some (undef,cg)
   |none=>none
 | .unsafeString,[x,n]=>bif plain n then MF P A eo x n else none
 | .delete,[m,k]=>match Je P A eo m k with
   |some cg=>some (.tuple ⟨[]⟩,cg)
   |none=>none
 |_,_=>none
theorem iY.eq {l:List ad} {a:Array ad} (hp:qt l=true) (h:iY l φ a):a=⟨l⟩:=by
 obtain⟨MT⟩:=a;have:MT=l:=aM.Fc (φ:=φ) l MT hp (by simpa using h.1.symm) (λi ak=>by simpa [gd] using h.2 i ak);rw[this]
theorem MU (ar:cB φ A w) {s:Array ad->Sem ad} {l:List ad} {a:Array ad} {v:ad} (az:iY l φ a) (h:Fy P s l=some v):cH (iO v) P φ A w (s a) A:=by
 unfold Fy at h;cases hp:qt l with
 |false=>rw[hp] at h;cases h
 |true=>
  rw[hp,cN] at h;rw[az.eq hp];exact Dn ar h
theorem iY.one {x:ad} {a:Array ad} (h:iY [x] φ a):∃x',a= #[x']/\aM φ x x':=by
 obtain⟨l⟩:=a;obtain⟨af,ah⟩:=h
 match l,af with
 |[x'],_=>exact⟨x',rfl,by simpa using ah 0 (by simp)⟩
theorem iY.two {x y:ad} {a:Array ad} (h:iY [x,y] φ a):∃x' gQ,a= #[x',gQ]/\aM φ x x'/\aM φ y gQ:=by
 obtain⟨l⟩:=a;obtain⟨af,ah⟩:=h
 match l,af with
 |[x',gQ],_=>exact⟨x',gQ,rfl,by simpa using ah 0 (by simp),by simpa using ah 1 (by simp)⟩
theorem abg (ar:cB φ A w) {eo:Array bq} {ty:bq} {x x' v:ad} (aw:aM φ x x') (h:MR P eo x=some v):cH (iO v) P φ A w (Builtin.cap_ eo ty #[x']) A:=by
 unfold MR at h;split at h
 ·rename_i t bw
  have hm:∀v',(do match <-underlying t,x' with
   | .array n _,_=>pure (goInt n)
   | .pointer arr,_=>
     let .array n _ <-underlying arr|stuck "cap: pointer to array expected"
     pure (goInt n)
   | .slice _,.slice _ _ n=>pure (goInt n)
   | .chan _ _,.chan none=>pure (goInt 0)
   | .chan _ _,.chan (some r)=>
     let .chan n _ _ _ _ timer <-getObj r|stuck "cap: channel expected"
     pure (goInt (if timer then 0 else n))
   |_,_=>stuck "cap: array, pointer to array, slice or channel expected":Sem ad).run P w= .ok v' w->(Builtin.cap_ eo ty #[x']).run P w= .ok v' w:=by
   intro v' aR;rw[<-aR];unfold Builtin.cap_;simp only [bw];rfl
  split at h
  ·rename_i e l c hu
   simp only [dL] at h;subst h;cases aw;exact⟨φ,w,_,hm _ (ei hu rfl),.int _ _,db.refl ar⟩
  ·rename_i e a l c hu
   simp only [dL] at h;subst h;cases aw<;>exact⟨φ,w,_,hm _ (ei hu rfl),.c3 _,db.refl ar⟩
  ·rename_i n e hu
   simp only [dL] at h;subst h;exact⟨φ,w,_,hm _ (ei hu rfl),.int _ _,db.refl ar⟩
  ·cases h
 ·cases h
theorem abh (ar:cB φ A w) {eo:Array bq} {ty:bq} {x x' v:ad} (aw:aM φ x x') (h:MQ x=some v):cH (iO v) P φ A w (Builtin.unsafeSliceData_ eo ty #[x']) A:=by
 unfold MQ at h;split at h
 ·simp only [dL] at h
  subst h;cases aw;exact cH.ret ar .zQ
 ·rename_i b off n c
  cases aA:Nat.beq c 0 with
  |true=>rw[aA] at h;cases h
  |false=>
   rw[aA,fI,dL] at h;subst h;have Fz:c≠0:=λae=>by rw[ae] at aA;exact absurd aA aL
   have key:∀(a:Addr) (n c:Nat),c≠0->(Builtin.unsafeSliceData_ eo ty #[.slice (some a) n c]).run P w= .ok (.pointer (some a)) w:=by
    intro a n c aA;have e:Builtin.unsafeSliceData_ eo ty #[.slice (some a) n c]=(if c≠0 then pure (.pointer (some a)) else do
     if (<-viewAt a.block).isSome then pure (.pointer (some a)) else pure (.pointer (some ⟨<-newObj (.view a (<-elemOf ty)),0,none⟩))):=rfl
    rw[e,aP aA];rfl
   cases aw with
   |jI=>exact absurd rfl Fz
   |jk n c he=>exact⟨φ,w,_,key _ _ _ Fz,.ptr he,db.refl ar⟩
   |jl n c c' he af ah aH=>exact⟨φ,w,_,key _ _ _ aj,.ptr he,db.refl ar⟩
 ·cases h
theorem abi (ar:cB φ A w) {b:Builtin} {eo:Array bq} {ty:bq} {cs:Array Bool} {l:List ad} {a:Array ad} {v:ad} (az:iY l φ a) (h:MS P A b eo ty l=some (v,bK)):
  cH (xN (.value v)) P φ A w (builtin b eo ty cs a) bK:=by
 have g_:∀{s:Sem ad},cH (iO v) P φ A w s bK->cH (xN (.value v)) P φ A w (do pure (.value (<-s))) bK:=λay=>cH.map ay λφ a cG=>⟨a,rfl,cG⟩
 unfold MS at h;split at h
 ·obtain⟨x',rfl,aw⟩:=az.one
  split at h
  ·rename_i v' aR
   cases h;exact g_ (aaI ar aw aR)
  ·split at h
   ·rename_i v' aR
    cases h;exact g_ (MU ar az aR)
   ·cases h
 ·obtain⟨x',gQ,rfl,aw,hy⟩:=az.two
  exact g_ (aau ar aw hy h)
 ·obtain⟨x',gQ,rfl,aw,hy⟩:=az.two
  exact g_ (aaD ar aw hy h)
 ·obtain⟨x',rfl,aw⟩:=az.one
  obtain⟨v',aR,he⟩:=Option.map_eq_some_iff.1 h;cases he;exact g_ (abg ar aw aR)
 ·obtain⟨v',aR,he⟩:=Option.map_eq_some_iff.1 h
  cases he;exact g_ (MU ar az aR)
 ·obtain⟨v',aR,he⟩:=Option.map_eq_some_iff.1 h
  cases he;exact g_ (MU ar az aR)
 ·obtain⟨x',rfl,aw⟩:=az.one
  obtain⟨v',aR,he⟩:=Option.map_eq_some_iff.1 h;cases he;exact g_ (abh ar aw aR)
 ·obtain⟨x',rfl,aw⟩:=az.one
  split at h
  ·rename_i cg qz
   cases h;exact g_ (aa0 ar aw qz)
  ·cases h
 ·rename_i x n
  obtain⟨x',gQ,rfl,aw,hy⟩:=az.two;cases hp:plain n with
  |false=>rw[hp] at h;cases h
  |true=>
   rw[hp,cN] at h;rw[aM.mc _ hp hy];exact g_ (aaY ar aw h)
 ·rename_i m k
  obtain⟨x',gQ,rfl,aw,hy⟩:=az.two;split at h
  ·rename_i cg qz
   cases h;have hp:plain k=true:=by
    unfold Je at qz;split at qz
    ·cases hp:plain k with
     |true=>rfl
     |false=>rw[hp] at qz;cases qz
    ·cases qz
   rw[aM.mc _ hp hy];exact g_ (abb ar aw qz)
  ·cases h
 ·cases h
def enters (P:bB) (f:FuncId):Bool:=
 match P.funcs[f]? with
 |some fn=> !(fn.name== "runtime.NumGoroutine")&&fn.body.isSome
 |none=>false
omit [bp] in
theorem FA {f:FuncId} (h:enters P f=true) (args:Array ad):bZ P (callFunc f args)=some (.enter f args):=by
 unfold enters at h;split at h
 ·rename_i fn bn
  simp only [fy,Bool.not_eq_true'] at h;obtain⟨af,ah⟩:=h;have aH:fn.body.isNone=false:=by cases ai:fn.body<;>simp_all
  unfold callFunc;show bZ P (match P.funcs[f]? with|none=>_|some fn=>_)=_;simp only [bn,af,aH,Bool.false_eq_true,if_false];rfl
 ·cases h
def TG (P:bB) (f:FuncId) (args:List ad):Option uf:=
 bif qt args then match bZ P (callFunc f ⟨args⟩) with
  |some (.value v)=>bif plain v then some (.value v) else none
  |_=>none
 else none
def MV (P:bB) [Lib P] (A:bx) (f:FuncId):List ad->Option (ad×bx)
 |[x]=>bif (Lib.same P).contains f then some (x,A) else
  match (Lib.Mz P).find? λp=>Nat.beq p.1 f,x with
  |some p,.int .i64 n=>MC A p.2 n
  |_,_=>none
 |_=>none
def Jf (P:bB) [Lib P] (A:bx) (f:FuncId) (args:List ad):Option (uf×bx):=
 bif enters P f then some (.enter f args,A) else
  match MV P A f args with
  |some (v,cg)=>some (.value v,cg)
  |none=>match TG P f args with
   |some n=>some (n,A)
   |none=>none
theorem abj [Lib P] (ar:cB φ A w) {f:FuncId} {l:List ad} {a:Array ad} {v:ad} (az:iY l φ a) (h:MV P A f l=some (v,bK)):cH (xN (.value v)) P φ A w (callFunc f a) bK:=by
 unfold MV at h;split at h
 ·rename_i x
  obtain⟨x',rfl,aw⟩:=az.one;cases aA:(Lib.same P).contains f with
  |true=>
   rw[aA] at h;cases h;exact cH.pure_run ar (Lib.Tq f (by simpa using aA) x') ⟨x',rfl,aw⟩
  |false=>
   rw[aA,fI] at h;split at h
   ·rename_i p n bn
    cases aw;have eO:p.1=f:=by
     have:=List.find?_some bn;exact ep this
    obtain⟨ps,Bp,t,af,ah,aH⟩:=Lib.Tr p (List.mem_of_find?_eq_some bn);obtain⟨hO,w1,v1,g1,g2,g3⟩:=aaR (ps:=ps) ar ah aH h;refine⟨hO,w1,.value v1,?_,⟨v1,rfl,g2⟩,g3⟩;rw[<-eO,af];exact ev g1 rfl
   ·cases h
 ·cases h
theorem TH [Lib P] (ar:cB φ A w) {f:FuncId} {l:List ad} {a:Array ad} {n:uf} (az:iY l φ a) (h:Jf P A f l=some (n,bK)):cH (xN n) P φ A w (callFunc f a) bK:=by
 unfold Jf at h;cases he:enters P f with
 |true=>
  rw[he] at h;cases h;exact cH.pure_run ar (FA he a) ⟨a,rfl,az⟩
 |false=>
  rw[he,fI] at h;split at h
  ·rename_i v cg ao
   cases h;exact abj ar az ao
  ·split at h
   ·rename_i n aT
    cases h;unfold TG at aT;cases hp:qt l with
    |false=>rw[hp] at aT;cases aT
    |true=>
     rw[hp,cN] at aT;split at aT
     ·rename_i v aR
      cases tr:plain v with
      |false=>rw[tr] at aT;cases aT
      |true=>
       rw[tr,cN,dL] at aT;subst aT;rw[az.eq hp];exact cH.pure_run ar aR ⟨v,rfl,aM.lv φ v tr⟩
     ·cases aT
   ·cases h
def MW (P:bB) [Lib P] (A:bx) (b5:Operand->ad) (c:Call) (ty:bq):Option (uf×bx):=
 match c.callee with
 | .builtin b=>(MS P A b c.argTypes ty (c.args.toList.map b5)).map λr=>(.value r.1,r.2)
 | .value f=>match b5 f with
   | .func (.func g) ⟨first⟩ ⟨Dp⟩=>Jf P A g (first++c.args.toList.map b5++Dp)
   |_=>none
 | .invoke recv name=>match b5 recv with
   | .iface t v=>bif plain v then match bZ P (method (P.types.size+Made.depth) t v name) with
       |some (f,r)=>bif plain r then Jf P A f (r::c.args.toList.map b5) else none
       |none=>none
     else none
   |_=>none
theorem iY.append {l1 jo:List ad} {eL eY:Array ad} (af:iY l1 φ eL) (ah:iY jo φ eY):iY (l1++jo) φ (eL++eY):=by
 obtain⟨MT⟩:=eL;obtain⟨Jg⟩:=eY;obtain⟨s1,v1⟩:=af;obtain⟨s2,hB⟩:=ah;simp only [List.size_toArray] at s1 s2;refine⟨by simp [s1,s2],λj aq=> ?_⟩;simp only [List.append_toArray,gd,List.getElem?_toArray,eP] at v1 hB ⊢;rcases Nat.lt_or_ge j l1.length with h|h
 ·rw[List.getElem?_append_left h,List.getElem?_append_left aj]
  exact v1 j h
 ·rw[List.getElem?_append_right h,List.getElem?_append_right aj,s1]
  exact hB _ (by simp at aq;omega)
theorem iY.map {l:Array Operand} {ρ ρ':Operand->ad} (h:∀x∈l,aM φ (ρ x) (ρ' x)):iY (l.toList.map ρ) φ (l.map ρ'):=by
 obtain⟨l⟩:=l;refine⟨by simp,λj aq=> ?_⟩;simp only [List.length_map] at aq;simp only [List.map_toArray,gd,List.getElem?_toArray,eP,List.getElem?_map,ig aq,Option.map_some,Option.getD_some];exact h _ (by simp)
theorem iY.of {cs cs':Array ad} (af:cs.size=cs'.size) (h:∀i,i<cs.size->aM φ (cs.getD i undef) (cs'.getD i undef)):iY cs.toList φ cs':=by
 obtain⟨l⟩:=cs;refine⟨by simpa using af.symm,λj aq=> ?_⟩;simpa [gd] using h j (by simpa using aq)
theorem abk [Lib P] (ar:cB φ A w) {ρ ρ':Operand->ad} {c:Call} {ty:bq} {n:uf} (eh:∀x,aM φ (ρ x) (ρ' x)) (h:MW P A ρ c ty=some (n,bK)):
  cH (xN n) P φ A w (do let d <-resolve ρ' c ty;invoke d.target d.args) bK:=by
 unfold MW at h;have hW:iY (c.args.toList.map ρ) φ (c.args.map ρ'):=iY.map λx _=>eh x
 split at h
 ·rename_i b aA
  obtain⟨⟨v,cg⟩,ai,he⟩:=Option.map_eq_some_iff.1 h;cases he;obtain⟨gf,w2,wz,g1,g2,g3⟩:=abi (cs:=c.args.map λ| .const _=>true|_=>false) ar hW ai;refine⟨gf,w2,wz,?_,g2,g3⟩;rw[<-g1];unfold resolve;rw[aA];rfl
 ·rename_i f aA
  split at h
  ·rename_i g first Dp bn
   have ai:=h;have aR:=eh f;rw[bn] at aR;cases wA:ρ' f with
   |func fn lI cs'=>
    rw[wA] at aR;cases aR with
    |func fs lI cs cs' aT af ah MX hJ=>
     have:=(iY.of af MX).append hW |>.append (iY.of ah hJ);obtain⟨gf,w2,wz,g1,g2,g3⟩:=TH ar this ai;refine⟨gf,w2,wz,?_,g2,g3⟩;rw[<-g1];unfold resolve;rw[aA];simp only [wA];rfl
   |_=>rw[wA] at aR;cases aR
  ·cases h
 ·rename_i recv name aA
  split at h
  ·rename_i t v aR
   cases hp:plain v with
   |false=>rw[hp] at h;cases h
   |true=>
    rw[hp,cN] at h;split at h
    ·rename_i f r hm
     cases MY:plain r with
     |false=>rw[MY] at h;cases h
     |true=>
      rw[MY,cN] at h;have ai:=h;have FB:=eh recv;rw[aR] at FB;cases wA:ρ' recv with
      |iface fk v'=>
       rw[wA] at FB;cases FB with
       |iface _ wB=>
        have abl:=aM.mc v hp wB;subst abl;have af:iY [r] φ #[r]:=⟨rfl,λj aq=>by
         have:j=0:=by simpa using aq
         subst this
         exact aM.lv φ r MY⟩
        obtain⟨gf,w2,wz,g1,g2,g3⟩:=TH ar (af.append hW) ai;refine⟨gf,w2,wz,?_,g2,g3⟩;rw[<-g1];unfold resolve;rw[aA];simp only [wA];refine ei (a:={target:= .fn (.method name) #[],args:= #[.iface t v']++c.args.map ρ'}) rfl ?_;unfold invoke;have b4:(#[Value.iface t v']++c.args.map ρ')[0]? =some (.iface t v'):=by
         simp [Array.getElem?_append]
        have bs:(#[Value.iface t v']++c.args.map ρ').extract 1 (#[Value.iface t v']++c.args.map ρ').size=c.args.map ρ':=by
         apply Array.ext';simp [List.take_of_length_le]
        simp only [b4,bs];unfold callMethod;refine ei (a:=P) rfl ?_;exact ei hm rfl
      |_=>rw[wA] at FB;cases FB
    ·cases h
  ·cases h
end
end a1
namespace a1
variable [bp]
def yD (b5:Operand->ad):Option Operand->Bool
 |none=>true
 |some x=>plain (b5 x)
def MZ (P:bB) (A:bx) (qx dst:bq) (x:ad):Option (ad×bx):=
 match (bif plain x then vj P (convert qx dst x) else none) with
 |some v=>some (v,A)
 |none=>match MA P A qx dst x with
  |some v=>some (v,A)
  |none=>match bZ P (underlying qx),bZ P (underlying dst),x with
   |some _,some (.slice e),.string s=>match bZ P (underlying e) with
    |some (.int .u8)=>Mt A e s
    |_=>none
   |some (.slice e),some .string,.slice a n c=>match bZ P (underlying e) with
    |some (.int .u8)=>(Ms P A (.slice a n c)).map (·,A)
    |_=>none
   |_,_,_=>none
def TI (x:ad):Option ad:=
 match x with
 | .pointer (some _)=>some x
 | .func (.func _) _ _=>some x
 | .iface _ _=>some x
 |_=>none
def TJ:Fn->Bool
 | .yield _=>true
 |_=>false
def val (A:bx):Option ad->Option (uf×bx)
 |some v=>some (.value v,A)
 |none=>none
def vk:Option (ad×bx)->Option (uf×bx)
 |some (v,A)=>some (.value v,A)
 |none=>none
def FC (P:bB) [Lib P] (b5:Operand->ad) (A:bx) (o:Oper):Option (uf×bx):=
 match o.op with
 | .move x| .assign x=>some (.value (b5 x),A)
 | .pick c a b=>match b5 c with
   | .bool t=>some (.value (bif t then b5 a else b5 b),A)
   |_=>none
 | .alloc t=>vk (LZ P A t)
 | .box t x=>vk (IT A t (b5 x))
 | .build t parts=>val A (L5 P t (parts.map λ(i,x)=>(i,b5 x)))
 | .buildSlice t len parts=>bif Nat.beq len 0&&Nat.beq parts.size 0 then vk (L7 P A t) else vk (L6 P A t len (parts.map λ(i,x)=>(i,b5 x)))
 | .load t a=>val A (Dc P A t (b5 a))
 | .store t a x=>match LY P A t (b5 x) (b5 a) with
   |some cg=>some (.skip,cg)
   |none=>none
 | .nilCheck x=>val A (TI (b5 x))
 | .binOp op t x y _=>match (bif plain (b5 x)&&plain (b5 y) then vj P (do eqGuard op t x y (b5 x) (b5 y);binOp op t (b5 x) (b5 y)) else none) with
   |some v=>some (.value v,A)
   |none=>val A (Mv P op t (b5 x) (b5 y))
 | .unOp op _ x=>bif plain (b5 x) then val A (vj P (Op.unary op (b5 x))) else none
 | .convert qx dst x=>vk (MZ P A qx dst (b5 x))
 | .makeInterface t x=>val A (Mw P t (b5 x))
 | .makeFunc fn first Dp=>bif TJ fn then none else some (.value (.func fn ⟨first.toList.map b5⟩ ⟨Dp.toList.map b5⟩),A)
 | .makeSlice t l c=>bif plain (b5 l)&&plain (b5 c) then vk (Mp P A t (b5 l) (b5 c)) else none
 | .slice t x fL ak eZ=>bif yD b5 fL&&(yD b5 ak&&yD b5 eZ) then val A (match Mj P A t (b5 x) (fL.map b5) (ak.map b5) (eZ.map b5) with
     |some v=>some v
     |none=>bif plain (b5 x) then vj P (Instr.sliceAt t (b5 x) (fL.map b5) (ak.map b5) (eZ.map b5)) else none) else none
 | .fieldAddr s x f=>val A (Fe P s f (b5 x))
 | .field t x f=>val A (L0 P t (b5 x) f)
 | .indexAddr t x h6=>bif plain (b5 h6) then val A (Ff P t (b5 x) (b5 h6)) else none
 | .index t x h6=>bif plain (b5 h6) then val A (match L1 P t (b5 x) (b5 h6) with
     |some v=>some v
     |none=>bif plain (b5 x) then vj P (Instr.index t (b5 x) (b5 h6)) else none) else none
 | .typeAssert x _ asserted ok=>val A (Mx P (b5 x) asserted ok)
 | .extract t h6=>val A (L2 (b5 t) h6)
 | .call c=>MW P A b5 c o.type
 | .makeMap t r=>bif yD b5 r then vk (MK P A t (r.map b5)) else none
 | .lookup t x h6 ok=>val A (Ja P A t (b5 x) (b5 h6) ok)
 | .mapUpdate t m k x| .insert t m k x=>match Fx P A t (b5 m) (b5 k) (b5 x) with
   |some cg=>some (.skip,cg)
   |none=>none
 | .mapEntry t m k=>vk (Jc P A t (b5 m) (b5 k))
 | .entryStore _ m st x=>match Jd P A (b5 m) (b5 st) (b5 x) with
   |some cg=>some (.skip,cg)
   |none=>none
 | .range t x=>vk (MO P A t (b5 x))
 | .next it TK=>vk (MP A (b5 it) TK)
 |_=>none
section
variable {P:bB} {φ:cD} {A bK:bx} {w:aG}
theorem abm (ar:cB φ A w) {qx dst:bq} {x x' v:ad} (aw:aM φ x x') (h:MZ P A qx dst x=some (v,bK)):cH (iO v) P φ A w (convert qx dst x') bK:=by
 unfold MZ at h;split at h
 ·rename_i u hu
  simp only [dL,Prod.mk.injEq] at h;obtain⟨rfl,rfl⟩:=h;cases hp:plain x with
  |false=>rw[hp] at hu;cases hu
  |true=>
   rw[hp,cN] at hu;rw[aM.mc x hp aw];exact Dn ar hu
 split at h
 ·rename_i u hu
  cases h;exact aaP ar aw hu
 ·split at h
  ·rename_i d e s af ah _ _
   split at h
   ·rename_i aH
    cases aw;unfold convert;refine cH.pre af (cH.pre ah ?_);simp only;refine cH.pre aH ?_;exact aaK ar h
   ·cases h
  ·rename_i e a n c af ah _ _
   split at h
   ·rename_i aH
    obtain⟨v',aR,he⟩:=Option.map_eq_some_iff.1 h;cases he;have ay:=aaJ ar aw aR;unfold convert;refine cH.pre af (cH.pre ah ?_);cases aw<;>exact cH.pre aH ay
   ·cases h
  ·cases h
theorem Jh {ρ ρ':Operand->ad} (eh:∀x,aM φ (ρ x) (ρ' x)) {o:Option Operand} (h:yD ρ o=true):o.map ρ'=o.map ρ:=by
 cases o with
 |none=>rfl
 |some x=>simp only [Option.map_some];rw[aM.mc _ h (eh x)]
theorem TL [Lib P] (ar:cB φ A w) {ρ ρ':Operand->ad} {o:Oper} {n:uf} (eh:∀x,aM φ (ρ x) (ρ' x)) (h:FC P ρ A o=some (n,bK)):cH (xN n) P φ A w (execOp ρ' o) bK:=by
 have g_:∀{v:ad} {s:Sem ad},cH (iO v) P φ A w s bK->cH (xN (.value v)) P φ A w (do pure (.value (<-s))) bK:=λay=>cH.map ay λφ a cG=>⟨a,rfl,cG⟩
 have hval:∀{r:Option ad},val A r=some (n,bK)->∃v,r=some v/\n= .value v/\bK=A:=by
  intro r aR;cases r with
  |none=>cases aR
  |some v=>simp only [val,dL,Prod.mk.injEq] at aR;exact⟨v,rfl,aR.1.symm,aR.2.symm⟩
 have xO:∀{r:Option (ad×bx)},vk r=some (n,bK)->∃v,r=some (v,bK)/\n= .value v:=by
  intro r aR;cases r with
  |none=>cases aR
  |some p=>obtain⟨v,cg⟩:=p;simp only [vk,dL,Prod.mk.injEq] at aR;exact⟨v,by rw[aR.2],aR.1.symm⟩
 obtain⟨dst,op,type,pos,after,guard⟩:=o;unfold FC at h;unfold execOp;cases op<;>simp only at h ⊢<;>try (cases h;done)
 case move x=>cases h;exact cH.ret ar ⟨_,rfl,eh x⟩
 case assign x=>cases h;exact cH.ret ar ⟨_,rfl,eh x⟩
 case pick c a b=>
  split at h
  ·rename_i t aA
   cases h;have:=eh c;rw[aA] at this;cases Fz:ρ' c<;>rw[Fz] at this<;>cases this
   refine cH.pre (a:=t) rfl ?_;cases t
   ·exact cH.ret ar ⟨_,rfl,eh b⟩
   ·exact cH.ret ar ⟨_,rfl,eh a⟩
  ·cases h
 case alloc t=>
  obtain⟨v,af,rfl⟩:=xO h;exact g_ (aac ar af)
 case box t x=>
  obtain⟨v,af,rfl⟩:=xO h;exact g_ (SY ar (eh x) af)
 case build t parts=>
  obtain⟨v,af,rfl,rfl⟩:=hval h;exact g_ (aai ar (λp _=>eh p.2) af)
 case buildSlice t len parts=>
  cases ai:(Nat.beq len 0&&Nat.beq parts.size 0) with
  |true=>
   rw[ai,cN] at h;simp only [fy] at ai;obtain⟨v,af,rfl⟩:=xO h;have bs:len=0:=ep ai.1;have cw:parts= #[]:=Array.eq_empty_of_size_eq_zero (ep ai.2);subst bs;subst cw;exact g_ (by simpa using aak ar af)
  |false=>
   rw[ai,fI] at h;obtain⟨v,af,rfl⟩:=xO h;exact g_ (aaj ar (λp _=>eh p.2) af)
 case load t a=>
  obtain⟨v,af,rfl,rfl⟩:=hval h;exact g_ (Z9 ar (eh a) af)
 case store t a x=>
  split at h
  ·rename_i cg af
   cases h;exact cH.map (Z_ ar (eh a) (eh x) af) λ_ _ _=>rfl
  ·cases h
 case nilCheck x=>
  obtain⟨v,af,rfl,rfl⟩:=hval h;have aw:=eh x;unfold TI at af;split at af
  ·rename_i a cG
   cases af;rw[cG] at aw;cases tp:ρ' x<;>rw[tp] at aw
   all_goals cases aw
   rename_i h;exact cH.ret ar ⟨_,rfl,cG▸.ptr h⟩
  ·rename_i f fs cs cG
   cases af;rw[cG] at aw;cases tp:ρ' x<;>rw[tp] at aw
   all_goals cases aw
   rename_i af ah aH ck dd;exact cH.ret ar ⟨_,rfl,cG▸.func _ _ _ _ af ah ck aH dd⟩
  ·rename_i t u cG
   cases af;rw[cG] at aw;cases tp:ρ' x<;>rw[tp] at aw
   all_goals cases aw
   rename_i h;exact cH.ret ar ⟨_,rfl,cG▸.iface _ h⟩
  ·cases af
 case binOp op t x y TM=>
  split at h
  ·rename_i v aR
   cases h;cases hp:plain (ρ x) with
   |false=>simp only [hp,Bool.false_and,fI] at aR;cases aR
   |true=>
    cases cy:plain (ρ y) with
    |false=>simp only [cy,Bool.and_false,fI] at aR;cases aR
    |true=>
     simp only [hp,cy,Bool.and_true,cN] at aR;rw[aM.mc _ hp (eh x),aM.mc _ cy (eh y)];exact g_ (Dn ar aR)
  ·obtain⟨v,af,rfl,rfl⟩:=hval h
   exact g_ (aaM ar (eh x) (eh y) af)
 case unOp op t x=>
  cases hp:plain (ρ x) with
  |false=>rw[hp] at h;cases h
  |true=>
   rw[hp,cN] at h;obtain⟨v,af,rfl,rfl⟩:=hval h;rw[aM.mc _ hp (eh x)];exact g_ (Dn ar af)
 case convert qx dst x=>
  obtain⟨v,af,rfl⟩:=xO h;exact g_ (abm ar (eh x) af)
 case makeInterface t x=>
  obtain⟨v,af,rfl,rfl⟩:=hval h;exact g_ (aaN ar (eh x) af)
 case makeFunc fn first Dp=>
  cases hy:TJ fn with
  |true=>rw[hy] at h;cases h
  |false=>
   rw[hy] at h;cases h;have c9:=iY.map (φ:=φ) (l:=first) (ρ:=ρ) (ρ':=ρ') λx _=>eh x
   have eF:=iY.map (φ:=φ) (l:=Dp) (ρ:=ρ) (ρ':=ρ') λx _=>eh x
   refine cH.ret ar ⟨_,rfl,.func _ _ _ _ (λl az=>by subst az;cases hy) (by simp) (by simp) (λi ak=> ?_) (λi ak=> ?_)⟩
   ·have:=c9.2 i (by simpa using ak)
    simpa [gd] using this
   ·have:=eF.2 i (by simpa using ak)
    simpa [gd] using this
 case makeSlice t l c=>
  cases hp:plain (ρ l) with
  |false=>simp only [hp,Bool.false_and,fI] at h;cases h
  |true=>
   cases cy:plain (ρ c) with
   |false=>simp only [cy,Bool.and_false,fI] at h;cases h
   |true=>
    simp only [hp,cy,Bool.and_true,cN] at h;obtain⟨v,af,rfl⟩:=xO h;rw[aM.mc _ hp (eh l),aM.mc _ cy (eh c)];exact g_ (aaG ar af)
 case slice t x fL ak eZ=>
  cases hp:(yD ρ fL&&(yD ρ ak&&yD ρ eZ)) with
  |false=>rw[hp] at h;cases h
  |true=>
   rw[hp,cN] at h;simp only [fy] at hp;obtain⟨v,af,rfl,rfl⟩:=hval h;rw[Jh eh hp.1,Jh eh hp.2.1,Jh eh hp.2.2];split at af
   ·rename_i u hu
    cases af;exact g_ (aaB ar (eh x) hu)
   ·cases cy:plain (ρ x) with
    |false=>rw[cy] at af;cases af
    |true=>
     rw[cy,cN] at af;rw[aM.mc _ cy (eh x)];exact g_ (Dn ar af)
 case fieldAddr s x f=>
  obtain⟨v,af,rfl,rfl⟩:=hval h;exact g_ (aad ar (eh x) af)
 case field t x f=>
  obtain⟨v,af,rfl,rfl⟩:=hval h;exact g_ (aaf ar (eh x) af)
 case indexAddr t x h6=>
  cases hp:plain (ρ h6) with
  |false=>rw[hp] at h;cases h
  |true=>
   rw[hp,cN] at h;obtain⟨v,af,rfl,rfl⟩:=hval h;rw[aM.mc _ hp (eh h6)];exact g_ (aae ar (eh x) af)
 case index t x h6=>
  cases hp:plain (ρ h6) with
  |false=>rw[hp] at h;cases h
  |true=>
   rw[hp,cN] at h;obtain⟨v,af,rfl,rfl⟩:=hval h;rw[aM.mc _ hp (eh h6)];split at af
   ·rename_i u hu
    cases af;exact g_ (aag ar (eh x) hu)
   ·cases cy:plain (ρ x) with
    |false=>rw[cy] at af;cases af
    |true=>
     rw[cy,cN] at af;rw[aM.mc _ cy (eh x)];exact g_ (Dn ar af)
 case typeAssert x Tp asserted ok=>
  obtain⟨v,af,rfl,rfl⟩:=hval h;exact g_ (aaO ar (eh x) af)
 case extract t h6=>
  obtain⟨v,af,rfl,rfl⟩:=hval h;exact g_ (aah ar (eh t) af)
 case call c=>exact abk ar eh h
 case makeMap t r=>
  cases hp:yD ρ r with
  |false=>rw[hp] at h;cases h
  |true=>
   rw[hp,cN] at h;obtain⟨v,af,rfl⟩:=xO h;rw[Jh eh hp];exact g_ (aa4 ar af)
 case lookup t x h6 ok=>
  obtain⟨v,af,rfl,rfl⟩:=hval h;have hp:plain (ρ h6)=true:=by
   unfold Ja at af;cases hp:plain (ρ h6) with
   |true=>rfl
   |false=>rw[hp] at af;cases af
  rw[aM.mc _ hp (eh h6)];exact g_ (aa5 ar (eh x) af)
 case mapUpdate t m k x=>
  split at h
  ·rename_i cg af
   cases h;have hp:plain (ρ k)=true:=by
    unfold Fx at af;cases hp:plain (ρ k) with
    |true=>rfl
    |false=>rw[hp] at af;cases af
   rw[aM.mc _ hp (eh k)];exact cH.map (TD ar (eh m) (eh x) af) λ_ _ _=>rfl
  ·cases h
 case insert t m k x=>
  split at h
  ·rename_i cg af
   cases h;have hp:plain (ρ k)=true:=by
    unfold Fx at af;cases hp:plain (ρ k) with
    |true=>rfl
    |false=>rw[hp] at af;cases af
   rw[aM.mc _ hp (eh k)];exact cH.map (TD ar (eh m) (eh x) af) λ_ _ _=>rfl
  ·cases h
 case mapEntry t m k=>
  obtain⟨v,af,rfl⟩:=xO h;have hp:plain (ρ k)=true:=by
   unfold Jc at af;cases hp:plain (ρ k) with
   |true=>rfl
   |false=>rw[hp] at af;cases af
  rw[aM.mc _ hp (eh k)];exact g_ (aa8 ar (eh m) af)
 case entryStore t m st x=>
  split at h
  ·rename_i cg af
   cases h;have hp:plain (ρ st)=true:=by
    unfold Jd at af;split at af
    ·split at af
     ·cases hp:plain (ρ st) with
      |true=>rfl
      |false=>rw[hp] at af;cases af
     ·cases af
    ·cases af
   rw[aM.mc _ hp (eh st)];exact cH.map (aa_ ar (eh m) (eh x) af) λ_ _ _=>rfl
  ·cases h
 case range t x=>
  obtain⟨v,af,rfl⟩:=xO h;exact g_ (abd ar (eh x) af)
 case next it TK=>
  obtain⟨v,af,rfl⟩:=xO h;exact g_ (abf ar (eh it) af)
end
end a1
namespace a1
mutual
def ln:ad->ad->Bool
 | .bool a,.bool b=>a==b
 | .int k n,.int k' mr=>decide (k=k')&&decide (n=mr)
 | .complex .f64 a b,.complex .f64 bR b'=>Nat.beq a bR&&Nat.beq b b'
 | .string s,.string t=>s.data.toList==t.data.toList
 | .pointer none,.pointer none=>true
 | .slice none l c,.slice none l' c'=>Nat.beq l l'&&Nat.beq c c'
 | .map none,.map none=>true
 | .nilFunc,.nilFunc=>true
 | .nilIface,.nilIface=>true
 | .func (.func f) ⟨a⟩ ⟨b⟩,.func (.func g) ⟨bR⟩ ⟨b'⟩=>Nat.beq f g&&(wC a bR&&wC b b')
 | .iface t v,.iface fk v'=>Nat.beq t fk&&ln v v'
 | .agg ⟨l⟩,.agg ⟨l'⟩=>wC l l'
 | .tuple ⟨l⟩,.tuple ⟨l'⟩=>wC l l'
 |_,_=>false
def wC:List ad->List ad->Bool
 |[],[]=>true
 |v::r,v'::iA=>ln v v'&&wC r iA
 |_,_=>false
end
mutual
theorem mO:∀(a b:ad),ln a b=true->a=b:=by
 intro a b h;unfold ln at h;split at h
 ·rw[eq_of_beq h]
 ·simp only [fy,decide_eq_true_eq] at h;rw[h.1,h.2]
 ·simp only [fy] at h;rw[ep h.1,ep h.2]
 ·rename_i s t
  have:=eq_of_beq h;obtain⟨⟨s⟩⟩:=s;obtain⟨⟨t⟩⟩:=t;simp only at this;rw[this]
 ·rfl
 ·simp only [fy] at h;rw[ep h.1,ep h.2]
 ·rfl
 ·rfl
 ·rfl
 ·simp only [fy] at h;rw[ep h.1,Dq _ _ h.2.1,Dq _ _ h.2.2]
 ·rename_i t v fk v'
  simp only [fy] at h;rw[ep h.1,mO v v' h.2]
 ·rename_i l l'
  rw[Dq l l' h]
 ·rename_i l l'
  rw[Dq l l' h]
 ·cases h
theorem Dq:∀(a b:List ad),wC a b=true->a=b
 |[],[],_=>rfl
 |v::r,v'::iA,h=>by
  unfold wC at h;simp only [fy] at h;rw[mO v v' h.1,Dq r iA h.2]
 |[],_::_,h=>by simp [wC] at h
 |_::_,[],h=>by simp [wC] at h
end
mutual
def bL:ad->Bool
 | .complex .f64 _ b=>Nat.beq b 0
 | .iface _ v=>bL v
 | .agg ⟨l⟩=>fH l
 | .tuple ⟨l⟩=>fH l
 | .bool _| .int .. | .float .. | .string _| .pointer none| .map none| .chan none| .nilFunc| .nilIface=>true
 | .slice none l c=>l==0&&c==0
 | .func (.func _) ⟨a⟩ ⟨b⟩=>fH a&&fH b
 |_=>false
def fH:List ad->Bool
 |[]=>true
 |v::r=>bL v&&fH r
end
variable [bp]
mutual
def bb:ad->ad
 | .complex .f64 k b=>bif Nat.beq b 0 then bp.σ k else .complex .f64 k b
 | .iface t v=> .iface t (bb v)
 | .agg ⟨l⟩=> .agg ⟨fl l⟩
 | .tuple ⟨l⟩=> .tuple ⟨fl l⟩
 | .func (.func f) ⟨a⟩ ⟨b⟩=> .func (.func f) ⟨fl a⟩ ⟨fl b⟩
 |v=>v
def fl:List ad->List ad
 |[]=>[]
 |v::r=>bb v::fl r
end
theorem Ji (k:Nat):bb (al k)=bp.σ k:=by simp [al,bb]
theorem yE:∀l:List ad,(fl l).length=l.length
 |[]=>rfl
 |v::r=>by simp [fl,yE r]
theorem TN:∀l:List ad,fl l=l.map bb
 |[]=>rfl
 |v::r=>by simp [fl,TN r]
mutual
theorem aM.wD (φ:cD):∀v:ad,bL v=true->aM φ v (bb v):=by
 intro v h;unfold bL at h;split at h
 ·rename_i k b
  have:b=0:=ep h;subst this;have:=aM.sym (φ:=φ) k;simpa [bb,al] using this
 ·rename_i t v
  unfold bb;exact .iface t (aM.wD φ v h)
 ·rename_i l
  unfold bb;exact .agg _ _ (by simp [yE]) λi ak=>by simpa using aM.Bt φ l h i (by simpa using ak)
 ·rename_i l
  unfold bb;exact .tuple _ _ (by simp [yE]) λi ak=>by simpa using aM.Bt φ l h i (by simpa using ak)
 all_goals (first|(cases h;done)|skip)
 ·rename_i b;simpa [bb] using aM.lv φ (.bool b) rfl
 ·rename_i k n;simpa [bb] using aM.lv φ (.int k n) rfl
 ·rename_i k n;simpa [bb] using aM.lv φ (.float k n) rfl
 ·rename_i s;simpa [bb] using aM.lv φ (.string s) rfl
 ·simpa [bb] using aM.lv φ (.pointer none) rfl
 ·simpa [bb] using aM.lv φ (.map none) rfl
 ·simpa [bb] using aM.lv φ (.chan none) rfl
 ·simpa [bb] using aM.lv φ .nilFunc rfl
 ·simpa [bb] using aM.lv φ .nilIface rfl
 ·rename_i l c;simpa [bb] using aM.lv φ (.slice none l c) h
 ·rename_i f a b
  simp only [fy] at h;unfold bb;exact .func _ _ _ _ (λl az=>by cases az) (by simp [yE]) (by simp [yE]) (λi ak=>by simpa using aM.Bt φ a h.1 i (by simpa using ak)) (λi ak=>by simpa using aM.Bt φ b h.2 i (by simpa using ak))
theorem aM.Bt (φ:cD):∀l:List ad,fH l=true->∀i,i<l.length->aM φ (l.getD i Go.undef) ((fl l).getD i Go.undef)
 |[],_,i,ak=>absurd ak (by simp)
 |v::r,h,0,_=>by
   have:=aM.wD φ v (by simp [fH] at h;exact h.1);simpa [fl] using this
 |v::r,h,i+1,ak=>by
   have:=aM.Bt φ r (by simp [fH] at h;exact h.2) i (by simpa using ak);simpa [fl] using this
end
theorem aM.abn {φ:cD} {k:Nat} {v':ad} (h:aM φ (al k) v'):v'=bp.σ k:=by
 generalize ay:al k=s at h;cases h<;>simp [al,a1.c3] at ay
 subst ay;rfl
mutual
theorem aM.kr {φ:cD}:∀(v:ad) {v':ad},bL v=true->aM φ v v'->v'=bb v:=by
 intro v v' hp h;unfold bL at hp;split at hp
 ·rename_i k b
  have:b=0:=ep hp;subst this;rw[aM.abn (k:=k) h];simp [bb]
 ·rename_i t v
  cases h with
  |iface t h=>unfold bb;rw[aM.kr v hp h]
 ·rename_i l
  cases h with
  |agg cs cs' af ah=>
   obtain⟨l'⟩:=cs';unfold bb;rw[aM.yF l l' hp (by simpa using af) (λi ak=>by simpa using ah i (by simpa using ak))]
 ·rename_i l
  cases h with
  |tuple cs cs' af ah=>
   obtain⟨l'⟩:=cs';unfold bb;rw[aM.yF l l' hp (by simpa using af) (λi ak=>by simpa using ah i (by simpa using ak))]
 all_goals (first|(cases hp;done)|skip)
 all_goals first|(unfold bb;refine aM.mc _ ?_ h;first|exact hp|rfl;done)|skip
 rename_i f a b;simp only [fy] at hp;cases h with
 |func fs lI cs cs' aT af ah bn aA=>
  obtain⟨bR⟩:=lI;obtain⟨b'⟩:=cs';unfold bb;rw[aM.yF a bR hp.1 (by simpa using af) (λi ak=>by simpa using bn i (by simpa using ak)),aM.yF b b' hp.2 (by simpa using ah) (λi ak=>by simpa using aA i (by simpa using ak))]
theorem aM.yF {φ:cD}:∀(l l':List ad),fH l=true->l.length=l'.length->(∀i,i<l.length->aM φ (l.getD i Go.undef) (l'.getD i Go.undef))->l'=fl l
 |[],[],_,_,_=>rfl
 |[],_::_,_,h,_=>by simp at h
 |_::_,[],_,h,_=>by simp at h
 |v::r,v'::iA,hp,az,h=>by
   have af:=aM.kr v (by simp [fH] at hp;exact hp.1) (by simpa using h 0 (by simp));have ah:=aM.yF r iA (by simp [fH] at hp;exact hp.2) (by simpa using az) (λi ak=>by simpa using h (i+1) (by simpa using ak));rw[af,ah];rfl
end
inductive jJ where
 |bin (op:BinOp) (t:bq) (x y:ad)
 |un (op:UnOp) (x:ad)
 |conv (s d:bq) (x:ad)
 |p4 (t:bq) (x:ad) (fL ak eZ:Option ad)
 |cV (t:bq) (x i:ad)
 |h6 (t:bq) (x i:ad)
 |bh (t:bq) (a:ad)
 |bQ (t:bq) (a:ad) (f:Nat)
 |dt (x:ad)
 |len (eo:Array bq) (ty:bq) (x:ad)
 |eZ (eo:Array bq) (ty:bq) (x y:ad)
 |oZ (eo:Array bq) (ty:bq) (x y:ad)
 |cz (x:ad)
 |q0 (t:bq) (x i:ad) (ok:Bool)
def FD:Option ad->Option ad->Bool
 |none,none=>true
 |some a,some b=>ln a b
 |_,_=>false
omit [bp] in
theorem M0 {a b:Option ad} (h:FD a b=true):a=b:=by
 unfold FD at h;split at h
 ·rfl
 ·rw[mO _ _ h]
 ·cases h
def Jj:jJ->jJ->Bool
 | .bin op t x y,.bin M1 fk x' gQ=>decide (op=M1)&&(Nat.beq t fk&&(ln x x'&&ln y gQ))
 | .un op x,.un M1 x'=>decide (op=M1)&&ln x x'
 | .conv s d x,.conv hA wu x'=>Nat.beq s hA&&(Nat.beq d wu&&ln x x')
 | .p4 t x fL ak eZ,.p4 fk x' abo qs abp=>Nat.beq t fk&&(ln x x'&&(FD fL abo&&(FD ak qs&&FD eZ abp)))
 | .cV t x i,.cV fk x' xF=>Nat.beq t fk&&(ln x x'&&ln i xF)
 | .h6 t x i,.h6 fk x' xF=>Nat.beq t fk&&(ln x x'&&ln i xF)
 | .bh t a,.bh fk bR=>Nat.beq t fk&&ln a bR
 | .bQ t a f,.bQ fk bR nB=>Nat.beq t fk&&(ln a bR&&Nat.beq f nB)
 | .dt x,.dt x'=>ln x x'
 | .len eo ty x,.len FE ty' x'=>decide (eo=FE)&&(Nat.beq ty ty'&&ln x x')
 | .eZ eo ty x y,.eZ FE ty' x' gQ=>decide (eo=FE)&&(Nat.beq ty ty'&&(ln x x'&&ln y gQ))
 | .oZ eo ty x y,.oZ FE ty' x' gQ=>decide (eo=FE)&&(Nat.beq ty ty'&&(ln x x'&&ln y gQ))
 | .cz x,.cz x'=>ln x x'
 | .q0 t x i ok,.q0 fk x' xF abq=>Nat.beq t fk&&(ln x x'&&(ln i xF&&decide (ok=abq)))
 |_,_=>false
omit [bp] in
theorem abr {a b:jJ} (h:Jj a b=true):a=b:=by
 unfold Jj at h;split at h<;>try simp only [fy,decide_eq_true_eq] at h
 case h_1=>rw[h.1,ep h.2.1,mO _ _ h.2.2.1,mO _ _ h.2.2.2]
 case h_2=>rw[h.1,mO _ _ h.2]
 case h_3=>rw[ep h.1,ep h.2.1,mO _ _ h.2.2]
 case h_4=>rw[ep h.1,mO _ _ h.2.1,M0 h.2.2.1,M0 h.2.2.2.1,M0 h.2.2.2.2]
 case h_5=>rw[ep h.1,mO _ _ h.2.1,mO _ _ h.2.2]
 case h_6=>rw[ep h.1,mO _ _ h.2.1,mO _ _ h.2.2]
 case h_7=>rw[ep h.1,mO _ _ h.2]
 case h_8=>rw[ep h.1,mO _ _ h.2.1,ep h.2.2]
 case h_9=>rw[mO _ _ h]
 case h_10=>rw[h.1,ep h.2.1,mO _ _ h.2.2]
 case h_11=>rw[h.1,ep h.2.1,mO _ _ h.2.2.1,mO _ _ h.2.2.2]
 case h_12=>rw[h.1,ep h.2.1,mO _ _ h.2.2.1,mO _ _ h.2.2.2]
 case h_13=>rw[mO _ _ h]
 case h_14=>rw[ep h.1,mO _ _ h.2.1,mO _ _ h.2.2.1,h.2.2.2]
 case h_15=>cases h
def ug (b5:Operand->ad) (o:Oper):Option jJ:=
 match o.op with
 | .binOp op t x y _=>some (.bin op t (b5 x) (b5 y))
 | .unOp op _ x=>some (.un op (b5 x))
 | .convert s d x=>some (.conv s d (b5 x))
 | .slice t x fL ak eZ=>some (.p4 t (b5 x) (fL.map b5) (ak.map b5) (eZ.map b5))
 | .indexAddr t x i=>some (.cV t (b5 x) (b5 i))
 | .index t x i=>some (.h6 t (b5 x) (b5 i))
 | .load t a=>some (.bh t (b5 a))
 | .fieldAddr t a f=>some (.bQ t (b5 a) f)
 | .nilCheck x=>some (.dt (b5 x))
 | .call c=>match c.callee with
   | .builtin .len=>match c.args with
     |⟨[x]⟩=>some (.len c.argTypes o.type (b5 x))
     |_=>none
   | .builtin .max=>match c.args with
     |⟨[x,y]⟩=>some (.eZ c.argTypes o.type (b5 x) (b5 y))
     |_=>none
   | .builtin .min=>match c.args with
     |⟨[x,y]⟩=>some (.oZ c.argTypes o.type (b5 x) (b5 y))
     |_=>none
   |_=>none
 | .lookup t x i ok=>some (.q0 t (b5 x) (b5 i) ok)
 |_=>none
def hi (e0 e1:Operand):jJ->Sem Next
 | .bin op t x y=>do pure (.value (<-(do eqGuard op t e0 e1 x y;binOp op t x y)))
 | .un op x=>do pure (.value (<-Op.unary op x))
 | .conv s d x=>do pure (.value (<-convert s d x))
 | .p4 t x fL ak eZ=>do pure (.value (<-Instr.sliceAt t x fL ak eZ))
 | .cV t x i=>do pure (.value (<-Instr.indexAt t x i))
 | .h6 t x i=>do pure (.value (<-Instr.index t x i))
 | .bh t a=>do pure (.value (<-Instr.loadAt t a))
 | .bQ t a f=>do pure (.value (<-Instr.fieldAt t a f))
 | .dt x=>execOp (λ_=>x) ⟨none,.nilCheck (.const undef),0,"",#[],none⟩
 | .len eo ty x=>do pure (.value (<-Builtin.len_ eo ty #[x]))
 | .eZ eo ty x y=>do pure (.value (<-Builtin.max_ eo ty #[x,y]))
 | .oZ eo ty x y=>do pure (.value (<-Builtin.min_ eo ty #[x,y]))
 | .cz x=>pure (.value x)
 | .q0 t x i ok=>do pure (.value (<-Instr.lookup t x i ok))
def Bu:jJ->jJ
 | .bin op t x y=> .bin op t (bb x) (bb y)
 | .un op x=> .un op (bb x)
 | .conv s d x=> .conv s d (bb x)
 | .p4 t x fL ak eZ=> .p4 t (bb x) (fL.map bb) (ak.map bb) (eZ.map bb)
 | .cV t x i=> .cV t (bb x) (bb i)
 | .h6 t x i=> .h6 t (bb x) (bb i)
 | .bh t a=> .bh t (bb a)
 | .bQ t a f=> .bQ t (bb a) f
 | .dt x=> .dt (bb x)
 | .len eo ty x=> .len eo ty (bb x)
 | .eZ eo ty x y=> .eZ eo ty (bb x) (bb y)
 | .oZ eo ty x y=> .oZ eo ty (bb x) (bb y)
 | .cz x=> .cz (bb x)
 | .q0 t x i ok=> .q0 t (bb x) (bb i) ok
def plainO:Option ad->Bool
 |none=>true
 |some v=>bL v
def qA:jJ->Bool
 | .bin _ _ x y| .cV _ x y| .h6 _ x y| .eZ _ _ x y| .oZ _ _ x y| .q0 _ x y _=>bL x&&bL y
 | .un _ x| .cz x| .conv _ _ x| .bh _ x| .bQ _ x _| .dt x| .len _ _ x=>bL x
 | .p4 _ x fL ak eZ=>bL x&&(plainO fL&&(plainO ak&&plainO eZ))
def Dr:jJ->Bool
 | .bin .. | .un .. | .cz .. | .cV .. | .bQ .. =>true
 |_=>false
def n9 (w:aG):Prop:=∀i o,bp.dz i=some o->w.heap[i]? =some o
def aW (P:bB) (p:jJ×ad):Prop:=
 qA p.1=true/\bL p.2=true/\
 if Dr p.1 then ∀e0 e1 w,(hi e0 e1 (Bu p.1)).run P w= .ok (.value (bb p.2)) w
 else ∀e0 e1 w,n9 w->(hi e0 e1 (Bu p.1)).run P w= .ok (.value (bb p.2)) w
class ft (P:bB) where
 ops:List (jJ×ad)
def vl (P:bB) [ft P]:Prop:=∀p∈ft.ops P,aW P p
def find (f:jJ):List (jJ×ad)->Option ad
 |[]=>none
 |p::r=>bif Jj f p.1 then some p.2 else find f r
omit [bp] in
theorem Jk {f:jJ} {v:ad}:∀{l:List (jJ×ad)},find f l=some v->(f,v)∈l
 |[],h=>by cases h
 |p::r,h=>by
  unfold find at h;cases he:Jj f p.1 with
  |true=>
   rw[he,cN,dL] at h;have:=abr he;subst this;subst h;exact List.mem_cons_self
  |false=>
   rw[he,fI] at h;exact List.mem_cons_of_mem _ (Jk h)
def xP (P:bB) [ft P] (b5:Operand->ad) (o:Oper):Option ad:=
 match ft.ops P with
 |[]=>none
 |l=>match ug b5 o with
  |some f=>find f l
  |none=>none
def Bv (P:bB) [ft P] (v:ad):Option Bool:=
 match ft.ops P with
 |[]=>none
 |l=>match find (.cz v) l with
  |some (.bool b)=>some b
  |_=>none
def abt:jJ->Bool
 | .cz (.bool true)=>true
 |_=>false
def abu (P:bB) [ft P]:Bool:=
 match ft.ops P with
 |[]=>false
 |p::_=>abt p.1
def Jl (P:bB) [ft P] (b5:Operand->ad) (o:Oper):Option ad:=
 match ft.ops P with
 |[]=>none
 |_=>match o.op with
  | .pick c x y=>match Bv P (b5 c) with
    |some t=>some (bif t then b5 x else b5 y)
    |none=>none
  |_=>none
def M3 (t:bq):jJ->Bool
 | .cz (.int .i64 (.ofNat m))=>Nat.beq m t
 |_=>false
def M4 (P:bB) [ft P] (o:Oper):Bool:=match ft.ops P with
 |[]=>false
 |l=>match o.op with
  | .makeMap .. =>abu P
  | .alloc t=>l.any λp=>M3 t p.1
  | .box t _=>l.any λp=>M3 t p.1
  | .buildSlice t n _=>bif Nat.beq n 0 then false else l.any λp=>M3 t p.1
  |_=>false
def Ds (P:bB) [Lib P] [ft P] (b5:Operand->ad) (A:bx) (o:Oper):Option (uf×bx):=
 match xP P b5 o with
 |some v=>some (.value v,A)
 |none=>match Jl P b5 o with
  |some v=>some (.value v,A)
  |none=>bif M4 P o then none else FC P b5 A o
section
variable {P:bB} {φ:cD} {A bK:bx} {w:aG}
theorem TO {ρ ρ':Operand->ad} {o:Oper} {f:jJ} (eh:∀x,aM φ (ρ x) (ρ' x)) (h:ug ρ o=some f) (hp:qA f=true):ug ρ' o=some (Bu f):=by
 have e:∀x,bL (ρ x)=true->ρ' x=bb (ρ x):=λx aw=>aM.kr _ aw (eh x)
 have M5:∀x:Option Operand,plainO (x.map ρ)=true->x.map ρ'=(x.map ρ).map bb:=λx aw=>by
  cases x with
  |none=>rfl
  |some x=>simp only [Option.map_some];rw[e x aw]
 unfold ug at h ⊢;split at h<;>try (cases h;done)
 all_goals try (simp only [dL] at h;subst h;simp only [qA,fy] at hp)
 ·rw[e _ hp.1,e _ hp.2];rfl
 ·rw[e _ hp];rfl
 ·rw[e _ hp];rfl
 ·rw[e _ hp.1,M5 _ hp.2.1,M5 _ hp.2.2.1,M5 _ hp.2.2.2];rfl
 ·rw[e _ hp.1,e _ hp.2];rfl
 ·rw[e _ hp.1,e _ hp.2];rfl
 ·rw[e _ hp];rfl
 ·rw[e _ hp];rfl
 ·rw[e _ hp];rfl
 ·split at h<;>try (cases h;done)
  all_goals (split at h<;>try (cases h;done))
  all_goals (simp only [dL] at h;subst h;simp only [qA,fy] at hp)
  ·rw[e _ hp];rfl
  ·rw[e _ hp.1,e _ hp.2];rfl
  ·rw[e _ hp.1,e _ hp.2];rfl
 ·rw[e _ hp.1,e _ hp.2];rfl
omit [bp] in
theorem TP {ρ:Operand->ad} {o:Oper} {f:jJ} (h:ug ρ o=some f):∃e0 e1,(∀P w,(execOp ρ o).run P w=(hi e0 e1 f).run P w)/\(Dr f=true->execOp ρ o=hi e0 e1 f):=by
 obtain⟨dst,op,type,pos,after,guard⟩:=o;unfold ug at h;simp only at h;split at h<;>try (cases h;done)
 case h_1 op t x y TM=>cases h;exact⟨x,y,λ_ _=>rfl,λ_=>rfl⟩
 case h_10 c=>
  split at h<;>try (cases h;done)
  all_goals (split at h<;>try (cases h;done))
  all_goals (cases h;refine⟨.const undef,.const undef,λP w=> ?_,λh=>by cases h⟩;unfold execOp resolve)
  ·rename_i _ af _ _ ah;simp only [af,ah,List.map_toArray,List.map_cons,List.map_nil];rfl
  ·rename_i _ af _ _ _ ah;simp only [af,ah,List.map_toArray,List.map_cons,List.map_nil];rfl
  ·rename_i _ af _ _ _ ah;simp only [af,ah,List.map_toArray,List.map_cons,List.map_nil];rfl
 all_goals (cases h;exact⟨.const undef,.const undef,λ_ _=>rfl,λ_=>rfl⟩)
theorem abv [ft P] (gg:vl P) (ar:cB φ A w) {ρ ρ':Operand->ad} {o:Oper} {v:ad} (eh:∀x,aM φ (ρ x) (ρ' x)) (h:xP P ρ o=some v):cH (xN (.value v)) P φ A w (execOp ρ' o) A:=by
 unfold xP at h;split at h
 ·cases h
 split at h
 ·rename_i f bn
  have iB:=gg _ (Jk h);obtain⟨af,ah,aH⟩:=iB;simp only at af ah aH;obtain⟨e0,e1,he,_⟩:=TP (TO eh bn af);have ho:(hi e0 e1 (Bu f)).run P w= .ok (.value (bb v)) w:=by
   split at aH
   ·exact aH e0 e1 w
   ·exact aH e0 e1 w λi o ak=>(ar.dz i o ak).1
  exact⟨φ,w,_,(he P w).trans ho,⟨_,rfl,aM.wD φ v ah⟩,db.refl ar⟩
 ·cases h
theorem Jm [ft P] (gg:vl P) (w:aG) {v v':ad} {b:Bool} (h:Bv P v=some b) (aR:aM φ v v'):v'= .bool b:=by
 unfold Bv at h;split at h
 ·cases h
 split at h
 ·rename_i b' ai
  cases h;obtain⟨af,ah,aH⟩:=gg _ (Jk ai);have hp:bL v=true:=af;have ck:=aH (.const undef) (.const undef) w;rw[aM.kr v hp aR];have dd:(Result.ok (Next.value (bb v)) w:Result Next)= .ok (.value (bb (.bool b))) w:=ck;simp only [Result.ok.injEq,Next.value.injEq,and_true] at dd;exact dd
 ·cases h
theorem abw [ft P] (gg:vl P) (ar:cB φ A w) {ρ ρ':Operand->ad} {o:Oper} {v:ad} (eh:∀x,aM φ (ρ x) (ρ' x)) (h:Jl P ρ o=some v):cH (xN (.value v)) P φ A w (execOp ρ' o) A:=by
 unfold Jl at h;split at h
 ·cases h
 split at h
 ·rename_i c x y eb
  split at h
  ·rename_i t bw
   cases h;have aA:=Jm gg w bw (eh c);refine⟨φ,w,.value (bif t then ρ' x else ρ' y),?_,?_,db.refl ar⟩
   ·unfold execOp
    rw[eb];simp only [aA];cases t<;>rfl
   ·cases t
    ·exact⟨_,rfl,eh y⟩
    ·exact⟨_,rfl,eh x⟩
  ·cases h
 ·cases h
theorem Dt [Lib P] [ft P] (gg:vl P) (ar:cB φ A w) {ρ ρ':Operand->ad} {o:Oper} {n:uf} (eh:∀x,aM φ (ρ x) (ρ' x)) (h:Ds P ρ A o=some (n,bK)):cH (xN n) P φ A w (execOp ρ' o) bK:=by
 unfold Ds at h;split at h
 ·rename_i v aR
  cases h;exact abv gg ar eh aR
 split at h
 ·rename_i v aR
  cases h;exact abw gg ar eh aR
 ·cases ai:M4 P o with
  |true=>rw[ai] at h;cases h
  |false=>rw[ai,fI] at h;exact TL ar eh h
theorem Jn [ft P] (gg:vl P) {ρ ρ':Operand->ad} {o:Oper} {v:ad} (eh:∀x,aM φ (ρ x) (ρ' x)) (h:xP P ρ o=some v) (ao:∀f,ug ρ o=some f->Dr f=true):∃v',(∀w,(execOp ρ' o).run P w= .ok (.value v') w)/\aM φ v v':=by
 unfold xP at h;split at h
 ·cases h
 split at h
 ·rename_i f bn
  obtain⟨af,ah,aH⟩:=gg _ (Jk h);simp only at af ah aH;obtain⟨e0,e1,_,he⟩:=TP (TO eh bn af);rw[aP (ao f bn)] at aH;have eG:Dr (Bu f)=true:=by
   have:=ao f bn;cases f<;>first|rfl|cases this
  exact⟨_,λw=>by rw[he eG];exact aH e0 e1 w,aM.wD φ v ah⟩
 ·cases h
end
end a1
namespace a1
variable [bp]
abbrev ax:=cK ad
abbrev abx:=FuncId->List ad->bx->Option (ad×bx)
def slot (sl:ax) (t:Nat):ad:=
 match sl.get t with
 |some v=>v
 |none=>c3
def eQ (gl:cK Nat) (sl:ax):Operand->ad
 | .tmp t=>slot sl t
 | .const v=>bif plain v then v else c3
 | .global g=>match gl.get g with
   |some b=> .pointer (some ⟨b,0,none⟩)
   |none=>al (v8+g)
 | .func f=> .func (.func f) ⟨[]⟩ ⟨[]⟩
def n' (gl:cK Nat) (φ:cD):Prop:=∀g b,gl.get g=some b->∃e,φ b=some e/\e.bJ=g/\e.sh=0
structure gR (N:Nat) (ds:List Deferred) (φ:cD) (sl:ax) (a:Act):Prop where
 size:a.tmps.size=N
 defers:a.defers=ds
 get:∀t v,sl.get t=some v->aM φ v (a.tmps.getD t undef)
theorem gR.mono {N:Nat} {ds:List Deferred} {φ dI:cD} {sl:ax} {a:Act} (h:gR N ds φ sl a) (he:∀b e,φ b=some e->dI b=some e):gR N ds dI sl a:=
 ⟨h.size,h.defers,λt v aR=>(h.get t v aR).mono he⟩
omit [bp] in
theorem n'.mono {gl:cK Nat} {φ dI:cD} (h:n' gl φ) (he:∀b e,φ b=some e->dI b=some e):n' gl dI:=λg b bg=>by
 obtain⟨e,af,ah⟩:=h g b bg;exact⟨e,he _ _ af,ah⟩
theorem Jo {φ:cD} {sl:ax} {v':ad} {t:Nat} (h:∀v,sl.get t=some v->aM φ v v'):aM φ (slot sl t) v':=by
 unfold slot;cases bg:sl.get t with
 |none=>exact .c3 _
 |some v=>exact h v bg
theorem h_ {gl:cK Nat} {φ:cD} {sl:ax} {a:Act} (bg:n' gl φ) (ay:∀t v,sl.get t=some v->aM φ v (a.tmps.getD t undef)) (x:Operand):aM φ (eQ gl sl x) (a.eval x):=by
 cases x with
 |tmp t=>exact Jo (ay t)
 |const v=>
  simp only [eQ];cases hp:plain v with
  |true=>exact aM.lv φ v hp
  |false=>exact .c3 _
 |global g=>
  simp only [eQ];cases ai:gl.get g with
  |none=>
   have h:=aM.sym (φ:=φ) (v8+g);rw[bp.ZW g] at h;exact h
  |some b=>
   obtain⟨e,af,ah,aH⟩:=bg g b ai;have:=aM.ptr (o:=0) af;rw[ah,aH] at this;exact this
 |func f=>exact .func _ _ _ _ (λl h=>by cases h) J J (λi h=>absurd h (by simp)) (λi h=>absurd h (by simp))
def e8 (N:Nat) (sl:ax) (dst:Option Tmp) (v:ad):Option ax:=
 match dst with
 |none=>some sl
 |some d=>bif Nat.blt d N then cK.set v depth sl d else none
theorem gR.put {N:Nat} {ds:List Deferred} {φ:cD} {sl eX:ax} {a:Act} {dst:Option Tmp} {v v':ad} (h:gR N ds φ sl a) (aR:aM φ v v') (hp:e8 N sl dst v=some eX):gR N ds φ eX (a.put dst v'):=by
 unfold e8 at hp;cases dst with
 |none=>cases hp;exact h
 |some d=>
  simp only at hp;cases ai:Nat.blt d N with
  |false=>rw[ai] at hp;cases hp
  |true=>
   rw[ai,cN] at hp;have c_:d<N:=Nat.blt_eq.mp ai;refine⟨by simp [Act.put,h.size],h.defers,λt u hu=> ?_⟩;rw[cK.pq _ _ _ _ _ t hp] at hu;have dV:=h.size;by_cases bw:t=d
   ·subst bw
    rw[aP rfl] at hu;cases hu;simp only [Act.put,gd];rw[Array.getElem?_setIfInBounds_self_of_lt (Nat.lt_of_lt_of_eq c_ dV.symm)];exact aR
   ·rw[aV bw] at hu
    have:=h.get t u hu;simp only [Act.put,gd] at this ⊢;rw[Array.getElem?_setIfInBounds_ne (Ne.symm bw)];exact this
def uh (ops:Array Oper) (o:Oper) (sl:ax):Option Bool:=
 match o.guard with
 |none=>some true
 |some (j,want)=>match (ops[j]?).bind (·.dst) with
  |none=>some false
  |some t=>match sl.get t with
   |some (.bool b)=>some (b==want)
   |some (.tuple ⟨[]⟩)=>some false
   |_=>none
theorem sg {φ:cD} {ops:Array Oper} {o:Oper} {sl:ax} {a:Act} {r:Bool} (ay:∀t v,sl.get t=some v->aM φ v (a.tmps.getD t undef)) (h:uh ops o sl=some r):Region.wanted o (yielded ops a.tmps)=r:=by
 unfold uh at h;unfold Region.wanted;split at h
 ·rename_i bg
  cases h;rw[bg]
 ·rename_i j want bg
  rw[bg];simp only;unfold yielded;split at h
  ·rename_i bu
   cases h;rw[bu];simp
  ·rename_i t bu
   rw[bu];simp only [Option.bind_some];split at h
   ·rename_i b ai
    have aR:=ay t _ ai;cases h;rw[gd] at aR;cases bw:a.tmps[t]? with
    |none=>rw[bw] at aR;simp [undef] at aR;cases aR
    |some u=>
     rw[bw] at aR;simp only [Option.getD_some] at aR;cases aR;cases b<;>cases want<;>rfl
   ·rename_i ai
    have aR:=ay t _ ai;cases h;rw[gd] at aR;cases bw:a.tmps[t]? with
    |none=>simp
    |some u=>
     rw[bw] at aR;simp only [Option.getD_some] at aR;cases aR;simp
   ·cases h
def M6 (P:bB) [ft P] (ops:Array Oper) (o:Oper) (sl:ax):Option Bool:=
 match uh ops o sl with
 |some b=>some b
 |none=>match o.guard with
  |none=>none
  |some (j,want)=>match (ops[j]?).bind (·.dst) with
   |none=>none
   |some t=>match sl.get t with
    |some v=>(Bv P v).map (· ==want)
    |none=>none
theorem TQ {P:bB} [ft P] (gg:vl P) (w:aG) {φ:cD} {ops:Array Oper} {o:Oper} {sl:ax} {a:Act} {r:Bool} (ay:∀t v,sl.get t=some v->aM φ v (a.tmps.getD t undef)) (h:M6 P ops o sl=some r):Region.wanted o (yielded ops a.tmps)=r:=by
 unfold M6 at h;split at h
 ·rename_i b ai
  cases h;exact sg ay ai
 ·split at h
  ·cases h
  ·rename_i j want bg
   split at h
   ·cases h
   ·rename_i t bu
    split at h
    ·rename_i v aR
     rw[yu] at h;obtain⟨b,ai,rfl⟩:=h;have fB:=Jm gg w ai (ay t v aR);unfold Region.wanted;rw[bg];simp only;unfold yielded;rw[bu];simp only [Option.bind_some];rw[gd] at fB;cases bw:a.tmps[t]? with
     |none=>rw[bw] at fB;simp [undef] at fB
     |some u=>
      rw[bw] at fB;simp only [Option.getD_some] at fB;subst fB;cases b<;>cases want<;>rfl
    ·cases h
structure jd where
 call:abx
 round:Nat->List ad->bx->Option (ad×bx)
def zX (φ:cD) (A:bx) (w:aG) (v:ad) (bK:bx):Ending->aG->Prop
 | .returned v',w'=>∃dI,aM dI v v'/\db φ A w dI bK w'
 |_,_=>False
def Fr (r:Option Nat):Fence:={Fence.wide with round:=r}
omit [bp] in
theorem Du {r:Option Nat} {n:Nat} {P:bB} {f:FuncId} {args:Array ad} {w:aG} {R:Ending->aG->Prop} (h:Calls P f args w R):CallsIn (Fr r) n P f args w R:=by
 have gE:CallsIn Fence.wide n P f args w R:=callsIn_wide.2 h;exact gE
structure mw (P:bB) [ft P] (gl:cK Nat) (C:jd):Prop where
 facts:vl P
 call:∀(f:FuncId) (args:List ad) (A:bx) (v:ad) (bK:bx) (φ:cD) (w:aG) (hK:Array ad),C.call f args A=some (v,bK)->cB φ A w->n' gl φ->iY args φ hK->
  Calls P f hK w (zX φ A w v bK)
 round:∀(b:Nat) (args:List ad) (A:bx) (v:ad) (bK:bx) (φ:cD) (w:aG) (hK:Array ad) (e:iJ) (k:iX) (gS:A') (r:Loop),C.round b args A=some (v,bK)->cB φ A w->n' gl φ->iY args φ hK->
  φ b=some e->A.bl.get b=some k->k.obj= .hV (.loop gS)->w.heap[e.bJ]? =some (.loop r)->te φ (.loop gS) (.loop r)->hK.size=r.params.size/\
  RoundIn Fence.wide 0 P e.bJ r.fn ((r.params.zip hK).foldl (λtmps (t,a)=>tmps.setIfInBounds t a) r.tmps) r.assign r.body w (zX φ A w v bK)
def yieldOf (b5:Operand->ad) (o:Oper):Option (Nat×List ad):=
 match o.op with
 | .call c=>match c.callee with
   | .value f=>match b5 f with
     | .func (.yield b) ⟨[]⟩ ⟨[]⟩=>some (b,c.args.toList.map b5)
     |_=>none
   |_=>none
 |_=>none
def FF (A:bx) (b:Nat):Bool:=
 match A.bl.get b with
 |some k=>match k.obj with
  | .hV (.loop _)=>true
  |_=>false
 |none=>false
def vm (P:bB) [Lib P] [ft P] (C:jd) (gl:cK Nat) (ops:Array Oper) (o:Oper) (sl:ax) (A:bx):Option (ad×bx):=
 match M6 P ops o sl with
 |none=>none
 |some false=>some (undef,A)
 |some true=>match yieldOf (eQ gl sl) o with
  |some (b,args)=>bif FF A b then C.round b args A else none
  |none=>match Ds P (eQ gl sl) A o with
   |some (.value v,cg)=>some (v,cg)
   |some (.skip,cg)=>some (undef,cg)
   |some (.enter f args,cg)=>C.call f args cg
   |none=>none
def Bw (P:bB) [Lib P] [ft P] (C:jd) (gl:cK Nat) (N:Nat) (ops:Array Oper) (o:Oper) (sl:ax) (A:bx):Option (ax×bx):=
 match vm P C gl ops o sl A with
 |some (v,cg)=>match e8 N sl o.dst v with
  |some gX=>some (gX,cg)
  |none=>none
 |none=>none
omit [bp] in
theorem M7 {P:bB} [Lib P] [ft P] {C:jd} {gl:cK Nat} {N:Nat} {ops:Array Oper} {o:Oper} {sl eX:ax} {A bK:bx} (h:Bw P C gl N ops o sl A=some (eX,bK)):
  ∃v,vm P C gl ops o sl A=some (v,bK)/\e8 N sl o.dst v=some eX:=by
 unfold Bw at h;split at h
 ·rename_i v cg aR
  split at h
  ·rename_i gX hp
   cases h;exact⟨v,aR,hp⟩
  ·cases h
 ·cases h
section
variable {P:bB} [Lib P] [ft P] {C:jd} {gl:cK Nat} {φ:cD} {A bK:bx} {w:aG} {a:Act}
omit [bp] in
theorem Jp {ρ:Operand->ad} {o:Oper} {r:uf×bx} (h:Ds P ρ A o=some r) (c:Call):o.op≠.defer c:=by
 intro aA;unfold Ds at h;split at h
 ·rename_i v aR
  unfold xP at aR;split at aR
  ·cases aR
  ·unfold ug at aR
   rw[aA] at aR;cases aR
 split at h
 ·rename_i v aR
  unfold Jl at aR;split at aR
  ·cases aR
  ·rw[aA] at aR
   cases aR
 ·cases ai:M4 P o with
  |true=>rw[ai] at h;cases h
  |false=>
   rw[ai,fI] at h;unfold FC at h;rw[aA] at h;cases h
omit [bp] in
omit [Lib P] [ft P] in
theorem aby {ρ:Operand->ad} {o:Oper} {r:Nat×List ad} (h:yieldOf ρ o=some r) (c:Call):o.op≠.defer c:=by
 intro aA;unfold yieldOf at h;rw[aA] at h;cases h
omit [Lib P] [ft P] in
theorem TR (ar:cB φ A w) {ρ ρ':Operand->ad} {o:Oper} {b:Nat} {args:List ad} (eh:∀x,aM φ (ρ x) (ρ' x)) (h:yieldOf ρ o=some (b,args)) (az:FF A b=true):
  ∃e k gS r hK,φ b=some e/\A.bl.get b=some k/\k.obj= .hV (.loop gS)/\w.heap[e.bJ]? =some (.loop r)/\te φ (.loop gS) (.loop r)/\iY args φ hK/\
   (hK.size=r.params.size->(execOp ρ' o).run P w= .ok (.round e.bJ r.fn ((r.params.zip hK).foldl (λtmps (t,a)=>tmps.setIfInBounds t a) r.tmps) r.assign r.body) w):=by
 unfold yieldOf at h;split at h
 ·rename_i c eb
  split at h
  ·rename_i f q2
   split at h
   ·rename_i b' bn
    simp only [dL,Prod.mk.injEq] at h;obtain⟨rfl,rfl⟩:=h;have aR:=eh f;rw[bn] at aR;have abz:∃e,φ b'=some e/\ρ' f= .func (.yield e.bJ) #[] #[]:=by
     generalize ρ' f=u at aR;cases aR with
     |u5 h=>exact⟨_,h,rfl⟩
     |func _ _ _ _ aT=>exact absurd rfl (aT _)
    obtain⟨e,he,wA⟩:=abz;unfold FF at az;split at az
    ·rename_i k ao
     split at az
     ·rename_i gS gF
      obtain⟨k',eG,_,bW⟩:=ar.fi b' e he;rw[ao] at eG;cases eG;unfold gL at bW;simp only [gF] at bW;obtain⟨_,o',af,ah⟩:=bW;obtain⟨r,rfl,xH⟩:=id ah;refine⟨e,k,gS,r,c.args.map ρ',he,ao,gF,af,ah,iY.map λx _=>eh x,λdV=> ?_⟩;unfold execOp;rw[eb];simp only;refine ei (a:={target:= .fn (.yield e.bJ) #[],args:= #[]++c.args.map ρ'}) (by unfold resolve;rw[q2];simp only [wA];rfl) ?_;simp only [Array.empty_append];show (Instr.yield e.bJ (c.args.map ρ')).run P w=_;unfold Instr.yield Instr.getLoop;refine ev (a:=r) (w1:=w) (by
       refine ev (a:= .loop r) (w1:=w) (tq af (λ_ _ _ h=>by cases h)) rfl) ?_
      rw[aV (λdU=>dU dV)];rfl
     ·cases az
    ·cases az
   ·cases h
  ·cases h
 ·cases h
theorem FG (dN:mw P gl C) (ar:cB φ A w) (bg:n' gl φ) {ro:Option Nat} {ops:Array Oper} {o:Oper} {sl:ax} {v:ad} (ay:∀t v,sl.get t=some v->aM φ v (a.tmps.getD t undef)) (h:vm P C gl ops o sl A=some (v,bK))
  {rL:Act->aG->Prop} {Q:Exit->Act->aG->Prop} (d_:∀dI v' w',aM dI v v'->db φ A w dI bK w'->rL (a.put o.dst v') w'):
  if Region.wanted o (yielded ops a.tmps) then o.wpIn (Fr ro) 0 P a w rL Q else (∀f,o.about P w a.eval=some f->(Fr ro).fn f)/\rL (a.put o.dst undef) w:=by
 unfold vm at h;split at h
 ·cases h
 ·rename_i hw
  rw[TQ dN.facts w ay hw];cases h;exact⟨λ_ _=>trivial,d_ φ undef w (aM.Bb φ) (db.refl ar)⟩
 ·rename_i hw
  rw[TQ dN.facts w ay hw,aP rfl];refine⟨λ_ _=>trivial,?_⟩;split at h
  ·rename_i b args hy
   cases az:FF A b with
   |false=>rw[az] at h;cases h
   |true=>
    rw[az,cN] at h;obtain⟨e,k,gS,r,hK,he,ao,gF,tg,Bx,hW,ho⟩:=TR (P:=P) ar (h_ bg ay) hy az;obtain⟨dV,M8⟩:=dN.round b args A v bK φ w hK e k gS r h ar bg hW he ao gF tg Bx;rw[Oper.semAt_eq _ _ _ (aby hy),ho dV,Oper.uponIn_round];refine⟨λh=>absurd h (by simp [Fr,Fence.wide]),?_⟩;have abA:RoundIn (Fr ro) (0-1) P e.bJ r.fn ((r.params.zip hK).foldl (λtmps (t,a)=>tmps.setIfInBounds t a) r.tmps) r.assign r.body w (zX φ A w v bK):=M8;refine RoundIn.mono abA λen w2 wE=> ?_
    cases en with
    |returned v'=>
     obtain⟨gf,af,ah⟩:=wE;exact d_ gf v' w2 af ah
    |panicked dP=>exact wE.elim
    |outgrown=>exact wE.elim
  ·split at h
   ·rename_i v1 cg cG
    cases h;obtain⟨hO,w1,n,g1,g2,g3⟩:=Dt dN.facts ar (h_ bg ay) cG;rw[Oper.semAt_eq _ _ _ (Jp cG),g1];obtain⟨v',rfl,aR⟩:=g2;exact d_ hO v' w1 aR g3
   ·rename_i cg cG
    cases h;obtain⟨hO,w1,n,g1,g2,g3⟩:=Dt dN.facts ar (h_ bg ay) cG;rw[Oper.semAt_eq _ _ _ (Jp cG),g1];cases g2;exact d_ hO undef w1 (aM.Bb hO) g3
   ·rename_i f args cg cG
    obtain⟨hO,w1,n,g1,g2,g3⟩:=Dt dN.facts ar (h_ bg ay) cG;rw[Oper.semAt_eq _ _ _ (Jp cG),g1];obtain⟨hK,rfl,hW⟩:=g2;rw[Oper.uponIn_enter];refine⟨λh=>absurd h (by simp [Fr,Fence.wide]),?_⟩;refine CallsIn.mono (Du (dN.call f args cg v bK hO w1 hK h g3.rel (bg.mono (g3.ext ar)) hW)) λe w2 he=> ?_
    cases e with
    |returned v'=>
     obtain⟨gf,af,ah⟩:=he;exact d_ gf v' w2 af (db.trans ar g3 ah)
    |panicked dP=>exact he.elim
    |outgrown=>exact he.elim
   ·cases h
def yG (P:bB) [Lib P] [ft P] (C:jd) (gl:cK Nat) (N:Nat) (ops:Array Oper):List Oper->ax->bx->Option (ax×bx)
 |[],sl,A=>some (sl,A)
 |o::r,sl,A=>match Bw P C gl N ops o sl A with
  |some (gX,cg)=>yG P C gl N ops r gX cg
  |none=>none
theorem M9 (dN:mw P gl C) {ro:Option Nat} {N:Nat} {ds:List Deferred} {ops:Array Oper} {Q:Exit->Act->aG->Prop}:∀(l:List Oper) (sl eX:ax) (A bK:bx) (φ:cD) (w:aG) (a:Act),cB φ A w->n' gl φ->gR N ds φ sl a->yG P C gl N ops l sl A=some (eX,bK)->
  (∀dI bR w',gR N ds dI eX bR->db φ A w dI bK w'->Q .normal bR w')->wpListIn (Fr ro) 0 P ops Q l a w
 |[],sl,eX,A,bK,φ,w,a,ar,bg,ay,h,dZ=>by
  cases h;exact dZ φ a w ay (db.refl ar)
 |o::r,sl,eX,A,bK,φ,w,a,ar,bg,ay,h,dZ=>by
  unfold yG at h;split at h
  ·rename_i gX cg eA
   obtain⟨v,aR,hp⟩:=M7 eA;unfold wpListIn;refine FG dN ar bg ay.get aR λdI v' w' wB p2=> ?_
   exact M9 dN r gX eX cg bK dI w' (a.put o.dst v') p2.rel (bg.mono (p2.ext ar)) ((ay.mono (p2.ext ar)).put wB hp) h λgf eY w2 af ah=>dZ gf eY w2 af (db.trans ar p2 ah)
  ·cases h
end
end a1
section
section
variable {P:bB} {ops:Array Oper}
def gv (ops:Array Oper) (j:Nat):Option Tmp:=(ops[j]?).bind (·.dst)
def needs (ops:Array Oper) (m:Nat) (o:Oper):List Nat:=(List.range m).filter λj=>match gv ops j with
 |some d=>(o.looksAt ops).contains d
 |none=>false
def direct (ops:Array Oper) (i j:Nat):Bool:=match ops[i]? with
 |some o=>o.after.any λe=>Region.binds .any e&&e.on==j
 |none=>false
theorem Act.size_put (a:Act) (d:Option Tmp) (v:ad):(a.put d v).tmps.size=a.tmps.size:=by cases d<;>simp [Act.put]
theorem Act.Dv (a:Act) (d:Option Tmp) (v:ad):(a.put d v).defers=a.defers:=by cases d<;>rfl
theorem Act.ui (a:Act) (d:Option Tmp) (v:ad) (t:Nat) (bw:t<a.tmps.size):(a.put d v).tmps.getD t undef=if d=some t then v else a.tmps.getD t undef:=by
 cases d with
 |none=>simp [Act.put]
 |some d=>
  simp only [Act.put,dL,gd,Array.getElem?_setIfInBounds];by_cases h:d=t
  ·subst h;simp [bw]
  ·simp [h]
structure akN (ops:Array Oper) (m:Nat) (G:aG->aG->Prop) (abB:Nat->ad->aG->Prop) (TS:Nat->Bool) (a0:Act) (w0:aG) (listed:Array Bool) (a:Act) (w:aG):Prop where
 size:listed.size=ops.size
 down:∀i j,listed.getD i false=true->direct ops i j=true->listed.getD j false=true
 si:∀i,m<=i->listed.getD i false=false
 defers:a.defers=a0.defers
 nh:a.tmps.size=a0.tmps.size
 g:G w0 w
 other:∀t,(∀i,i<m->listed.getD i false=true->gv ops i≠some t)->a.tmps.getD t undef=a0.tmps.getD t undef
 post:∀i t,i<m->listed.getD i false=true->gv ops i=some t->abB i (a.tmps.getD t undef) w
 akO:∀i j t u b o s b' o' hA,i<m->j<m->i≠j->listed.getD i false=true->listed.getD j false=true->TS i=true->TS j=true->gv ops i=some t->gv ops j=some u->
  a.tmps.getD t undef= .pointer (some ⟨b,o,s⟩)->a.tmps.getD u undef= .pointer (some ⟨b',o',hA⟩)->b≠b'
theorem n_ {listed:Array Bool} {i:Nat} (h:i∈Region.ready .any ops listed):∀k,direct ops i k=true->listed.getD k false=true:=by
 intro k ao;obtain⟨_,o,bW,lK⟩:=mem_ready.1 h;simp only [direct,bW] at ao;obtain⟨e,he,ai⟩:=Array.any_eq_true'.1 ao;simp only [fy,beq_iff_eq] at ai;exact ai.2▸lK e he ai.1
def p5 (listed:Array Bool):Nat:=listed.toList.count false
theorem TT:∀(l:List Bool) (i:Nat),l[i]? =some false->(l.set i true).count false+1=l.count false
 |[],i,h=>by simp at h
 |b::r,0,h=>by simp at h;subst h;simp
 |b::r,i+1,h=>by
  have:=TT r i (by simpa using h);simp only [List.set_cons_succ,List.count_cons];omega
theorem uj {listed:Array Bool} {i:Nat} (ak:i<listed.size) (h:listed.getD i true=false):p5 (listed.setIfInBounds i true)+1=p5 listed:=by
 unfold p5;rw[Array.toList_setIfInBounds];refine TT _ _ ?_;have:listed[i]? =some listed[i]:=Array.getElem?_eq_getElem ak;simp only [gd,this,Option.getD_some] at h;rw[Array.getElem?_toList,this,h]
theorem pA {listed:Array Bool} {i:Nat} (h:i<listed.size):listed.getD i true=listed.getD i false:=by
 simp [gd,h]
end
end
namespace a1
variable [bp]
def iu (N:Nat) (ops:Array Oper) (lb:Nat->ad):List Nat->ax->Option ax
 |[],sl=>some sl
 |j::r,sl=>match e8 N sl (gv ops j) (lb j) with
  |some s=>iu N ops lb r s
  |none=>none
omit [bp] in
theorem pB {N:Nat} {ops:Array Oper} {lb:Nat->ad}:∀(c2:List Nat) (sl eX:ax),iu N ops lb c2 sl=some eX->∀t v,eX.get t=some v->
  (∃j∈c2,gv ops j=some t/\v=lb j)\/((∀j∈c2,gv ops j≠some t)/\sl.get t=some v)
 |[],sl,eX,h,t,v,aR=>by
  cases h;exact .inr ⟨λj aq=>absurd aq (by simp),aR⟩
 |j::r,sl,eX,h,t,v,aR=>by
  unfold iu at h;split at h
  ·rename_i s ay
   rcases pB r s eX h t v aR with ⟨k,ao,bu,wF⟩|⟨aT,bg⟩
   ·exact .inl ⟨k,List.mem_cons_of_mem _ ao,bu,wF⟩
   ·unfold e8 at ay
    cases bu:gv ops j with
    |none=>
     rw[bu] at ay;cases ay;refine .inr ⟨λk ao=> ?_,bg⟩;rcases List.mem_cons.1 ao with rfl|ao
     ·rw[bu];simp
     ·exact aT k ao
    |some d=>
     rw[bu] at ay;simp only at ay;cases ai:Nat.blt d N with
     |false=>rw[ai] at ay;cases ay
     |true=>
      rw[ai,cN] at ay;rw[cK.pq _ _ _ _ _ t ay] at bg;by_cases M':t=d
      ·subst M'
       rw[aP rfl] at bg;cases bg;exact .inl ⟨j,List.mem_cons_self,bu,rfl⟩
      ·rw[aV M'] at bg
       refine .inr ⟨λk ao=> ?_,bg⟩;rcases List.mem_cons.1 ao with rfl|ao
       ·rw[bu];simp;exact λh=>M' h.symm
       ·exact aT k ao
  ·cases h
def yH (o:Oper):Bool:=
 (match o.guard with|none=>true|some _=>false)&&
 match o.op with
 | .move _| .assign _| .binOp .. | .unOp .. | .fieldAddr .. | .indexAddr .. =>true
 |_=>false
def zY (P:bB) [ft P] (b5:Operand->ad) (o:Oper):Option ad:=
 match o.op with
 | .move x| .assign x=>some (b5 x)
 | .binOp op t x y _=>match xP P b5 o with
   |some v=>some v
   |none=>bif plain (b5 x)&&plain (b5 y) then vj P (do eqGuard op t x y (b5 x) (b5 y);binOp op t (b5 x) (b5 y)) else none
 | .unOp op _ x=>match xP P b5 o with
   |some v=>some v
   |none=>bif plain (b5 x) then vj P (Op.unary op (b5 x)) else none
 | .fieldAddr s x f=>match xP P b5 o with
   |some v=>some v
   |none=>Fe P s f (b5 x)
 | .indexAddr t x i=>match xP P b5 o with
   |some v=>some v
   |none=>bif plain (b5 i) then Ff P t (b5 x) (b5 i) else none
 |_=>none
theorem Jq {P:bB} [ft P] (gg:vl P) {φ:cD} {ρ ρ':Operand->ad} {o:Oper} {v:ad} (eh:∀x,aM φ (ρ x) (ρ' x)) (h:zY P ρ o=some v):∃v',(∀w,(execOp ρ' o).run P w= .ok (.value v') w)/\aM φ v v':=by
 have g_:∀{s:Sem ad},vj P s=some v->∃v',(∀w,(do pure (Next.value (<-s)):Sem Next).run P w= .ok (.value v') w)/\aM φ v v':=by
  intro s ay;unfold vj at ay;split at ay
  ·rename_i u hu
   cases hp:plain u with
   |false=>rw[hp] at ay;cases ay
   |true=>
    rw[hp,cN,dL] at ay;subst ay;exact⟨u,λw=>kM (by rw[uc,hu];rfl) w,aM.lv φ u hp⟩
  ·cases ay
 unfold zY at h;unfold execOp;split at h
 ·rename_i x eb
  cases h;rw[eb];exact⟨_,λ_=>rfl,eh x⟩
 ·rename_i x eb
  cases h;rw[eb];exact⟨_,λ_=>rfl,eh x⟩
 ·rename_i op t x y TM eb
  split at h
  ·rename_i u hu
   cases h;have:=Jn gg eh hu λf bn=>by
    unfold ug at bn;rw[eb] at bn;cases bn;rfl
   unfold execOp at this;exact this
  ·cases hp:plain (ρ x) with
   |false=>rw[hp] at h;cases h
   |true=>
    cases cy:plain (ρ y) with
    |false=>rw[hp,cy] at h;cases h
    |true=>
     rw[hp,cy] at h;rw[eb];simp only;rw[aM.mc _ hp (eh x),aM.mc _ cy (eh y)];exact g_ h
 ·rename_i op t x eb
  split at h
  ·rename_i u hu
   cases h;have:=Jn gg eh hu λf bn=>by
    unfold ug at bn;rw[eb] at bn;cases bn;rfl
   unfold execOp at this;exact this
  ·cases hp:plain (ρ x) with
   |false=>rw[hp] at h;cases h
   |true=>
    rw[hp] at h;rw[eb];simp only;rw[aM.mc _ hp (eh x)];exact g_ h
 ·rename_i s x f eb
  split at h
  ·rename_i u hu
   cases h;have:=Jn gg eh hu λf bn=>by
    unfold ug at bn;rw[eb] at bn;cases bn;rfl
   unfold execOp at this;exact this
  ·obtain⟨v',af,ah⟩:=SZ (eh x) h
   rw[eb];exact⟨v',λw=>by simp only [Sem.run_bind,af w,Result.andThen_ok];rfl,ah⟩
 ·rename_i t x i eb
  split at h
  ·rename_i u hu
   cases h;have:=Jn gg eh hu λf bn=>by
    unfold ug at bn;rw[eb] at bn;cases bn;rfl
   unfold execOp at this;exact this
  ·cases hp:plain (ρ i) with
   |false=>rw[hp] at h;cases h
   |true=>
    rw[hp] at h;obtain⟨v',af,ah⟩:=S0 (eh x) h;rw[eb];simp only;rw[aM.mc _ hp (eh i)];exact⟨v',λw=>by simp only [Sem.run_bind,af w,Result.andThen_ok];rfl,ah⟩
 ·cases h
def M_ (ops:Array Oper):List Oper->Nat->Array Bool->List Nat
 |[],_,_=>[]
 |o::r,i,listed=>bif yH o&&((Region.ready .any ops listed).contains i&&Region.free .any ops listed i) then i::M_ ops r (i+1) (listed.setIfInBounds i true) else M_ ops r (i+1) listed
def wG (ops:Array Oper):List Nat:=M_ ops ops.toList 0 (Array.replicate ops.size false)
def xQ (ops:Array Oper):List Nat->Array Bool->Bool
 |[],_=>true
 |i::r,listed=>((Region.ready .any ops listed).contains i&&Region.free .any ops listed i)&&((match ops[i]? with|some o=>yH o|none=>false)&&xQ ops r (listed.setIfInBounds i true))
def By (o:Oper) (masks:List Nat) (sf:Nat):Nat:=o.after.toList.foldl (λacc e=>bif Region.binds .any e then Nat.lor acc (Nat.lor (Nat.shiftLeft 1 e.on) (masks.getD e.on 0)) else acc) sf
def xR:List Oper->List Nat->List Nat
 |[],ms=>ms
 |o::r,ms=>xR r (ms++[By o ms 0])
def wH (ops:Array Oper):List Nat:=xR ops.toList []
def wI (ms:List Nat) (i j:Nat):Bool:=(ms.getD i 0).testBit j
def Na (ops:Array Oper) (i j:Nat):Prop:=∀listed:Array Bool,(∀i j,listed.getD i false=true->direct ops i j=true->listed.getD j false=true)->(∀k,direct ops i k=true->listed.getD k false=true)->listed.getD j false=true
omit [bp] in
theorem TU {masks:List Nat} {j:Nat}:∀(l:List Edge) (sf:Nat),(l.foldl (λacc e=>bif Region.binds .any e then Nat.lor acc (Nat.lor (Nat.shiftLeft 1 e.on) (masks.getD e.on 0)) else acc) sf).testBit j=true->sf.testBit j=true\/∃e∈l,Region.binds .any e=true/\(e.on=j\/(masks.getD e.on 0).testBit j=true)
 |[],sf,h=> .inl h
 |e::r,sf,h=>by
  simp only [List.foldl_cons] at h;rcases TU r _ h with h|⟨e',p3,gE⟩
  ·cases ai:Region.binds .any e with
   |false=>rw[ai] at h;exact .inl h
   |true=>
    rw[ai,cN] at h;have ah:(sf ||| ((1 <<< e.on) ||| masks.getD e.on 0)).testBit j=true:=h;rw[Nat.testBit_or,Nat.testBit_or,Nat.one_shiftLeft,Nat.testBit_two_pow] at ah;simp only [Bool.or_eq_true,decide_eq_true_eq] at ah;rcases ah with ah|ah
    ·exact .inl ah
    ·exact .inr ⟨e,List.mem_cons_self,ai,ah⟩
  ·exact .inr ⟨e',List.mem_cons_of_mem _ p3,gE⟩
omit [bp] in
theorem TV:∀(l:List Oper) (ms:List Nat),(xR l ms).take ms.length=ms/\∀i o,l[i]? =some o->(xR l ms).getD (ms.length+i) 0=By o ((xR l ms).take (ms.length+i)) 0
 |[],ms=>⟨by simp [xR],λi o h=>by simp at h⟩
 |o::r,ms=>by
  obtain⟨af,ah⟩:=TV r (ms++[By o ms 0]);have hm:xR (o::r) ms=xR r (ms++[By o ms 0]):=rfl;rw[hm];have aH:(xR r (ms++[By o ms 0])).take ms.length=ms:=by
   have:=congrArg (List.take ms.length) af;rw[List.take_take] at this;simpa using this
  refine⟨aH,λi o' ak=> ?_⟩;cases i with
  |zero=>
   simp only [List.getElem?_cons_zero,dL] at ak;subst ak;rw[Nat.add_zero,aH];have:=congrArg (λl=>l[ms.length]?) af;simp only [List.getElem?_take,List.length_append,List.length_cons,List.length_nil] at this;rw[aP aj] at this;rw[eP,this];simp
  |succ i=>
   simp only [List.getElem?_cons_succ] at ak;have:=ah i o' ak;simp only [List.length_append,List.length_cons,List.length_nil] at this;rw[show ms.length+(i+1)=ms.length+(0+1)+i by omega];exact this
omit [bp] in
theorem Nb {ops:Array Oper}:∀(i:Nat),i<ops.size->∀j,wI (wH ops) i j=true->Na ops i j:=by
 intro i
 induction i using Nat.strongRecOn with
 |_ i eJ=>
  intro ak j h listed down TW;have bW:ops.toList[i]? =some ops[i]:=by rw[Array.getElem?_toList];exact Array.getElem?_eq_getElem ak
  have ay:=(TV ops.toList []).2 i _ bW;simp only [List.length_nil,Nat.zero_add] at ay;unfold wI wH at h;rw[ay] at h;unfold By at h;rcases TU _ _ h with h|⟨e,he,ai,h⟩
  ·simp at h
  ·have bu:direct ops i e.on=true:=by
    unfold direct;rw[Array.getElem?_eq_getElem ak];simp only;exact Array.any_eq_true'.2 ⟨e,by simpa using he,by simp [ai]⟩
   rcases h with rfl|h
   ·exact TW _ bu
   ·rcases Nat.lt_or_ge e.on i with c_|lJ
    ·have bg:((xR ops.toList []).take i).getD e.on 0=(wH ops).getD e.on 0:=by
      unfold wH;rw[eP,List.getElem?_take,aP c_,eP]
     rw[bg] at h;exact eJ e.on c_ aj j h listed down λk ao=>down e.on k (TW _ bu) ao
    ·rw[eP,List.getElem?_take,aV aj] at h
     simp at h
def uk (ops:Array Oper) (L:List Nat) (m N:Nat):Bool:=
 decide (m<=ops.size)&&Region.noSelect ops&&
 ((List.range m).all λi=>(List.range m).all λj=>i==j||gv ops i==none||gv ops i !=gv ops j)&&
 ((List.range m).all λi=>match gv ops i with|some d=>decide (d<N)|none=>true)&&
 ((List.range m).all λi=>match ops[i]? with|some o=>(needs ops m o).all (direct ops i ·)|none=>false)&&
 ((List.range ops.size).all λi=>match ops[i]? with|some o=>o.after.all (λe=> !Region.binds .any e||decide (e.on<i))|none=>false)&&
 ((List.range ops.size).all λi=>decide (i<m)||(List.range i).all λj=>(L.contains j&&decide (j<m))||wI (wH ops) i j)
omit [bp] in
theorem Bz {ops:Array Oper} {L:List Nat} {m N:Nat} (h:uk ops L m N=true):m<=ops.size/\Region.noSelect ops=true/\
  (∀i j,i<m->j<m->i≠j->∀t,gv ops i=some t->gv ops j≠some t)/\(∀i t,i<m->gv ops i=some t->t<N)/\
  (∀i o,i<m->ops[i]? =some o->∀j∈needs ops m o,direct ops i j=true)/\(∀i j,i<ops.size->direct ops i j=true->j<i)/\
  (∀i j,i<ops.size->m<=i->j<i->(j∈L/\j<m)\/Na ops i j):=by
 simp only [uk,fy,decide_eq_true_eq,List.all_eq_true,List.mem_range] at h;obtain⟨⟨⟨⟨⟨⟨af,ah⟩,aH⟩,ck⟩,dd⟩,dM⟩,gW⟩:=h;refine⟨af,ah,?_,?_,?_,?_,?_⟩
 ·intro i j ak aq dU t bw abC
  have:=aH i ak j aq;simp [dU,bw,abC] at this
 ·intro i t ak bw
  have:=ck i ak;simpa [bw] using this
 ·intro i o ak bW j aq
  have:=dd i ak;simp only [bW,List.all_eq_true] at this;exact this j aq
 ·intro i j ak bu
  have:=dM i ak;unfold direct at bu;have bW:ops[i]? =some ops[i]:=Array.getElem?_eq_getElem ak;simp only [bW] at this bu;obtain⟨e,he,ai⟩:=Array.any_eq_true'.1 bu;simp only [fy,beq_iff_eq] at ai;have gE:=Array.all_eq_true_iff_forall_mem.1 this e he;simp only [ai.1,Bool.not_true,Bool.false_or,decide_eq_true_eq] at gE;exact ai.2▸gE
 ·intro i j ak hm aq
  have:=gW i ak;simp only [Bool.or_eq_true,decide_eq_true_eq,List.all_eq_true,List.mem_range,fy] at this;have:=this.resolve_left aj j aq;rcases this with h|h
  ·exact .inl (by simpa using h)
  ·exact .inr (Nb i ak j h)
def Nc (sf:Nat):List Oper->Nat->List Nat->Nat->Nat
 |[],_,_,m=>m
 |o::r,i,masks,m=>let p:=By o masks (Nat.land sf (Nat.shiftLeft 1 i-1));Nc sf r (i+1) (masks++[p]) (bif Nat.beq p (Nat.shiftLeft 1 i-1) then m else i+1)
def TX (L:List Nat):Nat:=L.foldl (λa i=>Nat.lor a (Nat.shiftLeft 1 i)) 0
def Nd (ops:Array Oper) (N:Nat) (hX:Bool):Option (List Nat×Nat):=
 let cL:=bif hX then [] else wG ops
 let m:=Nc (TX cL) ops.toList 0 [] 0
 let L:=cL.filter λi=>Nat.blt i m
 bif uk ops L m N&&xQ ops L (Array.replicate ops.size false) then some (L,m) else none
def Dw (P:bB) [Lib P] [ft P] (C:jd) (gl:cK Nat) (N:Nat) (ops:Array Oper) (L:List Nat) (m:Nat) (dH:ax):List Oper->Nat->List ad->bx->Option (List ad×bx)
 |[],_,a8,A=>some (a8,A)
 |o::r,i,a8,A=>match iu N ops (λj=>a8.getD j c3) (needs ops m o) dH with
  |some sl=>bif L.contains i then
    match zY P (eQ gl sl) o with
    |some v=>Dw P C gl N ops L m dH r (i+1) (a8++[v]) A
    |none=>none
   else match vm P C gl ops o sl {A with low:=A.n} with
    |some (v,cg)=>bif Nat.ble A.n cg.low then Dw P C gl N ops L m dH r (i+1) (a8++[v]) {cg with low:=A.low} else none
    |none=>none
  |none=>none
def Jr (P:bB) [Lib P] [ft P] (C:jd) (gl:cK Nat) (N:Nat) (hX:Bool) (ops:Array Oper) (sl:ax) (A:bx):Option (ax×bx×List Oper):=
 match Nd ops N hX with
 |some (L,m)=>match iu N ops (λ_=>c3) (List.range m) sl with
  |some dH=>match Dw P C gl N ops L m dH (ops.toList.take m) 0 [] A with
   |some (a8,cg)=>bif Nat.ble cg.n dead then
     match iu N ops (λj=>a8.getD j c3) (List.range m) dH with
     |some gX=>some (gX,cg,ops.toList.drop m)
     |none=>none
    else none
   |none=>none
  |none=>none
 |none=>none
def Nf (P:bB) [Lib P] [ft P] (C:jd) (gl:cK Nat) (N:Nat) (hX:Bool) (ops:Array Oper) (sl:ax) (A:bx):Option (ax×bx):=
 match Jr P C gl N hX ops sl A with
 |some (gX,cg,r)=>yG P C gl N ops r gX cg
 |none=>none
def Dx (P:bB) [Lib P] [ft P] (C:jd) (gl:cK Nat) (N:Nat) (ops:Array Oper) (L:List Nat) (m:Nat) (dH:ax) (i:Nat) (o:Oper) (Dy:List ad) (v:ad) (A bK:bx):Prop:=
 ∃sl,iu N ops (λj=>Dy.getD j c3) (needs ops m o) dH=some sl/\
  ((i∈L/\zY P (eQ gl sl) o=some v/\bK=A)\/(i∉L/\∃cg,vm P C gl ops o sl {A with low:=A.n}=some (v,cg)/\A.n<=cg.low/\bK={cg with low:=A.low}))
section
variable {P:bB} [Lib P] [ft P] {C:jd} {gl:cK Nat} {N:Nat} {ops:Array Oper} {L:List Nat} {m:Nat} {dH:ax}
omit [bp] in
theorem TY:∀(l:List Oper) (i0:Nat) (a8 dC:List ad) (A bK:bx),a8.length=i0->Dw P C gl N ops L m dH l i0 a8 A=some (dC,bK)->
  ∃(B:Nat->bx),B 0=A/\B l.length=bK/\dC.length=a8.length+l.length/\dC.take a8.length=a8/\
   ∀i o,l[i]? =some o->Dx P C gl N ops L m dH (i0+i) o (dC.take (a8.length+i)) (dC.getD (a8.length+i) c3) (B i) (B (i+1))
 |[],i0,a8,dC,A,bK,_,h=>by
  cases h;exact⟨λ_=>A,rfl,rfl,by simp,by simp,λi o ak=>by simp at ak⟩
 |o::r,i0,a8,dC,A,bK,rM,h=>by
  unfold Dw at h;split at h
  ·rename_i sl hg
   have go:∀(v:ad) (gP:bx),((i0∈L/\zY P (eQ gl sl) o=some v/\gP=A)\/(i0∉L/\∃cg,vm P C gl ops o sl {A with low:=A.n}=some (v,cg)/\A.n<=cg.low/\gP={cg with low:=A.low}))->
     Dw P C gl N ops L m dH r (i0+1) (a8++[v]) gP=some (dC,bK)->
     ∃(B:Nat->bx),B 0=A/\B (o::r).length=bK/\dC.length=a8.length+(o::r).length/\dC.take a8.length=a8/\
      ∀i o',(o::r)[i]? =some o'->Dx P C gl N ops L m dH (i0+i) o' (dC.take (a8.length+i)) (dC.getD (a8.length+i) c3) (B i) (B (i+1)):=by
    intro v gP abD h;obtain⟨B,bd,af,ah,aH,ck⟩:=TY r (i0+1) (a8++[v]) dC _ bK (by simp [rM]) h;have hlen:(a8++[v]).length=a8.length+1:=by simp
    rw[hlen] at ah aH;have vn:dC.take a8.length=a8:=by
     have:=congrArg (List.take a8.length) aH;rw[List.take_take,Nat.min_eq_left aj] at this;simpa using this
    refine⟨λi=>match i with|0=>A|i+1=>B i,rfl,?_,by simp;omega,vn,?_⟩
    ·simpa using af
    ·intro i o' ak
     match i with
     |0=>
      simp only [List.getElem?_cons_zero,dL] at ak;subst ak;simp only [Nat.add_zero];rw[vn];have hz:dC.getD a8.length c3=v:=by
       have:=congrArg (λl=>l[a8.length]?) aH;simp at this;rw[eP,this];rfl
      rw[hz];refine⟨sl,hg,?_⟩;show (_/\_/\B 0=A)\/_;rw[bd];exact abD
     |i+1=>
      have:=ck i o' (by simpa using ak);rw[hlen] at this;rw[show a8.length+(i+1)=a8.length+1+i by omega,show i0+(i+1)=i0+1+i by omega];exact this
   cases aA:L.contains i0 with
   |true=>
    rw[aA,cN] at h;split at h
    ·rename_i v aR
     exact go v A (.inl ⟨by simpa using aA,aR,rfl⟩) h
    ·cases h
   |false=>
    rw[aA,fI] at h;split at h
    ·rename_i v cg aR
     cases ai:Nat.ble A.n cg.low with
     |false=>rw[ai] at h;cases h
     |true=>
      rw[ai,cN] at h;exact go v _ (.inr ⟨by simpa using aA,cg,aR,Nat.ble_eq.mp ai,rfl⟩) h
    ·cases h
  ·cases h
theorem cB.lower {φ:cD} {A:bx} {w:aG} (h:cB φ A w) (x:Nat):cB φ {A with low:=x} w:=⟨⟨h.wf.lt,h.wf.u6,h.wf.mem,h.wf.wa⟩,h.fi,h.apart,h.along,h.dz⟩
theorem abE {φ:cD} {A bK:bx} {w:aG} (dN:mw P gl C) (ar:cB φ A w) (bg:n' gl φ) {o:Oper} {sl:ax} {v:ad} (ay:∀t v,sl.get t=some v->∃v',aM φ v v') (h:vm P C gl ops o sl A=some (v,bK)):
  ∃dI v' w',aM dI v v'/\db φ A w dI bK w':=by
 have FH:∀x:Operand,∃v',aM φ (eQ gl sl x) v':=by
  intro x;cases x with
  |tmp t=>
   show ∃v',aM φ (slot sl t) v';unfold slot;cases Dz:sl.get t with
   |none=>exact⟨undef,.c3 _⟩
   |some v=>exact ay t v Dz
  |const v=>exact⟨_,h_ (sl:= .nil) (a:=⟨#[],[]⟩) bg (λt v h=>by cases h) (.const v)⟩
  |global g=>exact⟨_,h_ (sl:= .nil) (a:=⟨#[],[]⟩) bg (λt v h=>by cases h) (.global g)⟩
  |func f=>exact⟨_,h_ (sl:= .nil) (a:=⟨#[],[]⟩) bg (λt v h=>by cases h) (.func f)⟩
 obtain⟨ρ',eh⟩:=Classical.axiomOfChoice FH;unfold vm at h;split at h
 ·cases h
 ·cases h
  exact⟨φ,undef,w,aM.Bb φ,db.refl ar⟩
 ·split at h
  ·rename_i b args hy
   cases az:FF A b with
   |false=>rw[az] at h;cases h
   |true=>
    rw[az,cN] at h;obtain⟨e,k,gS,r,hK,he,ao,gF,tg,Bx,hW,ho⟩:=TR (P:=P) ar eh hy az;obtain⟨dV,M8⟩:=dN.round b args A v bK φ w hK e k gS r h ar bg hW he ao gF tg Bx;obtain⟨en,w2,wE,_⟩:=M8.2 default [] (room_wide _);cases en with
    |returned v'=>
     obtain⟨gf,af,ah⟩:=wE;exact⟨gf,v',w2,af,ah⟩
    |panicked dP=>exact wE.elim
    |outgrown=>exact wE.elim
  ·split at h
   ·rename_i v1 cg cG
    cases h;obtain⟨hO,w1,n,g1,g2,g3⟩:=Dt dN.facts ar eh cG;obtain⟨v',_,aR⟩:=g2;exact⟨hO,v',w1,aR,g3⟩
   ·rename_i cg cG
    cases h;obtain⟨hO,w1,n,g1,g2,g3⟩:=Dt dN.facts ar eh cG;exact⟨hO,undef,w1,aM.Bb hO,g3⟩
   ·rename_i f args cg cG
    obtain⟨hO,w1,n,g1,g2,g3⟩:=Dt dN.facts ar eh cG;obtain⟨hK,_,hW⟩:=g2;obtain⟨e,w2,fr,he,_⟩:=dN.call f args cg v bK hO w1 hK h g3.rel (bg.mono (g3.ext ar)) hW [];cases e with
    |returned v'=>
     obtain⟨gf,af,ah⟩:=he;exact⟨gf,v',w2,af,db.trans ar g3 ah⟩
    |panicked dP=>exact he.elim
    |outgrown=>exact he.elim
   ·cases h
structure qB (gw:cD) (B:Nat->bx) (a8:List ad) (m:Nat):Prop where
 Js:∀i,i<m->(B i).n<=(B (i+1)).n
 same:∀i b,i<m->b<(B i).n->(B (i+1)).bl.get b=(B i).bl.get b
 abF:∀i,i<m->(B (i+1)).low=(B i).low
 ex:∀i,i<=m->∃φ w,cB φ (B i) w/\(∀b,b<(B 0).n->φ b=gw b)/\(∀b,(B 0).n<=b->b<(B i).n->φ b≠none)/\∀j,j<i->∃v',aM φ (a8.getD j c3) v'
theorem abG {gw:cD} {A:bx} {w0:aG} {B:Nat->bx} {a8:List ad} {nC:ax} (dN:mw P gl C) (ar:cB gw A w0) (bg:n' gl gw) (cM:B 0=A) (zZ:m<=ops.size)
  (ay:∀t v,nC.get t=some v->∃v',aM gw v v') (iP:iu N ops (λ_=>c3) (List.range m) nC=some dH)
  (qW:∀i o,i<m->ops[i]? =some o->∀j∈needs ops m o,j<i)
  (az:∀i o,i<m->ops[i]? =some o->Dx P C gl N ops L m dH i o (a8.take i) (a8.getD i c3) (B i) (B (i+1))):qB gw B a8 m:=by
 have step:∀i,i<m->(∃φ w,cB φ (B i) w/\(∀b,b<(B 0).n->φ b=gw b)/\(∀b,(B 0).n<=b->b<(B i).n->φ b≠none)/\(B 0).n<=(B i).n/\∀j,j<i->∃v',aM φ (a8.getD j c3) v')->
   ((B i).n<=(B (i+1)).n/\(∀b,b<(B i).n->(B (i+1)).bl.get b=(B i).bl.get b)/\(B (i+1)).low=(B i).low)/\
   (∃φ w,cB φ (B (i+1)) w/\(∀b,b<(B 0).n->φ b=gw b)/\(∀b,(B 0).n<=b->b<(B (i+1)).n->φ b≠none)/\(B 0).n<=(B (i+1)).n/\∀j,j<i+1->∃v',aM φ (a8.getD j c3) v'):=by
  rintro i ak ⟨φ,w,af,ah,aH,ck,dd⟩;have bW:ops[i]? =some (ops[i]'(by omega)):=Array.getElem?_eq_getElem _;obtain⟨sl,hg,FI⟩:=az i _ ak bW;have um:∀b e,gw b=some e->φ b=some e:=λb e ai=>by
   rw[ah b (by rw[cM];exact ar.lt ai)];exact ai
  have DA:∀t v,sl.get t=some v->∃v',aM φ v v':=by
   intro t v q3;rcases pB _ _ _ hg t v q3 with ⟨j,aq,bu,rfl⟩|⟨_,xS⟩
   ·have eR:=qW i _ ak bW j aq
    obtain⟨v',pC⟩:=dd j eR;refine⟨v',?_⟩;have:(a8.take i).getD j c3=a8.getD j c3:=by
     simp only [eP,List.getElem?_take,aP eR]
    rw[this];exact pC
   ·rcases pB _ _ _ iP t v xS with ⟨j,aq,bu,rfl⟩|⟨_,sj⟩
    ·exact⟨undef,.c3 _⟩
    ·obtain⟨v',pC⟩:=ay t v sj
     exact⟨v',pC.mono um⟩
  rcases FI with ⟨_,tr,abH⟩|⟨_,cg,aR,n3,sk⟩
  ·rw[abH]
   refine⟨⟨c4 _,λ_ _=>rfl,rfl⟩,φ,w,af,ah,aH,ck,λj aq=> ?_⟩;rcases Nat.lt_or_ge j i with c_|lJ
   ·exact dd j c_
   ·have:j=i:=by omega
    subst this;have FH:∀x:Operand,∃v',aM φ (eQ gl sl x) v':=by
     intro x;cases x with
     |tmp t=>
      show ∃v',aM φ (slot sl t) v';unfold slot;cases Dz:sl.get t with
      |none=>exact⟨undef,.c3 _⟩
      |some v=>exact DA t v Dz
     |const v=>exact⟨_,h_ (sl:= .nil) (a:=⟨#[],[]⟩) (bg.mono um) (λt v h=>by cases h) (.const v)⟩
     |global g=>exact⟨_,h_ (sl:= .nil) (a:=⟨#[],[]⟩) (bg.mono um) (λt v h=>by cases h) (.global g)⟩
     |func f=>exact⟨_,h_ (sl:= .nil) (a:=⟨#[],[]⟩) (bg.mono um) (λt v h=>by cases h) (.func f)⟩
    obtain⟨ρ',eh⟩:=Classical.axiomOfChoice FH;obtain⟨v',_,pC⟩:=Jq dN.facts eh tr;exact⟨v',pC⟩
  obtain⟨dI,v',w',g1,g2⟩:=abE dN (af.lower (B i).n) (bg.mono um) DA aR;have aT:(B i).n<=cg.n:=g2.rF;rw[sk];refine⟨⟨aT,λb ai=>g2.same b ai (by show b<cg.low;omega),rfl⟩,dI,w',g2.rel.lower _,λb ai=> ?_,λb ai fB=> ?_,by simp only;omega,λj aq=> ?_⟩
  ·rw[g2.fi b (by show b<(B i).n;omega),ah b ai]
  ·rcases Nat.lt_or_ge b (B i).n with c_|lJ
   ·rw[g2.fi b c_];exact aH b ai c_
   ·exact g2.tf b lJ fB
  ·rcases Nat.lt_or_ge j i with c_|lJ
   ·obtain⟨u,hu⟩:=dd j c_
    exact⟨u,hu.mono (g2.ext (af.lower _))⟩
   ·have:j=i:=by omega
    subst this;exact⟨v',g1⟩
 have all:∀i,i<=m->(∃φ w,cB φ (B i) w/\(∀b,b<(B 0).n->φ b=gw b)/\(∀b,(B 0).n<=b->b<(B i).n->φ b≠none)/\(B 0).n<=(B i).n/\∀j,j<i->∃v',aM φ (a8.getD j c3) v'):=by
  intro i
  induction i with
  |zero=>exact λ_=>⟨gw,w0,by rw[cM];exact ar,λ_ _=>rfl,λb af ah=>by omega,c4 _,λj aq=>by omega⟩
  |succ i eJ=>exact λak=>(step i aj (eJ aj)).2
 refine⟨λi ak=>(step i ak (all i aj)).1.1,λi b ak ai=>(step i ak (all i aj)).1.2.1 b ai,λi ak=>(step i ak (all i aj)).1.2.2,λi ak=> ?_⟩;obtain⟨φ,w,af,ah,aH,_,dd⟩:=all i ak;exact⟨φ,w,af,ah,aH,dd⟩
theorem qB.uo {gw:cD} {B:Nat->bx} {a8:List ad} (h:qB gw B a8 m):∀{i j:Nat},i<=j->j<=m->(B i).n<=(B j).n:=by
 intro i j pz
 induction pz with
 |refl=>exact λ_=>c4 _
 |step ao eJ=>exact λhm=>Nat.le_trans (eJ aj) (h.Js _ aj)
theorem qB.xT {gw:cD} {B:Nat->bx} {a8:List ad} (h:qB gw B a8 m):∀{i j:Nat},i<=j->j<=m->∀b,b<(B i).n->(B j).bl.get b=(B i).bl.get b:=by
 intro i j pz
 induction pz with
 |refl=>exact λ_ _ _=>rfl
 |step ao eJ=>exact λhm b ai=>by rw[h.same _ b aj (Nat.lt_of_lt_of_le ai (h.uo ao aj)),eJ aj b ai]
theorem qB.abI {gw:cD} {B:Nat->bx} {a8:List ad} (h:qB gw B a8 m):∀{j:Nat},j<=m->(B j).low=(B 0).low:=by
 intro j
 induction j with
 |zero=>exact λ_=>rfl
 |succ j eJ=>exact λhm=>by rw[h.abF j aj,eJ aj]
def own (B:Nat->bx) (j b:Nat):Prop:=(B j).n<=b/\b<(B (j+1)).n
theorem qB.TZ {gw:cD} {B:Nat->bx} {a8:List ad} (h:qB gw B a8 m) {i j b:Nat} (ak:i<m) (aq:j<m) (af:own B i b) (ah:own B j b):i=j:=by
 unfold own at af ah;rcases Nat.lt_trichotomy i j with c_|heq|Dz
 ·have:=h.uo (i:=i+1) (j:=j) aj aj;omega
 ·exact heq
 ·have:=h.uo (i:=j+1) (j:=i) aj aj;omega
theorem qB.T0 {gw:cD} {B:Nat->bx} {a8:List ad} (abJ:qB gw B a8 m) {b:Nat}:∀{k:Nat},k<=m->(B 0).n<=b->b<(B k).n->∃j,j<k/\own B j b
 |0,_,af,ah=>by omega
 |k+1,ao,af,ah=>by
  rcases Nat.lt_or_ge b (B k).n with c_|lJ
  ·obtain⟨j,aq,bW⟩:=qB.T0 abJ (k:=k) aj af c_
   exact⟨j,aj,bW⟩
  ·exact⟨k,aj,lJ,ah⟩
def restrict (φ:cD) (n:Nat):cD:=λb=>if b<n then φ b else none
theorem aM.restrict {φ ψ:cD} {n:Nat} {v v':ad} (bu:∀b e,φ b=some e->b≠dead) (ts:∀b e,ψ b=some e->b<n) (h:aM φ v v'):∀u,aM ψ v u->aM (a1.restrict φ n) v v':=by
 have mx:∀{b e},φ b=some e->b<n->a1.restrict φ n b=some e:=λaf ah=>by unfold a1.restrict;rw[aP ah];exact af
 induction h with
 |c3 v'=>exact λ_ _=> .c3 v'
 |sym k=>exact λ_ _=> .sym k
 |bool b=>exact λ_ _=> .bool b
 |int k i=>exact λ_ _=> .int k i
 |float k b=>exact λ_ _=> .float k b
 |string s=>exact λ_ _=> .string s
 |zQ=>exact λ_ _=> .zQ
 |ptr h=>
   intro u hu;cases hu with
   |ptr ah=>exact .ptr (mx h (ts _ _ ah))
 |slnil l c=>exact λ_ _=> .slnil l c
 |jI bR h=>exact λ_ _=> .jI bR h
 |jk mr c h=>
   intro u hu;cases hu with
   |jk _ _ ah=>exact .jk mr c (mx h (ts _ _ ah))
   |jl _ _ c' ah _ _ _=>exact .jk mr c (mx h (ts _ _ ah))
   |jI bR ah=>exact absurd rfl (bu _ _ h)
 |jl mr c c' h ay aA az=>
   intro u hu;cases hu with
   |jk _ _ ah=>exact .jl mr c c' (mx h (ts _ _ ah)) ay aA az
   |jl _ _ c' ah _ _ _=>exact .jl mr c _ (mx h (ts _ _ ah)) ay aA az
   |jI bR ah=>exact absurd rfl (bu _ _ h)
 |Ba=>exact λ_ _=> .Ba
 |map h=>
   intro u hu;cases hu with
   |map ah=>exact .map (mx h (ts _ _ ah))
 |chan=>exact λ_ _=> .chan
 |func fs lI cs cs' aT af ah bn aA LR LS=>
   intro u hu;cases hu with
   |func _ _ _ _ _ _ _ g1 g2=>exact .func fs lI cs cs' aT af ah (λi ak=>LR i ak _ (g1 i ak)) (λi ak=>LS i ak _ (g2 i ak))
   |u5 ah=>exact absurd rfl (aT _)
 |u5 h=>
   intro u hu;cases hu with
   |u5 ah=>exact .u5 (mx h (ts _ _ ah))
   |func _ _ _ _ aT=>exact absurd rfl (aT _)
 |nilFunc=>exact λ_ _=> .nilFunc
 |nilIface=>exact λ_ _=> .nilIface
 |iface t h eJ=>
   intro u hu;cases hu with
   |iface _ g=>exact .iface t (eJ _ g)
 |agg cs cs' af h eJ=>
   intro u hu;cases hu with
   |agg _ _ _ g=>exact .agg cs cs' af λi ak=>eJ i ak _ (g i ak)
 |tuple cs cs' af h eJ=>
   intro u hu;cases hu with
   |tuple _ _ _ g=>exact .tuple cs cs' af λi ak=>eJ i ak _ (g i ak)
theorem gL.restrict {φ ψ:cD} {n:Nat} {w w':aG} {e e':iJ} {k:iX} (bu:∀b e,φ b=some e->b≠dead) (ts:∀b e,ψ b=some e->b<n) (h:gL φ w e k) (gE:gL ψ w' e' k):gL (a1.restrict φ n) w e k:=by
 unfold gL at*
 cases ao:k.obj with
 |cells c=>
  simp only [ao] at h gE ⊢;obtain⟨c',j5,af,ah,aH,ck,dd⟩:=h;obtain⟨wu,I',g1,g2,g3,g4,mb⟩:=gE;exact⟨c',j5,af,ah,aH,λj aq=>(ck j aq).restrict bu ts _ (g4 j aq),dd⟩
 |map es fA=>
  simp only [ao] at h gE ⊢;obtain⟨eu,af,ah,aH⟩:=h;obtain⟨lI,g1,g2,g3⟩:=gE;refine⟨eu,af,ah,λj a b cG ai=> ?_⟩;obtain⟨q1,aI,bS,fo⟩:=aH j a b cG ai;have aq:j<es.length:=(List.getElem?_eq_some_iff.1 cG).1;obtain⟨_,_,hx,_⟩:=g3 j a (lI[j]'(by omega)) cG (Array.getElem?_eq_getElem _);exact⟨q1,aI,bS.restrict bu ts _ hx,fo⟩
 |hV x=>
  simp only [ao] at h gE ⊢;obtain⟨bd,eU,af,ah⟩:=h;obtain⟨_,fj,g1,g2⟩:=gE;refine⟨bd,eU,af,?_⟩;cases x with
  |yv s p=>exact ah
  |deferred=>exact ah
  |gone=>exact ah
  |loop l=>
   obtain⟨r,ea,q1,aI,bS,fo,iK,mK,⟨iC,p1,h7⟩,BA⟩:=ah;obtain⟨iA,lM,jc,hY,oa,rN,z1,DB,⟨lA,BB,akP⟩,abK⟩:=g2;refine⟨r,ea,q1,aI,bS,fo,iK,mK,⟨iC,?_,h7⟩,λt v aR=>(BA t v aR).restrict bu ts _ (abK t v aR)⟩;unfold a1.restrict;rw[aP (ts _ _ BB)];exact p1
end
end a1
end Go.Proofs.YtepcfjbfkedlpaaDoor
