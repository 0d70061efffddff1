/- Parts of the proof. -/
import Derived.Test.YtmfckpdcljjdjaaDoorFm2
import Derived.Test.YtmfckpdcljjdjaaDoorProg
import Derived.KernelRfl
import Derived.Laws.Pointers
set_option maxRecDepth 100000
set_option maxHeartbeats 4000000
noncomputable section
namespace Go.Proofs.YtmfckpdcljjdjaaDoor
open Go Go.Proofs Go.RowKit
namespace AE
def RU (P:aC) (A:aD) (t:az):I->Option I
 | .pointer (some ⟨b,off,none⟩)=>match aP P (isAgg t) with
   |some false=>A.load b off
   |_=>none
 |_=>none
def Kj (P:aC) (a8:Operand->I) (A:aD) (o:Oper):Option I:=
 match o.guard with
 |some _=>none
 |none=>match o.op with
  | .load t x=>RU P A t (a8 x)
  |_=>bif s' o then @qB P ⟨[]⟩ a8 o else none
section
variable [aX] {P:aC} {φ:bn} {A:aD} {w cQ:aj}
end
section
variable {P:aC} [Lib P] [c0 P] {C:gm} {N E m:Nat} {ops:Array Oper} {ms:List Nat} {dv:bh} {A:aD}
end
structure ER [aX] [cX] (N:Nat) (AD:List Nat) (ds:List Deferred) (ops:Array Oper) (m:Nat) (vs:List I) (dv:bh) (A:aD) (B:Nat) (w0:aj) (φ:bn) (listed:Array Bool) (a:Act) (w:aj):Prop where
 RV:lT φ AD ds
 size:listed.size=ops.size
 down:∀i j,listed.getD i false=true->direct ops i j=true->listed.getD j false=true
 qz:∀i,m<=i->listed.getD i false=false
 rel:bs φ A w
 own:∀b e,φ b=some e->B<=e.aU
 outs:oE φ A
 below:dJ B w0 w
 RW:B<=w.heap.size
 defers:a.defers=ds
 lg:a.tmps.size=N
 slot:∀t v,dv.get t=some v->ar φ v (a.tmps.getD t undef)
 val:∀j t,j<m->listed.getD j false=true->e5 ops j=some t->ar φ (vs.getD j cC) (a.tmps.getD t undef)
section
variable [aX] [cX] {N:Nat} {AD:List Nat} {ds:List Deferred} {ops:Array Oper} {m B:Nat} {vs:List I} {dv:bh} {A:aD} {w0 w:aj} {φ:bn} {listed:Array Bool} {a:Act}
omit [aX] [cX] in
theorem Kk {listed:Array Bool} {i:Nat} (J:i<listed.size) (j:Nat):(listed.setIfInBounds i true).getD j false=true↔j=i\/listed.getD j false=true:=by
 by_cases hj:j=i
 ·subst hj
  simp [dD,J]
 ·rw[getD_set_ne false (Ne.symm hj)]
  simp [hj]
theorem ER.put (h:ER N AD ds ops m vs dv A B w0 φ listed a w) {i:Nat} {o:Oper} {jH:bh} (fm:iV N ops (λ_=>cC) (List.range m) jH=some dv) (J:i<m) (hm:m<=ops.size) (ax:ops[i]? =some o)
  (te:∀k,direct ops i k=true->listed.getD k false=true) (nS:∀i j,i<m->j<m->i≠j->∀t,e5 ops i=some t->e5 ops j≠some t) (aM:∀i t,i<m->e5 ops i=some t->t<N)
  {au:I} (aw:o.dst≠none->ar φ (vs.getD i cC) au):ER N AD ds ops m vs dv A B w0 φ (listed.setIfInBounds i true) (a.put o.dst au) w:=by
 have kt:e5 ops i=o.dst:=by simp [e5,ax]
 have eX:=Kk (listed:=listed) (i:=i) (by have:=h.size;omega);have ch:∀t,o.dst≠some t->(a.put o.dst au).tmps.getD t undef=a.tmps.getD t undef:=λt aE=>by
  rcases Nat.lt_or_ge t a.tmps.size with hK|hK
  ·rw[Act.oy _ _ _ _ hK,aW aE]
  ·simp [dD,Array.getElem?_eq_none hK,Array.getElem?_eq_none (show (a.put o.dst au).tmps.size<=t by rw[Act.size_put];exact hK)]
 refine⟨h.RV,by simpa using h.size,?_,?_,h.rel,h.own,h.outs,h.below,h.RW,by rw[Act.zG];exact h.defers,by rw[Act.size_put];exact h.lg,?_,?_⟩
 ·intro j k hj aH
  rw[eX] at hj ⊢;rcases hj with rfl|hj
  ·exact .inr (te k aH)
  ·exact .inr (h.down j k hj aH)
 ·intro j hj
  rw[getD_set_ne false af];exact h.qz j hj
 ·intro t v oB
  by_cases qE:o.dst=some t
  ·rcases oz _ _ _ fm t v oB with ⟨j,hj,aH,rfl⟩|⟨xp,_⟩
   ·exact .cC _
   ·exact absurd (kt.trans qE) (xp i (List.mem_range.2 J))
  ·rw[ch t qE]
   exact h.slot t v oB
 ·intro j t hj hl aH
  by_cases gv:j=i
  ·subst gv
   have hK:t<N:=aM j t hj aH;have:(a.put o.dst au).tmps.getD t undef=au:=by
    rw[Act.oy _ _ _ _ (by rw[h.lg];exact hK),aR (kt.symm.trans aH)]
   rw[this];exact aw (by rw[<-kt,aH];simp)
  ·have kp:=((eX j).1 hl).resolve_left gv
   rw[ch t λaq=>nS i j J hj (Ne.symm gv) t (kt.trans aq) aH];exact h.val j t hj kp aH
end
section
variable [aX] [cX] {P:aC} [Lib P] [c0 P] {C:gm} {N E m B:Nat} {w0:aj} {Q:Exit->Act->aj->Prop}
end
end AE
namespace AE
abbrev dT:=Option Addr×Nat
def RX (P:aC) (A:aD) (t:az):I->Option I
 | .pointer (some ⟨b,off,none⟩)=>match aP P (isAgg t) with
   |some true=>match aP P (sizeOf t) with
    |some n=>(A.mQ b off n).map λl=> .agg ⟨l⟩
    |none=>none
   |_=>none
 |_=>none
def Kl (P:aC) (a8:Operand->I) (A:aD) (o:Oper):Option I:=
 match o.op with
 | .build t ⟨[]⟩=>match o.guard with
   |none=>match aP P (Instr.build t #[]) with
    |some v=>bif plain v then some v else none
    |none=>none
   |some _=>none
 | .load t x=>match o.guard with
   |none=>match RX P A t (a8 x) with
    |some v=>some v
    |none=>Kj P a8 A o
   |some _=>none
 |_=>Kj P a8 A o
def ES (P:aC) (N m:Nat) (dI:List Nat) (ops:Array Oper) (dv:bh) (A:aD):List Oper->Nat->List I->Option (List I)
 |[],_,vs=>some vs
 |o::r,i,vs=>bif dI.contains i then ES P N m dI ops dv A r (i+1) (vs++[cC]) else
  match iV N ops (λj=>vs.getD j cC) (needs ops m o) dv with
  |some sl=>match Kl P (dh .nil sl) A o with
   |some v=>ES P N m dI ops dv A r (i+1) (vs++[v])
   |none=>none
  |none=>none
def RY (P:aC) (N m:Nat) (dI:List Nat):Option bT->Option (bh×List I×bh)
 |some (.draw _ ops s _)=>
  bif qC ops [] m N&&((List.range m).all λi=>match ops[i]? with|some o=>(needs ops m o).all λj=> !dI.contains j|none=>false)&&dI.all (λj=>Nat.blt j m) then
   match iV N ops (λ_=>cC) (List.range m) s.sl with
   |some dv=>match ES P N m dI ops dv s.A (ops.toList.take m) 0 [] with
    |some vs=>match iV N ops (λj=>vs.getD j cC) ((List.range m).filter λi=> !dI.contains i) dv with
     |some ET=>some (dv,vs,ET)
     |none=>none
    |none=>none
   |none=>none
  else none
 |_=>none
def AF (P:aC) (N m:Nat) (dI:List Nat) (o:Option bT) (i:Nat):bh:=
 match RY P N m dI o,(oL o)[i]? with
 |some (dv,vs,_),some op=>match iV N (oL o) (λj=>vs.getD j cC) (needs (oL o) m op) dv with
  |some sl=>sl
  |none=> .nil
 |_,_=> .nil
def Km [aX] (P:aC) (M:Mem) (B:Nat) (o:Oper) (sl:bh) (R:dT->cr) (iZ:dT->I):Prop:=
 o.guard=none/\∀(a:Act) (w:aj) (K:Act->aj->Prop) (Q:Exit->Act->aj->Prop),(∀x:Operand,aF (dh .nil sl x)=true->a.eval x=aK (dh .nil sl x))->(∀b o,M b=some o->w.heap[b]? =some o)->B<=w.heap.size->
   (∀y w',(R y).ok (aS w')->(∀b,(R y).j9 b->w.heap.size<=b)->dJ w.heap.size w w'->K (a.put o.dst (iZ y)) w')->Oper.wpIn (Fr none) 0 P o a w K Q
structure XG [aX] (N:Nat) (ds:List Deferred) (ops:Array Oper) (m:Nat) (dI:List Nat) (vs:List I) (dv:bh) (vI:aj) (φ:bn) (R:Nat->dT->cr) (iZ:Nat->dT->I) (ys:Nat->dT) (listed:Array Bool) (a:Act) (w:aj):Prop where
 size:listed.size=ops.size
 down:∀i j,listed.getD i false=true->direct ops i j=true->listed.getD j false=true
 qz:∀i,m<=i->listed.getD i false=false
 low:dJ vI.heap.size vI w
 defers:a.defers=ds
 lg:a.tmps.size=N
 slot:∀t v,dv.get t=some v->ar φ v (a.tmps.getD t undef)
 XH:∀j t,j<m->listed.getD j false=true->dI.contains j=false->e5 ops j=some t->ar φ (vs.getD j cC) (a.tmps.getD t undef)
 RZ:∀j t,j<m->listed.getD j false=true->dI.contains j=true->e5 ops j=some t->a.tmps.getD t undef=iZ j (ys j)
 ok:∀j,j<m->listed.getD j false=true->dI.contains j=true->(R j (ys j)).ok (aS w)/\∀b,(R j (ys j)).j9 b->vI.heap.size<=b
 two:∀i j,i<m->j<m->i≠j->listed.getD i false=true->listed.getD j false=true->dI.contains i=true->dI.contains j=true->∀b,(R i (ys i)).j9 b->¬(R j (ys j)).j9 b
section
variable [aX] {N:Nat} {ds:List Deferred} {ops:Array Oper} {m:Nat} {dI:List Nat} {vs:List I} {dv:bh} {vI w:aj} {φ:bn} {R:Nat->dT->cr} {iZ:Nat->dT->I} {ys:Nat->dT} {listed:Array Bool} {a:Act}
omit [aX] in
theorem EU {a:Act} {d:Option Tmp} {au:I} (t:Tmp) (aE:d≠some t):(a.put d au).tmps.getD t undef=a.tmps.getD t undef:=by
 rcases Nat.lt_or_ge t a.tmps.size with hK|hK
 ·rw[Act.oy _ _ _ _ hK,aW aE]
 ·simp [dD,Array.getElem?_eq_none hK,Array.getElem?_eq_none (show (a.put d au).tmps.size<=t by rw[Act.size_put];exact hK)]
end
end AE
namespace AE
def Kn (P:aC) (N m:Nat) (dI:List Nat) (o:Option bT) (i:Nat):Option (FuncId×List I):=
 match (oL o)[i]? with
 |some op=>match op.guard,op.op with
  |none,.call c=>match c.callee with
   | .value (.func f)=>bif enters P f then some (f,c.args.toList.map (dh .nil (AF P N m dI o i))) else none
   |_=>none
  |_,_=>none
 |none=>none
theorem EV [aX] {sl:bh} {a:Act} (mv:∀x:Operand,aF (dh .nil sl x)=true->a.eval x=aK (dh .nil sl x)):∀(l:List Operand),er (l.map (dh .nil sl))=true->l.map a.eval=e9 (l.map (dh .nil sl))
 |[],_=>rfl
 |x::l,h=>by
  simp only [List.map_cons,er,b4] at h;simp only [List.map_cons,e9];rw[mv x h.1,EV mv l h.2]
theorem Km.arr [aX] {α:Type} {P:aC} {M:Mem} {B N m:Nat} {dI:List Nat} {o:Option bT} {i:Nat} {f:FuncId} {args:List I} {e:az} {k:Nat} {enc:α->List I} {l:List α} {F:I->I} (h:Kn P N m dI o i=some (f,args)) (hp:er args=true)
  (l3:∀w,(∀i o,M i=some o->w.heap[i]? =some o)->B<=w.heap.size->Calls P f ⟨e9 args⟩ w λe' w'=>(∃a c,e'= .returned (F (.slice a l.length c))/\di w.heap.size (aS w') e k enc (.slice a l.length c) l)/\dJ w.heap.size w w'):
  ∃op,(oL o)[i]? =some op/\Km P M B op (AF P N m dI o i) (λy=>ni e k enc (.slice y.1 l.length y.2) l) (λy=>F (.slice y.1 l.length y.2)):=by
 unfold Kn at h;split at h
 ·rename_i op ct
  split at h
  ·rename_i c av x1
   split at h
   ·rename_i gL ow
    cases he:enters P gL with
    |false=>rw[he] at h;cases h
    |true=>
     rw[he,a7] at h;simp only [bS,Prod.mk.injEq] at h;obtain⟨rfl,rfl⟩:=h;refine⟨op,ct,av,λa w K Q mv aV dw c4=> ?_⟩;have eY:c.args.map a.eval=⟨e9 (c.args.toList.map (dh .nil (AF P N m dI o i)))⟩:=by
      have:=EV mv c.args.toList hp;rw[<-this];apply Array.ext';simp
     have eo:(execOp a.eval op).run P w= .ok (.enter gL ⟨e9 (c.args.toList.map (dh .nil (AF P N m dI o i)))⟩) w:=by
      unfold execOp;rw[x1];simp only;refine cb (a:={target:= .fn (.func gL) #[],args:= #[]++c.args.map a.eval}) (by unfold resolve;rw[ow];rfl) ?_;simp only [Array.empty_append,eY];show (callFunc gL (_++ #[])).run P w=_;rw[Array.append_empty];exact f' (zv he _) w
     have hi:∀c',op.op≠.defer c':=λc' h=>by rw[x1] at h;cases h
     refine⟨λ_ _=>trivial,?_⟩;rw[Oper.semAt_eq _ _ _ hi,eo,Oper.uponIn_enter];refine⟨λh=>absurd h (by simp [Fr,Fence.wide]),?_⟩;refine CallsIn.mono (xc (l3 w aV dw)) λe' cQ he=> ?_
     obtain⟨⟨bj,oR,rfl,hO⟩,hl⟩:=he;exact c4 (bj,oR) cQ (oQ hO) (λb U=>(hO.known b U).2) hl
   ·cases h
  ·cases h
 ·cases h
end AE
namespace AE
noncomputable instance:Lib Tryd.prog where
 same:=[]
 Ih:=λf aB x=>by cases aB
 CU:=[]
 Ii:=λp hp=>by cases hp
theorem mixed:Tryd.prog.follows .mixedOrders=true:=a6
end AE
namespace AE
theorem AG:Tryd.prog.underlying 4=some .bool:=a6
abbrev AH:az:=3
noncomputable def x2:TypeInfo:=(Tryd.prog.info? AH).getD default
theorem R0:Tryd.prog.info? AH=some x2:=a6
theorem R1:x2.zero=some (.int .i64 0):=a6
theorem R2:x2.size=1:=a6
abbrev R3:Nat:=8
theorem R4:x2.bytes=R3:=a6
def encI (n:Int):List I:=[.int .i64 n]
abbrev dr:=oO×Bool×Bool×Bool×Int×Int×Int×Int
instance XI:DecidableEq (Bool×Bool×Bool×Int×Int×Int×Int):=λp q=>decidable_of_iff (p.1=q.1/\p.2.1=q.2.1/\p.2.2=q.2.2) ⟨λh=>Prod.ext h.1 (Prod.ext h.2.1 h.2.2),λh=>by subst h;exact⟨rfl,rfl,rfl⟩⟩
instance XJ:DecidableEq dr:=λp q=>decidable_of_iff (p.1=q.1/\p.2=q.2) ⟨λh=>Prod.ext h.1 h.2,λh=>by subst h;exact⟨rfl,rfl⟩⟩
def jz (x:dr):List I:=[iM x.1,.bool x.2.1,.bool x.2.2.1,.bool x.2.2.2.1,.int .i64 x.2.2.2.2.1,.int .i64 x.2.2.2.2.2.1,.int .i64 x.2.2.2.2.2.2.1,.int .i64 x.2.2.2.2.2.2.2]
abbrev M.val (x:dr):I:= .agg ⟨jz x⟩
abbrev vJ:az:=97
section
variable [aX]
theorem Ko {α:Type} {k:Nat} {enc:α->List I} {v:I} {l:List α} (h:bH aX.eb k enc v l) {n:Nat} (ah:n<l.length):∃b off n c,v= .slice (some ⟨b,off,none⟩) n c:=by
 obtain⟨b,off,c,_,_,_,aw,_⟩:=h.at' (fc ah);exact⟨b,off,_,c,aw⟩
variable {α:Type} {k:Nat} {enc:α->List I} {v:I} {l:List α} {n o:Nat} {x r:I}
end
abbrev Kp:=Int×Int×Int
def R5 (x:Kp):List I:=[.int .i64 x.1,.int .i64 x.2.1,.int .i64 x.2.2]
abbrev E.val (x:Kp):I:= .agg ⟨R5 x⟩
section
variable [aX]
variable {x y:I} {s t:Bool}
theorem R6 (ag:aF x=true) (aT:aF y=true) (ex:aK x= .bool s) (gH:aK y= .bool t) (h:s=true) (gD:t=true):bE Tryd.prog (.bin .eql 4 x y,.bool true):=bE.xS AG ag aT ex gH (by rw[h,gD];rfl)
theorem R7 (ag:aF x=true) (aT:aF y=true) (ex:aK x= .bool s) (gH:aK y= .bool t) (h:s=true) (gD:¬t=true):bE Tryd.prog (.bin .eql 4 x y,.bool false):=bE.xS AG ag aT ex gH (by rw[h,Bool.eq_false_iff.2 gD];rfl)
theorem R8 (ag:aF x=true) (aT:aF y=true) (ex:aK x= .bool s) (gH:aK y= .bool t) (h:¬s=true) (gD:t=true):bE Tryd.prog (.bin .eql 4 x y,.bool false):=bE.xS AG ag aT ex gH (by rw[Bool.eq_false_iff.2 h,gD];rfl)
theorem R9 (ag:aF x=true) (aT:aF y=true) (ex:aK x= .bool s) (gH:aK y= .bool t) (h:¬s=true) (gD:¬t=true):bE Tryd.prog (.bin .eql 4 x y,.bool true):=bE.xS AG ag aT ex gH (by rw[Bool.eq_false_iff.2 h,Bool.eq_false_iff.2 gD];rfl)
end
def R':List I:=[iM [103,97,115],.bool false,.bool false,.bool false,iM [115,111,108,105,100],.bool true,.bool false,.bool false,iM [102,97,108,108,105,110,103],.bool true,.bool false,.bool true,iM [108,105,113,117,105,100],.bool false,.bool true,.bool false]
def EW (M:Mem):Prop:=∃ty fr,M 0=some (.cells ⟨R'⟩ ty fr)
theorem EW.mono {M M':Mem} (h:EW M) (hm:∀i o,M i=some o->M' i=some o):EW M':=by
 obtain⟨ty,fr,h⟩:=h;exact⟨ty,fr,hm _ _ h⟩
section
variable [aX] {P:aC}
end
end AE
namespace AE
def qT (l:List dr):Prop:=l.length<=300/\∀x∈l,x.1.length<=60
instance (l:List dr):Decidable (qT l):=by unfold qT;infer_instance
theorem R_ {l:List dr} {i:Nat} (h:i<l.length):l.getD i default∈l:=by
 rw[de,fc h];exact List.getElem_mem h
theorem Sa {l:List dr} {x:dr} (h:x∈l):∃i,i<l.length/\l.getD i default=x:=by
 obtain⟨i,J,rfl⟩:=List.mem_iff_getElem.1 h;exact⟨i,J,by rw[de,fc J];rfl⟩
theorem Sb {l:List dr} (h:300<l.length):¬qT l:=λaB=>by have:=aB.1;omega
theorem Sc {l:List dr} {i:Nat} (J:i<l.length) (h:60<(l.getD i default).1.length):¬qT l:=λaB=>by have:=aB.2 _ (R_ J);omega
theorem Sd {l:List dr} (h:l.length<=300) (ad:∀j,j<l.length->(l.getD j default).1.length<=60):qT l:=⟨h,λx ag=>by
 obtain⟨i,J,rfl⟩:=Sa ag
 exact ad i J⟩
end AE
namespace AE
theorem cB.Se {M M':Mem} {B:Nat} {L L':List cr} (h:cB B M L M' L'):gx M L M' L':=⟨h.sp,h.keeps,h.fresh⟩
theorem dg.own {M:Mem} {L:List cr} (h:dg M L):cB 0 M L M L:=⟨h,λ_ _ h _=>h,λ_ h=> .inl h,λ_ _=>Nat.zero_le _⟩
theorem gx.trans {M AI nY:Mem} {L hS jn:List cr} (h:gx M L AI hS) (t:gx AI hS nY jn):gx M L nY jn where
 sp:=t.sp
 keeps i o J ah:=t.keeps i o (h.keeps i o J ah) λad=>by
  rcases h.fresh i ad with al|al
  ·exact ah al
  ·rw[J] at al;cases al
 fresh b U:=by
  rcases t.fresh b U with h1|h1
  ·exact h.fresh b h1
  ·by_cases ad:fX L b
   ·exact .inl ad
   ·right
    cases al:M b with
    |none=>rfl
    |some o=>
     have:=h.keeps b o al ad;rw[h1] at this;cases this
theorem gx.refl {M:Mem} {L:List cr} (h:dg M L):gx M L M L:=h.own.Se
end AE
namespace AE
def tJ:List (Nat×I)->Nat->Option I
 |[],_=>none
 |p::r,i=>bif Nat.beq p.1 i then some p.2 else tJ r i
def Sf (o:Oper):Oper:={o with guard:=none}
def Sg (kq:Nat->I) (Sh:List Nat) (ops:Array Oper) (N:Nat) (o:Oper):Bool:=
 match o.guard with
 |none=>true
 |some (j,b)=>Sh.contains j&&(match kq j with| .bool b'=>b==b'|_=>false)&&(match e5 ops j with|some t=>Nat.blt t N|none=>false)
def AJ (P:aC) (N m:Nat) (dI:List Nat) (cs l5:List (Nat×I)) (ops:Array Oper) (dv:bh) (A:aD):List Oper->Nat->List I->Option (List I)
 |[],_,vs=>some vs
 |o::r,i,vs=>bif Sg (λj=>vs.getD j cC) (needs ops m o) ops N o then
   (bif dI.contains i then AJ P N m dI cs l5 ops dv A r (i+1) (vs++[(tJ cs i).getD cC]) else
     match tJ l5 i with
     |some v=>AJ P N m dI cs l5 ops dv A r (i+1) (vs++[v])
     |none=>match iV N ops (λj=>vs.getD j cC) (needs ops m o) dv with
      |some sl=>match Kl P (dh .nil sl) A (Sf o) with
       |some v=>AJ P N m dI cs l5 ops dv A r (i+1) (vs++[v])
       |none=>none
      |none=>none)
  else none
def Si (ops:Array Oper) (dI:List Nat):Bool:=(List.range dI.length).all λb=>(List.range b).all λa=>zI (u6 ops) (dI.getD b 0) (dI.getD a 0)
def Sj (P:aC) (N m:Nat) (dI:List Nat) (cs l5:List (Nat×I)):Option bT->Option (bh×List I×bh)
 |some (.draw _ ops s _)=>
  bif qC ops [] m N&&Si ops dI&&dI.all (λj=>Nat.blt j m) then
   match iV N ops (λ_=>cC) (List.range m) s.sl with
   |some dv=>match AJ P N m dI cs l5 ops dv s.A (ops.toList.take m) 0 [] with
    |some vs=>match iV N ops (λj=>vs.getD j cC) (List.range m) dv with
     |some ET=>some (dv,vs,ET)
     |none=>none
    |none=>none
   |none=>none
  else none
 |_=>none
def AK (P:aC) (N m:Nat) (dI:List Nat) (cs l5:List (Nat×I)) (o:Option bT) (i:Nat):bh:=
 match Sj P N m dI cs l5 o,(oL o)[i]? with
 |some (dv,vs,_),some op=>match iV N (oL o) (λj=>vs.getD j cC) (needs (oL o) m op) dv with
  |some sl=>sl
  |none=> .nil
 |_,_=> .nil
def Kq [aX] {Y:Type} (P:aC) (B:Nat) (M:Mem) (gn:List cr) (ops:Array Oper) (dI:List Nat) (iZ:Nat->Y->I) (k:Nat) (op:Oper) (sl:bh) (vK AL:Y->List cr):Prop:=
 ∀(a:Act) (w:aj) (K:Act->aj->Prop) (Q:Exit->Act->aj->Prop) (y:Y),(∀x:Operand,aF (dh .nil sl x)=true->a.eval x=aK (dh .nil sl x))->
  (∀(idx i:Nat) (t:Tmp),idx<k->dI[idx]? =some i->e5 ops i=some t->a.tmps.getD t undef=iZ idx y)->(∀i o,M i=some o->¬fX gn i->w.heap[i]? =some o)->B<=w.heap.size->dg (aS w) (vK y)->
  (∀d_ w',gx (aS w) (vK y) (aS w') (AL d_)->dJ 0 w w'->(∀idx,idx<k->iZ idx d_=iZ idx y)->K (a.put op.dst (iZ k d_)) w')->Oper.wpIn (Fr none) 0 P op a w K Q
structure EX [aX] {Y:Type} (N:Nat) (ds:List Deferred) (ops:Array Oper) (m:Nat) (dI:List Nat) (vs:List I) (dv:bh) (φ:bn) (iZ:Nat->Y->I) (k:Nat) (y:Y) (listed:Array Bool) (a:Act):Prop where
 size:listed.size=ops.size
 down:∀i j,listed.getD i false=true->direct ops i j=true->listed.getD j false=true
 qz:∀i,m<=i->listed.getD i false=false
 defers:a.defers=ds
 lg:a.tmps.size=N
 slot:∀t v,dv.get t=some v->ar φ v (a.tmps.getD t undef)
 val:∀j t,j<m->listed.getD j false=true->e5 ops j=some t->ar φ (vs.getD j cC) (a.tmps.getD t undef)
 RZ:∀(idx j:Nat) (t:Tmp),idx<k->dI[idx]? =some j->e5 ops j=some t->a.tmps.getD t undef=iZ idx y
 ord:∀(idx j:Nat),dI[idx]? =some j->(listed.getD j false=true↔idx<k)
section
variable [aX] {Y:Type} {N:Nat} {ds:List Deferred} {ops:Array Oper} {m:Nat} {dI:List Nat} {vs:List I} {dv:bh} {φ:bn} {iZ:Nat->Y->I} {k:Nat} {y:Y} {listed:Array Bool} {a:Act}
theorem EX.put (h:EX N ds ops m dI vs dv φ iZ k y listed a) {i:Nat} {o:Oper} {jH:bh} (fm:iV N ops (λ_=>cC) (List.range m) jH=some dv) (J:i<m) (hm:m<=ops.size) (ax:ops[i]? =some o)
  (te:∀k,direct ops i k=true->listed.getD k false=true) (nS:∀i j,i<m->j<m->i≠j->∀t,e5 ops i=some t->e5 ops j≠some t) (aM:∀i t,i<m->e5 ops i=some t->t<N)
  {au:I} (aw:ar φ (vs.getD i cC) au) {k':Nat} {d_:Y} (eF:∀(idx j:Nat),dI[idx]? =some j->j<m)
  (fQ:∀(idx j:Nat) (t:Tmp),idx<k'->dI[idx]? =some j->e5 ops j=some t->(if j=i then au else a.tmps.getD t undef)=iZ idx d_)
  (hO:∀(idx j:Nat),dI[idx]? =some j->((j=i\/listed.getD j false=true)↔idx<k')):EX N ds ops m dI vs dv φ iZ k' d_ (listed.setIfInBounds i true) (a.put o.dst au):=by
 have kt:e5 ops i=o.dst:=by simp [e5,ax]
 have eX:=Kk (listed:=listed) (i:=i) (by have:=h.size;omega);refine⟨by simpa using h.size,?_,?_,by rw[Act.zG];exact h.defers,by rw[Act.size_put];exact h.lg,?_,?_,?_,?_⟩
 ·intro j k hj aH
  rw[eX] at hj ⊢;rcases hj with rfl|hj
  ·exact .inr (te k aH)
  ·exact .inr (h.down j k hj aH)
 ·intro j hj
  rw[getD_set_ne false af];exact h.qz j hj
 ·intro t v oB
  by_cases qE:o.dst=some t
  ·rcases oz _ _ _ fm t v oB with ⟨j,hj,aH,rfl⟩|⟨xp,_⟩
   ·exact .cC _
   ·exact absurd (kt.trans qE) (xp i (List.mem_range.2 J))
  ·rw[EU t qE]
   exact h.slot t v oB
 ·intro j t hj hl aH
  by_cases gv:j=i
  ·subst gv
   rw[Act.oy _ _ _ _ (by rw[h.lg];exact aM j t hj aH),aR (kt.symm.trans aH)];exact aw
  ·rw[EU t λaq=>nS i j J hj (Ne.symm gv) t (kt.trans aq) aH]
   exact h.val j t hj (((eX j).1 hl).resolve_left gv) aH
 ·intro idx j t Sk hj aH
  have:=fQ idx j t Sk hj aH;by_cases gv:j=i
  ·rw[aR gv] at this
   rw[<-this];rw[gv] at aH;rw[Act.oy _ _ _ _ (by rw[h.lg];exact aM i t J aH),aR (kt.symm.trans aH)]
  ·rw[aW gv] at this
   rw[EU t λaq=>nS i j J (eF idx j hj) (Ne.symm gv) t (kt.trans aq) aH];exact this
 ·intro idx j hj
  rw[eX j];exact hO idx j hj
end
end AE
namespace AE
def Kr (P:aC) (N m:Nat) (dI:List Nat) (cs l5:List (Nat×I)) (o:Option bT) (i:Nat):Option (FuncId×List I):=
 match (oL o)[i]? with
 |some op=>match op.op with
  | .call c=>match c.callee with
    | .value (.func f)=>bif enters P f then some (f,c.args.toList.map (dh .nil (AK P N m dI cs l5 o i))) else none
    |_=>none
  |_=>none
 |none=>none
theorem Kq.call [aX] {Y:Type} {P:aC} {M:Mem} {B N m k i:Nat} {dI:List Nat} {cs l5:List (Nat×I)} {o:Option bT} {f:FuncId} {args:List I} {gn:List cr} {iZ:Nat->Y->I} {vK AL:Y->List cr} (h:Kr P N m dI cs l5 o i=some (f,args)) (hp:er args=true)
  (l3:∀(w:aj) (y:Y),(∀i o,M i=some o->¬fX gn i->w.heap[i]? =some o)->B<=w.heap.size->dg (aS w) (vK y)->Calls P f ⟨e9 args⟩ w λe' w'=>(∃d_,e'= .returned (iZ k d_)/\gx (aS w) (vK y) (aS w') (AL d_)/\∀idx,idx<k->iZ idx d_=iZ idx y)/\dJ 0 w w'):
  ∃op,(oL o)[i]? =some op/\Kq P B M gn (oL o) dI iZ k op (AK P N m dI cs l5 o i) vK AL:=by
 unfold Kr at h;split at h
 ·rename_i op ct
  split at h
  ·rename_i c x1
   split at h
   ·rename_i gL ow
    cases he:enters P gL with
    |false=>rw[he] at h;cases h
    |true=>
     rw[he,a7] at h;simp only [bS,Prod.mk.injEq] at h;obtain⟨rfl,rfl⟩:=h;refine⟨op,ct,λa w K Q y mv iJ aV dw EY c4=> ?_⟩;have eY:c.args.map a.eval=⟨e9 (c.args.toList.map (dh .nil (AK P N m dI cs l5 o i)))⟩:=by
      have:=EV mv c.args.toList hp;rw[<-this];apply Array.ext';simp
     have eo:(execOp a.eval op).run P w= .ok (.enter gL ⟨e9 (c.args.toList.map (dh .nil (AK P N m dI cs l5 o i)))⟩) w:=by
      unfold execOp;rw[x1];simp only;refine cb (a:={target:= .fn (.func gL) #[],args:= #[]++c.args.map a.eval}) (by unfold resolve;rw[ow];rfl) ?_;simp only [Array.empty_append,eY];show (callFunc gL (_++ #[])).run P w=_;rw[Array.append_empty];exact f' (zv he _) w
     have hi:∀c',op.op≠.defer c':=λc' h=>by rw[x1] at h;cases h
     refine⟨λ_ _=>trivial,?_⟩;rw[Oper.semAt_eq _ _ _ hi,eo,Oper.uponIn_enter];refine⟨λh=>absurd h (by simp [Fr,Fence.wide]),?_⟩;refine CallsIn.mono (xc (l3 w y aV dw EY)) λe' cQ he=> ?_
     obtain⟨⟨d_,rfl,cH,dj⟩,hl⟩:=he;exact c4 d_ cQ cH hl dj
   ·cases h
  ·cases h
 ·cases h
end AE
namespace AE
mutual
theorem Ks (s1 s2:aX) (h:s1.σ=s2.σ):∀v:I,@aK s1 v= @aK s2 v:=λv=>by
 unfold aK;split
 ·rw[h]
 ·rw[Ks s1 s2 h]
 ·rw[x3 s1 s2 h]
 ·rw[x3 s1 s2 h]
 ·rw[x3 s1 s2 h,x3 s1 s2 h]
 ·rfl
theorem x3 (s1 s2:aX) (h:s1.σ=s2.σ):∀l:List I,@e9 s1 l= @e9 s2 l
 |[]=>rfl
 |v::r=>by
  unfold e9;rw[Ks s1 s2 h v,x3 s1 s2 h r]
end
theorem Sl {p:Nat->I->Prop} {j:Nat} {u:I} {l:List (Nat×I)} (h:p j u) (hl:∀i v,tJ l i=some v->p i v):∀i v,tJ ((j,u)::l) i=some v->p i v:=λi v J=>by
 unfold tJ at J;cases U:Nat.beq j i with
 |true=>
  rw[U,a7] at J;cases J;rw[<-bJ U];exact h
 |false=>
  rw[U,cV] at J;exact hl i v J
section
variable [aX] {P:aC}
end
def qU {α:Type} (p:Nat->α->Prop):Nat->List α->Prop
 |_,[]=>True
 |q,x::l=>p q x/\qU p (q+1) l
theorem qU.nil {α:Type} {p:Nat->α->Prop} {q:Nat}:qU p q []:=trivial
theorem qU.cons {α:Type} {p:Nat->α->Prop} {q:Nat} {x:α} {l:List α} (h:p q x) (t:qU p (q+1) l):qU p q (x::l):=⟨h,t⟩
theorem qU.get {α:Type} {p:Nat->α->Prop}:∀{q:Nat} {l:List α},qU p q l->∀k i,l[k]? =some i->p (q+k) i
 |q,[],_,k,i,J=>by simp at J
 |q,x::l,h,k,i,J=>by
  match k with
  |0=>simp only [List.getElem?_cons_zero,bS] at J;subst J;exact h.1
  |k+1=>
   have:=qU.get h.2 k i (by simpa using J);rw[show q+(k+1)=q+1+k by omega];exact this
def qV (p:Nat->I->Prop):List (Nat×I)->Prop
 |[]=>True
 |x::l=>p x.1 x.2/\qV p l
theorem qV.nil {p:Nat->I->Prop}:qV p []:=trivial
theorem qV.cons {p:Nat->I->Prop} {j:Nat} {u:I} {l:List (Nat×I)} (h:p j u) (t:qV p l):qV p ((j,u)::l):=⟨h,t⟩
theorem qV.get {p:Nat->I->Prop}:∀{l:List (Nat×I)},qV p l->∀i v,tJ l i=some v->p i v
 |[],_,i,v,h=>by cases h
 |(j,u)::l,h,i,v,J=>Sl (p:=p) h.1 (qV.get h.2) i v J
end AE
end Go.Proofs.YtmfckpdcljjdjaaDoor
namespace Go.Proofs.YtmfckpdcljjdjaaDoor
open Go Go.RowKit
namespace AE
def mz:Nat->List (I×I)->List MapEntry
 |_,[]=>[]
 |i,p::r=>{key:=p.1,val:=p.2,born:=i}::mz (i+1) r
theorem Kt:∀(i:Nat) (l:List (I×I)) (p:I×I),mz i (l++[p])=mz i l++[{key:=p.1,val:=p.2,born:=i+l.length}]
 |i,[],n=>by simp [mz]
 |i,x::r,n=>by
  simp only [List.cons_append,mz,Kt (i+1) r n,List.length_cons];rw[show i+1+r.length=i+(r.length+1) by omega]
def nk (g:Nat) (es:List (I×I)):cr where
 j9 b:=b=g
 ok M:=M g=some (.map ⟨mz 0 es⟩ es.length)
 pW M h b U:=by
  subst U;rw[h];simp
 loc M M' h ax:=h g _ rfl ax
structure AM (P:aC) (eI:az) (K:I->Prop):Prop where
 Sm:∀k,K k->∀b,aP P (Instr.checkKey b 10000 eI k)=some ()
 desc:∃d,aP P (underlying eI)=some d/\∀x y,Instr.sameNow d x y=none
 same:∀k,K k->∀w,(Op.equal eI k k).run P w= .ok true w
 other:∀k k',K k->K k'->k≠k'->∀w,(Op.equal eI k k').run P w= .ok false w
def AN (K:I->Prop) (es:List (I×I)) (k:I):Prop:=∀p∈es,K p.1/\p.1≠k
variable {P:aC} {eI:az} {K:I->Prop} {k v:I} {w:aj}
theorem Ku (c4:AM P eI K) (hk:K k):∀(es:List (I×I)) (i j:Nat),AN K es k->(Instr.findAsking eI k (mz i es) j).run P w= .ok none w
 |[],_,_,_=>rfl
 |p::r,i,j,h=>by
  obtain⟨h1,ad⟩:=h p List.mem_cons_self;unfold mz Instr.findAsking;refine ck (c4.other k p.1 hk h1 (λe=>ad e.symm) w) ?_;exact Ku c4 hk r _ _ λq aA=>h q (List.mem_cons_of_mem _ aA)
theorem Sn (c4:AM P eI K) (hk:K k) {es:List (I×I)} (h:AN K es k):(Instr.findKey eI k (mz 0 es)).run P w= .ok none w:=by
 obtain⟨d,h1,ad⟩:=c4.desc;unfold Instr.findKey;refine cb h1 ?_;cases es with
 |nil=>rfl
 |cons p r=>
  have:Instr.findNow d k (mz 0 (p::r)) 0=none:=by
   unfold mz Instr.findNow;rw[ad]
  rw[this];exact Ku c4 hk _ _ _ h
section
variable [aX]
end
theorem Sp [cX] {P:aC} {N B:Nat} {w0:aj} {Q:Exit->Act->aj->Prop} {M:Mem} {bp:List I} {o:Option bT} {t:az} {dk:I} {vals2:Nat->List I} {dB e6:bh} {aQ:List cm} {bx:dM}
  (h:Eu o=some t) (cv:gp (dA o) dB aQ=some bx) (dx:hE N dB (hN o) dk=some e6) (fu:aF dk=true)
  (hm:∀M' g,fo (a' M bp) (a' M' (vals2 g)) bx) (aw:∀M' g,@aK (a' M' (vals2 g)) dk= .map (some g))
  (rest:∀M' g,M g=none->B<=g->(nk g []).ok M'->fN M M' none->∀aL w,@Here (a' M' (vals2 g)) _ N {sl:=e6,ms:=[],A:=gP aQ} B w0 aL w->wpListIn (Fr none) 0 P (jM o) (dz P (jK o) Q) (jL o) aL w)
  (ah:cX.dy<=aQ.length:=by first|exact Nat.zero_le _|exact jX rfl) (ao:ib (dA o).A aQ 0:=by exact fz rfl): @gd (a' M bp) _ P N B w0 Q o:=by
 letI:=a' M bp;unfold Eu at h;split at h
 ·rename_i op r ops s ks
  refine⟨_,rfl,λa w aq=> ?_⟩;split at h
  ·rename_i cq ct
   split at h
   ·rename_i hh
    cases h;have fE:=aq;obtain⟨⟨φ,ds,h1,ad,al,bb,_⟩,b5,cE⟩:=aq;unfold wpListIn;rw[lf ad.get hh,aR rfl];have hw:∀i o,M i=some o->w.heap[i]? =some o:=fE.kT
    let w':aj:={w with heap:=w.heap.push (.map #[] 0)}
    have eo:(execOp a.eval op).run P w= .ok (.value (.map (some w.heap.size))) w':=by
     unfold execOp;rw[ct];rfl
    have hi:∀c',op.op≠.defer c':=λc' h=>by rw[ct] at h;cases h
    refine⟨λ_ _=>trivial,?_⟩;rw[Oper.semAt_eq _ _ _ hi,eo,Oper.uponIn_value];obtain⟨q1,aJ⟩:=lZ (B:=B) (M:=M) (w:=w) (w':=w') (T:=none) (ej:=some w.heap.size) hw (λi h=>by cases h) (λi J=> .inr (by cases J;exact bM _)) ⟨rfl,rfl,rfl⟩ (bM _) (by simp [w']) (λi J _=>by
     show (w.heap.push _)[i]? =_
     rw[Array.getElem?_push,aW af])
    have hO:(nk w.heap.size []).ok (fw M w' none (some w.heap.size)):=by
     show fw M w' none (some w.heap.size) w.heap.size=_;unfold fw;rw[aR rfl];show (w.heap.push _)[w.heap.size]? =_;rw[Array.getElem?_push,aR rfl];rfl
    have qW:M w.heap.size=none:=by
     cases av:M w.heap.size with
     |none=>rfl
     |some o=>
      have:=(Array.getElem?_eq_some_iff.1 (hw _ _ av)).1;omega
    have gw:=Here.turns (vals':=vals2 w.heap.size) cv (hm _ _) q1 ah ao fE;letI:=a' (fw M w' none (some w.heap.size)) (vals2 w.heap.size);have iX:=Here.put (d:=op.dst) gw (v:=dk) fu dx;rw[aw] at iX;exact rest _ _ qW cE hO aJ _ w' iX
   ·cases h
  ·cases h
 ·cases h
theorem Sq [cX] {P:aC} {N B:Nat} {w0:aj} {Q:Exit->Act->aj->Prop} {M:Mem} {bp vals2:List I} {o:Option bT} {t eI el:az} {K:I->Prop} {m k x oS qX:I} {g:Nat} {es:List (I×I)} {dB e6:bh} {aQ:List cm} {bx:dM}
  (c4:AM P eI K) (h:Ev o=some (t,m,k,x)) (aE:aP P (underlying t)=some (.map eI el))
  (cv:gp (dA o) dB aQ=some bx) (dx:hE N dB (hN o) undef=some e6) (hp:aF m=true) (ag:aF k=true) (aw:aF x=true) (em: @aK (a' M bp) m= .map (some g)) (EZ: @aK (a' M bp) k=oS) (a8: @aK (a' M bp) x=qX)
  (hO:(nk g es).ok M) (dw:B<=g) (hk:K oS) (eM:AN K es oS) (hm:∀M',fo (a' M bp) (a' M' vals2) bx)
  (rest:∀M',(nk g (es++[(oS,qX)])).ok M'->fN M M' (some g)->∀aL w,@Here (a' M' vals2) _ N {sl:=e6,ms:=[],A:=gP aQ} B w0 aL w->wpListIn (Fr none) 0 P (jM o) (dz P (jK o) Q) (jL o) aL w)
  (ah:cX.dy<=aQ.length:=by first|exact Nat.zero_le _|exact jX rfl) (ao:ib (dA o).A aQ 0:=by exact fz rfl): @gd (a' M bp) _ P N B w0 Q o:=by
 letI:=a' M bp;unfold Ev at h;split at h
 ·rename_i op r ops s ks
  refine⟨_,rfl,λa w aq=> ?_⟩;split at h
  ·rename_i cq Kv Kw fP ct
   split at h
   ·rename_i hh
    simp only [bS,Prod.mk.injEq] at h;obtain⟨rfl,rfl,rfl,rfl⟩:=h;have fE:=aq;obtain⟨⟨φ,ds,h1,ad,al,bb,_⟩,b5,cE⟩:=aq;unfold wpListIn;rw[lf ad.get hh,aR rfl];have C3:a.eval Kv= .map (some g):=(ar.gW _ hp (fy (hg φ) ad.get Kv)).trans em;have kU:a.eval Kw=oS:=(ar.gW _ ag (fy (hg φ) ad.get Kw)).trans EZ;have Sr:a.eval fP=qX:=(ar.gW _ aw (fy (hg φ) ad.get fP)).trans a8;have hw:∀i o,M i=some o->w.heap[i]? =some o:=fE.kT;have U:M g=some (.map ⟨mz 0 es⟩ es.length):=hO;have av:=hw _ _ U
    let o':Obj:= .map ⟨mz 0 (es++[(oS,qX)])⟩ (es++[(oS,qX)]).length
    let w':aj:={w with heap:=w.heap.setIfInBounds g o'}
    have dQ:Obj.map ((⟨mz 0 es⟩:Array MapEntry).push {key:=oS,val:=qX,born:=es.length}) (es.length+1)=o':=by
     show _=Obj.map _ _;rw[Kt,List.length_append,Nat.zero_add];simp
    have eo:(execOp a.eval op).run P w= .ok .skip w':=by
     unfold execOp;rw[ct];simp only [C3,kU,Sr];show (do Instr.mapUpdate cq (.map (some g)) oS qX;pure Next.skip:Sem Next).run P w=_;have cd:(Instr.mapUpdate cq (.map (some g)) oS qX).run P w= .ok () w':=by
      unfold Instr.mapUpdate;refine cb aE ?_;simp only;refine ck (mo av (by simp)) ?_;simp only;refine cb (c4.Sm _ hk _) ?_;refine ck (Sn (w:=w) c4 hk eM) ?_;simp only;rw[dQ];exact qs av (by simp)
     simp only [Sem.run_bind,cd,Result.andThen_ok];rfl
    have hi:∀c',op.op≠.defer c':=λc' h=>by rw[ct] at h;cases h
    refine⟨λ_ _=>trivial,?_⟩;rw[Oper.semAt_eq _ _ _ hi,eo,Oper.uponIn_skip];have vL:g<w.heap.size:=(Array.getElem?_eq_some_iff.1 av).1;obtain⟨q1,aJ⟩:=lZ (B:=B) (M:=M) (w:=w) (w':=w') (T:=some g) (ej:=some g) hw (λi J=>by cases J;exact⟨by rw[U];simp,dw⟩) (λi J=> .inl J) ⟨rfl,rfl,rfl⟩ (bM _) (by simp [w']) (λi J ch=>by
     show (w.heap.setIfInBounds g o')[i]? =_
     rw[Array.getElem?_setIfInBounds,aW (λe=>ch (by rw[e]))])
    have hO:(nk g (es++[(oS,qX)])).ok (fw M w' (some g) (some g)):=by
     show fw M w' (some g) (some g) g=_;unfold fw;rw[aR rfl];show (w.heap.setIfInBounds g o')[g]? =_;rw[Array.getElem?_setIfInBounds,aR rfl,aR vL]
    have gw:=Here.turns (vals':=vals2) cv (hm _) q1 ah ao fE;letI:=a' (fw M w' (some g) (some g)) vals2;exact rest _ hO aJ _ w' (Here.put (d:=op.dst) gw (v:=undef) rfl dx)
   ·cases h
  ·cases h
 ·cases h
section
variable {M M':Mem}
theorem Ss {g:Nat} {es cj:List (I×I)} (hO:(nk g cj).ok M') (c4:fN M M' (some g)):gx M [nk g es] M' [nk g cj]:=
 ⟨dg.one hO,λi o J ah=>c4 i o J λe=>ah (j'.2 (Option.some.inj e)),λb U=> .inl (j'.2 (show b=g from j'.1 U))⟩
theorem St {g:Nat} {es:List (I×I)} (hO:(nk g es).ok M') (ah:M g=none) (c4:fN M M' none):gx M [] M' [nk g es]:=
 ⟨dg.one hO,λi o J _=>c4 i o J λe=>(by cases e),λb U=> .inr (by rw[show b=g from j'.1 U];exact ah)⟩
end
end AE
end Go.Proofs.YtmfckpdcljjdjaaDoor
namespace Go.Proofs.YtmfckpdcljjdjaaDoor
open Go Go.Proofs Go.RowKit
namespace AE
def look:List I->Nat->Nat->I
 |[],_,_=> .bool false
 |v::r,n,k=>bif Nat.beq (n-1) k then v else look r (n-1) k
def dX:List I->Prop
 |[]=>True
 |v::r=>lX v=v/\dX r
theorem vM:∀{l:List I},dX l->∀v∈l,lX v=v
 |[],_,v,aw=>by cases aw
 |x::r,h,v,aw=>by
  rcases List.mem_cons.1 aw with rfl|aw
  ·exact h.1
  ·exact vM h.2 v aw
theorem AO:∀{l:List I},(∀v∈l,lX v=v)->dX l
 |[],_=>trivial
 |x::r,h=>⟨h x (by simp),AO λv aw=>h v (List.mem_cons_of_mem _ aw)⟩
theorem nZ {a b:List I} (ha:dX a) (U:dX b):dX (a++b):=AO λv aw=>by
 rcases List.mem_append.1 aw with h|h
 ·exact vM ha v h
 ·exact vM U v h
theorem lp {a:List I} (ha:dX a):dX a.reverse:=AO λv aw=>vM ha v (by simpa using aw)
theorem AP:∀(env:List I) (n k:Nat),env.length=n->look env n k=env.reverse.getD k (.bool false)
 |[],n,k,_=>by simp [look]
 |v::r,n,k,h=>by
  simp only [List.length_cons] at h;unfold look;rw[List.reverse_cons,de];by_cases hk:k=r.length
  ·subst hk
   rw[show Nat.beq (n-1) r.length=true by rw[show n-1=r.length by omega];exact Nat.beq_refl _,a7,List.getElem?_append_right (by simp)];simp
  ·rw[show Nat.beq (n-1) k=false by cases U:Nat.beq (n-1) k with|false=>rfl|true=>exact absurd (bJ U) af,cV,AP r (n-1) k af,de]
   by_cases aM:k<r.length
   ·rw[List.getElem?_append_left (by simpa using aM)]
   ·rw[List.getElem?_eq_none (by simpa using by omega),List.getElem?_eq_none (by simp;omega)]
mutual
def ex (env:List I) (n:Nat):I->I
 | .complex .f64 k b=>bif Nat.beq b 0 then (bif Nat.blt k cP then look env n k else .pointer (some ⟨k-cP,0,none⟩)) else .complex .f64 k b
 | .iface t v=> .iface t (ex env n v)
 | .agg ⟨l⟩=> .agg ⟨fh env n l⟩
 | .tuple ⟨l⟩=> .tuple ⟨fh env n l⟩
 | .func (.func f) ⟨a⟩ ⟨b⟩=> .func (.func f) ⟨fh env n a⟩ ⟨fh env n b⟩
 |v=>v
def fh (env:List I) (n:Nat):List I->List I
 |[]=>[]
 |v::r=>ex env n v::fh env n r
end
abbrev bC (M:Mem) (env:List I):aX:=a' M env.reverse
theorem Su (M:Mem) {env:List I} {n:Nat} (h:dX env) (ah:env.length=n) (k:Nat):(bC M env).σ k=bif Nat.blt k cP then look env n k else .pointer (some ⟨k-cP,0,none⟩):=by
 show mw env.reverse k=_;unfold mw;cases hk:Nat.blt k cP with
 |false=>rfl
 |true=>
  rw[a7,a7,AP env n k ah];by_cases aM:k<env.length
  ·rw[de,fc (by simpa using aM)]
   exact vM (lp h) _ (List.getElem_mem (by simpa using aM))
  ·rw[de,List.getElem?_eq_none (by simpa using by omega)]
   rfl
mutual
theorem gR (M:Mem) {env:List I} {n:Nat} (h:dX env) (ah:env.length=n):∀v:I,@aK (bC M env) v=ex env n v:=by
 intro v;unfold aK ex;split
 ·rename_i k b
  dsimp only;cases Nat.beq b 0 with
  |true=>rw[a7,a7];exact Su M h ah k
  |false=>rfl
 ·dsimp only;rw[gR M h ah]
 ·dsimp only;rw[mA M h ah]
 ·dsimp only;rw[mA M h ah]
 ·dsimp only;rw[mA M h ah,mA M h ah]
 ·rename_i h1 ad al bb b5
  split
  ·exact absurd rfl (h1 _ _)
  ·exact absurd rfl (ad _ _)
  ·exact absurd rfl (al _)
  ·exact absurd rfl (bb _)
  ·exact absurd rfl (b5 _ _ _)
  ·rfl
theorem mA (M:Mem) {env:List I} {n:Nat} (h:dX env) (ah:env.length=n):∀l:List I,@e9 (bC M env) l=fh env n l
 |[]=>rfl
 |v::r=>by
  unfold e9 fh;rw[gR M h ah,mA M h ah]
end
mutual
def ho (n:Nat):I->Bool
 | .complex .f64 k b=>bif Nat.beq b 0 then Nat.blt k n|| !Nat.blt k cP else true
 | .iface _ v=>ho n v
 | .agg ⟨l⟩=>j_ n l
 | .tuple ⟨l⟩=>j_ n l
 | .func (.func _) ⟨a⟩ ⟨b⟩=>j_ n a&&j_ n b
 |_=>true
def j_ (n:Nat):List I->Bool
 |[]=>true
 |v::r=>ho n v&&j_ n r
end
mutual
theorem i' {n m:Nat} (hle:n<=m):∀v:I,ho n v=true->ho m v=true:=by
 intro v h;unfold ho at h ⊢;split at h
 ·rename_i k b
  cases U:Nat.beq b 0 with
  |true=>
   rw[U,a7,Bool.or_eq_true] at h;rw[a7,Bool.or_eq_true];rcases h with h|h
   ·exact .inl (Nat.blt_eq.mpr (Nat.lt_of_lt_of_le (Nat.blt_eq.mp h) hle))
   ·exact .inr h
  |false=>rfl
 ·exact i' hle _ h
 ·exact vN hle _ h
 ·exact vN hle _ h
 ·rename_i a b
  simp only [b4] at h ⊢;exact⟨vN hle _ h.1,vN hle _ h.2⟩
 ·rfl
theorem vN {n m:Nat} (hle:n<=m):∀l:List I,j_ n l=true->j_ m l=true
 |[],_=>rfl
 |v::r,h=>by
  unfold j_ at h ⊢;simp only [b4] at h ⊢;exact⟨i' hle v h.1,vN hle r h.2⟩
end
def jA (n:Nat) (s1 s2:aX):Prop:=∀k,k<n\/cP<=k->s1.σ k=s2.σ k
mutual
theorem hq {n:Nat} {s1 s2:aX} (ha:jA n s1 s2):∀v:I,ho n v=true-> @aK s1 v= @aK s2 v:=by
 intro v h;unfold ho at h;unfold aK;split at h
 ·rename_i k b
  dsimp only;cases U:Nat.beq b 0 with
  |true=>
   rw[U,a7] at h;rw[a7,a7];refine ha k ?_;rw[Bool.or_eq_true] at h;rcases h with h|h
   ·exact .inl (Nat.blt_eq.mp h)
   ·refine .inr ?_
    have:¬k<cP:=λhk=>by rw[Nat.blt_eq.mpr hk] at h;cases h
    omega
  |false=>rfl
 ·dsimp only;rw[hq ha _ h]
 ·dsimp only;rw[tK ha _ h]
 ·dsimp only;rw[tK ha _ h]
 ·rename_i a b
  dsimp only;simp only [b4] at h;rw[tK ha _ h.1,tK ha _ h.2]
 ·rename_i h1 ad al bb b5
  split
  ·exact absurd rfl (h1 _ _)
  ·exact absurd rfl (ad _ _)
  ·exact absurd rfl (al _)
  ·exact absurd rfl (bb _)
  ·exact absurd rfl (b5 _ _ _)
  ·rfl
theorem tK {n:Nat} {s1 s2:aX} (ha:jA n s1 s2):∀l:List I,j_ n l=true-> @e9 s1 l= @e9 s2 l
 |[],_=>rfl
 |v::r,h=>by
  unfold j_ at h;simp only [b4] at h;unfold e9;rw[hq ha v h.1,tK ha r h.2]
end
theorem l6 (M M':Mem) {env bZ:List I} {n:Nat} (ah:env.length=n):jA n (bC M env) (bC M' (bZ++env)):=by
 intro k hk;show mw env.reverse k=mw (bZ++env).reverse k;unfold mw;cases U:Nat.blt k cP with
 |false=>rfl
 |true=>
  rw[a7,a7];have aM:=Nat.blt_eq.mp U;have cc:k<env.length:=by omega
  congr 1;rw[List.reverse_append,de,de,List.getElem?_append_left (by simpa using cc)]
structure fG (P:aC) where
 α:Type
 AQ:α
 e:az
 k:Nat
 bytes:Nat
 enc:α->List I
 len:∀x,(enc x).length=k
 one:∀x,∀u∈enc x,u.oneCell'=true
 pos:0<k
 size:aP P (sizeOf e)=some k
 info:∃i z,P.info? e=some i/\i.zero=some z/\i.size=k/\i.bytes=bytes/\z.cells.size=k
variable {P:aC}
structure eB (P:aC) where
 K:fG P
 v:I
 l:List K.α
def eB.ok (r:eB P) (M:Mem):Prop:=bH M r.K.k r.K.enc r.v r.l
inductive aI (P:aC) where
 |box (g:Nat) (ty:az) (cs:List I)
 |arr (K:fG P) (v:I) (l:List K.α)
 |kV (K:fG P) (v:I) (l:List K.α)
 |red (K:fG P) (v:I) (l:List K.α)
 |any (R:cr)
def aI.res:aI P->cr
 | .box g ty cs=>vD g ty cs
 | .arr K v l=>ni K.e K.k K.enc v l
 | .kV K v l=>vE K.e K.k K.enc v l
 | .red K v l=>As K.k K.enc v l
 | .any R=>R
abbrev bW (L:List (aI P)):List cr:=L.map aI.res
def aI.Kx:aI P->Option (eB P)
 | .arr K v l=>some ⟨K,v,l⟩
 | .kV K v l=>some ⟨K,v,l⟩
 | .red K v l=>some ⟨K,v,l⟩
 |_=>none
theorem iN {L:List (aI P)} {i:Nat} {r:aI P} (h:L[i]? =some r):(bW L)[i]? =some r.res:=by
 rw[List.getElem?_map,h];rfl
def fi (ro:List (eB P)) (M:Mem):Prop:=∀(i:Nat) (r:eB P),ro[i]? =some r->r.ok M
def jP (fF:Mem) (ak:List cr) (M:Mem):Prop:=∀i o,fF i=some o->¬fX ak i->M i=some o
theorem E0 {B:Nat} {fF M:Mem} {ak:List cr} {L:List (aI P)} (h:cB B fF ak M (bW L)) {i:Nat} {d:aI P} (J:L[i]? =some d) {r:eB P} (hr:d.Kx=some r):r.ok M:=by
 have av:=iN J;cases d<;>cases hr
 ·exact(h.arr i av).arr (fG.len _)
 ·exact(h.kV i av).arr (fG.len _)
 ·exact h.red i av
theorem E1 {M:Mem} {L:List (aI P)} (h:dg M (bW L)) {i:Nat} {d:aI P} (J:L[i]? =some d) {r:eB P} (hr:d.Kx=some r):r.ok M:=by
 have av:=iN J;cases d<;>cases hr
 ·exact(h.arr i av).arr (fG.len _)
 ·exact(h.kV i av).arr (fG.len _)
 ·exact h.red i av
theorem x4 {B:Nat} {fF M:Mem} {ak L:List cr} (h:cB B fF ak M L):jP fF ak M:=λ_ _ J ah=>h.kept J ah
end AE
namespace AE
def x5:List (Nat×Operand)->Nat->Bool
 |[],_=>true
 |p::r,i=>Nat.beq p.1 i&&x5 r (i+1)
def E2:Option bT->Option (az×List I)
 |some (.oper o _ ops s _)=>match o.op with
  | .buildSlice t n ⟨ps⟩=>bif x5 ps 0&&(Nat.beq ps.length n&&(Nat.blt 0 n&&Nat.ble n 1000)) then match lR ops o s.sl with
    |some true=>some (t,ps.map λp=>dh .nil s.sl p.2)
    |_=>none
    else none
  |_=>none
 |_=>none
def x6:Nat->List I->List (Nat×I)
 |_,[]=>[]
 |i,u::r=>(i,u)::x6 (i+1) r
theorem Ky {f:Operand->I}:∀(ps:List (Nat×Operand)) (i:Nat),x5 ps i=true->ps.map (λp=>(p.1,f p.2))=x6 i (ps.map λp=>f p.2)
 |[],_,_=>rfl
 |p::r,i,h=>by
  unfold x5 at h;rw[b4] at h;rw[List.map_cons,List.map_cons,bJ h.1,Ky r (i+1) h.2];rfl
theorem Kz:∀(l:List I) (off k:Nat) (cs:Array I),off+k+l.length<=cs.size->((l.zipIdx k).foldl (λ(cs:Array I) (p:I×Nat)=>cs.setIfInBounds (off+p.2) p.1) cs).toList=cs.toList.take (off+k)++l++cs.toList.drop (off+k+l.length)
 |[],off,k,cs,h=>by simp
 |u::l,off,k,cs,h=>by
  simp only [List.zipIdx_cons,List.foldl_cons];simp only [List.length_cons] at h;rw[Kz l off (k+1) _ (by simp only [Array.size_setIfInBounds];omega)];have hk:off+k<cs.toList.length:=by rw[Array.length_toList];omega
  rw[Array.toList_setIfInBounds,List.take_set,List.drop_set,aR af,show off+(k+1)=off+k+1 by omega];rw[List.take_add_one,fc hk];rw[List.set_append_right _ _ (by rw[List.length_take];omega)];simp only [List.length_take,Option.toList_some];rw[show off+k-min (off+k) cs.toList.length=0 by omega];simp only [List.set_cons_zero,List.length_cons];rw[show off+k+1+l.length=off+k+(l.length+1) by omega];simp
theorem KA {k:Nat}:∀(us:List I) (i0:Nat) (cs:Array I),(∀u∈us,u.cells.size=k)->cs.size=(i0+us.length)*k->∃r,Instr.fill (λi=>some (i*k,k)) cs (x6 i0 us)=some r/\r.toList=cs.toList.take (i0*k)++us.flatMap (λu=>u.cells.toList)
 |[],i0,cs,_,ao=>⟨cs,rfl,by
  rw[List.flatMap_nil,List.append_nil,List.take_of_length_le];rw[Array.length_toList,ao]
  exact bM _⟩
 |u::us,i0,cs,hu,ao=>by
  have hk:=hu u List.mem_cons_self;simp only [List.length_cons] at ao;have E3:cs.size=i0*k+k+us.length*k:=by
   rw[ao,Nat.add_mul,Nat.add_mul];omega
  unfold x6 Instr.fill;dsimp only;rw[aW (by simp only [hk,E3];simp)];have hs:=Kz u.cells.toList (i0*k) 0 cs (by rw[Array.length_toList];omega);rw[Array.length_toList,hk,Nat.add_zero] at hs;generalize ez:u.cells.zipIdx.foldl (λcs (x:I×Nat)=>cs.setIfInBounds (i0*k+x.2) x.1) cs=cs';have KB:cs'.toList=cs.toList.take (i0*k)++u.cells.toList++cs.toList.drop (i0*k+k):=by
   rw[<-ez,<-hs,<-Array.foldl_toList,Array.toList_zipIdx]
  have hl:cs'.size=(i0+1+us.length)*k:=by
   rw[<-Array.length_toList,KB];simp only [List.length_append,List.length_take,List.length_drop,Array.length_toList,hk,E3];rw[Nat.add_mul,Nat.add_mul];omega
  obtain⟨r,h1,ad⟩:=KA us (i0+1) cs' (λx ag=>hu x (List.mem_cons_of_mem _ ag)) hl;refine⟨r,h1,?_⟩;rw[ad,KB,List.flatMap_cons,<-List.append_assoc];congr 1;have hle:(cs.toList.take (i0*k)++u.cells.toList).length=(i0+1)*k:=by
   simp only [List.length_append,List.length_take,Array.length_toList,hk,E3];rw[Nat.add_mul];omega
  rw[List.take_append_of_le_length (Nat.le_of_eq hle.symm),List.take_of_length_le (Nat.le_of_eq hle)]
theorem KC (env:List I) (n:Nat):∀l:List I,(fh env n l).length=l.length
 |[]=>rfl
 |_::r=>by unfold fh;rw[List.length_cons,List.length_cons,KC env n r]
theorem KD {α:Type} {k:Nat} {enc:α->List I} (hk:∀x,(enc x).length=k):∀(us:List I) (l:List α),us.map Value.cells=l.map (λy=>⟨enc y⟩)->(∀u∈us,u.cells.size=k)/\us.flatMap (λu=>u.cells.toList)=l.flatMap enc/\us.length=l.length
 |[],[],_=>⟨(λu hu=>by cases hu),rfl,rfl⟩
 |u::us,y::l,h=>by
  simp only [List.map_cons,List.cons.injEq] at h;obtain⟨h1,ad,al⟩:=KD hk us l h.2;refine⟨λv aw=> ?_,by rw[List.flatMap_cons,List.flatMap_cons,ad,h.1],by rw[List.length_cons,List.length_cons,al]⟩;rcases List.mem_cons.1 aw with rfl|aw
  ·rw[h.1];simpa using hk y
  ·exact h1 v aw
theorem KE [aX] {N:Nat} {ds:List Deferred} {φ:bn} {sl:bh} {a:Act} (h:et N ds φ sl a):∀(ps:List (Nat×Operand)),er (ps.map λp=>dh .nil sl p.2)=true->ps.map (λp=>a.eval p.2)=e9 (ps.map λp=>dh .nil sl p.2)
 |[],_=>rfl
 |p::r,hp=>by
  have oi:(aF (dh .nil sl p.2)&&er (r.map λp=>dh .nil sl p.2))=true:=hp;rw[b4] at oi;rw[List.map_cons,List.map_cons];show _=aK (dh .nil sl p.2)::e9 (r.map λp=>dh .nil sl p.2);rw[<-KE h r oi.2,ar.gW _ oi.1 (fy (hg φ) h.get p.2)]
theorem Sv [cX] {α:Type} {P:aC} {N B:Nat} {w0:aj} {Q:Exit->Act->aj->Prop} {M:Mem} {bp:List I} {o:Option bT} {t e:az} {k:Nat} {z dk:I} {xs us:List I} {enc:α->List I} {l:List α} {vals2:Option Addr->Nat->List I} {dB e6:bh} {aQ:List cm} {bx:dM}
  (h:E2 o=some (t,xs)) (aE:P.underlying t=some (.slice e)) (mX:aP P (sizeOf e)=some k) (EM:aP P (zeroValue e)=some z) (fU:0<k) (mS:k<=1000) (hk:∀x,(enc x).length=k)
  (cv:gp (dA o) dB aQ=some bx) (dx:hE N dB (hN o) dk=some e6) (fu:aF dk=true) (ag:er xs=true) (ex: @e9 (a' M bp) xs=us) (hu:us.map Value.cells=l.map λy=>⟨enc y⟩)
  (hm:∀M' a c,fo (a' M bp) (a' M' (vals2 a c)) bx) (aw:∀M' a c,@aK (a' M' (vals2 a c)) dk= .slice a l.length c)
  (rest:∀M' a c,di B M' e k enc (.slice a l.length c) l->fN M M' none->(∀i,some i=dq (.slice a l.length c)->M i=none)->∀aL w,@Here (a' M' (vals2 a c)) _ N {sl:=e6,ms:=[],A:=gP aQ} B w0 aL w->wpListIn (Fr none) 0 P (jM o) (dz P (jK o) Q) (jL o) aL w)
  (ah:cX.dy<=aQ.length:=by first|exact Nat.zero_le _|exact jX rfl) (ao:ib (dA o).A aQ 0:=by exact fz rfl): @gd (a' M bp) _ P N B w0 Q o:=by
 letI:=a' M bp;unfold E2 at h;split at h
 ·rename_i op r ops s ks
  refine⟨_,rfl,λa w aq=> ?_⟩;split at h
  ·rename_i cq dS ps ct
   cases U:x5 ps 0&&(Nat.beq ps.length dS&&(Nat.blt 0 dS&&Nat.ble dS 1000)) with
   |false=>rw[U] at h;cases h
   |true=>
    rw[U,a7] at h;simp only [b4] at U;obtain⟨eH,fK,km,mO⟩:=U;have fK:=bJ fK;have km:=Nat.blt_eq.mp km;have mO:=Nat.ble_eq.mp mO;split at h
    ·rename_i hh
     cases h;have fE:=aq;obtain⟨⟨φ,ds,h1,ad,al,bb,_⟩,b5,cE⟩:=aq;unfold wpListIn;rw[lf ad.get hh,aR rfl];obtain⟨c1,c2,eN⟩:=KD hk us l hu;have hlen:us.length=dS:=by
      rw[<-ex,Dh,List.length_map,List.length_map,fK]
     have kU:ps.map (λp=>a.eval p.2)=us:=(KE ad ps ag).trans ex;have hw:∀i o,M i=some o->w.heap[i]? =some o:=fE.kT;obtain⟨row,f1,f2⟩:=KA us 0 ((Array.range (dS*k)).map (z.cells[· %z.cells.size]!)) c1 (by rw[Array.size_map,Array.size_range,Nat.zero_add,hlen]);have f2:row.toList=l.flatMap enc:=by rw[f2,Nat.zero_mul,List.take_zero,List.nil_append,c2]
     let w':aj:={w with heap:=w.heap.push (.cells row e)}
     have XK:0<dS*k:=Nat.mul_pos km fU;have XL:dS*k<=1000000:=Nat.le_trans (Nat.mul_le_mul mO mS) cG;have eo:(execOp a.eval op).run P w= .ok (.value (.slice (some ⟨w.heap.size,0,none⟩) dS dS)) w':=by
      unfold execOp;rw[ct];simp only [List.map_toArray];rw[Ky ps 0 eH,kU];have U:(Instr.buildSlice t dS (x6 0 us).toArray).run P w= .ok (.slice (some ⟨w.heap.size,0,none⟩) dS dS) w':=by
       unfold Instr.buildSlice;refine ck (run_underlying aE w) ?_;simp only;refine cb mX ?_;rw[aW af];rw[aW af];refine cb EM ?_;refine cb (a:=z.cells) rfl ?_;simp only [f1];simp [newRow,newObj,Sem.run,w']
      simp only [Sem.run_bind,U,Result.andThen_ok];rfl
     have hi:∀c',op.op≠.defer c':=λc' h=>by rw[ct] at h;cases h
     refine⟨λ_ _=>trivial,?_⟩;rw[Oper.semAt_eq _ _ _ hi,eo,Oper.uponIn_value];obtain⟨q1,aJ⟩:=lZ (B:=B) (M:=M) (w:=w) (w':=w') (T:=none) (ej:=some w.heap.size) hw (λi h=>by cases h) (λi J=> .inr (by cases J;exact bM _)) ⟨rfl,rfl,rfl⟩ (bM _) (by simp [w']) (λi J _=>by
      show (w.heap.push _)[i]? =_
      rw[Array.getElem?_push,aW af])
     have sW:l.length=dS:=eN.symm.trans hlen;have oN:(l.flatMap enc).length=dS*k:=by rw[lY hk l,sW]
     have hO:di B (fw M w' none (some w.heap.size)) e k enc (.slice (some ⟨w.heap.size,0,none⟩) l.length dS) l:=by
      refine .inr ⟨w.heap.size,dS,row,rfl,af,cE,?_,Nat.le_of_eq sW,by simp only [maxLen];omega,by rw[<-Array.length_toList,f2,oN],by rw[f2,sW];exact List.take_of_length_le (Nat.le_of_eq oN)⟩;unfold fw;rw[aR rfl];show (w.heap.push _)[w.heap.size]? =_;rw[Array.getElem?_push,aR rfl]
     have gw:=Here.turns (vals':=vals2 (some ⟨w.heap.size,0,none⟩) dS) cv (hm _ _ _) q1 ah ao fE;letI:=a' (fw M w' none (some w.heap.size)) (vals2 (some ⟨w.heap.size,0,none⟩) dS);have iX:=Here.put (d:=op.dst) gw (v:=dk) fu dx;rw[aw,sW] at iX;refine rest _ _ _ hO aJ (λj hj=> ?_) _ w' iX;rw[jN _ _ af] at hj;cases hj;exact r_ hw (bM _)
    ·cases h
  ·cases h
 ·cases h
end AE
namespace AE
inductive aN where
 |o (f:eZ) (r:I) (m:Nat) (h:List Nat) (k:aN)
 |s (f:eZ) (h:List Nat) (bK b0:aN)
 |c (f:FuncId) (args:List I) (r:I) (m:Nat) (k:aN)
 |cs (f:FuncId) (args:List I) (bK b0:aN)
 |a1 (x:I) (bK b0:aN)
 |sa (x:I) (bK b0:aN) (m:Nat) (k:aN)
 |ret (v:I)
 |back (vs:List I)
 |loop (vs:List I) (m:Nat) (k:aN)
 |cu (k:aN)
 |st (t:az) (p x:I) (k:aN)
 |ic (t:az) (s:I) (c:List I) (k:aN)
 |qY (t:az) (s x:I) (k:aN)
 |mk (t:az) (x:I) (k:aN)
 |lq (c:List I) (m cap:Nat) (k:aN)
 |lt (t:az) (x:I) (k:aN)
 |oT (t:az) (x:I) (k:aN)
 |hT (t:az) (k:aN)
 |call (f:FuncId) (args:List I) (r:I) (m:Nat) (k:aN)
 |no
 |oU (t:az) (xs:List I) (k:aN)
 |alt (bK b0:aN)
 |oR (t:az) (s:I) (c:List I) (k:aN)
 |qZ (t:az) (x:I)
 |sb (t:az) (k:aN)
 |sc (t:az) (m i x:I) (k:aN)
abbrev aN.Sw (x:I) (k:aN):aN:= .a1 x .no k
inductive gy where
 |k (x:hZ) (ks:List fM)
 |ops (r:List Oper) (ops:Array Oper) (ks:List fM)
 |any (a_:Nat) (os:Array Oper) (listed:Array Bool) (ks:List fM)
abbrev gS:=List (eZ×I)
abbrev gY:=List (FuncId×List I×I)
def Sx (P:aC) [Lib P] (F:gS) (T:gY) (N a_ d:Nat) (ks:List fM) (x:hZ) (s:cz):Option bT:= @resume P _ ⟨F⟩ (@qL P _ ⟨F⟩ ⟨T⟩ .nil a_ d) N a_ ks x s
def gy.run (P:aC) [Lib P] (F:gS) (T:gY) (N d:Nat):gy->cz->Option bT
 | .k x ks,s=>Sx P F T N 1000 d ks x s
 | .ops r os ks,s=>Am P F T N 1000 d r os ks s
 | .any ..,_=>none
def gy.Ok (P:aC) (Q:Exit->Act->aj->Prop):gy->Act->aj->Prop
 | .k x ks,a,w=>dz P ks Q x.exit' a w
 | .ops r os ks,a,w=>wpListIn (Fr none) 0 P os (dz P ks Q) r a w
 | .any a_ os listed ks,a,w=>wpAnyIn (Fr none) 0 P .any os (dz P ks Q) a_ listed a w
structure gf where
 sl:bh
 aQ:List cm
 n:Nat
 m:Nat
 ks:List fM
structure x7 where
 n0:List FuncId:=[]
 marks:List az:=[]
 cells:List (Nat×Nat×Nat):=[]
 Sy:List (Nat×Nat):=[]
 Sz:List (Nat×List Nat):=[]
 pW:List (Nat×Bool):=[]
 d:Nat:=0
structure fH extends x7 where
 N:Nat
 fn:Func
def vO (l:List az):gS:=l.map λ(t:Nat)=>bif Nat.beq t 1000000 then (.jw (.bool true),.bool true) else (.jw (.int .i64 (t:Int)),.int .i64 (t:Int))
def dt:Nat->Nat->List I
 |0,_=>[]
 |m+1,n=>bP n::dt m (n+1)
def x8 (P:aC) (t:az) (n:Nat):Option (I×Nat):=
 match aP P (isAgg t) with
 |some true=>match aP P (sizeOf t) with
  |some m=>some (.agg ⟨dt m n⟩,m)
  |none=>none
 |_=>some (bP n,1)
def KF (P:aC):List az->Nat->Option (List I×Nat)
 |[],_=>some ([],0)
 |t::r,n=>match x8 P t n with
  |some (v,m)=>match KF P r (n+m) with
   |some (vs,m')=>some (v::vs,m+m')
   |none=>none
  |none=>none
def SA (P:aC) (t:az) (n:Nat):Option (I×Nat):=
 match P.underlying t with
 |some (.tuple bX)=>match KF P bX.toList n with
  |some (vs,m)=>some (.tuple ⟨vs⟩,m)
  |none=>none
 |_=>x8 P t n
def x9 (P:aC) (t:az):Bool:=match P.underlying t with|some .bool=>true|_=>false
def E4 (ops:Array Oper) (d:Option Tmp):Bool:=
 match d with
 |none=>false
 |some d=>ops.any λo=>(match o.guard with
   |some (j,_)=>match ops[j]? with
    |some o'=>match o'.dst with
     |some t=>Nat.beq t d
     |none=>false
    |none=>false
   |none=>false)||(match o.op with
   | .pick (.tmp t) _ _=>Nat.beq t d
   |_=>false)
def SB:BinOp->Bool
 | .eql| .neq| .lss| .leq| .gtr| .geq=>true
 |_=>false
def KG (P:aC) (t:az):az:=match P.underlying t with
 |some (.array _ e)=>e
 |some (.slice e)=>e
 |some (.map _ e)=>e
 |_=>0
def KH (P:aC) (n:Nat):eZ->Option (I×Nat×Bool)
 | .bin op _ _ _=>some (bP n,1,SB op)
 | .un op _=>some (bP n,1,decide (op= .not))
 | .ld t _=>(x8 P t n).map λx=>(x.1,x.2,x9 P t)
 | .ei t _ _=>match P.underlying t with
   |some (.array _ e)=>(x8 P e n).map λx=>(x.1,x.2,x9 P e)
   |_=>some (bP n,1,false)
 | .ov t _ _ ok=>(x8 P (KG P t) n).map λx=>bif ok then (.tuple #[x.1,bP (n+x.2)],x.2+1,false) else (x.1,x.2,x9 P (KG P t))
 | .jw _=>none
 |_=>some (bP n,1,false)
def KI (P:aC):eZ->List Nat
 | .hJ t _ f=>match (P.fieldsOf t)[f]? with
   |some fD=>[fD.offset,fD.type,(aP P (sizeOf fD.type)).getD 0]
   |none=>[]
 | .ca t _ _=>match P.underlying t with
   |some (.array n e)=>[1,n,e,(aP P (sizeOf e)).getD 0]
   |some (.slice e)=>[0,e,(aP P (sizeOf e)).getD 0]
   |_=>[]
 | .ld t _=>[(aP P (sizeOf t)).getD 0]
 | .ei t _ _=>match P.underlying t with
   |some (.array n e)=>[1,n,e,(aP P (sizeOf e)).getD 0]
   |some .string=>[2]
   |_=>[]
 | .h_ t _ _ _ _=>match P.underlying t with
   |some (.array n e)=>[1,n,e,(aP P (sizeOf e)).getD 0]
   |some (.slice e)=>[0,e,(aP P (sizeOf e)).getD 0]
   |some .string=>[2]
   |_=>[]
 | .len bX _ _=>match P.underlying (bX.getD 0 0) with
   |some (.slice e)=>[0,e]
   |some .string=>[2]
   |_=>[]
 |_=>[]
def mB (P:aC) (ops:Array Oper) (o:Oper) (sl:bh) (n:Nat):Option (eZ×I×Nat×Bool):=
 match lP (dh .nil sl) o with
 |some f=>bif kR f&&oV n f then match KH P n f with
   |some (r,m,b)=>some (f,r,m,b&&E4 ops o.dst)
   |none=>none
  else none
 |none=>none
where
 vP (n:Nat):Option I->Bool
  |none=>true
  |some v=>ho n v
 oV (n:Nat):eZ->Bool
  | .bin _ _ x y| .ca _ x y| .ei _ x y| .ep _ _ x y| .lb _ _ x y| .ov _ x y _=>ho n x&&ho n y
  | .un _ x| .jw x| .conv _ _ x| .ld _ x| .hJ _ x _| .mq x| .len _ _ x=>ho n x
  | .h_ _ x e7 J ep=>ho n x&&(vP n e7&&(vP n J&&vP n ep))
def E5 (P:aC) [Lib P] (o:Option bT) (ty:az) (n:Nat):Option (FuncId×List I×I×Nat):=
 match r8 P o with
 |some (f,args,_)=>bif er args&&j_ n args then match SA P ty n with
   |some (r,m)=>some (f,args,r,m)
   |none=>none
  else none
 |none=>none
def bB.AR (f:I->I):bB I->bB I
 | .nil=> .nil
 | .node v l r=> .node (v.map f) (l.AR f) (r.AR f)
def jQ (n:Nat) (bx:dM):Prop:=∀p∈bx,p.1=p.2/\ho n p.1=true
mutual
def okV (n m:Nat):I->Bool
 | .pointer (some ⟨b,_,none⟩)=>Nat.blt b n
 | .slice (some ⟨b,_,none⟩) _ _=>Nat.blt b n
 | .agg ⟨l⟩=>tL n m l
 | .func (.func _) ⟨l⟩ ⟨k⟩=>tL n m l&&tL n m k
 | .func (.yield b) ⟨[]⟩ ⟨[]⟩=>Nat.blt b n
 |v=>qN v||(aF v&&ho m v)
def tL (n m:Nat):List I->Bool
 |[]=>true
 |v::r=>okV n m v&&tL n m r
end
def i_ (n m:Nat):bB I->bB I
 | .nil=> .nil
 | .node none l r=> .node none (i_ n m l) (i_ n m r)
 | .node (some v) l r=>bif okV n m v then .node (some v) (i_ n m l) (i_ n m r) else .node none (i_ n m l) (i_ n m r)
def KJ (A:aD) (i:Nat):Option cm:=match A.bl.get i with
 |some k=>some ⟨k.obj,k.ty,k.da⟩
 |none=>none
def l7 (A:aD):Nat->Nat->List cm
 |0,_=>[]
 |m+1,i=>match KJ A i with
  |some b=>b::l7 A m (i+1)
  |none=>[]
def sd (s:cz):List cm:=l7 s.A s.A.n 0
def se (m:Nat) (s:cz):bh×List cm:=(i_ (sd s).length m s.sl,sd s)
def AS (n:Nat) (bx:dM):Bool:=bx.all λp=>dW p.1 p.2&&ho n p.1
def E6 (n m:Nat):lG->Bool
 | .cells c=>tL n m c
 | .dE .deferred=>true
 | .dE .gone=>true
 |_=>false
def vQ (n m:Nat):List cm->Bool
 |[]=>true
 |b::r=>E6 n m b.obj&&vQ n m r
def mC (m:Nat) (aQ:List cm):Bool:=ts aQ&&vQ aQ.length m aQ
def AT (A:aD):List cm->Nat->Bool
 |[],_=>true
 |_::r,i=>(match A.bl.get i with|some k=>Nat.beq k.bQ i&& !k.ro|none=>false)&&AT A r (i+1)
def sf (s:cz):Bool:=(match s.ms with|[]=>true|_=>false)&&AT s.A (sd s) 0
def sg (n:Nat) (s:cz) (sl:bh) (aQ:List cm):Prop:=∃bx,gp s sl aQ=some bx/\jQ n bx/\lk aQ=true
mutual
def E7 (v u:I):I->I
 | .agg ⟨l⟩=> .agg ⟨x_ v u l⟩
 | .func (.func f) ⟨a⟩ ⟨b⟩=> .func (.func f) ⟨x_ v u a⟩ ⟨x_ v u b⟩
 |x=>bif dW x v then u else x
def x_ (v u:I):List I->List I
 |[]=>[]
 |x::r=>E7 v u x::x_ v u r
end
def SC (v u:I):lG->lG
 | .cells c=> .cells (x_ v u c)
 |x=>x
def SD (v u:I) (b:cm):cm:={b with obj:=SC v u b.obj}
def KK (n:Nat) (v u:I) (bx:dM):Bool:=bx.all λp=>(dW p.1 p.2&&ho n p.1)||(dW p.1 v&&dW p.2 u)
def n1 (n:Nat) (v u:I) (s:cz) (sl:bh) (aQ:List cm):Bool:=(match gp s sl aQ with|some bx=>KK n v u bx|none=>false)&&lk aQ
def SE (t:Nat) (ops:Array Oper):Bool:=ops.any λo=>match o.dst with|some d=>Nat.beq d t|none=>false
def q0 (t:Nat):Code->Bool
 | .region _ ops _=>SE t ops
 | .seq a b=>q0 t a||q0 t b
 | .cond _ a b=>q0 t a||q0 t b
 | .block _ b=>q0 t b
 | .loop b=>q0 t b
 | .rangeFunc _ ps a b=>ps.any (λd=>Nat.beq d t)||q0 t a||q0 t b
 |_=>false
mutual
def KL (n:Nat):I->Option (I×List I)
 | .agg ⟨l⟩=>match KM n l with
   |some (l',vs)=>some (.agg ⟨l'⟩,vs)
   |none=>none
 |v=>bif aF v then some (bP n,[v]) else none
def KM (n:Nat):List I->Option (List I×List I)
 |[]=>some ([],[])
 |v::r=>match KL n v with
  |some (au,vs)=>match KM (n+vs.length) r with
   |some (cR,us)=>some (au::cR,vs++us)
   |none=>none
  |none=>none
end
def AU (c:Code):Nat->Nat->bB I->Nat->Option (bB I×List I)
 |_,_,.nil,_=>some (.nil,[])
 |pos,AV,.node v l r,n=>
  match (match v with
   |none=>some (none,[])
   |some x=>bif q0 pos c then (match KL n x with|some (x',vs)=>some (some x',vs)|none=>some (none,[])) else some (some x,[])) with
  |none=>none
  |some (au,vs)=>match AU c (pos+AV) (2*AV) l (n+vs.length) with
   |none=>none
   |some (l',us)=>match AU c (pos+2*AV) (2*AV) r (n+vs.length+us.length) with
    |none=>none
    |some (cR,vI)=>some (.node au l' cR,vs++us++vI)
def E8 (id:Nat) (cells:List (Nat×Nat×Nat)) (b:Nat):Nat->Nat->List I->List I×List I
 |_,_,[]=>([],[])
 |i,n,v::r=>bif cells.any (λp=>Nat.beq p.1 id&&(Nat.beq p.2.1 b&&Nat.beq p.2.2 i)) then
    let q:=E8 id cells b (i+1) (n+1) r
    (bP n::q.1,v::q.2)
  else
   let q:=E8 id cells b (i+1) n r
   (v::q.1,q.2)
def ya (id:Nat) (cells:List (Nat×Nat×Nat)):Nat->Nat->List cm->List cm×List I
 |_,_,[]=>([],[])
 |b,n,k::r=>match k.obj with
  | .cells c=>
    let q:=E8 id cells b 0 n c
    let aJ:=ya id cells (b+1) (n+q.2.length) r
    ({k with obj:= .cells q.1}::aJ.1,q.2++aJ.2)
  |_=>let aJ:=ya id cells (b+1) n r
   (k::aJ.1,aJ.2)
def AW:List fM->Nat
 | .pT id::_=>id
 |_::ks=>AW ks
 |[]=>0
def vR (N id:Nat):List (Nat×Nat×Nat)->Nat->bh->bh×List I
 |[],_,sl=>(sl,[])
 |p::r,n,sl=>bif Nat.beq p.1 id&&Nat.beq p.2.1 1000000 then (match sl.get p.2.2 with
   |some v=>bif aF v then (match hE N sl (some p.2.2) (bP n) with
     |some cW=>let q:=vR N id r (n+1) cW
      (q.1,v::q.2)
     |none=>vR N id r n sl) else vR N id r n sl
   |none=>vR N id r n sl) else vR N id r n sl
def SF (cf:fH) (body:Code) (ks:List fM) (s:cz) (n:Nat):Option (bh×List cm×List I):=
 let q:=se n s
 match AU body 0 1 q.1 n with
 |none=>none
 |some (sl,vs)=>let cg:=vR cf.N (AW ks) cf.cells (n+vs.length) sl
  let aJ:=ya (AW ks) cf.cells 0 (n+vs.length+cg.2.length) q.2
  some (cg.1,aJ.1,vs++(cg.2++aJ.2))
def KN (n:Nat) (vs:List I) (p:I×I):Bool:=(dW p.1 p.2&&ho n p.1)||(match p.2 with
 | .complex .f64 k 0=>Nat.ble n k&&(Nat.blt k cP&&match vs[k-n]? with|some v=>dW v p.1|none=>false)
 |_=>false)
def vS (n:Nat) (vs:List I) (bx:dM):Bool:=bx.all (KN n vs)
def KO (k:Nat):dM->Option I
 |[]=>none
 |p::r=>bif dW p.2 (bP k) then some p.1 else KO k r
def AX (bx:dM):Nat->Nat->List I
 |0,_=>[]
 |m+1,n=>(match KO n bx with|some v=>v|none=>bP n)::AX bx m (n+1)
def elemOf (P:aC) (t:az):Option az:=match P.underlying t with|some (.slice e)=>some e|_=>none
def q2:Option bT->az
 |some (.oper o _ _ _ _)=>match o.op with
  | .call c=>c.argTypes.getD 0 0
  |_=>0
 |_=>0
def SG:Option bT->az
 |some (.oper o _ _ _ _)=>o.type
 |_=>0
def mD (N n:Nat) (s:cz) (dst:Option Tmp) (r:I):Option (bh×List cm):=
 let q:=se n s
 bif Nat.blt n cP&&(sf s&&mC n q.2) then match hE N q.1 dst r with
  |some sl=>some (sl,q.2)
  |none=>none
 else none
def KP (o:Option bT):gy:= .ops (jL o) (jM o) (jK o)
def KQ:Option bT->Option I
 |some (.oper op _ os s _)=>match op.guard with
  |some (j,_)=>match os[j]? with
   |some o'=>match o'.dst with
    |some t=>match s.sl.get t with
     |some (.complex .f64 k 0)=>some (bP k)
     |_=>none
    |none=>none
   |none=>none
  |none=>match op.op with
   | .pick c _ _=>match dh .nil s.sl c with
     | .complex .f64 k 0=>some (bP k)
     |_=>none
   |_=>none
 |_=>none
abbrev gI:=(aN->aN)×bh×List cm×Nat
def E9 (cf:fH) (n:Nat) (o:Option bT):Option gI:=match qR o with
 |some (t,p,x)=>bif aF p&&aF x then (mD cf.N n (dA o) (hN o) undef).map λq=>(aN.st t p x,q.1,q.2,0) else none
 |none=>none
def E' (P:aC) (t:az):Nat:=match elemOf P t with
 |some e=>match aP P (sizeOf e) with
  |some k=>k
  |none=>0
 |none=>0
def E_ (P:aC) (cf:fH) (n:Nat) (o:Option bT):Option gI:=match vA (q2 o) o with
 |some (v,x)=>bif aF v then match Ao (dA o).A (E' P (q2 o)) x with
   |some c=>bif er c then (mD cf.N n (dA o) (hN o) (bP n)).map λq=>(aN.ic (q2 o) v c,q.1,q.2,1) else none
   |none=>none
  else none
 |none=>none
def Fa (cf:fH) (n:Nat) (o:Option bT):Option gI:=match vA (q2 o) o with
 |some (v,x)=>bif aF v&&aF x then (mD cf.N n (dA o) (hN o) (bP n)).map λq=>(aN.qY (q2 o) v x,q.1,q.2,1) else none
 |none=>none
def Fb (cf:fH) (n:Nat) (o:Option bT):Option gI:=match EN o with
 |some (t,x)=>bif aF x then (mD cf.N n (dA o) (hN o) (bP n)).map λq=>(aN.mk t x,q.1,q.2,1) else none
 |none=>none
def Fc (cf:fH) (n:Nat) (o:Option bT):Option gI:=match EL o with
 |some (t,x)=>bif aF x then (mD cf.N n (dA o) (hN o) (bP n)).map λq=>(aN.lt t x,q.1,q.2,1) else none
 |none=>none
def Fe (cf:fH) (n:Nat) (o:Option bT):Option gI:=match E2 o with
 |some (t,xs)=>bif er xs then (mD cf.N n (dA o) (hN o) (bP n)).map λq=>(aN.oU t xs,q.1,q.2,1) else none
 |none=>none
def SH:Option bT->az
 |some (.oper o _ _ _ _)=>match o.op with
  | .call c=>c.argTypes.getD 1 0
  |_=>0
 |_=>0
def Ff (cf:fH) (n:Nat) (o:Option bT):Option gI:=match cpyOf (q2 o) (SH o) o with
 |some (v,x)=>bif aF v then match Ao (dA o).A 1 x with
   |some c=>bif er c then (mD cf.N n (dA o) (hN o) (.int .i64 c.length)).map λq=>(aN.oR (q2 o) v c,q.1,q.2,0) else none
   |none=>none
  else none
 |none=>none
def Fg (cf:fH) (n:Nat) (o:Option bT):Option gI:=match Ez o with
 |some (t,x)=>bif aF x then (mD cf.N n (dA o) (hN o) (bP n)).map λq=>(aN.oT t x,q.1,q.2,1) else none
 |none=>none
def Fh (cf:fH) (n:Nat) (o:Option bT):Option gI:=match Ew o with
 |some t=>(mD cf.N n (dA o) (hN o) (bP n)).map λq=>(aN.hT t,q.1,q.2,1)
 |none=>none
def Fi (cf:fH) (n:Nat) (o:Option bT):Option gI:=match Eu o with
 |some t=>(mD cf.N n (dA o) (hN o) (bP n)).map λq=>(aN.sb t,q.1,q.2,1)
 |none=>none
def Fj (cf:fH) (n:Nat) (o:Option bT):Option gI:=match Ev o with
 |some (t,m,i,x)=>bif aF m&&(aF i&&aF x) then (mD cf.N n (dA o) (hN o) undef).map λq=>(aN.sc t m i x,q.1,q.2,0) else none
 |none=>none
def Fk (P:aC) [Lib P] (cf:fH) (n:Nat) (o:Option bT):Option gI:=match E5 P o (SG o) n with
 |some (f,args,r,m)=>bif aF r&&(j_ n args&&er args) then (mD cf.N n (qS P o) (hN o) r).map λq=>(aN.call f args r m,q.1,q.2,m) else none
 |none=>none
def SI:Option bT->Option (Nat×Nat)
 |some (.oper op _ _ s _)=>match op.op with
  | .call c=>match c.callee with
    | .value _=>c.args.toList.findSome? λx=>match x with
      | .tmp t=>match s.sl.get t with
        |some (.slice (some ⟨b,0,none⟩) _ _)=>some (t,b)
        |_=>none
      |_=>none
    |_=>none
  |_=>none
 |_=>none
def tM (n:Nat) (o:Option bT):Option gI:=match SI o with
 |some (t,b)=>match AA o b t with
  |some (cs,m,c)=>match gp (dA o) (i_ (l7 (dA o).A b 0).length n (dA o).sl) (l7 (dA o).A b 0) with
   |some bx=>bif AS n bx&&(lk (l7 (dA o).A b 0)&&(er cs&&(Nat.blt n cP&&(Nat.ble (l7 (dA o).A b 0).length b&&(Nat.blt 0 m&&Nat.ble m c))))) then
     (bB.set (bP n) depth (i_ (l7 (dA o).A b 0).length n (dA o).sl) t).map λsl=>(aN.lq cs m c,sl,l7 (dA o).A b 0,1)
    else none
   |none=>none
  |none=>none
 |none=>none
def nm (a b:Option gI):Option gI:=match a with
 |some x=>some x
 |none=>b
def AY (P:aC) [Lib P] (cf:fH) (n:Nat) (o:Option bT):Option gI:=
 nm (E9 cf n o) (nm (E_ P cf n o) (nm (Fa cf n o) (nm (Fb cf n o) (nm (Fc cf n o) (nm (Fe cf n o) (nm (Ff cf n o) (nm (Fg cf n o) (nm (Fh cf n o) (nm (Fi cf n o) (nm (Fj cf n o) (Fk P cf n o)))))))))))
abbrev gA:=Nat->List gf->gy->Nat->bh->List cm->gS->gY->Option bT->Option aN
def Fl (P:aC) [Lib P] (cf:fH) (n:Nat) (q:Option bT):Option (Sum (eZ×I×Nat×Bool) (FuncId×List I×I×Nat×Bool)):=
 match q with
 |some (.oper op _ os s _)=>match lR os op s.sl with
  |some true=>match mB P os op s.sl n with
   |some x=>some (.inl x)
   |none=>match E5 P q op.type n with
    |some (f,args,r,m)=>bif cf.n0.contains f then none else some (.inr (f,args,r,m,x9 P op.type&&E4 os op.dst))
    |none=>none
  |_=>none
 |_=>none
def KR (P:aC) [Lib P] (cf:fH) (F:gS) (T:gY):Option bT->Option bT
 |some (.oper op r os s ks)=>Am P F T cf.N 1000 cf.d (op::r) os ks s
 |_=>none
section
variable {β:Type}
def kz (n:Nat) (k:Nat->β):β:=match n with
 |0=>k 0
 |m+1=>k (m+1)
def lr {α:Type} (f:α->(α->β)->β):List α->(List α->β)->β
 |[],k=>k []
 |v::l,k=>f v λau=>lr f l λl'=>k (au::l')
def yb {α:Type} (f:α->(α->β)->β):Option α->(Option α->β)->β
 |none,k=>k none
 |some a,k=>f a λaL=>k (some aL)
def Fm (a:Addr) (k:Addr->β):β:=match a with
 |⟨b,o,m⟩=>kz b λb'=>kz o λo'=>yb (λx k=>k x) m λm'=>k ⟨b',o',m'⟩
def KS (i:Int) (k:Int->β):β:=match i with
 | .ofNat n=>kz n λdS=>k (.ofNat dS)
 | .negSucc n=>kz n λdS=>k (.negSucc dS)
def AZ (b:Bool) (k:Bool->β):β:=match b with
 |true=>k true
 |false=>k false
def tN:Nat->I->(I->β)->β
 |0=>λv k=>k v
 |d+1=>λv k=>match v with
  | .bool b=>AZ b λb'=>k (.bool b')
  | .agg ⟨l⟩=>lr (tN d) l λl'=>k (.agg ⟨l'⟩)
  | .complex t x y=>kz x λx'=>kz y λd_=>k (.complex t x' d_)
  | .int t i=>KS i λj1=>k (.int t j1)
  | .pointer p=>yb Fm p λp'=>k (.pointer p')
  | .slice p n c=>yb Fm p λp'=>kz n λdS=>kz c λc'=>k (.slice p' dS c')
  |v=>k v
def A0:bB I->(bB I->β)->β
 | .nil,k=>k .nil
 | .node none l r,k=>A0 l λl'=>A0 r λcR=>k (.node none l' cR)
 | .node (some v) l r,k=>tN 3 v λau=>A0 l λl'=>A0 r λcR=>k (.node (some au) l' cR)
def KT (b:cm) (k:cm->β):β:=match b with
 |⟨.cells l,t,m⟩=>kz t λcq=>kz m λm'=>lr (tN 3) l λl'=>k ⟨.cells l',cq,m'⟩
 |⟨.map es c,t,m⟩=>k ⟨.map es c,t,m⟩
 |⟨.dE x,t,m⟩=>k ⟨.dE x,t,m⟩
def vT (x:fM) (k:fM->β):β:=match x with
 | .jm y=>k (.jm y)
 | .pT i=>k (.pT i)
 | .nW c m=>kz m λm'=>k (.nW c m')
def A1 {α:Type} (f:α->(α->β)->β) (a:Array α) (k:Array α->β):β:=match a with
 |⟨l⟩=>lr f l λl'=>k ⟨l'⟩
def KU:gy->(gy->β)->β
 | .k x ks,k=>lr vT ks λtO=>k (.k x tO)
 | .ops r os ks,k=>lr (λx k=>k x) r λcR=>A1 (λx k=>k x) os λSJ=>lr vT ks λtO=>k (.ops cR SJ tO)
 | .any f os l ks,k=>kz f λgL=>A1 AZ l λl'=>lr vT ks λtO=>k (.any gL os l' tO)
theorem nn (n:Nat) (k:Nat->β):kz n k=k n:=by cases n<;>rfl
theorem q3 {α:Type} {f:α->(α->β)->β} (aB:∀v k,f v k=k v):∀(l:List α) (k:List α->β),lr f l k=k l
 |[],k=>rfl
 |v::l,k=>by
  show f v (λau=>lr f l λl'=>k (au::l'))=_;rw[aB,q3 aB l]
theorem Fo {α:Type} {f:α->(α->β)->β} (aB:∀v k,f v k=k v) (o:Option α) (k:Option α->β):yb f o k=k o:=by
 cases o with
 |none=>rfl
 |some a=>exact aB a λaL=>k (some aL)
theorem KV (a:Addr) (k:Addr->β):Fm a k=k a:=by
 obtain⟨b,o,m⟩:=a;show kz b (λb'=>kz o λo'=>yb (λx k=>k x) m λm'=>k ⟨b',o',m'⟩)=_;rw[nn,nn,Fo λ_ _=>rfl]
theorem SK (i:Int) (k:Int->β):KS i k=k i:=by
 cases i with
 |ofNat n=>exact nn n λdS=>k (.ofNat dS)
 |negSucc n=>exact nn n λdS=>k (.negSucc dS)
theorem KW (b:Bool) (k:Bool->β):AZ b k=k b:=by cases b<;>rfl
theorem Fp:∀(d:Nat) (v:I) (k:I->β),tN d v k=k v
 |0,v,k=>rfl
 |d+1,v,k=>by
  unfold tN;split
  ·rw[KW]
  ·rw[q3 (Fp d)]
  ·rw[nn,nn]
  ·rw[SK]
  ·rw[Fo KV]
  ·rw[Fo KV,nn,nn]
  ·rfl
theorem SL (b:cm) (k:cm->β):KT b k=k b:=by
 obtain⟨o,t,m⟩:=b;cases o with
 |cells l=>
  show kz t (λcq=>kz m λm'=>lr (tN 3) l λl'=>k ⟨.cells l',cq,m'⟩)=_;rw[nn,nn,q3 (Fp 3)]
 |map es c=>rfl
 |dE x=>rfl
theorem Fq (x:fM) (k:fM->β):vT x k=k x:=by
 cases x with
 |nW c m=>exact nn m λm'=>k (.nW c m')
 |_=>rfl
theorem KX {α:Type} {f:α->(α->β)->β} (aB:∀v k,f v k=k v) (a:Array α) (k:Array α->β):A1 f a k=k a:=by
 obtain⟨l⟩:=a;show lr f l (λl'=>k ⟨l'⟩)=_;rw[q3 aB]
theorem SM (p:gy) (k:gy->β):KU p k=k p:=by
 cases p with
 |k x ks=>
  show lr vT ks _=_;rw[q3 Fq]
 |ops r os ks=>
  show lr (λx k=>k x) r _=_;rw[q3 (λ_ _=>rfl),KX (λ_ _=>rfl),q3 Fq]
 |any f os l ks=>
  refine(nn f λgL=>A1 AZ l λl'=>lr vT ks λtO=>k (.any gL os l' tO)).trans ?_;rw[KX KW,q3 Fq]
end
section
variable {β:Type}
def oW (n m:Nat):bB I->(bB I->β)->β
 | .nil,k=>k .nil
 | .node none l r,k=>oW n m l λl'=>oW n m r λcR=>k (.node none l' cR)
 | .node (some v) l r,k=>bif okV n m v then tN 3 v λau=>oW n m l λl'=>oW n m r λcR=>k (.node (some au) l' cR) else oW n m l λl'=>oW n m r λcR=>k (.node none l' cR)
theorem tP (n m:Nat):∀(t:bB I) (k:bB I->β),oW n m t k=k (i_ n m t)
 | .nil,k=>rfl
 | .node none l r,k=>by
   show oW n m l (λl'=>oW n m r λcR=>k (.node none l' cR))=_;rw[tP n m l,tP n m r];rfl
 | .node (some v) l r,k=>by
   unfold oW i_;cases okV n m v with
   |true=>rw[a7,a7,Fp,tP n m l,tP n m r]
   |false=>rw[cV,cV,tP n m l,tP n m r]
end
def yc (bL:gA) (n:Nat) (cs:List gf) (pl:gy) (F:gS) (T:gY) (sl:bh) (aQ:List cm) (go:gy->bh->List cm->Option bT):Option aN:=
 kz n λn=>lr KT aQ λaQ=>bif mC n aQ then KU pl λpl=>oW aQ.length n sl λsl=>bL n cs pl n sl aQ F T (go pl sl aQ) else none
theorem SN (bL:gA) (n:Nat) (cs:List gf) (pl:gy) (F:gS) (T:gY) (sl:bh) (aQ:List cm) (go:gy->bh->List cm->Option bT):yc bL n cs pl F T sl aQ go=bif mC n aQ then bL n cs pl n (i_ aQ.length n sl) aQ F T (go pl (i_ aQ.length n sl) aQ) else none:=by
 unfold yc;rw[nn,q3 SL,SM,tP]
def l8 (P:aC) [Lib P] (cf:fH) (bL:gA) (n:Nat) (cs:List gf) (pl:gy) (sl:bh) (aQ:List cm):Option aN:=
 yc bL n cs pl (vO cf.marks) [] sl aQ λpl sl aQ=>pl.run P (vO cf.marks) [] cf.N cf.d (hP sl aQ)
def A2 (P:aC) [Lib P] (cf:fH) (bL:gA) (n:Nat) (cs:List gf) (pl:gy) (s:cz):Option aN:=bif sf s then l8 P cf bL n cs pl s.sl (sd s) else none
def two (a b:Option aN) (f:aN->aN->aN):Option aN:=match a with
 |some x=>match b with
  |some y=>some (f x y)
  |none=>none
 |none=>none
def yd (P:aC) (bL:gA) (n:Nat) (cs:List gf) (pl:gy) (dy:Nat) (sl:bh) (aQ:List cm) (F:gS) (T:gY) (go:gS->Option bT):eZ×I×Nat×Bool->Option aN
 |(f,r,m,b)=>bif mB.oV n f then
    bif b then two (bL n cs pl dy sl aQ (F++[(f,.bool true)]) T (go [(f,.bool true)])) (bL n cs pl dy sl aQ (F++[(f,.bool false)]) T (go [(f,.bool false)])) (aN.s f (KI P f))
    else bif ho (n+m) r then (bL (n+m) cs pl dy sl aQ (F++[(f,r)]) T (go [(f,r)])).map (aN.o f r m (KI P f)) else none
  else none
def ye (bL:gA) (n:Nat) (cs:List gf) (pl:gy) (dy:Nat) (sl:bh) (aQ:List cm) (F:gS) (T:gY) (go:gY->Option bT):FuncId×List I×I×Nat×Bool->Option aN
 |(f,args,r,m,b)=>bif j_ n args&&er args then
    bif b then two (bL n cs pl dy sl aQ F (T++[(f,args,.bool true)]) (go [(f,args,.bool true)])) (bL n cs pl dy sl aQ F (T++[(f,args,.bool false)]) (go [(f,args,.bool false)])) (aN.cs f args)
    else bif ho (n+m) r&&aF r then (bL (n+m) cs pl dy sl aQ F (T++[(f,args,r)]) (go [(f,args,r)])).map (aN.c f args r m) else none
  else none
def Fs (P:aC) [Lib P] (cf:fH) (bL:gA) (n:Nat) (cs:List gf) (x:hZ) (s:cz):Option aN:=match cs with
 |[]=>match Ak P cf.fn (some (.done x s)) with
  |some v=>some (.ret v)
  |none=>match endCell cf.fn (some (.done x s)) with
   |some (t,x)=>bif aF x then some (.qZ t x) else none
   |none=>none
 |c::cs'=>match x with
  | .normal=>match gp s c.sl c.aQ with
    |some bx=>bif vS c.n (AX bx c.m c.n) bx&&lk c.aQ then some (.back (AX bx c.m c.n)) else none
    |none=>none
  |x=>(A2 P cf bL n cs' (.k x c.ks) s).map aN.cu
def SO (cf:fH) (ks:List fM):Option Nat:=(cf.Sy.find? λp=>Nat.beq p.1 (AW ks)).map (·.2)
def Ft (P:aC) [Lib P] (cf:fH) (bL:gA) (n:Nat) (cs:List gf) (body:Code) (s:cz) (ks:List fM):Option aN:=
 match SO cf ks with
 |some m=>A2 P cf bL n cs (.k .normal (.nW body m::ks)) s
 |none=>match SF cf body ks s n with
 |some (kW,ka,vs)=>match gp s kW ka with
  |some bx=>bif vS n vs bx&&lk ka then (l8 P cf bL (n+vs.length) (⟨kW,ka,n,vs.length,ks⟩::cs) (.k .normal [.jm body]) kW ka).map (aN.loop vs vs.length) else none
  |none=>none
 |none=>none
def KY (n:Nat):List Nat->bh->Option bh
 |[],sl=>some sl
 |t::r,sl=>match bB.set (bP n) depth sl t with
  |some cW=>KY (n+1) r cW
  |none=>none
def SP (cf:fH) (c:Operand) (x y:Code) (s:cz) (n:Nat):Option (bh×List cm×Nat):=match c with
 | .tmp t=>match cf.Sz.find? λp=>Nat.beq p.1 t with
   |some (_,ext)=>match AU (.seq x y) 0 1 ((se n s).1.AR (E7 (dh .nil s.sl c) cC)) n with
    |none=>none
    |some (sl,vs)=>match KY (n+vs.length) ext sl with
     |none=>none
     |some dB=>some (dB,(ya (1000+t) cf.cells 0 (n+vs.length+ext.length) (se n s).2).1,vs.length+ext.length+(ya (1000+t) cf.cells 0 (n+vs.length+ext.length) (se n s).2).2.length)
   |none=>none
 |_=>none
def hF (n:Nat) (v u:I) (s:cz):bh×List cm:=((se n s).1.AR (E7 v u),(se n s).2.map (SD v u))
def Fu (a b:List Nat):Bool:=decide (a=b)
def gN:aN->aN->Bool
 | .o f r m h k,.o gL cR m' gD k'=>u0 f gL&&(dW r cR&&(Nat.beq m m'&&(Fu h gD&&gN k k')))
 | .s f h bK b0,.s gL gD og q4=>u0 f gL&&(Fu h gD&&(gN bK og&&gN b0 q4))
 | .c f a r m k,.c gL aL cR m' k'=>Nat.beq f gL&&(jG a aL&&(dW r cR&&(Nat.beq m m'&&gN k k')))
 | .cs f a bK b0,.cs gL aL og q4=>Nat.beq f gL&&(jG a aL&&(gN bK og&&gN b0 q4))
 | .a1 x bK b0,.a1 x' og q4=>dW x x'&&(gN bK og&&gN b0 q4)
 | .sa x bK b0 m k,.sa x' og q4 m' k'=>dW x x'&&(gN bK og&&(gN b0 q4&&(Nat.beq m m'&&gN k k')))
 | .no,.no=>true
 | .oU t xs k,.oU cq xs' k'=>Nat.beq t cq&&(jG xs xs'&&gN k k')
 | .alt bK b0,.alt og q4=>gN bK og&&gN b0 q4
 | .qZ t x,.qZ cq x'=>Nat.beq t cq&&dW x x'
 | .oR t s c k,.oR cq dp c' k'=>Nat.beq t cq&&(dW s dp&&(jG c c'&&gN k k'))
 | .ret v,.ret au=>dW v au
 | .back vs,.back dH=>jG vs dH
 | .loop vs m k,.loop dH m' k'=>jG vs dH&&(Nat.beq m m'&&gN k k')
 | .cu k,.cu k'=>gN k k'
 | .st t p x k,.st cq p' x' k'=>Nat.beq t cq&&(dW p p'&&(dW x x'&&gN k k'))
 | .ic t s c k,.ic cq dp c' k'=>Nat.beq t cq&&(dW s dp&&(jG c c'&&gN k k'))
 | .qY t s x k,.qY cq dp x' k'=>Nat.beq t cq&&(dW s dp&&(dW x x'&&gN k k'))
 | .mk t x k,.mk cq x' k'=>Nat.beq t cq&&(dW x x'&&gN k k')
 | .lq c m d k,.lq c' m' iS k'=>jG c c'&&(Nat.beq m m'&&(Nat.beq d iS&&gN k k'))
 | .lt t x k,.lt cq x' k'=>Nat.beq t cq&&(dW x x'&&gN k k')
 | .oT t x k,.oT cq x' k'=>Nat.beq t cq&&(dW x x'&&gN k k')
 | .hT t k,.hT cq k'=>Nat.beq t cq&&gN k k'
 | .sb t k,.sb cq k'=>Nat.beq t cq&&gN k k'
 | .sc t m i x k,.sc cq m' j1 x' k'=>Nat.beq t cq&&(dW m m'&&(dW i j1&&(dW x x'&&gN k k')))
 | .call f a r m k,.call gL aL cR m' k'=>Nat.beq f gL&&(jG a aL&&(dW r cR&&(Nat.beq m m'&&gN k k')))
 |_,_=>false
def vU (x:aN):aN->Bool
 | .alt a b=>gN x a||vU x b
 |t=>gN x t
def A3:aN->aN->aN
 | .alt a b,y=>A3 a (A3 b y)
 |x,y=>bif vU x y then y else .alt x y
def A4:List (Option aN)->Option aN
 |[]=>none
 |[a]=>a
 |a::r=>match a,A4 r with
  |some x,some y=>some (A3 x y)
  |_,_=>none
def vV (bL:gA) (n:Nat) (cs:List gf) (pl:gy) (F:gS) (T:gY) (sl:bh) (aQ:List cm):Option aN:=yc bL n cs pl F T sl aQ λ_ _ _=>none
def A5 (bL:gA) (n:Nat) (cs:List gf) (pl:gy) (F:gS) (T:gY) (s:cz):Option aN:=bif sf s then vV bL n cs pl F T s.sl (sd s) else none
def Fv (N:Nat) (os:Array Oper) (sl:bh) (o:Oper):Option Bool:=
 match o.guard with
 |none=>some true
 |some (j,b)=>match e5 os j with
  |some t=>bif Nat.blt t N then match sl.get t with
   |some (.bool b')=>some (b==b')
   |_=>none else none
  |none=>none
def Fw (P:aC) [c0 P] (a8:Operand->I) (o:Oper):Option I:=
 match o.op with
 | .pick c x y=>match a8 c with
   | .bool b=>some (bif b then a8 x else a8 y)
   |_=>none
 | .extract t i=>wU (a8 t) i
 | .move _| .assign _| .binOp .. | .unOp .. | .fieldAddr .. | .indexAddr .. =>qB P a8 o
 | .call c=>match c.callee with
   | .builtin _=>match lP a8 o with
     |some f=>bif u1 f then nP P a8 o else none
     |none=>none
   |_=>none
 | .nilCheck _=>nP P a8 o
 |_=>none
def vW (o:Oper):Bool:=match o.op with| .call c=>(match c.callee with| .builtin _=>true|_=>false)|_=>true
def A6 (P:aC) [c0 P] (N:Nat) (os:Array Oper) (l:Array Bool) (sl:bh) (i:Nat):Option bh:=
 match os[i]? with
 |some o=>match Fv N os sl o with
  |some true=>match Fw P (dh .nil sl) o with
   |some v=>bif Region.free .any os l i then hE N sl o.dst v else none
   |none=>none
  |some false=>bif vW o&&Region.free .any os l i then hE N sl o.dst undef else none
  |none=>none
 |none=>none
def yf (P:aC) [c0 P] (N:Nat) (os:Array Oper) (l:Array Bool) (sl:bh):List Nat->Option (Nat×bh)
 |[]=>none
 |i::r=>match A6 P N os l sl i with
  |some c8=>some (i,c8)
  |none=>yf P N os l sl r
def vX (P:aC) [c0 P] (N:Nat) (os:Array Oper):Nat->Array Bool->bh->Nat×Array Bool×bh
 |0,l,sl=>(0,l,sl)
 |f+1,l,sl=>match yf P N os l sl (Region.ready .any os l) with
  |some (i,c8)=>vX P N os f (l.setIfInBounds i true) c8
  |none=>(f+1,l,sl)
def anyOp (P:aC) [Lib P] (cf:fH) (bL:gA) (n:Nat) (cs:List gf) (a_:Nat) (os:Array Oper) (listed:Array Bool) (ks:List fM) (s:cz) (F:gS) (T:gY) (i:Nat):Option aN:=
 match os[i]? with
 |none=>none
 |some o=>match @pE P _ ⟨F⟩ (@qL P _ ⟨F⟩ ⟨T⟩ .nil 1000 cf.d) .nil cf.N os o s.sl s.A with
  |some (c8,aY)=>A5 bL n cs (.any a_ os (listed.setIfInBounds i true) ks) F T {s with sl:=c8,A:=aY}
  |none=>match AY P cf n (some (.oper o [] os s [])) with
   |some (kv,cW,KZ,m)=>(vV bL (n+m) cs (.any a_ os (listed.setIfInBounds i true) ks) (vO cf.marks) [] cW KZ).map kv
   |none=>none
def yg (n:Nat) (os:Array Oper) (s:cz):List Nat->Option gI
 |[]=>none
 |i::r=>match os[i]? with
  |some o=>match tM n (some (.oper o [] os s [])) with
   |some e=>some e
   |none=>yg n os s r
  |none=>yg n os s r
def Fx (P:aC) [Lib P] (cf:fH) (bL:gA) (n:Nat) (cs:List gf) (a_:Nat) (os:Array Oper) (listed:Array Bool) (ks:List fM) (sl:bh) (aQ:List cm) (F:gS) (T:gY):Option aN:=
 match Region.ready .any os listed with
 |[]=>l8 P cf bL n cs (.k .normal ks) sl aQ
 |kN=>match a_ with
  |0=>none
  |a_+1=>match @yf P ⟨F⟩ cf.N os listed sl kN with
   |some (i,c8)=>bif Region.noSelect os then
     (let q:= @vX P ⟨F⟩ cf.N os a_ (listed.setIfInBounds i true) c8
     vV bL n cs (.any q.1 os q.2.1 ks) F T q.2.2 aQ) else none
   |none=>match yg n os (hP sl aQ) kN with
    |some e=>(vV bL (n+e.2.2.2) cs (.any (a_+1) os listed ks) (vO cf.marks) [] e.2.1 e.2.2.1).map e.1
    |none=>A4 (kN.map (anyOp P cf bL n cs a_ os listed ks (hP sl aQ) F T))
def Fy (P:aC) [Lib P] (cf:fH) (bL:gA) (n:Nat) (cs:List gf) (v:I) (s:cz) (x y:Code) (ks:List fM) (kW:bh) (ka:List cm) (m:Nat):Option aN:=
 bif n1 n v (.bool true) s (hF n v (.bool true) s).1 (hF n v (.bool true) s).2&&n1 n v (.bool false) s (hF n v (.bool false) s).1 (hF n v (.bool false) s).2 then
  match l8 P cf bL n (⟨kW,ka,n,m,ks⟩::cs) (.k .normal [.jm x]) (hF n v (.bool true) s).1 (hF n v (.bool true) s).2 with
  |some bK=>match l8 P cf bL n (⟨kW,ka,n,m,ks⟩::cs) (.k .normal [.jm y]) (hF n v (.bool false) s).1 (hF n v (.bool false) s).2 with
   |some b0=>(l8 P cf bL (n+m) cs (.k .normal ks) kW ka).map (aN.sa v bK b0 m)
   |none=>none
  |none=>none
 else none
def SQ (cf:fH) (v:I):Option Bool:=(cf.pW.find? λp=>dW v (bP p.1)).map (·.2)
def yh (P:aC) [Lib P] (cf:fH) (bL:gA) (n:Nat) (cs:List gf) (v:I) (s:cz) (vY vZ:gy):Option aN:=match SQ cf v with
 |some b=>bif n1 n v (.bool b) s (hF n v (.bool b) s).1 (hF n v (.bool b) s).2 then (l8 P cf bL n cs (bif b then vY else vZ) (hF n v (.bool b) s).1 (hF n v (.bool b) s).2).map λk=>bif b then .a1 v k .no else .a1 v .no k else none
 |none=>bif n1 n v (.bool true) s (hF n v (.bool true) s).1 (hF n v (.bool true) s).2&&n1 n v (.bool false) s (hF n v (.bool false) s).1 (hF n v (.bool false) s).2 then
  two (l8 P cf bL n cs vY (hF n v (.bool true) s).1 (hF n v (.bool true) s).2) (l8 P cf bL n cs vZ (hF n v (.bool false) s).1 (hF n v (.bool false) s).2) (aN.a1 v)
 else none
def Fz (P:aC) [Lib P] (cf:fH) (bL:gA) (n:Nat) (cs:List gf) (o:Option bT):Option aN:=match AY P cf n o with
 |some (kv,sl,aQ,m)=>(l8 P cf bL (n+m) cs (KP o) sl aQ).map kv
 |none=>none
def FA (P:aC) [Lib P] (cf:fH) (bL:gA) (n:Nat) (cs:List gf) (FB:Option I) (F:gS) (T:gY):Option bT->Option aN
 |some (.draw id os s ks)=>match FB with
  |some v=>yh P cf bL n cs v s (.k .normal (.jm (.region id os true)::ks)) (.k .normal (.jm (.region id os true)::ks))
  |none=>A5 bL n cs (.any os.size os (Array.replicate os.size false) ks) F T s
 |some (.done x s)=>Fs P cf bL n cs x s
 |some (.loop body s ks)=>Ft P cf bL n cs body s ks
 |some (.cond c x y s ks)=>bif aF (dh .nil s.sl c) then match SP cf c x y s n with
  |some (kW,ka,m)=>Fy P cf bL n cs (dh .nil s.sl c) s x y ks kW ka m
  |none=>yh P cf bL n cs (dh .nil s.sl c) s (.k .normal (.jm x::ks)) (.k .normal (.jm y::ks)) else none
 |some (.oper op r os s ks)=>match KQ (some (.oper op r os s ks)) with
  |some v=>yh P cf bL n cs v s (.ops (op::r) os ks) (.ops (op::r) os ks)
  |none=>match tM n (some (.oper op r os s ks)) with
   |some (kv,sl,aQ,m)=>(l8 P cf bL (n+m) cs (.ops (op::r) os ks) sl aQ).map kv
   |none=>Fz P cf bL n cs (some (.oper op r os s ks))
 |_=>none
def yi (d:Tmp):Operand->Bool
 | .tmp t=>Nat.beq t d
 |_=>false
def FC (ops:Array Oper):Nat->Option Tmp->Bool
 |0,_=>false
 |_,none=>false
 |k+1,some d=>E4 ops (some d)||ops.any λo=>(match o.op with
   | .move x| .assign x=>yi d x
   | .pick c x y=>yi d c||(yi d x||yi d y)
   | .unOp _ _ x=>yi d x
   |_=>false)&&FC ops k o.dst
def K0 (P:aC) (ops:Array Oper) (o:Oper):Sum (eZ×I×Nat×Bool) (FuncId×List I×I×Nat×Bool)->Sum (eZ×I×Nat×Bool) (FuncId×List I×I×Nat×Bool)
 | .inl (f,r,m,b)=> .inl (f,r,m,b||((match KH P 0 f with|some (_,_,b')=>b'|none=>false)&&FC ops 8 o.dst))
 | .inr (f,a,r,m,b)=> .inr (f,a,r,m,b||(x9 P o.type&&FC ops 8 o.dst))
def FD (P:aC) [Lib P] (cf:fH) (F:gS) (T:gY) (n:Nat) (os:Array Oper) (s:cz):List Oper->bh->aD->Option (Sum (eZ×I×Nat×Bool) (FuncId×List I×I×Nat×Bool))×Option I
 |[],_,_=>(none,none)
 |o::r,sl,A=>match @pE P _ ⟨F⟩ (@qL P _ ⟨F⟩ ⟨T⟩ .nil 1000 cf.d) .nil cf.N os o sl A with
  |some (c8,aY)=>FD P cf F T n os s r c8 aY
  |none=>match Fl P cf n (some (.oper o r os {s with sl:=sl,A:=A} [])) with
   |some x=>(some (K0 P os o x),none)
   |none=>match KQ (some (.oper o r os {s with sl:=sl,A:=A} [])) with
    |some v=>(none,some v)
    |none=>FD P cf F T n os s r sl A
def K1 (P:aC) [Lib P] (cf:fH) (F:gS) (T:gY) (n:Nat):Option bT->Option (Sum (eZ×I×Nat×Bool) (FuncId×List I×I×Nat×Bool))×Option I
 |some (.draw _ os s _)=>FD P cf F T n os s os.toList s.sl s.A
 |_=>(none,none)
def FE (P:aC) [Lib P] (cf:fH) (bL:gA) (n:Nat) (cs:List gf) (pl:gy) (dy:Nat) (sl:bh) (aQ:List cm) (F:gS) (T:gY) (o:Option bT):Option aN:=
 match Fl P cf n o with
 |some (.inl x)=>yd P bL n cs pl dy sl aQ F T (λFF=>KR P cf (F++FF) T o) x
 |some (.inr x)=>ye bL n cs pl dy sl aQ F T (λFG=>KR P cf F (T++FG) o) x
 |none=>match (K1 P cf F T n (pl.run P F T cf.N cf.d (hP sl aQ))).1 with
  |some (.inl x)=>yd P bL n cs pl dy sl aQ F T (λFF=>pl.run P (F++FF) T cf.N cf.d (hP sl aQ)) x
  |some (.inr x)=>ye bL n cs pl dy sl aQ F T (λFG=>pl.run P F (T++FG) cf.N cf.d (hP sl aQ)) x
  |none=>FA P cf bL n cs (K1 P cf F T n (pl.run P F T cf.N cf.d (hP sl aQ))).2 F T (pl.run P F T cf.N cf.d (hP sl aQ))
def SR (P:aC) [Lib P] (cf:fH) (F:gS) (T:gY) (n:Nat) (os:Array Oper) (listed:Array Bool) (s:cz):Option (Sum (eZ×I×Nat×Bool) (FuncId×List I×I×Nat×Bool)):=
 (Region.ready .any os listed).findSome? λi=>match os[i]? with
   |none=>none
   |some o=>match @pE P _ ⟨F⟩ (@qL P _ ⟨F⟩ ⟨T⟩ .nil 1000 cf.d) .nil cf.N os o s.sl s.A with
    |some _=>none
    |none=>(Fl P cf n (some (.oper o [] os s []))).map (K0 P os o)
def FH (P:aC) [Lib P] (cf:fH) (bL:gA) (n:Nat) (cs:List gf) (pl:gy) (dy:Nat) (sl:bh) (aQ:List cm) (F:gS) (T:gY) (o:Option bT):Option aN:=
 match pl with
 | .any a_ os listed ks=>match SR P cf F T n os listed (hP sl aQ) with
   |some (.inl x)=>yd P bL n cs pl dy sl aQ F T (λ_=>none) x
   |some (.inr x)=>ye bL n cs pl dy sl aQ F T (λ_=>none) x
   |none=>Fx P cf bL n cs a_ os listed ks sl aQ F T
 |_=>FE P cf bL n cs pl dy sl aQ F T o
def gen (P:aC) [Lib P] (cf:fH):Nat->gA
 |0=>λ_ _ _ _ _ _ _ _ _=>none
 |a_+1=>FH P cf (gen P cf a_)
def cL (P:aC) [Lib P] (f:FuncId) (h:x7) (args:List I) (n:Nat):Option aN:=
 match P.funcs[f]? with
 |some fn=>match fn.body with
  |some c=>match setArgs 0 args .nil with
   |some sl=>
    let cf:fH:=⟨h,args.length+(fn.ntmps-args.length),fn⟩
    bif er args then l8 P cf (gen P cf 10000) n [] (.k .normal [.jm c]) sl [] else none
   |none=>none
  |none=>none
 |none=>none
end AE
namespace AE
variable {P:aC}
def oX.{u} {α:Type u}:List α->List Nat->List α->List α
 |L,i::is,R::gq=>oX (L.set i R) is gq
 |L,_,_=>L
theorem K2:∀(is:List Nat) (L gq:List (aI P)),bW (oX L is gq)=iY (bW L) is (bW gq)
 |[],L,gq=>by unfold oX iY;cases gq<;>rfl
 |i::is,L,[]=>by unfold oX iY;rfl
 |i::is,L,R::gq=>by
  unfold oX;rw[K2 is];show iY (bW (L.set i R)) is (bW gq)=iY ((bW L).set i R.res) is (bW gq);rw[show bW (L.set i R)=(bW L).set i R.res from List.map_set]
structure kb (W:aj) (ak:List cr) (ro:List (eB P)) (L:List (aI P)) (w:aj):Prop where
 own:dg (aS w) (bW L)
 ro:fi ro (aS w)
 ext:jP (aS W) ak (aS w)
 fresh:∀b,fX (bW L) b->fX ak b\/aS W b=none
theorem kb.on {W:aj} {ak:List cr} {ro:List (eB P)} {L hS:List (aI P)} {w:aj} (h:kb W ak ro L w) (h1:∀b,fX (bW hS) b->fX (bW L) b) {M:Mem} (aV:jP (aS w) (bW hS) M):jP (aS W) ak M:=λi o J ah=>
 aV i o (h.ext i o J ah) λq=>(h.fresh i (h1 i q)).elim ah λe=>by rw[J] at e;cases e
abbrev df (P:aC):=List I->List (aI P)->Prop
def lu (B:Nat) (W:aj) (ak:List cr) (L L':List (aI P)):Prop:=∀M,cB B (aS W) ak M (bW L)->cB B (aS W) ak M (bW L')
theorem lu.refl {B:Nat} {W:aj} {ak:List cr} (L:List (aI P)):lu B W ak L L:=λ_ h=>h
inductive b7 (B:Nat) (W:aj) (ak:List cr) (ro:List (eB P)) (post:I->List (aI P)->Prop):Nat->List I->List (aI P)->List (df P)->aN->Prop
 |o {n:Nat} {env:List I} {L:List (aI P)} {ay:List (df P)} {f:eZ} {r:I} {m:Nat} {aq:List Nat} {k:aN} (vs:List I) (hm:vs.length=m) (h1:dX vs)
   (aB:∀M,cB B (aS W) ak M (bW L)->fi ro M-> @bE (bC M (vs.reverse++env)) P (f,r)) (h:b7 B W ak ro post (n+m) (vs.reverse++env) L ay k):b7 B W ak ro post n env L ay (.o f r m aq k)
 |s {n:Nat} {env:List I} {L:List (aI P)} {ay:List (df P)} {f:eZ} {aq:List Nat} {bK b0:aN} (b:Bool) (aB:∀M,cB B (aS W) ak M (bW L)->fi ro M-> @bE (bC M env) P (f,.bool b))
   (h1:b=true->b7 B W ak ro post n env L ay bK) (ad:b=false->b7 B W ak ro post n env L ay b0):b7 B W ak ro post n env L ay (.s f aq bK b0)
 |c {n:Nat} {env:List I} {L:List (aI P)} {ay:List (df P)} {f:FuncId} {args:List I} {r:I} {m:Nat} {k:aN} (vs:List I) (hm:vs.length=m) (h1:dX vs)
   (ao:∀w,kb W ak ro L w->Calls P f ⟨fh env n args⟩ w λe w'=>e= .returned (ex (vs.reverse++env) (n+m) r)/\dJ w.heap.size w w') (h:b7 B W ak ro post (n+m) (vs.reverse++env) L ay k):b7 B W ak ro post n env L ay (.c f args r m k)
 |cs {n:Nat} {env:List I} {L:List (aI P)} {ay:List (df P)} {f:FuncId} {args:List I} {bK b0:aN} (b:Bool) (ao:∀w,kb W ak ro L w->Calls P f ⟨fh env n args⟩ w λe w'=>e= .returned (.bool b)/\dJ w.heap.size w w')
   (h1:b=true->b7 B W ak ro post n env L ay bK) (ad:b=false->b7 B W ak ro post n env L ay b0):b7 B W ak ro post n env L ay (.cs f args bK b0)
 |a1 {n:Nat} {env:List I} {L:List (aI P)} {ay:List (df P)} {x:I} {bK b0:aN} (b:Bool) (ag:ex env n x= .bool b)
   (h1:b=true->b7 B W ak ro post n env L ay bK) (ad:b=false->b7 B W ak ro post n env L ay b0):b7 B W ak ro post n env L ay (.a1 x bK b0)
 |sa {n:Nat} {env:List I} {L:List (aI P)} {ay:List (df P)} {x:I} {bK b0:aN} {m:Nat} {k:aN} (b:Bool) (ag:ex env n x= .bool b) (ej:Type) (a8:ej->List I) (cN:ej->List (aI P)) (hM:ej->Prop) (hm:∀u,(a8 u).length=m) (ax:∀u,dX (a8 u))
   (h1:b=true->b7 B W ak ro post n env L ((λdH L'=>∃u',hM u'/\dH=a8 u'/\lu B W ak L' (cN u'))::ay) bK) (ad:b=false->b7 B W ak ro post n env L ((λdH L'=>∃u',hM u'/\dH=a8 u'/\lu B W ak L' (cN u'))::ay) b0)
   (h:∀u,hM u->b7 B W ak ro post (n+m) ((a8 u).reverse++env) (cN u) ay k):b7 B W ak ro post n env L ay (.sa x bK b0 m k)
 |ret {n:Nat} {env:List I} {L:List (aI P)} {ay:List (df P)} {v:I} (L':List (aI P)) (hL:lu B W ak L L') (h:post (ex env n v) L'):b7 B W ak ro post n env L ay (.ret v)
 |back {n:Nat} {env:List I} {L:List (aI P)} {p0:df P} {ay:List (df P)} {vs:List I} (h:p0 (fh env n vs) L):b7 B W ak ro post n env L (p0::ay) (.back vs)
 |cu {n:Nat} {env:List I} {L:List (aI P)} {p0:df P} {ay:List (df P)} {k:aN} (h:b7 B W ak ro post n env L ay k):b7 B W ak ro post n env L (p0::ay) (.cu k)
 |loop {n:Nat} {env:List I} {L:List (aI P)} {ay:List (df P)} {vs:List I} {m:Nat} {k:aN} (ej:Type) (a8:ej->List I) (cN:ej->List (aI P)) (hM:ej->Prop) (iC:ej->Nat) (j6:ej)
   (hm:∀u,(a8 u).length=m) (h1:∀u,dX (a8 u)) (h0:fh env n vs=a8 j6) (hL:lu B W ak L (cN j6)) (bc:hM j6)
   (h:∀u,hM u->b7 B W ak ro post (n+m) ((a8 u).reverse++env) (cN u) ((λdH L'=>∃u',hM u'/\iC u'<iC u/\dH=a8 u'/\lu B W ak L' (cN u'))::ay) k):b7 B W ak ro post n env L ay (.loop vs m k)
 |FI {n:Nat} {env:List I} {L:List (aI P)} {ay:List (df P)} {t:az} {p x:I} {k:aN} (i:Nat) {g:Nat} {ty:az} {cs:List I} {j:Nat} {u:I} (hL:L[i]? =some (.box g ty cs)) (hp:ex env n p= .pointer (some ⟨g,j,none⟩)) (ag:ex env n x=u) (hj:j<cs.length)
   (hu:u.cells= #[u]) (h1:u.oneCell'=true) (bt:aP P (sizeOf t)=some 1) (h:b7 B W ak ro post n env (L.set i (.box g ty (cs.set j u))) ay k):b7 B W ak ro post n env L ay (.st t p x k)
 |K3 {n:Nat} {env:List I} {L:List (aI P)} {ay:List (df P)} {t:az} {p x:I} {k:aN} (i:Nat) {g:Nat} {ty:az} {cs:List I} {j m:Nat} {us:List I} (hL:L[i]? =some (.box g ty cs)) (hp:ex env n p= .pointer (some ⟨g,j,none⟩)) (ag:ex env n x= .agg ⟨us⟩) (hj:j+m<=cs.length)
   (hu:us.length=m) (h1:∀u∈us,u.oneCell'=true) (bt:aP P (sizeOf t)=some m) (h:b7 B W ak ro post n env (L.set i (.box g ty (cs.take j++us++cs.drop (j+m)))) ay k):b7 B W ak ro post n env L ay (.st t p x k)
 |K4 {n:Nat} {env:List I} {L:List (aI P)} {ay:List (df P)} {t:az} {p x:I} {k:aN} (d:Nat) {K:fG P} {v:I} {l:List K.α} (i j:Nat) (y:K.α) {u:I} (hL:L[d]? =some (.arr K v l)) (hp:ex env n p=j8 v (i*K.k+j)) (J:i<l.length) (ag:ex env n x=u) (hj:j<K.k)
   (hu:u.cells= #[u]) (h1:u.oneCell'=true) (aT:∀z,l[i]? =some z->K.enc y=(K.enc z).set j u) (bt:aP P (sizeOf t)=some 1) (h:b7 B W ak ro post n env (L.set d (.arr K v (l.set i y))) ay k):b7 B W ak ro post n env L ay (.st t p x k)
 |SS {n:Nat} {env:List I} {L:List (aI P)} {ay:List (df P)} {t:az} {p x:I} {k:aN} (d:Nat) {K:fG P} {v:I} {l:List K.α} (i:Nat) (y:K.α) (hL:L[d]? =some (.arr K v l)) (hp:ex env n p=j8 v (i*K.k)) (J:i<l.length) (ag:ex env n x= .agg ⟨K.enc y⟩)
   (bt:aP P (sizeOf t)=some K.k) (h:b7 B W ak ro post n env (L.set d (.arr K v (l.set i y))) ay k):b7 B W ak ro post n env L ay (.st t p x k)
 |K5 {n:Nat} {env:List I} {L:List (aI P)} {ay:List (df P)} {t:az} {s:I} {c:List I} {k:aN} (d:Nat) {K:fG P} {v:I} {l:List K.α} (lx:List K.α) (hL:L[d]? =some (.arr K v l)) (hs:ex env n s=v) (ag:fh env n c=lx.flatMap K.enc) (aE:P.underlying t=some (.slice K.e))
   (fO:l.length+lx.length<=maxLen) (U:(l.length+lx.length)*K.bytes<=140737488355328) (h:∀a c,b7 B W ak ro post (n+1) (.slice a (l++lx).length c::env) (L.set d (.arr K (.slice a (l++lx).length c) (l++lx))) ay k):b7 B W ak ro post n env L ay (.ic t s c k)
 |SU {n:Nat} {env:List I} {L:List (aI P)} {ay:List (df P)} {t:az} {s:I} {c:List I} {k:aN} (d:Nat) {K:fG P} {v:I} {l:List K.α} (lx:List K.α) (hL:L[d]? =some (.kV K v l)) (hs:ex env n s=v) (ag:fh env n c=lx.flatMap K.enc) (aE:P.underlying t=some (.slice K.e))
   (fO:l.length+lx.length<=maxLen) (U:(l.length+lx.length)*K.bytes<=140737488355328) (h:∀a c,b7 B W ak ro post (n+1) (.slice a (l++lx).length c::env) (L.set d (.kV K (.slice a (l++lx).length c) (l++lx))) ay k):b7 B W ak ro post n env L ay (.ic t s c k)
 |K6 {n:Nat} {env:List I} {L:List (aI P)} {ay:List (df P)} {t:az} {s x:I} {k:aN} (d:Nat) {K:fG P} {v:I} {l:List K.α} (vx:I) (lx:List K.α) (hL:L[d]? =some (.arr K v l)) (hs:ex env n s=v) (ag:ex env n x=vx) (aE:P.underlying t=some (.slice K.e))
   (fQ:∀M,cB B (aS W) ak M (bW L)->fi ro M->bH M K.k K.enc vx lx)
   (fO:l.length+lx.length<=maxLen) (U:(l.length+lx.length)*K.bytes<=140737488355328) (h:∀a c,b7 B W ak ro post (n+1) (.slice a (l++lx).length c::env) (L.set d (.arr K (.slice a (l++lx).length c) (l++lx))) ay k):b7 B W ak ro post n env L ay (.qY t s x k)
 |SV {n:Nat} {env:List I} {L:List (aI P)} {ay:List (df P)} {t:az} {s x:I} {k:aN} (d:Nat) {K:fG P} {v:I} {l:List K.α} (vx:I) (lx:List K.α) (hL:L[d]? =some (.kV K v l)) (hs:ex env n s=v) (ag:ex env n x=vx) (aE:P.underlying t=some (.slice K.e))
   (fQ:∀M,cB B (aS W) ak M (bW L)->fi ro M->bH M K.k K.enc vx lx)
   (fO:l.length+lx.length<=maxLen) (U:(l.length+lx.length)*K.bytes<=140737488355328) (h:∀a c,b7 B W ak ro post (n+1) (.slice a (l++lx).length c::env) (L.set d (.kV K (.slice a (l++lx).length c) (l++lx))) ay k):b7 B W ak ro post n env L ay (.qY t s x k)
 |mk {n:Nat} {env:List I} {L:List (aI P)} {ay:List (df P)} {t:az} {x:I} {k:aN} (K:fG P) (z:K.α) (m:Nat) (aE:P.underlying t=some (.slice K.e)) (bk:∃i v,P.info? K.e=some i/\i.zero=some v/\i.size=K.k/\i.bytes=K.bytes/\v.cells.toList=K.enc z) (ag:ex env n x= .int .i64 (m:Nat)) (fO:m<=1000000) (U:m*K.bytes<=140737488355328) (ao:m*K.k<=16777216)
   (h:∀a c,b7 B W ak ro post (n+1) (.slice a (List.replicate m z).length c::env) (L++[.arr K (.slice a (List.replicate m z).length c) (List.replicate m z)]) ay k):b7 B W ak ro post n env L ay (.mk t x k)
 |lt {n:Nat} {env:List I} {L:List (aI P)} {ay:List (df P)} {t:az} {x:I} {k:aN} (K:fG P) (y:K.α) {u:I} (aE:P.underlying t=some (.slice K.e)) (bk:∃z,aP P (zeroValue K.e)=some z) (hk:K.k<=1000) (ag:ex env n x=u) (hu:u.cells=⟨K.enc y⟩)
   (h:∀a c,b7 B W ak ro post (n+1) (.slice a [y].length c::env) (L++[.arr K (.slice a [y].length c) [y]]) ay k):b7 B W ak ro post n env L ay (.lt t x k)
 |oU {n:Nat} {env:List I} {L:List (aI P)} {ay:List (df P)} {t:az} {xs:List I} {k:aN} (K:fG P) (l:List K.α) {us:List I} (aE:P.underlying t=some (.slice K.e)) (bk:∃z,aP P (zeroValue K.e)=some z) (hk:K.k<=1000) (ag:fh env n xs=us) (hu:us.map Value.cells=l.map λy=>⟨K.enc y⟩)
   (h:∀a c,b7 B W ak ro post (n+1) (.slice a l.length c::env) (L++[.arr K (.slice a l.length c) l]) ay k):b7 B W ak ro post n env L ay (.oU t xs k)
 |alt {n:Nat} {env:List I} {L:List (aI P)} {ay:List (df P)} {bK b0:aN} (h1:b7 B W ak ro post n env L ay bK) (ad:b7 B W ak ro post n env L ay b0):b7 B W ak ro post n env L ay (.alt bK b0)
 |qZ {n:Nat} {env:List I} {L:List (aI P)} {ay:List (df P)} {t:az} {x:I} (i:Nat) {g:Nat} {ty:az} {cs:List I} (hL:L[i]? =some (.box g ty cs)) (ag:ex env n x= .pointer (some ⟨g,0,none⟩)) (ha:aP P (isAgg t)=some true) (hs:aP P (sizeOf t)=some cs.length)
   {v:I} (aw:aF v=true) (J:ex env n v= .agg ⟨cs⟩) (L':List (aI P)) (c9:lu B W ak L L') (h:post (.agg ⟨cs⟩) L'):b7 B W ak ro post n env L ay (.qZ t x)
 |oR {n:Nat} {env:List I} {L:List (aI P)} {ay:List (df P)} {t:az} {s:I} {c:List I} {k:aN} (i:Nat) {g:Nat} {ty e:az} {cs us:List I} {j m rH:Nat} (hL:L[i]? =some (.box g ty cs)) (hs:ex env n s= .slice (some ⟨g,j,none⟩) m rH) (ag:fh env n c=us) (aE:P.underlying t=some (.slice e)) (bk:(P.info? e).map (·.size)=some 1)
   (h0:0<us.length) (hm:us.length<=m) (h1:∀u∈us,u.oneCell'=true) (hj:j+us.length<=cs.length) (h:b7 B W ak ro post n env (L.set i (.box g ty (cs.take j++us++cs.drop (j+us.length)))) ay k):b7 B W ak ro post n env L ay (.oR t s c k)
 |lq {n:Nat} {env:List I} {L:List (aI P)} {ay:List (df P)} {c:List I} {m cap:Nat} {k:aN} (K:fG P) (xs:List K.α) (ag:fh env n c=xs.flatMap K.enc) (hm:xs.length=m)
   (h:∀g,b7 B W ak ro post (n+1) (.slice (some ⟨g,0,none⟩) m cap::env) (L++[.red K (.slice (some ⟨g,0,none⟩) m cap) xs]) ay k):b7 B W ak ro post n env L ay (.lq c m cap k)
 |oT {n:Nat} {env:List I} {L:List (aI P)} {ay:List (df P)} {t:az} {x:I} {k:aN} {u:I} {cs:List I} (ag:ex env n x=u) (hu:u.cells=⟨cs⟩) (h:∀g,b7 B W ak ro post (n+1) (.pointer (some ⟨g,0,none⟩)::env) (L++[.box g t cs]) ay k):b7 B W ak ro post n env L ay (.oT t x k)
 |hT {n:Nat} {env:List I} {L:List (aI P)} {ay:List (df P)} {t:az} {k:aN} {z:I} {cs:List I} (bk:aP P (zeroValue t)=some z) (hu:z.cells=⟨cs⟩) (h:∀g,b7 B W ak ro post (n+1) (.pointer (some ⟨g,0,none⟩)::env) (L++[.box g t cs]) ay k):b7 B W ak ro post n env L ay (.hT t k)
 |sb {n:Nat} {env:List I} {L:List (aI P)} {ay:List (df P)} {t:az} {k:aN} (h:∀g,b7 B W ak ro post (n+1) (.map (some g)::env) (L++[.any (nk g [])]) ay k):b7 B W ak ro post n env L ay (.sb t k)
 |sc {n:Nat} {env:List I} {L:List (aI P)} {ay:List (df P)} {t eI el:az} {m i x tQ jO:I} {k:aN} (d:Nat) {g:Nat} {es:List (I×I)} {K:I->Prop} (c4:AM P eI K) (aE:aP P (underlying t)=some (.map eI el)) (hL:L[d]? =some (.any (nk g es)))
   (hm:ex env n m= .map (some g)) (J:ex env n i=tQ) (ag:ex env n x=jO) (hk:K tQ) (aB:AN K es tQ) (h:b7 B W ak ro post n env (L.set d (.any (nk g (es++[(tQ,jO)])))) ay k):b7 B W ak ro post n env L ay (.sc t m i x k)
 |call {n:Nat} {env:List I} {L:List (aI P)} {ay:List (df P)} {f:FuncId} {args:List I} {r:I} {m:Nat} {k:aN} (Y:Type) (is:List Nat) (hR:il L.length is=true) (vs:Y->List I) (jn oY:Y->List (aI P)) (hl:∀y,(jn y).length=is.length) (hm:∀y,(vs y).length=m) (h1:∀y,dX (vs y))
   (ao:∀w,kb W ak ro L w->B<=w.heap.size->dg (aS w) (pick (bW L) is)->Calls P f ⟨fh env n args⟩ w λe w'=>(∃y,e= .returned (ex ((vs y).reverse++env) (n+m) r)/\gx (aS w) (pick (bW L) is) (aS w') (bW (jn y++oY y)))/\dJ 0 w w')
   (h:∀y,b7 B W ak ro post (n+m) ((vs y).reverse++env) (oX L is (jn y)++oY y) ay k):b7 B W ak ro post n env L ay (.call f args r m k)
theorem K7 {n:Nat} {s1 s2:aX} (ha:jA n s1 s2) {p:I×I} (h:(dW p.1 p.2&&ho n p.1)=true): @aK s1 p.1= @aK s2 p.2:=by
 simp only [b4] at h;rw[<-eV _ _ h.1];exact hq ha _ h.2
theorem K8 {n:Nat} {bx:dM} (h:AS n bx=true):jQ n bx:=λp hp=>by
 have:=List.all_eq_true.1 h p hp;simp only [b4] at this;exact⟨eV _ _ this.1,this.2⟩
theorem tR {n:Nat} {s1 s2:aX} (ha:jA n s1 s2) {bx:dM} (h:jQ n bx):fo s1 s2 bx:=λp hp=>by
 obtain⟨h1,ad⟩:=h p hp;rw[<-h1];exact hq ha _ ad
theorem jQ.nil (n:Nat):jQ n []:=λ_ h=>by cases h
theorem lv {n:Nat} {a b:Option dM} (ha:∃o,a=some o/\jQ n o) (U:∃o,b=some o/\jQ n o):∃o,both a b=some o/\jQ n o:=by
 obtain⟨x,rfl,ag⟩:=ha;obtain⟨y,rfl,aT⟩:=U;exact⟨x++y,rfl,λp hp=>(List.mem_append.1 hp).elim (ag p) (aT p)⟩
theorem SX {m:Nat} {v:I} (h:(qN v||(aF v&&ho m v))=true):∃o,vl v v=some o/\jQ m o:=by
 unfold vl;cases hp:qN v with
 |true=>exact⟨[],rfl,.nil m⟩
 |false=>
  rw[hp,Bool.false_or,b4] at h;rw[cV,h.1,Bool.and_self,a7];cases (dW v v&&plain v) with
  |true=>exact⟨[],rfl,.nil m⟩
  |false=>exact⟨[(v,v)],rfl,λp hp=>by rw[List.mem_singleton] at hp;subst hp;exact⟨rfl,h.2⟩⟩
mutual
theorem FJ {n m:Nat}:∀v:I,okV n m v=true->∃o,oH n v v=some o/\jQ m o:=by
 intro v h;unfold okV at h;split at h
 ·exact⟨[],by unfold oH;rw[h,Nat.beq_refl,Nat.beq_refl];rfl,.nil m⟩
 ·exact⟨[],by unfold oH;rw[h];simp only [Nat.beq_refl];rfl,.nil m⟩
 ·exact yj _ h
 ·rename_i f l k
  simp only [b4] at h;obtain⟨o,h1,ad⟩:=lv (yj _ h.1) (yj _ h.2);exact⟨o,by unfold oH;rw[Nat.beq_refl,a7];exact h1,ad⟩
 ·exact⟨[],by unfold oH;rw[h,Nat.beq_refl];rfl,.nil m⟩
 ·rename_i h1 ad al bb b5
  have e:oH n v v=vl v v:=by
   unfold oH;split
   ·exact(h1 _ _ rfl).elim
   ·exact(ad _ _ _ _ rfl).elim
   ·exact(al _ rfl).elim
   ·exact(bb _ _ _ rfl).elim
   ·exact(b5 _ rfl).elim
   ·rfl
  rw[e];exact SX h
theorem yj {n m:Nat}:∀l:List I,tL n m l=true->∃o,qO n l l=some o/\jQ m o
 |[],_=>⟨[],rfl,.nil m⟩
 |v::r,h=>by
  unfold tL at h;rw[b4] at h;unfold qO;exact lv (FJ v h.1) (yj r h.2)
end
theorem tS {n m:Nat}:∀t:bB I,(∃o,nc n t (i_ n m t)=some o/\jQ m o)/\(∃o,nc n (i_ n m t) (i_ n m t)=some o/\jQ m o)
 | .nil=>⟨⟨[],rfl,.nil m⟩,⟨[],rfl,.nil m⟩⟩
 | .node none l r=>by
   obtain⟨db,a2⟩:=tS (n:=n) (m:=m) l;obtain⟨eH,fK⟩:=tS (n:=n) (m:=m) r;unfold i_ nc;exact⟨lv ⟨[],rfl,.nil m⟩ (lv db eH),lv ⟨[],rfl,.nil m⟩ (lv a2 fK)⟩
 | .node (some v) l r=>by
   obtain⟨db,a2⟩:=tS (n:=n) (m:=m) l;obtain⟨eH,fK⟩:=tS (n:=n) (m:=m) r;unfold i_;cases aw:okV n m v with
   |true=>
    rw[a7];unfold nc;exact⟨lv (FJ v aw) (lv db eH),lv (FJ v aw) (lv a2 fK)⟩
   |false=>
    rw[cV];unfold nc;exact⟨lv ⟨[],rfl,.nil m⟩ (lv db eH),lv ⟨[],rfl,.nil m⟩ (lv a2 fK)⟩
theorem SY {n m:Nat} {o:lG} (h:E6 n m o=true):∃x,tt n o o=some x/\jQ m x:=by
 unfold E6 at h;split at h
 ·exact yj _ h
 ·exact⟨[],rfl,.nil m⟩
 ·exact⟨[],rfl,.nil m⟩
 ·cases h
theorem K9 {n m:Nat}:∀{l:List cm},vQ n m l=true->lk l=true
 |[],_=>rfl
 |x::r,h=>by
  unfold vQ at h;rw[b4] at h;unfold lk;rw[b4];refine⟨?_,K9 h.2⟩;have h1:=h.1;split
  ·rename_i dL ag
   rw[ag] at h1;cases h1
  ·rfl
theorem FK {n m:Nat} {A:aD}:∀(l:List cm) (i:Nat),vQ n m l=true->(∀j x,l[j]? =some x->∃k,A.bl.get (i+j)=some k/\k.bQ=i+j/\k.ro=false/\k.da=x.da/\k.ty=x.ty/\k.obj=x.obj)->∃o,r4 n A l i=some o/\jQ m o
 |[],i,_,_=>⟨[],rfl,.nil m⟩
 |x::r,i,h,hk=>by
  unfold vQ at h;rw[b4] at h;obtain⟨k,q1,aJ,cg,dn,fe,iH⟩:=hk 0 x rfl;rw[Nat.add_zero] at q1 aJ;unfold r4;rw[q1];dsimp only;rw[aJ,cg,dn,fe,iH];simp only [Nat.beq_refl,Bool.not_false,Bool.and_self,a7];exact lv (SY h.1) (FK r (i+1) h.2 λj y hj=>by
   obtain⟨k,fl,gb⟩:=hk (j+1) y (by simpa using hj);rw[show i+(j+1)=i+1+j by omega] at fl gb
   exact⟨k,fl,gb⟩)
theorem K' {m:Nat} {aQ:List cm} (h:mC m aQ=true):∃o,r4 aQ.length (gP aQ) aQ 0=some o/\jQ m o:=by
 unfold mC at h;rw[b4] at h;refine FK aQ 0 h.2 λj x hj=> ?_
 have aM:=(List.getElem?_eq_some_iff.1 hj).1;have:=List.all_eq_true.1 h.1 j (by simpa using aM);rw[b4] at this;have ad:=this.2;cases av:(vp aQ 0 .nil).get j with
 |none=>rw[av] at ad;cases ad
 |some k=>
  obtain⟨y,q1,aJ⟩:=r3 (l:=aQ) (b:=j) (k:=k) av;rw[hj,bS] at q1;subst q1;subst aJ;rw[Nat.zero_add];exact⟨_,av,rfl,rfl,rfl,rfl,rfl⟩
theorem K_ {A:aD}:∀(m i:Nat) {j:Nat} {x:cm},(l7 A m i)[j]? =some x->∃k,A.bl.get (i+j)=some k/\k.da=x.da/\k.ty=x.ty/\k.obj=x.obj
 |0,i,j,x,h=>by simp [l7] at h
 |m+1,i,j,x,h=>by
  unfold l7 at h;split at h
  ·rename_i b U
   cases j with
   |zero=>
    simp only [List.getElem?_cons_zero,bS] at h;subst h;unfold KJ at U;split at U
    ·rename_i k hk
     cases U;exact⟨k,hk,rfl,rfl,rfl⟩
    ·cases U
   |succ j=>
    obtain⟨k,q1,aJ⟩:=K_ m (i+1) (j:=j) (by simpa using h);exact⟨k,by rw[show i+(j+1)=i+1+j by omega];exact q1,aJ⟩
  ·simp at h
theorem La {A:aD}:∀(l:List cm) (i:Nat),AT A l i=true->∀j x,l[j]? =some x->∃k,A.bl.get (i+j)=some k/\k.bQ=i+j/\k.ro=false
 |[],i,_,j,x,h=>by simp at h
 |y::r,i,aB,j,x,h=>by
  unfold AT at aB;rw[b4] at aB;cases j with
  |zero=>
   have h1:=aB.1;split at h1
   ·rename_i k hk
    simp only [b4,Bool.not_eq_true'] at h1;exact⟨k,hk,bJ h1.1,h1.2⟩
   ·cases h1
  |succ j=>
   obtain⟨k,q1,aJ⟩:=La r (i+1) aB.2 j x (by simpa using h);rw[show i+(j+1)=i+1+j by omega];exact⟨k,q1,aJ⟩
theorem FL {m:Nat} {s:cz} {sl:bh} {aQ:List cm} (tu:s.ms=[]) (U:mC m aQ=true) (h1:∃o,nc aQ.length s.sl sl=some o/\jQ m o) (ad:∃o,r4 aQ.length s.A aQ 0=some o/\jQ m o):sg m s sl aQ:=by
 obtain⟨o,e,ax⟩:=lv h1 ad;have cK:=U;unfold mC at cK;rw[b4] at cK;refine⟨o,?_,ax,K9 cK.2⟩;unfold gp;rw[tu];dsimp only;rw[cK.1,a7];exact e
theorem Lb {m:Nat} {sl:bh} {aQ:List cm} (U:mC m aQ=true):sg m (hP sl aQ) (i_ aQ.length m sl) aQ:=FL rfl U (tS sl).1 (K' U)
theorem SZ {m:Nat} {sl:bh} {aQ:List cm} (U:mC m aQ=true):sg m (hP (i_ aQ.length m sl) aQ) (i_ aQ.length m sl) aQ:=FL rfl U (tS sl).2 (K' U)
theorem FM {m:Nat} {s:cz} (hs:sf s=true) (U:mC m (sd s)=true):sg m s (i_ (sd s).length m s.sl) (sd s):=by
 unfold sf at hs;rw[b4] at hs;have tu:s.ms=[]:=by
  have h1:=hs.1;split at h1
  ·assumption
  ·cases h1
 refine FL tu U (tS s.sl).1 (FK _ 0 (by unfold mC at U;rw[b4] at U;exact U.2) λj x hj=> ?_);obtain⟨k,q1,aJ,cg⟩:=La _ 0 hs.2 j x hj;obtain⟨k',fl,gb,pL,rQ⟩:=K_ _ 0 hj;rw[q1,bS] at fl;subst fl;exact⟨k,q1,aJ,cg,gb,pL,rQ⟩
theorem S0 {n:Nat} {s1 s2:aX} (ha:jA n s1 s2) {v u:I} (aw: @aK s1 v= @aK s2 u) {bx:dM} (h:KK n v u bx=true):fo s1 s2 bx:=λp hp=>by
 have:=List.all_eq_true.1 h p hp;rw[Bool.or_eq_true] at this;rcases this with h|h
 ·exact K7 ha h
 ·simp only [b4] at h
  rw[eV _ _ h.1,eV _ _ h.2];exact aw
theorem FN {n:Nat} {M M':Mem} {jo n2 ja us vs:List I} {bx:dM} (he:jo=n2++ja) (ah:ja.length=n) (ax:dX jo) (hu:dX us) (Az:us=fh jo jo.length vs) (h:vS n vs bx=true):fo (bC M jo) (bC M' (us.reverse++ja)) bx:=by
 have ha:jA n (bC M jo) (bC M' (us.reverse++ja)):=by
  subst he;have q1:=l6 M M (bZ:=n2) ah;have aJ:=l6 M M' (bZ:=us.reverse) ah;exact λk hk=>(q1 k hk).symm.trans (aJ k hk)
 intro p hp;have:=List.all_eq_true.1 h p hp;unfold KN at this;rw[Bool.or_eq_true] at this;rcases this with h|h
 ·exact K7 ha h
 ·obtain⟨fl,gb⟩:=p
  simp only at h ⊢;split at h
  ·rename_i k
   simp only [b4] at h;obtain⟨h1,ad,al⟩:=h;have hk:=Nat.ble_eq.mp h1;split at al
   ·rename_i v aw
    rw[<-eV _ _ al,gR M ax rfl];have hlen:(us.reverse++ja).length=us.length+n:=by simp [ah]
    have S1:dX ja:=by
     subst he;exact AO λv aw=>vM ax v (List.mem_append_right _ aw)
    rw[show (Value.complex .f64 k 0)=bP k from rfl,gR M' (nZ (lp hu) S1) rfl];show _=bif Nat.beq 0 0 then (bif Nat.blt k cP then look (us.reverse++ja) (us.reverse++ja).length k else .pointer (some ⟨k-cP,0,none⟩)) else .complex .f64 k 0
    rw[show Nat.beq 0 0=true from rfl,a7,ad,a7,AP _ _ _ rfl,List.reverse_append,List.reverse_reverse,de,List.getElem?_append_right (by simpa [ah] using hk)];have S2:us[k-n]? =some (ex jo jo.length v):=by
     rw[Az];clear Az;have:∀(l:List I) (i:Nat) (v:I),l[i]? =some v->(fh jo jo.length l)[i]? =some (ex jo jo.length v):=by
      intro l
      induction l with
      |nil=>intro i v h;simp at h
      |cons x r bI=>
       intro i v h;unfold fh;cases i with
       |zero=>simp only [List.getElem?_cons_zero,bS] at h ⊢;rw[h]
       |succ i=>simp only [List.getElem?_cons_succ] at h ⊢;exact bI i v h
     exact this _ _ _ aw
    rw[show ja.reverse.length=n by simpa using ah,S2];rfl
   ·cases al
  ·cases h
end AE
namespace AE
variable {P:aC}
theorem FO {n:Nat} {s1 s2:aX} (ha:jA n s1 s2):∀o:Option I,mB.vP n o=true->o.map (@aK s1)=o.map (@aK s2)
 |none,_=>rfl
 |some v,h=>congrArg some (hq ha v h)
theorem S3 {n:Nat} {s1 s2:aX} (ha:jA n s1 s2) (f:eZ) (h:mB.oV n f=true): @qy s1 f= @qy s2 f:=by
 cases f<;>simp only [mB.oV,b4] at h<;>unfold qy<;>dsimp only
 case bin=>rw[hq ha _ h.1,hq ha _ h.2]
 case un=>rw[hq ha _ h]
 case conv=>rw[hq ha _ h]
 case h_=>rw[hq ha _ h.1,FO ha _ h.2.1,FO ha _ h.2.2.1,FO ha _ h.2.2.2]
 case ca=>rw[hq ha _ h.1,hq ha _ h.2]
 case ei=>rw[hq ha _ h.1,hq ha _ h.2]
 case ld=>rw[hq ha _ h]
 case hJ=>rw[hq ha _ h]
 case mq=>rw[hq ha _ h]
 case len=>rw[hq ha _ h]
 case ep=>rw[hq ha _ h.1,hq ha _ h.2]
 case lb=>rw[hq ha _ h.1,hq ha _ h.2]
 case jw=>rw[hq ha _ h]
 case ov=>rw[hq ha _ h.1,hq ha _ h.2]
theorem FP {n m:Nat} (hle:n<=m):∀o:Option I,mB.vP n o=true->mB.vP m o=true
 |none,_=>rfl
 |some v,h=>i' hle v h
theorem S4 {n m:Nat} (hle:n<=m) {f:eZ} (h:mB.oV n f=true):mB.oV m f=true:=by
 cases f<;>simp only [mB.oV,b4] at h ⊢
 case bin=>exact⟨i' hle _ h.1,i' hle _ h.2⟩
 case un=>exact i' hle _ h
 case conv=>exact i' hle _ h
 case h_=>exact⟨i' hle _ h.1,FP hle _ h.2.1,FP hle _ h.2.2.1,FP hle _ h.2.2.2⟩
 case ca=>exact⟨i' hle _ h.1,i' hle _ h.2⟩
 case ei=>exact⟨i' hle _ h.1,i' hle _ h.2⟩
 case ld=>exact i' hle _ h
 case hJ=>exact i' hle _ h
 case mq=>exact i' hle _ h
 case len=>exact i' hle _ h
 case ep=>exact⟨i' hle _ h.1,i' hle _ h.2⟩
 case lb=>exact⟨i' hle _ h.1,i' hle _ h.2⟩
 case jw=>exact i' hle _ h
 case ov=>exact⟨i' hle _ h.1,i' hle _ h.2⟩
theorem S5 {n:Nat} {M:Mem} {e1 e2:List I} (ha:jA n (bC M e1) (bC M e2)) {f:eZ} {r:I} (aB:mB.oV n f=true) (hr:ho n r=true) (h: @bE (bC M e1) P (f,r)): @bE (bC M e2) P (f,r):=by
 obtain⟨h1,ad,al⟩:=h;refine⟨h1,ad,?_⟩;simp only at al ⊢;rw[<-S3 ha f aB,<-hq ha r hr];exact al
theorem S6 {n:Nat} {M:Mem} {e1 e2:List I} (ha:jA n (bC M e1) (bC M e2)) {f:FuncId} {args:List I} {r:I} (aB:j_ n args=true) (hr:ho n r=true) (h: @r2 (bC M e1) P (f,args,r)): @r2 (bC M e2) P (f,args,r):=by
 obtain⟨h1,ad,al⟩:=h;refine⟨h1,ad,?_⟩;simp only at al ⊢;rw[<-tK ha args aB,<-hq ha r hr];exact al
theorem jA.mono {n m:Nat} {s1 s2:aX} (h:jA n s1 s2) (hm:m<=n):jA m s1 s2:=λk hk=>h k af
theorem jA.trans {n:Nat} {s1 s2 j5:aX} (h:jA n s1 s2) (ad:jA n s2 j5):jA n s1 j5:=λk hk=>(h k hk).trans (ad k hk)
section
variable {B:Nat} {W:aj} {ak:List cr} {ro:List (eB P)}
def jq (B:Nat) (W:aj) (ak:List cr) (L:List (aI P)) (env:List I) (F:gS):Prop:=∀M,cB B (aS W) ak M (bW L)->∀ext,@Eg (bC M (ext++env)) P F
def jr (B:Nat) (W:aj) (ak:List cr) (L:List (aI P)) (env:List I) (T:gY):Prop:=∀M,cB B (aS W) ak M (bW L)->∀ext,∀p∈T,@r2 (bC M (ext++env)) P p
theorem jq.ext {L:List (aI P)} {env:List I} {F:gS} (h:jq B W ak L env F) (vs:List I):jq B W ak L (vs++env) F:=λM aV ext=>by
 have:=h M aV (ext++vs)
 rwa [List.append_assoc] at this
theorem jr.ext {L:List (aI P)} {env:List I} {T:gY} (h:jr B W ak L env T) (vs:List I):jr B W ak L (vs++env) T:=λM aV ext=>by
 have:=h M aV (ext++vs)
 rwa [List.append_assoc] at this
theorem jq.snoc {L:List (aI P)} {env:List I} {n:Nat} {F:gS} (ah:env.length=n) (h:jq B W ak L env F) {f:eZ} {r:I} (aB:∀M,cB B (aS W) ak M (bW L)-> @bE (bC M env) P (f,r)) (h1:mB.oV n f=true) (ad:ho n r=true):jq B W ak L env (F++[(f,r)]):=λM aV ext p hp=>by
 rcases List.mem_append.1 hp with hp|hp
 ·exact h M aV ext p hp
 ·rw[List.mem_singleton] at hp
  subst hp;exact S5 (l6 M M ah) h1 ad (aB M aV)
theorem jr.snoc {L:List (aI P)} {env:List I} {n:Nat} {T:gY} (ah:env.length=n) (h:jr B W ak L env T) {f:FuncId} {args:List I} {r:I} (aB:∀M,cB B (aS W) ak M (bW L)-> @r2 (bC M env) P (f,args,r)) (h1:j_ n args=true) (ad:ho n r=true):jr B W ak L env (T++[(f,args,r)]):=λM aV ext p hp=>by
 rcases List.mem_append.1 hp with hp|hp
 ·exact h M aV ext p hp
 ·rw[List.mem_singleton] at hp
  subst hp;exact S6 (l6 M M ah) h1 ad (aB M aV)
theorem jq.marks (L:List (aI P)) (env:List I) (l:List az):jq B W ak L env (vO l):=λM _ ext p hp=>by
 obtain⟨t,_,rfl⟩:=List.mem_map.1 hp;cases Nat.beq t 1000000
 ·exact @Rk (bC M (ext++env)) P (t:Int)
 ·exact @xR (bC M (ext++env)) P (.jw (.bool true)) (.bool true) ae ae ae λ_ _ _=>rfl
theorem jr.nil (L:List (aI P)) (env:List I):jr B W ak L env []:=λ_ _ _ _ h=>by cases h
theorem Lc {L:List (aI P)} (cy:∀M,jP (aS W) ak M->fi ro M) {M:Mem} (hO:cB B (aS W) ak M (bW L)) {w:aj} (hw:∀i o,M i=some o->w.heap[i]? =some o):kb W ak ro L w:=by
 have he:jP (aS W) ak (aS w):=λi o h1 ad=>hw i o (x4 hO i o h1 ad)
 exact⟨hO.sp.mono λb o _ ax=>hw b o ax,cy _ he,he,hO.fresh⟩
theorem Ld {L:List (aI P)} (cy:∀M,jP (aS W) ak M->fi ro M) {n m:Nat} {env vs:List I} {f:FuncId} {args:List I} {r:I} (ah:env.length=n) (h1:dX (vs.reverse++env)) (h0:dX env) (hm:vs.length=m) (ha:j_ n args=true) (hp:er args=true) (hr:aF r=true)
  (ao:∀w,kb W ak ro L w->Calls P f ⟨fh env n args⟩ w λe w'=>e= .returned (ex (vs.reverse++env) (n+m) r)/\dJ w.heap.size w w') (M:Mem) (hO:cB B (aS W) ak M (bW L)): @r2 (bC M (vs.reverse++env)) P (f,args,r):=by
 refine⟨hp,hr,λw hw=> ?_⟩;have eY: @e9 (bC M (vs.reverse++env)) args=fh env n args:=by
  rw[<-tK (l6 M M ah) args ha];exact mA M h0 ah args
 have iJ: @aK (bC M (vs.reverse++env)) r=ex (vs.reverse++env) (n+m) r:=gR M h1 (by simp [ah,hm,Nat.add_comm]) r;simp only;rw[eY,iJ];exact ao w (Lc cy hO hw)
end
theorem gy.S7 [aX] [cX] [Lib P] {F:gS} {T:gY} {N d B:Nat} {w0 w:aj} {a:Act} {s:cz} {Q:Exit->Act->aj->Prop} (aA:j7 Q) (cn:P.follows .mixedOrders=true) (cS:Eg P F) (c9:JJ P T) (pl:gy) (h:gd P N B w0 Q (pl.run P F T N d s)) (aq:Here N s B w0 a w):pl.Ok P Q a w:=by
 cases pl with
 |k x ks=>
  obtain⟨st,h1,ad⟩:=h;letI:c0 P:=⟨F⟩;letI:pR P:=⟨T⟩;have ao:=xF (gl:= .nil) (a_:=1000) cn cS c9 d;exact lW cn ao ks x s st Q a w aA h1 ad aq
 |ops r os ks=>
  haveI:oJ Q:=⟨aA⟩
  exact QU cn cS c9 h aq
 |any a_ os listed ks=>
  obtain⟨st,h1,_⟩:=h;cases h1
section
variable [Lib P] (cf:fH) (B:Nat) (W:aj) (ak:List cr) (post:I->List (aI P)->Prop)
def A7 (e:Ending) (w:aj):Prop:=∃v L',e= .returned v/\post v L'/\gx (aS W) ak (aS w) (bW L')
abbrev ie (M:Mem) (env:List I) (s:cz) (a:Act) (w:aj):Prop:= @Here (bC M env) eu cf.N s B W a w
inductive jb:List gf->List (df P)->(Exit->Act->aj->Prop)->List I->Prop
 |nil (env:List I):jb [] [] (@qM eu P cf.fn cf.N B W λe w=>A7 W ak post e w/\dJ B W w) env
 |cons {c:gf} {cs:List gf} {p0:df P} {ay:List (df P)} {Q:Exit->Act->aj->Prop} {env bZ ja:List I} {R:Act->aj->Prop} (gG:env=bZ++ja) (ah:ja.length=c.n) (h:jb cs ay Q env)
   (hy:∀M jo L vs bx s a w,cB B (aS W) ak M (bW L)->(∃n2,jo=n2++ja)->dX jo->p0 (fh jo jo.length vs) L->gp s c.sl c.aQ=some bx->vS c.n vs bx=true->lk c.aQ=true->ie cf B W M jo s a w->R a w):jb (c::cs) (p0::ay) (Exit.then R (dz P c.ks Q)) env
variable {cf B W ak post}
omit [Lib P] in
theorem jb.ext {cs:List gf} {ay:List (df P)} {Q:Exit->Act->aj->Prop} {env:List I} (h:jb cf B W ak post cs ay Q env) (bZ:List I):jb cf B W ak post cs ay Q (bZ++env):=by
 induction h with
 |nil env=>exact .nil _
 |cons gG ah _ hy bI=>exact .cons (bZ:=bZ++_) (by rw[gG,List.append_assoc]) ah bI hy
omit [Lib P] in
theorem jb.calm {cs:List gf} {ay:List (df P)} {Q:Exit->Act->aj->Prop} {env:List I} (h:jb cf B W ak post cs ay Q env):j7 Q:=by
 induction h with
 |nil env=>exact(inferInstance:oJ _).calm
 |cons gG ah _ hy bI=>exact(bI.pU _).then _
def kA (cf:fH) (B:Nat) (W:aj) (ak:List cr) (ro:List (eB P)) (post:I->List (aI P)->Prop) (bL:gA):Prop:=
 ∀n cs pl dy sl aQ F T o t,bL n cs pl dy sl aQ F T o=some t->sg dy (hP sl aQ) sl aQ->∀fa bZ L ay Q,b7 B W ak ro post n (bZ++fa) L ay t->(bZ++fa).length=n->fa.length=dy->dX (bZ++fa)->jb cf B W ak post cs ay Q fa->
  jq B W ak L (bZ++fa) F->jr B W ak L (bZ++fa) T->∀M,cB B (aS W) ak M (bW L)->∀a w,ie cf B W M fa (hP sl aQ) a w->pl.Ok P Q a w
theorem yk (n:Nat) (s:aX):jA n s s:=λ_ _=>rfl
theorem v7 {M:Mem} {n:Nat} {e1 e2:List I} {s:cz} {sl:bh} {aQ:List cm} {a:Act} {w:aj} (ha:jA n (bC M e1) (bC M e2)) (h:sg n s sl aQ) (aq:ie cf B W M e1 s a w):ie cf B W M e2 (hP sl aQ) a w:=by
 obtain⟨bx,ax,h1,ad⟩:=h;exact @Here.move eu (bC M e1) (bC M e2) _ _ _ _ _ _ _ _ _ ax (tR ha h1) (λ_ _ h=>h) (Nat.zero_le _) (fz ad) aq
omit [Lib P] in
theorem A8 {ro:List (eB P)} {bL:gA} (dU:kA cf B W ak ro post bL) {n:Nat} {cs:List gf} {pl:gy} {F:gS} {T:gY} {sl:bh} {aQ:List cm} {go:gy->bh->List cm->Option bT} {t:aN} (h:yc bL n cs pl F T sl aQ go=some t) {env:List I} {L:List (aI P)} {ay:List (df P)} {Q:Exit->Act->aj->Prop} (hw:b7 B W ak ro post n env L ay t) (ah:env.length=n) (ax:dX env)
  (ao:jb cf B W ak post cs ay Q env) (cS:jq B W ak L env F) (c9:jr B W ak L env T) {M:Mem} (aV:cB B (aS W) ak M (bW L)) {a:Act} {w:aj} (aq:mC n aQ=true->ie cf B W M env (hP (i_ aQ.length n sl) aQ) a w):pl.Ok P Q a w:=by
 rw[SN] at h;cases U:mC n aQ with
 |false=>rw[U] at h;cases h
 |true=>
  rw[U,a7] at h;exact dU n cs pl n _ aQ _ _ _ t h (SZ U) env [] L ay Q hw ah ah ax ao cS c9 M aV a w (aq U)
theorem n3 {ro:List (eB P)} {bL:gA} (dU:kA cf B W ak ro post bL) {n:Nat} {cs:List gf} {pl:gy} {sl:bh} {aQ:List cm} {t:aN} (h:l8 P cf bL n cs pl sl aQ=some t) {env:List I} {L:List (aI P)} {ay:List (df P)} {Q:Exit->Act->aj->Prop} (hw:b7 B W ak ro post n env L ay t) (ah:env.length=n) (ax:dX env)
  (ao:jb cf B W ak post cs ay Q env) {M:Mem} (aV:cB B (aS W) ak M (bW L)) {a:Act} {w:aj} (aq:ie cf B W M env (hP sl aQ) a w):pl.Ok P Q a w:=
 A8 dU h hw ah ax ao (jq.marks _ _ _) (jr.nil _ _) aV λU=>v7 (yk n _) (Lb U) aq
theorem Le {ro:List (eB P)} {bL:gA} (dU:kA cf B W ak ro post bL) {n:Nat} {cs:List gf} {pl:gy} {s:cz} {t:aN} (h:A2 P cf bL n cs pl s=some t) {env:List I} {L:List (aI P)} {ay:List (df P)} {Q:Exit->Act->aj->Prop} (hw:b7 B W ak ro post n env L ay t) (ah:env.length=n) (ax:dX env)
  (ao:jb cf B W ak post cs ay Q env) {M:Mem} (aV:cB B (aS W) ak M (bW L)) {a:Act} {w:aj} (aq:ie cf B W M env s a w):pl.Ok P Q a w:=by
 unfold A2 at h;cases hs:sf s with
 |false=>rw[hs] at h;cases h
 |true=>
  rw[hs,a7] at h;exact A8 dU h hw ah ax ao (jq.marks _ _ _) (jr.nil _ _) aV λU=>v7 (yk n _) (FM hs U) aq
theorem FQ {a b:Option aN} {f:aN->aN->aN} {t:aN} (h:two a b f=some t):∃x y,a=some x/\b=some y/\t=f x y:=by
 unfold two at h;split at h
 ·split at h
  ·cases h;exact⟨_,_,rfl,rfl,rfl⟩
  ·cases h
 ·cases h
omit [Lib P] in
theorem FR {ro:List (eB P)} (cy:∀M,jP (aS W) ak M->fi ro M) {bL:gA} (dU:kA cf B W ak ro post bL) {n:Nat} {cs:List gf} {pl:gy} {dy:Nat} {sl:bh} {aQ:List cm} {F:gS} {T:gY} {go:gS->Option bT} {x:eZ×I×Nat×Bool} {t:aN} (h:yd P bL n cs pl dy sl aQ F T go x=some t) (ji:sg dy (hP sl aQ) sl aQ)
  {fa bZ:List I} {L:List (aI P)} {ay:List (df P)} {Q:Exit->Act->aj->Prop} (hw:b7 B W ak ro post n (bZ++fa) L ay t) (ah:(bZ++fa).length=n) (fL:fa.length=dy) (ax:dX (bZ++fa)) (ao:jb cf B W ak post cs ay Q fa) (cS:jq B W ak L (bZ++fa) F) (c9:jr B W ak L (bZ++fa) T)
  (M:Mem) (aV:cB B (aS W) ak M (bW L)) (a:Act) (w:aj) (aq:ie cf B W M fa (hP sl aQ) a w):pl.Ok P Q a w:=by
 obtain⟨f,r,m,b⟩:=x;unfold yd at h;simp only at h;cases hu:mB.oV n f with
 |false=>rw[hu] at h;cases h
 |true=>
  rw[hu,a7] at h;cases b with
  |true=>
   rw[a7] at h;obtain⟨bK,b0,e1,e2,rfl⟩:=FQ h;cases hw with
   |s b aB h1 ad=>
    have jF:∀M,cB B (aS W) ak M (bW L)-> @bE (bC M (bZ++fa)) P (f,.bool b):=λM aV=>aB M aV (cy M (x4 aV))
    cases b with
    |true=>exact dU n cs pl dy sl aQ _ T _ bK e1 ji fa bZ L ay Q (h1 rfl) ah fL ax ao (cS.snoc ah jF hu rfl) c9 M aV a w aq
    |false=>exact dU n cs pl dy sl aQ _ T _ b0 e2 ji fa bZ L ay Q (ad rfl) ah fL ax ao (cS.snoc ah jF hu rfl) c9 M aV a w aq
  |false=>
   rw[cV] at h;cases hr:ho (n+m) r with
   |false=>rw[hr] at h;cases h
   |true=>
    rw[hr,a7] at h;obtain⟨k,e,rfl⟩:=Option.map_eq_some_iff.1 h;cases hw with
    |o vs hm h1 aB hk=>
     have hl:(vs.reverse++(bZ++fa)).length=n+m:=by simp only [List.length_append,List.length_reverse] at ah ⊢;omega
     rw[<-List.append_assoc] at hk hl;have S8:mB.oV (n+m) f=true:=S4 (Nat.le_add_right n m) hu;refine dU (n+m) cs pl dy sl aQ _ T _ k e ji fa (vs.reverse++bZ) L ay Q hk hl fL ?_ ao ?_ ?_ M aV a w aq
     ·rw[List.append_assoc];exact nZ (lp h1) ax
     ·refine jq.snoc hl ?_ (λM aV=> ?_) S8 hr
      ·rw[List.append_assoc];exact cS.ext _
      ·rw[List.append_assoc];exact aB M aV (cy M (x4 aV))
     ·rw[List.append_assoc];exact c9.ext _
omit [Lib P] in
theorem FT {ro:List (eB P)} (cy:∀M,jP (aS W) ak M->fi ro M) {bL:gA} (dU:kA cf B W ak ro post bL) {n:Nat} {cs:List gf} {pl:gy} {dy:Nat} {sl:bh} {aQ:List cm} {F:gS} {T:gY} {go:gY->Option bT} {x:FuncId×List I×I×Nat×Bool} {t:aN} (h:ye bL n cs pl dy sl aQ F T go x=some t) (ji:sg dy (hP sl aQ) sl aQ)
  {fa bZ:List I} {L:List (aI P)} {ay:List (df P)} {Q:Exit->Act->aj->Prop} (hw:b7 B W ak ro post n (bZ++fa) L ay t) (ah:(bZ++fa).length=n) (fL:fa.length=dy) (ax:dX (bZ++fa)) (ao:jb cf B W ak post cs ay Q fa) (cS:jq B W ak L (bZ++fa) F) (c9:jr B W ak L (bZ++fa) T)
  (M:Mem) (aV:cB B (aS W) ak M (bW L)) (a:Act) (w:aj) (aq:ie cf B W M fa (hP sl aQ) a w):pl.Ok P Q a w:=by
 obtain⟨f,args,r,m,b⟩:=x;unfold ye at h;simp only at h;cases hu:j_ n args&&er args with
 |false=>rw[hu] at h;cases h
 |true=>
  rw[hu,a7] at h;simp only [b4] at hu;obtain⟨hu,hp⟩:=hu;cases b with
  |true=>
   rw[a7] at h;obtain⟨bK,b0,e1,e2,rfl⟩:=FQ h;cases hw with
   |cs b tp h1 ad=>
    have jF:∀M,cB B (aS W) ak M (bW L)-> @r2 (bC M (bZ++fa)) P (f,args,.bool b):=λM aV=>Ld (vs:=[]) (m:=0) cy ah ax ax rfl hu hp rfl tp M aV
    cases b with
    |true=>exact dU n cs pl dy sl aQ F _ _ bK e1 ji fa bZ L ay Q (h1 rfl) ah fL ax ao cS (c9.snoc ah jF hu rfl) M aV a w aq
    |false=>exact dU n cs pl dy sl aQ F _ _ b0 e2 ji fa bZ L ay Q (ad rfl) ah fL ax ao cS (c9.snoc ah jF hu rfl) M aV a w aq
  |false=>
   rw[cV] at h;cases hr:ho (n+m) r&&aF r with
   |false=>rw[hr] at h;cases h
   |true=>
    rw[hr,a7] at h;simp only [b4] at hr;obtain⟨hr,qu⟩:=hr;obtain⟨k,e,rfl⟩:=Option.map_eq_some_iff.1 h;cases hw with
    |c vs hm h1 tp hk=>
     have hl:(vs.reverse++(bZ++fa)).length=n+m:=by simp only [List.length_append,List.length_reverse] at ah ⊢;omega
     have jv:dX (vs.reverse++(bZ++fa)):=nZ (lp h1) ax;rw[<-List.append_assoc] at hk hl;refine dU (n+m) cs pl dy sl aQ F _ _ k e ji fa (vs.reverse++bZ) L ay Q hk hl fL ?_ ao ?_ ?_ M aV a w aq
     ·rw[List.append_assoc];exact jv
     ·rw[List.append_assoc];exact cS.ext _
     ·refine jr.snoc hl ?_ (λM aV=> ?_) (vN (Nat.le_add_right n m) _ hu) hr
      ·rw[List.append_assoc];exact c9.ext _
      ·rw[List.append_assoc];exact Ld cy ah jv ax hm hu hp qu tp M aV
theorem S9 {ro:List (eB P)} {bL:gA} (dU:kA cf B W ak ro post bL) {n:Nat} {cs:List gf} {x:hZ} {s:cz} {t:aN} (h:Fs P cf bL n cs x s=some t) {env:List I} {L:List (aI P)} {ay:List (df P)} {Q:Exit->Act->aj->Prop} (hw:b7 B W ak ro post n env L ay t) (ah:env.length=n) (ax:dX env)
  (ao:jb cf B W ak post cs ay Q env) {M:Mem} (aV:cB B (aS W) ak M (bW L)) {a:Act} {w:aj} (aq:ie cf B W M env s a w):Q x.exit' a w:=by
 unfold Fs at h;split at h
 ·split at h
  ·rename_i v aw
   cases h;cases ao;cases hw with
   |ret L' hL hp=>
    letI:=bC M env;letI:=eu;refine QT aw (λcQ hl J=> ?_) a w aq;refine⟨⟨_,L',?_,hp,(hL M aV).done J⟩,hl⟩;rw[gR M ax ah v]
  ·split at h
   ·rename_i t x sZ
    cases hp:aF x with
    |false=>rw[hp] at h;cases h
    |true=>
     rw[hp,a7,bS] at h;subst h;cases ao;cases hw with
     |qZ i hL ag ha hs aw J L' c9 S'=>
      letI:=bC M env;letI:=eu;obtain⟨st,e,cd⟩:=RS (R:=λe w=>A7 W ak post e w/\dJ B W w) sZ hp ((gR M ax ah x).trans ag) (aV.box i (iN hL)) ha hs aw ((gR M ax ah _).trans J) (λcQ hl S_=>⟨⟨_,L',rfl,S',(c9 M aV).done S_⟩,hl⟩);cases e;exact cd a w aq
   ·cases h
 ·rename_i c cs'
  cases ao with
  | @cons _ _ p0 XM XO _ bZ ja R gG tB uY hy=>
    split at h
    ·split at h
     ·rename_i bx e4
      cases U:vS c.n (AX bx c.m c.n) bx&&lk c.aQ with
      |false=>rw[U] at h;cases h
      |true=>
       rw[U,a7,bS] at h;subst h;simp only [b4] at U;cases hw with
       |back v8=>exact hy M env L _ bx s a w aV ⟨bZ,gG⟩ ax (by rw[ah];exact v8) e4 U.1 U.2 aq
     ·cases h
    ·rename_i ag
     obtain⟨k,e,rfl⟩:=Option.map_eq_some_iff.1 h;cases hw with
     |cu hk=>
      have:=Le dU e hk ah ax uY aV aq;exact Ee (P:=P) (y:= .skip) (λh=>ag h) this _
theorem Ta {ro:List (eB P)} {bL:gA} (dU:kA cf B W ak ro post bL) {n:Nat} {cs:List gf} {body:Code} {s:cz} {ks:List fM} {t:aN} (h:Ft P cf bL n cs body s ks=some t) {env:List I} {L:List (aI P)} {ay:List (df P)} {Q:Exit->Act->aj->Prop} (hw:b7 B W ak ro post n env L ay t) (ah:env.length=n) (ax:dX env)
  (ao:jb cf B W ak post cs ay Q env) {M:Mem} (aV:cB B (aS W) ak M (bW L)) {a:Act} {w:aj} (aq:ie cf B W M env s a w):(Code.loop body).wpIn (Fr none) 0 P (dz P ks Q) a w:=by
 unfold Ft at h;split at h
 ·rename_i m hm
  exact wpIn_loop_rounds m (Le dU h hw ah ax ao aV aq)
 split at h
 ·rename_i kW ka vs I8
  split at h
  ·rename_i bx e4
   cases U:vS n vs bx&&lk ka with
   |false=>rw[U] at h;cases h
   |true=>
    rw[U,a7] at h;simp only [b4] at U;obtain⟨k,e,rfl⟩:=Option.map_eq_some_iff.1 h;cases hw with
    |loop ej a8 cN hM iC j6 hm h1 h0 hL bc hk=>
     letI:=eu;refine QD (N:=cf.N) (B:=B) (w0:=W) (X:=Mem×ej) (λx=>bC x.1 ((a8 x.2).reverse++env)) (hP kW ka) (λx=>cB B (aS W) ak x.1 (bW (cN x.2))/\hM x.2) (λx=>iC x.2) (λx ag db w1 jJ=> ?_) (M,j6) ⟨hL M aV,bc⟩ ?_
     ·obtain⟨AI,u⟩:=x
      obtain⟨FU,fW⟩:=ag;refine n3 (pl:= .k .normal [.jm body]) (cs:=⟨kW,ka,n,vs.length,ks⟩::cs) (Q:=Exit.then (λaL w'=>∃x':Mem×ej,(cB B (aS W) ak x'.1 (bW (cN x'.2))/\hM x'.2)/\iC x'.2<iC u/\ie cf B W x'.1 ((a8 x'.2).reverse++env) (hP kW ka) aL w') (dz P ks Q)) dU e (hk u fW) (by simp [ah,hm,Nat.add_comm]) (nZ (lp (h1 u)) ax) ?_ FU jJ;refine .cons (bZ:=(a8 u).reverse) (ja:=env) rfl ah (ao.ext _) ?_;intro nY jo jn Lf Tb s2 a2 cQ FV tT sS v8 cv FW f_ gw;obtain⟨n2,tT⟩:=tT;obtain⟨u',FX,yl,j3,c9⟩:=v8;exact⟨(nY,u'),⟨c9 nY FV,FX⟩,yl,@Here.move eu (bC nY jo) (bC nY ((a8 u').reverse++env)) _ _ _ _ _ _ _ _ _ cv (FN tT ah sS (h1 u') j3.symm FW) (λ_ _ h=>h) (Nat.zero_le _) (fz f_) gw⟩
     ·exact @Here.move eu (bC M env) (bC M ((a8 j6).reverse++env)) _ _ _ _ _ _ _ _ _ e4 (FN (n2:=[]) rfl ah ax (h1 j6) (by rw[ah];exact h0.symm) U.1) (λ_ _ h=>h) (Nat.zero_le _) (fz U.2) aq
  ·cases h
 ·cases h
theorem ym {M:Mem} {n:Nat} {env:List I} {v u:I} {s:cz} {sl:bh} {aQ:List cm} {a:Act} {w:aj} (aw: @aK (bC M env) v= @aK (bC M env) u) (h:n1 n v u s sl aQ=true) (aq:ie cf B W M env s a w):ie cf B W M env (hP sl aQ) a w:=by
 unfold n1 at h;simp only [b4] at h;obtain⟨h1,ad⟩:=h;split at h1
 ·rename_i bx ax
  exact @Here.move eu (bC M env) (bC M env) _ _ _ _ _ _ _ _ _ ax (S0 (yk n _) aw h1) (λ_ _ h=>h) (Nat.zero_le _) (fz ad) aq
 ·cases h1
theorem FY {ro:List (eB P)} {bL:gA} (dU:kA cf B W ak ro post bL) {n:Nat} {cs:List gf} {v:I} {s:cz} {vY vZ:gy} {t:aN} (h:yh P cf bL n cs v s vY vZ=some t) {env:List I} {L:List (aI P)} {ay:List (df P)} {Q:Exit->Act->aj->Prop} (hw:b7 B W ak ro post n env L ay t) (ah:env.length=n) (ax:dX env)
  (ao:jb cf B W ak post cs ay Q env) {M:Mem} (aV:cB B (aS W) ak M (bW L)) {a:Act} {w:aj} (aq:ie cf B W M env s a w):∃b,@aK (bC M env) v= .bool b/\(bif b then vY else vZ).Ok P Q a w:=by
 unfold yh at h;split at h
 ·rename_i b r'
  cases U:n1 n v (.bool b) s (hF n v (.bool b) s).1 (hF n v (.bool b) s).2 with
  |false=>rw[U] at h;cases h
  |true=>
   rw[U,a7] at h;obtain⟨k,e,rfl⟩:=Option.map_eq_some_iff.1 h;have key:∀b',ex env n v= .bool b'->b'=b->b7 B W ak ro post n env L ay k->∃b,@aK (bC M env) v= .bool b/\(bif b then vY else vZ).Ok P Q a w:=λb' ag cK hk=>by
    subst cK;have J: @aK (bC M env) v= .bool b':=(gR M ax ah v).trans ag;exact⟨b',J,n3 dU e hk ah ax ao aV (ym (by rw[J];rfl) U aq)⟩
   cases b with
   |true=>
    rw[a7] at hw;cases hw with
    |a1 b ag h1 ad=>
     cases b with
     |true=>exact key _ ag rfl (h1 rfl)
     |false=>cases ad rfl
   |false=>
    rw[cV] at hw;cases hw with
    |a1 b ag h1 ad=>
     cases b with
     |true=>cases h1 rfl
     |false=>exact key _ ag rfl (ad rfl)
 cases U:n1 n v (.bool true) s (hF n v (.bool true) s).1 (hF n v (.bool true) s).2&&n1 n v (.bool false) s (hF n v (.bool false) s).1 (hF n v (.bool false) s).2 with
 |false=>rw[U] at h;cases h
 |true=>
  rw[U,a7] at h;simp only [b4] at U;obtain⟨bK,b0,e1,e2,rfl⟩:=FQ h;cases hw with
  |a1 b ag h1 ad=>
   have J: @aK (bC M env) v= .bool b:=(gR M ax ah v).trans ag;refine⟨b,J,?_⟩;cases b with
   |true=>exact n3 dU e1 (h1 rfl) ah ax ao aV (ym (by rw[J];rfl) U.1 aq)
   |false=>exact n3 dU e2 (ad rfl) ah ax ao aV (ym (by rw[J];rfl) U.2 aq)
theorem Tc {ro:List (eB P)} {bL:gA} (dU:kA cf B W ak ro post bL) {n:Nat} {cs:List gf} {v:I} {s:cz} {x y:Code} {ks:List fM} {kW:bh} {ka:List cm} {m:Nat} {t:aN} (h:Fy P cf bL n cs v s x y ks kW ka m=some t) {env:List I} {L:List (aI P)} {ay:List (df P)} {Q:Exit->Act->aj->Prop} (hw:b7 B W ak ro post n env L ay t) (ah:env.length=n) (ax:dX env)
  (ao:jb cf B W ak post cs ay Q env) {M:Mem} (aV:cB B (aS W) ak M (bW L)) {a:Act} {w:aj} (aq:ie cf B W M env s a w):∃b,@aK (bC M env) v= .bool b/\(if b then x else y).wpIn (Fr none) 0 P (dz P ks Q) a w:=by
 unfold Fy at h;cases U:n1 n v (.bool true) s (hF n v (.bool true) s).1 (hF n v (.bool true) s).2&&n1 n v (.bool false) s (hF n v (.bool false) s).1 (hF n v (.bool false) s).2 with
 |false=>rw[U] at h;cases h
 |true=>
  rw[U,a7] at h;simp only [b4] at U;split at h
  ·rename_i bK e1
   split at h
   ·rename_i b0 e2
    obtain⟨k,fg,rfl⟩:=Option.map_eq_some_iff.1 h;cases hw with
    |sa b ag ej a8 cN hM hm ze h1 ad hk=>
     have J: @aK (bC M env) v= .bool b:=(gR M ax ah v).trans ag;refine⟨b,J,?_⟩
     let R:Act->aj->Prop:=λaL w'=>∃x':Mem×ej,(cB B (aS W) ak x'.1 (bW (cN x'.2))/\hM x'.2)/\ie cf B W x'.1 ((a8 x'.2).reverse++env) (hP kW ka) aL w'
     have Lg:jb cf B W ak post (⟨kW,ka,n,m,ks⟩::cs) ((λdH L'=>∃u',hM u'/\dH=a8 u'/\lu B W ak L' (cN u'))::ay) (Exit.then R (dz P ks Q)) env:=by
      refine .cons (bZ:=[]) (ja:=env) rfl ah ao ?_;intro nY jo jn Lf Tb s2 a2 cQ FV tT sS v8 cv FW f_ gw;obtain⟨n2,tT⟩:=tT;obtain⟨u',FX,j3,c9⟩:=v8;exact⟨(nY,u'),⟨c9 nY FV,FX⟩,@Here.move eu (bC nY jo) (bC nY ((a8 u').reverse++env)) _ _ _ _ _ _ _ _ _ cv (FN tT ah sS (ze u') j3.symm FW) (λ_ _ h=>h) (Nat.zero_le _) (fz f_) gw⟩
     have fin:∀e aL w',Exit.then R (dz P ks Q) e aL w'->dz P ks Q e aL w':=λe aL w' hp=>by
      cases e with
      |normal=>
       obtain⟨⟨AI,u⟩,⟨FU,fW⟩,jJ⟩:=hp;exact n3 (pl:= .k .normal ks) dU fg (hk u fW) (by simp [ah,hm,Nat.add_comm]) (nZ (lp (ze u)) ax) (ao.ext _) FU jJ
      |_=>exact hp
     cases b with
     |true=>exact wpIn_mono (n3 (pl:= .k .normal [.jm x]) dU e1 (h1 rfl) ah ax Lg aV (ym (by rw[J];rfl) U.1 aq)) fin
     |false=>exact wpIn_mono (n3 (pl:= .k .normal [.jm y]) dU e2 (ad rfl) ah ax Lg aV (ym (by rw[J];rfl) U.2 aq)) fin
   ·cases h
  ·cases h
theorem Lh {M:Mem} {env:List I} {s:cz} {a:Act} {w:aj} {c:Operand} (hp:aF (dh .nil s.sl c)=true) (aq:ie cf B W M env s a w):a.eval c= @aK (bC M env) (dh .nil s.sl c):=by
 letI:=bC M env;obtain⟨⟨φ,ds,h1,ad,al,bb,_⟩,b5,cE⟩:=aq;exact ar.gW _ hp (fy (hg φ) ad.get c)
end
end AE
namespace AE
variable {P:aC} [Lib P] {cf:fH} {B:Nat} {W:aj} {ak:List cr} {post:I->List (aI P)->Prop} {ro:List (eB P)}
omit [Lib P] in
theorem n5 {N n:Nat} {s:cz} {dst:Option Tmp} {r:I} {q:bh×List cm} (h:mD N n s dst r=some q):∃dB bx,gp s dB q.2=some bx/\jQ n bx/\lk q.2=true/\hE N dB dst r=some q.1/\Nat.blt n cP=true:=by
 unfold mD at h;dsimp only at h;cases U:Nat.blt n cP&&(sf s&&mC n (se n s).2) with
 |false=>rw[U] at h;cases h
 |true=>
  rw[U,a7] at h;simp only [b4] at U;obtain⟨av,hs,U⟩:=U;obtain⟨bx,ax,h1,ad⟩:=FM hs U;split at h
  ·rename_i sl hp
   cases h;exact⟨_,bx,ax,h1,ad,hp,av⟩
  ·cases h
theorem FZ (M M':Mem) {env:List I} {n:Nat} (ah:env.length=n):jA n (bC M env) (bC M' env):=l6 M M' (bZ:=[]) ah
theorem mE {M:Mem} {n:Nat} {env:List I} {v:I} (av:Nat.blt n cP=true) (ah:env.length=n) (ax:dX env) (h1:lX v=v): @aK (bC M (v::env)) (bP n)=v:=by
 rw[gR M (env:=v::env) (n:=n+1) ⟨h1,ax⟩ (by simp [ah])];show (bif Nat.beq 0 0 then (bif Nat.blt n cP then look (v::env) (n+1) n else .pointer (some ⟨n-cP,0,none⟩)) else .complex .f64 n 0)=v;rw[show Nat.beq 0 0=true from rfl,a7,av,a7];unfold look;rw[show Nat.beq (n+1-1) n=true by rw[Nat.add_sub_cancel];exact Nat.beq_refl n,a7]
omit [Lib P] in
theorem p1 (L:List (aI P)) (i:Nat) (r:aI P):bW (L.set i r)=(bW L).set i r.res:=List.map_set
structure kc (cf:fH) (B:Nat) (W:aj) (ak:List cr) (ro:List (eB P)) (post:I->List (aI P)->Prop) (NX:Nat->bh->List cm->Option aN) (o:Option bT) (n:Nat) (env:List I) (L:List (aI P)) (ay:List (df P)) (Q:Exit->Act->aj->Prop) (M:Mem):Prop where
 cy:∀M,jP (aS W) ak M->fi ro M
 ah:env.length=n
 ax:dX env
 aV:cB B (aS W) ak M (bW L)
 cont:∀{m:Nat} {sl:bh} {aQ:List cm} {k:aN} {bZ:List I} {L':List (aI P)} {M':Mem} {a:Act} {w:aj},NX (n+m) sl aQ=some k->b7 B W ak ro post (n+m) (bZ++env) L' ay k->bZ.length=m->dX bZ->cB B (aS W) ak M' (bW L')->ie cf B W M' (bZ++env) (hP sl aQ) a w->wpListIn (Fr none) 0 P (jM o) (dz P (jK o) Q) (jL o) a w
section
variable {NX:Nat->bh->List cm->Option aN} {n:Nat} {env:List I} {L:List (aI P)} {ay:List (df P)} {Q:Exit->Act->aj->Prop} {M:Mem} {o:Option bT}
omit [Lib P] in
theorem kc.rest (H:kc cf B W ak ro post NX o n env L ay Q M) {m:Nat} {sl:bh} {aQ:List cm} {k:aN} (h:NX (n+m) sl aQ=some k) {bZ:List I} {L':List (aI P)} (hw:b7 B W ak ro post (n+m) (bZ++env) L' ay k) (hm:bZ.length=m) (h1:dX bZ) {M':Mem} (my:cB B (aS W) ak M' (bW L')) {a:Act} {w:aj} (aq:ie cf B W M' (bZ++env) (hP sl aQ) a w):
 wpListIn (Fr none) 0 P (jM o) (dz P (jK o) Q) (jL o) a w:=H.cont h hw hm h1 my aq
omit [Lib P] in
theorem Td (H:kc cf B W ak ro post NX o n env L ay Q M) {e:gI} (he:E9 cf n o=some e) {k:aN} (h:NX (n+e.2.2.2) e.2.1 e.2.2.1=some k) (hw:b7 B W ak ro post n env L ay (e.1 k)): @gd (bC M env) eu P cf.N B W Q o:=by
 unfold E9 at he;split at he
 ·rename_i t p x cd
  cases U:aF p&&aF x with
  |false=>rw[U] at he;cases he
  |true=>
   rw[U,a7] at he;simp only [b4] at U;obtain⟨hp,ag⟩:=U;obtain⟨q,aA,rfl⟩:=Option.map_eq_some_iff.1 he;obtain⟨dB,bx,cv,e4,f_,dx,_⟩:=n5 aA;letI:=eu;have hm:∀M',fo (bC M env) (bC M' env) bx:=λM'=>tR (FZ M M' H.ah) e4
   have e_:=λv=>gR M H.ax H.ah v
   cases hw with
   |FI i hL tU tV hj hu h1 bt hk=>
    refine Rt (vals2:=env.reverse) rfl cd bt cv dx hp ag ((e_ p).trans tU) ((e_ x).trans tV) hu h1 (H.aV.box i (iN hL)) hj hm (λM' gM c4 aL w aq=> ?_) (Nat.zero_le _) (fz f_);refine H.rest (m:=0) (bZ:=[]) h hk rfl trivial (M':=M') ?_ aq;rw[p1];exact H.aV.pX i (iN hL) (EE gM c4)
   |K3 i hL tU tV hj hu h1 bt hk=>
    refine RB (vals2:=env.reverse) rfl cd bt cv dx hp ag ((e_ p).trans tU) ((e_ x).trans tV) hu h1 (H.aV.box i (iN hL)) hj hm (λM' gM c4 aL w aq=> ?_) (Nat.zero_le _) (fz f_);refine H.rest (m:=0) (bZ:=[]) h hk rfl trivial (M':=M') ?_ aq;rw[p1];exact H.aV.pX i (iN hL) (EE gM c4)
   | @K4 _ _ _ _ _ _ _ _ d K v l i j y u hL tU J tV hj hu h1 aT bt hk=>
     refine RA (vals2:=env.reverse) rfl cd bt K.len hj aT cv dx hp ag ((e_ p).trans tU) ((e_ x).trans tV) hu h1 (H.aV.arr d (iN hL)) J hm (λM' gM c4 aL w aq=> ?_) (Nat.zero_le _) (fz f_);refine H.rest (m:=0) (bZ:=[]) h hk rfl trivial (M':=M') ?_ aq;rw[p1];exact H.aV.pX d (iN hL) (Aw gM c4)
   | @SS _ _ _ _ _ _ _ _ d K v l i y hL tU J tV bt hk=>
     refine Q7 (vals2:=env.reverse) rfl cd bt K.len K.one cv dx hp ag ((e_ p).trans tU) ((e_ x).trans tV) (H.aV.arr d (iN hL)) J hm (λM' gM c4 aL w aq=> ?_) (Nat.zero_le _) (fz f_);refine H.rest (m:=0) (bZ:=[]) h hk rfl trivial (M':=M') ?_ aq;rw[p1];exact H.aV.pX d (iN hL) (Aw gM c4)
 ·cases he
omit [Lib P] in
theorem oZ (H:kc cf B W ak ro post NX o n env L ay Q M) {bx:dM} (e4:jQ n bx) (M':Mem) (v:I):fo (bC M env) (bC M' (v::env)) bx:=tR (l6 M M' (bZ:=[v]) H.ah) e4
omit [Lib P] in
theorem Te (H:kc cf B W ak ro post NX o n env L ay Q M) {e:gI} (he:E_ P cf n o=some e) {k:aN} (h:NX (n+e.2.2.2) e.2.1 e.2.2.1=some k) (hw:b7 B W ak ro post n env L ay (e.1 k)): @gd (bC M env) eu P cf.N B W Q o:=by
 unfold E_ at he;split at he
 ·rename_i vs x nD
  cases hp:aF vs with
  |false=>rw[hp] at he;cases he
  |true=>
   rw[hp,a7] at he;split at he
   ·rename_i c ez
    cases r0:er c with
    |false=>rw[r0] at he;cases he
    |true=>
     rw[r0,a7] at he;obtain⟨q,aA,rfl⟩:=Option.map_eq_some_iff.1 he;obtain⟨dB,bx,cv,e4,f_,dx,av⟩:=n5 aA;letI:=eu;have e_:=λv=>gR M H.ax H.ah v
     have A9:=λv=>mA M H.ax H.ah v
     have bt:∀K:fG P,P.underlying (q2 o)=some (.slice K.e)->E' P (q2 o)=K.k:=λK aE=>by
      unfold E' elemOf;rw[aE];simp only;rw[K.size]
     cases hw with
     | @K5 _ _ _ _ _ _ _ _ d K v l lx hL hs ag aE fO U hk=>
       obtain⟨A',z,J,bk,o0,gX,iE⟩:=K.info;refine JZ (l':=l++lx) (vals2:=λa c=>(.slice a (l++lx).length c::env).reverse) (dk:=bP n) rfl nD aE J bk o0 gX iE K.pos K.len K.one cv dx rfl (dq v)
        (JP hp ((e_ vs).trans hs) (H.aV.arr d (iN hL))) (En (by rw[bt K aE] at ez;exact ez) K.len K.pos ((A9 c).trans ag)) fO U (λM' a c=>oZ H e4 M' _) (λM' a c=>mE av H.ah H.ax rfl)
        (λM' a c gM c4 c9 aB aL w aq=> ?_) (Nat.zero_le _) (fz f_)
       refine H.rest (m:=1) (bZ:=[.slice a (l++lx).length c]) h (hk a c) rfl ⟨rfl,trivial⟩ (M':=M') ?_ aq;rw[p1];exact H.aV.pX d (iN hL) (EF gM c4 aB)
     | @SU _ _ _ _ _ _ _ _ d K v l lx hL hs ag aE fO U hk=>
       obtain⟨A',z,J,bk,o0,gX,iE⟩:=K.info;refine J_ (l':=l++lx) (vals2:=λa c=>(.slice a (l++lx).length c::env).reverse) (dk:=bP n) rfl nD aE J bk o0 gX iE K.pos K.len K.one cv dx rfl (dq v)
        (Ka hp ((e_ vs).trans hs) (H.aV.kV d (iN hL))) (En (by rw[bt K aE] at ez;exact ez) K.len K.pos ((A9 c).trans ag)) fO U (λM' a c=>oZ H e4 M' _) (λM' a c=>mE av H.ah H.ax rfl)
        (λM' a c gM c4 aB aL w aq=> ?_) (Nat.zero_le _) (fz f_)
       refine H.rest (m:=1) (bZ:=[.slice a (l++lx).length c]) h (hk a c) rfl ⟨rfl,trivial⟩ (M':=M') ?_ aq;rw[p1];exact H.aV.pX d (iN hL) (J8 gM c4 aB)
   ·cases he
 ·cases he
omit [Lib P] in
theorem Tf (H:kc cf B W ak ro post NX o n env L ay Q M) {e:gI} (he:Fa cf n o=some e) {k:aN} (h:NX (n+e.2.2.2) e.2.1 e.2.2.1=some k) (hw:b7 B W ak ro post n env L ay (e.1 k)): @gd (bC M env) eu P cf.N B W Q o:=by
 unfold Fa at he;split at he
 ·rename_i vs x nD
  cases U:aF vs&&aF x with
  |false=>rw[U] at he;cases he
  |true=>
   rw[U,a7] at he;simp only [b4] at U;obtain⟨hp,kB⟩:=U;obtain⟨q,aA,rfl⟩:=Option.map_eq_some_iff.1 he;obtain⟨dB,bx,cv,e4,f_,dx,av⟩:=n5 aA;letI:=eu;have e_:=λv=>gR M H.ax H.ah v
   cases hw with
   | @K6 _ _ _ _ _ _ _ _ d K v l vx lx hL hs ag aE fQ fO U hk=>
     obtain⟨A',z,J,bk,o0,gX,iE⟩:=K.info;refine JZ (l':=l++lx) (vals2:=λa c=>(.slice a (l++lx).length c::env).reverse) (dk:=bP n) rfl nD aE J bk o0 gX iE K.pos K.len K.one cv dx rfl (dq v)
      (JP hp ((e_ vs).trans hs) (H.aV.arr d (iN hL))) (JQ kB ((e_ x).trans ag) λw hw=>(fQ M H.aV (H.cy M (x4 H.aV))).reads K.len hw) fO U (λM' a c=>oZ H e4 M' _) (λM' a c=>mE av H.ah H.ax rfl)
      (λM' a c gM c4 c9 aB aL w aq=> ?_) (Nat.zero_le _) (fz f_)
     refine H.rest (m:=1) (bZ:=[.slice a (l++lx).length c]) h (hk a c) rfl ⟨rfl,trivial⟩ (M':=M') ?_ aq;rw[p1];exact H.aV.pX d (iN hL) (EF gM c4 aB)
   | @SV _ _ _ _ _ _ _ _ d K v l vx lx hL hs ag aE fQ fO U hk=>
     obtain⟨A',z,J,bk,o0,gX,iE⟩:=K.info;refine J_ (l':=l++lx) (vals2:=λa c=>(.slice a (l++lx).length c::env).reverse) (dk:=bP n) rfl nD aE J bk o0 gX iE K.pos K.len K.one cv dx rfl (dq v)
      (Ka hp ((e_ vs).trans hs) (H.aV.kV d (iN hL))) (JQ kB ((e_ x).trans ag) λw hw=>(fQ M H.aV (H.cy M (x4 H.aV))).reads K.len hw) fO U (λM' a c=>oZ H e4 M' _) (λM' a c=>mE av H.ah H.ax rfl)
      (λM' a c gM c4 aB aL w aq=> ?_) (Nat.zero_le _) (fz f_)
     refine H.rest (m:=1) (bZ:=[.slice a (l++lx).length c]) h (hk a c) rfl ⟨rfl,trivial⟩ (M':=M') ?_ aq;rw[p1];exact H.aV.pX d (iN hL) (J8 gM c4 aB)
 ·cases he
omit [Lib P] in
theorem sh (L:List (aI P)) (r:aI P):bW (L++[r])=bW L++[r.res]:=List.map_append
omit [Lib P] in
theorem Tg (H:kc cf B W ak ro post NX o n env L ay Q M) {e:gI} (he:Fb cf n o=some e) {k:aN} (h:NX (n+e.2.2.2) e.2.1 e.2.2.1=some k) (hw:b7 B W ak ro post n env L ay (e.1 k)): @gd (bC M env) eu P cf.N B W Q o:=by
 unfold Fb at he;split at he
 ·rename_i t x cd
  cases kB:aF x with
  |false=>rw[kB] at he;cases he
  |true=>
   rw[kB,a7] at he;obtain⟨q,aA,rfl⟩:=Option.map_eq_some_iff.1 he;obtain⟨dB,bx,cv,e4,f_,dx,av⟩:=n5 aA;letI:=eu;have e_:=λv=>gR M H.ax H.ah v
   cases hw with
   | @mk _ _ _ _ _ _ _ K z m aE bk ag fO U ao hk=>
     obtain⟨A',Li,J,bk,o0,gX,k8⟩:=bk;refine RM (l':=List.replicate m z) (vals2:=λa c=>(.slice a (List.replicate m z).length c::env).reverse) (dk:=bP n) rfl cd aE J bk o0 gX k8 K.len cv dx rfl kB ((e_ x).trans ag) fO U ao (λM' a c=>oZ H e4 M' _) (λM' a c=>mE av H.ah H.ax rfl)
      (λM' a c gM c4 aB aL w aq=> ?_) (Nat.zero_le _) (fz f_)
     refine H.rest (m:=1) (bZ:=[.slice a (List.replicate m z).length c]) h (hk a c) rfl ⟨rfl,trivial⟩ (M':=M') ?_ aq;rw[sh];exact H.aV.new (EG gM c4 aB)
 ·cases he
omit [Lib P] in
theorem Th (H:kc cf B W ak ro post NX o n env L ay Q M) {e:gI} (he:Fc cf n o=some e) {k:aN} (h:NX (n+e.2.2.2) e.2.1 e.2.2.1=some k) (hw:b7 B W ak ro post n env L ay (e.1 k)): @gd (bC M env) eu P cf.N B W Q o:=by
 unfold Fc at he;split at he
 ·rename_i t x cd
  cases kB:aF x with
  |false=>rw[kB] at he;cases he
  |true=>
   rw[kB,a7] at he;obtain⟨q,aA,rfl⟩:=Option.map_eq_some_iff.1 he;obtain⟨dB,bx,cv,e4,f_,dx,av⟩:=n5 aA;letI:=eu;have e_:=λv=>gR M H.ax H.ah v
   cases hw with
   | @lt _ _ _ _ _ _ _ K y u aE bk mS ag hu hk=>
     obtain⟨Li,bk⟩:=bk;refine RK (l':=[y]) (vals2:=λa c=>(.slice a [y].length c::env).reverse) (dk:=bP n) rfl cd aE K.size bk K.pos mS K.len cv dx rfl kB ((e_ x).trans ag) hu (λM' a c=>oZ H e4 M' _) (λM' a c=>mE av H.ah H.ax rfl)
      (λM' a c gM c4 aB aL w aq=> ?_) (Nat.zero_le _) (fz f_)
     refine H.rest (m:=1) (bZ:=[.slice a [y].length c]) h (hk a c) rfl ⟨rfl,trivial⟩ (M':=M') ?_ aq;rw[sh];exact H.aV.new (EG gM c4 aB)
 ·cases he
omit [Lib P] in
theorem Ti (H:kc cf B W ak ro post NX o n env L ay Q M) {e:gI} (he:Fe cf n o=some e) {k:aN} (h:NX (n+e.2.2.2) e.2.1 e.2.2.1=some k) (hw:b7 B W ak ro post n env L ay (e.1 k)): @gd (bC M env) eu P cf.N B W Q o:=by
 unfold Fe at he;split at he
 ·rename_i t xs cd
  cases kB:er xs with
  |false=>rw[kB] at he;cases he
  |true=>
   rw[kB,a7] at he;obtain⟨q,aA,rfl⟩:=Option.map_eq_some_iff.1 he;obtain⟨dB,bx,cv,e4,f_,dx,av⟩:=n5 aA;letI:=eu;cases hw with
   | @oU _ _ _ _ _ _ _ K l us aE bk mS ag hu hk=>
     obtain⟨Li,bk⟩:=bk;refine Sv (vals2:=λa c=>(.slice a l.length c::env).reverse) (dk:=bP n) cd aE K.size bk K.pos mS K.len cv dx rfl kB ((mA M H.ax H.ah xs).trans ag) hu (λM' a c=>oZ H e4 M' _) (λM' a c=>mE av H.ah H.ax rfl)
      (λM' a c gM c4 aB aL w aq=> ?_) (Nat.zero_le _) (fz f_)
     refine H.rest (m:=1) (bZ:=[.slice a l.length c]) h (hk a c) rfl ⟨rfl,trivial⟩ (M':=M') ?_ aq;rw[sh];exact H.aV.new (EG gM c4 aB)
 ·cases he
omit [Lib P] in
theorem Tj (H:kc cf B W ak ro post NX o n env L ay Q M) {e:gI} (he:Ff cf n o=some e) {k:aN} (h:NX (n+e.2.2.2) e.2.1 e.2.2.1=some k) (hw:b7 B W ak ro post n env L ay (e.1 k)): @gd (bC M env) eu P cf.N B W Q o:=by
 unfold Ff at he;split at he
 ·rename_i vs x nD
  cases hp:aF vs with
  |false=>rw[hp] at he;cases he
  |true=>
   rw[hp,a7] at he;split at he
   ·rename_i c ez
    cases r0:er c with
    |false=>rw[r0] at he;cases he
    |true=>
     rw[r0,a7] at he;obtain⟨q,aA,rfl⟩:=Option.map_eq_some_iff.1 he;obtain⟨dB,bx,cv,e4,f_,dx,_⟩:=n5 aA;letI:=eu;have hm:∀M',fo (bC M env) (bC M' env) bx:=λM'=>tR (FZ M M' H.ah) e4
     have e_:=λv=>gR M H.ax H.ah v
     have A9:=λv=>mA M H.ax H.ah v
     cases hw with
     | @oR _ _ _ _ _ _ _ _ i g ty e cs us j m rH hL hs ag aE bk h0 qh h1 hj hk=>
       have hlen:us.length=c.length:=by rw[<-ag,KC]
       refine RP (vals2:=env.reverse) (n:=us.length) rfl nD aE bk cv (by rw[hlen];exact dx) hp ((e_ vs).trans hs) (En (enc:=λu:I=>[u]) ez (λ_=>rfl) cG ((A9 c).trans (ag.trans (by simp)))) rfl h0 qh h1 (H.aV.box i (iN hL)) hj hm (λM' gM c4 aL w aq=> ?_) (Nat.zero_le _) (fz f_);refine H.rest (m:=0) (bZ:=[]) h hk rfl trivial (M':=M') ?_ aq;rw[p1];exact H.aV.pX i (iN hL) (EE gM c4)
   ·cases he
 ·cases he
omit [Lib P] in
theorem Tk (H:kc cf B W ak ro post NX o n env L ay Q M) {e:gI} (he:Fg cf n o=some e) {k:aN} (h:NX (n+e.2.2.2) e.2.1 e.2.2.1=some k) (hw:b7 B W ak ro post n env L ay (e.1 k)): @gd (bC M env) eu P cf.N B W Q o:=by
 unfold Fg at he;split at he
 ·rename_i t x cd
  cases kB:aF x with
  |false=>rw[kB] at he;cases he
  |true=>
   rw[kB,a7] at he;obtain⟨q,aA,rfl⟩:=Option.map_eq_some_iff.1 he;obtain⟨dB,bx,cv,e4,f_,dx,av⟩:=n5 aA;letI:=eu;have e_:=λv=>gR M H.ax H.ah v
   cases hw with
   | @oT _ _ _ _ _ _ _ u cs ag hu hk=>
     refine Rs (vals2:=λg=>(.pointer (some ⟨g,0,none⟩)::env).reverse) (dk:=bP n) cd kB ((e_ x).trans ag) hu cv dx rfl (λM' g=>oZ H e4 M' _) (λM' g=>mE av H.ah H.ax rfl)
      (λM' g qW gM c4 aL w aq=> ?_) (Nat.zero_le _) (fz f_)
     refine H.rest (m:=1) (bZ:=[.pointer (some ⟨g,0,none⟩)]) h (hk g) rfl ⟨rfl,trivial⟩ (M':=M') ?_ aq;rw[sh];exact H.aV.new (J7 gM qW c4)
 ·cases he
omit [Lib P] in
theorem Tl (H:kc cf B W ak ro post NX o n env L ay Q M) {e:gI} (he:Fh cf n o=some e) {k:aN} (h:NX (n+e.2.2.2) e.2.1 e.2.2.1=some k) (hw:b7 B W ak ro post n env L ay (e.1 k)): @gd (bC M env) eu P cf.N B W Q o:=by
 unfold Fh at he;split at he
 ·rename_i t cd
  obtain⟨q,aA,rfl⟩:=Option.map_eq_some_iff.1 he;obtain⟨dB,bx,cv,e4,f_,dx,av⟩:=n5 aA;letI:=eu;cases hw with
  | @hT _ _ _ _ _ _ z cs bk hu hk=>
    refine Rl (vals2:=λg=>(.pointer (some ⟨g,0,none⟩)::env).reverse) (dk:=bP n) cd bk cv dx rfl (λM' g=>oZ H e4 M' _) (λM' g=>mE av H.ah H.ax rfl)
     (λM' g oM qW Tm c4 aL w aq=> ?_) (Nat.zero_le _) (fz f_)
    refine H.rest (m:=1) (bZ:=[.pointer (some ⟨g,0,none⟩)]) h (hk g) rfl ⟨rfl,trivial⟩ (M':=M') ?_ aq;rw[sh];exact H.aV.new (J7 (B:=B) (hn.mk' oM (by rw[Tm,hu])) qW c4)
 ·cases he
omit [Lib P] in
theorem Tn (H:kc cf B W ak ro post NX o n env L ay Q M) {e:gI} (he:Fi cf n o=some e) {k:aN} (h:NX (n+e.2.2.2) e.2.1 e.2.2.1=some k) (hw:b7 B W ak ro post n env L ay (e.1 k)): @gd (bC M env) eu P cf.N B W Q o:=by
 unfold Fi at he;split at he
 ·rename_i t cd
  obtain⟨q,aA,rfl⟩:=Option.map_eq_some_iff.1 he;obtain⟨dB,bx,cv,e4,f_,dx,av⟩:=n5 aA;letI:=eu;cases hw with
  | @sb _ _ _ _ _ _ hk=>
    refine Sp (vals2:=λg=>(.map (some g)::env).reverse) (dk:=bP n) cd cv dx rfl (λM' g=>oZ H e4 M' _) (λM' g=>mE av H.ah H.ax rfl)
     (λM' g qW oM gM c4 aL w aq=> ?_) (Nat.zero_le _) (fz f_)
    refine H.rest (m:=1) (bZ:=[.map (some g)]) h (hk g) rfl ⟨rfl,trivial⟩ (M':=M') ?_ aq;rw[sh];exact H.aV.new (St gM qW c4)
 ·cases he
omit [Lib P] in
theorem Tp (H:kc cf B W ak ro post NX o n env L ay Q M) {e:gI} (he:Fj cf n o=some e) {k:aN} (h:NX (n+e.2.2.2) e.2.1 e.2.2.1=some k) (hw:b7 B W ak ro post n env L ay (e.1 k)): @gd (bC M env) eu P cf.N B W Q o:=by
 unfold Fj at he;split at he
 ·rename_i t m i x cd
  cases U:aF m&&(aF i&&aF x) with
  |false=>rw[U] at he;cases he
  |true=>
   rw[U,a7] at he;simp only [b4] at U;obtain⟨qt,rY,Tq⟩:=U;obtain⟨q,aA,rfl⟩:=Option.map_eq_some_iff.1 he;obtain⟨dB,bx,cv,e4,f_,dx,av⟩:=n5 aA;letI:=eu;have hm:∀M',fo (bC M env) (bC M' env) bx:=λM'=>tR (FZ M M' H.ah) e4
   have e_:=λv=>gR M H.ax H.ah v
   cases hw with
   | @sc _ _ _ _ _ eI el _ _ _ tQ jO _ d g es K c4 aE hL Tr J ag hk aB ao=>
     have hy:=iN hL;refine Sq (vals2:=env.reverse) (g:=g) (es:=es) c4 cd aE cv dx qt rY Tq ((e_ m).trans Tr) ((e_ i).trans J) ((e_ x).trans ag) (H.aV.sp.ok d _ hy) (H.aV.low g ⟨d,_,hy,rfl⟩) hk aB hm (λM' gM Ts aL w aq=> ?_) (Nat.zero_le _) (fz f_);refine H.rest (m:=0) (bZ:=[]) h ao rfl trivial (M':=M') ?_ aq;rw[p1];exact H.aV.pX d hy (Ss gM Ts)
 ·cases he
theorem Tt (H:kc cf B W ak ro post NX o n env L ay Q M) {e:gI} (he:Fk P cf n o=some e) {k:aN} (h:NX (n+e.2.2.2) e.2.1 e.2.2.1=some k) (hw:b7 B W ak ro post n env L ay (e.1 k)): @gd (bC M env) eu P cf.N B W Q o:=by
 unfold Fk at he;split at he
 ·rename_i f args r m nz
  cases U:aF r&&(j_ n args&&er args) with
  |false=>rw[U] at he;cases he
  |true=>
   rw[U,a7] at he;simp only [b4] at U;obtain⟨qu,XP,ke⟩:=U;obtain⟨q,aA,rfl⟩:=Option.map_eq_some_iff.1 he;obtain⟨dB,bx,cv,e4,f_,dx,av⟩:=n5 aA;letI:=eu;have rK:∃aY,r8 P o=some (f,args,aY):=by
    unfold E5 at nz;split at nz
    ·rename_i gL ec aY rK
     cases U:er ec&&j_ n ec with
     |false=>rw[U] at nz;cases nz
     |true=>
      rw[U,a7] at nz;split at nz
      ·cases nz;exact⟨aY,rK⟩
      ·cases nz
    ·cases nz
   obtain⟨aY,rK⟩:=rK;have ky:oP P o=(f,args,aY):=by unfold oP;rw[rK];rfl
   cases hw with
   | @call _ _ _ _ _ _ _ _ _ Y is hR vs jn oY hl hm h1 tp hk=>
     refine RT (vals2:=λy=>((vs y).reverse++env).reverse) (r:=λy=>ex ((vs y).reverse++env) (n+m) r) (AB:=λy=>bW (jn y++oY y)) H.aV is (λy=>bW (jn y)) (λy=>bW (oY y)) (by rw[rK];rfl) (by rw[ky]) (by rw[ky]) cv dx (by rw[List.length_map];exact hR)
      (λM' y=>gR M' (nZ (lp (h1 y)) H.ax) (by have:=H.ah;simp only [List.length_append,List.length_reverse,hm];omega) r) (λy=>List.map_append) (λw hw dw bV=> ?_) (λy M'=>tR (l6 M M' H.ah) e4) (λM' y hO aL w aq=> ?_) (λy=>by rw[List.length_map];exact hl y) ke qu (Nat.zero_le _) (fz f_)
     ·rw[mA M H.ax H.ah args]
      exact tp w (Lc H.cy H.aV hw) dw bV
     ·refine H.rest (m:=m) (bZ:=(vs y).reverse) h (hk y) (by rw[List.length_reverse,hm]) (lp (h1 y)) (M':=M') ?_ aq
      rw[show bW (oX L is (jn y)++oY y)=bW (oX L is (jn y))++bW (oY y) from List.map_append,K2];exact hO
 ·cases he
theorem Tu {bL:gA} {cs:List gf} (H:kc cf B W ak ro post NX o n env L ay Q M) (dU:kA cf B W ak ro post bL) (ao:jb cf B W ak post cs ay Q env) {op:Oper} {r:List Oper} {os:Array Oper} {s:cz} {ks:List fM} {e:gI} (he:tM n (some (.oper op r os s ks))=some e) {k:aN} (h:l8 P cf bL (n+e.2.2.2) cs (.ops (op::r) os ks) e.2.1 e.2.2.1=some k) (hw:b7 B W ak ro post n env L ay (e.1 k)): @gd (bC M env) eu P cf.N B W Q (some (.oper op r os s ks)):=by
 unfold tM at he;split at he
 ·rename_i t b z8
  split at he
  ·rename_i c m cap ke
   split at he
   ·rename_i bx e4
    cases U:AS n bx&&(lk (l7 (dA (some (.oper op r os s ks))).A b 0)&&(er c&&(Nat.blt n cP&&(Nat.ble (l7 (dA (some (.oper op r os s ks))).A b 0).length b&&(Nat.blt 0 m&&Nat.ble m cap))))) with
    |false=>rw[U] at he;cases he
    |true=>
     rw[U,a7] at he;simp only [b4] at U;obtain⟨eH,fK,km,mO,uH,uI,uJ⟩:=U;obtain⟨sl,eX,rfl⟩:=Option.map_eq_some_iff.1 he;letI:=eu;cases hw with
     | @lq _ _ _ _ _ _ _ _ K xs ag hm hk=>
       refine RO (q:=n) (vals2:=λg=>(.slice (some ⟨g,0,none⟩) m cap::env).reverse) ke K.len hm (Nat.blt_eq.mp uI) (Nat.ble_eq.mp uJ) km ((mA M H.ax H.ah c).trans ag) (Nat.ble_eq.mp uH) e4 (λM' g=>oZ H (K8 eH) M' _) eX (λg=> ?_) (λM' g hf oM qW c4 tF=> ?_) (Nat.zero_le _) (fz fK)
       ·exact(@IJ (bC M (.slice (some ⟨g,0,none⟩) m cap::env)) n).symm.trans (mE mO H.ah H.ax rfl)
       ·refine⟨_,rfl,λa w aq=> ?_⟩
        refine n3 dU h (hk g) (by simp [H.ah]) ⟨rfl,H.ax⟩ (ao.ext [_]) (M:=M') ?_ aq;rw[sh];exact H.aV.new (Kf hf qW c4 tF)
   ·cases he
  ·cases he
 ·cases he
omit [Lib P] in
theorem o1 {a b:Option gI} {e:gI} (h:nm a b=some e):a=some e\/b=some e:=by
 unfold nm at h;split at h
 ·exact .inl h
 ·exact .inr h
theorem Lj (H:kc cf B W ak ro post NX o n env L ay Q M) {e:gI} (he:AY P cf n o=some e) {k:aN} (h:NX (n+e.2.2.2) e.2.1 e.2.2.1=some k) (hw:b7 B W ak ro post n env L ay (e.1 k)): @gd (bC M env) eu P cf.N B W Q o:=by
 unfold AY at he;rcases o1 he with he|he
 ·exact Td H he h hw
 rcases o1 he with he|he
 ·exact Te H he h hw
 rcases o1 he with he|he
 ·exact Tf H he h hw
 rcases o1 he with he|he
 ·exact Tg H he h hw
 rcases o1 he with he|he
 ·exact Th H he h hw
 rcases o1 he with he|he
 ·exact Ti H he h hw
 rcases o1 he with he|he
 ·exact Tj H he h hw
 rcases o1 he with he|he
 ·exact Tk H he h hw
 rcases o1 he with he|he
 ·exact Tl H he h hw
 rcases o1 he with he|he
 ·exact Tn H he h hw
 rcases o1 he with he|he
 ·exact Tp H he h hw
 ·exact Tt H he h hw
end
section
variable {bL:gA} {n:Nat} {env:List I} {L:List (aI P)} {ay:List (df P)} {cs:List gf} {Q:Exit->Act->aj->Prop} {M:Mem}
structure si (cf:fH) (B:Nat) (W:aj) (ak:List cr) (ro:List (eB P)) (post:I->List (aI P)->Prop) (bL:gA) (n:Nat) (env:List I) (L:List (aI P)) (ay:List (df P)) (cs:List gf) (Q:Exit->Act->aj->Prop) (M:Mem):Prop where
 cy:∀M,jP (aS W) ak M->fi ro M
 dU:kA cf B W ak ro post bL
 ah:env.length=n
 ax:dX env
 ao:jb cf B W ak post cs ay Q env
 aV:cB B (aS W) ak M (bW L)
theorem si.n0 (H:si cf B W ak ro post bL n env L ay cs Q M) (o:Option bT):kc cf B W ak ro post (λdS sl aQ=>l8 P cf bL dS cs (KP o) sl aQ) o n env L ay Q M where
 cy:=H.cy
 ah:=H.ah
 ax:=H.ax
 aV:=H.aV
 cont h hw hm h1 my aq:=n3 H.dU h hw (by have:=H.ah;simp only [List.length_append];omega) (nZ h1 H.ax) (H.ao.ext _) my aq
theorem Tv (H:si cf B W ak ro post bL n env L ay cs Q M) {o:Option bT} {t:aN} (h:Fz P cf bL n cs o=some t) (hw:b7 B W ak ro post n env L ay t): @gd (bC M env) eu P cf.N B W Q o:=by
 unfold Fz at h;split at h
 ·rename_i kv sl aQ m he
  obtain⟨k,hk,rfl⟩:=Option.map_eq_some_iff.1 h;exact Lj (H.n0 o) he hk hw
 ·cases h
end
omit [Lib P] in
theorem F0:∀(a b:aN),gN a b=true->a=b:=by
 intro a
 induction a<;>intro b h<;>cases b<;>simp only [gN,b4,Bool.false_eq_true,Fu,decide_eq_true_eq] at h
 case o.o bI _ _ _ _ _=>rw[Dk h.1,eV _ _ h.2.1,bJ h.2.2.1,h.2.2.2.1,bI _ h.2.2.2.2]
 case s.s mK mL _ _ _ _=>rw[Dk h.1,h.2.1,mK _ h.2.2.1,mL _ h.2.2.2]
 case c.c bI _ _ _ _ _=>rw[bJ h.1,lO _ _ h.2.1,eV _ _ h.2.2.1,bJ h.2.2.2.1,bI _ h.2.2.2.2]
 case cs.cs mK mL _ _ _ _=>rw[bJ h.1,lO _ _ h.2.1,mK _ h.2.2.1,mL _ h.2.2.2]
 case a1.a1 mK mL _ _ _=>rw[eV _ _ h.1,mK _ h.2.1,mL _ h.2.2]
 case sa.sa mK mL Tw _ _ _ _ _=>rw[eV _ _ h.1,mK _ h.2.1,mL _ h.2.2.1,bJ h.2.2.2.1,Tw _ h.2.2.2.2]
 case no.no=>rfl
 case oU.oU bI _ _ _=>rw[bJ h.1,lO _ _ h.2.1,bI _ h.2.2]
 case alt.alt mK mL _ _=>rw[mK _ h.1,mL _ h.2]
 case qZ.qZ=>rw[bJ h.1,eV _ _ h.2]
 case oR.oR bI _ _ _ _=>rw[bJ h.1,eV _ _ h.2.1,lO _ _ h.2.2.1,bI _ h.2.2.2]
 case ret.ret=>rw[eV _ _ h]
 case back.back=>rw[lO _ _ h]
 case loop.loop bI _ _ _=>rw[lO _ _ h.1,bJ h.2.1,bI _ h.2.2]
 case cu.cu bI _=>rw[bI _ h]
 case st.st bI _ _ _ _=>rw[bJ h.1,eV _ _ h.2.1,eV _ _ h.2.2.1,bI _ h.2.2.2]
 case ic.ic bI _ _ _ _=>rw[bJ h.1,eV _ _ h.2.1,lO _ _ h.2.2.1,bI _ h.2.2.2]
 case qY.qY bI _ _ _ _=>rw[bJ h.1,eV _ _ h.2.1,eV _ _ h.2.2.1,bI _ h.2.2.2]
 case mk.mk bI _ _ _=>rw[bJ h.1,eV _ _ h.2.1,bI _ h.2.2]
 case lq.lq bI _ _ _ _=>rw[lO _ _ h.1,bJ h.2.1,bJ h.2.2.1,bI _ h.2.2.2]
 case lt.lt bI _ _ _=>rw[bJ h.1,eV _ _ h.2.1,bI _ h.2.2]
 case oT.oT bI _ _ _=>rw[bJ h.1,eV _ _ h.2.1,bI _ h.2.2]
 case hT.hT bI _ _=>rw[bJ h.1,bI _ h.2]
 case sb.sb bI _ _=>rw[bJ h.1,bI _ h.2]
 case sc.sc bI _ _ _ _ _=>rw[bJ h.1,eV _ _ h.2.1,eV _ _ h.2.2.1,eV _ _ h.2.2.2.1,bI _ h.2.2.2.2]
 case call.call bI _ _ _ _ _=>rw[bJ h.1,lO _ _ h.2.1,eV _ _ h.2.2.1,bJ h.2.2.2.1,bI _ h.2.2.2.2]
omit [Lib P] in
theorem Tx {x:aN} {n:Nat} {env:List I} {L:List (aI P)} {ay:List (df P)}:∀(t:aN),vU x t=true->b7 B W ak ro post n env L ay t->b7 B W ak ro post n env L ay x:=by
 intro t
 induction t with
 |alt a b _ bI=>
  intro h hw;cases hw with
  |alt h1 ad=>
   have h:(gN x a||vU x b)=true:=h;rw[Bool.or_eq_true] at h;rcases h with h|h
   ·rw[F0 _ _ h];exact h1
   ·exact bI h ad
 |_=>exact λh hw=>by rw[F0 _ _ h];exact hw
omit [Lib P] in
theorem Ty {n:Nat} {env:List I} {L:List (aI P)} {ay:List (df P)}:∀(x y:aN),b7 B W ak ro post n env L ay (A3 x y)->b7 B W ak ro post n env L ay x/\b7 B W ak ro post n env L ay y:=by
 have base:∀x y:aN,b7 B W ak ro post n env L ay (bif vU x y then y else .alt x y)->b7 B W ak ro post n env L ay x/\b7 B W ak ro post n env L ay y:=λx y hw=>by
  cases he:vU x y with
  |false=>
   rw[he,cV] at hw;cases hw with
   |alt h1 ad=>exact⟨h1,ad⟩
  |true=>
   rw[he,a7] at hw;exact⟨Tx _ he hw,hw⟩
 intro x
 induction x with
 |alt a b Tz TA=>
  intro y hw;obtain⟨h1,ad⟩:=Tz _ hw;obtain⟨al,bb⟩:=TA _ ad;exact⟨.alt h1 al,bb⟩
 |_=>exact λy hw=>base _ y hw
omit [Lib P] in
theorem Lk {n:Nat} {env:List I} {L:List (aI P)} {ay:List (df P)}:∀{l:List (Option aN)} {t:aN},A4 l=some t->b7 B W ak ro post n env L ay t->∀x∈l,∃y,x=some y/\b7 B W ak ro post n env L ay y
 |[],_,h,_=>by cases h
 |[a],t,h,hw=>λx ag=>by
  rw[List.mem_singleton] at ag;rw[ag];exact⟨t,h,hw⟩
 |a::b::r,t,h,hw=>by
  unfold A4 at h;split at h
  ·rename_i x y hr
   rw[bS] at h;subst h;obtain⟨h1,ad⟩:=Ty _ _ hw;intro z bk;rcases List.mem_cons.1 bk with rfl|bk
   ·exact⟨x,rfl,h1⟩
   ·exact Lk hr ad z bk
  ·cases h
omit [Lib P] in
theorem TB {os:Array Oper} {K:Act->aj->Prop} {Q:Exit->Act->aj->Prop} {i:Nat} {o:Oper} {a:Act} {w:aj} (ax:os[i]? =some o) (h:wpListIn (Fr none) 0 P os (Exit.then K Q) [o] a w):wpOpIn (Fr none) 0 P os Q i K a w:=by
 unfold wpListIn at h;unfold wpOpIn;rw[ax];simp only;split at h
 ·rename_i hh
  rw[aR hh];unfold Oper.wpIn at h ⊢;refine⟨h.1,?_⟩;have ad:=h.2;generalize (o.semAt (Fr none).round a.eval).run P w=r at ad;cases r with
  |ok x w'=>cases x<;>exact ad
  |halt x w'=>cases x<;>exact ad
 ·rename_i hh
  rw[aW hh];exact h
section
variable {bL:gA} {n:Nat} {env:List I} {L:List (aI P)} {ay:List (df P)} {cs:List gf} {Q:Exit->Act->aj->Prop} {M:Mem}
omit [Lib P] in
theorem F1 (dU:kA cf B W ak ro post bL) {pl:gy} {F:gS} {T:gY} {sl:bh} {aQ:List cm} {t:aN} (h:vV bL n cs pl F T sl aQ=some t) (hw:b7 B W ak ro post n env L ay t) (ah:env.length=n) (ax:dX env) (ao:jb cf B W ak post cs ay Q env) (cS:jq B W ak L env F) (c9:jr B W ak L env T) (aV:cB B (aS W) ak M (bW L)) {a:Act} {w:aj} (aq:ie cf B W M env (hP sl aQ) a w):pl.Ok P Q a w:=
 A8 dU h hw ah ax ao cS c9 aV λU=>v7 (yk n _) (Lb U) aq
omit [Lib P] in
theorem Ll (dU:kA cf B W ak ro post bL) {pl:gy} {F:gS} {T:gY} {s:cz} {t:aN} (h:A5 bL n cs pl F T s=some t) (hw:b7 B W ak ro post n env L ay t) (ah:env.length=n) (ax:dX env) (ao:jb cf B W ak post cs ay Q env) (cS:jq B W ak L env F) (c9:jr B W ak L env T) (aV:cB B (aS W) ak M (bW L)) {a:Act} {w:aj} (aq:ie cf B W M env s a w):pl.Ok P Q a w:=by
 unfold A5 at h;cases hs:sf s with
 |false=>rw[hs] at h;cases h
 |true=>
  rw[hs,a7] at h;exact A8 dU h hw ah ax ao cS c9 aV λU=>v7 (yk n _) (FM hs U) aq
omit [Lib P] in
theorem F2 [c0 P] {N:Nat} {os:Array Oper} {l:Array Bool} {sl:bh}:∀{kN:List Nat} {i:Nat} {c8:bh},yf P N os l sl kN=some (i,c8)->i∈kN/\A6 P N os l sl i=some c8
 |[],i,c8,h=>by cases h
 |j::r,i,c8,h=>by
  unfold yf at h;split at h
  ·rename_i q aA
   cases h;exact⟨List.mem_cons_self,aA⟩
  ·obtain⟨h1,ad⟩:=F2 h
   exact⟨List.mem_cons_of_mem _ h1,ad⟩
omit [Lib P] in
theorem TC [aX] {φ:bn} {ρ':Operand->I} {o:Oper} {t:Operand} {i:Nat} {x v:I} (ag:ar φ x (ρ' t)) (h:wU x i=some v) (ct:o.op= .extract t i):∃au,(∀w,(execOp ρ' o).run P w= .ok (.value au) w)/\ar φ v au:=by
 cases x with
 |tuple cs=>
  obtain⟨cs⟩:=cs;have h:cs[i]? =some v:=h;cases aA:ρ' t with
  |tuple cs'=>
   rw[aA] at ag;cases ag with
   |tuple _ _ h1 ad=>
    obtain⟨aM,_⟩:=List.getElem?_eq_some_iff.1 h;have mj:i<cs'.size:=by rw[<-h1];simpa using aM
    refine⟨cs'[i],λw=> ?_,?_⟩
    ·unfold execOp
     rw[ct];simp [aA,Instr.extract,mj,Sem.run,pure]
    ·have:=ad i (by simpa using aM)
     simp only [dD,List.getElem?_toArray,h,Option.getD_some] at this;simpa [mj] using this
  |_=>rw[aA] at ag;cases ag
 |_=>cases h
omit [Lib P] in
theorem TD [aX] [c0 P] (cS:lQ P) {φ:bn} {ρ ρ':Operand->I} {o:Oper} {v:I} (b9:∀x,ar φ (ρ x) (ρ' x)) (h:Fw P ρ o=some v):(∃au,(∀w,(execOp ρ' o).run P w= .ok (.value au) w)/\ar φ v au)/\vW o=true:=by
 unfold Fw at h;unfold vW;split at h
 ·rename_i c x y ct
  split at h
  ·rename_i b ao
   cases h;have U:=b9 c;rw[ao] at U;have cK:ρ' c= .bool b:=by
    generalize ρ' c=u at U;cases U;rfl
   refine⟨⟨bif b then ρ' x else ρ' y,λw=> ?_,?_⟩,by rw[ct]⟩
   ·unfold execOp
    rw[ct];simp only [cK];cases b<;>rfl
   ·cases b
    ·exact b9 y
    ·exact b9 x
  ·cases h
 ·rename_i t i ct
  refine⟨TC (b9 t) h ct,by rw[ct]⟩
 case h_9 c ct=>
  split at h
  ·rename_i b U
   split at h
   ·rename_i f aB
    cases hp:u1 f with
    |false=>rw[hp] at h;cases h
    |true=>
     rw[hp,a7] at h;exact⟨u4 cS b9 h λgL jF=>by rw[aB] at jF;cases jF;exact hp,by rw[ct];dsimp only;rw[U]⟩
   ·cases h
  ·cases h
 case h_10 ct=>exact⟨u4 cS b9 h λf aB=>by unfold lP at aB;rw[ct] at aB;cases aB;rfl,by rw[ct]⟩
 all_goals first
  |(rename_i ct;refine⟨zH cS b9 h,by rw[ct]⟩)
  |cases h
omit [Lib P] in
theorem Lm [aX] {N:Nat} {ds:List Deferred} {os:Array Oper} {φ:bn} {sl:bh} {a:Act} {o:Oper} {b:Bool} (hs:et N ds φ sl a) (h:Fv N os sl o=some b):Region.wanted o (yielded os a.tmps)=b:=by
 unfold Fv at h;unfold Region.wanted;split at h
 ·rename_i av
  rw[av];cases h;rfl
 ·rename_i j want av
  rw[av];dsimp only;split at h
  ·rename_i t aE
   cases aM:Nat.blt t N with
   |false=>rw[aM] at h;cases h
   |true=>
    rw[aM,a7] at h;split at h
    ·rename_i b' cK
     cases h;have aw:=hs.get t _ cK;have U:a.tmps.getD t undef= .bool b':=by
      generalize a.tmps.getD t undef=u at aw;cases aw;rfl
     have ev:t<a.tmps.size:=by rw[hs.size];exact Nat.blt_eq.mp aM
     have aT:yielded os a.tmps j=some b':=by
      unfold yielded;have aH:((os[j]?).bind (·.dst)).bind (a.tmps[·]?)=some (.bool b'):=by
       have:(os[j]?).bind (·.dst)=some t:=aE;rw[this];simp only [Option.bind_some];rw[dD,Array.getElem?_eq_getElem ev] at U;rw[Array.getElem?_eq_getElem ev];exact congrArg some U
      rw[aH]
     rw[aT];cases b'<;>cases want<;>rfl
    ·cases h
  ·cases h
omit [Lib P] in
theorem Ln [aX] [c0 P] (cS:lQ P) {N:Nat} {ds:List Deferred} {os:Array Oper} {Q:Exit->Act->aj->Prop} (ku:Region.noSelect os=true) (lh:∀c a w,¬Q (.panic c) a w) {φ:bn} {w:aj} {a_:Nat} {l:Array Bool} {sl c8:bh} {i:Nat} {a:Act} (hs:et N ds φ sl a) (J:i∈Region.ready .any os l) (h:A6 P N os l sl i=some c8)
  (hk:∀aL,et N ds φ c8 aL->wpAnyIn (Fr none) 0 P .any os Q a_ (l.setIfInBounds i true) aL w):wpAnyIn (Fr none) 0 P .any os Q (a_+1) l a w:=by
 have about:∀{o:Oper},vW o=true->∀w,o.about P w a.eval=none:=by
  intro o ax w;unfold Oper.about;unfold vW at ax;split at ax
  ·rename_i c ao
   split at ax
   ·rename_i b U
    unfold resolve;simp only [ao,U];rfl
   ·cases ax
  ·rename_i ah
   split
   ·rename_i c ao
    exact absurd ao (ah c)
   ·rfl
 unfold A6 at h;split at h
 ·rename_i o ax
  split at h
  ·rename_i av
   have tg:=Lm hs av;split at h
   ·rename_i v ou
    cases tf:Region.free .any os l i with
    |false=>rw[tf] at h;cases h
    |true=>
     rw[tf,a7] at h;obtain⟨⟨au,eo,aw⟩,tB⟩:=TD cS (fy (hg φ) hs.get) ou;exact wpAnyIn_take (F:=Fr none) rfl ax ku tf (List.contains_iff_mem.2 J) (λc a w h=>absurd h (lh c _ w)) ⟨.inl ⟨tg,eo⟩,about tB⟩ (hk _ (hs.put aw h))
   ·cases h
  ·rename_i av
   have tg:=Lm hs av;cases U:vW o&&Region.free .any os l i with
   |false=>rw[U] at h;cases h
   |true=>
    rw[U,a7] at h;rw[b4] at U;exact wpAnyIn_take (F:=Fr none) rfl ax ku U.2 (List.contains_iff_mem.2 J) (λc a w h=>absurd h (lh c _ w)) ⟨.inr ⟨tg,rfl⟩,about U.1⟩ (hk _ (hs.put (ar.rz φ) h))
  ·cases h
 ·cases h
omit [Lib P] in
theorem Lo [aX] [c0 P] (cS:lQ P) {N:Nat} {ds:List Deferred} {os:Array Oper} {Q:Exit->Act->aj->Prop} (ku:Region.noSelect os=true) (lh:∀c a w,¬Q (.panic c) a w) {φ:bn} {w:aj}:∀(a_:Nat) (l:Array Bool) (sl:bh) (a:Act),et N ds φ sl a->
  (∀aL,et N ds φ (vX P N os a_ l sl).2.2 aL->wpAnyIn (Fr none) 0 P .any os Q (vX P N os a_ l sl).1 (vX P N os a_ l sl).2.1 aL w)->wpAnyIn (Fr none) 0 P .any os Q a_ l a w
 |0,l,sl,a,hs,hk=>hk a hs
 |a_+1,l,sl,a,hs,hk=>by
  unfold vX at hk;split at hk
  ·rename_i i c8 J
   obtain⟨h1,ad⟩:=F2 J;exact Ln cS ku lh hs h1 ad λaL mX=>Lo cS ku lh a_ _ c8 aL mX hk
  ·exact hk a hs
theorem TE (cn:P.follows .mixedOrders=true) (H:si cf B W ak ro post bL n env L ay cs Q M) {a_:Nat} {os:Array Oper} {listed:Array Bool} {ks:List fM} {s:cz} {F:gS} {T:gY} {i:Nat} {t:aN} (h:anyOp P cf bL n cs a_ os listed ks s F T i=some t) (hw:b7 B W ak ro post n env L ay t) (cS:jq B W ak L env F) (c9:jr B W ak L env T) {a:Act} {w:aj} (aq:ie cf B W M env s a w):
  wpOpIn (Fr none) 0 P os (dz P ks Q) i (wpAnyIn (Fr none) 0 P .any os (dz P ks Q) a_ (listed.setIfInBounds i true)) a w:=by
 unfold anyOp at h;split at h
 ·cases h
 ·rename_i o ax
  refine TB ax ?_;letI:=bC M env;letI:=eu;split at h
  ·rename_i c8 aY cd
   letI:c0 P:=⟨F⟩;letI:pR P:=⟨T⟩;have b1:=xF (gl:= .nil) (a_:=1000) cn (cS M H.aV []) (λp hp=>(c9 M H.aV [] p hp).Jv) cf.d;exact JB (l1:=[o]) (s:=s) b1 [] (by simp only [pF,cd]) aq λaL w' oF=>Ll (pl:= .any a_ os (listed.setIfInBounds i true) ks) H.dU h hw H.ah H.ax H.ao cS c9 H.aV oF
  ·split at h
   ·rename_i kv cW KZ m he
    obtain⟨k,hk,rfl⟩:=Option.map_eq_some_iff.1 h;have TF:kc cf B W ak ro post (λdS sl aQ=>vV bL dS cs (.any a_ os (listed.setIfInBounds i true) ks) (vO cf.marks) [] sl aQ) (some (.oper o [] os s [])) n env L ay (Exit.then (wpAnyIn (Fr none) 0 P .any os (dz P ks Q) a_ (listed.setIfInBounds i true)) (dz P ks Q)) M:=
     {cy:=H.cy,ah:=H.ah,ax:=H.ax,aV:=H.aV
      cont:=λh hw hm h1 my aq=>F1 (pl:= .any a_ os (listed.setIfInBounds i true) ks) H.dU h hw (by have:=H.ah;simp only [List.length_append];omega) (nZ h1 H.ax) (H.ao.ext _) (jq.marks _ _ _) (jr.nil _ _) my aq}
    obtain⟨st,cd,cU⟩:=Lj TF he hk hw;cases cd;exact cU a w aq
   ·cases h
omit [Lib P] in
theorem F3 {n:Nat} {os:Array Oper} {s:cz} {e:gI}:∀{kN:List Nat},yg n os s kN=some e->∃o,tM n (some (.oper o [] os s []))=some e
 |[],h=>by cases h
 |i::r,h=>by
  unfold yg at h;split at h
  ·split at h
   ·rename_i e' he
    cases h;exact⟨_,he⟩
   ·exact F3 h
  ·exact F3 h
omit [Lib P] in
theorem TG (H:si cf B W ak ro post bL n env L ay cs Q M) {op:Oper} {r:List Oper} {os:Array Oper} {s:cz} {ks:List fM} {e:gI} (he:tM n (some (.oper op r os s ks))=some e) {k:aN} (hw:b7 B W ak ro post n env L ay (e.1 k)) {a:Act} {w:aj} (aq:ie cf B W M env s a w):
  ∃(v:I) (L':List (aI P)) (M':Mem),b7 B W ak ro post (n+e.2.2.2) (v::env) L' ay k/\e.2.2.2=1/\lX v=v/\cB B (aS W) ak M' (bW L')/\ie cf B W M' (v::env) (hP e.2.1 e.2.2.1) a w:=by
 unfold tM at he;split at he
 ·rename_i t b z8
  split at he
  ·rename_i c m cap ke
   split at he
   ·rename_i bx e4
    cases U:AS n bx&&(lk (l7 (dA (some (.oper op r os s ks))).A b 0)&&(er c&&(Nat.blt n cP&&(Nat.ble (l7 (dA (some (.oper op r os s ks))).A b 0).length b&&(Nat.blt 0 m&&Nat.ble m cap))))) with
    |false=>rw[U] at he;cases he
    |true=>
     rw[U,a7] at he;simp only [b4] at U;obtain⟨eH,fK,km,mO,uH,uI,uJ⟩:=U;obtain⟨sl,eX,rfl⟩:=Option.map_eq_some_iff.1 he;letI:=eu;cases hw with
     | @lq _ _ _ _ _ _ _ _ K xs ag hm hk=>
       unfold AA at ke;dsimp only at ke;split at ke
       ·rename_i F4 TH
        split at ke
        ·rename_i cs' dQ
         cases lK:(Nat.beq F4.da 0&&(Nat.beq F4.bQ b&& !F4.ro)) with
         |false=>rw[lK] at ke;cases ke
         |true=>
          rw[lK,a7] at ke;simp only [b4] at lK;split at ke
          ·rename_i b' dS c' tH
           cases lM:Nat.beq b' b with
           |false=>rw[lM] at ke;cases ke
           |true=>
            rw[lM,a7] at ke;cases ke;have EP:=bJ lM;subst EP;obtain⟨g,M',q1,aJ,cg,dn,fe,iH⟩:=Here.Ke (q:=n) (vals2:=λg=>(.slice (some ⟨g,0,none⟩) m cap::env).reverse) K.len hm (Nat.blt_eq.mp uI) (Nat.ble_eq.mp uJ) aq TH dQ (bJ lK.1) (bJ lK.2.1) km ((mA M H.ax H.ah c).trans ag) (Nat.ble_eq.mp uH) tH e4 (λM' g=>show fo (bC M env) (bC M' (.slice (some ⟨g,0,none⟩) m cap::env)) bx from tR (l6 M M' (bZ:=[.slice (some ⟨g,0,none⟩) m cap]) H.ah) (K8 eH)) eX (λg=>(@IJ (bC M (.slice (some ⟨g,0,none⟩) m cap::env)) n).symm.trans (mE mO H.ah H.ax rfl)) (Nat.zero_le _) (fz fK);refine⟨_,_,M',hk g,rfl,rfl,?_,iH⟩;rw[sh];exact H.aV.new (Kf q1 cg dn fe)
          ·cases ke
        ·cases ke
       ·cases ke
   ·cases he
  ·cases he
 ·cases he
theorem TI (cn:P.follows .mixedOrders=true) (H:si cf B W ak ro post bL n env L ay cs Q M) {a_:Nat} {os:Array Oper} {listed:Array Bool} {ks:List fM} {sl:bh} {aQ:List cm} {F:gS} {T:gY} {t:aN} (h:Fx P cf bL n cs a_ os listed ks sl aQ F T=some t) (hw:b7 B W ak ro post n env L ay t) (cS:jq B W ak L env F) (c9:jr B W ak L env T) {a:Act} {w:aj} (aq:ie cf B W M env (hP sl aQ) a w):
  wpAnyIn (Fr none) 0 P .any os (dz P ks Q) a_ listed a w:=by
 unfold Fx at h;split at h
 ·rename_i hr
  exact wpAnyIn_done hr (n3 (pl:= .k .normal ks) H.dU h hw H.ah H.ax H.ao H.aV aq) a_
 ·rename_i kN ch
  split at h
  ·cases h
  ·rename_i a_
   split at h
   ·rename_i i c8 o0
    cases ku:Region.noSelect os with
    |false=>rw[ku] at h;cases h
    |true=>
     rw[ku,a7] at h;obtain⟨h1,ad⟩:= @F2 P ⟨F⟩ _ _ _ _ _ _ _ o0;obtain⟨⟨φ,ds,q1,aJ,cg,dn,fe⟩,iH,nK⟩:=aq;letI:=bC M env;letI:=eu;have Lp:j7 (dz P ks Q):=H.ao.calm.pU ks;refine @Ln P (bC M env) ⟨F⟩ (cS M H.aV []) _ _ _ _ ku Lp _ _ _ _ _ _ _ _ aJ h1 ad λaL mX=> ?_
     refine @Lo P (bC M env) ⟨F⟩ (cS M H.aV []) _ _ _ _ ku Lp _ _ a_ _ _ aL mX λa2 TJ=> ?_
     exact F1 (pl:= .any _ os _ ks) H.dU h hw H.ah H.ax H.ao cS c9 H.aV ⟨⟨φ,ds,q1,TJ,cg,dn,fe⟩,iH,nK⟩
   ·split at h
    ·rename_i e qu
     obtain⟨o,he⟩:=F3 qu;obtain⟨k,hk,rfl⟩:=Option.map_eq_some_iff.1 h;obtain⟨v,L',M',nA,h1,aw,my,oF⟩:=TG H he hw aq;exact F1 (pl:= .any (a_+1) os listed ks) H.dU hk nA (by have:=H.ah;rw[h1,List.length_cons,this]) ⟨aw,H.ax⟩ (H.ao.ext [v]) (jq.marks _ _ _) (jr.nil _ _) my oF
    ·refine wpAnyIn_all rfl ch λi J=> ?_
     obtain⟨y,e,aT⟩:=Lk h hw _ (List.mem_map.2 ⟨i,J,rfl⟩);exact TE cn H e aT cS c9 aq
end
theorem TK (cn:P.follows .mixedOrders=true) {bL:gA} {n:Nat} {env:List I} {L:List (aI P)} {ay:List (df P)} {cs:List gf} {Q:Exit->Act->aj->Prop} {M:Mem} (H:si cf B W ak ro post bL n env L ay cs Q M) {FB:Option I} {F:gS} {T:gY} {o:Option bT} {t:aN} (h:FA P cf bL n cs FB F T o=some t) (hw:b7 B W ak ro post n env L ay t) (cS:jq B W ak L env F) (c9:jr B W ak L env T): @gd (bC M env) eu P cf.N B W Q o:=by
 letI:=eu;unfold FA at h;split at h
 ·rename_i id os s ks
  split at h
  ·rename_i v
   refine⟨_,rfl,λa w aq=> ?_⟩;obtain⟨b,U,hk⟩:=FY H.dU h hw H.ah H.ax H.ao H.aV aq;cases b with
   |true=>exact hk
   |false=>exact hk
  ·refine⟨_,rfl,λa w aq=>wpIn_region_any cn ?_⟩
   have aA:ie cf B W M env s a {w with drawn:=w.drawn+1}:= @Here.quiet (bC M env) eu _ _ _ _ _ _ _ aq ⟨⟨rfl,rfl,rfl,bM _,λ_ _=>rfl⟩,Nat.le_succ _⟩;exact Ll (pl:= .any os.size os (Array.replicate os.size false) ks) H.dU h hw H.ah H.ax H.ao cS c9 H.aV aA
 ·exact⟨_,rfl,λa w aq=>S9 H.dU h hw H.ah H.ax H.ao H.aV aq⟩
 ·exact⟨_,rfl,λa w aq=>Ta H.dU h hw H.ah H.ax H.ao H.aV aq⟩
 ·rename_i c x y s ks
  cases hp:aF (dh .nil s.sl c) with
  |false=>rw[hp] at h;cases h
  |true=>
   rw[hp,a7] at h;refine⟨_,rfl,λa w aq=> ?_⟩;split at h
   ·obtain⟨b,U,hk⟩:=Tc H.dU h hw H.ah H.ax H.ao H.aV aq
    exact wpIn_cond (t:=b) ((Lh hp aq).trans U) hk
   obtain⟨b,U,hk⟩:=FY H.dU h hw H.ah H.ax H.ao H.aV aq;refine wpIn_cond (t:=b) ((Lh hp aq).trans U) ?_;cases b with
   |true=>exact hk
   |false=>exact hk
 ·rename_i op r os s ks
  split at h
  ·rename_i v aw
   refine⟨_,rfl,λa w aq=> ?_⟩;obtain⟨b,U,hk⟩:=FY H.dU h hw H.ah H.ax H.ao H.aV aq;cases b with
   |true=>exact hk
   |false=>exact hk
  ·split at h
   ·rename_i kv sl aQ m he
    obtain⟨k,hk,rfl⟩:=Option.map_eq_some_iff.1 h;exact Tu (H.n0 (some (.oper op r os s ks))) H.dU H.ao he hk hw
   ·exact Tv H h hw
 ·cases h
theorem TL (cn:P.follows .mixedOrders=true) (cy:∀M,jP (aS W) ak M->fi ro M) {bL:gA} (dU:kA cf B W ak ro post bL):kA cf B W ak ro post (FE P cf bL):=by
 intro n cs pl dy sl aQ F T o t h ji fa bZ L ay Q hw ah fL ax ao cS c9 M aV a w aq;unfold FE at h;split at h
 ·exact FR cy dU h ji hw ah fL ax ao cS c9 M aV a w aq
 ·exact FT cy dU h ji hw ah fL ax ao cS c9 M aV a w aq
 ·split at h
  ·exact FR cy dU h ji hw ah fL ax ao cS c9 M aV a w aq
  ·exact FT cy dU h ji hw ah fL ax ao cS c9 M aV a w aq
  ·have H:si cf B W ak ro post bL n (bZ++fa) L ay cs Q M:=⟨cy,dU,ah,ax,ao.ext bZ,aV⟩
   letI:=bC M (bZ++fa);letI:=eu;exact gy.S7 ao.calm cn (cS M aV []) (λp hp=>(c9 M aV [] p hp).Jv) pl (TK cn H h hw cS c9) (v7 (e1:=fa) (e2:=bZ++fa) (l6 M M fL) ji aq)
theorem TM (cn:P.follows .mixedOrders=true) (cy:∀M,jP (aS W) ak M->fi ro M) {bL:gA} (dU:kA cf B W ak ro post bL):kA cf B W ak ro post (FH P cf bL):=by
 intro n cs pl dy sl aQ F T o t h ji fa bZ L ay Q hw ah fL ax ao cS c9 M aV a w aq;unfold FH at h;split at h
 ·rename_i a_ os listed ks
  split at h
  ·exact FR cy dU h ji hw ah fL ax ao cS c9 M aV a w aq
  ·exact FT cy dU h ji hw ah fL ax ao cS c9 M aV a w aq
  ·exact TI cn ⟨cy,dU,ah,ax,ao.ext bZ,aV⟩ h hw cS c9 (v7 (e1:=fa) (e2:=bZ++fa) (l6 M M fL) ji aq)
 ·exact TL cn cy dU n cs pl dy sl aQ F T o t h ji fa bZ L ay Q hw ah fL ax ao cS c9 M aV a w aq
theorem F5 (cn:P.follows .mixedOrders=true) (cy:∀M,jP (aS W) ak M->fi ro M):∀a_,kA cf B W ak ro post (gen P cf a_)
 |0=>λ_ _ _ _ _ _ _ _ _ _ h=>by cases h
 |a_+1=>TM cn cy (F5 cn cy a_)
def Lq (a:Option aN) (t:aN):Bool:=match a with
 |some x=>gN x t
 |none=>false
theorem cT {a:Option aN} {t:aN} (h:Lq a t=true):a=some t:=by
 unfold Lq at h;split at h
 ·rw[F0 _ _ h]
 ·cases h
theorem TN (cn:P.follows .mixedOrders=true) {f:FuncId} {h:x7} {args vs:List I} {n:Nat} {t:aN} (av:cL P f h args n=some t) (cy:∀M,jP (aS W) [] M->fi ro M) (ah:vs.length=n) (ax:dX vs)
  (hw:b7 W.heap.size W [] ro post n vs.reverse [] [] t):Calls P f ⟨fh vs.reverse n args⟩ W λe w=>A7 W [] post e w/\dJ W.heap.size W w:=by
 unfold cL at av;split at av
 ·rename_i fn lU
  split at av
  ·rename_i c F6
   split at av
   ·rename_i sl ij
    dsimp only at av;cases hp:er args with
    |false=>rw[hp] at av;cases av
    |true=>
     rw[hp,a7] at av;have hl:vs.reverse.length=n:=by simpa using ah
     have jv:=lp ax;letI:=bC (aS W) vs.reverse;rw[<-mA (aS W) jv hl args];refine QV lU F6 ij hp rfl (λi o h=>h) λa aq=> ?_
     letI:=eu;exact n3 (cf:=⟨h,args.length+(fn.ntmps-args.length),fn⟩) (pl:= .k .normal [.jm c]) (F5 cn cy 10000) av hw hl jv (.nil _) (cB.Rw W) aq
   ·cases av
  ·cases av
 ·cases av
theorem TO (cn:P.follows .mixedOrders=true) {f:FuncId} {h:x7} {args vs:List I} {n:Nat} {t:aN} (av:cL P f h args n=some t) (L:List (aI P)) (bV:dg (aS W) (bW L)) (cy:∀M,jP (aS W) (bW L) M->fi ro M) (ah:vs.length=n) (ax:dX vs)
  (hw:b7 0 W (bW L) ro post n vs.reverse L [] t):Calls P f ⟨fh vs.reverse n args⟩ W λe w=>A7 W (bW L) post e w/\dJ 0 W w:=by
 unfold cL at av;split at av
 ·rename_i fn lU
  split at av
  ·rename_i c F6
   split at av
   ·rename_i sl ij
    dsimp only at av;cases hp:er args with
    |false=>rw[hp] at av;cases av
    |true=>
     rw[hp,a7] at av;have hl:vs.reverse.length=n:=by simpa using ah
     have jv:=lp ax;letI:=bC (aS W) vs.reverse;rw[<-mA (aS W) jv hl args];refine Q9 lU F6 ij hp rfl (λi o h=>h) λa aq=> ?_
     letI:=eu;exact n3 (cf:=⟨h,args.length+(fn.ntmps-args.length),fn⟩) (pl:= .k .normal [.jm c]) (F5 cn cy 10000) av hw hl jv (.nil _) (cB.start W _ bV) aq
   ·cases av
  ·cases av
 ·cases av
end AE
namespace AE
variable {P:aC} {B:Nat} {W:aj} {ak:List cr} {ro:List (eB P)} {post:I->List (aI P)->Prop}
structure X (B:Nat) (W:aj) (ak:List cr) (ro:List (eB P)) (post:I->List (aI P)->Prop) (n:Nat) (env:List I) (L:List (aI P)) (ay:List (df P)) (t:aN):Prop where
 go:env.length=n->dX env->b7 B W ak ro post n env L ay t
instance XQ {n:Nat} {env:List I} {L:List (aI P)} {ay:List (df P)} {t:aN}:CoeFun (X B W ak ro post n env L ay t) λ_=>env.length=n->dX env->b7 B W ak ro post n env L ay t:=⟨X.go⟩
inductive h2.{u} {α:Type u}:List α->α->Prop
 |z {a:α} {r:List α}:h2 (a::r) a
 |s {x a:α} {r:List α} (h:h2 r a):h2 (x::r) a
inductive l9.{u} {α:Type u}:List α->Nat->α->α->List α->Prop
 |z {a b:α} {r:List α}:l9 (a::r) 0 a b (b::r)
 |s {d:Nat} {x a b:α} {r cR:List α} (h:l9 r d a b cR):l9 (x::r) (d+1) a b (x::cR)
inductive p2.{u} {α:Type u}:List α->Nat->α->List α->Prop
 |z {a b:α} {r:List α}:p2 (a::r) 0 b (b::r)
 |s {x b:α} {i:Nat} {r cR:List α} (h:p2 r i b cR):p2 (x::r) (i+1) b (x::cR)
inductive ly.{u} {α:Type u}:List α->α->List α->Prop
 |z {a:α}:ly [] a [a]
 |s {x a:α} {r cR:List α} (h:ly r a cR):ly (x::r) a (x::cR)
theorem h2.get.{u} {α:Type u} {l:List α} {a:α} (h:h2 l a):∃i:Nat,l[i]? =some a:=by
 induction h with
 |z=>exact⟨0,rfl⟩
 |s _ bI=>obtain⟨i,J⟩:=bI;exact⟨i+1,by simpa using J⟩
theorem l9.get.{u} {α:Type u} {l l':List α} {d:Nat} {a b:α} (h:l9 l d a b l'):l[d]? =some a/\l'=l.set d b:=by
 induction h with
 |z=>exact⟨rfl,rfl⟩
 |s _ bI=>exact⟨by simpa using bI.1,by rw[bI.2];rfl⟩
theorem p2.eq.{u} {α:Type u} {l l':List α} {i:Nat} {b:α} (h:p2 l i b l'):l'=l.set i b/\i<l.length:=by
 induction h with
 |z=>exact⟨rfl,by simp⟩
 |s _ bI=>exact⟨by rw[bI.1];rfl,by simp;exact bI.2⟩
theorem ly.eq.{u} {α:Type u} {l l':List α} {a:α} (h:ly l a l'):l'=l++[a]:=by
 induction h with
 |z=>rfl
 |s _ bI=>rw[bI];rfl
inductive cx (ro:List (eB P)) (L:List (aI P)) (K:fG P) (v:I) (l:List K.α):Prop
 |ro (h:h2 ro ⟨K,v,l⟩)
 |arr (h:h2 L (.arr K v l))
 |kV (h:h2 L (.kV K v l))
 |red (h:h2 L (.red K v l))
theorem cx.oQ {ro:List (eB P)} {L:List (aI P)} {K:fG P} {v:I} {l:List K.α} (h:cx ro L K v l) {M:Mem} (aV:cB B (aS W) ak M (bW L)) (cy:fi ro M):bH M K.k K.enc v l:=by
 cases h with
 |ro h=>obtain⟨i,J⟩:=h.get;exact cy i _ J
 |arr h=>obtain⟨i,J⟩:=h.get;exact E0 aV J rfl
 |kV h=>obtain⟨i,J⟩:=h.get;exact E0 aV J rfl
 |red h=>obtain⟨i,J⟩:=h.get;exact E0 aV J rfl
theorem cx.at {ro:List (eB P)} {L:List (aI P)} {K:fG P} {v:I} {l:List K.α} (h:cx ro L K v l) {w:aj} (hw:kb W ak ro L w):bH (aS w) K.k K.enc v l:=by
 cases h with
 |ro h=>obtain⟨i,J⟩:=h.get;exact hw.ro i _ J
 |arr h=>obtain⟨i,J⟩:=h.get;exact E1 hw.own J rfl
 |kV h=>obtain⟨i,J⟩:=h.get;exact E1 hw.own J rfl
 |red h=>obtain⟨i,J⟩:=h.get;exact E1 hw.own J rfl
theorem v' {ro:List (eB P)} {L:List (aI P)} {K:fG P} {v:I} {l:List K.α} (h:cx ro L K v l:=by first|(apply cx.ro;(repeat (first|exact h2.z|apply h2.s));done)|(apply cx.arr;(repeat (first|exact h2.z|apply h2.s));done)|(apply cx.kV;(repeat (first|exact h2.z|apply h2.s));done)|(apply cx.red;(repeat (first|exact h2.z|apply h2.s));done)):cx ro L K v l:=h
theorem has {α:Type 1} {l:List α} {a:α} (h:h2 l a:=by repeat (first|exact h2.z|apply h2.s)):h2 l a:=h
section
variable {n q:Nat} {aq:List Nat} {env:List I} {L:List (aI P)} {ay:List (df P)} {k bK b0:aN}
theorem q5 {lV:aX} {f:eZ} {r cR:I} (h: @bE lV P (f,r)) (he: @aK lV cR= @aK lV r) (hr:aF cR=true:=by rfl): @bE lV P (f,cR):=by
 obtain⟨h1,ad,al⟩:=h;refine⟨h1,hr,?_⟩;simp only at al ⊢;rw[he];exact al
theorem A_:∀(m q:Nat),aF (.agg ⟨dt m q⟩)=true
 |0,_=>rfl
 |m+1,q=>by
  have:=A_ m (q+1);unfold aF at this ⊢;unfold dt er;rw[this];rfl
theorem Lr {env:List I} {n:Nat}:∀(m i:Nat) (c:List I),(∀j,j<m->ex env n (bP (i+j))=c.getD j undef)->c.length=m->fh env n (dt m i)=c
 |0,i,c,_,ao=>by rw[List.length_eq_zero_iff.1 ao];rfl
 |m+1,i,[],_,ao=>by simp at ao
 |m+1,i,u::c,h,ao=>by
  unfold dt fh;have h0:=h 0 af;rw[Nat.add_zero] at h0;rw[h0,Lr m (i+1) c (λj hj=>by have:=h (j+1) af;rw[show i+(j+1)=i+1+j by omega] at this;simpa using this) (by simpa using ao)];rfl
theorem TP {env c:List I} {n m:Nat} (ah:env.length=n) (ao:c.length=m) (av:n+m<cP):fh (c.reverse++env) (n+m) (dt m n)=c:=by
 refine Lr m n c (λj hj=> ?_) ao;show (bif Nat.beq 0 0 then (bif Nat.blt (n+j) cP then look (c.reverse++env) (n+m) (n+j) else .pointer (some ⟨n+j-cP,0,none⟩)) else .complex .f64 (n+j) 0)=_;rw[show Nat.beq 0 0=true from rfl,a7,show Nat.blt (n+j) cP=true from Nat.blt_eq.mpr af,a7,AP _ _ _ (by simp [ah,ao];omega),List.reverse_append,List.reverse_reverse,de,List.getElem?_append_right (by simp [ah]),show n+j-env.reverse.length=j by simp [ah],de,fc af];rfl
theorem gO {f:eZ} (v:I) (aB:∀M,cB B (aS W) ak M (bW L)->fi ro M->(∀x,@aK (bC M (v::env)) x=ex (v::env) (q+1) x)-> @aK (bC M (v::env)) (bP q)=v-> @bE (bC M (v::env)) P (f,bP q)) (h:X B W ak ro post (q+1) (v::env) L ay k) (h1:lX v=v) (av:Nat.blt q cP=true) (aA:n=q):X B W ak ro post n env L ay (.o f (bP q) 1 aq k):=by
 subst aA;refine⟨λah ax=> ?_⟩;have jv:dX (v::env):=⟨h1,ax⟩;have eS:(v::env).length=n+1:=by simp [ah]
 exact .o [v] rfl ⟨h1,trivial⟩ (λM aV hr=>aB M aV hr (λx=>gR M jv eS x) (mE av ah ax h1)) (h eS jv)
section
variable {t:az} {x y:I} {kd:IntKind} {a b:Int}
theorem q6 {op:BinOp} {v:I} (ct:Aj op=true) (aw:xQ op kd a b=v) (h1:lX v=v) (ag:ex (v::env) (q+1) x= .int kd a) (aT:ex (v::env) (q+1) y= .int kd b) (h:X B W ak ro post (q+1) (v::env) L ay k) (cw:aF x=true) (eC:aF y=true) (av:Nat.blt q cP=true) (aA:n=q):X B W ak ro post n env L ay (.o (.bin op t x y) (bP q) 1 aq k):=
 gO v (λM _ _ J hs=> @bE.bi (bC M (v::env)) P op t x y (bP q) kd a b cw eC rfl ct ((J x).trans ag) ((J y).trans aT) (hs.trans aw.symm)) h h1 av aA
theorem p3 (ag:ex (.bool (decide (a<b))::env) (q+1) x= .int kd a) (aT:ex (.bool (decide (a<b))::env) (q+1) y= .int kd b) (h:X B W ak ro post (q+1) (.bool (decide (a<b))::env) L ay k) (cw:aF x=true:=by rfl) (eC:aF y=true:=by rfl) (av:Nat.blt q cP=true:=by rfl) (aA:n=q:=by rfl):X B W ak ro post n env L ay (.o (.bin .lss t x y) (bP q) 1 aq k):=q6 ae ae ae ag aT h cw eC av aA
theorem TQ (ag:ex (.bool (decide (a<=b))::env) (q+1) x= .int kd a) (aT:ex (.bool (decide (a<=b))::env) (q+1) y= .int kd b) (h:X B W ak ro post (q+1) (.bool (decide (a<=b))::env) L ay k) (cw:aF x=true:=by rfl) (eC:aF y=true:=by rfl) (av:Nat.blt q cP=true:=by rfl) (aA:n=q:=by rfl):X B W ak ro post n env L ay (.o (.bin .leq t x y) (bP q) 1 aq k):=q6 ae ae ae ag aT h cw eC av aA
theorem yn (ag:ex (.bool (decide (b<a))::env) (q+1) x= .int kd a) (aT:ex (.bool (decide (b<a))::env) (q+1) y= .int kd b) (h:X B W ak ro post (q+1) (.bool (decide (b<a))::env) L ay k) (cw:aF x=true:=by rfl) (eC:aF y=true:=by rfl) (av:Nat.blt q cP=true:=by rfl) (aA:n=q:=by rfl):X B W ak ro post n env L ay (.o (.bin .gtr t x y) (bP q) 1 aq k):=q6 ae ae ae ag aT h cw eC av aA
theorem TR (ag:ex (.bool (decide (b<=a))::env) (q+1) x= .int kd a) (aT:ex (.bool (decide (b<=a))::env) (q+1) y= .int kd b) (h:X B W ak ro post (q+1) (.bool (decide (b<=a))::env) L ay k) (cw:aF x=true:=by rfl) (eC:aF y=true:=by rfl) (av:Nat.blt q cP=true:=by rfl) (aA:n=q:=by rfl):X B W ak ro post n env L ay (.o (.bin .geq t x y) (bP q) 1 aq k):=q6 ae ae ae ag aT h cw eC av aA
theorem q7 (ag:ex (.bool (decide (a=b))::env) (q+1) x= .int kd a) (aT:ex (.bool (decide (a=b))::env) (q+1) y= .int kd b) (h:X B W ak ro post (q+1) (.bool (decide (a=b))::env) L ay k) (cw:aF x=true:=by rfl) (eC:aF y=true:=by rfl) (av:Nat.blt q cP=true:=by rfl) (aA:n=q:=by rfl):X B W ak ro post n env L ay (.o (.bin .eql t x y) (bP q) 1 aq k):=q6 ae ae ae ag aT h cw eC av aA
theorem F7 (ag:ex (.bool (decide (a≠b))::env) (q+1) x= .int kd a) (aT:ex (.bool (decide (a≠b))::env) (q+1) y= .int kd b) (h:X B W ak ro post (q+1) (.bool (decide (a≠b))::env) L ay k) (cw:aF x=true:=by rfl) (eC:aF y=true:=by rfl) (av:Nat.blt q cP=true:=by rfl) (aA:n=q:=by rfl):X B W ak ro post n env L ay (.o (.bin .neq t x y) (bP q) 1 aq k):=q6 (op:= .neq) rfl (congrArg Value.bool (by by_cases h:a=b<;>simp [h])) rfl ag aT h cw eC av aA
theorem kC (ag:ex (.int .i64 (a+b)::env) (q+1) x= .int .i64 a) (aT:ex (.int .i64 (a+b)::env) (q+1) y= .int .i64 b) (h:X B W ak ro post (q+1) (.int .i64 (a+b)::env) L ay k) (v_: -9223372036854775808<=a+b:=by omega) (yo:a+b<=9223372036854775807:=by omega) (cw:aF x=true:=by rfl) (eC:aF y=true:=by rfl) (av:Nat.blt q cP=true:=by rfl) (aA:n=q:=by rfl):X B W ak ro post n env L ay (.o (.bin .add t x y) (bP q) 1 aq k):=q6 rfl (congrArg (Value.int .i64) (wrap64 v_ yo)) rfl ag aT h cw eC av aA
theorem sj (ag:ex (.int .i64 (a-b)::env) (q+1) x= .int .i64 a) (aT:ex (.int .i64 (a-b)::env) (q+1) y= .int .i64 b) (h:X B W ak ro post (q+1) (.int .i64 (a-b)::env) L ay k) (v_: -9223372036854775808<=a-b:=by omega) (yo:a-b<=9223372036854775807:=by omega) (cw:aF x=true:=by rfl) (eC:aF y=true:=by rfl) (av:Nat.blt q cP=true:=by rfl) (aA:n=q:=by rfl):X B W ak ro post n env L ay (.o (.bin .sub t x y) (bP q) 1 aq k):=q6 rfl (congrArg (Value.int .i64) (wrap64 v_ yo)) rfl ag aT h cw eC av aA
theorem kD (ag:ex (.int .i64 (a*b)::env) (q+1) x= .int .i64 a) (aT:ex (.int .i64 (a*b)::env) (q+1) y= .int .i64 b) (h:X B W ak ro post (q+1) (.int .i64 (a*b)::env) L ay k) (v_: -9223372036854775808<=a*b:=by omega) (yo:a*b<=9223372036854775807:=by omega) (cw:aF x=true:=by rfl) (eC:aF y=true:=by rfl) (av:Nat.blt q cP=true:=by rfl) (aA:n=q:=by rfl):X B W ak ro post n env L ay (.o (.bin .mul t x y) (bP q) 1 aq k):=q6 rfl (congrArg (Value.int .i64) (wrap64 v_ yo)) rfl ag aT h cw eC av aA
theorem p4 (ag:ex (.int .i64 (a/b)::env) (q+1) x= .int .i64 a) (aT:ex (.int .i64 (a/b)::env) (q+1) y= .int .i64 b) (h:X B W ak ro post (q+1) (.int .i64 (a/b)::env) L ay k) (h0:0<=a/\a<=9223372036854775807:=by omega) (U:1<=b:=by omega) (cw:aF x=true:=by rfl) (eC:aF y=true:=by rfl) (av:Nat.blt q cP=true:=by rfl) (aA:n=q:=by rfl):X B W ak ro post n env L ay (.o (.bin .quo t x y) (bP q) 1 aq k):=
 gO _ (λM _ _ J hs=> @bE.quo (bC M (_::env)) P t x y (bP q) a b h0 U cw eC rfl ((J x).trans ag) ((J y).trans aT) hs) h rfl av aA
theorem p5 (ag:ex (.int .i64 (a%b)::env) (q+1) x= .int .i64 a) (aT:ex (.int .i64 (a%b)::env) (q+1) y= .int .i64 b) (h:X B W ak ro post (q+1) (.int .i64 (a%b)::env) L ay k) (h0:0<=a/\a<=9223372036854775807:=by omega) (U:1<=b:=by omega) (cw:aF x=true:=by rfl) (eC:aF y=true:=by rfl) (av:Nat.blt q cP=true:=by rfl) (aA:n=q:=by rfl):X B W ak ro post n env L ay (.o (.bin .rem t x y) (bP q) 1 aq k):=
 gO _ (λM _ _ J hs=> @bE.rem (bC M (_::env)) P t x y (bP q) a b h0 U cw eC rfl ((J x).trans ag) ((J y).trans aT) hs) h rfl av aA
theorem Ls {bX:Array az} (ag:ex (.int kd (max a b)::env) (q+1) x= .int kd a) (aT:ex (.int kd (max a b)::env) (q+1) y= .int kd b) (h:X B W ak ro post (q+1) (.int kd (max a b)::env) L ay k) (cw:aF x=true:=by rfl) (eC:aF y=true:=by rfl) (av:Nat.blt q cP=true:=by rfl) (aA:n=q:=by rfl):X B W ak ro post n env L ay (.o (.ep bX t x y) (bP q) 1 aq k):=
 gO _ (λM _ _ J hs=> @bE.QI (bC M (_::env)) P bX t x y (bP q) kd a b cw eC rfl ((J x).trans ag) ((J y).trans aT) hs) h rfl av aA
theorem F8 {bX:Array az} (ag:ex (.int kd (min a b)::env) (q+1) x= .int kd a) (aT:ex (.int kd (min a b)::env) (q+1) y= .int kd b) (h:X B W ak ro post (q+1) (.int kd (min a b)::env) L ay k) (cw:aF x=true:=by rfl) (eC:aF y=true:=by rfl) (av:Nat.blt q cP=true:=by rfl) (aA:n=q:=by rfl):X B W ak ro post n env L ay (.o (.lb bX t x y) (bP q) 1 aq k):=
 gO _ (λM _ _ J hs=> @bE.QJ (bC M (_::env)) P bX t x y (bP q) kd a b cw eC rfl ((J x).trans ag) ((J y).trans aT) hs) h rfl av aA
end
theorem n9 {x:I} {b:Bool} (ag:ex (.bool (!b)::env) (q+1) x= .bool b) (h:X B W ak ro post (q+1) (.bool (!b)::env) L ay k) (cw:aF x=true:=by rfl) (av:Nat.blt q cP=true:=by rfl) (aA:n=q:=by rfl):X B W ak ro post n env L ay (.o (.un .not x) (bP q) 1 aq k):=
 gO _ (λM _ _ J hs=>by
  have:= @bE.Rc (bC M (_::env)) P x b (!b) cw ((J x).trans ag) rfl
  exact q5 this (by rw[hs];rfl)) h rfl av aA
theorem TS {t:az} {x y:I} {a b:Bool} (ag:ex (.bool (a==b)::env) (q+1) x= .bool a) (aT:ex (.bool (a==b)::env) (q+1) y= .bool b) (h:X B W ak ro post (q+1) (.bool (a==b)::env) L ay k) (aE:P.underlying t=some .bool:=by kernel_rfl) (cw:aF x=true:=by rfl) (eC:aF y=true:=by rfl) (av:Nat.blt q cP=true:=by rfl) (aA:n=q:=by rfl):X B W ak ro post n env L ay (.o (.bin .eql t x y) (bP q) 1 aq k):=
 gO _ (λM _ _ J hs=>q5 (@bE.xS (bC M (_::env)) P t x y a b _ aE cw eC ((J x).trans ag) ((J y).trans aT) rfl) (by rw[hs];rfl)) h rfl av aA
theorem TT {t:az} {x y:I} {a b:Bool} (ag:ex (.bool (!(a==b))::env) (q+1) x= .bool a) (aT:ex (.bool (!(a==b))::env) (q+1) y= .bool b) (h:X B W ak ro post (q+1) (.bool (!(a==b))::env) L ay k) (aE:P.underlying t=some .bool:=by kernel_rfl) (cw:aF x=true:=by rfl) (eC:aF y=true:=by rfl) (av:Nat.blt q cP=true:=by rfl) (aA:n=q:=by rfl):X B W ak ro post n env L ay (.o (.bin .neq t x y) (bP q) 1 aq k):=
 gO _ (λM _ _ J hs=>q5 (@bE.Rb (bC M (_::env)) P t x y a b _ aE cw eC ((J x).trans ag) ((J y).trans aT) rfl) (by rw[hs];rfl)) h rfl av aA
def jR (v:I) (j k o:Nat):I:=j8 v (j*k+o)
def hG (c:List I):Nat->List I->List I
 |0,e=>e
 |m+1,e=>c.getD m undef::hG c m e
theorem sk:∀(m:Nat) (c e:List I),hG c m e=((List.range m).map λi=>c.getD i undef).reverse++e
 |0,c,e=>rfl
 |m+1,c,e=>by
  unfold hG;rw[sk m c e,List.range_succ];simp
theorem tW (c:List I) (m:Nat) (h:c.length=m):(List.range m).map (λi=>c.getD i undef)=c:=by
 apply List.ext_getElem
 ·simp [h]
 ·intro i h1 ad
  simp only [List.getElem_map,List.getElem_range];rw[de,fc ad];rfl
theorem Lt {α:Type} {l:List α} {j:Nat} (d:α) (h:j<l.length):l[j]? =some (l.getD j d):=by
 rw[de,fc h];rfl
section
variable {t:az} {x y i:I} {kd:IntKind} {K:fG P} {v:I} {l:List K.α}
theorem l_ {a:Option Addr} {m c e:Nat} {ty:az} (ag:ex (.int .i64 (m:Nat)::env) (q+1) x= .slice a m c) (h:X B W ak ro post (q+1) (.int .i64 (m:Nat)::env) L ay k) (aE:P.underlying t=some (.slice e):=by kernel_rfl) (cw:aF x=true:=by rfl) (av:Nat.blt q cP=true:=by rfl) (aA:n=q:=by rfl):X B W ak ro post n env L ay (.o (.len #[t] ty x) (bP q) 1 [0,e] k):=
 gO _ (λM _ _ J hs=> @bE.len (bC M (_::env)) P t ty e x (bP q) a m c cw rfl aE ((J x).trans ag) hs) h rfl av aA
theorem ea {j e aG:Nat} (ag:ex (jR v j K.k 0::env) (q+1) x=v) (J:ex (jR v j K.k 0::env) (q+1) i= .int kd (j:Nat)) (h:X B W ak ro post (q+1) (jR v j K.k 0::env) L ay k) (hs:cx ro L K v l:=by exact v') (hj:j<l.length:=by omega) (aE:P.underlying t=some (.slice K.e):=by kernel_rfl) (cw:aF x=true:=by rfl) (pi:aF i=true:=by rfl) (av:Nat.blt q cP=true:=by rfl) (aA:n=q:=by rfl):
  X B W ak ro post n env L ay (.o (.ca t x i) (bP q) 1 [0,e,aG] k):=
 gO _ (λM aV hr kE ig=> @bE.QK (bC M (_::env)) P K.α K.k K.enc v l (hs.oQ aV hr) t K.e x i (bP q) j kd hj cw pi rfl aE K.size ((kE x).trans ag) ((kE i).trans J) ig) h rfl av aA
theorem F9 {a:Int} {e aG:Nat} (ag:ex (jR v a.toNat K.k 0::env) (q+1) x=v) (J:ex (jR v a.toNat K.k 0::env) (q+1) i= .int kd a) (h:X B W ak ro post (q+1) (jR v a.toNat K.k 0::env) L ay k) (hs:cx ro L K v l:=by exact v') (h0:0<=a:=by omega) (hj:a.toNat<l.length:=by omega) (aE:P.underlying t=some (.slice K.e):=by kernel_rfl) (cw:aF x=true:=by rfl) (pi:aF i=true:=by rfl) (av:Nat.blt q cP=true:=by rfl) (aA:n=q:=by rfl):
  X B W ak ro post n env L ay (.o (.ca t x i) (bP q) 1 [0,e,aG] k):=
 ea ag (by rw[J,Int.toNat_of_nonneg h0]) h hs hj aE cw pi av aA
theorem q8 {j o off ty aG f:Nat} (ag:ex (jR v j K.k (o+off)::env) (q+1) x=jR v j K.k o) (h:X B W ak ro post (q+1) (jR v j K.k (o+off)::env) L ay k) (hs:cx ro L K v l:=by exact v') (hj:j<l.length:=by omega) (aB:((P.fieldsOf t)[f]?).map (λf=>(f.type,f.offset))=some (ty,off):=by kernel_rfl) (aE:aP P (underlying t)=some (.struct (P.fieldsOf t)):=by kernel_rfl) (hm:aP P (sizeOf ty)=some aG:=by kernel_rfl) (h0:aG≠0:=by decide) (cw:aF x=true:=by rfl) (av:Nat.blt q cP=true:=by rfl) (aA:n=q:=by rfl):
  X B W ak ro post n env L ay (.o (.hJ t x f) (bP q) 1 [off,ty,aG] k):=
 gO _ (λM aV hr kE ig=>by
  obtain⟨fD,oN,TU⟩:=Option.map_eq_some_iff.1 aB;cases TU
  exact @bE.QL (bC M (jR v j K.k (o+fD.offset)::env)) P t x (bP q) v f (j*K.k+o) (j*K.k+(o+fD.offset)) (P.fieldsOf t) fD aG cw rfl aE oN hm h0 (@Ko (bC M (jR v j K.k (o+fD.offset)::env)) _ _ _ _ _ (hs.oQ aV hr) j hj) af ((kE x).trans ag) ig) h rfl av aA
theorem TV {j o c m e aG:Nat} (ag:ex (jR v j K.k (o+c*aG)::env) (q+1) x=jR v j K.k o) (J:ex (jR v j K.k (o+c*aG)::env) (q+1) i= .int kd (c:Nat)) (h:X B W ak ro post (q+1) (jR v j K.k (o+c*aG)::env) L ay k) (hs:cx ro L K v l:=by exact v') (hj:j<l.length:=by omega) (ao:c<m:=by omega) (aE:P.underlying t=some (.array m e):=by kernel_rfl) (bk:aP P (sizeOf e)=some aG:=by kernel_rfl) (cw:aF x=true:=by rfl) (pi:aF i=true:=by rfl) (av:Nat.blt q cP=true:=by rfl) (aA:n=q:=by rfl):
  X B W ak ro post n env L ay (.o (.ca t x i) (bP q) 1 [1,m,e,aG] k):=
 gO _ (λM aV hr kE ig=> @bE.Rf (bC M (jR v j K.k (o+c*aG)::env)) P t e x i (bP q) v m aG c (j*K.k+o) (j*K.k+(o+c*aG)) kd cw pi rfl aE bk (@Ko (bC M (jR v j K.k (o+c*aG)::env)) _ _ _ _ _ (hs.oQ aV hr) j hj) ao af ((kE x).trans ag) ((kE i).trans J) ig) h rfl av aA
theorem kf {j o aG:Nat} {u:I} (ag:ex (u::env) (q+1) x=jR v j K.k o) (hu:(K.enc (l.getD j K.AQ))[o]? =some u) (h:X B W ak ro post (q+1) (u::env) L ay k) (hs:cx ro L K v l:=by exact v') (hj:j<l.length:=by omega) (h1:lX u=u:=by rfl) (ha:aP P (isAgg t)=some false:=by kernel_rfl) (cw:aF x=true:=by rfl) (av:Nat.blt q cP=true:=by rfl) (aA:n=q:=by rfl):
  X B W ak ro post n env L ay (.o (.ld t x) (bP q) 1 [aG] k):=
 gO _ (λM aV hr kE ig=> @bE.QM (bC M (_::env)) P K.α K.k K.enc v l (hs.oQ aV hr) t x (bP q) j (j*K.k+o) o (l.getD j K.AQ) u (Lt _ hj) cw rfl ha rfl hu ((kE x).trans ag) ig) h h1 av aA
theorem F' {f:eZ} {m:Nat} (c:List I) (ao:c.length=m) (h1:dX c) (aB:∀M,cB B (aS W) ak M (bW L)->fi ro M->(∀x,@aK (bC M (hG c m env)) x=ex (hG c m env) (q+m) x)-> @aK (bC M (hG c m env)) (.agg ⟨dt m q⟩)= .agg ⟨c⟩-> @bE (bC M (hG c m env)) P (f,.agg ⟨dt m q⟩)) (h:X B W ak ro post (q+m) (hG c m env) L ay k) (av:Nat.blt (q+m) cP=true) (aA:n=q):
  X B W ak ro post n env L ay (.o f (.agg ⟨dt m q⟩) m aq k):=by
 subst aA;refine⟨λah ax=> ?_⟩;have e:hG c m env=c.reverse++env:=by rw[sk,tW c m ao]
 have jv:dX (c.reverse++env):=nZ (lp h1) ax;have eS:(c.reverse++env).length=n+m:=by simp [ah,ao];omega
 have hk:=h;rw[e] at hk;refine .o c ao h1 (λM aV hr=> ?_) (hk eS jv);have:=aB M aV hr;rw[e] at this;refine this (λx=>gR M jv eS x) ?_;rw[gR M jv eS];show Value.agg ⟨fh (c.reverse++env) (n+m) (dt m n)⟩= .agg ⟨c⟩;rw[TP ah ao (Nat.blt_eq.mp av)]
theorem fI {j o aG:Nat} {c:List I} (ag:ex env n x=jR v j K.k o) (hu:c=((K.enc (l.getD j K.AQ)).drop o).take aG) (ao:c.length=aG) (h1:dX c) (h:X B W ak ro post (q+aG) (hG c aG env) L ay k) (hs:cx ro L K v l:=by exact v') (hj:j<l.length:=by omega) (ha:aP P (isAgg t)=some true:=by kernel_rfl) (bk:aP P (sizeOf t)=some aG:=by kernel_rfl) (cw:aF x=true:=by rfl) (yp:ho n x=true:=by rfl) (av:Nat.blt (q+aG) cP=true:=by rfl) (aA:n=q:=by rfl):
  X B W ak ro post n env L ay (.o (.ld t x) (.agg ⟨dt aG q⟩) aG [aG] k):=⟨λah ax=>
 F' c ao h1 (λM aV hr kE ig=> @bE.Re (bC M (hG c aG env)) P K.α K.k K.enc v l (hs.oQ aV hr) t x _ j (j*K.k+o) o aG (l.getD j K.AQ) c (Lt _ hj) cw (A_ aG q) ha bk rfl ao (λi u J=>by
  rw[hu,List.getElem?_take] at J;split at J
  ·rw[List.getElem?_drop] at J;exact J
  ·cases J) (by
   have e:hG c aG env=c.reverse++env:=by rw[sk,tW c aG ao]
   rw[e,<-hq (l6 M M ah) x yp,gR M ax ah,ag];rfl) ig) h av aA ah ax⟩
end
section
variable {t:az} {x y i:I} {g ty:Nat} {cs:List I}
theorem TW {a:Addr} (ag:ex (.pointer (some a)::env) (q+1) x= .pointer (some a)) (h:X B W ak ro post (q+1) (.pointer (some a)::env) L ay k) (cw:aF x=true:=by rfl) (av:Nat.blt q cP=true:=by rfl) (aA:n=q:=by rfl):X B W ak ro post n env L ay (.o (.mq x) (bP q) 1 aq k):=
 gO _ (λM _ _ J hs=> @bE.Rq (bC M (_::env)) P x (bP q) a cw rfl ((J x).trans ag) hs) h rfl av aA
theorem TX {o off f:Nat} {Ba aG:Nat} (ag:ex (.pointer (some ⟨g,o+off,none⟩)::env) (q+1) x= .pointer (some ⟨g,o,none⟩)) (h:X B W ak ro post (q+1) (.pointer (some ⟨g,o+off,none⟩)::env) L ay k) (aB:((P.fieldsOf t)[f]?).map (λf=>(f.type,f.offset))=some (Ba,off):=by kernel_rfl) (aE:aP P (underlying t)=some (.struct (P.fieldsOf t)):=by kernel_rfl) (hm:aP P (sizeOf Ba)=some aG:=by kernel_rfl) (h0:aG≠0:=by decide) (cw:aF x=true:=by rfl) (av:Nat.blt q cP=true:=by rfl) (aA:n=q:=by rfl):
  X B W ak ro post n env L ay (.o (.hJ t x f) (bP q) 1 [off,Ba,aG] k):=
 gO _ (λM _ _ J hs=> @bE.Rr (bC M (_::env)) P t x (bP q) f g o Ba off aG aB aE hm h0 cw rfl ((J x).trans ag) hs) h rfl av aA
theorem jc {o j m e aG:Nat} {kd:IntKind} (ag:ex (.pointer (some ⟨g,o+j*aG,none⟩)::env) (q+1) x= .pointer (some ⟨g,o,none⟩)) (J:ex (.pointer (some ⟨g,o+j*aG,none⟩)::env) (q+1) i= .int kd (j:Nat)) (h:X B W ak ro post (q+1) (.pointer (some ⟨g,o+j*aG,none⟩)::env) L ay k) (hj:j<m:=by omega) (aE:P.underlying t=some (.array m e):=by kernel_rfl) (bk:aP P (sizeOf e)=some aG:=by kernel_rfl) (cw:aF x=true:=by rfl) (pi:aF i=true:=by rfl) (av:Nat.blt q cP=true:=by rfl) (aA:n=q:=by rfl):
  X B W ak ro post n env L ay (.o (.ca t x i) (bP q) 1 [1,m,e,aG] k):=
 gO _ (λM _ _ kE hs=> @bE.JU (bC M (_::env)) P t e x i (bP q) g o m aG j kd cw pi rfl aE bk ((kE x).trans ag) ((kE i).trans J) hj hs) h rfl av aA
theorem js {o aG:Nat} {u:I} (ag:ex (u::env) (q+1) x= .pointer (some ⟨g,o,none⟩)) (hL:h2 L (.box g ty cs)) (hu:cs[o]? =some u) (h:X B W ak ro post (q+1) (u::env) L ay k) (h1:lX u=u:=by rfl) (ha:aP P (isAgg t)=some false:=by kernel_rfl) (cw:aF x=true:=by rfl) (av:Nat.blt q cP=true:=by rfl) (aA:n=q:=by rfl):
  X B W ak ro post n env L ay (.o (.ld t x) (bP q) 1 [aG] k):=
 gO _ (λM aV _ kE ig=> @bE.Rp (bC M (_::env)) P B g o ty t cs x (bP q) u (hL.get.elim λd aH=>aV.box d (iN aH)) hu cw rfl ha ((kE x).trans ag) ig) h h1 av aA
theorem F_ {o aG:Nat} {c:List I} (ag:ex env n x= .pointer (some ⟨g,o,none⟩)) (hL:h2 L (.box g ty cs)) (hu:c=(cs.drop o).take aG) (ao:c.length=aG) (h1:dX c) (h:X B W ak ro post (q+aG) (hG c aG env) L ay k) (ha:aP P (isAgg t)=some true:=by kernel_rfl) (bk:aP P (sizeOf t)=some aG:=by kernel_rfl) (cw:aF x=true:=by rfl) (yp:ho n x=true:=by rfl) (av:Nat.blt (q+aG) cP=true:=by rfl) (aA:n=q:=by rfl):
  X B W ak ro post n env L ay (.o (.ld t x) (.agg ⟨dt aG q⟩) aG [aG] k):=⟨λah ax=>
 F' c ao h1 (λM aV hr kE ig=> @bE.RC (bC M (hG c aG env)) P B g o aG ty t cs c x _ (hL.get.elim λd aH=>aV.box d (iN aH)) hu cw (A_ aG q) ha bk ao (by
   have e:hG c aG env=c.reverse++env:=by rw[sk,tW c aG ao]
   rw[e,<-hq (l6 M M ah) x yp,gR M ax ah,ag]) ig) h av aA ah ax⟩
end
theorem bD {x:I} {p:Prop} [Decidable p] (ag:ex env n x= .bool (decide p)) (h1:p->X B W ak ro post n env L ay bK) (ad:¬p->X B W ak ro post n env L ay b0):X B W ak ro post n env L ay (.a1 x bK b0):=⟨λah ax=>
 .a1 _ ag (λh=>h1 (of_decide_eq_true h) ah ax) (λh=>ad (of_decide_eq_false h) ah ax)⟩
theorem mF {x:I} {p:Prop} [Decidable p] (ag:ex env n x= .bool (!decide p)) (h1:¬p->X B W ak ro post n env L ay bK) (ad:p->X B W ak ro post n env L ay b0):X B W ak ro post n env L ay (.a1 x bK b0):=⟨λah ax=>
 .a1 _ ag (λh=>h1 (by simpa using h) ah ax) (λh=>ad (by simpa using h) ah ax)⟩
theorem o2 {x:I} (ag:ex env n x= .bool true) (h:X B W ak ro post n env L ay bK):X B W ak ro post n env L ay (.a1 x bK b0):=⟨λah ax=> .a1 _ ag (λ_=>h ah ax) (λh=>by cases h)⟩
theorem yq {x:I} (ag:ex env n x= .bool false) (h:X B W ak ro post n env L ay b0):X B W ak ro post n env L ay (.a1 x bK b0):=⟨λah ax=> .a1 _ ag (λh=>by cases h) (λ_=>h ah ax)⟩
theorem lz {x:I} {b:Bool} (ag:ex env n x= .bool b) (h1:b=true->X B W ak ro post n env L ay bK) (ad:b=false->X B W ak ro post n env L ay b0):X B W ak ro post n env L ay (.a1 x bK b0):=⟨λah ax=>
 .a1 _ ag (λh=>h1 h ah ax) (λh=>ad h ah ax)⟩
theorem Ga (h1:X B W ak ro post n env L ay bK) (ad:X B W ak ro post n env L ay b0):X B W ak ro post n env L ay (.alt bK b0):=⟨λah ax=> .alt (h1 ah ax) (ad ah ax)⟩
theorem bg {x:I} (h:post (ex env n x) L):X B W ak ro post n env L ay (.ret x):=⟨λ_ _=> .ret L (lu.refl L) h⟩
theorem dY {p0:df P} (h:X B W ak ro post n env L ay k):X B W ak ro post n env L (p0::ay) (.cu k):=⟨λah ax=> .cu (h ah ax)⟩
end
end AE
namespace AE
variable {P:aC} {B:Nat} {W:aj} {ak:List cr} {ro:List (eB P)} {post:I->List (aI P)->Prop}
theorem Lu.{u} {α:Type u} {l l':List α} {d:Nat} {a b:α} (h:l9 l d a b l':=by repeat (first|exact l9.z|apply l9.s)):l9 l d a b l':=h
theorem TY.{u} {α:Type u} {l l':List α} {i:Nat} {b:α} (h:p2 l i b l':=by repeat (first|exact p2.z|apply p2.s)):p2 l i b l':=h
theorem yr.{u} {α:Type u} {l l':List α} {a:α} (h:ly l a l':=by repeat (first|exact ly.z|apply ly.s)):ly l a l':=h
theorem ew {l:List I} (h:dX l:=by repeat (first|exact trivial|refine⟨rfl,?_⟩)):dX l:=h
section
variable {n q:Nat} {env:List I} {L L':List (aI P)} {ay:List (df P)} {k bK b0:aN}
section
variable {t:az} {p x:I}
theorem TZ {d g ty j:Nat} {cs cs':List I} {u:I} (hp:ex env n p= .pointer (some ⟨g,j,none⟩)) (ag:ex env n x=u) (fm:l9 L d (.box g ty cs) (.box g ty cs') L') (hs:p2 cs j u cs') (h:X B W ak ro post n env L' ay k) (hu:u.cells= #[u]:=by rfl) (h1:u.oneCell'=true:=by rfl) (bk:aP P (sizeOf t)=some 1:=by kernel_rfl):
  X B W ak ro post n env L ay (.st t p x k):=⟨λah ax=>by
 obtain⟨J,rfl⟩:=fm.get;obtain⟨rfl,hj⟩:=hs.eq
 exact .FI d J hp ag hj hu h1 bk (h ah ax)⟩
theorem yt {d g ty j:Nat} {cs cs':List I} {u:I} (hp:ex env n p= .pointer (some ⟨g,j,none⟩)) (ag:ex env n x=u) (fm:l9 L d (.box g ty cs) (.box g ty cs') L') (hs:cs'=cs.set j u) (h:X B W ak ro post n env L' ay k) (hj:j<cs.length) (hu:u.cells= #[u]:=by rfl) (h1:u.oneCell'=true:=by rfl) (bk:aP P (sizeOf t)=some 1:=by kernel_rfl):
  X B W ak ro post n env L ay (.st t p x k):=⟨λah ax=>by
 obtain⟨J,rfl⟩:=fm.get;subst hs
 exact .FI d J hp ag hj hu h1 bk (h ah ax)⟩
theorem T0 {K:fG P} {v:I} {l l2:List K.α} {d j o:Nat} {u:I} (y:K.α) (hp:ex env n p=jR v j K.k o) (ag:ex env n x=u) (fm:l9 L d (.arr K v l) (.arr K v l2) L') (hl:l2=l.set j y) (aT:∀z,l[j]? =some z->K.enc y=(K.enc z).set o u) (h:X B W ak ro post n env L' ay k) (hj:j<l.length:=by omega) (ax:o<K.k:=by decide) (hu:u.cells= #[u]:=by rfl) (h1:u.oneCell'=true:=by rfl) (bk:aP P (sizeOf t)=some 1:=by kernel_rfl):
  X B W ak ro post n env L ay (.st t p x k):=⟨λah jv=>by
 obtain⟨J,rfl⟩:=fm.get;subst hl
 exact .K4 d j o y J hp hj ag ax hu h1 aT bk (h ah jv)⟩
theorem p6 {d g ty j m:Nat} {cs cs' us:List I} (hp:ex env n p= .pointer (some ⟨g,j,none⟩)) (ag:ex env n x= .agg ⟨us⟩) (fm:l9 L d (.box g ty cs) (.box g ty cs') L') (hs:cs'=cs.take j++us++cs.drop (j+m)) (h:X B W ak ro post n env L' ay k) (hj:j+m<=cs.length:=by exact jX rfl) (hu:us.length=m:=by rfl) (h1:∀u∈us,u.oneCell'=true:=by repeat (first|exact Kg|refine Kh rfl ?_)) (bk:aP P (sizeOf t)=some m:=by kernel_rfl):
  X B W ak ro post n env L ay (.st t p x k):=⟨λah ax=>by
 obtain⟨J,rfl⟩:=fm.get;subst hs
 exact .K3 d J hp ag hj hu h1 bk (h ah ax)⟩
end
section
variable {t:az} {s x:I} {c:List I} {K:fG P} {v:I} {l:List K.α}
theorem ma {d:Nat} {L':Option Addr->Nat->List (aI P)} (lx:List K.α) (hs:ex env n s=v) (fm:∀a c,l9 L d (.arr K v l) (.arr K (.slice a (l++lx).length c) (l++lx)) (L' a c)) (ag:fh env n c=lx.flatMap K.enc) (h:∀a c,X B W ak ro post (n+1) (.slice a (l++lx).length c::env) (L' a c) ay k) (fO:l.length+lx.length<=maxLen) (U:(l.length+lx.length)*K.bytes<=140737488355328) (aE:P.underlying t=some (.slice K.e):=by kernel_rfl):
  X B W ak ro post n env L ay (.ic t s c k):=⟨λah ax=>
 .K5 d lx (fm none 0).get.1 hs ag aE fO U λa c=>(fm a c).get.2▸h a c (by simp [ah]) ⟨rfl,ax⟩⟩
theorem T1 {d:Nat} {L':Option Addr->Nat->List (aI P)} {vx:I} {lx:List K.α} (hs:ex env n s=v) (ag:ex env n x=vx) (fm:∀a c,l9 L d (.arr K v l) (.arr K (.slice a (l++lx).length c) (l++lx)) (L' a c)) (fQ:cx ro L K vx lx) (h:∀a c,X B W ak ro post (n+1) (.slice a (l++lx).length c::env) (L' a c) ay k) (fO:l.length+lx.length<=maxLen) (U:(l.length+lx.length)*K.bytes<=140737488355328) (aE:P.underlying t=some (.slice K.e):=by kernel_rfl):
  X B W ak ro post n env L ay (.qY t s x k):=⟨λah ax=>
 .K6 d vx lx (fm none 0).get.1 hs ag aE (λ_ aV hr=>fQ.oQ aV hr) fO U λa c=>(fm a c).get.2▸h a c (by simp [ah]) ⟨rfl,ax⟩⟩
theorem T2 {L':Option Addr->Nat->List (aI P)} (K:fG P) (z:K.α) (m:Nat) (ag:ex env n x= .int .i64 (m:Nat)) (fm:∀a c,ly L (.arr K (.slice a (List.replicate m z).length c) (List.replicate m z)) (L' a c)) (h:∀a c,X B W ak ro post (n+1) (.slice a (List.replicate m z).length c::env) (L' a c) ay k) (bk:∃i v,P.info? K.e=some i/\i.zero=some v/\i.size=K.k/\i.bytes=K.bytes/\v.cells.toList=K.enc z) (fO:m<=1000000:=by omega) (U:m*K.bytes<=140737488355328) (ao:m*K.k<=16777216) (aE:P.underlying t=some (.slice K.e):=by kernel_rfl):
  X B W ak ro post n env L ay (.mk t x k):=⟨λah ax=>
 .mk K z m aE bk ag fO U ao λa c=>(fm a c).eq▸h a c (by simp [ah]) ⟨rfl,ax⟩⟩
theorem Lv {L':Option Addr->Nat->List (aI P)} {u:I} (K:fG P) (y:K.α) (ag:ex env n x=u) (hu:u.cells=⟨K.enc y⟩) (fm:∀a c,ly L (.arr K (.slice a [y].length c) [y]) (L' a c)) (h:∀a c,X B W ak ro post (n+1) (.slice a [y].length c::env) (L' a c) ay k) (bk:∃z,aP P (zeroValue K.e)=some z) (hk:K.k<=1000:=by decide) (aE:P.underlying t=some (.slice K.e):=by kernel_rfl):
  X B W ak ro post n env L ay (.lt t x k):=⟨λah ax=>
 .lt K y aE bk hk ag hu λa c=>(fm a c).eq▸h a c (by simp [ah]) ⟨rfl,ax⟩⟩
theorem T3 {L':Option Addr->Nat->List (aI P)} {us xs:List I} (K:fG P) (l:List K.α) (ag:fh env n xs=us) (hu:us.map Value.cells=l.map λy=>⟨K.enc y⟩) (fm:∀a c,ly L (.arr K (.slice a l.length c) l) (L' a c)) (h:∀a c,X B W ak ro post (n+1) (.slice a l.length c::env) (L' a c) ay k) (bk:∃z,aP P (zeroValue K.e)=some z) (hk:K.k<=1000:=by decide) (aE:P.underlying t=some (.slice K.e):=by kernel_rfl):
  X B W ak ro post n env L ay (.oU t xs k):=⟨λah ax=>
 .oU K l aE bk hk ag hu λa c=>(fm a c).eq▸h a c (by simp [ah]) ⟨rfl,ax⟩⟩
theorem yu {m cap:Nat} {L':Nat->List (aI P)} (K:fG P) (xs:List K.α) (ag:fh env n c=xs.flatMap K.enc) (fm:∀g,ly L (.red K (.slice (some ⟨g,0,none⟩) m cap) xs) (L' g)) (h:∀g,X B W ak ro post (n+1) (.slice (some ⟨g,0,none⟩) m cap::env) (L' g) ay k) (hm:xs.length=m:=by rfl):X B W ak ro post n env L ay (.lq c m cap k):=⟨λah ax=>
 .lq K xs ag hm λg=>(fm g).eq▸h g (by simp [ah]) ⟨rfl,ax⟩⟩
theorem T4 {L':Nat->List (aI P)} {u:I} {cs:List I} (ag:ex env n x=u) (hu:u.cells=⟨cs⟩) (fm:∀g,ly L (.box g t cs) (L' g)) (h:∀g,X B W ak ro post (n+1) (.pointer (some ⟨g,0,none⟩)::env) (L' g) ay k):X B W ak ro post n env L ay (.oT t x k):=⟨λah ax=>
 .oT ag hu λg=>(fm g).eq▸h g (by simp [ah]) ⟨rfl,ax⟩⟩
theorem o3 {L':Nat->List (aI P)} {z:I} (cs:List I) (bk:aP P (zeroValue t)=some z) (hu:z.cells=⟨cs⟩) (fm:∀g,ly L (.box g t cs) (L' g)) (h:∀g,X B W ak ro post (n+1) (.pointer (some ⟨g,0,none⟩)::env) (L' g) ay k):X B W ak ro post n env L ay (.hT t k):=⟨λah ax=>
 .hT bk hu λg=>(fm g).eq▸h g (by simp [ah]) ⟨rfl,ax⟩⟩
end
section
variable {f:FuncId} {args:List I} {r:I} {m:Nat}
theorem dm {v:I} (ao:∀w,kb W ak ro L w->Calls P f ⟨fh env n args⟩ w λe w'=>e= .returned v/\dJ w.heap.size w w') (h:X B W ak ro post (q+1) (v::env) L ay k) (h1:lX v=v:=by rfl) (av:Nat.blt q cP=true:=by rfl) (aA:n=q:=by rfl):X B W ak ro post n env L ay (.c f args (bP q) 1 k):=by
 subst aA;refine⟨λah ax=> ?_⟩;have eS:(v::env).length=n+1:=by simp [ah]
 refine .c [v] rfl ⟨h1,trivial⟩ (λw hw=> ?_) (h eS ⟨h1,ax⟩);have:=mE (M:=λ_=>none) av ah ax h1;rw[gR (λ_=>none) (env:=v::env) (n:=n+1) ⟨h1,ax⟩ eS] at this;show Calls P f _ w λe w'=>e= .returned (ex (v::env) (n+1) (bP n))/\_
 rw[this];exact ao w hw
theorem cI (vs:List I) {iZ:I} (ao:∀w,kb W ak ro L w->Calls P f ⟨fh env n args⟩ w λe w'=>e= .returned iZ/\dJ w.heap.size w w') (hr:ex (hG vs m env) (n+m) r=iZ) (h:X B W ak ro post (n+m) (hG vs m env) L ay k) (h1:dX vs:=by exact ew) (hm:vs.length=m:=by rfl):X B W ak ro post n env L ay (.c f args r m k):=by
 refine⟨λah ax=> ?_⟩;have e:hG vs m env=vs.reverse++env:=by rw[sk,tW vs m hm]
 rw[e] at h hr;refine .c vs hm h1 (λw hw=> ?_) (h (by simp [ah,hm];omega) (nZ (lp h1) ax));rw[hr];exact ao w hw
theorem T5 {b:Bool} (ao:∀w,kb W ak ro L w->Calls P f ⟨fh env n args⟩ w λe w'=>e= .returned (.bool b)/\dJ w.heap.size w w') (h1:b=true->X B W ak ro post n env L ay bK) (ad:b=false->X B W ak ro post n env L ay b0):X B W ak ro post n env L ay (.cs f args bK b0):=⟨λah ax=>
 .cs b ao (λh=>h1 h ah ax) (λh=>ad h ah ax)⟩
theorem T6 (Y:Type) (is:List Nat) (vs:Y->List I) (jn oY:Y->List (aI P)) {L':Y->List (aI P)} (ao:∀w,kb W ak ro L w->dg (aS w) (pick (bW L) is)->Calls P f ⟨fh env n args⟩ w λe w'=>(∃y,e= .returned (ex (hG (vs y) m env) (n+m) r)/\gx (aS w) (pick (bW L) is) (aS w') (bW (jn y++oY y)))/\dJ 0 w w')
  (hL:∀y,oX L is (jn y)++oY y=L' y) (h:∀y,X B W ak ro post (n+m) (hG (vs y) m env) (L' y) ay k) (hR:il L.length is=true:=by rfl) (hl:∀y,(jn y).length=is.length:=by exact λ_=>rfl) (hm:∀y,(vs y).length=m:=by exact λ_=>rfl) (h1:∀y,dX (vs y):=by exact λ_=>ew):X B W ak ro post n env L ay (.call f args r m k):=by
 refine⟨λah ax=> ?_⟩;have e:∀y,hG (vs y) m env=(vs y).reverse++env:=λy=>by rw[sk,tW _ m (hm y)]
 refine .call Y is hR vs jn oY hl hm h1 (λw hw _ bV=> ?_) (λy=> ?_)
 ·refine(ao w hw bV).mono λe' w' h=> ?_
  obtain⟨⟨y,aT,hs⟩,hl⟩:=h;exact⟨⟨y,by rw[<-e y];exact aT,hs⟩,hl⟩
 ·have:=h y (by rw[e y];simp [ah,hm y];omega) (by rw[e y];exact nZ (lp (h1 y)) ax)
  rw[e y,<-hL y] at this;exact this
end
theorem gJ {vs:List I} {m:Nat} (ej:Type) (a8:ej->List I) (cN:ej->List (aI P)) (hM:ej->Prop) (iC:ej->Nat) (j6:ej) (h0:fh env n vs=a8 j6) (hL:L=cN j6) (bc:hM j6)
  (h:∀u,hM u->X B W ak ro post (n+m) (hG (a8 u) m env) (cN u) ((λdH L'=>∃u',hM u'/\iC u'<iC u/\dH=a8 u'/\lu B W ak L' (cN u'))::ay) k) (hm:∀u,(a8 u).length=m:=by exact λ_=>rfl) (h1:∀u,dX (a8 u):=by exact λ_=>ew):X B W ak ro post n env L ay (.loop vs m k):=⟨λah ax=>by
 refine .loop ej a8 cN hM iC j6 hm h1 h0 (hL▸lu.refl L) bc λu hu=> ?_
 have e:hG (a8 u) m env=(a8 u).reverse++env:=by rw[sk,tW _ m (hm u)]
 have:=h u hu (by rw[e];simp [ah,hm u];omega) (by rw[e];exact nZ (lp (h1 u)) ax);rw[e] at this
 exact this⟩
theorem dN {ej:Type} {a8:ej->List I} {cN:ej->List (aI P)} {hM:ej->Prop} {iC:ej->Nat} {u:ej} {vs:List I} (u':ej) (aw:fh env n vs=a8 u') (hL:L=cN u') (bc:hM u') (yl:iC u'<iC u):
 X B W ak ro post n env L ((λdH L'=>∃u',hM u'/\iC u'<iC u/\dH=a8 u'/\lu B W ak L' (cN u'))::ay) (.back vs):=⟨λ_ _=> .back ⟨u',bc,yl,aw,hL▸lu.refl L⟩⟩
end
structure T7 (q:Prop):Prop where
 go:q
theorem aZ {p q:Prop} (k:q) (h:T7 q->p:=by
 intro pr
 repeat (first
  |refine p3 ae ae ?_|refine TQ ae ae ?_|refine yn ae ae ?_|refine TR ae ae ?_|refine q7 ae ae ?_|refine F7 ae ae ?_
  |refine kC ae ae ?_|refine sj ae ae ?_|refine kD ae ae ?_|refine Ls ae ae ?_|refine F8 ae ae ?_|refine p4 ae ae ?_|refine p5 ae ae ?_
  |refine n9 rfl ?_|refine l_ rfl ?_|refine TW rfl ?_|refine TX rfl ?_|refine js rfl has rfl ?_|refine ea ae ae ?_|refine F9 ae ae ?_|refine q8 rfl ?_|refine TV ae ae ?_|refine kf ae ae ?_|refine jc ae ae ?_
  |refine TS ae ae ?_|refine TT ae ae ?_|refine TZ ae ae Lu TY ?_|refine dY ?_)
 exact pr.go):p:=h ⟨k⟩
end AE
namespace AE
variable {P:aC} {B:Nat} {W:aj} {ak:List cr} {ro:List (eB P)} {post:I->List (aI P)->Prop}
def Bb.{u} {α:Type u}:List α->List Nat->List α->List α
 |L,i::is,R::gq=>Bb (L.set i R) is gq
 |L,[],gq=>L++gq
 |L,_::_,[]=>L
theorem Lw.{u} {α:Type u}:∀(is:List Nat) (L gq:List α),is.length<=gq.length->oX L is (gq.take is.length)++gq.drop is.length=Bb L is gq
 |[],L,gq,_=>by simp [oX,Bb]
 |i::is,L,[],h=>by simp at h
 |i::is,L,R::gq,h=>by
  simp only [List.length_cons,List.take_succ_cons,List.drop_succ_cons];exact Lw is (L.set i R) gq (by simpa using h)
def jS (P:aC) (f:FuncId) (args:List I) (W:aj) (L:List (aI P)) (Y:Type) (v:Y->I) (N:Y->List (aI P)):Prop:=
 Calls P f ⟨args⟩ W λx w'=>(∃y,x= .returned (v y)/\gx (aS W) (bW L) (aS w') (bW (N y)))/\dJ 0 W w'
abbrev c_ (P:aC) (f:FuncId) (args:List I) (W:aj) (v:I):Prop:=Calls P f ⟨args⟩ W λe w'=>e= .returned v/\dJ W.heap.size W w'
section
variable {n:Nat} {env:List I} {L:List (aI P)} {ay:List (df P)} {k:aN} {f:FuncId} {args:List I} {r:I} {m:Nat}
theorem Lx {hS:List (aI P)} {Y:Type} {v:Y->I} {N L':Y->List (aI P)} {aL:List I} (is:List Nat) (vs:Y->List I) (ao:∀w,kb W ak ro L w->dg (aS w) (bW hS)->jS P f aL w hS Y v N)
  (h:∀y,X B W ak ro post (n+m) (hG (vs y) m env) (L' y) ay k) (hr:∀y,ex (hG (vs y) m env) (n+m) r=v y:=by exact λ_=>rfl) (hL:∀y,Bb L is (N y)=L' y:=by exact λ_=>rfl) (hp:pick (bW L) is=bW hS:=by rfl) (hR:il L.length is=true:=by rfl)
  (hl:∀y,is.length<=(N y).length:=by exact λ_=>jX rfl) (hm:∀y,(vs y).length=m:=by exact λ_=>rfl) (h1:∀y,dX (vs y):=by exact λ_=>ew) (ha:fh env n args=aL:=by rfl):X B W ak ro post n env L ay (.call f args r m k):=
 T6 Y is vs (λy=>(N y).take is.length) (λy=>(N y).drop is.length) (λw hw bV=>by
  rw[hp] at bV ⊢;rw[ha];refine(ao w hw bV).mono λe w' ag=> ?_
  obtain⟨⟨y,aT,aE⟩,hl⟩:=ag
  exact⟨⟨y,by rw[aT,hr y],by rw[List.take_append_drop];exact aE⟩,hl⟩) (λy=>(Lw is L (N y) (hl y)).trans (hL y)) h hR (λy=>by rw[List.length_take];exact Nat.min_eq_left (hl y)) hm h1
end
theorem fi.nil (M:Mem):fi ([]:List (eB P)) M:=λi r h=>by simp at h
theorem fi.cons {r:eB P} {l:List (eB P)} {M:Mem} (h:r.ok M) (hl:fi l M):fi (r::l) M:=λi q aA=>by
 cases i with
 |zero=>simp only [List.getElem?_cons_zero,bS] at aA;subst aA;exact h
 |succ i=>exact hl i q (by simpa using aA)
theorem fi.ext {l:List (eB P)} (h:fi l (aS W)):∀M,jP (aS W) [] M->fi l M:=λ_ aV i r hr=>bH.mono (h i r hr) λi o J=>aV i o J (vF i)
theorem fi.none {ak:List cr}:∀M,jP (aS W) ak M->fi ([]:List (eB P)) M:=λM _=> .nil M
section
variable [Lib P] {f:FuncId} {h:x7} {args aL:List I} {n:Nat} {t:aN}
theorem q9 {L:List (aI P)} {Y:Type} {v:Y->I} {N:Y->List (aI P)} (cn:P.follows .mixedOrders=true) (av:cL P f h args n=some t) (vs:List I) (bV:dg (aS W) (bW L)) (cy:∀M,jP (aS W) (bW L) M->fi ro M)
  (ag:X 0 W (bW L) ro (λx L'=>∃y,x=v y/\L'=N y) n vs.reverse L [] t) (ha:fh vs.reverse n args=aL:=by rfl) (ah:vs.length=n:=by rfl) (ax:dX vs:=by exact ew):jS P f aL W L Y v N:=by
 subst ha;refine(TO cn av L bV cy ah ax (ag (by simp [ah]) (lp ax))).mono λe w q=> ?_
 obtain⟨⟨x,L',rfl,⟨y,rfl,rfl⟩,c9⟩,ad⟩:=q;exact⟨⟨y,rfl,c9⟩,ad⟩
theorem dc {v:I} (cn:P.follows .mixedOrders=true) (av:cL P f h args n=some t) (vs:List I) (cy:fi ro (aS W))
  (ag:X W.heap.size W [] ro (λx _=>x=v) n vs.reverse [] [] t) (ha:fh vs.reverse n args=aL:=by rfl) (ah:vs.length=n:=by rfl) (ax:dX vs:=by exact ew):c_ P f aL W v:=by
 subst ha;refine(TN cn av cy.ext ah ax (ag (by simp [ah]) (lp ax))).mono λe w q=> ?_
 obtain⟨⟨x,L',rfl,rfl,c9⟩,ad⟩:=q;exact⟨rfl,ad⟩
end
end AE
namespace AE
variable {P:aC} {B:Nat} {W:aj} {ak:List cr} {ro:List (eB P)} {post:I->List (aI P)->Prop}
theorem T8 {t e:az} {n j:Nat} {cs:List I} {k:IntKind} {u:I} (aE:P.underlying t=some (.array n e)) (bt:aP P (sizeOf e)=some 1) (ha:aP P (isAgg e)=some false) (hj:j<n) (hu:cs[j]? =some u) (w:aj):(Instr.index t (.agg ⟨cs⟩) (.int k (j:Nat))).run P w= .ok u w:=by
 have h1:(asIntOf (.int k (j:Nat))).run P w= .ok (k,((j:Nat):Int)) w:=rfl;have aq:(0:Int)<=((j:Nat):Int)/\((j:Nat):Int)<((n:Nat):Int):=⟨af,af⟩;unfold Instr.index;simp only [Sem.run_bind,h1,Result.andThen_ok,run_underlying aE];rw[aR aq];simp only [Sem.run_bind,f' bt w,Result.andThen_ok];unfold part;simp only [Sem.run_bind,f' ha w,Result.andThen_ok];simp [hu]
theorem bE.T9 [aX] {t e:az} {x i r:I} {n j:Nat} {cs:List I} {k:IntKind} {u:I} (ag:aF x=true) (J:aF i=true) (hr:aF r=true) (aE:P.underlying t=some (.array n e)) (bt:aP P (sizeOf e)=some 1) (ha:aP P (isAgg e)=some false) (hj:j<n) (hu:cs[j]? =some u)
  (ex:aK x= .agg ⟨cs⟩) (e_:aK i= .int k (j:Nat)) (cN:aK r=u):bE P (.ei t x i,r):=by
 refine Es (by simp [kR,ag,J]) hr rfl λc6 c7 w _=> ?_
 show (eO c6 c7 (.ei t (aK x) (aK i))).run P w=_;rw[ex,e_,cN];unfold eO;simp only [Sem.run_bind,T8 aE bt ha hj hu w,Result.andThen_ok];rfl
section
variable {n q:Nat} {aq:List Nat} {env:List I} {L:List (aI P)} {ay:List (df P)} {k:aN} {t:az} {x y i:I}
theorem Ly {m e j:Nat} {kd:IntKind} {cs:List I} {u:I} (ag:ex (u::env) (q+1) x= .agg ⟨cs⟩) (J:ex (u::env) (q+1) i= .int kd (j:Nat)) (hu:cs[j]? =some u) (h:X B W ak ro post (q+1) (u::env) L ay k) (hj:j<m:=by omega) (h1:lX u=u:=by rfl) (aE:P.underlying t=some (.array m e):=by kernel_rfl) (bt:aP P (sizeOf e)=some 1:=by kernel_rfl) (ha:aP P (isAgg e)=some false:=by kernel_rfl) (cw:aF x=true:=by rfl) (pi:aF i=true:=by rfl) (av:Nat.blt q cP=true:=by rfl) (aA:n=q:=by rfl):
  X B W ak ro post n env L ay (.o (.ei t x i) (bP q) 1 [1,m,e,1] k):=
 gO _ (λM _ _ fZ hs=> @bE.T9 P (bC M (_::env)) t e x i (bP q) m j cs kd u cw pi rfl aE bt ha hj hu ((fZ x).trans ag) ((fZ i).trans J) hs) h h1 av aA
theorem Bc {a:Option Addr} {m c j e aG m':Nat} (hm:m-j=m') (ag:ex (.slice (gQ a c j aG) m' (c-j)::env) (q+1) x= .slice a m c) (J:ex (.slice (gQ a c j aG) m' (c-j)::env) (q+1) i= .int .i64 (j:Nat)) (h:X B W ak ro post (q+1) (.slice (gQ a c j aG) m' (c-j)::env) L ay k) (hj:j<=m:=by omega) (aE:P.underlying t=some (.slice e):=by kernel_rfl) (bt:aP P (sizeOf e)=some aG:=by kernel_rfl) (cw:aF x=true:=by rfl) (pi:aF i=true:=by rfl) (av:Nat.blt q cP=true:=by rfl) (aA:n=q:=by rfl):
  X B W ak ro post n env L ay (.o (.h_ t x (some i) none none) (bP q) 1 [0,e,aG] k):=
 gO _ (λM _ _ fZ hs=> @bE.Q6 (bC M (_::env)) P t e aG x i (bP q) a m c j cw pi rfl aE bt ((fZ x).trans ag) ((fZ i).trans J) hj (by rw[hs,hm])) h rfl av aA
theorem yv {xs ys:List I} {b:Bool} (ag:ex (.bool b::env) (q+1) x= .agg ⟨xs⟩) (aT:ex (.bool b::env) (q+1) y= .agg ⟨ys⟩) (he:l0 P 10000 t (.agg ⟨xs⟩) (.agg ⟨ys⟩)=some b) (h:X B W ak ro post (q+1) (.bool b::env) L ay k) (yw:P.eqGuardType P.depth t=false:=by kernel_rfl) (cw:aF x=true:=by rfl) (eC:aF y=true:=by rfl) (av:Nat.blt q cP=true:=by rfl) (aA:n=q:=by rfl):
  X B W ak ro post n env L ay (.o (.bin .eql t x y) (bP q) 1 aq k):=
 gO _ (λM _ _ J hs=>q5 (@bE.pO (bC M (_::env)) P t x y ⟨xs⟩ ⟨ys⟩ b yw cw eC ((J x).trans ag) ((J y).trans aT) he) (by rw[hs];rfl)) h rfl av aA
theorem Gb {xs ys:List I} {b:Bool} (ag:ex (.bool (!b)::env) (q+1) x= .agg ⟨xs⟩) (aT:ex (.bool (!b)::env) (q+1) y= .agg ⟨ys⟩) (he:l0 P 10000 t (.agg ⟨xs⟩) (.agg ⟨ys⟩)=some b) (h:X B W ak ro post (q+1) (.bool (!b)::env) L ay k) (yw:P.eqGuardType P.depth t=false:=by kernel_rfl) (cw:aF x=true:=by rfl) (eC:aF y=true:=by rfl) (av:Nat.blt q cP=true:=by rfl) (aA:n=q:=by rfl):
  X B W ak ro post n env L ay (.o (.bin .neq t x y) (bP q) 1 aq k):=
 gO _ (λM _ _ J hs=>q5 (@bE.Rh (bC M (_::env)) P t x y ⟨xs⟩ ⟨ys⟩ b yw cw eC ((J x).trans ag) ((J y).trans aT) he) (by rw[hs];rfl)) h rfl av aA
end
section
variable {n:Nat} {env:List I} {L:List (aI P)} {ay:List (df P)}
theorem sm {x:I} {L':List (aI P)} (c9:∀M,cB B (aS W) ak M (bW L)->cB B (aS W) ak M (bW L')) (h:post (ex env n x) L'):X B W ak ro post n env L ay (.ret x):=⟨λ_ _=> .ret L' c9 h⟩
end
theorem Lz:∀(hS X pre:List cr),pick (pre++(hS++X)) (List.range' pre.length hS.length)=hS
 |[],_,_=>rfl
 |a::hS,X,pre=>by
  have:=Lz hS X (pre++[a]);rw[List.length_append,List.length_singleton,List.append_assoc] at this;rw[List.length_cons,List.range'_succ];unfold pick;rw[List.getElem?_append_right (bM _),Nat.sub_self];show a::pick (pre++([a]++(hS++X))) _=_;rw[this]
theorem LA (n:Nat):∀(m s:Nat),s+m<=n->il n (List.range' s m)=true
 |0,_,_=>rfl
 |m+1,s,h=>by
  rw[List.range'_succ];unfold il;rw[LA n m (s+1) af,Bool.and_true,b4];refine⟨Nat.blt_eq.mpr af,?_⟩;rw[Bool.not_eq_true',<-Bool.not_eq_true];intro ao;have:=List.mem_range'_1.1 (by simpa using ao:s∈List.range' (s+1) m);omega
theorem cB.pre {M:Mem} {hS X:List (aI P)} (h:cB B (aS W) ak M (bW (hS++X))):cB B (aS W) ak M (bW hS):=by
 have e:=Lz (bW hS) (bW X) [];have:=h.pick (List.range' 0 hS.length) (LA _ _ _ (by simp));rw[show bW (hS++X)=bW hS++bW X from List.map_append] at this;rw[show (bW hS).length=hS.length from List.length_map _] at e;rw[List.nil_append] at e;rw[show List.range' 0 hS.length=List.range' ([]:List cr).length hS.length from rfl,e] at this;exact this
end AE
namespace AE
variable {P:aC} {B:Nat} {W:aj} {ak:List cr} {ro:List (eB P)} {post:I->List (aI P)->Prop}
theorem bE.shr [aX] {t:az} {x y r:I} {k n':IntKind} {a v:Int} {n:Nat} (h:a/2^n=v) (ah:n<=k.bits) (ag:aF x=true) (aT:aF y=true) (hr:aF r=true) (ex:aK x= .int k a) (gH:aK y= .int n' (n:Nat)) (cN:aK r= .int k v):bE P (.bin .shr t x y,r):=
 oI ag aT hr ex gH λc6 c7 w=>by
  rw[cN];have e2:¬((n:Nat):Int)<0:=by omega
  have fg:a.fdiv (2^n)=v:=by rw[<-h,Int.fdiv_eq_ediv_of_nonneg _ (Int.le_of_lt (Int.pow_pos cG))]
  unfold eO;simp [eqGuard,binOp,Op.shift,e2,Int.toNat_natCast,Nat.min_eq_left ah,fg]
theorem bE.shl [aX] {t:az} {x y r:I} {n':IntKind} {a v:Int} {n:Nat} (h:a*2^n=v) (ah:n<=64) (h1: -9223372036854775808<=v) (ad:v<=9223372036854775807) (ag:aF x=true) (aT:aF y=true) (hr:aF r=true) (ex:aK x= .int .i64 a) (gH:aK y= .int n' (n:Nat)) (cN:aK r= .int .i64 v):bE P (.bin .shl t x y,r):=
 oI ag aT hr ex gH λc6 c7 w=>by
  rw[cN];have e2:¬((n:Nat):Int)<0:=by omega
  have jl:min n IntKind.i64.bits=n:=Nat.min_eq_left ah;unfold eO;simp [eqGuard,binOp,Op.shift,e2,Int.toNat_natCast,jl,h,wrap64 h1 ad]
theorem Bd {a:Int} (h0:0<=a) (h1:a<=9223372036854775807):(BitVec.ofInt 64 a).toNat=a.toNat:=by
 rw[BitVec.toNat_ofInt];omega
theorem bE.andM [aX] {t:az} {x y r:I} {a b v:Int} (m:Nat) (h:a%2^m=v) (hu:b=2^m-1) (h0:0<=a) (h1:a<=9223372036854775807) (hm:m<=63) (ag:aF x=true) (aT:aF y=true) (hr:aF r=true) (ex:aK x= .int .i64 a) (gH:aK y= .int .i64 b) (cN:aK r= .int .i64 v):bE P (.bin .and t x y,r):=
 oI ag aT hr ex gH λc6 c7 w=>by
  rw[cN];have fl:0<2^m:=Nat.pow_pos cG;have gb:2^m<=2^63:=Nat.pow_le_pow_right cG hm;have T':b=((2^m-1:Nat):Int):=by rw[hu,Int.ofNat_sub fl];norm_cast
  have U:(BitVec.ofInt 64 b).toNat=2^m-1:=by rw[Bd af af,T'];rfl
  have a8:((a.toNat%2^m:Nat):Int)=v:=by rw[<-h,Int.natCast_emod,Int.toNat_of_nonneg h0];norm_cast
  have key:((BitVec.ofInt 64 a &&& BitVec.ofInt 64 b).toNat:Int)=v:=by
   rw[BitVec.toNat_and,Bd h0 h1,U,Nat.and_two_pow_sub_one_eq_mod,a8]
  have aw:a.toNat%2^m<=a.toNat:=Nat.mod_le _ _;have e:IntKind.i64.wrap ((BitVec.ofInt 64 a &&& BitVec.ofInt 64 b).toNat:Int)=v:=by rw[key];exact wrap64 af af
  unfold eO;simp only [eqGuard,binOp,Op.intBits];rw[show IntKind.i64.wrap ((BitVec.ofInt IntKind.i64.bits a &&& BitVec.ofInt IntKind.i64.bits b).toNat:Int)=v from e];rfl
theorem bE.T_ [aX] {t:az} {x y r:I} {a b v:Int} (m:Nat) (h:a+b=v) (ha:0<=a) (Ey:a<2^m) (U:0<=b) (aH:b%2^m=0) (hm:m<=63) (h1:v<=9223372036854775807) (ag:aF x=true) (aT:aF y=true) (hr:aF r=true) (ex:aK x= .int .i64 a) (gH:aK y= .int .i64 b) (cN:aK r= .int .i64 v):bE P (.bin .or t x y,r):=
 oI ag aT hr ex gH λc6 c7 w=>by
  rw[cN];obtain⟨c,ao⟩:=Int.dvd_of_emod_eq_zero aH;have fl:(0:Int)<2^m:=Int.pow_pos cG;have sn:0<=c:=by
   rcases Int.lt_or_le c 0 with h|h
   ·have:=Int.mul_neg_of_pos_of_neg fl h
    omega
   ·exact h
  have e1:b.toNat=2^m*c.toNat:=by
   rw[ao,Int.toNat_mul (Int.le_of_lt fl) sn];rfl
  have e2:a.toNat<2^m:=by
   have:(a.toNat:Int)<((2^m:Nat):Int):=by rw[Int.toNat_of_nonneg ha];exact_mod_cast Ey
   exact_mod_cast this
  have key:((BitVec.ofInt 64 a ||| BitVec.ofInt 64 b).toNat:Int)=v:=by
   rw[BitVec.toNat_or,Bd ha af,Bd U af,e1,Nat.or_comm,<-Nat.two_pow_add_eq_or_of_lt e2,<-e1];omega
  have e:IntKind.i64.wrap ((BitVec.ofInt 64 a ||| BitVec.ofInt 64 b).toNat:Int)=v:=by rw[key];exact wrap64 af af
  unfold eO;simp only [eqGuard,binOp,Op.intBits];rw[show IntKind.i64.wrap ((BitVec.ofInt IntKind.i64.bits a ||| BitVec.ofInt IntKind.i64.bits b).toNat:Int)=v from e];rfl
section
variable {n q:Nat} {aq:List Nat} {env:List I} {L:List (aI P)} {ay:List (df P)} {k:aN} {t:az} {x y:I}
theorem wa {n':IntKind} {a v:Int} {s:Nat} (aw:a/2^s=v) (ag:ex (.int .i64 v::env) (q+1) x= .int .i64 a) (aT:ex (.int .i64 v::env) (q+1) y= .int n' (s:Nat)) (h:X B W ak ro post (q+1) (.int .i64 v::env) L ay k) (hs:s<=64:=by omega) (cw:aF x=true:=by rfl) (eC:aF y=true:=by rfl) (av:Nat.blt q cP=true:=by rfl) (aA:n=q:=by rfl):X B W ak ro post n env L ay (.o (.bin .shr t x y) (bP q) 1 aq k):=
 gO _ (λM _ _ J ig=> @bE.shr P (bC M (_::env)) t x y (bP q) .i64 n' a v s aw hs cw eC rfl ((J x).trans ag) ((J y).trans aT) ig) h rfl av aA
theorem o4 {n':IntKind} {a v:Int} {s:Nat} (aw:a*2^s=v) (ag:ex (.int .i64 v::env) (q+1) x= .int .i64 a) (aT:ex (.int .i64 v::env) (q+1) y= .int n' (s:Nat)) (h:X B W ak ro post (q+1) (.int .i64 v::env) L ay k) (hs:s<=64:=by omega) (h1: -9223372036854775808<=v:=by omega) (ad:v<=9223372036854775807:=by omega) (cw:aF x=true:=by rfl) (eC:aF y=true:=by rfl) (av:Nat.blt q cP=true:=by rfl) (aA:n=q:=by rfl):X B W ak ro post n env L ay (.o (.bin .shl t x y) (bP q) 1 aq k):=
 gO _ (λM _ _ J ig=> @bE.shl P (bC M (_::env)) t x y (bP q) n' a v s aw hs h1 ad cw eC rfl ((J x).trans ag) ((J y).trans aT) ig) h rfl av aA
theorem Be (m:Nat) {a b v:Int} (aw:a%2^m=v) (hu:b=2^m-1) (ag:ex (.int .i64 v::env) (q+1) x= .int .i64 a) (aT:ex (.int .i64 v::env) (q+1) y= .int .i64 b) (h:X B W ak ro post (q+1) (.int .i64 v::env) L ay k) (h0:0<=a:=by omega) (h1:a<=9223372036854775807:=by omega) (hm:m<=63:=by omega) (cw:aF x=true:=by rfl) (eC:aF y=true:=by rfl) (av:Nat.blt q cP=true:=by rfl) (aA:n=q:=by rfl):X B W ak ro post n env L ay (.o (.bin .and t x y) (bP q) 1 aq k):=
 gO _ (λM _ _ J ig=> @bE.andM P (bC M (_::env)) t x y (bP q) a b v m aw hu h0 h1 hm cw eC rfl ((J x).trans ag) ((J y).trans aT) ig) h rfl av aA
theorem LB (m:Nat) {a b v:Int} (aw:a+b=v) (ha:0<=a/\a<2^m) (U:0<=b) (aH:b%2^m=0) (ag:ex (.int .i64 v::env) (q+1) x= .int .i64 a) (aT:ex (.int .i64 v::env) (q+1) y= .int .i64 b) (h:X B W ak ro post (q+1) (.int .i64 v::env) L ay k) (h1:v<=9223372036854775807:=by omega) (hm:m<=63:=by omega) (cw:aF x=true:=by rfl) (eC:aF y=true:=by rfl) (av:Nat.blt q cP=true:=by rfl) (aA:n=q:=by rfl):X B W ak ro post n env L ay (.o (.bin .or t x y) (bP q) 1 aq k):=
 gO _ (λM _ _ J ig=> @bE.T_ P (bC M (_::env)) t x y (bP q) a b v m aw ha.1 ha.2 U aH hm h1 cw eC rfl ((J x).trans ag) ((J y).trans aT) ig) h rfl av aA
end
end AE
section
noncomputable section
namespace AE
def p7 (P:aC) (e k bytes:Nat):Bool:=match P.info? e with
 |some i=>(match i.zero with|some z=>Nat.beq z.cells.size k|none=>false)&&(Nat.beq i.size k&&(Nat.beq i.bytes bytes&&(match aP P (sizeOf e) with|some m=>Nat.beq m k|none=>false)))
 |none=>false
theorem Gc {P:aC} {e k bytes:Nat} (h:p7 P e k bytes=true):(∃i z,P.info? e=some i/\i.zero=some z/\i.size=k/\i.bytes=bytes/\z.cells.size=k)/\aP P (sizeOf e)=some k:=by
 unfold p7 at h;split at h
 ·rename_i i J
  simp only [b4] at h;obtain⟨h1,ad,al,bb⟩:=h;split at h1
  ·rename_i z bk
   split at bb
   ·rename_i m hm
    exact⟨⟨i,z,J,bk,bJ ad,bJ al,bJ h1⟩,by rw[hm,bJ bb]⟩
   ·cases bb
  ·cases h1
 ·cases h
@[reducible] def tX {P:aC} {α:Type} (d:α) (e k bytes:Nat) (enc:α->List I) (h:p7 P e k bytes=true) (hk:0<k:=by decide) (hl:∀x,(enc x).length=k:=by exact λ_=>rfl) (ax:∀x,∀u∈enc x,u.oneCell'=true:=by intro x;repeat (first|exact Kg|refine Kh rfl ?_)):fG P:=
  ⟨α,d,e,k,bytes,enc,hl,ax,hk,(Gc h).2,(Gc h).1⟩
end AE
end
end
section
noncomputable section
namespace AE
abbrev bf:aC:=Tryd.prog
abbrev n6 (x:Int):I:= .int .i64 x
abbrev ht:=Option Addr
instance instSymN (n:Nat):OfNat I n:=⟨bP n⟩
abbrev bA:=Int×Int×Int
abbrev bw:=Int×bA
abbrev b8:=bA×Int×Bool×Int
def ef (x:bw):List I:=[n6 x.1,n6 x.2.1,n6 x.2.2.1,n6 x.2.2.2]
def gZ (x:b8):List I:=[n6 x.1.1,n6 x.1.2.1,n6 x.1.2.2,n6 x.2.1,.bool x.2.2.1,n6 x.2.2.2]
abbrev T.val (x:bw):I:= .agg ⟨ef x⟩
abbrev Q.val (x:b8):I:= .agg ⟨gZ x⟩
theorem Ua:p7 bf AH 1 8=true:=a6
theorem Ub:p7 bf vJ 8 56=true:=a6
theorem LC:p7 bf 44 4 32=true:=a6
theorem Uc:p7 bf 58 6 48=true:=a6
theorem Ud:p7 bf 61 1 24=true:=a6
abbrev hv:fG bf:=tX (α:=Int) default AH 1 8 encI Ua
abbrev g':fG bf:=tX (α:=dr) default vJ 8 56 jz Ub
abbrev br:fG bf:=tX (α:=bw) default 44 4 32 ef LC
abbrev bN:fG bf:=tX (α:=b8) default 58 6 48 gZ Uc
theorem lA {n m:Nat} (h:n+m<=1000000):n+m<=maxLen:=Nat.le_trans h cG
theorem fA {p:Prop} [Decidable p] (h:¬p):Value.bool false= .bool (decide p):=by rw[kJ h]
theorem Ue {p:Prop} [Decidable p] (h:p):Value.bool true= .bool (decide p):=by rw[jh h]
theorem LD {p:Prop} [Decidable p] (h:¬p):Value.bool true= .bool (!decide p):=by rw[kJ h];rfl
theorem Uf {p q:Prop} [Decidable p] [Decidable q] (h:q↔¬p):Value.bool (decide q)= .bool (!decide p):=by rw[<-decide_not,decide_eq_decide.2 h]
theorem Bf {p q:Prop} [Decidable p] [Decidable q] (h:q↔p):Value.bool (decide q)= .bool (decide p):=by rw[decide_eq_decide.2 h]
theorem qZ {p q:Prop} [Decidable p] [Decidable q] (h:¬q↔p):Value.bool (!decide q)= .bool (decide p):=by rw[<-decide_not,decide_eq_decide.2 h]
theorem LF {α:Type} (M:Mem) (e:az) (k:Nat) (enc:α->List I):gx M [] M [ni e k enc (.slice none 0 0) []]:=
 ⟨dg.one (oQ (di.nil 0 M e k enc none)),λ_ _ h _=>h,λb U=>by
   have:some b=dq (.slice none 0 0):=j'.1 U
   cases this⟩
theorem LG {L:List cr} {R:cr} (h:∀b,¬R.j9 b) {b:Nat} (U:fX (L++[R]) b):fX L b:=by
 obtain⟨i,S,J,bV⟩:=U;rw[List.getElem?_append] at J;split at J
 ·exact⟨i,S,J,bV⟩
 ·rw[List.getElem?_singleton] at J
  split at J
  ·cases J;exact absurd bV (h b)
  ·cases J
theorem Gd (K:fG bf):∀b,¬(aI.arr K (.slice none 0 0) []).res.j9 b:=λb U=>by
 have:some b=dq (.slice none 0 0):=U;cases this
theorem wb {f:FuncId} {args:List I} {W:aj} {L:List (aI bf)} {Y:Type} {v:Y->I} {N:Y->List (aI bf)} (K:fG bf) (h:dg (aS W) (bW (L++[.arr K (.slice none 0 0) []]))->jS bf f args W (L++[.arr K (.slice none 0 0) []]) Y v N) (bV:dg (aS W) (bW L)):jS bf f args W L Y v N:=by
 have e:bW (L++[.arr K (.slice none 0 0) []])=bW L++[(aI.arr K (.slice none 0 0) []).res]:=by
  unfold bW;rw[List.map_append];rfl
 have h1:=(bV.own.new (LF (aS W) K.e K.k K.enc)).sp;refine(h (by rw[e];exact h1)).mono λx w' ag=> ?_
 obtain⟨⟨y,aT,t⟩,hl⟩:=ag;rw[e] at t;exact⟨⟨y,aT,t.sp,λi o J ah=>t.keeps i o J λq=>ah (LG (Gd K) q),λb U=>(t.fresh b U).imp (LG (Gd K)) id⟩,hl⟩
theorem fi.off {W:aj} {L:List (aI bf)} {ro:List (eB bf)} (h:fi ro (aS W)) (aB:∀b,¬fX (bW L) b):∀M,jP (aS W) (bW L) M->fi ro M:=λ_ aV i r hr=>bH.mono (h i r hr) λi o J=>aV i o J (aB i)
theorem yx (K:fG bf):∀b,¬fX (bW [aI.arr K (.slice none 0 0) []]) b:=λb U=>Gd K b (j'.1 U)
section
variable {B:Nat} {W:aj} {ak:List cr} {ro:List (eB bf)} {post:I->List (aI bf)->Prop} {n:Nat} {env:List I} {L:List (aI bf)} {ay:List (df bf)} {k:aN}
theorem yy {ej:Type} {a8:ej->List I} {cN:ej->List (aI bf)} {hM:ej->Prop} {iC:ej->Nat} {u:ej} {vs:List I} (u':ej) (aw:fh env n vs=a8 u') (hL:lu B W ak L (cN u')) (bc:hM u') (yl:iC u'<iC u):
 X B W ak ro post n env L ((λdH L'=>∃u',hM u'/\iC u'<iC u/\dH=a8 u'/\lu B W ak L' (cN u'))::ay) (.back vs):=⟨λ_ _=> .back ⟨u',bc,yl,aw,hL⟩⟩
variable {f:FuncId} {args aL:List I} {r:I} {m:Nat}
theorem jB {Y:Type} {R:Y->aI bf} {v:Y->I} {L':Y->List (aI bf)} (vs:Y->List I) (ao:∀w,kb W ak ro L w->dg (aS w) (bW ([]:List (aI bf)))->jS bf f aL w [] Y v λy=>[R y])
  (h:∀y,X B W ak ro post (n+m) (hG (vs y) m env) (L' y) ay k) (fm:∀y,ly L (R y) (L' y):=by exact λ_=>yr) (hr:∀y,ex (hG (vs y) m env) (n+m) r=v y:=by exact λ_=>rfl)
  (hm:∀y,(vs y).length=m:=by exact λ_=>rfl) (h1:∀y,dX (vs y):=by exact λ_=>ew) (ha:fh env n args=aL:=by rfl):X B W ak ro post n env L ay (.call f args r m k):=
 Lx (v:=v) (N:=λy=>[R y]) (hS:=[]) (L':=L') [] vs ao h (hr:=hr) (hL:=λy=>(fm y).eq.symm) (hp:=rfl) (hR:=rfl) (hl:=λ_=>Nat.zero_le _) (hm:=hm) (h1:=h1) (ha:=ha)
end
end AE
end
end
namespace AE
abbrev ek:=Int×Int×Int×Int×Int×Int
def b_ (x:bA):List I:=[.int .i64 x.1,.int .i64 x.2.1,.int .i64 x.2.2]
abbrev P.val (x:bA):I:= .agg ⟨b_ x⟩
def im (x:ek):List I:=[.int .i64 x.1,.int .i64 x.2.1,.int .i64 x.2.2.1,.int .i64 x.2.2.2.1,.int .i64 x.2.2.2.2.1,.int .i64 x.2.2.2.2.2]
abbrev X.val (x:ek):I:= .agg ⟨im x⟩
def cO (p:bA) (b:ek):Prop:=b.1<=p.1/\p.1<b.2.2.2.1/\b.2.1<=p.2.1/\p.2.1<b.2.2.2.2.1/\b.2.2.1<=p.2.2/\p.2.2<b.2.2.2.2.2
instance (p:bA) (b:ek):Decidable (cO p b):=by unfold cO;infer_instance
def okB (b:ek):Prop:= -1048575<=b.1/\b.1<=1048575/\ -1048575<=b.2.1/\b.2.1<=1048575/\ -1048575<=b.2.2.1/\b.2.2.1<=1048575/\ -1048575<=b.2.2.2.1/\b.2.2.2.1<=1048575/\ -1048575<=b.2.2.2.2.1/\b.2.2.2.2.1<=1048575/\ -1048575<=b.2.2.2.2.2/\b.2.2.2.2.2<=1048575
instance (b:ek):Decidable (okB b):=by unfold okB;infer_instance
def gT (b:ek):Prop:=b.1<b.2.2.2.1/\b.2.1<b.2.2.2.2.1/\b.2.2.1<b.2.2.2.2.2
instance (b:ek):Decidable (gT b):=by unfold gT;infer_instance
def bz (b:ek):bA:=if gT b then (b.2.2.2.1-b.1,b.2.2.2.2.1-b.2.1,b.2.2.2.2.2-b.2.2.1) else (0,0,0)
def eW (b:ek):Int:=(bz b).1*(bz b).2.1*(bz b).2.2
def Bg (b:ek) (p:bA):Int:=if cO p b then (((p.2.2+((-1)*b.2.2.1))*(bz b).2.1)+(p.2.1+((-1)*b.2.1)))*(bz b).1+(p.1+((-1)*b.1)) else -1
def fY (b:ek) (i:Int):bA:=if 0<=i/\i<eW b then (b.1+i%(bz b).1,b.2.1+i/(bz b).1%(bz b).2.1,b.2.2.1+i/(bz b).1/(bz b).2.1) else (0,0,0)
theorem Bh {a b:Int} {A B:Nat} (h1:0<=a) (ad:a<=A) (al:0<=b) (bb:b<=B):0<=a*b/\a*b<=((A*B:Nat):Int):=by
 refine⟨Int.mul_nonneg h1 al,?_⟩;rw[Int.natCast_mul];exact Int.mul_le_mul ad bb al af
theorem q' {b:ek} (h:gT b):bz b=(b.2.2.2.1-b.1,b.2.2.2.2.1-b.2.1,b.2.2.2.2.2-b.2.2.1):=aR h
theorem Ge {b:ek} (h:¬gT b):bz b=(0,0,0):=aW h
theorem Ug {p:bA} {b:ek} (h:cO p b):gT b:=by
 unfold cO at h;unfold gT;omega
theorem Uh {p:bA} {b:ek} (h:cO p b):b.1<=p.1/\p.1<b.2.2.2.1/\b.2.1<=p.2.1/\p.2.1<b.2.2.2.2.1/\b.2.2.1<=p.2.2/\p.2.2<b.2.2.2.2.2:=h
theorem LH {p:bA} {b:ek} (h:cO p b):Bg b p=(((p.2.2+((-1)*b.2.2.1))*(bz b).2.1)+(p.2.1+((-1)*b.2.1)))*(bz b).1+(p.1+((-1)*b.1)):=aR h
theorem Ui {p:bA} {b:ek} (h:¬cO p b):Bg b p= -1:=aW h
theorem yz {b:ek} (U:okB b):0<=(bz b).1/\(bz b).1<=2097150/\0<=(bz b).2.1/\(bz b).2.1<=2097150/\0<=(bz b).2.2/\(bz b).2.2<=2097150:=by
 unfold okB at U;unfold bz;split
 ·rename_i h
  unfold gT at h;dsimp only;omega
 ·dsimp only
  omega
theorem Uj {b:ek} (U:okB b):0<=(bz b).1*(bz b).2.1/\(bz b).1*(bz b).2.1<=4398038122500/\0<=(bz b).1*(bz b).2.1*(bz b).2.2/\(bz b).1*(bz b).2.1*(bz b).2.2<=9223345648600875000:=by
 obtain⟨h1,ad,al,bb,b5,cE⟩:=yz U;obtain⟨m1,m2⟩:=Bh (A:=2097150) (B:=2097150) h1 af al af;obtain⟨m3,m4⟩:=Bh (A:=4398038122500) (B:=2097150) m1 af b5 af;exact⟨m1,af,m3,af⟩
theorem Uk {p:bA} {b:ek} (U:okB b) (h:cO p b):0<=((p.2.2+((-1)*b.2.2.1))*(bz b).2.1)/\((p.2.2+((-1)*b.2.2.1))*(bz b).2.1)<=4398038122500/\0<=(((p.2.2+((-1)*b.2.2.1))*(bz b).2.1)+(p.2.1+((-1)*b.2.1)))*(bz b).1/\(((p.2.2+((-1)*b.2.2.1))*(bz b).2.1)+(p.2.1+((-1)*b.2.1)))*(bz b).1<=9223345648600875000:=by
 obtain⟨h1,ad,al,bb,b5,cE⟩:=yz U;have aB:=Ug h;unfold okB at U;unfold cO at h;obtain⟨m1,m2⟩:=Bh (a:=p.2.2+((-1)*b.2.2.1)) (b:=(bz b).2.1) (A:=2097149) (B:=2097150) af af al af;have fC:p.2.1+((-1)*b.2.1)+1<=(bz b).2.1:=by
  rw[q' aB];dsimp only;omega
 obtain⟨m3,m4⟩:=Bh (a:=(((p.2.2+((-1)*b.2.2.1))*(bz b).2.1)+(p.2.1+((-1)*b.2.1)))) (b:=(bz b).1) (A:=4398038122500) (B:=2097150) af af h1 af;exact⟨m1,af,m3,af⟩
theorem Ul {b:ek} {i:Int} (h0:0<=i) (h1:¬((bz b).1*(bz b).2.1)*(bz b).2.2<=i):gT b:=by
 by_cases h:gT b
 ·exact h
 ·rw[Ge h] at h1
  simp at h1;omega
theorem LI {b:ek} {i:Int} (U:okB b) (h0:0<=i) (h1:¬((bz b).1*(bz b).2.1)*(bz b).2.2<=i):
  1<=(bz b).1/\1<=(bz b).2.1/\0<=i/(bz b).1/\i/(bz b).1<=i/\0<=i%(bz b).1/\i%(bz b).1<(bz b).1/\0<=i/(bz b).1%(bz b).2.1/\i/(bz b).1%(bz b).2.1<(bz b).2.1/\0<=i/(bz b).1/(bz b).2.1/\i/(bz b).1/(bz b).2.1<(bz b).2.2/\i<=9223345648600875000:=by
 have aB:=Ul h0 h1;have aw:=Uj U;have hs:=yz U;have ag:1<=(bz b).1:=by
  rw[q' aB];unfold gT at aB;dsimp only;omega
 have aT:1<=(bz b).2.1:=by
  rw[q' aB];unfold gT at aB;dsimp only;omega
 have ad:0<=i/(bz b).1:=Int.ediv_nonneg h0 af;refine⟨ag,aT,ad,Int.ediv_le_self _ h0,Int.emod_nonneg _ af,Int.emod_lt_of_pos _ af,Int.emod_nonneg _ af,Int.emod_lt_of_pos _ af,Int.ediv_nonneg ad af,?_,af⟩;refine Int.ediv_lt_of_lt_mul af (Int.ediv_lt_of_lt_mul af ?_);rw[show (bz b).2.2*(bz b).2.1*(bz b).1=(bz b).1*(bz b).2.1*(bz b).2.2 by rw[Int.mul_comm (bz b).2.2,Int.mul_assoc,Int.mul_comm (bz b).2.2,<-Int.mul_assoc,Int.mul_comm (bz b).2.1]];omega
theorem Um {b:ek} {i:Int} (h:¬(0<=i/\i<eW b)):fY b i=(0,0,0):=aW h
end AE
section
noncomputable section
namespace AE
theorem LJ {a b c aL b' c':Int} (h1:a=aL) (ad:b=b') (al:c=c'):Value.agg ⟨[n6 a,n6 b,n6 c]⟩=P.val (aL,b',c'):=by rw[h1,ad,al];rfl
namespace yA
def t:aN:=
.o (.bin .geq 3 0 3) 9 1 []<|
.a1 9 (
 .o (.bin .lss 3 0 6) 10 1 []<|
 .a1 10 (
  .o (.bin .geq 3 1 4) 11 1 []<|
  .a1 11 (
   .o (.bin .lss 3 1 7) 12 1 []<|
   .a1 12 (
    .o (.bin .geq 3 2 5) 13 1 []<|
    .a1 13 (
     .o (.bin .lss 3 2 8) 14 1 []<|
     .ret 14) (
     .ret (.bool false))) (
    .ret (.bool false))) (
   .ret (.bool false))) (
  .ret (.bool false))) (
 .ret (.bool false))
theorem bq:cL Tryd.prog 64 {} [.agg ⟨[0,1,2]⟩,.agg ⟨[3,4,5,6,7,8]⟩] 9=some t:=cT a6
theorem any (W:aj) (p:bA) (b:ek):c_ bf 64 [P.val p,X.val b] W (.bool (decide (cO p b))):=by
 refine dc (ro:=[]) mixed bq [n6 p.1,n6 p.2.1,n6 p.2.2,n6 b.1,n6 b.2.1,n6 b.2.2.1,n6 b.2.2.2.1,n6 b.2.2.2.2.1,n6 b.2.2.2.2.2] (.nil _) ?_;unfold t;refine aZ ?_;refine bD rfl (λ_=> ?_) λ_=> ?_
 ·refine aZ ?_
  refine bD rfl (λ_=> ?_) λ_=> ?_
  ·refine aZ ?_
   refine bD rfl (λ_=> ?_) λ_=> ?_
   ·refine aZ ?_
    refine bD rfl (λ_=> ?_) λ_=> ?_
    ·refine aZ ?_
     refine bD rfl (λ_=> ?_) λ_=> ?_
     ·refine aZ ?_
      exact bg (Bf (by unfold cO;omega))
     ·exact bg (fA (by unfold cO;omega))
    ·exact bg (fA (by unfold cO;omega))
   ·exact bg (fA (by unfold cO;omega))
  ·exact bg (fA (by unfold cO;omega))
 ·exact bg (fA (by unfold cO;omega))
end yA
namespace Gf
def t:aN:=
.o (.bin .geq 3 0 3) 9 1 []<|
.a1 9 (
 .o (.bin .lss 3 0 6) 10 1 []<|
 .o (.bin .geq 3 1 4) 11 1 []<|
 .a1 11 (
  .o (.bin .lss 3 1 7) 12 1 []<|
  .o (.bin .geq 3 2 5) 13 1 []<|
  .a1 13 (
   .o (.bin .lss 3 2 8) 14 1 []<|
   .a1 10 (
    .a1 12 (
     .ret 14) (
     .ret (.bool false))) (
    .ret (.bool false))) (
   .a1 10 (
    .a1 12 (
     .ret (.bool false)) (
     .ret (.bool false))) (
    .ret (.bool false)))) (
  .o (.bin .geq 3 2 5) 12 1 []<|
  .a1 12 (
   .o (.bin .lss 3 2 8) 13 1 []<|
   .a1 10 (
    .ret (.bool false)) (
    .ret (.bool false))) (
   .a1 10 (
    .ret (.bool false)) (
    .ret (.bool false))))) (
 .o (.bin .geq 3 1 4) 10 1 []<|
 .a1 10 (
  .o (.bin .lss 3 1 7) 11 1 []<|
  .o (.bin .geq 3 2 5) 12 1 []<|
  .a1 12 (
   .o (.bin .lss 3 2 8) 13 1 []<|
   .ret (.bool false)) (
   .ret (.bool false))) (
  .o (.bin .geq 3 2 5) 11 1 []<|
  .a1 11 (
   .o (.bin .lss 3 2 8) 12 1 []<|
   .ret (.bool false)) (
   .ret (.bool false))))
theorem bq:cL Tryd.prog 65 {} [.agg ⟨[0,1,2]⟩,.agg ⟨[3,4,5,6,7,8]⟩] 9=some t:=cT a6
theorem any (W:aj) (p:bA) (b:ek):c_ bf 65 [P.val p,X.val b] W (.bool (decide (cO p b))):=by
 refine dc (ro:=[]) mixed bq [n6 p.1,n6 p.2.1,n6 p.2.2,n6 b.1,n6 b.2.1,n6 b.2.2.1,n6 b.2.2.2.1,n6 b.2.2.2.2.1,n6 b.2.2.2.2.2] (.nil _) ?_;unfold t;refine aZ ?_;refine bD rfl (λ_=> ?_) λ_=> ?_
 ·refine aZ ?_
  refine bD rfl (λ_=> ?_) λ_=> ?_
  ·refine aZ ?_
   refine bD rfl (λ_=> ?_) λ_=> ?_
   ·refine aZ ?_
    refine bD rfl (λ_=> ?_) λ_=> ?_
    ·refine bD rfl (λ_=> ?_) λ_=> ?_
     ·exact bg (congrArg Value.bool (decide_eq_decide.2 (by unfold cO;omega)))
     ·exact bg (fA (by unfold cO;omega))
    ·exact bg (fA (by unfold cO;omega))
   ·refine bD rfl (λ_=> ?_) λ_=> ?_
    ·refine bD rfl (λ_=> ?_) λ_=> ?_
     ·exact bg (fA (by unfold cO;omega))
     ·exact bg (fA (by unfold cO;omega))
    ·exact bg (fA (by unfold cO;omega))
  ·refine aZ ?_
   refine bD rfl (λ_=> ?_) λ_=> ?_
   ·refine aZ ?_
    refine bD rfl (λ_=> ?_) λ_=> ?_
    ·exact bg (fA (by unfold cO;omega))
    ·exact bg (fA (by unfold cO;omega))
   ·refine bD rfl (λ_=> ?_) λ_=> ?_
    ·exact bg (fA (by unfold cO;omega))
    ·exact bg (fA (by unfold cO;omega))
 ·refine aZ ?_
  refine bD rfl (λ_=> ?_) λ_=> ?_
  ·refine aZ ?_
   refine bD rfl (λ_=> ?_) λ_=> ?_
   ·refine aZ ?_
    exact bg (fA (by unfold cO;omega))
   ·exact bg (fA (by unfold cO;omega))
  ·refine aZ ?_
   refine bD rfl (λ_=> ?_) λ_=> ?_
   ·refine aZ ?_
    exact bg (fA (by unfold cO;omega))
   ·exact bg (fA (by unfold cO;omega))
end Gf
namespace LK
def t:aN:=
.c 64 [.agg ⟨[0,1,2]⟩,.agg ⟨[0,1,2,3,4,5]⟩] 6 1<|
.o (.un .not 6) 7 1 []<|
.ret 7
theorem bq:cL Tryd.prog 106 {} [.agg ⟨[0,1,2,3,4,5]⟩] 6=some t:=cT a6
theorem any (W:aj) (b:ek):c_ bf 106 [X.val b] W (.bool (!decide (gT b))):=by
 refine dc (ro:=[]) mixed bq [n6 b.1,n6 b.2.1,n6 b.2.2.1,n6 b.2.2.2.1,n6 b.2.2.2.2.1,n6 b.2.2.2.2.2] (.nil _) ?_;unfold t;refine dm (v:= .bool (decide (gT b))) (λw _=>by
  have:=yA.any w (b.1,b.2.1,b.2.2.1) b;rw[decide_eq_decide.2 (show cO (b.1,b.2.1,b.2.2.1) b↔gT b by unfold cO gT;dsimp only;omega)] at this
  exact this) ?_
 refine n9 rfl ?_;exact bg rfl
end LK
namespace Gg
def t:aN:=
.o (.bin .geq 3 0 3) 6 1 []<|
.a1 6 (
 .ret (.bool true)) (
 .o (.bin .geq 3 1 4) 7 1 []<|
 .a1 7 (
  .ret (.bool true)) (
  .o (.bin .geq 3 2 5) 8 1 []<|
  .ret 8))
theorem bq:cL Tryd.prog 90 {} [.agg ⟨[0,1,2,3,4,5]⟩] 6=some t:=cT a6
theorem any {W:aj} (b:ek):c_ bf 90 [X.val b] W (.bool (!decide (gT b))):=by
 refine dc (ro:=[]) mixed bq [n6 b.1,n6 b.2.1,n6 b.2.2.1,n6 b.2.2.2.1,n6 b.2.2.2.2.1,n6 b.2.2.2.2.2] (.nil _) ?_;unfold t;refine aZ ?_;refine bD rfl (λ_=> ?_) λ_=> ?_
 ·exact bg (LD (by unfold gT;omega))
 ·refine aZ ?_
  refine bD rfl (λ_=> ?_) λ_=> ?_
  ·exact bg (LD (by unfold gT;omega))
  ·refine aZ ?_
   exact bg (Uf (by unfold gT;omega))
end Gg
def e0 (p:bA):Prop:= -2097152<=p.1/\p.1<=2097152/\ -2097152<=p.2.1/\p.2.1<=2097152/\ -2097152<=p.2.2/\p.2.2<=2097152
abbrev o5 (p q:bA):bA:=(p.1+q.1,p.2.1+q.2.1,p.2.2+q.2.2)
abbrev Bi (p q:bA):bA:=(p.1-q.1,p.2.1-q.2.1,p.2.2-q.2.2)
abbrev iq (p:bA) (n:Int):bA:=(n*p.1,n*p.2.1,n*p.2.2)
def jd (p:bA):Prop:= -4611686018427387904<=p.1/\p.1<=4611686018427387904/\ -4611686018427387904<=p.2.1/\p.2.1<=4611686018427387904/\ -4611686018427387904<=p.2.2/\p.2.2<=4611686018427387904
namespace sq
def t:aN:=
.o (.bin .add 3 0 3) 6 1 []<|
.o (.bin .add 3 1 4) 7 1 []<|
.o (.bin .add 3 2 5) 8 1 []<|
.ret (.agg ⟨[6,7,8]⟩)
theorem bq:cL Tryd.prog 44 {} [.agg ⟨[0,1,2]⟩,.agg ⟨[3,4,5]⟩] 6=some t:=cT a6
theorem any {W:aj} {p q:bA} (hp:jd p) (aA:e0 q):c_ bf 44 [P.val p,P.val q] W (P.val (o5 p q)):=by
 refine dc (ro:=[]) mixed bq [n6 p.1,n6 p.2.1,n6 p.2.2,n6 q.1,n6 q.2.1,n6 q.2.2] (.nil _) ?_;unfold t;unfold jd at hp;unfold e0 at aA;refine aZ ?_;exact bg rfl
end sq
namespace wc
def t:aN:=
.o (.bin .add 3 0 3) 6 1 []<|
.o (.bin .add 3 1 4) 7 1 []<|
.o (.bin .add 3 2 5) 8 1 []<|
.ret (.agg ⟨[6,7,8]⟩)
theorem bq:cL Tryd.prog 37 {} [.agg ⟨[0,1,2]⟩,.agg ⟨[3,4,5]⟩] 6=some t:=cT a6
theorem any {W:aj} {p q:bA} (hp:jd p) (aA:e0 q):c_ bf 37 [P.val p,P.val q] W (P.val (o5 p q)):=by
 refine dc (ro:=[]) mixed bq [n6 p.1,n6 p.2.1,n6 p.2.2,n6 q.1,n6 q.2.1,n6 q.2.2] (.nil _) ?_;unfold t;unfold jd at hp;unfold e0 at aA;refine aZ ?_;exact bg rfl
end wc
namespace Bj
def t:aN:=
.o (.bin .mul 3 3 0) 4 1 []<|
.o (.bin .mul 3 3 1) 5 1 []<|
.o (.bin .mul 3 3 2) 6 1 []<|
.ret (.agg ⟨[4,5,6]⟩)
theorem bq:cL Tryd.prog 45 {} [.agg ⟨[0,1,2]⟩,3] 4=some t:=cT a6
theorem any {W:aj} {p:bA} {n:Int} (hp:jd (iq p n)):c_ bf 45 [P.val p,n6 n] W (P.val (iq p n)):=by
 refine dc (ro:=[]) mixed bq [n6 p.1,n6 p.2.1,n6 p.2.2,n6 n] (.nil _) ?_;unfold t;unfold jd iq at hp;dsimp only at hp;refine aZ ?_;exact bg rfl
end Bj
namespace LL
def t:aN:=
.o (.bin .mul 3 0 3) 4 1 []<|
.o (.bin .mul 3 1 3) 5 1 []<|
.o (.bin .mul 3 2 3) 6 1 []<|
.ret (.agg ⟨[4,5,6]⟩)
theorem bq:cL Tryd.prog 38 {} [.agg ⟨[0,1,2]⟩,3] 4=some t:=cT a6
theorem any {W:aj} {p:bA} {n:Int} (hp:jd (iq p n)):c_ bf 38 [P.val p,n6 n] W (P.val (iq p n)):=by
 refine dc (ro:=[]) mixed bq [n6 p.1,n6 p.2.1,n6 p.2.2,n6 n] (.nil _) ?_;unfold t;unfold jd iq at hp;dsimp only at hp;rw[Int.mul_comm n p.1,Int.mul_comm n p.2.1,Int.mul_comm n p.2.2] at hp;refine aZ ?_;exact bg (LJ (Int.mul_comm _ _) (Int.mul_comm _ _) (Int.mul_comm _ _))
end LL
namespace Bk
def t:aN:=
.c 45 [.agg ⟨[3,4,5]⟩,n6 (-1)] (.agg ⟨[6,7,8]⟩) 3<|
.c 44 [.agg ⟨[0,1,2]⟩,.agg ⟨[6,7,8]⟩] (.agg ⟨[9,10,11]⟩) 3<|
.ret (.agg ⟨[9,10,11]⟩)
theorem bq:cL Tryd.prog 70 {} [.agg ⟨[0,1,2]⟩,.agg ⟨[3,4,5]⟩] 6=some t:=cT a6
theorem any {W:aj} {p q:bA} (hp:jd p) (aA:e0 q):c_ bf 70 [P.val p,P.val q] W (P.val (Bi p q)):=by
 refine dc (ro:=[]) mixed bq [n6 p.1,n6 p.2.1,n6 p.2.2,n6 q.1,n6 q.2.1,n6 q.2.2] (.nil _) ?_;unfold t;refine cI [n6 ((-1)*q.1),n6 ((-1)*q.2.1),n6 ((-1)*q.2.2)] (λw _=>Bj.any (p:=q) (n:= -1) (by unfold e0 at aA;unfold jd iq;dsimp only;omega)) rfl ?_;refine cI [n6 (p.1+(-1)*q.1),n6 (p.2.1+(-1)*q.2.1),n6 (p.2.2+(-1)*q.2.2)] (λw _=>sq.any (p:=p) (q:=((-1)*q.1,(-1)*q.2.1,(-1)*q.2.2)) hp (by unfold e0 at aA ⊢;dsimp only;omega)) rfl ?_;exact bg (LJ af af af)
end Bk
namespace Gh
def t:aN:=
.o (.bin .sub 3 0 3) 6 1 []<|
.o (.bin .sub 3 1 4) 7 1 []<|
.o (.bin .sub 3 2 5) 8 1 []<|
.ret (.agg ⟨[6,7,8]⟩)
theorem bq:cL Tryd.prog 72 {} [.agg ⟨[0,1,2]⟩,.agg ⟨[3,4,5]⟩] 6=some t:=cT a6
theorem any {W:aj} {p q:bA} (hp:jd p) (aA:e0 q):c_ bf 72 [P.val p,P.val q] W (P.val (Bi p q)):=by
 refine dc (ro:=[]) mixed bq [n6 p.1,n6 p.2.1,n6 p.2.2,n6 q.1,n6 q.2.1,n6 q.2.2] (.nil _) ?_;unfold t;unfold jd at hp;unfold e0 at aA;refine aZ ?_;exact bg rfl
end Gh
theorem o6 {b:ek} (U:okB b):jd (b.1,b.2.1,b.2.2.1)/\jd (b.2.2.2.1,b.2.2.2.2.1,b.2.2.2.2.2)/\e0 (b.1,b.2.1,b.2.2.1):=by
 unfold okB at U;unfold jd e0;dsimp only;omega
namespace Bl
def t:aN:=
.c 106 [.agg ⟨[0,1,2,3,4,5]⟩] 6 1<|
.a1 6 (
 .ret (.agg ⟨[n6 0,n6 0,n6 0]⟩)) (
 .c 70 [.agg ⟨[3,4,5]⟩,.agg ⟨[0,1,2]⟩] (.agg ⟨[7,8,9]⟩) 3<|
 .ret (.agg ⟨[7,8,9]⟩))
theorem bq:cL Tryd.prog 92 {} [.agg ⟨[0,1,2,3,4,5]⟩] 6=some t:=cT a6
theorem any (W:aj) (b:ek) (U:okB b):c_ bf 92 [X.val b] W (P.val (bz b)):=by
 refine dc (ro:=[]) mixed bq [n6 b.1,n6 b.2.1,n6 b.2.2.1,n6 b.2.2.2.1,n6 b.2.2.2.2.1,n6 b.2.2.2.2.2] (.nil _) ?_;unfold t;refine dm (v:= .bool (!decide (gT b))) (λw _=>LK.any w b) ?_;refine mF rfl (λh=>bg ?_) λh=> ?_
 ·rw[Ge h]
  rfl
 ·rw[q' h]
  refine cI [n6 (b.2.2.2.1-b.1),n6 (b.2.2.2.2.1-b.2.1),n6 (b.2.2.2.2.2-b.2.2.1)] (λw _=>Bk.any (p:=(b.2.2.2.1,b.2.2.2.2.1,b.2.2.2.2.2)) (q:=(b.1,b.2.1,b.2.2.1)) (o6 U).2.1 (o6 U).2.2) rfl ?_;exact bg rfl
end Bl
namespace Gi
def t:aN:=
.c 90 [.agg ⟨[0,1,2,3,4,5]⟩] 6 1<|
.a1 6 (
 .ret (.agg ⟨[n6 0,n6 0,n6 0]⟩)) (
 .c 72 [.agg ⟨[3,4,5]⟩,.agg ⟨[0,1,2]⟩] (.agg ⟨[7,8,9]⟩) 3<|
 .ret (.agg ⟨[7,8,9]⟩))
theorem bq:cL Tryd.prog 75 {} [.agg ⟨[0,1,2,3,4,5]⟩] 6=some t:=cT a6
theorem any (W:aj) (b:ek) (U:okB b):c_ bf 75 [X.val b] W (P.val (bz b)):=by
 refine dc (ro:=[]) mixed bq [n6 b.1,n6 b.2.1,n6 b.2.2.1,n6 b.2.2.2.1,n6 b.2.2.2.2.1,n6 b.2.2.2.2.2] (.nil _) ?_;unfold t;refine dm (v:= .bool (!decide (gT b))) (λw _=>Gg.any b) ?_;refine mF rfl (λh=>bg ?_) λh=> ?_
 ·rw[Ge h]
  rfl
 ·rw[q' h]
  refine cI [n6 (b.2.2.2.1-b.1),n6 (b.2.2.2.2.1-b.2.1),n6 (b.2.2.2.2.2-b.2.2.1)] (λw _=>Gh.any (p:=(b.2.2.2.1,b.2.2.2.2.1,b.2.2.2.2.2)) (q:=(b.1,b.2.1,b.2.2.1)) (o6 U).2.1 (o6 U).2.2) rfl ?_;exact bg rfl
end Gi
theorem Gj {b:ek} (U:okB b):0<=(bz b).1*(bz b).2.1/\(bz b).1*(bz b).2.1<=2097150*2097150/\0<=eW b/\eW b<=2097150*2097150*2097150:=by
 obtain⟨h1,ad,al,bb,b5,cE⟩:=yz U;have m1:0<=(bz b).1*(bz b).2.1/\(bz b).1*(bz b).2.1<=2097150*2097150:=⟨Int.mul_nonneg h1 al,Int.mul_le_mul ad bb al cG⟩;exact⟨m1.1,m1.2,Int.mul_nonneg m1.1 b5,Int.mul_le_mul m1.2 cE b5 cG⟩
namespace LM
def t:aN:=
.c 92 [.agg ⟨[0,1,2,3,4,5]⟩] (.agg ⟨[6,7,8]⟩) 3<|
.o (.bin .mul 3 6 7) 9 1 []<|
.o (.bin .mul 3 9 8) 10 1 []<|
.ret 10
theorem bq:cL Tryd.prog 93 {} [.agg ⟨[0,1,2,3,4,5]⟩] 6=some t:=cT a6
theorem any (W:aj) (b:ek) (U:okB b):c_ bf 93 [X.val b] W (n6 (eW b)):=by
 obtain⟨m1,m2,m3,m4⟩:=Gj U;unfold eW at m3 m4;refine dc (ro:=[]) mixed bq [n6 b.1,n6 b.2.1,n6 b.2.2.1,n6 b.2.2.2.1,n6 b.2.2.2.2.1,n6 b.2.2.2.2.2] (.nil _) ?_;unfold t;refine cI [n6 (bz b).1,n6 (bz b).2.1,n6 (bz b).2.2] (λw _=>Bl.any w b U) rfl ?_;refine kD ae ae ?_;refine kD ae ae ?_;exact bg rfl
end LM
namespace tY
def t:aN:=
.c 75 [.agg ⟨[0,1,2,3,4,5]⟩] (.agg ⟨[6,7,8]⟩) 3<|
.o (.bin .mul 3 6 7) 9 1 []<|
.o (.bin .mul 3 9 8) 10 1 []<|
.ret 10
theorem bq:cL Tryd.prog 50 {} [.agg ⟨[0,1,2,3,4,5]⟩] 6=some t:=cT a6
theorem any {W:aj} {b:ek} (U:okB b):c_ bf 50 [X.val b] W (n6 (eW b)):=by
 obtain⟨m1,m2,m3,m4⟩:=Gj U;unfold eW at m3 m4;refine dc (ro:=[]) mixed bq [n6 b.1,n6 b.2.1,n6 b.2.2.1,n6 b.2.2.2.1,n6 b.2.2.2.2.1,n6 b.2.2.2.2.2] (.nil _) ?_;unfold t;refine cI [n6 (bz b).1,n6 (bz b).2.1,n6 (bz b).2.2] (λw _=>Gi.any w b U) rfl ?_;refine kD ae ae ?_;refine kD ae ae ?_;exact bg rfl
end tY
abbrev fp (n:Int):ek:=(0,0,0,n,n,n)
abbrev Bm (b:ek) (p:bA):ek:=(b.1+p.1,b.2.1+p.2.1,b.2.2.1+p.2.2,b.2.2.2.1+p.1,b.2.2.2.2.1+p.2.1,b.2.2.2.2.2+p.2.2)
namespace Bn
def t:aN:=
.ret (.agg ⟨[n6 0,n6 0,n6 0,0,0,0]⟩)
theorem bq:cL Tryd.prog 67 {} [0] 1=some t:=cT a6
theorem any {W:aj} {n:Int}:c_ bf 67 [n6 n] W (X.val (fp n)):=by
 refine dc (ro:=[]) mixed bq [n6 n] (.nil _) ?_;unfold t;exact bg rfl
end Bn
namespace Bo
def t:aN:=
.ret (.agg ⟨[n6 0,n6 0,n6 0,0,0,0]⟩)
theorem bq:cL Tryd.prog 36 {} [0] 1=some t:=cT a6
theorem any {W:aj} {n:Int}:c_ bf 36 [n6 n] W (X.val (fp n)):=by
 refine dc (ro:=[]) mixed bq [n6 n] (.nil _) ?_;unfold t;exact bg rfl
end Bo
namespace LN
def t:aN:=
.c 44 [.agg ⟨[0,1,2]⟩,.agg ⟨[6,7,8]⟩] (.agg ⟨[9,10,11]⟩) 3<|
.c 44 [.agg ⟨[3,4,5]⟩,.agg ⟨[6,7,8]⟩] (.agg ⟨[12,13,14]⟩) 3<|
.ret (.agg ⟨[9,10,11,12,13,14]⟩)
theorem bq:cL Tryd.prog 66 {} [.agg ⟨[0,1,2,3,4,5]⟩,.agg ⟨[6,7,8]⟩] 9=some t:=cT a6
theorem any {W:aj} {b:ek} {p:bA} (U:okB b) (hp:e0 p):c_ bf 66 [X.val b,P.val p] W (X.val (Bm b p)):=by
 refine dc (ro:=[]) mixed bq [n6 b.1,n6 b.2.1,n6 b.2.2.1,n6 b.2.2.2.1,n6 b.2.2.2.2.1,n6 b.2.2.2.2.2,n6 p.1,n6 p.2.1,n6 p.2.2] (.nil _) ?_;unfold t;refine cI [n6 (b.1+p.1),n6 (b.2.1+p.2.1),n6 (b.2.2.1+p.2.2)] (λw _=>sq.any (p:=(b.1,b.2.1,b.2.2.1)) (q:=p) (o6 U).1 hp) rfl ?_;refine cI [n6 (b.2.2.2.1+p.1),n6 (b.2.2.2.2.1+p.2.1),n6 (b.2.2.2.2.2+p.2.2)] (λw _=>sq.any (p:=(b.2.2.2.1,b.2.2.2.2.1,b.2.2.2.2.2)) (q:=p) (o6 U).2.1 hp) rfl ?_;exact bg rfl
end LN
namespace LO
def t:aN:=
.c 37 [.agg ⟨[0,1,2]⟩,.agg ⟨[6,7,8]⟩] (.agg ⟨[9,10,11]⟩) 3<|
.c 37 [.agg ⟨[3,4,5]⟩,.agg ⟨[6,7,8]⟩] (.agg ⟨[12,13,14]⟩) 3<|
.ret (.agg ⟨[9,10,11,12,13,14]⟩)
theorem bq:cL Tryd.prog 69 {} [.agg ⟨[0,1,2,3,4,5]⟩,.agg ⟨[6,7,8]⟩] 9=some t:=cT a6
theorem any {W:aj} {b:ek} {p:bA} (U:okB b) (hp:e0 p):c_ bf 69 [X.val b,P.val p] W (X.val (Bm b p)):=by
 refine dc (ro:=[]) mixed bq [n6 b.1,n6 b.2.1,n6 b.2.2.1,n6 b.2.2.2.1,n6 b.2.2.2.2.1,n6 b.2.2.2.2.2,n6 p.1,n6 p.2.1,n6 p.2.2] (.nil _) ?_;unfold t;refine cI [n6 (b.1+p.1),n6 (b.2.1+p.2.1),n6 (b.2.2.1+p.2.2)] (λw _=>wc.any (p:=(b.1,b.2.1,b.2.2.1)) (q:=p) (o6 U).1 hp) rfl ?_;refine cI [n6 (b.2.2.2.1+p.1),n6 (b.2.2.2.2.1+p.2.1),n6 (b.2.2.2.2.2+p.2.2)] (λw _=>wc.any (p:=(b.2.2.2.1,b.2.2.2.2.1,b.2.2.2.2.2)) (q:=p) (o6 U).2.1 hp) rfl ?_;exact bg rfl
end LO
namespace LP
def t:aN:=
.c 64 [.agg ⟨[6,7,8]⟩,.agg ⟨[0,1,2,3,4,5]⟩] 9 1<|
.o (.un .not 9) 10 1 []<|
.a1 10 (
 .ret (n6 (-1))) (
 .c 92 [.agg ⟨[0,1,2,3,4,5]⟩] (.agg ⟨[11,12,13]⟩) 3<|
 .c 70 [.agg ⟨[6,7,8]⟩,.agg ⟨[0,1,2]⟩] (.agg ⟨[14,15,16]⟩) 3<|
 .o (.bin .mul 3 16 12) 17 1 []<|
 .o (.bin .add 3 17 15) 18 1 []<|
 .o (.bin .mul 3 18 11) 19 1 []<|
 .o (.bin .add 3 19 14) 20 1 []<|
 .ret 20)
theorem bq:cL Tryd.prog 71 {} [.agg ⟨[0,1,2,3,4,5]⟩,.agg ⟨[6,7,8]⟩] 9=some t:=cT a6
theorem any (W:aj) (b:ek) (p:bA) (U:okB b):c_ bf 71 [X.val b,P.val p] W (n6 (Bg b p)):=by
 refine dc (ro:=[]) mixed bq [n6 b.1,n6 b.2.1,n6 b.2.2.1,n6 b.2.2.2.1,n6 b.2.2.2.2.1,n6 b.2.2.2.2.2,n6 p.1,n6 p.2.1,n6 p.2.2] (.nil _) ?_;unfold t;refine dm (v:= .bool (decide (cO p b))) (λw _=>yA.any w p b) ?_;refine n9 rfl ?_;refine mF rfl (λh=>bg ?_) λh=> ?_
 ·rw[Ui h]
  rfl
 ·have hp:=Uh h
  have cK:=U;unfold okB at cK;have q:=Uk U h;rw[LH h,show p.2.2+(-1)*b.2.2.1=p.2.2-b.2.2.1 by omega,show p.2.1+(-1)*b.2.1=p.2.1-b.2.1 by omega,show p.1+(-1)*b.1=p.1-b.1 by omega];rw[show p.2.2+(-1)*b.2.2.1=p.2.2-b.2.2.1 by omega,show p.2.1+(-1)*b.2.1=p.2.1-b.2.1 by omega] at q;refine cI [n6 (bz b).1,n6 (bz b).2.1,n6 (bz b).2.2] (λw _=>Bl.any w b U) rfl ?_;refine cI [n6 (p.1-b.1),n6 (p.2.1-b.2.1),n6 (p.2.2-b.2.2.1)] (λw _=>Bk.any (p:=p) (q:=(b.1,b.2.1,b.2.2.1)) (by unfold jd;omega) (o6 U).2.2) rfl ?_;refine kD ae ae ?_;refine kC ae ae ?_;refine kD ae ae ?_;refine kC ae ae ?_;exact bg rfl
end LP
theorem LQ {b:ek} (U:okB b) {i:Int} (h0:0<=i) (h1:i<eW b):e0 (i%(bz b).1,i/(bz b).1%(bz b).2.1,i/(bz b).1/(bz b).2.1)/\1<=(bz b).1/\1<=(bz b).2.1/\0<=i/(bz b).1/\i/(bz b).1<=9223372036854775807/\i<=9223372036854775807:=by
 have q:=LI U h0 (by unfold eW at h1;omega);have v:=(Gj U).2.2.2;have z:=yz U;unfold e0;dsimp only;omega
namespace LR
def t:aN:=
.o (.bin .lss 3 6 (n6 0)) 7 1 []<|
.a1 7 (
 .ret (.tuple ⟨[.agg ⟨[n6 0,n6 0,n6 0]⟩,.bool false]⟩)) (
 .c 93 [.agg ⟨[0,1,2,3,4,5]⟩] 8 1<|
 .o (.bin .geq 3 6 8) 9 1 []<|
 .a1 9 (
  .ret (.tuple ⟨[.agg ⟨[n6 0,n6 0,n6 0]⟩,.bool false]⟩)) (
  .c 92 [.agg ⟨[0,1,2,3,4,5]⟩] (.agg ⟨[10,11,12]⟩) 3<|
  .o (.bin .quo 3 6 10) 13 1 []<|
  .o (.bin .rem 3 6 10) 14 1 []<|
  .o (.bin .rem 3 13 11) 15 1 []<|
  .o (.bin .quo 3 13 11) 16 1 []<|
  .c 44 [.agg ⟨[0,1,2]⟩,.agg ⟨[14,15,16]⟩] (.agg ⟨[17,18,19]⟩) 3<|
  .ret (.tuple ⟨[.agg ⟨[17,18,19]⟩,.bool true]⟩)))
theorem bq:cL Tryd.prog 77 {} [.agg ⟨[0,1,2,3,4,5]⟩,6] 7=some t:=cT a6
theorem any (W:aj) (b:ek) (i:Int) (U:okB b):c_ bf 77 [X.val b,n6 i] W (.tuple ⟨[P.val (fY b i),.bool (decide (0<=i/\i<eW b))]⟩):=by
 have no:¬(0<=i/\i<eW b)->Value.tuple ⟨[.agg ⟨[n6 0,n6 0,n6 0]⟩,.bool false]⟩= .tuple ⟨[P.val (fY b i),.bool (decide (0<=i/\i<eW b))]⟩:=λh=>by
  rw[Um h,kJ h];rfl
 refine dc (ro:=[]) mixed bq [n6 b.1,n6 b.2.1,n6 b.2.2.1,n6 b.2.2.2.1,n6 b.2.2.2.2.1,n6 b.2.2.2.2.2,n6 i] (.nil _) ?_;unfold t;refine aZ ?_;refine bD rfl (λh=>bg (no λq=>by omega)) λh0=> ?_
 refine dm (v:=n6 (eW b)) (λw _=>LM.any w b U) ?_;refine aZ ?_;refine bD rfl (λh=>bg (no λq=>by omega)) λh1=> ?_
 have J:0<=i/\i<eW b:=⟨af,af⟩;rw[jh J];have ha:fY b i=(b.1+i%(bz b).1,b.2.1+i/(bz b).1%(bz b).2.1,b.2.2.1+i/(bz b).1/(bz b).2.1):=aR J;obtain⟨iR,q1,aJ,cg,dn,fe⟩:=LQ U J.1 J.2;rw[ha];obtain⟨y,aT⟩:∃y,y=i/(bz b).1:=⟨_,rfl⟩;rw[<-aT] at iR cg dn ⊢;refine cI [n6 (bz b).1,n6 (bz b).2.1,n6 (bz b).2.2] (λw _=>Bl.any w b U) rfl ?_;refine p4 ae ae ?_;rw[<-aT];refine p5 ae ae ?_;refine p5 ae ae ?_;refine p4 ae ae ?_;refine cI [n6 (b.1+i%(bz b).1),n6 (b.2.1+y%(bz b).2.1),n6 (b.2.2.1+y/(bz b).2.1)] (λw _=>sq.any (p:=(b.1,b.2.1,b.2.2.1)) (q:=(i%(bz b).1,y%(bz b).2.1,y/(bz b).2.1)) (o6 U).1 iR) rfl ?_;exact bg rfl
end LR
namespace LS
def t:aN:=
.o (.bin .lss 3 6 (n6 0)) 7 1 []<|
.a1 7 (
 .ret (.tuple ⟨[.agg ⟨[n6 0,n6 0,n6 0]⟩,.bool false]⟩)) (
 .c 50 [.agg ⟨[0,1,2,3,4,5]⟩] 8 1<|
 .o (.bin .geq 3 6 8) 9 1 []<|
 .a1 9 (
  .ret (.tuple ⟨[.agg ⟨[n6 0,n6 0,n6 0]⟩,.bool false]⟩)) (
  .c 75 [.agg ⟨[0,1,2,3,4,5]⟩] (.agg ⟨[10,11,12]⟩) 3<|
  .o (.bin .rem 3 6 10) 13 1 []<|
  .o (.bin .quo 3 6 10) 14 1 []<|
  .o (.bin .rem 3 14 11) 15 1 []<|
  .o (.bin .quo 3 14 11) 16 1 []<|
  .c 37 [.agg ⟨[0,1,2]⟩,.agg ⟨[13,15,16]⟩] (.agg ⟨[17,18,19]⟩) 3<|
  .ret (.tuple ⟨[.agg ⟨[17,18,19]⟩,.bool true]⟩)))
theorem bq:cL Tryd.prog 35 {} [.agg ⟨[0,1,2,3,4,5]⟩,6] 7=some t:=cT a6
theorem any {W:aj} {b:ek} (U:okB b) {i:Int} (h0:0<=i) (h1:i<eW b):c_ bf 35 [X.val b,n6 i] W (.tuple ⟨[P.val (fY b i),.bool true]⟩):=by
 have ha:fY b i=(b.1+i%(bz b).1,b.2.1+i/(bz b).1%(bz b).2.1,b.2.2.1+i/(bz b).1/(bz b).2.1):=aR ⟨h0,h1⟩;obtain⟨iR,q1,aJ,cg,dn,fe⟩:=LQ U h0 h1;rw[ha];obtain⟨y,aT⟩:∃y,y=i/(bz b).1:=⟨_,rfl⟩;rw[<-aT] at iR cg dn ⊢;refine dc (ro:=[]) mixed bq [n6 b.1,n6 b.2.1,n6 b.2.2.1,n6 b.2.2.2.1,n6 b.2.2.2.2.1,n6 b.2.2.2.2.2,n6 i] (.nil _) ?_;unfold t;refine aZ ?_;refine bD rfl (λh=>absurd h af) λ_=> ?_
 refine dm (v:=n6 (eW b)) (λw _=>tY.any U) ?_;refine aZ ?_;refine bD rfl (λh=>absurd h af) λ_=> ?_
 refine cI [n6 (bz b).1,n6 (bz b).2.1,n6 (bz b).2.2] (λw _=>Gi.any w b U) rfl ?_;refine p5 ae ae ?_;refine p4 ae ae ?_;rw[<-aT];refine p5 ae ae ?_;refine p4 ae ae ?_;refine cI [n6 (b.1+i%(bz b).1),n6 (b.2.1+y%(bz b).2.1),n6 (b.2.2.1+y/(bz b).2.1)] (λw _=>wc.any (p:=(b.1,b.2.1,b.2.2.1)) (q:=(i%(bz b).1,y%(bz b).2.1,y/(bz b).2.1)) (o6 U).1 iR) rfl ?_;exact bg rfl
end LS
end AE
end
end
end Go.Proofs.YtmfckpdcljjdjaaDoor
namespace Go.Proofs.YtmfckpdcljjdjaaDoor
namespace AE
def eg:Nat->Nat->Nat->Nat->Nat
 |0,_,_,_=>0
 |n+1,x,y,z=>8*eg n (x/2) (y/2) (z/2)+(x%2+2*(y%2)+4*(z%2))
theorem yB:∀(n x y z:Nat),eg n x y z<8^n
 |0,_,_,_=>by simp [eg]
 |n+1,x,y,z=>by
  have:=yB n (x/2) (y/2) (z/2);unfold eg;rw[Nat.pow_succ];omega
theorem LU:∀(n x y z:Nat),eg (n+1) x y z=eg n x y z+8^n*(x/2^n%2+2*(y/2^n%2)+4*(z/2^n%2))
 |0,x,y,z=>by simp [eg]
 |n+1,x,y,z=>by
  have h:=LU n (x/2) (y/2) (z/2);rw[Nat.div_div_eq_div_mul,Nat.div_div_eq_div_mul,Nat.div_div_eq_div_mul] at h;rw[show eg (n+1+1) x y z=8*eg (n+1) (x/2) (y/2) (z/2)+(x%2+2*(y%2)+4*(z%2)) from rfl,h,show eg (n+1) x y z=8*eg n (x/2) (y/2) (z/2)+(x%2+2*(y%2)+4*(z%2)) from rfl,Nat.pow_succ 8,Nat.pow_succ 2,Nat.mul_comm (2^n) 2,Nat.mul_add,<-Nat.mul_assoc,Nat.mul_comm 8 (8^n)];omega
theorem Gk:∀(m n x y z:Nat),eg (m+n) x y z=eg m x y z+8^m*eg n (x/2^m) (y/2^m) (z/2^m)
 |0,n,x,y,z=>by simp [eg]
 |m+1,n,x,y,z=>by
  have h:=Gk m n (x/2) (y/2) (z/2);rw[Nat.div_div_eq_div_mul,Nat.div_div_eq_div_mul,Nat.div_div_eq_div_mul] at h;rw[show m+1+n=(m+n)+1 by omega,show eg (m+n+1) x y z=8*eg (m+n) (x/2) (y/2) (z/2)+(x%2+2*(y%2)+4*(z%2)) from rfl,h,show eg (m+1) x y z=8*eg m (x/2) (y/2) (z/2)+(x%2+2*(y%2)+4*(z%2)) from rfl,Nat.pow_succ 8,Nat.pow_succ 2,Nat.mul_comm (2^m) 2,Nat.mul_add,<-Nat.mul_assoc,Nat.mul_comm 8 (8^m)];omega
theorem Gl:∀(n:Nat) {x y z x' d_ p8:Nat},x<2^n->y<2^n->z<2^n->x'<2^n->d_<2^n->p8<2^n->eg n x y z=eg n x' d_ p8->x=x'/\y=d_/\z=p8
 |0,x,y,z,x',d_,p8,h1,ad,al,bb,b5,cE,_=>by simp at *;omega
 |n+1,x,y,z,x',d_,p8,h1,ad,al,bb,b5,cE,h=>by
  unfold eg at h;rw[Nat.pow_succ] at h1 ad al bb b5 cE;have e:eg n (x/2) (y/2) (z/2)=eg n (x'/2) (d_/2) (p8/2):=by omega
  obtain⟨a,b,c⟩:=Gl n af af af af af af e;omega
theorem yC:∀(n:Nat),eg n 0 0 0=0
 |0=>rfl
 |n+1=>by unfold eg;simp [yC n]
theorem Un (m n x y z:Nat):eg (m+n) x y z/8^m=eg n (x/2^m) (y/2^m) (z/2^m):=by
 rw[Gk,Nat.add_mul_div_left _ _ (Nat.pow_pos cG),Nat.div_eq_of_lt (yB m x y z),Nat.zero_add]
theorem Uo (m n x y z:Nat):eg (m+n) x y z%8^m=eg m x y z:=by
 rw[Gk,Nat.add_mul_mod_self_left,Nat.mod_eq_of_lt (yB m x y z)]
theorem Gm:∀(n:Nat) {x y z x' d_ p8:Nat},x%2^n=x'%2^n->y%2^n=d_%2^n->z%2^n=p8%2^n->eg n x y z=eg n x' d_ p8
 |0,_,_,_,_,_,_,_,_,_=>rfl
 |n+1,x,y,z,x',d_,p8,h1,ad,al=>by
  have key:∀{a b:Nat},a%2^(n+1)=b%2^(n+1)->a%2=b%2/\a/2%2^n=b/2%2^n:=λ{a b} h=>by
   have e:∀c:Nat,c%2^(n+1)=2*(c/2%2^n)+c%2:=λc=>by
    rw[Nat.pow_succ,Nat.mul_comm,Nat.mod_mul];omega
   rw[e a,e b] at h;omega
  obtain⟨db,a2⟩:=key h1;obtain⟨eH,fK⟩:=key ad;obtain⟨c1,c2⟩:=key al;unfold eg;rw[Gm n a2 fK c2,db,eH,c1]
theorem Up {m x y z:Nat}:eg m x y z=0↔x%2^m=0/\y%2^m=0/\z%2^m=0:=by
 have hp:0<2^m:=Nat.pow_pos cG;constructor
 ·intro h
  have e:eg m (x%2^m) (y%2^m) (z%2^m)=eg m 0 0 0:=by
   rw[yC,<-h];exact Gm m (Nat.mod_mod ..) (Nat.mod_mod ..) (Nat.mod_mod ..)
  exact Gl m (Nat.mod_lt _ hp) (Nat.mod_lt _ hp) (Nat.mod_lt _ hp) hp hp hp e
 ·rintro ⟨h1,ad,al⟩
  rw[<-yC m];exact Gm m (by simpa using h1) (by simpa using ad) (by simpa using al)
def gg:Nat->Nat->Nat×Nat×Nat
 |0,_=>(0,0,0)
 |n+1,c=>(2*(gg n (c/8)).1+c%2,2*(gg n (c/8)).2.1+c/2%2,2*(gg n (c/8)).2.2+c/4%2)
theorem LV:∀(n c:Nat),(gg n c).1<2^n/\(gg n c).2.1<2^n/\(gg n c).2.2<2^n
 |0,c=>by simp [gg]
 |n+1,c=>by
  have:=LV n (c/8);unfold gg;rw[Nat.pow_succ];dsimp only;omega
end AE
namespace AE
def dK (p:bA):Prop:=0<=p.1/\p.1<16384/\0<=p.2.1/\p.2.1<16384/\0<=p.2.2/\p.2.2<16384
instance (p:bA):Decidable (dK p):=by unfold dK;infer_instance
def e3 (p:bA):Nat:=eg 14 p.1.toNat p.2.1.toNat p.2.2.toNat
def cD (p:bA):Int:=if dK p then ((e3 p:Nat):Int) else -1
def b3 (t:bw):Nat:=t.1.toNat+2
def cp (t:bw):Int:=((2^b3 t:Nat):Int)
def bG (t:bw):ek:=(t.2.1,t.2.2.1,t.2.2.2,t.2.1+cp t,t.2.2.1+cp t,t.2.2.2+cp t)
def gh (d:Nat):List bw->Nat->Prop
 |[],c=>c=8^d
 |t::r,c=>(0<=t.1/\t.1+2<=d)/\(dK t.2/\e3 t.2=c)/\c%8^b3 t=0/\gh d r (c+8^b3 t)
instance Uq (d:Nat):∀(l:List bw) (c:Nat),Decidable (gh d l c)
 |[],c=>by unfold gh;infer_instance
 |t::r,c=>by
  unfold gh;have:=Uq d r (c+8^b3 t)
  infer_instance
theorem Gn {d:Nat}:∀{l:List bw} {c:Nat},gh d l c->c<=8^d
 |[],_,h=>Nat.le_of_eq h
 |t::r,c,h=>Nat.le_trans (Nat.le_add_right c (8^b3 t)) (Gn h.2.2.2)
def h3 (l:List bw) (k:Nat):Nat:=e3 (l.getD k default).2
theorem wg {d:Nat}:∀{l:List bw} {c k:Nat},gh d l c->k<l.length->(0<=(l.getD k default).1/\(l.getD k default).1+2<=d)/\dK (l.getD k default).2/\c<=h3 l k/\h3 l k%8^b3 (l.getD k default)=0/\h3 l k+8^b3 (l.getD k default)<=8^d
 |[],_,_,_,h=>by simp at h
 |t::r,c,0,h,_=>by
  obtain⟨h1,ad,al,bb⟩:=h;have:=Gn bb;refine⟨h1,ad.1,?_,?_,?_⟩
  ·exact Nat.le_of_eq ad.2.symm
  ·show e3 t.2%_=0
   rw[ad.2];exact al
  ·show e3 t.2+8^b3 t<=_
   rw[ad.2];exact this
 |t::r,c,k+1,h,hk=>by
  obtain⟨h1,ad,al,bb⟩:=h;obtain⟨q1,aJ,cg,dn,fe⟩:=wg (k:=k) bb (by simpa using hk);refine⟨q1,aJ,?_,dn,fe⟩;show c<=h3 r k;omega
theorem Gp {d:Nat}:∀{l:List bw} {c k:Nat},gh d l c->k+1<l.length->h3 l (k+1)=h3 l k+8^b3 (l.getD k default)
 |[],_,_,_,h=>by simp at h
 |t::[],_,_,_,h=>by simp at h
 |t::u::r,c,0,h,_=>by
  obtain⟨_,ad,_,bb⟩:=h;show e3 u.2=e3 t.2+8^b3 t;rw[bb.2.1.2,ad.2]
 |t::u::r,c,k+1,h,hk=>Gp (l:=u::r) (k:=k) h.2.2.2 (by simpa using hk)
theorem LW {d:Nat}:∀{l:List bw} {c:Nat},gh d l c->0<l.length->h3 l (l.length-1)+8^b3 (l.getD (l.length-1) default)=8^d
 |[],_,_,h=>by simp at h
 |[t],c,h,_=>by
  obtain⟨_,ad,_,bb⟩:=h;show e3 t.2+8^b3 t=_;rw[ad.2];exact bb
 |t::u::r,c,h,_=>LW (l:=u::r) h.2.2.2 (by simp)
theorem wh {d:Nat} {l:List bw} {c:Nat} (h:gh d l c):∀{i k:Nat},i<k->k<l.length->h3 l i+8^b3 (l.getD i default)<=h3 l k
 |i,0,h1,_=>by omega
 |i,k+1,h1,ad=>by
  have e:=Gp h ad;rcases Nat.lt_or_ge i k with al|al
  ·have:=wh h al af
   have PF:0<8^b3 (l.getD k default):=Nat.pow_pos cG;omega
  ·obtain rfl:i=k:=by omega
   omega
theorem Ur {d:Nat} {l:List bw} {c:Nat} (h:gh d l c) (hl:0<l.length):h3 l 0=c:=by
 cases l with
 |nil=>simp at hl
 |cons t r=>exact h.2.1.2
theorem LX {m:Nat} (hm:m<=14) (p:bA):e3 p/8^m=eg (14-m) (p.1.toNat/2^m) (p.2.1.toNat/2^m) (p.2.2.toNat/2^m):=by
 unfold e3
 conv=>lhs;rw[show 14=m+(14-m) by omega]
 exact Un m (14-m) _ _ _
theorem Us {m:Nat} (hm:m<=14) (p:bA):e3 p%8^m=eg m p.1.toNat p.2.1.toNat p.2.2.toNat:=by
 unfold e3
 conv=>lhs;rw[show 14=m+(14-m) by omega]
 exact Uo m (14-m) _ _ _
theorem wi {m:Nat} (hm:m<=14) {x:Nat} (h:x<16384):x/2^m<2^(14-m):=by
 rw[Nat.div_lt_iff_lt_mul (Nat.pow_pos cG),<-Nat.pow_add,show 14-m+m=14 by omega];exact h
theorem Gq {m:Nat} (hm:m<=14) {p q:bA} (hp:dK p) (aA:dK q):e3 p/8^m=e3 q/8^m↔p.1.toNat/2^m=q.1.toNat/2^m/\p.2.1.toNat/2^m=q.2.1.toNat/2^m/\p.2.2.toNat/2^m=q.2.2.toNat/2^m:=by
 unfold dK at hp aA;rw[LX hm,LX hm];constructor
 ·intro h
  exact Gl (14-m) (wi hm af) (wi hm af) (wi hm af) (wi hm af) (wi hm af) (wi hm af) h
 ·rintro ⟨h1,ad,al⟩
  rw[h1,ad,al]
theorem Bp {m:Nat} (hm:m<=14) (p:bA):e3 p%8^m=0↔p.1.toNat%2^m=0/\p.2.1.toNat%2^m=0/\p.2.2.toNat%2^m=0:=by
 rw[Us hm];exact Up
theorem Gr {a n s:Nat} (hs:0<s) (ha:a%s=0):(a<=n/\n<a+s)↔n/s=a/s:=by
 obtain⟨k,rfl⟩:=Nat.dvd_of_mod_eq_zero ha;rw[Nat.mul_div_cancel_left k hs,Nat.div_eq_iff hs];rw[Nat.mul_comm s k];omega
theorem LY {t:bw} (h0:b3 t<=14) (aE:dK t.2) (ha:e3 t.2%8^b3 t=0) {p:bA}:cO p (bG t)↔dK p/\e3 t.2<=e3 p/\e3 p<e3 t.2+8^b3 t:=by
 have hs:0<2^b3 t:=Nat.pow_pos cG;obtain⟨db,a2,a3⟩:=(Bp h0 t.2).1 ha;have key:∀{x y:Int},0<=x->0<=y->y.toNat%2^b3 t=0->((y<=x/\x<y+cp t)↔x.toNat/2^b3 t=y.toNat/2^b3 t):=λ{x y} ag aT hm=>by
  rw[<-Gr hs hm];unfold cp;omega
 have top:∀{y:Int},0<=y->y<16384->y.toNat%2^b3 t=0->y+cp t<=16384:=λ{y} h1 ad hm=>by
  have:16384%2^b3 t=0:=Nat.mod_eq_zero_of_dvd (Nat.pow_dvd_pow 2 h0:2^b3 t∣2^14);obtain⟨k,hk⟩:=Nat.dvd_of_mod_eq_zero hm;obtain⟨j,hj⟩:=Nat.dvd_of_mod_eq_zero this;have al:2^b3 t*k<2^b3 t*j:=by omega
  have bb:=Nat.lt_of_mul_lt_mul_left al;have b5:2^b3 t*(k+1)<=2^b3 t*j:=Nat.mul_le_mul_left _ bb;rw[Nat.mul_add,Nat.mul_one] at b5;unfold cp;omega
 have bc:=aE;unfold dK at bc;have t1:=top bc.1 bc.2.1 db;have t2:=top bc.2.2.1 bc.2.2.2.1 a2;have t3:=top bc.2.2.2.2.1 bc.2.2.2.2.2 a3;have q:cO p (bG t)->dK p:=λh=>by
  unfold cO bG at h;unfold dK;dsimp only at h;omega
 constructor
 ·intro h
  have hp:=q h;refine⟨hp,(Gr (Nat.pow_pos cG) ha).2 ((Gq h0 hp aE).2 ?_)⟩;unfold cO bG at h;unfold dK at hp;dsimp only at h;exact⟨(key hp.1 bc.1 db).1 ⟨h.1,h.2.1⟩,(key hp.2.2.1 bc.2.2.1 a2).1 ⟨h.2.2.1,h.2.2.2.1⟩,(key hp.2.2.2.2.1 bc.2.2.2.2.1 a3).1 ⟨h.2.2.2.2.1,h.2.2.2.2.2⟩⟩
 ·rintro ⟨hp,h⟩
  obtain⟨eH,fK,km⟩:=(Gq h0 hp aE).1 ((Gr (Nat.pow_pos cG) ha).1 h);have oi:=hp;unfold dK at oi;have c1:=(key oi.1 bc.1 db).2 eH;have c2:=(key oi.2.2.1 bc.2.2.1 a2).2 fK;have eN:=(key oi.2.2.2.2.1 bc.2.2.2.2.1 a3).2 km;exact⟨c1.1,c1.2,c2.1,c2.2,eN.1,eN.2⟩
theorem tZ {d:Nat} (aH:d<=14) {l:List bw} {c k:Nat} (h:gh d l c) (hk:k<l.length) {p:bA}:cO p (bG (l.getD k default))↔dK p/\h3 l k<=e3 p/\e3 p<h3 l k+8^b3 (l.getD k default):=by
 obtain⟨h1,ad,_,bb,b5⟩:=wg h hk;exact LY (by unfold b3;omega) ad bb
theorem Bq {d:Nat} (aH:d<=14) {l:List bw} {c i k:Nat} (h:gh d l c) (J:i<l.length) (hk:k<l.length) {p:bA} (h1:cO p (bG (l.getD i default))) (ad:cO p (bG (l.getD k default))):i=k:=by
 obtain⟨_,db,a2⟩:=(tZ aH h J).1 h1;obtain⟨_,eH,fK⟩:=(tZ aH h hk).1 ad;rcases Nat.lt_trichotomy i k with al|al|al
 ·have:=wh h al hk
  omega
 ·exact al
 ·have:=wh h al J
  omega
theorem LZ {d:Nat} (aH:d<=14) {p:bA} (hp:dK p):e3 p<8^d↔p.1<((2^d:Nat):Int)/\p.2.1<((2^d:Nat):Int)/\p.2.2<((2^d:Nat):Int):=by
 have kk:0<8^d:=Nat.pow_pos cG;have ad:0<2^d:=Nat.pow_pos cG;have h0:dK (0,0,0):=by decide
 have c3:e3 (0,0,0)=0:=yC 14;have key:=Gq aH hp h0;rw[c3,Nat.zero_div] at key;have e1:e3 p<8^d↔e3 p/8^d=0:=by rw[Nat.div_eq_zero_iff];omega
 rw[e1,key];have k:∀{x:Int},0<=x->(x.toNat/2^d=(0:Int).toNat/2^d↔x<((2^d:Nat):Int)):=λ{x} ag=>by
  rw[show (0:Int).toNat=0 from rfl,Nat.zero_div,Nat.div_eq_zero_iff];omega
 unfold dK at hp;rw[k hp.1,k hp.2.2.1,k hp.2.2.2.2.1]
end AE
end Go.Proofs.YtmfckpdcljjdjaaDoor
namespace Go.Proofs.YtmfckpdcljjdjaaDoor
open Go Go.Proofs Go.RowKit
section
noncomputable section
namespace AE
theorem Gs (a s:Nat):((a:Nat):Int)/2^s=((a/2^s:Nat):Int):=by rw[Int.natCast_ediv,Int.natCast_pow];rfl
theorem Gt (a:Nat):((a:Nat):Int)%2^1=((a%2:Nat):Int):=by rw[Int.natCast_emod];rfl
theorem L0 (a s:Nat):((a:Nat):Int)*2^s=((a*2^s:Nat):Int):=by rw[Int.natCast_mul,Int.natCast_pow];rfl
theorem p9 (i:Nat):2^(3*i)=8^i:=by rw[Nat.pow_mul]
def co (p:bA):Nat->Int
 |0=>p.1
 |1=>p.2.1
 |_=>p.2.2
def dd (p:bA) (k:Nat):Nat:=(co p k).toNat
theorem t' (p:bA) {k:Nat} (h:k<3):(b_ p)[k]? =some (n6 (co p k)):=by
 match k,h with
 |0,_=>rfl
 |1,_=>rfl
 |2,_=>rfl
theorem Br {p:bA}:dK p↔∀k,k<3->0<=co p k/\co p k<16384:=by
 constructor
 ·intro h k hk
  unfold dK at h
  match k,hk with
  |0,_=>exact⟨h.1,h.2.1⟩
  |1,_=>exact⟨h.2.2.1,h.2.2.2.1⟩
  |2,_=>exact⟨h.2.2.2.2.1,h.2.2.2.2.2⟩
 ·intro h
  have h0:=h 0 af;have h1:=h 1 af;have ad:=h 2 af;exact⟨h0.1,h0.2,h1.1,h1.2,ad.1,ad.2⟩
namespace Gu
def t:aN:=
.ret (.agg ⟨[0,1,2]⟩)
theorem bq:cL Tryd.prog 84 {} [.agg ⟨[0,1,2]⟩] 3=some t:=cT a6
theorem any {W:aj} (p:bA):c_ bf 84 [P.val p] W (P.val p):=by
 refine dc (ro:=[]) mixed bq [n6 p.1,n6 p.2.1,n6 p.2.2] (.nil _) ?_;unfold t;exact bg rfl
end Gu
namespace L1
def t:aN:=
.c 84 [.agg ⟨[0,1,2]⟩] (.agg ⟨[3,4,5]⟩) 3<|
.loop [n6 0,.bool false] 2<|
.o (.bin .lss 3 6 (n6 3)) 8 1 []<|
.a1 8 (
 .o (.ei 56 (.agg ⟨[3,4,5]⟩) 6) 9 1 [1,3,3,1]<|
 .o (.bin .lss 3 9 (n6 0)) 10 1 []<|
 .a1 10 (
  .cu<|
  .ret (.bool false)) (
  .o (.bin .geq 3 9 (n6 16384)) 11 1 []<|
  .a1 11 (
   .cu<|
   .ret (.bool false)) (
   .o (.bin .add 3 6 (n6 1)) 12 1 []<|
   .back [12,7]))) (
 .cu<|
 .ret (.bool true))
theorem bq:cL Tryd.prog 83 {marks:=[56]} [.agg ⟨[0,1,2]⟩] 3=some t:=cT a6
theorem any {W:aj} (p:bA):c_ bf 83 [P.val p] W (.bool (decide (dK p))):=by
 refine dc (ro:=[]) mixed bq [n6 p.1,n6 p.2.1,n6 p.2.2] (.nil _) ?_;unfold t;refine cI (b_ p) (λw _=>Gu.any p) rfl ?_;refine gJ Nat (λi=>[n6 (i:Nat),.bool false]) (λ_=>[]) (λi=>i<=3/\∀j,j<i->0<=co p j/\co p j<16384) (λi=>3-i) 0 ae ae ⟨Nat.zero_le _,λj hj=>absurd hj (Nat.not_lt_zero j)⟩ (λi J=> ?_);obtain⟨J,bc⟩:=J;refine aZ ?_;refine bD rfl (λaM=> ?_) λaM=>dY (bg (congrArg Value.bool (jh (Br.2 λj h=>bc j af)).symm))
 have aM:i<3:=by omega
 refine Ly (cs:=b_ p) (j:=i) ae ae (t' p aM) ?_;refine aZ ?_;refine bD rfl (λh1=>dY (bg (fA λh=>by have:=Br.1 h i aM;omega))) λh1=> ?_
 refine aZ ?_;refine bD rfl (λad=>dY (bg (fA λh=>by have:=Br.1 h i aM;omega))) λad=> ?_
 refine aZ ?_;refine dN (i+1) ae ae ⟨aM,λj hj=> ?_⟩ af;rcases Nat.lt_succ_iff_lt_or_eq.1 hj with al|al
 ·exact bc j al
 ·rw[al];omega
end L1
namespace L2
def t:aN:=
.o (.bin .geq 3 0 (n6 0)) 3 1 []<|
.a1 3 (
 .o (.bin .geq 3 1 (n6 0)) 4 1 []<|
 .a1 4 (
  .o (.bin .geq 3 2 (n6 0)) 5 1 []<|
  .a1 5 (
   .o (.bin .lss 3 0 (n6 16384)) 6 1 []<|
   .a1 6 (
    .o (.bin .lss 3 1 (n6 16384)) 7 1 []<|
    .a1 7 (
     .o (.bin .lss 3 2 (n6 16384)) 8 1 []<|
     .ret 8) (
     .ret (.bool false))) (
    .ret (.bool false))) (
   .ret (.bool false))) (
  .ret (.bool false))) (
 .ret (.bool false))
theorem bq:cL Tryd.prog 105 {} [.agg ⟨[0,1,2]⟩] 3=some t:=cT a6
theorem any {W:aj} (p:bA):c_ bf 105 [P.val p] W (.bool (decide (dK p))):=by
 refine dc (ro:=[]) mixed bq [n6 p.1,n6 p.2.1,n6 p.2.2] (.nil _) ?_;unfold t;refine aZ ?_;refine bD rfl (λ_=> ?_) λ_=> ?_
 ·refine aZ ?_
  refine bD rfl (λ_=> ?_) λ_=> ?_
  ·refine aZ ?_
   refine bD rfl (λ_=> ?_) λ_=> ?_
   ·refine aZ ?_
    refine bD rfl (λ_=> ?_) λ_=> ?_
    ·refine aZ ?_
     refine bD rfl (λ_=> ?_) λ_=> ?_
     ·refine aZ ?_
      exact bg (Bf (by unfold dK;omega))
     ·exact bg (fA (by unfold dK;omega))
    ·exact bg (fA (by unfold dK;omega))
   ·exact bg (fA (by unfold dK;omega))
  ·exact bg (fA (by unfold dK;omega))
 ·exact bg (fA (by unfold dK;omega))
end L2
namespace Bs
def t:aN:=
.o (.bin .shr 3 0 1) 2 1 []<|
.o (.bin .and 3 2 (n6 1)) 3 1 []<|
.ret 3
theorem bq:cL Tryd.prog 86 {} [0,1] 2=some t:=cT a6
theorem any {W:aj} {a s:Nat} (ha:a<=9223372036854775807) (hs:s<=64):c_ bf 86 [n6 (a:Nat),n6 (s:Nat)] W (n6 ((a/2^s%2:Nat):Int)):=by
 have:=Nat.div_le_self a (2^s);refine dc (ro:=[]) mixed bq [n6 (a:Nat),n6 (s:Nat)] (.nil _) ?_;unfold t;refine wa (a:=(a:Nat)) (s:=s) (Gs a s) ae ae ?_;refine Be 1 (a:=(a/2^s:Nat)) (Gt _) ae ae ae ?_ (h0:=Int.natCast_nonneg _);exact bg rfl
end Bs
def q_ (p:bA) (i:Nat):Nat->Nat
 |0=>eg i (dd p 0) (dd p 1) (dd p 2)
 |1=>eg i (dd p 0) (dd p 1) (dd p 2)+8^i*(dd p 0/2^i%2)
 |2=>eg i (dd p 0) (dd p 1) (dd p 2)+8^i*(dd p 0/2^i%2+2*(dd p 1/2^i%2))
 |_=>eg i (dd p 0) (dd p 1) (dd p 2)+8^i*(dd p 0/2^i%2+2*(dd p 1/2^i%2)+4*(dd p 2/2^i%2))
theorem Ut (p:bA) (i:Nat):q_ p i 3=q_ p (i+1) 0:=by
 show _=eg (i+1) _ _ _;rw[LU];rfl
theorem Uu (p:bA) (i k:Nat) (hk:k<3):q_ p i k<2^(3*i+k)/\q_ p i (k+1)=q_ p i k+dd p k/2^i%2*2^(3*i+k):=by
 have h:=yB i (dd p 0) (dd p 1) (dd p 2);rw[Nat.pow_add,p9];obtain⟨m,hm⟩:∃m,m=eg i (dd p 0) (dd p 1) (dd p 2):=⟨_,rfl⟩;obtain⟨e,he⟩:∃e,e=8^i:=⟨_,rfl⟩;have d':=Nat.mod_two_eq_zero_or_one (dd p 0/2^i);have eH:=Nat.mod_two_eq_zero_or_one (dd p 1/2^i);have fK:=Nat.mod_two_eq_zero_or_one (dd p 2/2^i)
 match k,hk with
 |0,_=>
  show eg i _ _ _<_/\eg i _ _ _+8^i*_=eg i _ _ _+_;rw[<-hm,<-he] at h ⊢;rcases d' with d'|d'<;>rw[d']<;>omega
 |1,_=>
  show eg i _ _ _+8^i*_<_/\eg i _ _ _+8^i*_=eg i _ _ _+8^i*_+_;rw[<-hm,<-he] at h ⊢;rcases d' with d'|d'<;>rcases eH with eH|eH<;>rw[d',eH]<;>omega
 |2,_=>
  show eg i _ _ _+8^i*_<_/\eg i _ _ _+8^i*_=eg i _ _ _+8^i*_+_;rw[<-hm,<-he] at h ⊢;rcases d' with d'|d'<;>rcases eH with eH|eH<;>rcases fK with fK|fK<;>rw[d',eH,fK]<;>omega
theorem Bt {p:bA} (h:dK p) {k:Nat} (hk:k<3):co p k=((dd p k:Nat):Int)/\dd p k<16384:=by
 have:=Br.1 h k hk;unfold dd;omega
theorem L3 {s:Nat} (h:s<=42):2^s<=4398046511104:=Nat.pow_le_pow_right (n:=2) cG h
namespace yD
def t:aN:=
.c 83 [.agg ⟨[0,1,2]⟩] 3 1<|
.o (.un .not 3) 4 1 []<|
.a1 4 (
 .ret (n6 (-1))) (
 .loop [n6 0,n6 0] 2<|
 .o (.bin .lss 3 6 (n6 14)) 7 1 []<|
 .a1 7 (
  .c 84 [.agg ⟨[0,1,2]⟩] (.agg ⟨[8,9,10]⟩) 3<|
  .loop [5,n6 0] 2<|
  .o (.bin .lss 3 12 (n6 3)) 13 1 []<|
  .a1 13 (
   .o (.ei 56 (.agg ⟨[8,9,10]⟩) 12) 14 1 [1,3,3,1]<|
   .o (.bin .shr 3 14 6) 15 1 []<|
   .o (.bin .and 3 15 (n6 1)) 16 1 []<|
   .o (.bin .mul 3 (n6 3) 6) 17 1 []<|
   .o (.bin .add 3 17 12) 18 1 []<|
   .o (.bin .shl 3 16 18) 19 1 []<|
   .o (.bin .or 3 11 19) 20 1 []<|
   .o (.bin .add 3 12 (n6 1)) 21 1 []<|
   .back [20,21]) (
   .cu<|
   .o (.bin .add 3 6 (n6 1)) 14 1 []<|
   .back [11,14])) (
  .cu<|
  .ret 5))
theorem bq:cL Tryd.prog 53 {marks:=[56]} [.agg ⟨[0,1,2]⟩] 3=some t:=cT a6
theorem any {W:aj} (p:bA):c_ bf 53 [P.val p] W (n6 (cD p)):=by
 refine dc (ro:=[]) mixed bq [n6 p.1,n6 p.2.1,n6 p.2.2] (.nil _) ?_;unfold t;refine dm (v:= .bool (decide (dK p))) (λw _=>L1.any p) ?_;refine n9 rfl ?_;refine mF rfl (λh=>bg ?_) λh=> ?_
 ·show n6 (-1)=_
  unfold cD;rw[aW h]
 refine gJ Nat (λi=>[n6 ((q_ p i 0:Nat):Int),n6 (i:Nat)]) (λ_=>[]) (λi=>i<=14) (λi=>14-i) 0 ae ae (Nat.zero_le _) (λi J=> ?_);refine aZ ?_;refine bD rfl (λaM=> ?_) λaM=>dY (bg ?_)
 ·have aM:i<14:=by omega
  refine cI (b_ p) (λw _=>Gu.any p) rfl ?_;refine gJ Nat (λk=>[n6 ((q_ p i k:Nat):Int),n6 (k:Nat)]) (λ_=>[]) (λk=>k<=3) (λk=>3-k) 0 ae ae (Nat.zero_le _) (λk hk=> ?_);refine aZ ?_;refine bD rfl (λev=> ?_) λev=>dY ?_
  ·have ev:k<3:=by omega
   obtain⟨e1,e2⟩:=Uu p i k ev;obtain⟨c1,c2⟩:=Bt h ev;have d1:=Nat.div_le_self (dd p k) (2^i);have fl:=L3 (s:=3*i+k) af;have eH:dd p k/2^i%2<2:=Nat.mod_lt _ cG;have fK:dd p k/2^i%2*2^(3*i+k)<=1*2^(3*i+k):=Nat.mul_le_mul_right _ af;refine Ly (cs:=b_ p) (j:=k) ae ae (t' p ev) ?_;refine wa (a:=co p k) (v:=((dd p k/2^i:Nat):Int)) (s:=i) (by rw[c1];exact Gs _ _) ae ae ?_;refine Be 1 (a:=(dd p k/2^i:Nat)) (Gt _) ae ae ae ?_ (h0:=Int.natCast_nonneg _);refine kD ae ae ?_;refine kC (a:=3*((i:Nat):Int)) (b:=(k:Nat)) ae ae ?_;refine o4 (a:=((dd p k/2^i%2:Nat):Int)) (s:=3*i+k) (L0 _ _) ae ae ?_;refine LB (3*i+k) (a:=((q_ p i k:Nat):Int)) (b:=((dd p k/2^i%2*2^(3*i+k):Nat):Int)) (v:=((q_ p i (k+1):Nat):Int)) (by rw[e2];rfl) ⟨af,by rw[show (2:Int)^(3*i+k)=((2^(3*i+k):Nat):Int) by rw[Int.natCast_pow];rfl];omega⟩ af (by rw[show (2:Int)^(3*i+k)=((2^(3*i+k):Nat):Int) by rw[Int.natCast_pow];rfl,<-Int.natCast_emod,Nat.mul_mod_left];rfl) ae ae ?_;refine aZ ?_;exact dN (k+1) ae ae ev af
  ·obtain rfl:k=3:=by omega
   refine aZ ?_;refine dN (i+1) ?_ rfl aM af;rw[<-Ut];rfl
 ·obtain rfl:i=14:=by omega
  show n6 _=_;unfold cD;rw[aR h];rfl
end yD
namespace Gv
def t:aN:=
.c 105 [.agg ⟨[0,1,2]⟩] 3 1<|
.o (.un .not 3) 4 1 []<|
.a1 4 (
 .ret (n6 (-1))) (
 .loop [n6 13,n6 0] 2<|
 .o (.bin .geq 3 5 (n6 0)) 7 1 []<|
 .a1 7 (
  .o (.bin .mul 3 (n6 8) 6) 8 1 []<|
  .c 86 [0,5] 9 1<|
  .o (.bin .add 3 8 9) 10 1 []<|
  .c 86 [1,5] 11 1<|
  .o (.bin .mul 3 (n6 2) 11) 12 1 []<|
  .o (.bin .add 3 10 12) 13 1 []<|
  .c 86 [2,5] 14 1<|
  .o (.bin .mul 3 (n6 4) 14) 15 1 []<|
  .o (.bin .add 3 13 15) 16 1 []<|
  .o (.bin .sub 3 5 (n6 1)) 17 1 []<|
  .back [17,16]) (
  .cu<|
  .ret 6))
theorem bq:cL Tryd.prog 87 {} [.agg ⟨[0,1,2]⟩] 3=some t:=cT a6
theorem any {W:aj} (p:bA):c_ bf 87 [P.val p] W (n6 (cD p)):=by
 refine dc (ro:=[]) mixed bq [n6 p.1,n6 p.2.1,n6 p.2.2] (.nil _) ?_;unfold t;refine dm (v:= .bool (decide (dK p))) (λw _=>L2.any p) ?_;refine n9 rfl ?_;refine mF rfl (λh=>bg ?_) λh=> ?_
 ·show n6 (-1)=_
  unfold cD;rw[aW h]
 obtain⟨jk,L4⟩:=Bt h (k:=0) af;obtain⟨iD,jy⟩:=Bt h (k:=1) af;obtain⟨t_,pS⟩:=Bt h (k:=2) af;refine gJ Nat (λj=>[n6 ((j:Nat)-1:Int),n6 ((eg (14-j) (dd p 0/2^j) (dd p 1/2^j) (dd p 2/2^j):Nat):Int)]) (λ_=>[]) (λj=>j<=14) (λj=>j) 14 ae ae (bM _) (λj hj=> ?_);refine aZ ?_;refine bD rfl (λaM=> ?_) λaM=>dY (bg ?_)
 ·obtain⟨i,rfl⟩:∃i,j=i+1:=⟨j-1,af⟩
  have e_:(((i+1:Nat):Int)-1)=(i:Nat):=by omega
  have em:eg (14-i) (dd p 0/2^i) (dd p 1/2^i) (dd p 2/2^i)=8*eg (14-(i+1)) (dd p 0/2^(i+1)) (dd p 1/2^(i+1)) (dd p 2/2^(i+1))+(dd p 0/2^i%2+2*(dd p 1/2^i%2)+4*(dd p 2/2^i%2)):=by
   rw[show 14-i=(14-(i+1))+1 by omega,Nat.pow_succ,<-Nat.div_div_eq_div_mul,<-Nat.div_div_eq_div_mul,<-Nat.div_div_eq_div_mul];rfl
  have U:=yB (14-i) (dd p 0/2^i) (dd p 1/2^i) (dd p 2/2^i);have lK:8^(14-i)<=4398046511104:=Nat.pow_le_pow_right (n:=8) (i:=14-i) (j:=14) cG af;have hm:=Nat.mod_lt (dd p 0/2^i) (y:=2) cG;have XR:=Nat.mod_lt (dd p 1/2^i) (y:=2) cG;have XS:=Nat.mod_lt (dd p 2/2^i) (y:=2) cG;rw[e_];refine kD ae ae ?_;refine dm (v:=n6 ((dd p 0/2^i%2:Nat):Int)) (λw _=>by
   have:=Bs.any (W:=w) (a:=dd p 0) (s:=i) af af;rw[<-jk] at this
   exact this) ?_
  refine kC ae ae ?_;refine dm (v:=n6 ((dd p 1/2^i%2:Nat):Int)) (λw _=>by
   have:=Bs.any (W:=w) (a:=dd p 1) (s:=i) af af;rw[<-iD] at this
   exact this) ?_
  refine kD ae ae ?_;refine kC ae ae ?_;refine dm (v:=n6 ((dd p 2/2^i%2:Nat):Int)) (λw _=>by
   have:=Bs.any (W:=w) (a:=dd p 2) (s:=i) af af;rw[<-t_] at this
   exact this) ?_
  refine kD ae ae ?_;refine kC ae ae ?_;refine sj ae ae ?_;refine dN i ?_ rfl af af;rw[em];exact congrArg (λz=>[n6 ((i:Nat)-1:Int),n6 z]) af
 ·obtain rfl:j=0:=by omega
  show n6 _=_;unfold cD;rw[aR h];simp only [Nat.pow_zero,Nat.div_one];rfl
end Gv
namespace L5
def t:aN:=
.c 87 [.agg ⟨[0,1,2]⟩] 6 1<|
.c 87 [.agg ⟨[3,4,5]⟩] 7 1<|
.o (.bin .lss 3 6 7) 8 1 []<|
.a1 8 (
 .ret (n6 (-1))) (
 .o (.bin .gtr 3 6 7) 9 1 []<|
 .a1 9 (
  .ret (n6 1)) (
  .ret (n6 0)))
theorem bq:cL Tryd.prog 58 {} [.agg ⟨[0,1,2]⟩,.agg ⟨[3,4,5]⟩] 6=some t:=cT a6
theorem any {W:aj} (p q:bA):c_ bf 58 [P.val p,P.val q] W (n6 (if cD p<cD q then -1 else if cD q<cD p then 1 else 0)):=by
 refine dc (ro:=[]) mixed bq [n6 p.1,n6 p.2.1,n6 p.2.2,n6 q.1,n6 q.2.1,n6 q.2.2] (.nil _) ?_;unfold t;refine dm (v:=n6 (cD p)) (λw _=>Gv.any p) ?_;refine dm (v:=n6 (cD q)) (λw _=>Gv.any q) ?_;refine aZ ?_;refine bD rfl (λh=>bg ?_) λh=> ?_
 ·rw[aR h];rfl
 refine aZ ?_;refine bD rfl (λad=>bg ?_) λad=>bg ?_
 ·rw[aW h,aR ad];rfl
 ·rw[aW h,aW ad];rfl
end L5
def o7 (x:Nat×Nat×Nat):bA:=(x.1,x.2.1,x.2.2)
def ra (c:Nat):bA:=o7 (gg 14 c)
theorem L6:∀(n c:Nat),gg (n+1) c=((gg n c).1+2^n*(c/8^n%2),(gg n c).2.1+2^n*(c/8^n/2%2),(gg n c).2.2+2^n*(c/8^n/4%2))
 |0,c=>by simp [gg]
 |n+1,c=>by
  have h:=L6 n (c/8);rw[Nat.div_div_eq_div_mul] at h;rw[show gg (n+1+1) c=(2*(gg (n+1) (c/8)).1+c%2,2*(gg (n+1) (c/8)).2.1+c/2%2,2*(gg (n+1) (c/8)).2.2+c/4%2) from rfl,h,show gg (n+1) c=(2*(gg n (c/8)).1+c%2,2*(gg n (c/8)).2.1+c/2%2,2*(gg n (c/8)).2.2+c/4%2) from rfl,Nat.pow_succ 8,Nat.pow_succ 2,Nat.mul_comm (8^n) 8,Nat.mul_comm (2^n) 2];simp only [Nat.mul_add,Nat.mul_assoc];refine Prod.ext ?_ (Prod.ext ?_ ?_)<;>dsimp only<;>omega
theorem Uv (c i k:Nat):c/2^(3*i+k)=c/8^i/2^k:=by rw[Nat.pow_add,p9,Nat.div_div_eq_div_mul]
namespace L7
def t:aN:=
.oT 56 (.agg ⟨[0,1,2]⟩)<|
.o (.ca 56 3 (n6 0)) 4 1 [1,3,3,1]<|
.o (.ld 3 4) 5 1 [1]<|
.o (.ca 56 3 (n6 1)) 6 1 [1,3,3,1]<|
.o (.ld 3 6) 7 1 [1]<|
.o (.ca 56 3 (n6 2)) 8 1 [1,3,3,1]<|
.o (.ld 3 8) 9 1 [1]<|
.ret (.agg ⟨[5,7,9]⟩)
theorem bq:cL Tryd.prog 104 {marks:=[56]} [.agg ⟨[0,1,2]⟩] 3=some t:=cT a6
theorem any {W:aj} (p:bA):c_ bf 104 [P.val p] W (P.val p):=by
 refine dc (ro:=[]) mixed bq [n6 p.1,n6 p.2.1,n6 p.2.2] (.nil _) ?_;unfold t;refine T4 (L':=λg=>[.box g _ (b_ p)]) ae ae (λg=> .z) (λg=> ?_);refine jc (g:=g) (o:=0) (j:=0) ae ae ?_;refine js (g:=g) (u:=n6 p.1) rfl has rfl ?_;refine jc (g:=g) (o:=0) (j:=1) ae ae ?_;refine js (g:=g) (u:=n6 p.2.1) rfl has rfl ?_;refine jc (g:=g) (o:=0) (j:=2) ae ae ?_;refine js (g:=g) (u:=n6 p.2.2) rfl has rfl ?_;exact bg rfl
end L7
def Gw (c i:Nat) (k j:Nat):Nat:=if j<k then dd (o7 (gg (i+1) c)) j else dd (o7 (gg i c)) j
def sr (c i k:Nat):List I:=[n6 ((Gw c i k 0:Nat):Int),n6 ((Gw c i k 1:Nat):Int),n6 ((Gw c i k 2:Nat):Int)]
theorem Uw (c i k:Nat) (hk:k<3):(sr c i k)[k]? =some (n6 ((dd (o7 (gg i c)) k:Nat):Int)):=by
 match k,hk with
 |0,_=>rfl
 |1,_=>rfl
 |2,_=>rfl
theorem Ux (c i k:Nat) (hk:k<3):sr c i (k+1)=(sr c i k).set k (n6 ((dd (o7 (gg (i+1) c)) k:Nat):Int)):=by
 match k,hk with
 |0,_=>rfl
 |1,_=>rfl
 |2,_=>rfl
theorem Uy (c i k:Nat) (hk:k<3):dd (o7 (gg i c)) k<2^i/\dd (o7 (gg (i+1) c)) k=dd (o7 (gg i c)) k+c/2^(3*i+k)%2*2^i:=by
 have h:=LV i c;rw[Uv,L6]
 match k,hk with
 |0,_=>exact⟨h.1,show (gg i c).1+2^i*(c/8^i%2)=(gg i c).1+c/8^i/2^0%2*2^i by rw[Nat.pow_zero,Nat.div_one,Nat.mul_comm]⟩
 |1,_=>exact⟨h.2.1,show (gg i c).2.1+2^i*(c/8^i/2%2)=(gg i c).2.1+c/8^i/2^1%2*2^i by rw[Nat.pow_one,Nat.mul_comm]⟩
 |2,_=>exact⟨h.2.2,show (gg i c).2.2+2^i*(c/8^i/4%2)=(gg i c).2.2+c/8^i/2^2%2*2^i by rw[Nat.mul_comm]⟩
namespace L8
def t:aN:=
.o (.bin .lss 3 0 (n6 0)) 1 1 []<|
.a1 1 (
 .ret (.tuple ⟨[.agg ⟨[n6 0,n6 0,n6 0]⟩,.bool false]⟩)) (
 .o (.bin .geq 3 0 (n6 4398046511104)) 2 1 []<|
 .a1 2 (
  .ret (.tuple ⟨[.agg ⟨[n6 0,n6 0,n6 0]⟩,.bool false]⟩)) (
  .hT 56<|
  .loop [n6 0] 1<|
  .o (.bin .lss 3 4 (n6 14)) 5 1 []<|
  .a1 5 (
   .loop [n6 0] 1<|
   .o (.bin .lss 3 6 (n6 3)) 7 1 []<|
   .a1 7 (
    .o (.ca 56 3 6) 8 1 [1,3,3,1]<|
    .o (.ld 3 8) 9 1 [1]<|
    .o (.bin .mul 3 (n6 3) 4) 10 1 []<|
    .o (.bin .add 3 10 6) 11 1 []<|
    .o (.bin .shr 3 0 11) 12 1 []<|
    .o (.bin .and 3 12 (n6 1)) 13 1 []<|
    .o (.bin .shl 3 13 4) 14 1 []<|
    .o (.bin .or 3 9 14) 15 1 []<|
    .st 3 8 15<|
    .o (.bin .add 3 6 (n6 1)) 16 1 []<|
    .back [16]) (
    .cu<|
    .o (.bin .add 3 4 (n6 1)) 8 1 []<|
    .back [8])) (
   .cu<|
   .o (.ld 56 3) (.agg ⟨dt 3 6⟩) 3 [3]<|
   .c 104 [.agg ⟨[6,7,8]⟩] (.agg ⟨[9,10,11]⟩) 3<|
   .ret (.tuple ⟨[.agg ⟨[9,10,11]⟩,.bool true]⟩))))
theorem bq:cL Tryd.prog 85 {marks:=[56]} [0] 1=some t:=cT a6
theorem any {W:aj} {c:Nat} (ao:c<4398046511104):c_ bf 85 [n6 (c:Nat)] W (.tuple ⟨[P.val (ra c),.bool true]⟩):=by
 refine dc (ro:=[]) mixed bq [n6 (c:Nat)] (.nil _) ?_;unfold t;refine aZ ?_;refine bD rfl (λh=>absurd h af) λ_=> ?_
 refine aZ ?_;refine bD rfl (λh=>absurd h af) λ_=> ?_
 refine o3 (z:= .agg ⟨[n6 0,n6 0,n6 0]⟩) (L':=λg=>[.box g _ [n6 0,n6 0,n6 0]]) [n6 0,n6 0,n6 0] a6 rfl (λg=> .z) (λg=> ?_);refine gJ Nat (λi=>[n6 (i:Nat)]) (λi=>[.box g _ (sr c i 0)]) (λi=>i<=14) (λi=>14-i) 0 ae ae (Nat.zero_le _) (λi J=> ?_);refine aZ ?_;refine bD rfl (λaM=> ?_) λaM=>dY ?_
 ·have aM:i<14:=by omega
  refine gJ Nat (λk=>[n6 (k:Nat)]) (λk=>[.box g _ (sr c i k)]) (λk=>k<=3) (λk=>3-k) 0 ae ae (Nat.zero_le _) (λk hk=> ?_);refine aZ ?_;refine bD rfl (λev=> ?_) λev=>dY ?_
  ·have ev:k<3:=by omega
   obtain⟨e1,e2⟩:=Uy c i k ev;have d1:=Nat.div_le_self c (2^(3*i+k));have fl:=L3 (s:=i) af;have eH:c/2^(3*i+k)%2<2:=Nat.mod_lt _ cG;have fK:c/2^(3*i+k)%2*2^i<=1*2^i:=Nat.mul_le_mul_right _ af;refine jc (g:=g) (o:=0) (j:=k) ae ae ?_;refine js (g:=g) (o:=0+k*1) (u:=n6 ((dd (o7 (gg i c)) k:Nat):Int)) rfl has (by rw[Nat.mul_one,Nat.zero_add];exact Uw c i k ev) ?_;refine kD ae ae ?_;refine kC (a:=3*((i:Nat):Int)) (b:=(k:Nat)) ae ae ?_;refine wa (a:=(c:Nat)) (v:=((c/2^(3*i+k):Nat):Int)) (s:=3*i+k) (Gs _ _) ae ae ?_;refine Be 1 (a:=(c/2^(3*i+k):Nat)) (Gt _) ae ae ae ?_ (h0:=Int.natCast_nonneg _);refine o4 (a:=((c/2^(3*i+k)%2:Nat):Int)) (s:=i) (L0 _ _) ae ae ?_;refine LB i (a:=((dd (o7 (gg i c)) k:Nat):Int)) (b:=((c/2^(3*i+k)%2*2^i:Nat):Int)) (v:=((dd (o7 (gg (i+1) c)) k:Nat):Int)) (by rw[e2];rfl) ⟨af,by rw[show (2:Int)^i=((2^i:Nat):Int) by rw[Int.natCast_pow];rfl];omega⟩ af (by rw[show (2:Int)^i=((2^i:Nat):Int) by rw[Int.natCast_pow];rfl,<-Int.natCast_emod,Nat.mul_mod_left];rfl) ae ae ?_;refine yt (d:=0) (g:=g) (j:=0+k*1) (cs':=sr c i (k+1)) (L':=[.box g _ (sr c i (k+1))]) ae ae .z (by rw[Nat.mul_one,Nat.zero_add];exact Ux c i k ev) ?_ (by rw[Nat.mul_one,Nat.zero_add];exact ev);refine aZ ?_;exact dN (k+1) ae ae ev af
  ·obtain rfl:k=3:=by omega
   refine aZ ?_;exact dN (i+1) ae ae aM af
 ·obtain rfl:i=14:=by omega
  refine F_ (c:=sr c 14 0) rfl has ae ae ew ?_;refine cI (b_ (ra c)) (λw _=>L7.any (ra c)) rfl ?_;exact bg rfl
end L8
end AE
end
end
end Go.Proofs.YtmfckpdcljjdjaaDoor
